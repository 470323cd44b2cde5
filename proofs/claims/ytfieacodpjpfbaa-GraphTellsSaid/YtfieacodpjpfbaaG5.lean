/-
  What the closure of some paths is, in plain words: what is reached.
-/
import Derived.Test.YtfieacodpjpfbaaG4
import Derived.Test.YtfieacodpjpfbaaL1
set_option linter.unusedVariables false
set_option linter.unusedSimpArgs false
namespace Go.Am
open Go Go.Proofs

/-- Reached by references, all of which are there. -/
inductive Rch (there : Bs → Option (List Bs)) : Bs → Bs → Prop
  | refl {p} (h : (there p).isSome = true) : Rch there p p
  | step {p q r rs} (h : there p = some rs) (hq : q ∈ rs) (t : Rch there q r) : Rch there p r

theorem Rch.left {there : Bs → Option (List Bs)} {p q : Bs} (h : Rch there p q) : (there p).isSome = true := by
  cases h with
  | refl h => exact h
  | step h _ _ => rw [h]; rfl

theorem Rch.right {there : Bs → Option (List Bs)} {p q : Bs} (h : Rch there p q) : (there q).isSome = true := by
  induction h with
  | refl h => exact h
  | step _ _ _ ih => exact ih

theorem Rch.trans {there : Bs → Option (List Bs)} {p q r : Bs} (h : Rch there p q) (k : Rch there q r) : Rch there p r := by
  induction h with
  | refl _ => exact k
  | step h hq _ ih => exact .step h hq (ih k)

theorem dfs_rch {there : Bs → Option (List Bs)} : ∀ (f : Nat) (vis : List Bs) (p x : Bs), x ∈ dfs there f vis p → x ∈ vis ∨ Rch there p x
  | 0, vis, p, x, h => .inl h
  | f + 1, vis, p, x, h => by
    simp only [dfs] at h
    cases ht : there p with
    | none => rw [ht] at h; exact .inl h
    | some rs =>
      rw [ht] at h
      simp only at h
      by_cases hp : p ∈ vis
      · rw [if_pos hp] at h; exact .inl h
      · rw [if_neg hp] at h
        have key : ∀ (l w : List Bs), x ∈ l.foldl (dfs there f) w → x ∈ w ∨ ∃ q ∈ l, Rch there q x := by
          intro l
          induction l with
          | nil => intro w hw; exact .inl hw
          | cons y l ih =>
            intro w hw
            rcases ih _ hw with h1 | ⟨q, h1, h2⟩
            · rcases dfs_rch f w y x h1 with h3 | h3
              · exact .inl h3
              · exact .inr ⟨y, List.mem_cons_self, h3⟩
            · exact .inr ⟨q, List.mem_cons_of_mem _ h1, h2⟩
        rcases key rs _ h with h1 | ⟨q, h1, h2⟩
        · rw [List.mem_append, List.mem_singleton] at h1
          rcases h1 with h1 | rfl
          · exact .inl h1
          · exact .inr (.refl (by rw [ht]; rfl))
        · exact .inr (.step ht h1 h2)

theorem foldl_dfs_rch {there : Bs → Option (List Bs)} {f : Nat} {x : Bs} : ∀ (l w : List Bs), x ∈ l.foldl (dfs there f) w → x ∈ w ∨ ∃ q ∈ l, Rch there q x
  | [], w, h => .inl h
  | y :: l, w, h => by
    rcases foldl_dfs_rch l _ h with h1 | ⟨q, h1, h2⟩
    · rcases dfs_rch f w y x h1 with h3 | h3
      · exact .inl h3
      · exact .inr ⟨y, List.mem_cons_self, h3⟩
    · exact .inr ⟨q, List.mem_cons_of_mem _ h1, h2⟩

/-- All that x refers to, and is there, is in w. -/
def Shut (there : Bs → Option (List Bs)) (w : List Bs) (x : Bs) : Prop := ∀ rs, there x = some rs → ∀ y ∈ rs, (there y).isSome = true → y ∈ w

theorem Shut.mono {there : Bs → Option (List Bs)} {v w : List Bs} {x : Bs} (h : Shut there v x) (k : ∀ q ∈ v, q ∈ w) : Shut there w x := fun rs hr y hy hs => k _ (h rs hr y hy hs)

theorem fold_shut {there : Bs → Option (List Bs)} {ks : List Bs} {f : Nat}
    (ih : ∀ vis p, unv ks vis ≤ f → ((there p).isSome = true → p ∈ dfs there f vis p) ∧ ∀ x ∈ dfs there f vis p, x ∈ vis ∨ Shut there (dfs there f vis p) x) :
    ∀ (l w : List Bs), unv ks w ≤ f → (∀ y ∈ l, (there y).isSome = true → y ∈ l.foldl (dfs there f) w) ∧ ∀ x ∈ l.foldl (dfs there f) w, x ∈ w ∨ Shut there (l.foldl (dfs there f) w) x
  | [], w, hu => ⟨fun y hy => (by cases hy), fun x hx => .inl hx⟩
  | y :: l, w, hu => by
    obtain ⟨a1, a2⟩ := ih w y hu
    have hu' : unv ks (dfs there f w y) ≤ f := Nat.le_trans (unv_mono fun q hq => dfs_sub f w y q hq) hu
    obtain ⟨b1, b2⟩ := fold_shut ih l (dfs there f w y) hu'
    refine ⟨fun z hz hs => ?_, fun x hx => ?_⟩
    · rcases List.mem_cons.1 hz with rfl | hz
      · exact foldl_dfs_sub l _ (a1 hs)
      · exact b1 z hz hs
    · rcases b2 x hx with h1 | h1
      · rcases a2 x h1 with h2 | h2
        · exact .inl h2
        · exact .inr (h2.mono fun q hq => foldl_dfs_sub l _ hq)
      · exact .inr h1

theorem dfs_shut {there : Bs → Option (List Bs)} {ks : List Bs} (hk : ∀ q, (there q).isSome = true → q ∈ ks) : ∀ (f : Nat) (vis : List Bs) (p : Bs), unv ks vis ≤ f →
    ((there p).isSome = true → p ∈ dfs there f vis p) ∧ ∀ x ∈ dfs there f vis p, x ∈ vis ∨ Shut there (dfs there f vis p) x := by
  intro f
  induction f with
  | zero =>
    intro vis p hu
    refine ⟨fun hs => ?_, fun x hx => .inl hx⟩
    by_cases hv : p ∈ vis
    · exact hv
    · have := unv_push (hk p hs) hv; omega
  | succ f ih =>
    intro vis p hu
    simp only [dfs]
    cases ht : there p with
    | none => exact ⟨fun hs => by simp at hs, fun x hx => .inl hx⟩
    | some rs =>
      simp only
      by_cases hv : p ∈ vis
      · rw [if_pos hv]; exact ⟨fun _ => hv, fun x hx => .inl hx⟩
      · rw [if_neg hv]
        have hu1 := unv_push (hk p (by rw [ht]; rfl)) hv
        obtain ⟨b1, b2⟩ := fold_shut ih rs (vis ++ [p]) (by omega)
        refine ⟨fun _ => foldl_dfs_sub rs _ (List.mem_append_right _ (List.mem_singleton.2 rfl)), fun x hx => ?_⟩
        rcases b2 x hx with h1 | h1
        · rw [List.mem_append, List.mem_singleton] at h1
          rcases h1 with h1 | rfl
          · exact .inl h1
          · refine .inr fun rs' hr y hy hs => ?_
            rw [ht] at hr; cases hr
            exact b1 y hy hs
        · exact .inr h1

/-- What is visited is what is reached. -/
theorem mem_visG {G : Gr} {frm : List Bs} {x : Bs} : x ∈ visG G frm ↔ ∃ p ∈ frm, Rch (thereG G) p x := by
  have hk : ∀ q, (thereG G q).isSome = true → q ∈ keysG G [] := fun q hq => (keysG_mem G [] q).2 (.inr ((thereG_mem G q).1 hq))
  have hu : unv (keysG G []) [] ≤ (keysG G []).length := List.length_filter_le _ _
  obtain ⟨b1, b2⟩ := fold_shut (fun vis p h => dfs_shut hk (keysG G []).length vis p h) frm [] hu
  constructor
  · intro h
    rcases foldl_dfs_rch _ _ h with h1 | h1
    · cases h1
    · exact h1
  · rintro ⟨p, hp, hr⟩
    have hall : ∀ {p x : Bs}, Rch (thereG G) p x → p ∈ visG G frm → x ∈ visG G frm := by
      intro p x hr
      induction hr with
      | refl _ => exact id
      | step h hq t ih =>
        intro hp
        rcases b2 _ hp with h1 | h1
        · cases h1
        · exact ih (h1 _ h _ hq t.left)
    exact hall hr (b1 p hp hr.left)

theorem mem_closureG {G : Gr} {frm : List Bs} {x : Bs} : x ∈ closureG G frm ↔ ∃ p ∈ frm, Rch (thereG G) p x := by
  unfold closureG; rw [mem_sortS, mem_visG]

theorem closureG_rising (G : Gr) (frm : List Bs) : Rising (closureG G frm) := sortS_rising (visG_nodup G frm)

theorem keysG_nodup : ∀ (G : Gr) (ks : List Bs), ks.Nodup → (keysG G ks).Nodup
  | [], ks, h => h
  | e :: G, ks, h => by
    simp only [keysG]
    refine keysG_nodup G _ ?_
    by_cases he : e.1 ∈ ks
    · rw [if_pos he]; exact h
    · rw [if_neg he, List.nodup_append]
      exact ⟨h, by simp, fun x hx y hy => by simp at hy; subst hy; exact fun e1 => he (e1 ▸ hx)⟩

theorem mem_deadG {G : Gr} {frm : List Bs} {x : Bs} : x ∈ deadG G frm ↔ x ∈ G.map (·.1) ∧ x ∉ closureG G frm := by
  unfold deadG
  rw [List.mem_filter, mem_sortS, keysG_mem, decide_eq_true_eq, closureG, mem_sortS]
  simp

theorem deadG_rising (G : Gr) (frm : List Bs) : Rising (deadG G frm) := rising_filter (sortS_rising (keysG_nodup G [] List.nodup_nil)) _

theorem thereG_nodup : ∀ {G : Gr} {e : Bs × List Bs}, (G.map (·.1)).Nodup → e ∈ G → thereG G e.1 = some e.2
  | x :: G, e, hn, he => by
    simp only [List.map_cons, List.nodup_cons] at hn
    simp only [thereG]
    rcases List.mem_cons.1 he with h | h
    · subst h; simp
    · have : ¬ e.1 = x.1 := fun h2 => hn.1 (h2 ▸ List.mem_map_of_mem h)
      rw [if_neg this]; exact thereG_nodup hn.2 h

/-- Closed: whatever is referred to is there. -/
theorem closedG_iff {G : Gr} : closedG G = true ↔ ∀ p rs, thereG G p = some rs → ∀ q ∈ rs, q ∈ G.map (·.1) := by
  unfold closedG
  rw [List.all_eq_true]
  constructor
  · intro h p rs hp q hq
    have h1 := h p ((keysG_mem G [] p).2 (.inr ((thereG_mem G p).1 (by rw [hp]; rfl))))
    rw [hp, Option.getD_some, List.all_eq_true] at h1
    have h2 := h1 q hq
    rw [decide_eq_true_eq, keysG_mem] at h2
    rcases h2 with h2 | h2
    · cases h2
    · exact h2
  · intro h p hp
    rw [keysG_mem] at hp
    rcases hp with hp | hp
    · cases hp
    · obtain ⟨rs, hr⟩ := Option.isSome_iff_exists.1 ((thereG_mem G p).2 hp)
      rw [hr, Option.getD_some, List.all_eq_true]
      intro q hq
      rw [decide_eq_true_eq, keysG_mem]
      exact .inr (h p rs hr q hq)

theorem live_dead {G : Gr} (hn : (G.map (·.1)).Nodup) (frm : List Bs) : (closureG G frm).length + (deadG G frm).length = G.length := by
  have hs : ((sortS (keysG G [])).filter fun p => decide (p ∉ visG G frm)).length + ((sortS (keysG G [])).filter fun x => !decide (x ∉ visG G frm)).length = (sortS (keysG G [])).length := split_len (a := sortS (keysG G [])) fun p => decide (p ∉ visG G frm)
  have h1 : ((sortS (keysG G [])).filter fun x => !decide (x ∉ visG G frm)).length = (closureG G frm).length := by
    refine nodup_len_eq (rising_nodup (rising_filter (sortS_rising (keysG_nodup G [] List.nodup_nil)) _)) (rising_nodup (closureG_rising G frm)) fun x => ?_
    rw [List.mem_filter, mem_sortS, keysG_mem, closureG, mem_sortS]
    simp only [decide_not, Bool.not_not, decide_eq_true_eq]
    constructor
    · exact fun h => h.2
    · exact fun h => ⟨.inr (visG_there G frm x h), h⟩
  have h2 : (sortS (keysG G [])).length = G.length := by
    rw [sortS_len]
    have := nodup_len_eq (keysG_nodup G [] List.nodup_nil) hn fun x => by rw [keysG_mem]; simp
    simpa using this
  unfold deadG
  omega

/-- A closure's closure is that. -/
theorem closure_again (G : Gr) (frm : List Bs) : closureG G (closureG G frm) = closureG G frm := by
  refine rising_ext (closureG_rising _ _) (closureG_rising _ _) fun x => ?_
  rw [mem_closureG]
  constructor
  · rintro ⟨p, hp, hr⟩
    obtain ⟨q, hq, hr2⟩ := mem_closureG.1 hp
    exact mem_closureG.2 ⟨q, hq, hr2.trans hr⟩
  · intro hx
    obtain ⟨p, hp, hr⟩ := mem_closureG.1 hx
    exact ⟨x, hx, .refl hr.right⟩

/-- The paths of a list that are kept. -/
def restG (G : Gr) (live : List Bs) : Gr := G.filter fun e => decide (e.1 ∈ live)

theorem restG_there {G : Gr} {live : List Bs} (hn : (G.map (·.1)).Nodup) {p : Bs} {rs : List Bs} : thereG (restG G live) p = some rs ↔ p ∈ live ∧ thereG G p = some rs := by
  have hn' : ((restG G live).map (·.1)).Nodup := hn.sublist (List.filter_sublist.map _)
  constructor
  · intro h
    have h1 := thereG_some h
    simp only [restG, List.mem_filter, decide_eq_true_eq] at h1
    exact ⟨h1.2, thereG_nodup hn h1.1⟩
  · rintro ⟨h1, h2⟩
    have h3 := thereG_some h2
    exact thereG_nodup hn' (e := (p, rs)) (by simp only [restG, List.mem_filter, decide_eq_true_eq]; exact ⟨h3, h1⟩)

theorem rest_closed {G : Gr} (hn : (G.map (·.1)).Nodup) (hc : closedG G = true) (frm : List Bs) : closedG (restG G (closureG G frm)) = true := by
  rw [closedG_iff] at hc ⊢
  intro p rs hp q hq
  obtain ⟨h1, h2⟩ := (restG_there hn).1 hp
  obtain ⟨r, hr, hr2⟩ := mem_closureG.1 h1
  have hq1 := hc p rs h2 q hq
  have hq2 : q ∈ closureG G frm := mem_closureG.2 ⟨r, hr, hr2.trans (.step h2 hq (.refl ((thereG_mem G q).2 hq1)))⟩
  obtain ⟨e, he, rfl⟩ := List.mem_map.1 hq1
  exact List.mem_map_of_mem (by simp only [restG, List.mem_filter, decide_eq_true_eq]; exact ⟨he, hq2⟩)

theorem rest_dead {G : Gr} (hn : (G.map (·.1)).Nodup) (frm : List Bs) : deadG (restG G (closureG G frm)) frm = [] := by
  cases hd : deadG (restG G (closureG G frm)) frm with
  | nil => rfl
  | cons x l =>
    exfalso
    have hx : x ∈ deadG (restG G (closureG G frm)) frm := by rw [hd]; exact List.mem_cons_self
    obtain ⟨h1, h2⟩ := mem_deadG.1 hx
    apply h2
    obtain ⟨e, he, rfl⟩ := List.mem_map.1 h1
    simp only [restG, List.mem_filter, decide_eq_true_eq] at he
    obtain ⟨r, hr, hr2⟩ := mem_closureG.1 he.2
    refine mem_closureG.2 ⟨r, hr, ?_⟩
    have key : ∀ {p x : Bs}, Rch (thereG G) p x → p ∈ closureG G frm → Rch (thereG (restG G (closureG G frm))) p x := by
      intro p x hr
      induction hr with
      | refl h =>
        intro hp
        obtain ⟨rs, hrs⟩ := Option.isSome_iff_exists.1 h
        exact .refl (by rw [(restG_there hn).2 ⟨hp, hrs⟩]; rfl)
      | step h hq t ih =>
        intro hp
        obtain ⟨r', hr', hr2'⟩ := mem_closureG.1 hp
        exact .step ((restG_there hn).2 ⟨hp, h⟩) hq (ih (mem_closureG.2 ⟨r', hr', hr2'.trans (.step h hq (.refl t.left))⟩))
    exact key hr2 (mem_closureG.2 ⟨r, hr, .refl hr2.left⟩)

/-! ### The small ones -/

theorem nm_inj {i j : Nat} (hi : i < 14) (hj : j < 14) (h : nm i = nm j) : i = j := by
  have : ∀ a b : Fin 14, nm a.val = nm b.val → a = b := by decide
  have := this ⟨i, hi⟩ ⟨j, hj⟩ h
  simpa using this

theorem smallG_keys (al : List Int) (st : Bool) : (smallG al st).map (·.1) = (List.range (min al.length 14)).map nm := by
  simp [smallG]

theorem small_nodup (al : List Int) (st : Bool) : ((smallG al st).map (·.1)).Nodup := by
  rw [smallG_keys, List.nodup_iff_pairwise_ne, List.pairwise_map]
  refine List.Pairwise.imp_of_mem ?_ List.nodup_range
  intro a b ha hb hab e
  rw [List.mem_range] at ha hb
  exact hab (nm_inj (by omega) (by omega) e)

theorem small_length (al : List Int) (st : Bool) : (smallG al st).length = min al.length 14 := by simp [smallG]

theorem small_closed (al : List Int) (st : Bool) : closedG (smallG al st) = true := by
  rw [closedG_iff]
  intro p rs hp q hq
  have h1 := thereG_some hp
  simp only [smallG, List.mem_map, List.mem_range, Prod.mk.injEq] at h1
  obtain ⟨i, hi, rfl, rfl⟩ := h1
  simp only [smallR, List.mem_map, List.mem_filter, List.mem_range] at hq
  obtain ⟨k, ⟨hk, _⟩, rfl⟩ := hq
  rw [smallG_keys]
  refine List.mem_map_of_mem (List.mem_range.2 ?_)
  unfold tot at hk
  split at hk <;> omega

theorem smallR_length (al : List Int) (st : Bool) (n i : Nat) : (smallR al st n i).length ≤ tot st n i := by
  simp only [smallR, List.length_map]
  exact Nat.le_trans (List.length_filter_le _ _) (by simp)

theorem small_small (al : List Int) (st : Bool) : SmallG (smallG al st) := by
  refine ⟨by rw [small_length]; omega, fun e he => ?_⟩
  simp only [smallG, List.mem_map, List.mem_range] at he
  obtain ⟨i, hi, rfl⟩ := he
  refine ⟨by simp [nm], ?_⟩
  have := smallR_length al st (min al.length 14) i
  have h2 : tot st (min al.length 14) i ≤ 14 := by unfold tot; split <;> omega
  simp only; omega

end Go.Am
