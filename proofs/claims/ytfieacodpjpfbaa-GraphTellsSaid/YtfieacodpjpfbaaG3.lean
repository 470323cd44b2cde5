/-
  graph.reached, Closure, Dead: what they answer.
-/
import Derived.Test.YtfieacodpjpfbaaG2
set_option linter.unusedVariables false
set_option linter.unusedSimpArgs false
namespace Go.Am
open Go Go.Proofs

/-! ### The walk through the references, as a function -/

def dfs (there : Bs → Option (List Bs)) : Nat → List Bs → Bs → List Bs
  | 0, vis, _ => vis
  | f + 1, vis, p => match there p with
    | none => vis
    | some rs => if p ∈ vis then vis else rs.foldl (dfs there f) (vis ++ [p])

theorem dfs_sub {there : Bs → Option (List Bs)} : ∀ (f : Nat) (vis : List Bs) (p q : Bs), q ∈ vis → q ∈ dfs there f vis p
  | 0, vis, p, q, h => h
  | f + 1, vis, p, q, h => by
    simp only [dfs]
    cases there p with
    | none => exact h
    | some rs =>
      simp only
      by_cases hp : p ∈ vis
      · rw [if_pos hp]; exact h
      · rw [if_neg hp]
        have key : ∀ (l : List Bs) (w : List Bs), q ∈ w → q ∈ l.foldl (dfs there f) w := by
          intro l
          induction l with
          | nil => intro w hw; exact hw
          | cons x l ih => intro w hw; exact ih _ (dfs_sub f w x q hw)
        exact key rs _ (List.mem_append_left _ h)

theorem foldl_dfs_sub {there : Bs → Option (List Bs)} {f : Nat} {q : Bs} : ∀ (l : List Bs) (w : List Bs), q ∈ w → q ∈ l.foldl (dfs there f) w
  | [], w, h => h
  | x :: l, w, h => foldl_dfs_sub l _ (dfs_sub f w x q h)

theorem dfs_nodup {there : Bs → Option (List Bs)} : ∀ (f : Nat) (vis : List Bs) (p : Bs), vis.Nodup → (dfs there f vis p).Nodup
  | 0, vis, p, h => h
  | f + 1, vis, p, h => by
    simp only [dfs]
    cases there p with
    | none => exact h
    | some rs =>
      simp only
      by_cases hp : p ∈ vis
      · rw [if_pos hp]; exact h
      · rw [if_neg hp]
        have key : ∀ (l : List Bs) (w : List Bs), w.Nodup → (l.foldl (dfs there f) w).Nodup := by
          intro l
          induction l with
          | nil => intro w hw; exact hw
          | cons x l ih => intro w hw; exact ih _ (dfs_nodup f w x hw)
        refine key rs _ ?_
        rw [List.nodup_append]
        exact ⟨h, by simp, fun x hx y hy => by simp at hy; subst hy; exact fun e => hp (e ▸ hx)⟩

theorem foldl_dfs_nodup {there : Bs → Option (List Bs)} {f : Nat} : ∀ (l : List Bs) (w : List Bs), w.Nodup → (l.foldl (dfs there f) w).Nodup
  | [], w, h => h
  | x :: l, w, h => foldl_dfs_nodup l _ (dfs_nodup f w x h)

theorem dfs_there {there : Bs → Option (List Bs)} : ∀ (f : Nat) (vis : List Bs) (p : Bs), (∀ q ∈ vis, (there q).isSome) → ∀ q ∈ dfs there f vis p, (there q).isSome
  | 0, vis, p, h => h
  | f + 1, vis, p, h => by
    simp only [dfs]
    cases ht : there p with
    | none => exact h
    | some rs =>
      simp only
      by_cases hp : p ∈ vis
      · rw [if_pos hp]; exact h
      · rw [if_neg hp]
        have key : ∀ (l : List Bs) (w : List Bs), (∀ q ∈ w, (there q).isSome) → ∀ q ∈ l.foldl (dfs there f) w, (there q).isSome := by
          intro l
          induction l with
          | nil => intro w hw; exact hw
          | cons x l ih => intro w hw; exact ih _ (dfs_there f w x hw)
        refine key rs _ fun q hq => ?_
        rw [List.mem_append, List.mem_singleton] at hq
        rcases hq with hq | rfl
        · exact h q hq
        · rw [ht]; rfl

theorem foldl_dfs_there {there : Bs → Option (List Bs)} {f : Nat} : ∀ (l : List Bs) (w : List Bs), (∀ q ∈ w, (there q).isSome) → ∀ q ∈ l.foldl (dfs there f) w, (there q).isSome
  | [], w, h => h
  | x :: l, w, h => foldl_dfs_there l _ (dfs_there f w x h)

/-- How many keys are not visited yet. -/
def unv (ks vis : List Bs) : Nat := (ks.filter fun k => decide (k ∉ vis)).length

theorem unv_mono {ks v w : List Bs} (h : ∀ q ∈ v, q ∈ w) : unv ks w ≤ unv ks v := by
  unfold unv
  induction ks with
  | nil => simp
  | cons k ks ih =>
    simp only [List.filter_cons]
    by_cases h1 : k ∈ w
    · by_cases h2 : k ∈ v <;> simp [h1, h2] at * <;> omega
    · have h2 : k ∉ v := fun hc => h1 (h _ hc)
      simp [h1, h2] at *; omega

theorem unv_push {ks v : List Bs} {p : Bs} (hp : p ∈ ks) (hv : p ∉ v) : unv ks (v ++ [p]) < unv ks v := by
  unfold unv
  induction ks with
  | nil => cases hp
  | cons k ks ih =>
    have hle : unv ks (v ++ [p]) ≤ unv ks v := unv_mono fun q hq => List.mem_append_left _ hq
    unfold unv at hle
    simp only [List.filter_cons]
    by_cases hk : k = p
    · subst hk
      simp [hv] at hle ⊢
      omega
    · have hp' : p ∈ ks := by
        rcases List.mem_cons.1 hp with e | e
        · exact absurd e.symm hk
        · exact e
      have := ih hp'
      by_cases h2 : k ∈ v
      · simp [h2, hk] at this ⊢; omega
      · simp [h2, hk] at this ⊢; omega

/-! ### The walk of the code -/

def visE (vis : List Bs) : SE := vis.zipIdx.map fun e => (e.1, .int .i64 1, e.2)

theorem visE_push (vis : List Bs) (p : Bs) : visE (vis ++ [p]) = visE vis ++ [(p, .int .i64 1, vis.length)] := by
  simp [visE, List.zipIdx_append]

theorem visE_keys (vis : List Bs) : (visE vis).map (·.1) = vis := by
  apply List.ext_getElem?
  intro i
  simp only [visE, List.map_map, List.getElem?_map, List.getElem?_zipIdx]
  cases vis[i]? <;> rfl

theorem visE_length (vis : List Bs) : (visE vis).length = vis.length := by simp [visE]

theorem visE_idx {vis : List Bs} (h : vis.Nodup) : Idx (visE vis) := by
  refine ⟨by rw [visE_keys]; exact h, fun i e he => ?_⟩
  simp only [visE, List.getElem?_map, List.getElem?_zipIdx] at he
  cases hv : vis[i]? with
  | none => rw [hv] at he; cases he
  | some s => rw [hv] at he; simp at he; subst he; simp

theorem visE_get {vis : List Bs} {p : Bs} : getS p (visE vis) = if p ∈ vis then some (.int .i64 1) else none := by
  by_cases h : p ∈ vis
  · rw [if_pos h]
    have key : ∀ (l : SE), p ∈ l.map (·.1) → (∀ e ∈ l, e.2.1 = .int .i64 1) → getS p l = some (.int .i64 1) := by
      intro l
      induction l with
      | nil => intro h; simp at h
      | cons e l ih =>
        intro h1 h2
        simp only [getS]
        by_cases e1 : p = e.1
        · rw [if_pos e1, h2 e List.mem_cons_self]
        · rw [if_neg e1]
          refine ih ?_ fun x hx => h2 x (List.mem_cons_of_mem _ hx)
          simp only [List.map_cons, List.mem_cons] at h1
          rcases h1 with h1 | h1
          · exact absurd h1 e1
          · exact h1
    refine key _ (by rw [visE_keys]; exact h) fun e he => ?_
    simp only [visE, List.mem_map] at he
    obtain ⟨x, _, rfl⟩ := he
    rfl
  · rw [if_neg h]; exact getS_none.2 (by rw [visE_keys]; exact h)

theorem visE_has {vis : List Bs} {p : Bs} : hasS p (visE vis) = decide (p ∈ vis) := by
  by_cases h : p ∈ vis
  · rw [hasS_iff.2 (by rw [visE_keys]; exact h)]; simp [h]
  · cases e : hasS p (visE vis) with
    | false => simp [h]
    | true => exact absurd (by have := hasS_iff.1 e; rwa [visE_keys] at this) h

/-- The heap, where so much is visited. -/
def HV (h : AHeap) (mo : Nat) (vis : List Bs) : AHeap := h.put mo (.map (strE (visE vis)) vis.length)

structure RC (h : AHeap) (c2 c5 c6 m mo : Nat) (l : SE) (there : Bs → Option (List Bs)) : Prop where
  g2 : ∃ rw, h.get c2 = some (.cells [.map m] rw)
  g5 : ∃ rw, h.get c5 = some (.cells [.map mo] rw)
  g6 : ∃ rw, h.get c6 = some (.cells [.func 46 [] [.ptr c2 0, .ptr c5 0, .ptr c6 0]] rw)
  gm : h.get m = some (.map (strE l) l.length)
  go : ∃ es c, h.get mo = some (.map es c)
  ne : m ≠ mo
  rows : ∀ p, (getS p l = none ∧ there p = none) ∨ ∃ rv rs, getS p l = some rv ∧ there p = some rs ∧ SRow h rv rs ∧ rs.length < 1000000000

theorem reach_run {h : AHeap} {c2 c5 c6 m mo : Nat} {l : SE} {there : Bs → Option (List Bs)} (C : RC h c2 c5 c6 m mo l there) :
    ∀ (f : Nat) (vis : List Bs) (p : Bs), unv (l.map (·.1)) vis ≤ f → EG (.fn 46) [.str p, .ptr c2 0, .ptr c5 0, .ptr c6 0] (HV h mo vis) = some (.tuple [], HV h mo (dfs there f vis p)) := by
  obtain ⟨r2, g2⟩ := C.g2
  obtain ⟨r5, g5⟩ := C.g5
  obtain ⟨r6, g6⟩ := C.g6
  obtain ⟨eso, co, go⟩ := C.go
  have ne : ∀ {o vs rw}, h.get o = some (.cells vs rw) → ∀ x, (h.put mo x).get o = some (.cells vs rw) := fun e x => by
    rw [AHeap.get_put_ne _ _ (fun e1 => by rw [e1, go] at e; cases e)]; exact e
  intro f
  induction f with
  | zero =>
    intro vis p hu
    refine run46 0 ?_
    unfold F46
    have q2 : loadA tab (HV h mo vis) 48 (.ptr c2 0) = some (.map m) := loadA_cell ty48 rfl (ne g2 _) rfl
    have q5 : loadA tab (HV h mo vis) 46 (.ptr c5 0) = some (.map mo) := loadA_cell ty46 rfl (ne g5 _) rfl
    have qm : (HV h mo vis).get m = some (.map (strE l) l.length) := by unfold HV; rw [AHeap.get_put_ne _ _ C.ne]; exact C.gm
    have qo : (HV h mo vis).get mo = some (.map (strE (visE vis)) vis.length) := AHeap.get_put_self _ _ _
    simp only [q2, valK_s, lookup_str ty48 ty26 qm, jn_a, q5, lookup_str ty46 ty3 qo, visE_get]
    rcases C.rows p with ⟨e1, e2⟩ | ⟨rv, rs, e1, e2, e3, e4⟩
    · simp only [e1, cond_true, extractA_0, extractA_1, valK_s, aun_not, Bool.not_false, boolK_t, dfs]
    · have hk : p ∈ l.map (·.1) := by
        by_cases hc : p ∈ l.map (·.1)
        · exact hc
        · rw [getS_none.2 hc] at e1; cases e1
      have hv : p ∈ vis := by
        by_cases hc : p ∈ vis
        · exact hc
        · have := unv_push hk hc; omega
      simp only [e1, cond_true, cond_false, extractA_0, extractA_1, valK_s, aun_not, Bool.not_true, boolK_f, if_pos hv, abin_gtr]
      rfl
  | succ f ih =>
    intro vis p hu
    have q2 : loadA tab (HV h mo vis) 48 (.ptr c2 0) = some (.map m) := loadA_cell ty48 rfl (ne g2 _) rfl
    have q5 : loadA tab (HV h mo vis) 46 (.ptr c5 0) = some (.map mo) := loadA_cell ty46 rfl (ne g5 _) rfl
    have qm : (HV h mo vis).get m = some (.map (strE l) l.length) := by unfold HV; rw [AHeap.get_put_ne _ _ C.ne]; exact C.gm
    have qo : (HV h mo vis).get mo = some (.map (strE (visE vis)) vis.length) := AHeap.get_put_self _ _ _
    rcases C.rows p with ⟨e1, e2⟩ | ⟨rv, rs, e1, e2, e3, e4⟩
    · refine run46 0 ?_
      unfold F46
      simp only [q2, valK_s, lookup_str ty48 ty26 qm, jn_a, e1, cond_true, extractA_0, extractA_1, valK_s, aun_not, Bool.not_false, boolK_t, dfs, e2]
    · by_cases hv : p ∈ vis
      · refine run46 0 ?_
        unfold F46
        simp only [q2, valK_s, lookup_str ty48 ty26 qm, jn_a, q5, lookup_str ty46 ty3 qo, visE_get, e1, cond_true, cond_false, extractA_0, extractA_1, aun_not, Bool.not_true, boolK_f, if_pos hv, abin_gtr, dfs, e2]
        rfl
      · refine run46 (rs.length + 1) ?_
        unfold F46
        have hnh : hasS p (visE vis) = false := by rw [visE_has]; simp [hv]
        have up : amapUpdate tab (HV h mo vis) 46 (.map mo) (.str p) (.int .i64 1) = some (HV h mo (vis ++ [p])) := by
          rw [update_str ty46 qo, hnh, setS_new hnh, ← visE_push]
          simp only [HV, AHeap.put_put, cond_false, List.length_append, List.length_singleton]
        have hz : abin tab .gtr 3 (.int .i64 0) (.int .i64 0) = some (.bool false) := rfl
        have hk : p ∈ l.map (·.1) := by
          by_cases hc : p ∈ l.map (·.1)
          · exact hc
          · rw [getS_none.2 hc] at e1; cases e1
        have hu1 := unv_push hk hv
        simp only [q2, valK_s, lookup_str ty48 ty26 qm, jn_a, q5, lookup_str ty46 ty3 qo, visE_get, e1, cond_true, cond_false, extractA_0, extractA_1, aun_not, Bool.not_true, boolK_f, if_neg hv, dfs, e2]
        rw [hz]
        have row2 : ∀ w, SRow (HV h mo w) rv rs := fun w => e3.putMap go _
        simp only [valK_s, boolK_f, up, hpK_s, srow_len (row2 _)]
        refine loop_rule (σ := AV × AV × AV × AV × Unit) (R := AV × AHeap) (total := rs.length) (I := fun i st hh => i ≤ rs.length ∧ st = (.ptr c6 0, rv, .int .i64 (rs.length : Int), .int .i64 (i : Int), ()) ∧ hh = HV h mo ((rs.take i).foldl (dfs there f) (vis ++ [p])))
          (Q := fun o => o = some (.tuple [], HV h mo (rs.foldl (dfs there f) (vis ++ [p])))) ?_ _ 0 _ _ ⟨by omega, rfl, rfl⟩ (by omega) (by omega)
        rintro i st hh nx ⟨hi, rfl, rfl⟩
        simp only [F46_b4, abin_lss, valK_s]
        by_cases hlt : i < rs.length
        · left
          obtain ⟨pp, h1, h2⟩ := srow_get (row2 ((rs.take i).foldl (dfs there f) (vis ++ [p]))) (List.getElem?_eq_getElem hlt)
          have q6 : loadA tab (HV h mo ((rs.take i).foldl (dfs there f) (vis ++ [p]))) 62 (.ptr c6 0) = some (.func 46 [] [.ptr c2 0, .ptr c5 0, .ptr c6 0]) := loadA_cell ty62 rfl (ne g6 _) rfl
          have hu2 : unv (l.map (·.1)) ((rs.take i).foldl (dfs there f) (vis ++ [p])) ≤ f :=
            Nat.le_trans (unv_mono fun q hq => foldl_dfs_sub _ _ hq) (by omega)
          have := ih _ rs[i] hu2
          simp only [ltT hlt, boolK_t, h1, h2, q6, valK_s, callA_func, List.nil_append, List.cons_append, this, bothK_s, abin_inc (show i < 4611686018427387904 by omega)]
          refine ⟨hlt, _, _, rfl, by omega, rfl, ?_⟩
          rw [List.take_succ_eq_append_getElem hlt, List.foldl_append]; rfl
        · right
          simp only [ltF hlt, boolK_f, unmark_nil, hpK_s]
          rw [List.take_of_length_le (by omega)]

/-! ### reached, Closure, Dead -/

def SmallG (G : Gr) : Prop := G.length < 1000000 ∧ ∀ e ∈ G, e.1.length < 1000000000 ∧ e.2.length < 1000000000

theorem keysG_mem : ∀ (G : Gr) (ks : List Bs) (p : Bs), p ∈ keysG G ks ↔ p ∈ ks ∨ p ∈ G.map (·.1)
  | [], ks, p => by simp [keysG]
  | e :: G, ks, p => by
    simp only [keysG, keysG_mem G, List.map_cons, List.mem_cons]
    by_cases h : e.1 ∈ ks
    · rw [if_pos h]
      constructor
      · rintro (h1 | h1)
        · exact .inl h1
        · exact .inr (.inr h1)
      · rintro (h1 | h1 | h1)
        · exact .inl h1
        · exact .inl (h1 ▸ h)
        · exact .inr h1
    · rw [if_neg h, List.mem_append, List.mem_singleton]
      constructor
      · rintro ((h1 | h1) | h1)
        · exact .inl h1
        · exact .inr (.inl h1)
        · exact .inr (.inr h1)
      · rintro (h1 | h1 | h1)
        · exact .inl (.inl h1)
        · exact .inl (.inr h1)
        · exact .inr h1

theorem keysG_length : ∀ (G : Gr) (ks : List Bs), (keysG G ks).length ≤ ks.length + G.length
  | [], ks => by simp [keysG]
  | e :: G, ks => by
    simp only [keysG, List.length_cons]
    refine Nat.le_trans (keysG_length G _) ?_
    by_cases h : e.1 ∈ ks
    · rw [if_pos h]; omega
    · rw [if_neg h, List.length_append, List.length_singleton]; omega

theorem thereG_mem : ∀ (G : Gr) (p : Bs), (thereG G p).isSome = true ↔ p ∈ G.map (·.1)
  | [], p => by simp [thereG]
  | e :: G, p => by
    simp only [thereG, List.map_cons, List.mem_cons]
    by_cases h : p = e.1
    · simp [h]
    · simp [h, thereG_mem G p]

theorem thereG_some : ∀ {G : Gr} {p : Bs} {rs : List Bs}, thereG G p = some rs → (p, rs) ∈ G
  | e :: G, p, rs, h => by
    simp only [thereG] at h
    by_cases he : p = e.1
    · rw [if_pos he] at h; cases h; rw [he]; exact List.mem_cons_self
    · rw [if_neg he] at h; exact List.mem_cons_of_mem _ (thereG_some h)

/-- What is visited from some. -/
def visG (G : Gr) (frm : List Bs) : List Bs := frm.foldl (dfs (thereG G) (keysG G []).length) []

theorem visG_nodup (G : Gr) (frm : List Bs) : (visG G frm).Nodup := foldl_dfs_nodup _ _ List.nodup_nil
theorem visG_there (G : Gr) (frm : List Bs) : ∀ q ∈ visG G frm, q ∈ G.map (·.1) := fun q hq => (thereG_mem G q).1 (foldl_dfs_there frm [] (fun _ h => by cases h) q hq)

theorem nodup_le {a b : List Bs} (ha : a.Nodup) (h : ∀ x ∈ a, x ∈ b) : a.length ≤ b.length := by
  induction a generalizing b with
  | nil => simp
  | cons x a ih =>
    rw [List.nodup_cons] at ha
    have hx : x ∈ b := h x List.mem_cons_self
    have := ih (b := b.erase x) ha.2 fun y hy => by
      rw [List.mem_erase_of_ne (show y ≠ x from fun e => ha.1 (e ▸ hy))]; exact h y (List.mem_cons_of_mem _ hy)
    rw [List.length_erase_of_mem hx] at this
    have hb : 0 < b.length := List.length_pos_of_mem hx
    simp only [List.length_cons]; omega

theorem visG_length (G : Gr) (frm : List Bs) : (visG G frm).length ≤ G.length := by
  have := nodup_le (visG_nodup G frm) (visG_there G frm)
  simpa using this

theorem reached_run {h : AHeap} (hw : h.WF) {m : Nat} {l : SE} {G : Gr} (M : MRep h m l G) (hG : SmallG G) {v : AV} {frm : List Bs} (a : SRow h v frm) (hn : frm.length < 1000000000) :
    ∃ mo h', EG (.fn 27) [.map m, v] h = some (.map mo, h') ∧ h'.get mo = some (.map (strE (visE (visG G frm))) (visG G frm).length) ∧ Ext h h' ∧ h.get mo = none := by
  have y1 : Ext h (h.add (.cells [.map m] true)) := (Ext.refl hw).add _
  obtain ⟨h1, q1⟩ : ∃ h1, h1 = h.add (.cells [.map m] true) := ⟨_, rfl⟩
  obtain ⟨h3, q3⟩ : ∃ h3, h3 = h1.add (.map [] 0) := ⟨_, rfl⟩
  obtain ⟨h5, q5⟩ : ∃ h5, h5 = h3.add (.cells [.nilmap] true) := ⟨_, rfl⟩
  obtain ⟨h6, q6⟩ : ∃ h6, h6 = h5.put h3.next (.cells [.map h1.next] true) := ⟨_, rfl⟩
  obtain ⟨h8, q8⟩ : ∃ h8, h8 = h6.add (.cells [.nilfunc] true) := ⟨_, rfl⟩
  obtain ⟨h9, q9⟩ : ∃ h9, h9 = h8.put h6.next (.cells [.func 46 [] [.ptr h.next 0, .ptr h3.next 0, .ptr h6.next 0]] true) := ⟨_, rfl⟩
  have x1 : Ext h h1 := q1 ▸ y1
  have x13 : Ext h1 h3 := q3 ▸ (Ext.refl x1.wf).add _
  have x35 : Ext h3 h5 := q5 ▸ (Ext.refl x13.wf).add _
  have g5a : h5.get h3.next = some (.cells [.nilmap] true) := by rw [q5]; exact AHeap.get_add_self _ _
  have x36 : Ext h3 h6 := q6 ▸ x35.put x13.wf.new g5a _
  have x68 : Ext h6 h8 := q8 ▸ (Ext.refl x36.wf).add _
  have g8a : h8.get h6.next = some (.cells [.nilfunc] true) := by rw [q8]; exact AHeap.get_add_self _ _
  have x69 : Ext h6 h9 := q9 ▸ x68.put x36.wf.new g8a _
  have x39 := x36.trans x69
  have x19 := x13.trans x39
  have x09 := x1.trans x19
  have g2 : h9.get h.next = some (.cells [.map m] true) := x19.keep _ _ (by rw [q1]; exact AHeap.get_add_self _ _)
  have gmo : h9.get h1.next = some (.map [] 0) := x39.keep _ _ (by rw [q3]; exact AHeap.get_add_self _ _)
  have g5 : h9.get h3.next = some (.cells [.map h1.next] true) := x69.keep _ _ (by rw [q6]; exact AHeap.get_put_self _ _ _)
  have g6 : h9.get h6.next = some (.cells [.func 46 [] [.ptr h.next 0, .ptr h3.next 0, .ptr h6.next 0]] true) := by rw [q9]; exact AHeap.get_put_self _ _ _
  have hmo : h.get h1.next = none := x1.new
  have C : RC h9 h.next h3.next h6.next m h1.next l (thereG G) := by
    refine ⟨⟨_, g2⟩, ⟨_, g5⟩, ⟨_, g6⟩, x09.keep _ _ M.1, ⟨_, _, gmo⟩, fun e => ?_, fun p => ?_⟩
    · have := M.1; rw [e, hmo] at this; cases this
    · rcases M.2.2.2 p with h1 | ⟨rv, rs, h1, h2, h3⟩
      · exact .inl h1
      · exact .inr ⟨rv, rs, h1, h2, h3.ext x09, (hG.2 _ (thereG_some h2)).2⟩
  have hv0 : HV h9 h1.next [] = h9 := AHeap.put_same gmo
  have b0 : boxA h (.map m) = some (.ptr h.next 0, h1) := by rw [q1]; rfl
  have n1 : newMapA h1 = some (.map h1.next, h3) := by rw [q3]; rfl
  have n3 : newCells h3 [.nilmap] (fun o => .ptr o 0) = some (.ptr h3.next 0, h5) := by rw [q5]; rfl
  have s5 : storeA tab h5 46 (.ptr h3.next 0) (.map h1.next) = some h6 := by
    simp only [storeA, astore, g5a, ty46]; rw [q6]; rfl
  have n6 : newCells h6 [.nilfunc] (fun o => .ptr o 0) = some (.ptr h6.next 0, h8) := by rw [q8]; rfl
  have s8 : storeA tab h8 62 (.ptr h6.next 0) (.func 46 [] [.ptr h.next 0, .ptr h3.next 0, .ptr h6.next 0]) = some h9 := by
    simp only [storeA, astore, g8a, ty62]; rw [q9]; rfl
  have main : ∃ N, F27 EG N (.map m) v h = some (.map h1.next, HV h9 h1.next (visG G frm)) := by
    refine ⟨frm.length + 1, ?_⟩
    unfold F27
    simp only [b0, bothK_s, n1, n3, s5, hpK_s, n6, s8, srow_len (a.ext x09), valK_s]
    refine loop_rule (σ := AV × AV × AV × AV × AV × Unit) (R := AV × AHeap) (total := frm.length) (I := fun i st hh => i ≤ frm.length ∧ st = (.ptr h3.next 0, .ptr h6.next 0, v, .int .i64 (frm.length : Int), .int .i64 (i : Int), ()) ∧ hh = HV h9 h1.next ((frm.take i).foldl (dfs (thereG G) (keysG G []).length) []))
      (Q := fun o => o = some (.map h1.next, HV h9 h1.next (visG G frm))) ?_ _ 0 _ _ ⟨by omega, rfl, hv0.symm⟩ (by omega) (by omega)
    rintro i st hh nx ⟨hi, rfl, rfl⟩
    simp only [F27_b5, abin_lss, valK_s]
    have ne : ∀ {o vs rw}, h9.get o = some (.cells vs rw) → ∀ x, (h9.put h1.next x).get o = some (.cells vs rw) := fun e x => by
      rw [AHeap.get_put_ne _ _ (fun e1 => by rw [e1, gmo] at e; cases e)]; exact e
    by_cases hlt : i < frm.length
    · left
      have row := (a.ext x09).putMap gmo (.map (strE (visE ((frm.take i).foldl (dfs (thereG G) (keysG G []).length) []))) ((frm.take i).foldl (dfs (thereG G) (keysG G []).length) []).length)
      obtain ⟨pp, e1, e2⟩ := srow_get row (List.getElem?_eq_getElem hlt)
      have e6 : loadA tab (HV h9 h1.next ((frm.take i).foldl (dfs (thereG G) (keysG G []).length) [])) 62 (.ptr h6.next 0) = some (.func 46 [] [.ptr h.next 0, .ptr h3.next 0, .ptr h6.next 0]) := loadA_cell ty62 rfl (ne g6 _) rfl
      have hu : unv (l.map (·.1)) ((frm.take i).foldl (dfs (thereG G) (keysG G []).length) []) ≤ (keysG G []).length := by
        rw [M.2.2.1]; exact List.length_filter_le _ _
      have e7 := reach_run C _ _ frm[i] hu
      have e2' : loadA tab (HV h9 h1.next ((frm.take i).foldl (dfs (thereG G) (keysG G []).length) [])) 9 pp = some (.str frm[i]) := e2
      simp only [ltT hlt, boolK_t, e1, e2', e6, valK_s, callA_func, List.nil_append, List.cons_append, e7, bothK_s, abin_inc (show i < 4611686018427387904 by omega)]
      refine ⟨hlt, _, _, rfl, by omega, rfl, ?_⟩
      rw [List.take_succ_eq_append_getElem hlt, List.foldl_append]; rfl
    · right
      have e5 : loadA tab (HV h9 h1.next ((frm.take i).foldl (dfs (thereG G) (keysG G []).length) [])) 46 (.ptr h3.next 0) = some (.map h1.next) := loadA_cell ty46 rfl (ne g5 _) rfl
      simp only [ltF hlt, boolK_f, e5, valK_s, unmark_nil, hpK_s]
      rw [List.take_of_length_le (by omega)]; rfl
  obtain ⟨N, hN⟩ := main
  exact ⟨h1.next, _, run27 N hN, AHeap.get_put_self _ _ _, x09.put hmo gmo _, hmo⟩

def closureG (G : Gr) (frm : List Bs) : List Bs := sortS (visG G frm)
def deadG (G : Gr) (frm : List Bs) : List Bs := (sortS (keysG G [])).filter fun p => decide (p ∉ visG G frm)

theorem keyLen {G : Gr} (hG : SmallG G) {p : Bs} (hp : p ∈ G.map (·.1)) : p.length < 1000000000 := by
  obtain ⟨e, he, rfl⟩ := List.mem_map.1 hp
  exact (hG.2 e he).1

theorem closure_run {h : AHeap} (hw : h.WF) {v w : AV} {G : Gr} (a : PRep h v G) (hG : SmallG G) {frm : List Bs} (b : SRow h w frm) (hn : frm.length < 1000000000) :
    ∃ v' h', EG (.fn 9) [v, w] h = some (v', h') ∧ SOwn h h' v' (closureG G frm) ∧ Ext h h' := by
  obtain ⟨m, h1, l, e1, M, x1, _⟩ := refs_run hw a hG.1
  obtain ⟨mo, h2, e2, g2, x2, _⟩ := reached_run x1.wf M hG (b.ext x1) hn
  have hlen := visG_length G frm
  have hG1 := hG.1
  have on := (visE_idx (visG_nodup G frm)).once
  rw [visE_length] at on
  obtain ⟨v', h3, e3, o3, x3⟩ := kept26_run x2.wf g2 on (by rw [visE_length]; omega)
    (fun e he => keyLen hG (visG_there G frm _ (by rw [← visE_keys (visG G frm)]; exact List.mem_map_of_mem he)))
    (g := 29) (cap := []) (f := fun _ => true) (fun p hp h3 hx => ⟨h3, run29 0 rfl, Ext.refl hx.wf⟩)
  refine ⟨v', h3, run9 0 ?_, ?_, (x1.trans x2).trans x3⟩
  · unfold F9
    simp only [e1, bothK_s, e2, e3]
  · rw [visE_keys, List.filter_eq_self.2 (fun _ _ => rfl)] at o3
    exact o3.base (x1.trans x2)

theorem dead_run {h : AHeap} (hw : h.WF) {v w : AV} {G : Gr} (a : PRep h v G) (hG : SmallG G) {frm : List Bs} (b : SRow h w frm) (hn : frm.length < 1000000000) :
    ∃ v' h', EG (.fn 10) [v, w] h = some (v', h') ∧ SOwn h h' v' (deadG G frm) ∧ Ext h h' := by
  obtain ⟨m, h1, l, e1, M, x1, _⟩ := refs_run hw a hG.1
  obtain ⟨mo, h2, e2, g2, x2, _⟩ := reached_run x1.wf M hG (b.ext x1) hn
  have M2 := M.ext x2
  have g3 : (h2.add (.cells [.nilmap] true)).get h2.next = some (.cells [.nilmap] true) := AHeap.get_add_self _ _
  obtain ⟨h4, q4⟩ : ∃ h4, h4 = (h2.add (.cells [.nilmap] true)).put h2.next (.cells [.map mo] true) := ⟨_, rfl⟩
  have x4 : Ext h2 h4 := q4 ▸ ((Ext.refl x2.wf).add _).put x2.wf.new g3 _
  have g4 : h4.get h2.next = some (.cells [.map mo] true) := by rw [q4]; exact AHeap.get_put_self _ _ _
  have M4 := M2.ext x4
  have gm := x4.keep _ _ g2
  have hlen : l.length = (keysG G []).length := by rw [← M.2.2.1, List.length_map]
  have hkl := keysG_length G []
  have hG1 := hG.1
  obtain ⟨v', h5, e5, o5, x5⟩ := kept30_run x4.wf M4.1 M4.2.1.once (by rw [hlen]; simp at hkl; omega)
    (fun e he => keyLen hG (by
      have : e.1 ∈ l.map (·.1) := List.mem_map_of_mem he
      rw [M.2.2.1, keysG_mem] at this
      rcases this with h | h
      · cases h
      · exact h))
    (g := 31) (cap := [.ptr h2.next 0]) (f := fun p => decide (p ∉ visG G frm)) (fun p hp h3 hx => by
      refine ⟨h3, run31 0 ?_, Ext.refl hx.wf⟩
      unfold F31
      have l0 : loadA tab h3 46 (.ptr h2.next 0) = some (.map mo) := loadA_cell ty46 rfl (hx.keep _ _ g4) rfl
      simp only [l0, valK_s, lookup_str ty46 ty3 (hx.keep _ _ gm), visE_get]
      by_cases hp : p ∈ visG G frm
      · simp only [if_pos hp, cond_false, abin_eql, valK_s]; simp [hp]
      · simp only [if_neg hp, cond_false, abin_eql, valK_s]; simp [hp])
  refine ⟨v', h5, run10 0 ?_, ?_, ((x1.trans x2).trans x4).trans x5⟩
  · unfold F10
    have n2 : newCells h2 [.nilmap] (fun o => .ptr o 0) = some (.ptr h2.next 0, h2.add (.cells [.nilmap] true)) := rfl
    have s2 : storeA tab (h2.add (.cells [.nilmap] true)) 46 (.ptr h2.next 0) (.map mo) = some h4 := by
      simp only [storeA, astore, g3, ty46]; rw [q4]; rfl
    simp only [e1, bothK_s, e2, n2, s2, hpK_s, e5]
  · rw [M.2.2.1] at o5
    exact o5.base ((x1.trans x2).trans x4)

end Go.Am
