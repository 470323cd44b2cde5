/-
  GraphOrder: what is plain in it, and the walk.
-/
import Derived.Test.YtfieacodpjpfbaaG9
set_option linter.unusedVariables false
set_option linter.unusedSimpArgs false
namespace Go.Am
open Go Go.Proofs

/-! ### Plain: the order -/

theorem mem_readyG {G : Gr} {left : List Bs} {p : Bs} : p ∈ readyG G left ↔ p ∈ left ∧ ∀ q ∈ refsOf G p, q ≠ p → q ∉ left := by
  simp only [readyG, List.mem_filter, mem_sortS, Bool.not_eq_true', List.any_eq_false, Bool.and_eq_true, decide_eq_true_eq, not_and]
  constructor
  · rintro ⟨h1, h2⟩; exact ⟨h1, fun q hq hne hl => h2 q hq hl hne⟩
  · rintro ⟨h1, h2⟩; exact ⟨h1, fun q hq hl hne => h2 q hq hne hl⟩

theorem ord_topo {G : Gr} {ks : List Bs} (hA : ∀ left : List Bs, left ≠ [] → (∀ x ∈ left, x ∈ ks) → readyG G left ≠ []) : ∀ (f : Nat) (left out : List Bs), left.length = f → left.Nodup → (∀ x ∈ left, x ∈ ks) →
    ∃ rest, ordG G f left out = out ++ rest ∧ rest.Nodup ∧ (∀ x, x ∈ rest ↔ x ∈ left) ∧ ∀ (i : Nat) p, rest[i]? = some p → ∀ q ∈ refsOf G p, q ≠ p → q ∈ left → q ∈ rest.take i
  | 0, left, out, hl, _, _ => by
    have : left = [] := List.eq_nil_of_length_eq_zero hl
    subst this
    exact ⟨[], by simp [ordG], by simp, by simp, fun i p hp => by simp at hp⟩
  | f + 1, left, out, hl, hn, hs => by
    have hne : left ≠ [] := fun e => by rw [e] at hl; simp at hl
    have hr := hA left hne hs
    cases hc : readyG G left with
    | nil => exact absurd hc hr
    | cons p r =>
      have hp : p ∈ readyG G left := by rw [hc]; exact List.mem_cons_self
      obtain ⟨hp1, hp2⟩ := mem_readyG.1 hp
      have hpick : pickG G left = p :: r := by unfold pickG; rw [if_neg hr, hc]
      have hlen := filter_ne_length hn hp1
      obtain ⟨rest, e1, e2, e3, e4⟩ := ord_topo hA f (left.filter fun q => decide (q ≠ p)) (out ++ [p]) (by omega) (hn.filter _) (fun x hx => hs x (List.mem_filter.1 hx).1)
      have hpr : p ∉ rest := fun h => by
        have := (e3 p).1 h
        simp at this
      refine ⟨p :: rest, by simp only [ordG, hpick]; rw [e1]; simp, List.nodup_cons.2 ⟨hpr, e2⟩, fun x => ?_, fun i x hx q hq hqx hql => ?_⟩
      · rw [List.mem_cons, e3, List.mem_filter, decide_eq_true_eq]
        constructor
        · rintro (rfl | h)
          · exact hp1
          · exact h.1
        · intro h
          by_cases hxp : x = p
          · exact .inl hxp
          · exact .inr ⟨h, hxp⟩
      · cases i with
        | zero =>
          simp at hx
          subst hx
          exact absurd hql (hp2 q hq hqx)
        | succ i =>
          rw [List.take_succ_cons, List.mem_cons]
          by_cases hqp : q = p
          · exact .inl hqp
          · exact .inr (e4 i x (by simpa using hx) q hq hqx (List.mem_filter.2 ⟨hql, by simpa using hqp⟩))

/-! ### Plain: counting by both sides -/

theorem double_count (b : Bs → Bs → Bool) : ∀ (A B : List Bs), (A.map fun q => (B.filter fun p => b p q).length).sum = (B.map fun p => (A.filter fun q => b p q).length).sum
  | [], B => by
    induction B with
    | nil => rfl
    | cons p B ih => simpa using ih
  | a :: A, B => by
    have ih := double_count b A B
    simp only [List.map_cons, List.sum_cons, ih]
    clear ih
    induction B with
    | nil => rfl
    | cons p B ihB =>
      simp only [List.filter_cons, List.map_cons, List.sum_cons] at ihB ⊢
      by_cases h : b p a = true
      · simp only [h, if_true, List.length_cons]; omega
      · simp only [h, if_false, Bool.false_eq_true]; omega

theorem both_sides {G : Gr} (hn : (G.map (·.1)).Nodup) (hc : closedG G = true) (hr : ∀ e ∈ G, e.2.Nodup) :
    (G.map fun e => (referrersG G e.1).length).sum = (G.map fun e => (e.2.filter fun q => decide (q ≠ e.1)).length).sum := by
  have h1 : ∀ q, (referrersG G q).length = ((G.map (·.1)).filter fun p => decide (p ≠ q) && decide (q ∈ refsOf G p)).length := fun q => by
    refine nodup_len_eq (rising_nodup (rising_filter (sortS_rising (keysG_nodup G [] List.nodup_nil)) _)) (hn.filter _) fun x => ?_
    unfold referrersG
    rw [List.mem_filter, List.mem_filter, mem_sortS, keysG_mem]
    simp
  have h2 : ∀ e ∈ G, (e.2.filter fun q => decide (q ≠ e.1)).length = ((G.map (·.1)).filter fun q => decide (e.1 ≠ q) && decide (q ∈ refsOf G e.1)).length := fun e he => by
    have ht := thereG_nodup hn he
    have hro : refsOf G e.1 = e.2 := by unfold refsOf; rw [ht]; rfl
    refine nodup_len_eq ((hr e he).filter _) (hn.filter _) fun x => ?_
    rw [List.mem_filter, List.mem_filter, hro]
    simp only [decide_eq_true_eq, Bool.and_eq_true]
    constructor
    · rintro ⟨a, b⟩; exact ⟨closedG_iff.1 hc _ _ ht x a, fun e => b e.symm, a⟩
    · rintro ⟨_, b, c⟩; exact ⟨c, fun e => b e.symm⟩
  have e1 : (G.map fun e => (referrersG G e.1).length) = (G.map (·.1)).map fun q => ((G.map (·.1)).filter fun p => decide (p ≠ q) && decide (q ∈ refsOf G p)).length := by
    rw [List.map_map]
    exact List.map_congr_left fun e _ => h1 e.1
  have e2 : (G.map fun e => (e.2.filter fun q => decide (q ≠ e.1)).length) = (G.map (·.1)).map fun p => ((G.map (·.1)).filter fun q => decide (p ≠ q) && decide (q ∈ refsOf G p)).length := by
    rw [List.map_map]
    exact List.map_congr_left fun e he => h2 e he
  rw [e1, e2]
  exact double_count (fun p q => decide (p ≠ q) && decide (q ∈ refsOf G p)) _ _

/-! ### Plain: the small ones, straight -/

theorem thereG_reverse {G : Gr} (hn : (G.map (·.1)).Nodup) (p : Bs) : thereG G.reverse p = thereG G p := by
  have hn' : (G.reverse.map (·.1)).Nodup := by
    rw [List.map_reverse]; exact List.nodup_iff_pairwise_ne.2 (List.pairwise_reverse.2 ((List.nodup_iff_pairwise_ne.1 hn).imp fun h e => h e.symm))
  cases h : thereG G p with
  | some rs =>
    have h1 := thereG_some h
    exact thereG_nodup hn' (e := (p, rs)) (List.mem_reverse.2 h1)
  | none =>
    cases h2 : thereG G.reverse p with
    | none => rfl
    | some rs =>
      have h3 := thereG_some h2
      have := thereG_nodup hn (e := (p, rs)) (List.mem_reverse.1 h3)
      simp only at this
      rw [h] at this; cases this

theorem small_get (al : List Int) (st : Bool) {i : Nat} (hi : i < min al.length 14) : (smallG al st)[i]? = some (nm i, smallR al st (min al.length 14) i) := by
  simp [smallG, hi]

theorem small_refs {al : List Int} {st : Bool} {i : Nat} (hi : i < min al.length 14) : thereG (smallG al st) (nm i) = some (smallR al st (min al.length 14) i) :=
  thereG_nodup (small_nodup al st) (e := (nm i, smallR al st (min al.length 14) i)) (List.mem_of_getElem? (small_get al st hi))

theorem straight_ready (al : List Int) : ∀ left : List Bs, left ≠ [] → (∀ x ∈ left, x ∈ (smallG al true).map (·.1)) → readyG (smallG al true).reverse left ≠ [] := by
  intro left hne hs
  -- the first of them
  have hex : ∃ i, i < min al.length 14 ∧ nm i ∈ left := by
    cases left with
    | nil => exact absurd rfl hne
    | cons x l =>
      have := hs x List.mem_cons_self
      rw [smallG_keys, List.mem_map] at this
      obtain ⟨i, hi, rfl⟩ := this
      exact ⟨i, List.mem_range.1 hi, List.mem_cons_self⟩
  have hmin : ∃ i, i < min al.length 14 ∧ nm i ∈ left ∧ ∀ k, k < i → nm k ∉ left := by
    obtain ⟨i, hi, hm⟩ := hex
    induction i using Nat.strongRecOn with
    | _ i ih =>
      by_cases h : ∃ k, k < i ∧ nm k ∈ left
      · obtain ⟨k, hk, hkm⟩ := h
        exact ih k hk (by omega) hkm
      · exact ⟨i, hi, hm, fun k hk hkm => h ⟨k, hk, hkm⟩⟩
  obtain ⟨i, hi, hm, hlow⟩ := hmin
  have : nm i ∈ readyG (smallG al true).reverse left := by
    refine mem_readyG.2 ⟨hm, fun q hq hne' => ?_⟩
    unfold refsOf at hq
    rw [thereG_reverse (small_nodup al true), small_refs hi, Option.getD_some] at hq
    simp only [smallR, List.mem_map, List.mem_filter, List.mem_range, tot] at hq
    obtain ⟨k, ⟨hk, _⟩, rfl⟩ := hq
    simp at hk
    have hki : k ≠ i := fun e => hne' (by rw [e])
    exact hlow k (by omega)
  exact fun e => by rw [e] at this; cases this

theorem smallR_nodup (al : List Int) (st : Bool) {n i : Nat} (hn : n ≤ 14) (hi : i < n) : (smallR al st n i).Nodup := by
  unfold smallR
  have ht : tot st n i ≤ 14 := by unfold tot; split <;> omega
  rw [List.nodup_iff_pairwise_ne, List.pairwise_map]
  refine List.Pairwise.imp_of_mem ?_ (List.nodup_range.filter _)
  intro a b ha hb hab e
  have h1 := List.mem_range.1 (List.mem_filter.1 ha).1
  have h2 := List.mem_range.1 (List.mem_filter.1 hb).1
  exact hab (nm_inj (by omega) (by omega) e)

theorem small_refs_nodup (al : List Int) (st : Bool) : ∀ e ∈ smallG al st, e.2.Nodup := fun e he => by
  simp only [smallG, List.mem_map, List.mem_range] at he
  obtain ⟨i, hi, rfl⟩ := he
  exact smallR_nodup al st (by omega) hi

/-- The order of the small ones, handed in from the last one on. -/
theorem straight_order (al : List Int) : let G := smallG al true; (orderG G.reverse).length = G.length ∧ (orderG G.reverse).Nodup ∧ (∀ x, x ∈ orderG G.reverse ↔ x ∈ G.map (·.1)) ∧
    ∀ (i : Nat) p, (orderG G.reverse)[i]? = some p → ∀ q ∈ refsOf G p, q ≠ p → q ∈ (orderG G.reverse).take i := by
  intro G
  have hn : (G.map (·.1)).Nodup := small_nodup al true
  have hk : ∀ x, x ∈ keysG G.reverse [] ↔ x ∈ G.map (·.1) := fun x => by
    rw [keysG_mem]; simp
  obtain ⟨rest, e1, e2, e3, e4⟩ := ord_topo (G := G.reverse) (ks := G.map (·.1)) (straight_ready al) _ (keysG G.reverse []) [] rfl (keysG_nodup _ _ List.nodup_nil) (fun x hx => (hk x).1 hx)
  have ho : orderG G.reverse = rest := by unfold orderG; rw [e1]; simp
  rw [ho]
  refine ⟨?_, e2, fun x => by rw [e3, hk], fun i p hp q hq hqp => ?_⟩
  · have := nodup_len_eq e2 hn fun x => by rw [e3, hk]
    simpa using this
  · have hro : refsOf G.reverse p = refsOf G p := by unfold refsOf; rw [thereG_reverse hn]
    refine e4 i p hp q (by rw [hro]; exact hq) hqp ?_
    rw [hk]
    unfold refsOf at hq
    cases ht : thereG G p with
    | none => rw [ht] at hq; simp at hq
    | some rs =>
      rw [ht, Option.getD_some] at hq
      exact closedG_iff.1 (small_closed al true) _ _ ht q hq

/-! ### The walk -/

theorem sum_take {f : Bs × List Bs → Nat} {G : Gr} {i : Nat} {e : Bs × List Bs} (he : G[i]? = some e) : ((G.take (i + 1)).map f).sum = ((G.take i).map f).sum + f e := by
  obtain ⟨hi, h⟩ := List.getElem?_eq_some_iff.1 he
  rw [List.take_succ_eq_append_getElem hi, h]
  simp

/-- The second part: counting. -/
theorem order_count {B : AHeap} (hw : B.WF) {p : AV} {G : Gr} (hp : PRep B p G) (hG : SmallG G) (hGl : G.length ≤ 14) (hn : (G.map (·.1)).Nodup) (hc : closedG G = true) (hr : ∀ e ∈ G, e.2.Nodup) (hrl : ∀ e ∈ G, e.2.length ≤ 14) {N : Nat} (hN : 100 < N) :
    ∃ h', loopN (F6_b27 EG N) N (p, .int .i64 (0 : Int), .int .i64 (0 : Int), .int .i64 (0 : Int), ()) [] B = some (.bool true, h') := by
  have hrefl : ∀ q, (referrersG G q).length ≤ 14 := fun q => by
    refine Nat.le_trans (List.length_filter_le _ _) ?_
    rw [sortS_length]
    have := keysG_length G []
    simp at this; omega
  have hbn : ∀ i, i ≤ G.length → ((G.take i).map fun e => (referrersG G e.1).length).sum ≤ 14 * i := by
    intro i
    induction i with
    | zero => simp
    | succ i ih =>
      intro hi
      rw [sum_take (List.getElem?_eq_getElem (show i < G.length from hi))]
      have := ih (by omega)
      have := hrefl G[i].1
      omega
  have hbm : ∀ i, i ≤ G.length → ((G.take i).map fun e => (e.2.filter fun q => decide (q ≠ e.1)).length).sum ≤ 14 * i := by
    intro i
    induction i with
    | zero => simp
    | succ i ih =>
      intro hi
      rw [sum_take (List.getElem?_eq_getElem (show i < G.length from hi))]
      have := ih (by omega)
      have h1 := List.length_filter_le (fun q => decide (q ≠ G[i].1)) G[i].2
      have h2 := hrl G[i] (List.getElem_mem _)
      omega
  refine loop_rule (σ := AV × AV × AV × AV × Unit) (R := AV × AHeap) (total := G.length)
    (I := fun i s hh => i ≤ G.length ∧ Ext B hh ∧ s = (p, .int .i64 ((((G.take i).map fun e => (referrersG G e.1).length).sum : Nat) : Int), .int .i64 ((((G.take i).map fun e => (e.2.filter fun q => decide (q ≠ e.1)).length).sum : Nat) : Int), .int .i64 (i : Int), ()))
    (Q := fun o => ∃ h', o = some (.bool true, h')) ?_ _ 0 _ _ ⟨by omega, Ext.refl hw, by simp⟩ (by omega) (by omega)
  rintro i s hh nx ⟨hi, hext, rfl⟩
  simp only [F6_b27, prep_len (hp.ext hext), valK_s, abin_lss]
  by_cases hlt : i < G.length
  · left
    have he : G[i]? = some G[i] := List.getElem?_eq_getElem hlt
    obtain ⟨o, off, rv, q1, q2, q3, q4, q5⟩ := prep_at (hp.ext hext) he
    obtain ⟨v1, h1, c1, c2, x1⟩ := referrers_run hext.wf (hp.ext hext) hG G[i].1
    have b1 := hbn i hi
    have b2 := hbm i hi
    have b3 := hrefl G[i].1
    have b4 := hrl G[i] (List.getElem_mem _)
    have hadd : abin tab .add 3 (.int .i64 ((((G.take i).map fun e => (referrersG G e.1).length).sum : Nat) : Int)) (.int .i64 ((referrersG G G[i].1).length : Int)) = some (.int .i64 ((((G.take (i + 1)).map fun e => (referrersG G e.1).length).sum : Nat) : Int)) := by
      rw [abin_add (by omega) (by omega), sum_take he]; rfl
    simp only [ltT hlt, boolK_t, q1, fa28_0, q2, valK_s, c1, bothK_s, srow_len c2.row, hadd]
    have hext1 := hext.trans x1
    -- the inner loop
    have inner : ∃ h2, loopN (F6_b31 EG N nx) N (p, .int .i64 ((((G.take (i + 1)).map fun e => (referrersG G e.1).length).sum : Nat) : Int), .int .i64 ((((G.take i).map fun e => (e.2.filter fun q => decide (q ≠ e.1)).length).sum : Nat) : Int), .int .i64 (i : Int), .int .i64 (0 : Int), ()) [] h1 =
        nx (p, .int .i64 ((((G.take (i + 1)).map fun e => (referrersG G e.1).length).sum : Nat) : Int), .int .i64 ((((G.take (i + 1)).map fun e => (e.2.filter fun q => decide (q ≠ e.1)).length).sum : Nat) : Int), .int .i64 ((i + 1 : Nat) : Int), ()) [] h2 ∧ Ext B h2 := by
      refine loop_rule (σ := AV × AV × AV × AV × AV × Unit) (R := AV × AHeap) (total := G[i].2.length)
        (I := fun j s h2 => j ≤ G[i].2.length ∧ h2 = h1 ∧ s = (p, .int .i64 ((((G.take (i + 1)).map fun e => (referrersG G e.1).length).sum : Nat) : Int), .int .i64 ((((G.take i).map fun e => (e.2.filter fun q => decide (q ≠ e.1)).length).sum + ((G[i].2.take j).filter fun q => decide (q ≠ G[i].1)).length : Nat) : Int), .int .i64 (i : Int), .int .i64 (j : Int), ()))
        (Q := fun o => ∃ h2, o = nx (p, .int .i64 ((((G.take (i + 1)).map fun e => (referrersG G e.1).length).sum : Nat) : Int), .int .i64 ((((G.take (i + 1)).map fun e => (e.2.filter fun q => decide (q ≠ e.1)).length).sum : Nat) : Int), .int .i64 ((i + 1 : Nat) : Int), ()) [] h2 ∧ Ext B h2) ?_ _ 0 _ _ ⟨by omega, rfl, by simp⟩ (by omega) (by omega)
      rintro j s h2 nx2 ⟨hj, rfl, rfl⟩
      obtain ⟨o', off', rv', u1, u2, u3, u4, u5⟩ := prep_at (hp.ext hext1) he
      simp only [F6_b31, u1, fa28_1, fa28_0, u3, valK_s, srow_len u4, abin_lss]
      by_cases hlj : j < G[i].2.length
      · left
        obtain ⟨pp, w1, w2⟩ := srow_get u4 (List.getElem?_eq_getElem hlj)
        have htk : (G[i].2.take (j + 1)).filter (fun q => decide (q ≠ G[i].1)) = (G[i].2.take j).filter (fun q => decide (q ≠ G[i].1)) ++ (if decide (G[i].2[j] ≠ G[i].1) = true then [G[i].2[j]] else []) := by
          rw [List.take_succ_eq_append_getElem hlj, List.filter_append]
          congr 1
          simp [List.filter_cons]
        have hfl : ((G[i].2.take j).filter fun q => decide (q ≠ G[i].1)).length ≤ j := Nat.le_trans (List.length_filter_le _ _) (by simp; omega)
        simp only [ltT hlj, boolK_t, w1, w2, u2, valK_s, abin_strne]
        by_cases hne : G[i].2[j] = G[i].1
        · simp only [hne, decide_true, Bool.not_true, boolK_f, abin_inc (show j < 4611686018427387904 by omega), valK_s]
          refine ⟨hlj, _, _, rfl, by omega, rfl, ?_⟩
          rw [htk]; simp [hne]
        · simp only [decide_eq_false hne, Bool.not_false, boolK_t, abin_inc (show j < 4611686018427387904 by omega), abin_inc (show ((G.take i).map fun e => (e.2.filter fun q => decide (q ≠ e.1)).length).sum + ((G[i].2.take j).filter fun q => decide (q ≠ G[i].1)).length < 4611686018427387904 by omega), valK_s]
          refine ⟨hlj, _, _, rfl, by omega, rfl, ?_⟩
          rw [htk, if_pos (by simpa using hne)]
          simp; omega
      · right
        have hje : j = G[i].2.length := by omega
        subst hje
        simp only [ltF hlj, boolK_f, abin_inc (show i < 4611686018427387904 by omega), valK_s]
        refine ⟨_, ?_, hext1⟩
        rw [List.take_length, ← sum_take (f := fun e => (e.2.filter fun q => decide (q ≠ e.1)).length) he]
    obtain ⟨h2, i1, i2⟩ := inner
    rw [i1]
    exact ⟨hlt, _, _, rfl, by omega, i2, rfl⟩
  · right
    have hie : i = G.length := by omega
    subst hie
    simp only [ltF hlt, boolK_f, List.take_length, both_sides hn hc hr, abin_eql, decide_true, valK_s, boolK_t, run14, bothK_s, unmark_nil, hpK_s]
    exact ⟨hh, rfl⟩

/-- The first part: each path stands behind all that it refers to. -/
theorem order_checks {B : AHeap} (hw : B.WF) {p ord : AV} {G : Gr} {O : List Bs} (hp : PRep B p G) (ho : SRow B ord O) (hG : SmallG G) (hGl : G.length ≤ 14) (hn : (G.map (·.1)).Nodup) (hc : closedG G = true) (hr : ∀ e ∈ G, e.2.Nodup) (hrl : ∀ e ∈ G, e.2.length ≤ 14)
    (hnm : ∀ (k : Nat) e, G[k]? = some e → e.1 = nm k) (hOl : O.length = G.length) (hOn : O.Nodup) (hOm : ∀ x, x ∈ O ↔ x ∈ G.map (·.1)) (hOt : ∀ (i : Nat) x, O[i]? = some x → ∀ q ∈ refsOf G x, q ≠ x → q ∈ O.take i) {N : Nat} (hN : 100 < N) :
    ∃ h', loopN (F6_b12 EG N) N (p, ord, .nilslice, .int .i64 (0 : Int), ()) [] B = some (.bool true, h') := by
  refine loop_rule (σ := AV × AV × AV × AV × Unit) (R := AV × AHeap) (total := O.length)
    (I := fun i s hh => i ≤ O.length ∧ Ext B hh ∧ ∃ come, s = (p, ord, come, .int .i64 (i : Int), ()) ∧ SOwn B hh come (O.take i))
    (Q := fun o => ∃ h', o = some (.bool true, h')) ?_ _ 0 _ _ ⟨by omega, Ext.refl hw, .nilslice, rfl, own_nil _ _ 1⟩ (by omega) (by omega)
  rintro i s hh nx ⟨hi, hext, come, rfl, hcome⟩
  simp only [F6_b12, srow_len (ho.ext hext), valK_s, abin_lss, jn_a]
  by_cases hlt : i < O.length
  · left
    have hOi : O[i]? = some O[i] := List.getElem?_eq_getElem hlt
    obtain ⟨a, a1, a2⟩ := srow_get (ho.ext hext) hOi
    -- which path it is
    obtain ⟨k, hk, hek⟩ : ∃ k, ∃ hk : k < G.length, O[i] = nm k := by
      have := (hOm O[i]).1 (List.getElem_mem hlt)
      obtain ⟨e, he, h1⟩ := List.mem_map.1 this
      obtain ⟨k, hk, rfl⟩ := List.getElem_of_mem he
      exact ⟨k, hk, by rw [← h1]; exact hnm k _ (List.getElem?_eq_getElem hk)⟩
    have hk14 : k < 14 := by omega
    have hGk : G[k]? = some G[k] := List.getElem?_eq_getElem hk
    have hGk1 : G[k].1 = nm k := hnm k _ hGk
    have ix : aindex tab 9 (.str (nm k)) (.int .i64 0) = some (.int .u8 ((UInt8.ofNat (97 + k)).toNat : Int)) := rfl
    have cv : ∀ h, aconvert tab h 5 3 (.int .u8 ((UInt8.ofNat (97 + k)).toNat : Int)) = some (.int .i64 (awrap .i64 ((UInt8.ofNat (97 + k)).toNat : Int)), h) := fun h => rfl
    have hch : ((UInt8.ofNat (97 + k)).toNat : Int) = ((97 + k : Nat) : Int) := by
      have : ∀ j : Fin 14, ((UInt8.ofNat (97 + j.val)).toNat : Int) = ((97 + j.val : Nat) : Int) := by decide
      exact this ⟨k, hk14⟩
    have hw1 : awrap .i64 ((UInt8.ofNat (97 + k)).toNat : Int) = ((97 + k : Nat) : Int) := by rw [hch]; exact awrap_i64 (by omega) (by omega)
    have hsub : abin tab .sub 3 (.int .i64 ((97 + k : Nat) : Int)) (.int .i64 97) = some (.int .i64 (k : Int)) := by
      rw [abin_sub (by omega) (by omega)]; congr 2; omega
    have hlen1 : alen tab hh 9 (.str (nm k)) = some (.int .i64 1) := rfl
    rw [hek] at a2
    have hnc : nm k ∉ O.take i := fun hc' => by
      have h1 := hOn
      rw [← List.take_append_drop i O, List.nodup_append] at h1
      refine h1.2.2 _ hc' (nm k) ?_ rfl
      rw [← hek, List.drop_eq_getElem_cons hlt]; exact List.mem_cons_self
    have hcl : (O.take i).length ≤ 14 := by simp; omega
    have hh1 := has_run hcome.row (by omega) (s := nm k)
    have e1 : decide ((k : Int) < 0) = false := by rw [decide_eq_false_iff_not]; omega
    have e2 : decide (((G.length : Nat) : Int) ≤ (k : Int)) = false := by rw [decide_eq_false_iff_not]; omega
    have e3 : decide ((1 : Int) = 1) = true := rfl
    simp only [ltT hlt, boolK_t, a1, a2, valK_s, ix, cv, bothK_s, hw1, hsub, hlen1, abin_neq, e3, Bool.not_true, boolK_f, abin_lss, e1, prep_len (hp.ext hext), abin_geq, e2, hh1, decide_eq_false hnc]
    -- the references
    have inner : ∃ come' h', loopN (F6_b18 EG N nx) N (p, ord, come, .int .i64 (i : Int), .int .i64 (k : Int), .int .i64 (0 : Int), ()) [] hh = nx (p, ord, come', .int .i64 ((i + 1 : Nat) : Int), ()) [] h' ∧ Ext B h' ∧ SOwn B h' come' (O.take (i + 1)) := by
      refine loop_rule (σ := AV × AV × AV × AV × AV × AV × Unit) (R := AV × AHeap) (total := G[k].2.length)
        (I := fun j s h2 => j ≤ G[k].2.length ∧ Ext hh h2 ∧ s = (p, ord, come, .int .i64 (i : Int), .int .i64 (k : Int), .int .i64 (j : Int), ()))
        (Q := fun o => ∃ come' h', o = nx (p, ord, come', .int .i64 ((i + 1 : Nat) : Int), ()) [] h' ∧ Ext B h' ∧ SOwn B h' come' (O.take (i + 1))) ?_ _ 0 _ _ ⟨by omega, Ext.refl hext.wf, rfl⟩ (by have := hrl G[k] (List.getElem_mem _); omega) (by omega)
      rintro j s h2 nx2 ⟨hj, hx2, rfl⟩
      have hext2 := hext.trans hx2
      obtain ⟨o', off', rv', u1, u2, u3, u4, u5⟩ := prep_at (hp.ext hext2) hGk
      obtain ⟨a', b1, b2⟩ := srow_get (ho.ext hext2) hOi
      rw [a1] at b1; cases b1
      rw [hek] at b2
      simp only [F6_b18, u1, fa28_1, u3, valK_s, srow_len u4, abin_lss, a1, b2]
      by_cases hlj : j < G[k].2.length
      · left
        obtain ⟨pp, w1, w2⟩ := srow_get u4 (List.getElem?_eq_getElem hlj)
        simp only [ltT hlj, boolK_t, w1, w2, valK_s, abin_streq]
        by_cases heq : G[k].2[j] = nm k
        · simp only [decide_eq_true heq, boolK_t, abin_inc (show j < 4611686018427387904 by have := hrl G[k] (List.getElem_mem _); omega), valK_s]
          exact ⟨hlj, _, _, rfl, by omega, hx2, rfl⟩
        · have hro : refsOf G (nm k) = G[k].2 := by
            unfold refsOf
            rw [← hGk1, thereG_nodup hn (List.getElem_mem hk)]; rfl
          have hin : G[k].2[j] ∈ O.take i := hOt i (nm k) (by rw [hOi, hek]) _ (by rw [hro]; exact List.getElem_mem hlj) heq
          have r1 := has_run (hcome.row.ext hx2) (by omega) (s := G[k].2[j])
          obtain ⟨v3, h3, c1, c2, x3⟩ := referrers_run hx2.wf (hp.ext hext2) hG G[k].2[j]
          have hrf : nm k ∈ referrersG G G[k].2[j] := by
            unfold referrersG
            rw [List.mem_filter, mem_sortS, keysG_mem]
            refine ⟨.inr (by rw [← hGk1]; exact List.mem_map_of_mem (List.getElem_mem hk)), ?_⟩
            simp only [Bool.and_eq_true, decide_eq_true_eq]
            exact ⟨fun e => heq e.symm, by rw [hro]; exact List.getElem_mem hlj⟩
          have hrfl : (referrersG G G[k].2[j]).length < 1000000000 := by
            have h1 : (referrersG G G[k].2[j]).length ≤ (sortS (keysG G [])).length := List.length_filter_le _ _
            rw [sortS_length] at h1
            have := keysG_length G []
            simp at this; omega
          have r2 := has_run c2.row hrfl (s := nm k)
          obtain ⟨a3, b3, b4⟩ := srow_get (ho.ext (hext2.trans x3)) hOi
          rw [a1] at b3; cases b3
          rw [hek] at b4
          simp only [decide_eq_false heq, boolK_f, r1, decide_eq_true hin, bothK_s, aun_not, Bool.not_true, valK_s, b2, c1, b4, sameK_r, r2, decide_eq_true hrf, abin_inc (show j < 4611686018427387904 by have := hrl G[k] (List.getElem_mem _); omega)]
          exact ⟨hlj, _, _, rfl, by omega, hx2.trans x3, rfl⟩
      · right
        obtain ⟨y, h3, v', h', p1, p2, p3, p4⟩ := push1 (x := .str (nm k)) ty26 ty9 rfl rfl (by decide) (hcome.ext hx2) hext2 rfl (by omega)
        simp only [ltF hlj, boolK_f, p1, p2, bothK_s, abin_inc (show i < 4611686018427387904 by omega), valK_s]
        refine ⟨v', h', rfl, p4, ?_⟩
        rw [List.take_succ_eq_append_getElem hlt, hek]
        exact sown_push p3
    obtain ⟨come', h', i1, i2, i3⟩ := inner
    rw [i1]
    exact ⟨hlt, _, _, rfl, by omega, i2, come', rfl, i3⟩
  · right
    simp only [ltF hlt, boolK_f]
    obtain ⟨h', e⟩ := order_count hext.wf (hp.ext hext) hG hGl hn hc hr hrl hN
    exact ⟨h', e⟩

theorem pcells_rev_push (pl : List (Bs × AV)) (e : Bs × AV) : True := trivial

theorem graphOrder_walk {h : AHeap} (hw : h.WF) {v0 : AV} {al : List Int} (hr0 : Row h v0 al.length 1 (al.map (AV.int .u16))) {N : Nat} (hN : 2000 ≤ N) :
    ∃ h', F6 EG N v0 h = some (.bool true, h') := by
  unfold F6
  obtain ⟨p, h1, e1, p1, x1⟩ := small_run hw hr0 true
  have hGl := small_length al true
  have hnod := small_nodup al true
  have hcl := small_closed al true
  have hsm := small_small al true
  have hrn := small_refs_nodup al true
  have hrl : ∀ e ∈ smallG al true, e.2.length ≤ 14 := fun e he => by
    simp only [smallG, List.mem_map, List.mem_range] at he
    obtain ⟨i, hi, rfl⟩ := he
    have := smallR_length al true (min al.length 14) i
    have h2 : tot true (min al.length 14) i ≤ 14 := by unfold tot; simp; omega
    simp only; omega
  have hnm : ∀ (k : Nat) e, (smallG al true)[k]? = some e → e.1 = nm k := fun k e he => by
    have hk : k < min al.length 14 := by
      have := (List.getElem?_eq_some_iff.1 he).1
      omega
    rw [small_get al true hk] at he; cases he; rfl
  have hord := straight_order al
  simp only at hord
  generalize smallG al true = G at *
  have hgl : G.length ≤ 14 := by omega
  have hsub : abin tab .sub 3 (.int .i64 (G.length : Int)) (.int .i64 1) = some (.int .i64 ((G.length : Int) - 1)) := abin_sub (by omega) (by omega)
  simp only [e1, bothK_s, prep_len p1, valK_s, hsub]
  -- from the last one on
  refine loop_rule (σ := AV × AV × AV × Unit) (R := AV × AHeap) (total := G.length)
    (I := fun i s hh => i ≤ G.length ∧ Ext h1 hh ∧ ∃ back pl, s = (p, back, .int .i64 ((G.length : Int) - 1 - i), ()) ∧ Own h1 hh back pl.length 4 (pcells pl) ∧ Rel2 h1 pl (G.reverse.take i))
    (Q := fun o => ∃ h', o = some (.bool true, h')) ?_ _ 0 _ _ ⟨by omega, Ext.refl x1.wf, .nilslice, [], by simp, own_nil _ _ 4, trivial⟩ (by omega) (by omega)
  rintro i s hh nx ⟨hi, hext, back, pl, rfl, ho, hrel⟩
  have hpl : pl.length = i := by rw [hrel.length]; simp; omega
  simp only [F6_b4, abin_geq, valK_s]
  by_cases hlt : i < G.length
  · left
    have hge : decide ((0 : Int) ≤ (G.length : Int) - 1 - i) = true := by rw [decide_eq_true_eq]; omega
    have hidx : ((G.length : Int) - 1 - i) = ((G.length - 1 - i : Nat) : Int) := by omega
    have hkl : G.length - 1 - i < G.length := by omega
    have he : G[G.length - 1 - i]? = some G[G.length - 1 - i] := List.getElem?_eq_getElem hkl
    obtain ⟨o, off, rv, q1, _, q3, q4, q5⟩ := prep_at (p1.ext hext) he
    obtain ⟨o', off', rv', q1', _, _, q4', q5'⟩ := prep_at p1 he
    have hrr : rv = rv' := by
      rw [q1] at q1'; cases q1'
      have : loadA tab hh 28 (.ptr o off) = some (.agg [.str G[G.length - 1 - i].1, rv', .str [], .str []]) := by
        simp only [loadA, aload] at q5' ⊢
        split at q5'
        · rename_i vs _ ty hg ht
          rw [hext.keep _ _ hg, ht]
          exact q5'
        · cases q5'
      rw [q5] at this; cases this; rfl
    subst hrr
    obtain ⟨y, h2, v', h', a1, a2, a3, a4⟩ := push_path (s := G[G.length - 1 - i].1) (rs := G[G.length - 1 - i].2) ho hext (row_one q4) (by omega)
    have hdec : abin tab .sub 3 (.int .i64 ((G.length : Int) - 1 - i)) (.int .i64 1) = some (.int .i64 ((G.length : Int) - 1 - ((i + 1 : Nat) : Int))) := by
      rw [abin_sub (by omega) (by omega)]; congr 2; omega
    simp only [hge, boolK_t, hdec, valK_s]
    rw [hidx]
    simp only [q1, q5, valK_s, a1, a2, bothK_s]
    refine ⟨hlt, _, _, rfl, by omega, a4, v', pl ++ [(G[G.length - 1 - i].1, rv)], rfl, a3, ?_⟩
    rw [List.take_succ_eq_append_getElem (by simpa using hlt), List.getElem_reverse]
    exact Rel2.push ⟨rfl, q4'⟩ hrel
  · right
    have hie : i = G.length := by omega
    subst hie
    have hge : decide ((0 : Int) ≤ (G.length : Int) - 1 - G.length) = false := by rw [decide_eq_false_iff_not]; omega
    have htk : G.reverse.take G.length = G.reverse := List.take_of_length_le (by simp)
    rw [htk] at hrel
    have pback : PRep hh back G.reverse := ⟨pl, ho.row, hrel.ext hext⟩
    have sback : SmallG G.reverse := ⟨by simp; omega, fun e he => hsm.2 e (List.mem_reverse.1 he)⟩
    obtain ⟨ov, h2, c1, c2, x2⟩ := order_run hext.wf pback sback
    have hp2 := p1.ext (hext.trans x2)
    obtain ⟨h', e2⟩ := order_checks x2.wf hp2 c2.row hsm hgl hnod hcl hrn hrl hnm hord.1 hord.2.1 hord.2.2.1 hord.2.2.2 (N := N) (by omega)
    have hee : decide (((orderG G.reverse).length : Int) = (G.length : Int)) = true := by rw [hord.1]; simp
    simp only [hge, boolK_f, c1, bothK_s, srow_len c2.row, prep_len hp2, abin_neq, hee, Bool.not_true, valK_s, e2]
    exact ⟨h', rfl⟩

end Go.Am
