/-
  The document's Order; what is cut; GraphTells: the walk.
-/
import Derived.Test.YtfieacodpjpfbaaG12
set_option linter.unusedVariables false
set_option linter.unusedSimpArgs false
namespace Go.Am
open Go Go.Proofs

/-! ### ready -/

def comeB (G : Gr) (out : List Bs) (p : Bs) : Bool := (refsOf G p).all fun q => decide (q = p) || decide (q ∉ G.map (·.1)) || decide (q ∈ out)

theorem ready_run {h : AHeap} (hw : h.WF) {v w : AV} {G : Gr} (a : PRep h v G) (hG : SmallG G) {out : List Bs} (b : SRow h w out) (hn : out.length < 1000000000) {p : Bs} (hp : p ∈ G.map (·.1)) :
    ∃ h', EG (.fn 41) [v, .str p, w] h = some (.bool (comeB G out p), h') ∧ Ext h h' := by
  have hG1 := hG.1
  obtain ⟨fi, e, f1, f2, f3, f4⟩ := findI_there hp
  have hfr := find_run a (by omega) p
  rw [f1] at hfr
  obtain ⟨x23, x24, h26, h27, c, rv, g1, g2, g3, g4, g5, g6, x27⟩ := path_cell hw a f2
  have hro : refsOf G p = e.2 := by unfold refsOf; rw [f4]; rfl
  have hrs : e.2.length < 1000000000 := (hG.2 _ (thereG_some f4)).2
  suffices ∀ N, e.2.length < N → ∃ h', F41 EG N v (.str p) w h = some (.bool (comeB G out p), h') ∧ Ext h h' by
    obtain ⟨h', e', q⟩ := this _ (Nat.lt_succ_self _)
    exact ⟨h', run41 _ e', q⟩
  intro N hN
  unfold F41
  simp only [hfr, bothK_s, g1, g2, g3, g4, valK_s, hpK_s]
  refine loop_rule (σ := AV × AV × AV × AV × AV × Unit) (R := AV × AHeap) (total := e.2.length)
    (I := fun j st h4 => j ≤ e.2.length ∧ h4 = h27 ∧ st = (v, .str p, w, .ptr c 0, .int .i64 (j : Int), ()) ∧ ((e.2.take j).all fun q => decide (q = p) || decide (q ∉ G.map (·.1)) || decide (q ∈ out)) = true)
    (Q := fun o => ∃ h', o = some (.bool (comeB G out p), h') ∧ Ext h h') ?_ _ 0 _ _ ⟨by omega, rfl, rfl, rfl⟩ (by omega) (by omega)
  rintro j st h4 nx ⟨hj, rfl, rfl, hall⟩
  have l1 : loadA tab h4 26 (.ptr c 1) = some rv := loadA_cell ty26 rfl g5 rfl
  simp only [F41_b3, fa28_1', l1, valK_s, srow_len g6, abin_lss]
  by_cases hlj : j < e.2.length
  · obtain ⟨p2, b1, b2⟩ := srow_get g6 (List.getElem?_eq_getElem hlj)
    have hf2 := find_run (a.ext x27) (by omega) e.2[j]
    have hh1 := has35_run (b.ext x27) hn (s := e.2[j])
    have next : (decide (e.2[j] = p) || decide (e.2[j] ∉ G.map (·.1)) || decide (e.2[j] ∈ out)) = true → ((e.2.take (j + 1)).all fun q => decide (q = p) || decide (q ∉ G.map (·.1)) || decide (q ∈ out)) = true := fun h => by
      rw [List.take_succ_eq_append_getElem hlj, List.all_append, hall]
      simp only [List.all_cons, h, List.all_nil, Bool.and_self]
    simp only [ltT hlj, boolK_t, b1, b2, valK_s, abin_strne, hf2, bothK_s, abin_geq, findI_nonneg, hh1, aun_not]
    by_cases h1 : e.2[j] = p
    · left
      simp only [decide_eq_true h1, Bool.not_true, boolK_f, abin_inc (show j < 4611686018427387904 by omega), valK_s]
      exact ⟨hlj, _, _, rfl, by omega, rfl, rfl, next (by simp [h1])⟩
    · simp only [decide_eq_false h1, Bool.not_false, boolK_t]
      by_cases h2 : e.2[j] ∈ G.map (·.1)
      · simp only [decide_eq_true h2, boolK_t, l1, valK_s, b1, b2, hh1, bothK_s, aun_not]
        by_cases h3 : e.2[j] ∈ out
        · left
          simp only [decide_eq_true h3, Bool.not_true, boolK_f, abin_inc (show j < 4611686018427387904 by omega), valK_s]
          exact ⟨hlj, _, _, rfl, by omega, rfl, rfl, next (by simp [h3])⟩
        · right
          simp only [decide_eq_false h3, Bool.not_false, boolK_t, unmark_nil, hpK_s]
          refine ⟨_, ?_, x27⟩
          have : comeB G out p = false := by
            unfold comeB
            rw [hro, List.all_eq_false]
            exact ⟨e.2[j], List.getElem_mem hlj, by rw [decide_eq_false h1, decide_eq_false h3]; simpa using h2⟩
          rw [this]
      · left
        simp only [decide_eq_false h2, boolK_f, abin_inc (show j < 4611686018427387904 by omega), valK_s]
        exact ⟨hlj, _, _, rfl, by omega, rfl, rfl, next (by rw [decide_eq_true h2]; simp)⟩
  · right
    have hje : j = e.2.length := by omega
    subst hje
    rw [List.take_length] at hall
    simp only [ltF hlj, boolK_f, unmark_nil, hpK_s]
    refine ⟨_, ?_, x27⟩
    have : comeB G out p = true := by unfold comeB; rw [hro]; exact hall
    rw [this]

/-! ### Order -/

/-- What is left, rising. -/
def remG (G : Gr) (out : List Bs) : List Bs := (sortS (keysG G [])).filter fun q => decide (q ∉ out)

theorem remG_rising (G : Gr) (out : List Bs) : Rising (remG G out) := rising_filter (sortS_rising (keysG_nodup G [] List.nodup_nil)) _

theorem readyG_eq {G : Gr} {left out : List Bs} (hn : left.Nodup) (hl : ∀ x, x ∈ left ↔ x ∈ G.map (·.1) ∧ x ∉ out) : readyG G left = (remG G out).filter (comeB G out) ∧ sortS left = remG G out := by
  have h2 : sortS left = remG G out := rising_ext (sortS_rising hn) (remG_rising G out) fun x => by
    unfold remG
    rw [mem_sortS, hl, List.mem_filter, mem_sortS, keysG_mem]; simp
  refine ⟨?_, h2⟩
  unfold readyG
  rw [h2]
  refine List.filter_congr fun p hp => ?_
  rw [Bool.eq_iff_iff, Bool.not_eq_true', List.any_eq_false]
  unfold comeB
  rw [List.all_eq_true]
  constructor
  · intro h q hq
    have := h q hq
    simp only [Bool.and_eq_true, decide_eq_true_eq, not_and, hl] at this
    simp only [Bool.or_eq_true, decide_eq_true_eq]
    by_cases h1 : q = p
    · exact .inl (.inl h1)
    · by_cases h3 : q ∈ G.map (·.1)
      · by_cases h4 : q ∈ out
        · exact .inr h4
        · exact absurd h1 (this ⟨h3, h4⟩)
      · exact .inl (.inr h3)
  · intro h q hq
    have := h q hq
    simp only [Bool.or_eq_true, decide_eq_true_eq] at this
    simp only [Bool.and_eq_true, decide_eq_true_eq, not_and, hl]
    rintro ⟨h1, h2⟩ h3
    rcases this with (h4 | h4) | h4
    · exact h3 h4
    · exact h4 h1
    · exact h2 h4

abbrev S8 := AV × AV × AV × AV × AV × AV × AV × AV × Unit

/-- Over those that are left, from the last one on. -/
theorem order_pick {h : AHeap} (hw : h.WF) {v av ov : AV} {G : Gr} (a : PRep h v G) (hG : SmallG G) {out : List Bs} (b : SRow h av (sortS (keysG G []))) (c : SRow h ov out) (hn : out.length < 1000000) (hrem : remG G out ≠ []) {N : Nat} (hN : (sortS (keysG G [])).length < N)
    {next2 : AV × AV × AV × Unit → List Nat → AHeap → Option (AV × AHeap)} :
    ∃ p h', (∃ r, (if (remG G out).filter (comeB G out) = [] then remG G out else (remG G out).filter (comeB G out)) = p :: r) ∧ Ext h h' ∧
      loopN (F22_b7 EG N next2) N (v, av, ov, .str [], .str [], .bool false, .bool false, .int .i64 (((sortS (keysG G [])).length : Int) - 1), ()) [] h = (bothK (abuildSlice tab h' 26 1 [(0, .str p)]) fun x29 h30 => bothK (aappend tab h30 26 26 ov x29) fun x31 h32 => next2 (v, av, x31, ()) [] h32) := by
  have hG1 := hG.1
  have hkl : (sortS (keysG G [])).length ≤ G.length := by rw [sortS_length]; simpa using keysG_length G []
  obtain ⟨K, hK⟩ : ∃ K, K = sortS (keysG G []) := ⟨_, rfl⟩
  have hremK : remG G out = K.filter fun q => decide (q ∉ out) := by rw [hK]; rfl
  have hKm : ∀ x ∈ K, x ∈ G.map (·.1) := fun x hx => by
    rw [hK, mem_sortS, keysG_mem] at hx
    rcases hx with hx | hx
    · cases hx
    · exact hx
  rw [← hK] at b hN hkl ⊢
  -- what the tail from a place on tells
  let rem (i : Nat) : List Bs := (K.drop i).filter fun q => decide (q ∉ out)
  have rem_succ : ∀ i (hi : i < K.length), rem i = (if decide (K[i] ∉ out) = true then [K[i]] else []) ++ rem (i + 1) := fun i hi => by
    simp only [rem]
    rw [List.drop_eq_getElem_cons hi, List.filter_cons]
    split <;> simp
  have hd : ∀ (l : List Bs), (match l with | [] => ([] : Bs) | p :: _ => p) = l.headD [] := fun l => by cases l <;> rfl
  refine loop_rule (σ := S8) (R := AV × AHeap) (total := K.length)
    (I := fun j st hh => j ≤ K.length ∧ Ext h hh ∧ st = (v, av, ov, .str (((rem (K.length - j)).filter (comeB G out)).headD []), .str ((rem (K.length - j)).headD []), .bool (decide ((rem (K.length - j)).filter (comeB G out) ≠ [])), .bool (decide (rem (K.length - j) ≠ [])), .int .i64 ((K.length : Int) - 1 - j), ()))
    (Q := fun o => ∃ p h', (∃ r, (if (remG G out).filter (comeB G out) = [] then remG G out else (remG G out).filter (comeB G out)) = p :: r) ∧ Ext h h' ∧
      o = (bothK (abuildSlice tab h' 26 1 [(0, .str p)]) fun x29 h30 => bothK (aappend tab h30 26 26 ov x29) fun x31 h32 => next2 (v, av, x31, ()) [] h32)) ?_ N 0 _ _
    ⟨by omega, Ext.refl hw, by simp [rem]⟩ (by omega) (by omega)
  rintro j st hh nx ⟨hj, hext, rfl⟩
  simp only [F22_b7, abin_geq, valK_s, jn_a]
  by_cases hlt : j < K.length
  · left
    have hge : decide ((0 : Int) ≤ (K.length : Int) - 1 - j) = true := by rw [decide_eq_true_eq]; omega
    have hidx : ((K.length : Int) - 1 - j) = ((K.length - 1 - j : Nat) : Int) := by omega
    have hil : K.length - 1 - j < K.length := by omega
    have hi1 : K.length - j = K.length - 1 - j + 1 := by omega
    have hi2 : K.length - (j + 1) = K.length - 1 - j := by omega
    obtain ⟨i, hi⟩ : ∃ i, i = K.length - 1 - j := ⟨_, rfl⟩
    rw [← hi] at hidx hil hi1 hi2
    have hrs := rem_succ i hil
    obtain ⟨p, a1, a2⟩ := srow_get (b.ext hext) (List.getElem?_eq_getElem hil)
    have hh1 := has35_run (c.ext hext) (by omega) (s := K[i])
    obtain ⟨h3, r1, x3⟩ := ready_run hext.wf (a.ext hext) hG (c.ext hext) (by omega) (hKm K[i] (List.getElem_mem hil))
    have a2' : loadA tab h3 9 p = some (.str K[i]) := by
      obtain ⟨p', u1, u2⟩ := srow_get (b.ext (hext.trans x3)) (List.getElem?_eq_getElem hil)
      rw [a1] at u1; cases u1; exact u2
    have hdec : abin tab .sub 3 (.int .i64 (i : Int)) (.int .i64 1) = some (.int .i64 ((K.length : Int) - 1 - ((j + 1 : Nat) : Int))) := by
      rw [abin_sub (by omega) (by omega)]; congr 2; omega
    simp only [hge, boolK_t]
    rw [hidx]
    simp only [a1, a2, valK_s, hh1, bothK_s, hdec, hi1]
    rw [hi2]
    by_cases ho : K[i] ∈ out
    · simp only [decide_eq_true ho, boolK_t]
      have : rem i = rem (i + 1) := by rw [hrs, if_neg (by simp [ho])]; rfl
      exact ⟨hlt, _, _, rfl, by omega, hext, by rw [this]⟩
    · have hr : rem i = K[i] :: rem (i + 1) := by rw [hrs, if_pos (by simp [ho])]; rfl
      simp only [decide_eq_false ho, boolK_f, r1, bothK_s]
      cases hc : comeB G out K[i] with
      | true =>
        simp only [boolK_t, a2', valK_s]
        refine ⟨hlt, _, _, rfl, by omega, hext.trans x3, ?_⟩
        rw [hr]
        simp [List.filter_cons, hc]
      | false =>
        simp only [boolK_f, valK_s]
        refine ⟨hlt, _, _, rfl, by omega, hext.trans x3, ?_⟩
        rw [hr]
        simp [List.filter_cons, hc]
  · right
    have hje : j = K.length := by omega
    subst hje
    have hge : decide ((0 : Int) ≤ (K.length : Int) - 1 - K.length) = false := by rw [decide_eq_false_iff_not]; omega
    have hr0 : rem (K.length - K.length) = remG G out := by rw [hremK]; simp [rem]
    rw [hr0]
    simp only [hge, boolK_f, aun_not, valK_s, decide_eq_true hrem]
    by_cases hs : (remG G out).filter (comeB G out) = []
    · have e1 : decide ((remG G out).filter (comeB G out) ≠ []) = false := by simp [hs]
      simp only [e1, Bool.not_false, boolK_t]
      cases hrm : remG G out with
      | nil => exact absurd hrm hrem
      | cons p r =>
        refine ⟨p, hh, ⟨r, ?_⟩, hext, rfl⟩
        rw [hrm] at hs
        rw [if_pos hs]
    · have e1 : decide ((remG G out).filter (comeB G out) ≠ []) = true := by simp [hs]
      simp only [e1, Bool.not_true, boolK_f]
      cases hrm : (remG G out).filter (comeB G out) with
      | nil => exact absurd hrm hs
      | cons p r => exact ⟨p, hh, ⟨r, by rw [if_neg (by simp)]⟩, hext, rfl⟩

theorem orderR_run {h : AHeap} (hw : h.WF) {v : AV} {G : Gr} (a : PRep h v G) (hG : SmallG G) :
    ∃ v' h', EG (.fn 22) [v] h = some (v', h') ∧ SRow h' v' (orderG G) ∧ Ext h h' := by
  have hG1 := hG.1
  obtain ⟨av, h1, c1, c2, x1⟩ := allR_run hw a hG1
  have hkl : (sortS (keysG G [])).length ≤ G.length := by rw [sortS_length]; simpa using keysG_length G []
  have hlk : (sortS (keysG G [])).length = (keysG G []).length := sortS_length _
  suffices ∀ N, (sortS (keysG G [])).length < N → ∃ v' h', F22 EG N v h = some (v', h') ∧ SRow h' v' (orderG G) ∧ Ext h h' by
    obtain ⟨v', h', e, q⟩ := this _ (Nat.lt_succ_self _)
    exact ⟨v', h', run22 _ e, q⟩
  intro N hN
  unfold F22
  simp only [c1, bothK_s]
  refine loop_rule (σ := AV × AV × AV × Unit) (R := AV × AHeap) (total := (keysG G []).length)
    (I := fun i st hh => i ≤ (keysG G []).length ∧ Ext h1 hh ∧ ∃ ov, ∃ out left : List Bs, st = (v, av, ov, ()) ∧ SOwn h1 hh ov out ∧ out.length = i ∧ left.Nodup ∧ (∀ x, x ∈ left ↔ x ∈ G.map (·.1) ∧ x ∉ out) ∧ left.length + i = (keysG G []).length ∧ ordG G left.length left out = orderG G)
    (Q := fun o => ∃ v' h', o = some (v', h') ∧ SRow h' v' (orderG G) ∧ Ext h h') ?_ N 0 _ _
    ⟨by omega, Ext.refl x1.wf, .nilslice, [], keysG G [], rfl, own_nil _ _ 1, rfl, keysG_nodup G [] List.nodup_nil, fun x => by rw [keysG_mem]; simp, by omega, rfl⟩ (by omega) (by omega)
  rintro i st hh nx ⟨hi, hext, ov, out, left, rfl, ho, hol, hn, hl, hlen, hord⟩
  simp only [F22_b3, srow_len ho.row, srow_len (c2.ext hext), valK_s, abin_lss]
  have hsub : abin tab .sub 3 (.int .i64 ((sortS (keysG G [])).length : Int)) (.int .i64 1) = some (.int .i64 (((sortS (keysG G [])).length : Int) - 1)) := abin_sub (by omega) (by omega)
  by_cases hlt : out.length < (sortS (keysG G [])).length
  · left
    obtain ⟨e1, e2⟩ := readyG_eq hn hl
    have hlne : left ≠ [] := fun e => by rw [e] at hlen; simp at hlen; omega
    have hrem : remG G out ≠ [] := by
      rw [← e2]
      intro e
      have := sortS_length left
      rw [e] at this
      exact hlne (List.eq_nil_of_length_eq_zero this.symm)
    obtain ⟨p, h2, ⟨r, hp⟩, x2, hrun⟩ := order_pick hext.wf ((a.ext x1).ext hext) hG (c2.ext hext) ho.row (by omega) hrem hN (next2 := nx)
    have hpick : pickG G left = p :: r := by
      unfold pickG
      rw [e1, e2]; exact hp
    have hpm : p ∈ left := by
      have hm : p ∈ pickG G left := by rw [hpick]; exact List.mem_cons_self
      unfold pickG at hm
      split at hm
      · exact mem_sortS.1 hm
      · exact mem_sortS.1 (List.mem_filter.1 hm).1
    have hfl := filter_ne_length hn hpm
    obtain ⟨y, h3, v', h', p1, p2, p3, p4⟩ := push1 (x := .str p) ty26 ty9 rfl rfl (by decide) (ho.ext x2) (hext.trans x2) rfl (by omega)
    simp only [ltT hlt, boolK_t, hsub, valK_s, hrun, p1, p2, bothK_s]
    refine ⟨by omega, _, _, rfl, by omega, p4, v', out ++ [p], left.filter fun q => decide (q ≠ p), rfl, sown_push p3, by simp [hol], hn.filter _, fun x => ?_, by omega, ?_⟩
    · rw [List.mem_filter, hl, List.mem_append, List.mem_singleton, decide_eq_true_eq]
      constructor
      · rintro ⟨⟨h1, h2⟩, h3⟩
        exact ⟨h1, fun hc => hc.elim h2 h3⟩
      · rintro ⟨h1, h2⟩
        exact ⟨⟨h1, fun hc => h2 (.inl hc)⟩, fun hc => h2 (.inr hc)⟩
    · rw [← hord]
      have : left.length = (left.filter fun q => decide (q ≠ p)).length + 1 := by omega
      rw [this]
      simp only [ordG, hpick]
  · right
    simp only [ltF hlt, boolK_f, unmark_nil, hpK_s]
    have hl0 : left = [] := List.eq_nil_of_length_eq_zero (by omega)
    subst hl0
    simp only [List.length_nil, ordG] at hord
    rw [← hord]
    exact ⟨ov, hh, rfl, ho.row, x1.trans hext⟩

end Go.Am
