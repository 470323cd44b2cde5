/-
  The document's Closure, Dead, Closed, Referrers, Order: that they are the program's.
-/
import Derived.Test.YtfieacodpjpfbaaG11
set_option linter.unusedVariables false
set_option linter.unusedSimpArgs false
namespace Go.Am
open Go Go.Proofs

theorem names_le {G : Gr} {l : List Bs} (hr : Rising l) (h : ∀ x ∈ l, x ∈ G.map (·.1)) : l.length ≤ G.length := by
  have := nodup_len (rising_nodup hr) h
  simpa using this

/-- A path in a cell of its own. -/
theorem path_cell {h : AHeap} (hw : h.WF) {v : AV} {G : Gr} (a : PRep h v G) {i : Nat} {e : Bs × List Bs} (he : G[i]? = some e) :
    ∃ x23 x24 h26 h27 c rv, aindexAddr tab 24 v (.int .i64 (i : Int)) = some x23 ∧ loadA tab h 28 x23 = some x24 ∧ newCells h [.str [], .nilslice, .str [], .str []] (fun o => .ptr o 0) = some (.ptr c 0, h26) ∧ storeA tab h26 28 (.ptr c 0) x24 = some h27 ∧
      h27.get c = some (.cells [.str e.1, rv, .str [], .str []] true) ∧ SRow h27 rv e.2 ∧ Ext h h27 := by
  obtain ⟨o, off, rv, q1, _, _, q4, q5⟩ := prep_at a he
  have hrv := row_one q4
  have n0 : newCells h [.str [], .nilslice, .str [], .str []] (fun o => .ptr o 0) = some (.ptr h.next 0, h.add (.cells [.str [], .nilslice, .str [], .str []] true)) := rfl
  have s0 : storeA tab (h.add (.cells [.str [], .nilslice, .str [], .str []] true)) 28 (.ptr h.next 0) (.agg [.str e.1, rv, .str [], .str []]) = some ((h.add (.cells [.str [], .nilslice, .str [], .str []] true)).put h.next (.cells [.str e.1, rv, .str [], .str []] true)) := by
    simp only [storeA, astore, AHeap.get_add_self, ty28, AV.cells, allOne, hrv, str_one, splice]
    simp [Nat.beq, ble_dec]
  have x2 : Ext h ((h.add (.cells [.str [], .nilslice, .str [], .str []] true)).put h.next (.cells [.str e.1, rv, .str [], .str []] true)) := ((Ext.refl hw).add _).put hw.new (AHeap.get_add_self _ _) _
  exact ⟨_, _, _, _, h.next, rv, q1, q5, n0, s0, AHeap.get_put_self _ _ _, q4.ext x2, x2⟩

theorem fa28_1' {c : Nat} : afieldAddr tab 28 (.ptr c 0) 1 = some (.ptr c 1) := rfl

abbrev S7 := AV × AV × AV × AV × AV × AV × AV × Unit

/-- Reached from some. -/
def RF (G : Gr) (frm : List Bs) (x : Bs) : Prop := ∃ p ∈ frm, Rch (thereG G) p x

theorem RF.name {G : Gr} {frm : List Bs} {x : Bs} (h : RF G frm x) : x ∈ G.map (·.1) := by
  obtain ⟨p, _, hr⟩ := h
  exact (thereG_mem G x).1 hr.right

theorem closureR_run {h : AHeap} (hw : h.WF) {v w : AV} {G : Gr} (a : PRep h v G) (hG : SmallG G) {frm : List Bs} (b : SRow h w frm) (hn : frm.length < 1000000) :
    ∃ v' h', EG (.fn 18) [v, w] h = some (v', h') ∧ SRow h' v' (closureG G frm) ∧ Ext h h' := by
  have hG1 := hG.1
  suffices ∀ N, frm.length < N → G.length + 1 < N → (∀ e ∈ G, e.2.length < N) → ∃ v' h', F18 EG N v w h = some (v', h') ∧ SRow h' v' (closureG G frm) ∧ Ext h h' by
    obtain ⟨N, h1, h2, h3⟩ : ∃ N, frm.length < N ∧ G.length + 1 < N ∧ ∀ e ∈ G, e.2.length < N := ⟨1000000000 + frm.length + G.length + 2, by omega, by omega, fun e he => by have := (hG.2 e he).2; omega⟩
    obtain ⟨v', h', e, q⟩ := this N h1 h2 h3
    exact ⟨v', h', run18 _ e, q⟩
  intro N hN1 hN2 hN3
  -- the rounds, till nothing is new
  have rounds : ∀ {hh : AHeap} {out : AV} {l : List Bs}, Ext h hh → SRow hh out l → Rising l → (∀ x ∈ l, RF G frm x) → (∀ q ∈ frm, q ∈ G.map (·.1) → q ∈ l) →
      ∃ v' h', loopN (F18_b7 EG N) N (v, out, ()) [] hh = some (v', h') ∧ SRow h' v' (closureG G frm) ∧ Ext h h' := by
    intro hh0 out0 l0 hext0 hrow0 hris0 hrf0 hfrm0
    refine loop_rule (σ := AV × AV × Unit) (R := AV × AHeap) (total := G.length + 1) (I := fun i st hh => i ≤ G.length + 1 ∧ Ext h hh ∧ ∃ out, ∃ l : List Bs, st = (v, out, ()) ∧ SRow hh out l ∧ Rising l ∧ (∀ x ∈ l, RF G frm x) ∧ (∀ q ∈ frm, q ∈ G.map (·.1) → q ∈ l) ∧ i ≤ l.length)
      (Q := fun o => ∃ v' h', o = some (v', h') ∧ SRow h' v' (closureG G frm) ∧ Ext h h') ?_ _ 0 _ _ ⟨by omega, hext0, out0, l0, rfl, hrow0, hris0, hrf0, hfrm0, by omega⟩ (by omega) (by omega)
    rintro r st hh nx ⟨hr, hext, out, l, rfl, hrow, hris, hrf, hfrm, hrl⟩
    have hll := names_le hris fun x hx => (hrf x hx).name
    simp only [F18_b7, srow_len hrow, valK_s]
    -- over those that have come
    refine loop_rule (σ := AV × AV × AV × AV × AV × Unit) (R := AV × AHeap) (total := l.length)
      (I := fun i st h1 => i ≤ l.length ∧ Ext hh h1 ∧ ∃ next, ∃ k : List Bs, st = (v, out, .int .i64 (l.length : Int), next, .int .i64 (i : Int), ()) ∧ SRow h1 next k ∧ Rising k ∧ (∀ x ∈ k, RF G frm x) ∧ (∀ x ∈ l, x ∈ k) ∧ (∀ x ∈ l.take i, Shut (thereG G) k x))
      (Q := fun o => (r < G.length + 1 ∧ ∃ s' h', o = nx s' [] h' ∧ (r + 1 ≤ G.length + 1 ∧ Ext h h' ∧ ∃ out, ∃ l : List Bs, s' = (v, out, ()) ∧ SRow h' out l ∧ Rising l ∧ (∀ x ∈ l, RF G frm x) ∧ (∀ q ∈ frm, q ∈ G.map (·.1) → q ∈ l) ∧ r + 1 ≤ l.length)) ∨
        ∃ v' h', o = some (v', h') ∧ SRow h' v' (closureG G frm) ∧ Ext h h') ?_ N 0 _ _ ⟨by omega, Ext.refl hext.wf, out, l, rfl, hrow, hris, hrf, fun x hx => hx, by simp⟩ (by omega) (by omega)
    rintro i st h1 nx2 ⟨hi, hx1, next, k, rfl, hk1, hk2, hk3, hk4, hk5⟩
    have hext1 := hext.trans hx1
    simp only [F18_b10, srow_len (hrow.ext hx1), valK_s, abin_lss]
    by_cases hlt : i < l.length
    · left
      obtain ⟨pp, a1, a2⟩ := srow_get (hrow.ext hx1) (List.getElem?_eq_getElem hlt)
      have hname := (hrf l[i] (List.getElem_mem hlt)).name
      obtain ⟨fi, e, f1, f2, f3, f4⟩ := findI_there hname
      have hfr := find_run (a.ext hext1) (by omega) l[i]
      rw [f1] at hfr
      obtain ⟨x23, x24, h26, h27, c, rv, g1, g2, g3, g4, g5, g6, x27⟩ := path_cell hext1.wf (a.ext hext1) f2
      simp only [ltT hlt, boolK_t, a1, a2, valK_s, hfr, bothK_s, g1, g2, g3, g4, hpK_s]
      -- over its references
      have inner : ∃ next' h4, ∃ k' : List Bs, loopN (F18_b14 EG N nx2) N (v, out, .int .i64 (l.length : Int), next, .int .i64 (i : Int), .ptr c 0, .int .i64 (0 : Int), ()) [] h27 = nx2 (v, out, .int .i64 (l.length : Int), next', .int .i64 ((i + 1 : Nat) : Int), ()) [] h4 ∧
          Ext h27 h4 ∧ SRow h4 next' k' ∧ Rising k' ∧ (∀ x ∈ k', RF G frm x) ∧ (∀ x ∈ k, x ∈ k') ∧ (∀ q ∈ e.2, q ∈ G.map (·.1) → q ∈ k') := by
        refine loop_rule (σ := S7) (R := AV × AHeap) (total := e.2.length)
          (I := fun j st h4 => j ≤ e.2.length ∧ Ext h27 h4 ∧ ∃ next', ∃ k' : List Bs, st = (v, out, .int .i64 (l.length : Int), next', .int .i64 (i : Int), .ptr c 0, .int .i64 (j : Int), ()) ∧ SRow h4 next' k' ∧ Rising k' ∧ (∀ x ∈ k', RF G frm x) ∧ (∀ x ∈ k, x ∈ k') ∧ (∀ q ∈ e.2.take j, q ∈ G.map (·.1) → q ∈ k'))
          (Q := fun o => ∃ next' h4, ∃ k' : List Bs, o = nx2 (v, out, .int .i64 (l.length : Int), next', .int .i64 ((i + 1 : Nat) : Int), ()) [] h4 ∧
            Ext h27 h4 ∧ SRow h4 next' k' ∧ Rising k' ∧ (∀ x ∈ k', RF G frm x) ∧ (∀ x ∈ k, x ∈ k') ∧ (∀ q ∈ e.2, q ∈ G.map (·.1) → q ∈ k')) ?_ _ 0 _ _
          ⟨by omega, Ext.refl x27.wf, next, k, rfl, hk1.ext x27, hk2, hk3, fun x hx => hx, by simp⟩ (by have := hN3 e (thereG_some (p := e.1) (by rw [f3]; exact f4)); omega) (by omega)
        rintro j st h4 nx3 ⟨hj, hx4, next', k', rfl, m1, m2, m3, m4, m5⟩
        have hext4 := (hext1.trans x27).trans hx4
        have l1 : loadA tab h4 26 (.ptr c 1) = some rv := loadA_cell ty26 rfl (hx4.keep _ _ g5) rfl
        have r4 := g6.ext hx4
        simp only [F18_b14, fa28_1', l1, valK_s, srow_len r4, abin_lss]
        have hrs : e.2.length < 1000000000 := (hG.2 e (thereG_some (p := e.1) (by rw [f3]; exact f4))).2
        by_cases hlj : j < e.2.length
        · left
          obtain ⟨p2, b1, b2⟩ := srow_get r4 (List.getElem?_eq_getElem hlj)
          have hf2 := find_run (a.ext hext4) (by omega) e.2[j]
          simp only [ltT hlj, boolK_t, b1, b2, valK_s, hf2, bothK_s, abin_geq, findI_nonneg]
          have htk : e.2.take (j + 1) = e.2.take j ++ [e.2[j]] := List.take_succ_eq_append_getElem hlj
          by_cases hin : e.2[j] ∈ G.map (·.1)
          · have hkl := names_le m2 fun x hx => (m3 x hx).name
            obtain ⟨v5, h5, c1, c2, x5⟩ := put_run hx4.wf m1 m2 (by omega) e.2[j]
            simp only [decide_eq_true hin, boolK_t, l1, b1, b2, c1, bothK_s, abin_inc (show j < 4611686018427387904 by omega), valK_s]
            refine ⟨hlj, _, _, rfl, by omega, hx4.trans x5, v5, _, rfl, c2, putS_rising m2, fun x hx => ?_, fun x hx => mem_putS.2 (.inr (m4 x hx)), fun q hq hqn => ?_⟩
            · rcases mem_putS.1 hx with rfl | hx
              · obtain ⟨p0, hp0, hr0⟩ := hrf l[i] (List.getElem_mem hlt)
                exact ⟨p0, hp0, hr0.trans (.step f4 (List.getElem_mem hlj) (.refl ((thereG_mem G _).2 hin)))⟩
              · exact m3 x hx
            · rw [htk, List.mem_append, List.mem_singleton] at hq
              rcases hq with hq | rfl
              · exact mem_putS.2 (.inr (m5 q hq hqn))
              · exact mem_putS.2 (.inl rfl)
          · simp only [decide_eq_false hin, boolK_f, abin_inc (show j < 4611686018427387904 by omega), valK_s]
            refine ⟨hlj, _, _, rfl, by omega, hx4, next', k', rfl, m1, m2, m3, m4, fun q hq hqn => ?_⟩
            rw [htk, List.mem_append, List.mem_singleton] at hq
            rcases hq with hq | rfl
            · exact m5 q hq hqn
            · exact absurd hqn hin
        · right
          have hje : j = e.2.length := by omega
          subst hje
          rw [List.take_length] at m5
          simp only [ltF hlj, boolK_f, abin_inc (show i < 4611686018427387904 by omega), valK_s]
          exact ⟨next', h4, k', rfl, hx4, m1, m2, m3, m4, m5⟩
      obtain ⟨next', h4, k', i1, i2, i3, i4, i5, i6, i7⟩ := inner
      rw [i1]
      refine ⟨hlt, _, _, rfl, by omega, (hx1.trans x27).trans i2, next', k', rfl, i3, i4, i5, fun x hx => i6 x (hk4 x hx), fun x hx => ?_⟩
      rw [List.take_succ_eq_append_getElem hlt, List.mem_append, List.mem_singleton] at hx
      rcases hx with hx | rfl
      · exact (hk5 x hx).mono i6
      · intro rs hrs y hy hs
        rw [f4] at hrs; cases hrs
        exact i7 y hy ((thereG_mem G y).1 hs)
    · right
      have hil : i = l.length := by omega
      subst hil
      rw [List.take_length] at hk5
      have hkl := names_le hk2 fun x hx => (hk3 x hx).name
      have hlk : l.length ≤ k.length := nodup_len (rising_nodup hris) hk4
      simp only [ltF hlt, boolK_f, srow_len hk1, valK_s, abin_eql]
      by_cases heq : k.length = l.length
      · right
        have hkk : decide ((k.length : Int) = (l.length : Int)) = true := by rw [decide_eq_true_eq]; omega
        simp only [hkk, boolK_t, unmark_nil, hpK_s]
        have hsub : ∀ x ∈ k, x ∈ l := by
          intro x hx
          by_cases hxl : x ∈ l
          · exact hxl
          · exfalso
            have h1 : (x :: l).Nodup := List.nodup_cons.2 ⟨hxl, rising_nodup hris⟩
            have := nodup_len (b := k) h1 fun y hy => by
              rcases List.mem_cons.1 hy with rfl | hy
              · exact hx
              · exact hk4 y hy
            simp at this; omega
        have hfin : k = closureG G frm := rising_ext hk2 (closureG_rising G frm) fun x => by
          rw [mem_closureG]
          constructor
          · exact hk3 x
          · rintro ⟨p, hp, hr⟩
            have hall : ∀ {p x : Bs}, Rch (thereG G) p x → p ∈ k → x ∈ k := by
              intro p x hr
              induction hr with
              | refl _ => exact id
              | step h hq t ih => intro hp; exact ih (hk5 _ (hsub _ hp) _ h _ hq t.left)
            exact hall hr (hk4 p (hfrm p hp ((thereG_mem G p).1 hr.left)))
        rw [← hfin]
        exact ⟨next, h1, rfl, hk1, hext1⟩
      · left
        have hkk : decide ((k.length : Int) = (l.length : Int)) = false := by rw [decide_eq_false_iff_not]; omega
        simp only [hkk, boolK_f]
        exact ⟨by omega, _, _, rfl, by omega, hext1, next, k, rfl, hk1, hk2, hk3, fun q hq hn => hk4 q (hfrm q hq hn), by omega⟩
  -- the roots
  unfold F18
  refine loop_rule (σ := AV × AV × AV × AV × Unit) (R := AV × AHeap) (total := frm.length) (I := fun i st hh => i ≤ frm.length ∧ Ext h hh ∧ ∃ out, ∃ l : List Bs, st = (v, w, out, .int .i64 (i : Int), ()) ∧ SRow hh out l ∧ Rising l ∧ (∀ x ∈ l, RF G frm x) ∧ (∀ q ∈ frm.take i, q ∈ G.map (·.1) → q ∈ l))
    (Q := fun o => ∃ v' h', o = some (v', h') ∧ SRow h' v' (closureG G frm) ∧ Ext h h') ?_ _ 0 _ _ ⟨by omega, Ext.refl hw, .nilslice, [], rfl, (own_nil h h 1).row, by simp [Rising], by simp, by simp⟩ (by omega) (by omega)
  rintro i st hh nx ⟨hi, hext, out, l, rfl, hrow, hris, hrf, hfrm⟩
  simp only [F18_b3, srow_len (b.ext hext), valK_s, abin_lss]
  by_cases hlt : i < frm.length
  · left
    obtain ⟨p, a1, a2⟩ := srow_get (b.ext hext) (List.getElem?_eq_getElem hlt)
    have hf := find_run (a.ext hext) (by omega) frm[i]
    have htk : frm.take (i + 1) = frm.take i ++ [frm[i]] := List.take_succ_eq_append_getElem hlt
    simp only [ltT hlt, boolK_t, a1, a2, valK_s, hf, bothK_s, abin_geq, findI_nonneg]
    by_cases hin : frm[i] ∈ G.map (·.1)
    · have hll := names_le hris fun x hx => (hrf x hx).name
      obtain ⟨v5, h5, c1, c2, x5⟩ := put_run hext.wf hrow hris (by omega) frm[i]
      simp only [decide_eq_true hin, boolK_t, c1, bothK_s, abin_inc (show i < 4611686018427387904 by omega), valK_s]
      refine ⟨hlt, _, _, rfl, by omega, hext.trans x5, v5, _, rfl, c2, putS_rising hris, fun x hx => ?_, fun q hq hqn => ?_⟩
      · rcases mem_putS.1 hx with rfl | hx
        · exact ⟨_, List.getElem_mem hlt, .refl ((thereG_mem G _).2 hin)⟩
        · exact hrf x hx
      · rw [htk, List.mem_append, List.mem_singleton] at hq
        rcases hq with hq | rfl
        · exact mem_putS.2 (.inr (hfrm q hq hqn))
        · exact mem_putS.2 (.inl rfl)
    · simp only [decide_eq_false hin, boolK_f, abin_inc (show i < 4611686018427387904 by omega), valK_s]
      refine ⟨hlt, _, _, rfl, by omega, hext, out, l, rfl, hrow, hris, hrf, fun q hq hqn => ?_⟩
      rw [htk, List.mem_append, List.mem_singleton] at hq
      rcases hq with hq | rfl
      · exact hfrm q hq hqn
      · exact absurd hqn hin
  · right
    have hil : i = frm.length := by omega
    subst hil
    rw [List.take_length] at hfrm
    simp only [ltF hlt, boolK_f]
    exact rounds hext hrow hris hrf hfrm

theorem deadR_run {h : AHeap} (hw : h.WF) {v w : AV} {G : Gr} (a : PRep h v G) (hG : SmallG G) {frm : List Bs} (b : SRow h w frm) (hn : frm.length < 1000000) :
    ∃ v' h', EG (.fn 19) [v, w] h = some (v', h') ∧ SRow h' v' (deadG G frm) ∧ Ext h h' := by
  have hG1 := hG.1
  obtain ⟨lv, h1, c1, c2, x1⟩ := closureR_run hw a hG b hn
  obtain ⟨av, h2, d1, d2, x2⟩ := allR_run x1.wf (a.ext x1) hG1
  have hkl : (sortS (keysG G [])).length ≤ G.length := by rw [sortS_length]; simpa using keysG_length G []
  have hcl := closure_len G frm
  suffices ∀ N, (sortS (keysG G [])).length < N → ∃ v' h', F19 EG N v w h = some (v', h') ∧ SRow h' v' (deadG G frm) ∧ Ext h h' by
    obtain ⟨v', h', e, q⟩ := this _ (Nat.lt_succ_self _)
    exact ⟨v', h', run19 _ e, q⟩
  intro N hN
  unfold F19
  simp only [c1, bothK_s, d1]
  have c2' := c2.ext x2
  have hdead : deadG G frm = (sortS (keysG G [])).filter fun p => decide (p ∉ closureG G frm) := by
    unfold deadG
    refine List.filter_congr fun x _ => ?_
    rw [closureG, decide_eq_decide, mem_sortS]
  refine loop_rule (σ := AV × AV × AV × AV × Unit) (R := AV × AHeap) (total := (sortS (keysG G [])).length) (I := fun i st hh => i ≤ (sortS (keysG G [])).length ∧ Ext h2 hh ∧ ∃ out, st = (lv, av, out, .int .i64 (i : Int), ()) ∧ SOwn h2 hh out (((sortS (keysG G [])).take i).filter fun p => decide (p ∉ closureG G frm)))
    (Q := fun o => ∃ v' h', o = some (v', h') ∧ SRow h' v' (deadG G frm) ∧ Ext h h') ?_ _ 0 _ _ ⟨by omega, Ext.refl x2.wf, .nilslice, rfl, own_nil _ _ 1⟩ (by omega) (by omega)
  rintro i st hh nx ⟨hi, hext, out, rfl, ho⟩
  simp only [F19_b5, srow_len (d2.ext hext), valK_s, abin_lss]
  by_cases hlt : i < (sortS (keysG G [])).length
  · left
    obtain ⟨p, a1, a2⟩ := srow_get (d2.ext hext) (List.getElem?_eq_getElem hlt)
    have hh1 := has35_run (c2'.ext hext) (by omega) (s := (sortS (keysG G []))[i])
    simp only [ltT hlt, boolK_t, a1, a2, valK_s, hh1, bothK_s, aun_not]
    have htk : ((sortS (keysG G [])).take (i + 1)).filter (fun p => decide (p ∉ closureG G frm)) = ((sortS (keysG G [])).take i).filter (fun p => decide (p ∉ closureG G frm)) ++ (if decide ((sortS (keysG G []))[i] ∉ closureG G frm) = true then [(sortS (keysG G []))[i]] else []) := by
      rw [List.take_succ_eq_append_getElem hlt, List.filter_append]
      congr 1
      simp [List.filter_cons]
    by_cases hin : (sortS (keysG G []))[i] ∈ closureG G frm
    · simp only [decide_eq_true hin, Bool.not_true, boolK_f, abin_inc (show i < 4611686018427387904 by omega), valK_s]
      refine ⟨hlt, _, _, rfl, by omega, hext, out, rfl, ?_⟩
      rw [htk, if_neg (by simp [hin]), List.append_nil]; exact ho
    · have hfl : (((sortS (keysG G [])).take i).filter fun p => decide (p ∉ closureG G frm)).length ≤ i := Nat.le_trans (List.length_filter_le _ _) (by simp; omega)
      obtain ⟨y, h3, v', h', p1, p2, p3, p4⟩ := push1 (x := .str (sortS (keysG G []))[i]) ty26 ty9 rfl rfl (by decide) ho hext rfl (by omega)
      simp only [decide_eq_false hin, Bool.not_false, boolK_t, p1, p2, bothK_s, abin_inc (show i < 4611686018427387904 by omega), valK_s]
      refine ⟨hlt, _, _, rfl, by omega, p4, v', rfl, ?_⟩
      rw [htk, if_pos (by simp [hin])]; exact sown_push p3
  · right
    have hil : i = (sortS (keysG G [])).length := by omega
    subst hil
    simp only [ltF hlt, boolK_f, unmark_nil, hpK_s]
    rw [List.take_length, ← hdead] at ho
    exact ⟨out, hh, rfl, ho.row, (x1.trans x2).trans hext⟩

/-- Is it the first one of its name? -/
theorem first_iff {G : Gr} {i : Nat} {e : Bs × List Bs} (he : G[i]? = some e) : (findI G e.1 = (i : Int)) → thereG G e.1 = some e.2 := by
  intro hf
  obtain ⟨j, e', h1, h2, h3, h4⟩ := findI_there (List.mem_map_of_mem (List.mem_of_getElem? he) : e.1 ∈ G.map (·.1))
  have : j = i := by omega
  subst this
  rw [he] at h2; cases h2
  exact h4

theorem first_of {G : Gr} {p : Bs} {rs : List Bs} (h : thereG G p = some rs) : ∃ (i : Nat) (e : Bs × List Bs), G[i]? = some e ∧ e.1 = p ∧ e.2 = rs ∧ findI G p = (i : Int) := by
  obtain ⟨j, e', h1, h2, h3, h4⟩ := findI_there ((thereG_mem G p).1 (by rw [h]; rfl))
  rw [h] at h4; cases h4
  exact ⟨j, e', h2, h3, rfl, h1⟩

theorem closedR_run {h : AHeap} (hw : h.WF) {v : AV} {G : Gr} (a : PRep h v G) (hG : SmallG G) : EG (.fn 20) [v] h = some (.bool (closedG G), h) := by
  have hG1 := hG.1
  suffices ∀ N, G.length < N → (∀ e ∈ G, e.2.length < N) → F20 EG N v h = some (.bool (closedG G), h) by
    exact run20 (1000000000 + G.length) (this _ (by omega) fun e he => by have := (hG.2 e he).2; omega)
  intro N hN1 hN2
  unfold F20
  refine loop_rule (σ := AV × AV × Unit) (R := AV × AHeap) (total := G.length) (I := fun i st hh => i ≤ G.length ∧ hh = h ∧ st = (v, .int .i64 (i : Int), ()) ∧ ∀ j e, j < i → G[j]? = some e → findI G e.1 = (j : Int) → ∀ q ∈ e.2, q ∈ G.map (·.1))
    (Q := fun o => o = some (.bool (closedG G), h)) ?_ _ 0 _ _ ⟨by omega, rfl, rfl, fun j e hj => by omega⟩ (by omega) (by omega)
  rintro i st hh nx ⟨hi, rfl, rfl, hall⟩
  simp only [F20_b2, prep_len a, valK_s, abin_lss]
  by_cases hlt : i < G.length
  · have he : G[i]? = some G[i] := List.getElem?_eq_getElem hlt
    obtain ⟨o, off, rv, q1, q2, q3, q4, q5⟩ := prep_at a he
    have hf := find_run a (by omega) G[i].1
    simp only [ltT hlt, boolK_t]
    have hrs := (hG.2 G[i] (List.getElem_mem hlt)).2
    refine loop_rule (σ := AV × AV × AV × Unit) (R := AV × AHeap) (total := G[i].2.length)
      (I := fun k st h1 => k ≤ G[i].2.length ∧ h1 = hh ∧ st = (v, .int .i64 (i : Int), .int .i64 (k : Int), ()) ∧ ∀ q ∈ G[i].2.take k, q ∈ G.map (·.1))
      (Q := fun o => (i < G.length ∧ ∃ s' h', o = nx s' [] h' ∧ (i + 1 ≤ G.length ∧ h' = hh ∧ s' = (v, .int .i64 ((i + 1 : Nat) : Int), ()) ∧ ∀ j e, j < i + 1 → G[j]? = some e → findI G e.1 = (j : Int) → ∀ q ∈ e.2, q ∈ G.map (·.1))) ∨ o = some (.bool (closedG G), hh))
      ?_ _ 0 _ _ ⟨by omega, rfl, rfl, by simp⟩ (by have := hN2 _ (List.getElem_mem hlt); omega) (by omega)
    rintro k st h1 nx2 ⟨hk, rfl, rfl, hall2⟩
    simp only [F20_b5, jn_a, q1, fa28_0, fa28_1, q2, q3, valK_s, hf, bothK_s, abin_eql]
    by_cases hfi : findI G G[i].1 = (i : Int)
    · simp only [decide_eq_true hfi, boolK_t, srow_len q4, valK_s, abin_lss]
      by_cases hlk : k < G[i].2.length
      · obtain ⟨p, b1, b2⟩ := srow_get q4 (List.getElem?_eq_getElem hlk)
        have hf2 := find_run a (by omega) G[i].2[k]
        simp only [ltT hlk, boolK_t, b1, b2, valK_s, hf2, bothK_s, abin_lss, findI_neg]
        by_cases hin : G[i].2[k] ∈ G.map (·.1)
        · left
          have : decide (G[i].2[k] ∉ G.map (·.1)) = false := by simpa using hin
          simp only [this, boolK_f, abin_inc (show k < 4611686018427387904 by omega), valK_s]
          refine ⟨hlk, _, _, rfl, by omega, rfl, rfl, fun q hq => ?_⟩
          rw [List.take_succ_eq_append_getElem hlk, List.mem_append, List.mem_singleton] at hq
          rcases hq with hq | rfl
          · exact hall2 q hq
          · exact hin
        · right; right
          have : decide (G[i].2[k] ∉ G.map (·.1)) = true := by simpa using hin
          simp only [this, boolK_t, unmark_nil, hpK_s]
          have hc : closedG G = false := by
            cases hc : closedG G with
            | false => rfl
            | true => exact absurd (closedG_iff.1 hc _ _ (first_iff he hfi) _ (List.getElem_mem hlk)) hin
          rw [hc]
      · right; left
        have hke : k = G[i].2.length := by omega
        subst hke
        rw [List.take_length] at hall2
        simp only [ltF hlk, boolK_f, abin_inc (show i < 4611686018427387904 by omega), valK_s]
        refine ⟨hlt, _, _, rfl, by omega, rfl, rfl, fun j e hj hje hjf => ?_⟩
        by_cases hji : j = i
        · subst hji; rw [he] at hje; cases hje; exact hall2
        · exact hall j e (by omega) hje hjf
    · right; left
      simp only [decide_eq_false hfi, boolK_f, abin_inc (show i < 4611686018427387904 by omega), valK_s]
      refine ⟨hlt, _, _, rfl, by omega, rfl, rfl, fun j e hj hje hjf => ?_⟩
      by_cases hji : j = i
      · subst hji; rw [he] at hje; cases hje; exact absurd hjf hfi
      · exact hall j e (by omega) hje hjf
  · right
    have hie : i = G.length := by omega
    subst hie
    simp only [ltF hlt, boolK_f, unmark_nil, hpK_s]
    have hc : closedG G = true := closedG_iff.2 fun p rs hp q hq => by
      obtain ⟨j, e, h1, h2, h3, h4⟩ := first_of hp
      subst h2 h3
      exact hall j e (List.getElem?_eq_some_iff.1 h1).1 h1 h4 q hq
    rw [hc]

theorem referrersR_run {h : AHeap} (hw : h.WF) {v : AV} {G : Gr} (a : PRep h v G) (hG : SmallG G) (path : Bs) :
    ∃ v' h', EG (.fn 24) [v, .str path] h = some (v', h') ∧ SRow h' v' (referrersG G path) ∧ Ext h h' := by
  have hG1 := hG.1
  suffices ∀ N, G.length < N → ∃ v' h', F24 EG N v (.str path) h = some (v', h') ∧ SRow h' v' (referrersG G path) ∧ Ext h h' by
    obtain ⟨v', h', e, q⟩ := this _ (Nat.lt_succ_self _)
    exact ⟨v', h', run24 _ e, q⟩
  intro N hN
  unfold F24
  refine loop_rule (σ := AV × AV × AV × AV × Unit) (R := AV × AHeap) (total := G.length) (I := fun i st hh => i ≤ G.length ∧ Ext h hh ∧ ∃ out, ∃ l : List Bs, st = (v, .str path, out, .int .i64 (i : Int), ()) ∧ SRow hh out l ∧ Rising l ∧
      ∀ x, x ∈ l ↔ ∃ j e, j < i ∧ G[j]? = some e ∧ findI G e.1 = (j : Int) ∧ e.1 = x ∧ x ≠ path ∧ path ∈ e.2)
    (Q := fun o => ∃ v' h', o = some (v', h') ∧ SRow h' v' (referrersG G path) ∧ Ext h h') ?_ _ 0 _ _ ⟨by omega, Ext.refl hw, .nilslice, [], rfl, (own_nil h h 1).row, by simp [Rising], fun x => by simp⟩ (by omega) (by omega)
  rintro i st hh nx ⟨hi, hext, out, l, rfl, hrow, hris, hmem⟩
  have hll : l.length ≤ G.length := names_le hris fun x hx => by
    obtain ⟨j, e, _, h2, _, h4, _⟩ := (hmem x).1 hx
    rw [← h4]; exact List.mem_map_of_mem (List.mem_of_getElem? h2)
  simp only [F24_b3, prep_len (a.ext hext), valK_s, abin_lss, jn_a]
  by_cases hlt : i < G.length
  · left
    have he : G[i]? = some G[i] := List.getElem?_eq_getElem hlt
    obtain ⟨o, off, rv, q1, q2, q3, q4, q5⟩ := prep_at (a.ext hext) he
    have hf := find_run (a.ext hext) (by omega) G[i].1
    have hrs := (hG.2 G[i] (List.getElem_mem hlt)).2
    have hh1 := has35_run q4 hrs (s := path)
    simp only [ltT hlt, boolK_t, q1, fa28_0, fa28_1, q2, q3, valK_s, hf, bothK_s, abin_eql, abin_strne, hh1]
    have skip : ¬ (findI G G[i].1 = (i : Int) ∧ G[i].1 ≠ path ∧ path ∈ G[i].2) → ∀ x, x ∈ l ↔ ∃ j e, j < i + 1 ∧ G[j]? = some e ∧ findI G e.1 = (j : Int) ∧ e.1 = x ∧ x ≠ path ∧ path ∈ e.2 := fun hno x => by
      rw [hmem]
      constructor
      · rintro ⟨j, e, h1, h2⟩; exact ⟨j, e, by omega, h2⟩
      · rintro ⟨j, e, h1, h2, h3, h4, h5, h6⟩
        by_cases hji : j = i
        · subst hji; rw [he] at h2; cases h2
          exact absurd ⟨h3, by rw [h4]; exact h5, h6⟩ hno
        · exact ⟨j, e, by omega, h2, h3, h4, h5, h6⟩
    by_cases h1 : findI G G[i].1 = (i : Int)
    · simp only [decide_eq_true h1, boolK_t]
      by_cases h2 : G[i].1 = path
      · simp only [decide_eq_true h2, Bool.not_true, boolK_f, abin_inc (show i < 4611686018427387904 by omega), valK_s]
        exact ⟨hlt, _, _, rfl, by omega, hext, out, l, rfl, hrow, hris, skip fun hc => hc.2.1 h2⟩
      · simp only [decide_eq_false h2, Bool.not_false, boolK_t]
        by_cases h3 : path ∈ G[i].2
        · obtain ⟨v5, h5, c1, c2, x5⟩ := put_run hext.wf hrow hris (by omega) G[i].1
          simp only [decide_eq_true h3, boolK_t, c1, bothK_s, abin_inc (show i < 4611686018427387904 by omega), valK_s]
          refine ⟨hlt, _, _, rfl, by omega, hext.trans x5, v5, _, rfl, c2, putS_rising hris, fun x => ?_⟩
          rw [mem_putS, hmem]
          constructor
          · rintro (rfl | ⟨j, e, w1, w2⟩)
            · exact ⟨i, G[i], by omega, he, h1, rfl, h2, h3⟩
            · exact ⟨j, e, by omega, w2⟩
          · rintro ⟨j, e, w1, w2, w3, w4, w5⟩
            by_cases hji : j = i
            · subst hji; rw [he] at w2; cases w2; exact .inl w4.symm
            · exact .inr ⟨j, e, by omega, w2, w3, w4, w5⟩
        · simp only [decide_eq_false h3, boolK_f, abin_inc (show i < 4611686018427387904 by omega), valK_s]
          exact ⟨hlt, _, _, rfl, by omega, hext, out, l, rfl, hrow, hris, skip fun hc => h3 hc.2.2⟩
    · simp only [decide_eq_false h1, boolK_f, abin_inc (show i < 4611686018427387904 by omega), valK_s]
      exact ⟨hlt, _, _, rfl, by omega, hext, out, l, rfl, hrow, hris, skip fun hc => h1 hc.1⟩
  · right
    have hie : i = G.length := by omega
    subst hie
    simp only [ltF hlt, boolK_f, unmark_nil, hpK_s]
    have : l = referrersG G path := rising_ext hris (rising_filter (sortS_rising (keysG_nodup G [] List.nodup_nil)) _) fun x => by
      rw [hmem]
      unfold referrersG
      rw [List.mem_filter, mem_sortS, keysG_mem]
      simp only [Bool.and_eq_true, decide_eq_true_eq]
      constructor
      · rintro ⟨j, e, h1, h2, h3, rfl, h5, h6⟩
        refine ⟨.inr (List.mem_map_of_mem (List.mem_of_getElem? h2)), h5, ?_⟩
        unfold refsOf; rw [first_iff h2 h3]; exact h6
      · rintro ⟨_, h5, h6⟩
        unfold refsOf at h6
        cases ht : thereG G x with
        | none => rw [ht] at h6; simp at h6
        | some rs =>
          rw [ht, Option.getD_some] at h6
          obtain ⟨j, e, w1, w2, w3, w4⟩ := first_of ht
          subst w2 w3
          exact ⟨j, e, (List.getElem?_eq_some_iff.1 w1).1, w1, w4, rfl, h5, h6⟩
    rw [← this]
    exact ⟨out, hh, rfl, hrow, hext⟩

end Go.Am
