/-
  GraphTells: the program's closures, dead paths, references and orders are the document's, for any paths, cut; so it answers true in the model.
-/
import Derived.Test.YtfieacodpjpfbaaG13
import Derived.Test.YtfieacodpjpfbaaTryLive
set_option linter.unusedVariables false
set_option linter.unusedSimpArgs false
namespace Go.Am
open Go Go.Proofs Go.RowKit

/-! ### What is handed in -/

def PArg (h : AHeap) (v : AV) (A : Gr) : Prop := ∃ vs, Row h v A.length 4 vs ∧ ∀ (i : Nat) (e : Bs × List Bs), A[i]? = some e → ∃ rv nar drv, (vs.drop (i * 4)).take 4 = [.str e.1, rv, .str nar, .str drv] ∧ SRow h rv e.2

theorem PArg.ext {h h' : AHeap} {v : AV} {A : Gr} (a : PArg h v A) (e : Ext h h') : PArg h' v A := by
  obtain ⟨vs, h1, h2⟩ := a
  exact ⟨vs, h1.ext e, fun i x hx => by
    obtain ⟨rv, nar, drv, q1, q2⟩ := h2 i x hx
    exact ⟨rv, nar, drv, q1, q2.ext e⟩⟩

theorem parg_at {h : AHeap} {v : AV} {A : Gr} (a : PArg h v A) {i : Nat} {e : Bs × List Bs} (he : A[i]? = some e) :
    ∃ o off rv, aindexAddr tab 24 v (.int .i64 (i : Int)) = some (.ptr o off) ∧ loadA tab h 9 (.ptr o off) = some (.str e.1) ∧ loadA tab h 26 (.ptr o (off + 1)) = some rv ∧ SRow h rv e.2 := by
  obtain ⟨vs, hr, hf⟩ := a
  have hi : i < A.length := (List.getElem?_eq_some_iff.1 he).1
  obtain ⟨rv, nar, drv, c1, c2⟩ := hf i e he
  obtain ⟨o, off, q1, _, ws, rw, q3, q4⟩ := hr.getAgg ty24 ty28 rfl rfl hi (k := .i64)
  have cell : ∀ j, j < 4 → vs[i * 4 + j]? = ([.str e.1, rv, .str nar, .str drv] : List AV)[j]? := fun j hj => by
    rw [← c1, List.getElem?_take_of_lt hj, List.getElem?_drop]
  refine ⟨o, off, rv, q1, ?_, ?_, c2⟩
  · refine loadA_cell ty9 rfl q3 ?_
    have := q4 0 (by decide)
    rw [cell 0 (by omega)] at this
    simpa using this
  · refine loadA_cell ty26 rfl q3 ?_
    have := q4 1 (by decide)
    rw [cell 1 (by omega)] at this
    simpa using this

def cutS (l : List Bs) : List Bs := (l.take 10).map (·.take 60)
def cutG (A : Gr) : Gr := (A.take 25).map fun e => (e.1.take 60, cutS e.2)

theorem len_str {h : AHeap} {s : Bs} : alen tab h 9 (.str s) = some (.int .i64 (s.length : Int)) := rfl
theorem min60 {n : Nat} : amin (.int .i64 (n : Int)) (.int .i64 60) = some (.int .i64 ((min n 60 : Nat) : Int)) := by
  simp only [amin]
  by_cases h : (60 : Int) < (n : Int)
  · simp [h]; omega
  · simp [h]; omega
theorem slice_str {s : Bs} {m : Nat} (h : m ≤ s.length) : aslice tab 9 (.str s) none (some (.int .i64 (m : Int))) = some (.str (s.take m)) := by
  have : upTo (some (AV.int .i64 (m : Int))) s.length s.length = some m := by
    show (bif Nat.ble m s.length then some m else none) = _
    rw [Nat.ble_eq_true_of_le h]; rfl
  simp only [aslice, ty9, this]
  rfl
theorem take_min (s : Bs) : s.take (min s.length 60) = s.take 60 := by
  by_cases h : s.length ≤ 60
  · rw [Nat.min_eq_left h, List.take_length, List.take_of_length_le h]
  · rw [Nat.min_eq_right (by omega)]

theorem texts_run {h : AHeap} (hw : h.WF) {v : AV} {l : List Bs} (a : SRow h v l) : ∃ v' h', EG (.fn 16) [v] h = some (v', h') ∧ SOwn h h' v' (cutS l) ∧ Ext h h' := by
  suffices ∀ N, 10 < N → ∃ v' h', F16 EG N v h = some (v', h') ∧ SOwn h h' v' (cutS l) ∧ Ext h h' by
    obtain ⟨v', h', e, q⟩ := this 11 (by omega)
    exact ⟨v', h', run16 _ e, q⟩
  intro N hN
  unfold F16
  refine loop_rule (σ := AV × AV × AV × Unit) (R := AV × AHeap) (total := 10) (I := fun i st hh => i ≤ 10 ∧ i ≤ l.length ∧ Ext h hh ∧ ∃ out, st = (v, out, .int .i64 (i : Int), ()) ∧ SOwn h hh out ((l.take i).map (·.take 60)))
    (Q := fun o => ∃ v' h', o = some (v', h') ∧ SOwn h h' v' (cutS l) ∧ Ext h h') ?_ N 0 _ _ ⟨by omega, by omega, Ext.refl hw, .nilslice, rfl, own_nil _ _ 1⟩ (by omega) (by omega)
  rintro i st hh nx ⟨hi, hil, hext, out, rfl, ho⟩
  simp only [F16_b3, jn_a, srow_len (a.ext hext), valK_s, abin_lss]
  by_cases hlt : i < l.length
  · simp only [ltT hlt, boolK_t]
    by_cases h10 : i < 10
    · left
      have e10 : decide ((i : Int) < 10) = true := by rw [decide_eq_true_eq]; omega
      obtain ⟨p, a1, a2⟩ := srow_get (a.ext hext) (List.getElem?_eq_getElem hlt)
      have hol : ((l.take i).map (·.take 60)).length ≤ i := by simp; omega
      obtain ⟨y, h3, v', h', p1, p2, p3, p4⟩ := push1 (x := .str (l[i].take 60)) ty26 ty9 rfl rfl (by decide) ho hext rfl (by omega)
      simp only [e10, boolK_t, a1, a2, valK_s, len_str, min60, slice_str (Nat.min_le_left _ _), take_min, p1, p2, bothK_s, abin_inc (show i < 4611686018427387904 by omega)]
      refine ⟨h10, _, _, rfl, by omega, by omega, p4, v', rfl, ?_⟩
      rw [List.take_succ_eq_append_getElem hlt, List.map_append]
      exact sown_push p3
    · right
      have e10 : decide ((i : Int) < 10) = false := by rw [decide_eq_false_iff_not]; omega
      have hi10 : i = 10 := by omega
      subst hi10
      simp only [e10, boolK_f, unmark_nil, hpK_s]
      exact ⟨out, hh, rfl, ho, hext⟩
  · right
    simp only [ltF hlt, boolK_f, unmark_nil, hpK_s]
    have hie : i = l.length := by omega
    have : cutS l = (l.take i).map (·.take 60) := by
      unfold cutS
      rw [hie, List.take_length, List.take_of_length_le (by omega)]
    rw [this]
    exact ⟨out, hh, rfl, ho, hext⟩

theorem Rel2.beside {h0 h h' : AHeap} {v : AV} {pl : List (Bs × AV)} {G : Gr} (r : Rel2 h pl G) (hs : ∀ x ∈ pl, ∀ j off m e, x.2 = .slice j off m e → ∀ m e, v ≠ .slice j 0 m e) (only : ∀ j y, h.get j = some y → (∀ n e, v ≠ .slice j 0 n e) → h'.get j = some y) : Rel2 h' pl G :=
  r.same fun x hx o off m e y hxv hy => only o y hy (hs x hx o off m e hxv)

theorem cut_run {h : AHeap} (hw : h.WF) {v : AV} {A : Gr} (a : PArg h v A) : ∃ v' h', EG (.fn 15) [v] h = some (v', h') ∧ PRep h' v' (cutG A) ∧ Ext h h' := by
  suffices ∀ N, 25 < N → ∃ v' h', F15 EG N v h = some (v', h') ∧ PRep h' v' (cutG A) ∧ Ext h h' by
    obtain ⟨v', h', e, q⟩ := this 26 (by omega)
    exact ⟨v', h', run15 _ e, q⟩
  intro N hN
  unfold F15
  have hlenA : ∀ {hh}, Ext h hh → alen tab hh 24 v = some (.int .i64 (A.length : Int)) := fun hx => by
    obtain ⟨vs, hr, _⟩ := a.ext hx
    exact hr.len ty24
  refine loop_rule (σ := AV × AV × AV × Unit) (R := AV × AHeap) (total := 25)
    (I := fun i st hh => i ≤ 25 ∧ i ≤ A.length ∧ Ext h hh ∧ ∃ out pl, st = (v, out, .int .i64 (i : Int), ()) ∧ Own h hh out i 4 (pcells pl) ∧ Rel2 hh pl ((A.take i).map fun e => (e.1.take 60, cutS e.2)) ∧ ∀ x ∈ pl, ∀ j off m e, x.2 = .slice j off m e → ∀ m e, out ≠ .slice j 0 m e)
    (Q := fun o => ∃ v' h', o = some (v', h') ∧ PRep h' v' (cutG A) ∧ Ext h h') ?_ N 0 _ _ ⟨by omega, by omega, Ext.refl hw, .nilslice, [], rfl, own_nil _ _ 4, trivial, by simp⟩ (by omega) (by omega)
  rintro i st hh nx ⟨hi, hil, hext, out, pl, rfl, ho, hrel, hsep⟩
  have hpl : pl.length = i := by rw [hrel.length]; simp; omega
  simp only [F15_b3, jn_a, hlenA hext, valK_s, abin_lss]
  by_cases hlt : i < A.length
  · simp only [ltT hlt, boolK_t]
    by_cases h25 : i < 25
    · left
      have e25 : decide ((i : Int) < 25) = true := by rw [decide_eq_true_eq]; omega
      have he : A[i]? = some A[i] := List.getElem?_eq_getElem hlt
      obtain ⟨o, off, rv, q1, q2, q3, q4⟩ := parg_at (a.ext hext) he
      obtain ⟨tv, h2, t1, t2, x2⟩ := texts_run hext.wf q4
      obtain ⟨o', off', rv', u1, u2, u3, u4⟩ := parg_at (a.ext (hext.trans x2)) he
      rw [q1] at u1; cases u1
      have htv := row_one t2.row
      have b1 : abuild tab 28 [(0, .str (A[i].1.take 60)), (1, tv)] = some (.agg [.str (A[i].1.take 60), tv, .str [], .str []]) := by
        rcases t2.2 with ⟨e, _⟩ | ⟨o, e, _⟩ <;> rw [e] <;> rfl
      obtain ⟨y, h3, v', h', p1, p2, o5, k5, only5, new5⟩ := pushK (x := .agg [.str (A[i].1.take 60), tv, .str [], .str []]) ty24 ty28 rfl rfl (by decide) (by decide) (by decide) (ho.ext x2) x2.wf (ext_dom (hext.trans x2)) rfl (by simp [AV.cells, allOne, htv, str_one]) rfl (by omega)
      simp only [e25, boolK_t, q1, fa28_0, fa28_1, q2, q3, valK_s, len_str, min60, slice_str (Nat.min_le_left _ _), take_min, t1, bothK_s, sameK_r, u2, b1, p1, p2, abin_inc (show i < 4611686018427387904 by omega)]
      rw [pcells_push] at o5
      have hsepr : ∀ j off m e, tv = .slice j off m e → ∀ m e, out ≠ .slice j 0 m e := fun j off m e hj m' e' ho' => by
        have t1 := own_there ho ho'
        rcases t2.2 with ⟨e1, _⟩ | ⟨o, e1, _, e2⟩
        · rw [e1] at hj; cases hj
        · rw [e1] at hj; cases hj; exact t1 e2
      have rel4 : Rel2 h2 (pl ++ [(A[i].1.take 60, tv)]) ((A.take (i + 1)).map fun e => (e.1.take 60, cutS e.2)) := by
        rw [List.take_succ_eq_append_getElem hlt, List.map_append]
        exact Rel2.push ⟨rfl, t2.row⟩ (hrel.ext x2)
      have hsep4 : ∀ x ∈ pl ++ [(A[i].1.take 60, tv)], ∀ j off m e, x.2 = .slice j off m e → ∀ m e, out ≠ .slice j 0 m e := fun x hx => by
        rw [List.mem_append, List.mem_singleton] at hx
        rcases hx with hx | rfl
        · exact hsep x hx
        · exact hsepr
      exact ⟨h25, _, _, rfl, by omega, by omega, k5.ext (hext.trans x2), v', pl ++ [(A[i].1.take 60, tv)], rfl, o5, rel4.beside (h0 := h) hsep4 only5, fun x hx j off m e hj m' e' => new5 j (rel4.there hx hj) m' e'⟩
    · right
      have e25 : decide ((i : Int) < 25) = false := by rw [decide_eq_false_iff_not]; omega
      have hi25 : i = 25 := by omega
      subst hi25
      simp only [e25, boolK_f, unmark_nil, hpK_s]
      exact ⟨out, hh, rfl, ⟨pl, by rw [hpl]; exact ho.row, hrel⟩, hext⟩
  · right
    simp only [ltF hlt, boolK_f, unmark_nil, hpK_s]
    have hie : i = A.length := by omega
    have : cutG A = (A.take i).map fun e => (e.1.take 60, cutS e.2) := by
      unfold cutG
      rw [hie, List.take_length, List.take_of_length_le (by omega)]
    rw [this]
    exact ⟨out, hh, rfl, ⟨pl, by rw [hpl]; exact ho.row, hrel⟩, hext⟩

theorem cutS_length (l : List Bs) : (cutS l).length ≤ 10 := by simp [cutS]; omega
theorem cutG_length (A : Gr) : (cutG A).length ≤ 25 := by simp [cutG]; omega
theorem cutG_small (A : Gr) : SmallG (cutG A) := by
  refine ⟨by have := cutG_length A; omega, fun e he => ?_⟩
  simp only [cutG, List.mem_map] at he
  obtain ⟨x, _, rfl⟩ := he
  have := cutS_length x.2
  simp only [List.length_take]
  omega

theorem order_len (G : Gr) : ∀ (f : Nat) (left out : List Bs), (ordG G f left out).length ≤ out.length + f
  | 0, left, out => by simp [ordG]
  | f + 1, left, out => by
    simp only [ordG]
    split
    · omega
    · rename_i p r _
      have := order_len G f (left.filter fun q => decide (q ≠ p)) (out ++ [p])
      simp at this
      simp only [ne_eq, decide_not]; omega

theorem graphTells_walk {h : AHeap} (hw : h.WF) {v0 v1 : AV} {A : Gr} {frm0 : List Bs} (a : PArg h v0 A) (b0 : SRow h v1 frm0) {N : Nat} (hN : 2000 ≤ N) : ∃ h', F5 EG N v0 v1 h = some (.bool true, h') := by
  unfold F5
  obtain ⟨l, h1, e1, pl0, x1⟩ := cut_run hw a
  obtain ⟨fv, h2, e2, b2, x2⟩ := texts_run x1.wf (b0.ext x1)
  have hG := cutG_small A
  have hGl := cutG_length A
  have hfl := cutS_length frm0
  generalize cutG A = G at *
  generalize cutS frm0 = frm at *
  have p2 := pl0.ext x2
  obtain ⟨v3, h3, e3, r3, x3⟩ := closure_run x2.wf p2 hG b2.row (by omega)
  have b3 := b2.row.ext x3
  obtain ⟨v4, h4, e4, r4, x4⟩ := closureR_run x3.wf (p2.ext x3) hG b3 (by omega)
  have cl := closure_len G frm
  have t4 := texts_same (r3.row.ext x4) r4 (by omega)
  have x34 := x3.trans x4
  obtain ⟨v5, h5, e5, r5, x5⟩ := dead_run x4.wf (p2.ext x34) hG (b2.row.ext x34) (by omega)
  have x35 := x34.trans x5
  obtain ⟨v6, h6, e6, r6, x6⟩ := deadR_run x5.wf (p2.ext x35) hG (b2.row.ext x35) (by omega)
  have dl := dead_len G frm
  have t6 := texts_same (r5.row.ext x6) r6 (by omega)
  have x36 := x35.trans x6
  obtain ⟨h7, e7, x7⟩ := closed_run x6.wf (p2.ext x36) hG
  have x37 := x36.trans x7
  have e8 := closedR_run x7.wf (p2.ext x37) hG
  obtain ⟨v9, h9, e9, r9, x9⟩ := order_run x7.wf (p2.ext x37) hG
  have x39 := x37.trans x9
  obtain ⟨v10, h10, e10, r10, x10⟩ := orderR_run x9.wf (p2.ext x39) hG
  have ol : (orderG G).length ≤ 25 := by
    have h1 := order_len G (keysG G []).length (keysG G []) []
    have h2 := keysG_length G []
    simp at h1 h2
    unfold orderG; omega
  have t10 := texts_same (r9.row.ext x10) r10 (by omega)
  have x310 := x39.trans x10
  have pl := p2.ext x310
  have rl : ∀ q, (referrersG G q).length ≤ 25 := fun q => by
    refine Nat.le_trans (List.length_filter_le _ _) ?_
    rw [sortS_length]
    have := keysG_length G []
    simp at this; omega
  simp only [e1, bothK_s, e2, jn_a, e3, e4, t4, aun_not, Bool.not_true, valK_s, boolK_f, e5, e6, t6, e7, e8, abin_boolne ty4, bne_self_eq_false, e9, e10, t10]
  -- who refers to whom
  refine loop_rule (σ := AV × AV × Unit) (R := AV × AHeap) (total := G.length) (I := fun i st hh => i ≤ G.length ∧ Ext h10 hh ∧ st = (l, .int .i64 (i : Int), ()))
    (Q := fun o => ∃ h', o = some (.bool true, h')) ?_ N 0 _ _ ⟨by omega, Ext.refl x10.wf, rfl⟩ (by omega) (by omega)
  rintro i st hh nx ⟨hi, hext, rfl⟩
  have plh := pl.ext hext
  have both : ∀ q, ∃ w1 g1 w2 g2, EG (.fn 23) [l, .str q] hh = some (w1, g1) ∧ EG (.fn 24) [l, .str q] g1 = some (w2, g2) ∧ EG (.fn 17) [w1, w2] g2 = some (.bool true, g2) ∧ Ext hh g1 ∧ Ext g1 g2 := fun q => by
    obtain ⟨w1, g1, c1, c2, y1⟩ := referrers_run hext.wf plh hG q
    obtain ⟨w2, g2, d1, d2, y2⟩ := referrersR_run y1.wf (plh.ext y1) hG q
    exact ⟨w1, g1, w2, g2, c1, d1, texts_same (c2.row.ext y2) d2 (by have := rl q; omega), y1, y2⟩
  simp only [F5_b6, prep_len plh, valK_s, abin_lss]
  by_cases hlt : i < G.length
  · left
    have he : G[i]? = some G[i] := List.getElem?_eq_getElem hlt
    obtain ⟨o, off, rv, q1, q2, _⟩ := prep_at plh he
    obtain ⟨w1, g1, w2, g2, c1, d1, f1, y1, y2⟩ := both G[i].1
    obtain ⟨o', off', rv', u1, u2, _⟩ := prep_at (plh.ext y1) he
    rw [q1] at u1; cases u1
    simp only [ltT hlt, boolK_t, q1, fa28_0, q2, valK_s, c1, bothK_s, u2, sameK_r, d1, f1, aun_not, Bool.not_true, boolK_f, abin_inc (show i < 4611686018427387904 by omega)]
    exact ⟨hlt, _, _, rfl, by omega, (hext.trans y1).trans y2, rfl⟩
  · right
    obtain ⟨w1, g1, w2, g2, c1, d1, f1, y1, y2⟩ := both [110, 111, 110, 101]
    simp only [ltF hlt, boolK_f, c1, bothK_s, d1, f1, boolK_t, run14, unmark_nil, hpK_s]
    exact ⟨_, rfl⟩

/-! ### Out of what is read -/

theorem choose_list {α : Type} {P : Nat → α → Prop} : ∀ (n : Nat), (∀ i, i < n → ∃ e, P i e) → ∃ A : List α, A.length = n ∧ ∀ i e, A[i]? = some e → P i e
  | 0, _ => ⟨[], rfl, fun i e h => by simp at h⟩
  | n + 1, h => by
    obtain ⟨A, h1, h2⟩ := choose_list n fun i hi => h i (by omega)
    obtain ⟨e, he⟩ := h n (by omega)
    refine ⟨A ++ [e], by simp [h1], fun i x hx => ?_⟩
    by_cases hi : i < n
    · rw [List.getElem?_append_left (by omega)] at hx; exact h2 i x hx
    · rw [List.getElem?_append_right (by omega)] at hx
      have hin : i - A.length = 0 := by
        have := (List.getElem?_eq_some_iff.1 hx).1
        simp at this; omega
      rw [hin] at hx
      simp at hx
      subst hx
      have : i = n := by omega
      subst this; exact he

theorem u9 : Try.prog.underlying 9 = some .string := rfl
theorem u26 : Try.prog.underlying 26 = some (.slice 9) := rfl
theorem u24 : Try.prog.underlying 24 = some (.slice 28) := rfl

theorem drep_str {H : Type} {h : AHeap} {xs : List AV} {d : DataW H} (a : DRep Try.prog h 9 xs d) : ∃ s, xs = [.str s] := by
  cases a with
  | str ht2 _ => exact ⟨_, rfl⟩
  | int ht2 _ => rw [u9] at ht2; cases ht2
  | bool ht2 => rw [u9] at ht2; cases ht2
  | nil ht2 => rw [u9] at ht2; cases ht2
  | slice ht2 _ _ _ => rw [u9] at ht2; cases ht2
  | struct ht2 _ _ _ => rw [u9] at ht2; cases ht2
  | array ht2 _ _ _ => rw [u9] at ht2; cases ht2

theorem drep_strs {H : Type} {h : AHeap} {xs : List AV} {d : DataW H} (a : DRep Try.prog h 26 xs d) : ∃ v, ∃ l : List Bs, xs = [v] ∧ SRow h v l := by
  have c9 : Try.prog.cellsOf 9 = 1 := rfl
  cases a with
  | bool ht => rw [u26] at ht; cases ht
  | int ht _ => rw [u26] at ht; cases ht
  | str ht _ => rw [u26] at ht; cases ht
  | nil ht => exact ⟨.nilslice, [], rfl, ⟨by simp, .inl ⟨rfl, rfl⟩⟩⟩
  | struct ht _ _ _ => rw [u26] at ht; cases ht
  | array ht _ _ _ => rw [u26] at ht; cases ht
  | @slice _ e v vs elems spare ht hl hr he =>
    rw [u26] at ht
    cases ht
    rw [c9] at hr he
    have hvl := hr.1
    obtain ⟨l, hl1, hl2⟩ := choose_list (P := fun i s => vs[i]? = some (AV.str s)) elems.length fun i hi => by
      obtain ⟨s, hs⟩ := drep_str (he i _ (List.getElem?_eq_getElem hi))
      refine ⟨s, ?_⟩
      have : ((vs.drop (i * 1)).take 1)[0]? = some (AV.str s) := by rw [hs]; rfl
      rwa [List.getElem?_take_of_lt (by omega), List.getElem?_drop, Nat.mul_one, Nat.add_zero] at this
    refine ⟨v, l, rfl, ?_⟩
    have : strs l = vs := by
      apply List.ext_getElem?
      intro i
      by_cases hi : i < l.length
      · rw [hl2 i _ (List.getElem?_eq_getElem hi)]; simp [strs, hi]
      · rw [List.getElem?_eq_none (by simp; omega), List.getElem?_eq_none (by omega)]
    show Row h v l.length 1 (strs l)
    rw [this, hl1]; exact hr

theorem drep_paths {H : Type} {h : AHeap} {xs : List AV} {d : DataW H} (a : DRep Try.prog h 24 xs d) : ∃ v, ∃ A : Gr, xs = [v] ∧ PArg h v A := by
  have c28 : Try.prog.cellsOf 28 = 4 := rfl
  cases a with
  | bool ht => rw [u24] at ht; cases ht
  | int ht _ => rw [u24] at ht; cases ht
  | str ht _ => rw [u24] at ht; cases ht
  | nil ht => exact ⟨.nilslice, [], rfl, [], ⟨by simp, .inl ⟨rfl, rfl⟩⟩, fun i e h => by simp at h⟩
  | struct ht _ _ _ => rw [u24] at ht; cases ht
  | array ht _ _ _ => rw [u24] at ht; cases ht
  | @slice _ e v vs elems spare ht hl hr he =>
    rw [u24] at ht
    cases ht
    rw [c28] at hr he
    obtain ⟨fs, hfs, f0, f1, f2, f3⟩ : ∃ fs, Try.prog.underlying 28 = some (.struct fs) ∧ (∃ f, fs[0]? = some f ∧ f.type = 9 ∧ f.offset = 0) ∧ (∃ f, fs[1]? = some f ∧ f.type = 26 ∧ f.offset = 1) ∧ (∃ f, fs[2]? = some f ∧ f.type = 9 ∧ f.offset = 2) ∧ (∃ f, fs[3]? = some f ∧ f.type = 9 ∧ f.offset = 3) :=
      ⟨_, rfl, ⟨_, rfl, rfl, rfl⟩, ⟨_, rfl, rfl, rfl⟩, ⟨_, rfl, rfl, rfl⟩, ⟨_, rfl, rfl, rfl⟩⟩
    obtain ⟨A, hA1, hA2⟩ := choose_list (P := fun i (e : Bs × List Bs) => ∃ rv nar drv, (vs.drop (i * 4)).take 4 = [.str e.1, rv, .str nar, .str drv] ∧ SRow h rv e.2) elems.length fun i hi => by
      have hd := he i _ (List.getElem?_eq_getElem hi)
      generalize (vs.drop (i * 4)).take 4 = ys at hd ⊢
      generalize elems[i] = dd at hd
      cases hd with
      | bool ht2 => rw [hfs] at ht2; cases ht2
      | int ht2 _ => rw [hfs] at ht2; cases ht2
      | str ht2 _ => rw [hfs] at ht2; cases ht2
      | nil ht2 => rw [hfs] at ht2; cases ht2
      | slice ht2 _ _ _ => rw [hfs] at ht2; cases ht2
      | array ht2 _ _ _ => rw [hfs] at ht2; cases ht2
      | @struct _ fs' _ parts ht2 hl2 hn2 he2 =>
        rw [hfs] at ht2; cases ht2
        rw [c28] at hl2
        have c9 : Try.prog.cellsOf 9 = 1 := rfl
        have c26 : Try.prog.cellsOf 26 = 1 := rfl
        have hsz : 4 ≤ fs.size := by
          obtain ⟨f, q, _⟩ := f3
          have := (Array.getElem?_eq_some_iff.1 q).1
          omega
        have get : ∀ j (_ : j < 4) f, fs[j]? = some f → ∃ d, DRep Try.prog h f.type ((ys.drop f.offset).take (Try.prog.cellsOf f.type)) d := fun j hj f hf => ⟨_, he2 j f _ hf (List.getElem?_eq_getElem (show j < parts.length by omega))⟩
        obtain ⟨f, g1, g2, g3⟩ := f0
        obtain ⟨_, d0⟩ := get 0 (by omega) f g1
        rw [g2, g3, c9] at d0
        obtain ⟨f, g1, g2, g3⟩ := f1
        obtain ⟨_, d1⟩ := get 1 (by omega) f g1
        rw [g2, g3, c26] at d1
        obtain ⟨f, g1, g2, g3⟩ := f2
        obtain ⟨_, d2⟩ := get 2 (by omega) f g1
        rw [g2, g3, c9] at d2
        obtain ⟨f, g1, g2, g3⟩ := f3
        obtain ⟨_, d3⟩ := get 3 (by omega) f g1
        rw [g2, g3, c9] at d3
        obtain ⟨s0, e0⟩ := drep_str d0
        obtain ⟨rv, l, e1, r1⟩ := drep_strs d1
        obtain ⟨s2, e2⟩ := drep_str d2
        obtain ⟨s3, e3⟩ := drep_str d3
        obtain ⟨y0, y1, y2, y3, rfl⟩ : ∃ y0 y1 y2 y3, ys = [y0, y1, y2, y3] := by
          clear d0 d1 d2 d3 e0 e1 e2 e3 r1 he2 get
          rcases ys with _ | ⟨y0, _ | ⟨y1, _ | ⟨y2, _ | ⟨y3, _ | ⟨y4, t⟩⟩⟩⟩⟩ <;> simp at hl2
          exact ⟨y0, y1, y2, y3, rfl⟩
        simp at e0 e1 e2 e3
        subst e0 e1 e2 e3
        exact ⟨(s0, l), _, s2, s3, rfl, r1⟩
    refine ⟨v, A, rfl, vs, by rw [hA1]; exact hr, hA2⟩

theorem plain_paths : plainB Try.prog [24, 26, 28, 9] = true := by kernel_rfl

end Go.Am

namespace Go.Proofs.Ytfieacodpjpfbaa.graphTells
open Go.ChangeShapes Go.WideShapes Go.ChangeAt Go.RowKit Go.Am

theorem own : ownKnob Try.prog.godebug = none := by kernel_rfl
theorem laidOut : laidOutB Try.prog = true := by kernel_rfl

set_option maxRecDepth 100000 in
theorem lifted (os : Os) (started : os.Started) (H : Type) (enc : TypeId × Value → H) :
    ReturnsInHanded {} Try.checked os 5 .any (Rows.graphTellsSpec.pre6 enc Try.prog Try.f5 Rows.graphTellsRow.domain false) (Rows.graphTellsSpec.post enc Try.prog Try.f5 false true false false) := by
  refine returnsInHanded_of_change (C := Try.checked) own started (by kernel_rfl) Try.func5
    (ChangeSpec.witness6 (enc := enc) (C := Try.checked) false ⟨#[], #[.slice none 0 0, .slice none 0 0], []⟩ 8 (by kernel_rfl) (by kernel_rfl) (by kernel_rfl) (by kernel_rfl)) ?_
  intro W base args ds gs before hval0 hW hcnd _
  have hval : ∀ (j : Nat) t v, Try.f5.params[j]? = some t → args[j]? = some v → Value.okWide Try.prog W .any base t v := hval0
  have hW' := hW
  obtain ⟨p, q, hA0, hV, rfl, hfz, hnd⟩ := hW
  have hA : DataW.TrodAll enc Try.prog W 0 (fun _ => true) true Try.f5.params.toList args.toList ds p := hA0
  rw [Try.params5] at hA hval
  obtain ⟨rfl, rfl⟩ := trodVars_none hV
  have hA' := hA
  obtain ⟨v0, v1, d0, d1, p0, p1, rfl, rfl, rfl, h0, h1⟩ := trodAll_two hA
  obtain ⟨a0, len0, cap0, rfl⟩ := okWide_slice Try.underlying24 (hval 0 24 v0 rfl rfl)
  obtain ⟨a1, len1, cap1, rfl⟩ := okWide_slice Try.underlying26 (hval 1 26 v1 rfl rfl)
  simp only [List.append_nil] at hW'
  have hlt : ∀ x ∈ p0 ++ p1, x.block < W.heap.size := fun x hx => by simpa using hW'.lt x hx
  obtain ⟨β, h, xss, hs, _, _, hn, hf⟩ := adopt_all plain_paths (ts := [24, 26]) (fun t ht => by simp only [List.mem_cons, List.not_mem_nil, or_false] at ht ⊢; rcases ht with rfl | rfl <;> simp) hA' _ _ (start0 W (WR.start W))
  obtain ⟨x0, x1, rfl⟩ : ∃ x0 x1, xss = [x0, x1] := by
    match xss, hn with
    | [x0, x1], _ => exact ⟨x0, x1, rfl⟩
  obtain ⟨r0, _, e0⟩ := hf 0 24 _ d0 x0 rfl rfl rfl rfl
  obtain ⟨r1, _, e1⟩ := hf 1 26 _ d1 x1 rfl rfl rfl rfl
  obtain ⟨y0, A, rfl, hpa⟩ := drep_paths e0
  obtain ⟨y1, l1, rfl, hrow1⟩ := drep_strs e1
  have q0 := vr_cell r0 rfl
  have q1 := vr_cell r1 rfl
  obtain ⟨h', hrun⟩ := graphTells_walk hs.wr.wf hpa hrow1 (N := 2000) (Nat.le_refl _)
  have hent : EG (.enter 5) [y0, y1] h = some (.bool true, h') := run_enter (n := 2000) rfl rfl (by rw [F5_eq]; exact hrun)
  refine (open_walk eg_ok hent hs.wr (VRL.cons q0 (VRL.cons q1 VRL.nil))).mono fun e W' ⟨he, hb⟩ => ?_
  subst he
  exact ⟨_, rfl, law_post hW' rfl hb (t := 4) rfl Try.underlying4 (fun sp hsp => by
    rw [Try.params5]
    exact trodAll_stays laidOut hb (by kernel_rfl) hA' hlt (fun x hx => hsp x hx)) (fun sp => rfl)⟩

theorem proved : Rows.GraphTellsSaid :=
  OpenClaim.holds_of_wide 5 Try.f5 rfl rfl rfl rfl rfl rfl rfl ⟨rfl, rfl, rfl, rfl, rfl⟩ rfl rfl rfl rfl rfl (by kernel_rfl) Try.func5 (by kernel_rfl)
    (of_decide_eq_true (by kernel_rfl)) (by unfold Func.isWrapper; first | (rw [if_pos (by decide +kernel)]; kernel_rfl) | (rw [if_neg (by decide +kernel)]; exact ⟨rfl, rfl⟩))
    (fun os started H enc _ => lifted os started H enc)

end Go.Proofs.Ytfieacodpjpfbaa.graphTells
