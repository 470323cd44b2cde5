/-
  inode: Make.
-/
import Derived.Test.YtpofhpkdjcnhmaaT4
set_option linter.unusedVariables false
set_option linter.unusedSimpArgs false
namespace Go.Am
open Go Go.Proofs

theorem slice_row {h : AHeap} (fs : List AV) : Row (h.add (.cells fs true)) (.slice h.next 0 fs.length 1) fs.length 1 fs :=
  ⟨by simp, .inr (.inr ⟨_, 0, fs, true, rfl, AHeap.get_add_self _ _, by simp, fun j _ => by rw [Nat.zero_add]⟩)⟩

section
variable {S : Nat → Prop} {h : AHeap} {o : Nat} {tb : Tb} {L : Lay}

theorem Step.none {S' : Nat → Prop} {h' : AHeap} (a : Step S h S' h') {j : Nat} (hj : h'.get j = none) (hS : ¬ S j) : h.get j = none := by
  cases e : h.get j with
  | none => rfl
  | some y => rw [a.keep j y e hS] at hj; cases hj

theorem ne_of_get {j k : Nat} {y : AObj} (h1 : h.get j = some y) (h2 : h.get k = none) : j ≠ k := fun e => by rw [e, h2] at h1; cases h1

theorem make_run (a : TR S h o tb L) (hw : h.WF) (hs : Small tb) (hf : Fresh tb) {dir kind mode : Int} {name data : Bs} (hl : 0 ≤ tb.last ∧ tb.last < 1000000000000) (hname : name.length ≤ 56 → AnyOK name) (hdl : data.length < 1152921504606846976) :
    ∃ S' L' h', EG (.fn 8) [.ptr o 0, .int .i64 dir, .str name, .int .i64 kind, .int .i64 mode, .str data] h = some (.tuple [.int .i64 (if makeE tb dir name kind mode data = 0 then tb.last + 1 else 0), .int .i64 (makeE tb dir name kind mode data)], h') ∧
      TR S' h' o (makeT tb dir name kind mode data) L' ∧ Step S h S' h' := by
  obtain ⟨b0, h1, e1, g1, x1, n1⟩ := box hw (.ptr o 0) rfl rfl
  obtain ⟨b2, h2, e2, g2, x2, n2⟩ := box x1.wf (.int .i64 kind) rfl rfl
  obtain ⟨b4, h3, e3, g3, x3, n3⟩ := box x2.wf (.int .i64 mode) rfl rfl
  obtain ⟨b6, h4, e4, g4, x4, n4⟩ := box x3.wf (.str data) rfl rfl
  have X4 := ((x1.trans x2).trans x3).trans x4
  obtain ⟨c5, h5, e5, x5, a5⟩ := dir_run (a.ext X4) x4.wf dir
  obtain ⟨c6, h6, e6, x6, a6⟩ := named_run x5.wf hname
  obtain ⟨c7, h7, e7, x7, a7⟩ := free_run (a.ext ((X4.trans x5).trans x6)) x6.wf dir name
  have k0 : h7.get b0 = some (.cells [.ptr o 0] true) := x7.keep _ _ (x6.keep _ _ (x5.keep _ _ (x4.keep _ _ (x3.keep _ _ (x2.keep _ _ g1)))))
  have k0a : h4.get b0 = some (.cells [.ptr o 0] true) := x4.keep _ _ (x3.keep _ _ (x2.keep _ _ g1))
  have k0b : h5.get b0 = some (.cells [.ptr o 0] true) := x5.keep _ _ k0a
  have k0c : h6.get b0 = some (.cells [.ptr o 0] true) := x6.keep _ _ k0b
  have k2 : h7.get b2 = some (.cells [.int .i64 kind] true) := x7.keep _ _ (x6.keep _ _ (x5.keep _ _ (x4.keep _ _ (x3.keep _ _ g2))))
  have k4 : h7.get b4 = some (.cells [.int .i64 mode] true) := x7.keep _ _ (x6.keep _ _ (x5.keep _ _ (x4.keep _ _ g3)))
  have k6 : h7.get b6 = some (.cells [.str data] true) := x7.keep _ _ (x6.keep _ _ (x5.keep _ _ g4))
  have X7 := ((X4.trans x5).trans x6).trans x7
  let fs : List AV := [.func 27 [.ptr o 0] [], .func 57 [] c5, .func 58 [] c6, .func 23 [] [.ptr b6 0, .ptr b2 0, .ptr b4 0], .func 60 [] c7, .func 31 [] [.ptr b0 0, .ptr b6 0]]
  have e8 : abuildSlice tab h7 90 6 [(0, .func 27 [.ptr o 0] []), (1, .func 57 [] c5), (2, .func 58 [] c6), (3, .func 23 [] [.ptr b6 0, .ptr b2 0, .ptr b4 0]), (4, .func 60 [] c7), (5, .func 31 [] [.ptr b0 0, .ptr b6 0])] = some (.slice h7.next 0 6 1, h7.add (.cells fs true)) := rfl
  have x8 : Ext h7 (h7.add (.cells fs true)) := (Ext.refl x7.wf).add _
  have r8 : Row (h7.add (.cells fs true)) (.slice h7.next 0 6 1) fs.length 1 fs := slice_row fs
  have w8 := x8.wf
  generalize hh8 : h7.add (.cells fs true) = h8 at e8 x8 r8 w8
  have q : Asks h8 fs [0, dirE tb dir, nameE name, likeE kind mode data, freeE tb dir name, roomE tb 1 data.length] :=
    ⟨there_ask, fun _ => ⟨a5.ext (((x6.trans x7).trans x8)), fun _ => ⟨a6.ext (x7.trans x8), fun _ => ⟨(like_ask k6 k2 k4 x7.wf).ext x8, fun _ => ⟨a7.ext x8, fun _ => ⟨(room1_ask (a.ext X7) x7.wf hs k0 k6 hdl).ext x8, fun _ => trivial⟩⟩⟩⟩⟩⟩
  obtain ⟨h9, e9, x9⟩ := first_run q r8 (by show 6 < 1000; omega) w8
  replace e9 : EG (.fn 26) [.slice h7.next 0 6 1] h8 = some (.int .i64 (makeE tb dir name kind mode data), h9) := e9
  have hT : makeT tb dir name kind mode data = if makeE tb dir name kind mode data = 0 then madeT tb dir name kind mode data else tb := rfl
  rw [hT]
  have hz0 : makeE tb dir name kind mode data = 0 → ∀ e ∈ [0, dirE tb dir, nameE name, likeE kind mode data, freeE tb dir name, roomE tb 1 data.length], e = 0 := firstE_zero.1
  clear hT q
  generalize makeE tb dir name kind mode data = E at e9 hz0 ⊢
  have X9 := (X7.trans x8).trans x9
  have A9 := a.ext X9
  have m0 := x9.keep _ _ (x8.keep _ _ k0)
  have m2 := x9.keep _ _ (x8.keep _ _ k2)
  have m4 := x9.keep _ _ (x8.keep _ _ k4)
  have m6 := x9.keep _ _ (x8.keep _ _ k6)
  by_cases h0 : E = 0
  · have hz := hz0 h0
    obtain ⟨dnd, hd, hd2⟩ := dirE_zero (hz _ (by simp) : dirE tb dir = 0)
    have hn := freeE_zero (hz _ (by simp) : freeE tb dir name = 0)
    rw [findT_some hd] at hn
    have nb0 := a.not_new n1
    have nb2 := a.not_new (x1.none n2)
    have nb4 := a.not_new (x1.none (x2.none n3))
    have nb6 := a.not_new (x1.none (x2.none (x3.none n4)))
    have e10 := A9.s_last (tb.last + 1)
    have a10 := A9.setTop (tb' := { tb with last := tb.last + 1 }) rfl
    have k10 : Step S h S (h9.put o (.cells (tbCells L { tb with last := tb.last + 1 }) true)) := X9.step.put A9.inO A9.top _
    have p0 := keepP (z := .cells (tbCells L { tb with last := tb.last + 1 }) true) m0 nb0 A9.inO
    have p2 := keepP (z := .cells (tbCells L { tb with last := tb.last + 1 }) true) m2 nb2 A9.inO
    have p4 := keepP (z := .cells (tbCells L { tb with last := tb.last + 1 }) true) m4 nb4 A9.inO
    have p6 := keepP (z := .cells (tbCells L { tb with last := tb.last + 1 }) true) m6 nb6 A9.inO
    generalize hh10 : h9.put o (.cells (tbCells L { tb with last := tb.last + 1 }) true) = h10 at e10 a10 k10 p0 p2 p4 p6
    have c38 : abuild tab 35 [(0, .int .i64 kind), (1, .int .i64 mode), (2, .str data), (3, .int .i64 1)] = some (.agg [.int .i64 kind, .int .i64 mode, .str data, .int .i64 1]) := rfl
    have c39 : abuild tab 65 [(0, .agg [.int .i64 kind, .int .i64 mode, .str data, .int .i64 1])] = some (.agg [.int .i64 kind, .int .i64 mode, .str data, .int .i64 1, .int .i64 0, .nilmap]) := rfl
    have c40 : boxA h10 (.agg [.int .i64 kind, .int .i64 mode, .str data, .int .i64 1, .int .i64 0, .nilmap]) = some (.ptr h10.next 0, h10.add (.cells [.int .i64 kind, .int .i64 mode, .str data, .int .i64 1, .int .i64 0, .nilmap] true)) := rfl
    have w10 := k10.wf
    have f10 : h10.get h10.next = none := w10.new
    have x11 : Ext h10 (h10.add (.cells [.int .i64 kind, .int .i64 mode, .str data, .int .i64 1, .int .i64 0, .nilmap] true)) := (Ext.refl w10).add _
    have g11 : (h10.add (.cells [.int .i64 kind, .int .i64 mode, .str data, .int .i64 1, .int .i64 0, .nilmap] true)).get h10.next = some (.cells [.int .i64 kind, .int .i64 mode, .str data, .int .i64 1, .int .i64 0, .nilmap] true) := AHeap.get_add_self _ _
    generalize hh11 : h10.add (.cells [.int .i64 kind, .int .i64 mode, .str data, .int .i64 1, .int .i64 0, .nilmap] true) = h11 at c40 x11 g11
    have hxS : ¬ S h10.next := a10.not_new f10
    have hlast : ({ tb with last := tb.last + 1 } : Tb).nodes ({ tb with last := tb.last + 1 } : Tb).last = none := hf _ (by show tb.last < tb.last + 1; omega)
    have hlast2 : 0 ≤ ({ tb with last := tb.last + 1 } : Tb).last ∧ ({ tb with last := tb.last + 1 } : Tb).last < 1152921504606846976 := by show 0 ≤ tb.last + 1 ∧ tb.last + 1 < _; omega
    have hs' : Small { tb with last := tb.last + 1 } := ⟨hs.qi, hs.qb, hs.ui, hs.ub⟩
    by_cases hk2 : kind = 2
    · subst hk2
      have c97 : newMapA h11 = some (.map h11.next, h11.add (.map [] 0)) := rfl
      have f11 : h11.get h11.next = none := x11.wf.new
      have x12 : Ext h10 (h11.add (.map [] 0)) := x11.add _
      have g12 : (h11.add (.map [] 0)).get h10.next = some (.cells [.int .i64 2, .int .i64 mode, .str data, .int .i64 1, .int .i64 0, .nilmap] true) := ((Ext.refl x11.wf).add _).keep _ _ g11
      have ge : (h11.add (.map [] 0)).get h11.next = some (.map (strE []) 0) := AHeap.get_add_self _ _
      have hne : h11.next ≠ h10.next := fun e => by rw [e, g11] at f11; cases f11
      generalize hh12 : h11.add (.map [] 0) = h12 at c97 x12 g12 ge
      have c13 : storeA tab h12 3 (.ptr h10.next 4) (.int .i64 dir) = some (h12.put h10.next (.cells [.int .i64 2, .int .i64 mode, .str data, .int .i64 1, .int .i64 dir, .nilmap] true)) := by
        simp only [storeA, astore, g12, ty3]; rfl
      have x13 : Ext h10 (h12.put h10.next (.cells [.int .i64 2, .int .i64 mode, .str data, .int .i64 1, .int .i64 dir, .nilmap] true)) := x12.put f10 g12 _
      have g13 : (h12.put h10.next (.cells [.int .i64 2, .int .i64 mode, .str data, .int .i64 1, .int .i64 dir, .nilmap] true)).get h10.next = some (.cells [.int .i64 2, .int .i64 mode, .str data, .int .i64 1, .int .i64 dir, .nilmap] true) := AHeap.get_put_self _ _ _
      have ge13 : (h12.put h10.next (.cells [.int .i64 2, .int .i64 mode, .str data, .int .i64 1, .int .i64 dir, .nilmap] true)).get h11.next = some (.map (strE []) 0) := by rw [AHeap.get_put_ne _ _ hne]; exact ge
      generalize hh13 : h12.put h10.next (.cells [.int .i64 2, .int .i64 mode, .str data, .int .i64 1, .int .i64 dir, .nilmap] true) = h13 at c13 x13 g13 ge13
      have c14 : storeA tab h13 63 (.ptr h10.next 5) (.map h11.next) = some (h13.put h10.next (.cells [.int .i64 2, .int .i64 mode, .str data, .int .i64 1, .int .i64 dir, .map h11.next] true)) := by
        simp only [storeA, astore, g13, ty63]; rfl
      have x14 : Ext h10 (h13.put h10.next (.cells [.int .i64 2, .int .i64 mode, .str data, .int .i64 1, .int .i64 dir, .map h11.next] true)) := x13.put f10 g13 _
      have g14 : (h13.put h10.next (.cells [.int .i64 2, .int .i64 mode, .str data, .int .i64 1, .int .i64 dir, .map h11.next] true)).get h10.next = some (.cells [.int .i64 2, .int .i64 mode, .str data, .int .i64 1, .int .i64 dir, .map h11.next] true) := AHeap.get_put_self _ _ _
      have ge14 : (h13.put h10.next (.cells [.int .i64 2, .int .i64 mode, .str data, .int .i64 1, .int .i64 dir, .map h11.next] true)).get h11.next = some (.map (strE []) 0) := by rw [AHeap.get_put_ne _ _ hne]; exact ge13
      generalize hh14 : h13.put h10.next (.cells [.int .i64 2, .int .i64 mode, .str data, .int .i64 1, .int .i64 dir, .map h11.next] true) = h14 at c14 x14 g14 ge14
      have heS : ¬ S h11.next := fun hS => a10.there _ hS (x11.none f11)
      obtain ⟨S', h', er, at', st⟩ := make_rest (hb := h) (nd := freshNd dir 2 mode data) (x := h10.next) (e := h11.next) (name := name) (data := data) (b0 := b0) (b6 := b6) (a10.ext x14) x14.wf (k10.trans x14.step) hs' hlast2 hlast hd hd2 hn hdl
        (x14.keep _ _ p0) nb0 (x14.keep _ _ p6) nb6 (by rw [g14]; simp only [ndCells, freshNd, evOf, if_true, Lay.set_ent]) hxS (fun _ => ⟨⟨[], 0, ge14, rfl, by simp, List.Pairwise.nil⟩, heS⟩) (fun h => absurd rfl h) (k10.none f10 hxS) (fun _ => k10.none (x11.none f11) heS)
        ⟨ne_of_get p0 f10, ne_of_get (x11.keep _ _ p0) f11⟩ ⟨ne_of_get p6 f10, ne_of_get (x11.keep _ _ p6) f11⟩
      refine ⟨S', _, h', run8 0 ?_, by rw [if_pos h0]; exact at', st⟩
      unfold F8
      simp only [e1, e2, e3, e4, bothK_s, ld23 k0a, valK_s, e5, ld23 k0b, sameK_r, e6, ld23 k0c, e7, ld23 k0, e8, e9, abin_neq]
      simp only [h0, decide_true, Bool.not_true, boolK_f, ld23 m0, nil_ptr, fa68_3, A9.l_last, valK_s, abin_add (show -9223372036854775808 ≤ tb.last + 1 by omega) (show tb.last + 1 ≤ 9223372036854775807 by omega), e10, hpK_s, ld3 p2, ld3 p4, ld9 p6, c38, c39, c40, bothK_s, jn_a, ld3 (x11.keep _ _ p2), abin_eql, boolK_t, c97, fa65_1, c13, fa65_2, c14, if_true]
      exact er
    · obtain ⟨S', h', er, at', st⟩ := make_rest (hb := h) (nd := freshNd dir kind mode data) (x := h10.next) (e := h10.next) (name := name) (data := data) (b0 := b0) (b6 := b6) (a10.ext x11) x11.wf (k10.trans x11.step) hs' hlast2 hlast hd hd2 hn hdl
        (x11.keep _ _ p0) nb0 (x11.keep _ _ p6) nb6 (by rw [g11]; simp only [ndCells, freshNd, evOf, if_neg hk2]) hxS (fun h2 => absurd h2 hk2) (fun _ => rfl) (k10.none f10 hxS) (fun h2 => absurd h2 hk2)
        ⟨ne_of_get p0 f10, ne_of_get p0 f10⟩ ⟨ne_of_get p6 f10, ne_of_get p6 f10⟩
      refine ⟨S', _, h', run8 0 ?_, by rw [if_pos h0]; exact at', st⟩
      unfold F8
      simp only [e1, e2, e3, e4, bothK_s, ld23 k0a, valK_s, e5, ld23 k0b, sameK_r, e6, ld23 k0c, e7, ld23 k0, e8, e9, abin_neq]
      simp only [h0, decide_true, Bool.not_true, boolK_f, ld23 m0, nil_ptr, fa68_3, A9.l_last, valK_s, abin_add (show -9223372036854775808 ≤ tb.last + 1 by omega) (show tb.last + 1 ≤ 9223372036854775807 by omega), e10, hpK_s, ld3 p2, ld3 p4, ld9 p6, c38, c39, c40, bothK_s, jn_a, ld3 (x11.keep _ _ p2), abin_eql, decide_eq_false hk2, if_true]
      exact er
  · refine ⟨S, L, h9, run8 0 ?_, by rw [if_neg h0]; exact A9, X9.step⟩
    unfold F8
    simp only [e1, e2, e3, e4, bothK_s, ld23 k0a, valK_s, e5, ld23 k0b, sameK_r, e6, ld23 k0c, e7, ld23 k0, e8, e9, abin_neq]
    simp only [decide_eq_false h0, Bool.not_false, boolK_t, if_neg h0]
end
end Go.Am
