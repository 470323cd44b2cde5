/-
  inode: Unlink.
-/
import Derived.Test.YtpofhpkdjcnhmaaT6
set_option linter.unusedVariables false
set_option linter.unusedSimpArgs false
namespace Go.Am
open Go Go.Proofs

def emptyE (tb : Tb) (dir : Int) (name : Bs) : Int := match findT tb dir name with
  | some n => (match tb.nodes n with | some nd => if nd.ents.length = 0 then 0 else 20 | none => 0)
  | none => 0
def unlinkE (tb : Tb) (dir : Int) (name : Bs) : Int := firstE [0, dirE tb dir, entryE tb dir name, emptyE tb dir name]
def goneT (tb : Tb) (f : Int → Option Nd) (ino : Int) : Tb := match f ino with
  | some nd => if nd.links - 1 = 0 then { tb with ui := tb.ui - 1, ub := tb.ub - nd.data.length, nodes := upd f ino none } else { tb with nodes := upd f ino (some { nd with links := nd.links - 1 }) }
  | none => { tb with nodes := f }
def unlinkT (tb : Tb) (dir : Int) (name : Bs) : Tb := if unlinkE tb dir name = 0 then (match findT tb dir name with
  | some ino => goneT tb (delE tb.nodes dir name) ino
  | none => tb) else tb

theorem upd_upd (f : Int → Option Nd) (k : Int) (x y : Option Nd) : upd (upd f k x) k y = upd f k y := by
  funext j
  unfold upd
  split <;> rfl

section
variable {S : Nat → Prop} {h : AHeap} {o : Nat} {tb : Tb} {L : Lay}

theorem unlink_run (a : TR S h o tb L) (hw : h.WF) (hs : Small tb) {dir : Int} {name : Bs} (hent : ∀ n, findT tb dir name = some n → ∃ nd, tb.nodes n = some nd ∧ nd.data.length < 1000000000000 ∧ -1000000000000 < nd.links ∧ nd.links < 1000000000000) :
    ∃ h', EG (.fn 14) [.ptr o 0, .int .i64 dir, .str name] h = some (.int .i64 (unlinkE tb dir name), h') ∧ TR S h' o (unlinkT tb dir name) L ∧ Step S h S h' := by
  obtain ⟨b0, h1, e1, g1, x1, n1⟩ := box hw (.ptr o 0) rfl rfl
  obtain ⟨b2, h2, e2, g2, x2, n2⟩ := box x1.wf (.int .i64 dir) rfl rfl
  obtain ⟨b4, h3, e3, g3, x3, n3⟩ := box x2.wf (.str name) rfl rfl
  have X3 := (x1.trans x2).trans x3
  obtain ⟨c4, h4, e4, x4, a4⟩ := dir_run (a.ext X3) x3.wf dir
  have X4 := X3.trans x4
  obtain ⟨c5, h5, e5, x5, a5⟩ := entry_run (a.ext X4) x4.wf dir name
  have X5 := X4.trans x5
  have k0a : h3.get b0 = some (.cells [.ptr o 0] true) := x3.keep _ _ (x2.keep _ _ g1)
  have k2a : h3.get b2 = some (.cells [.int .i64 dir] true) := x3.keep _ _ g2
  have k0b : h4.get b0 = some (.cells [.ptr o 0] true) := x4.keep _ _ k0a
  have k2b : h4.get b2 = some (.cells [.int .i64 dir] true) := x4.keep _ _ k2a
  have k4b : h4.get b4 = some (.cells [.str name] true) := x4.keep _ _ g3
  have k0 : h5.get b0 = some (.cells [.ptr o 0] true) := x5.keep _ _ k0b
  have k2 : h5.get b2 = some (.cells [.int .i64 dir] true) := x5.keep _ _ k2b
  have k4 : h5.get b4 = some (.cells [.str name] true) := x5.keep _ _ k4b
  have e6 : abuildSlice tab h5 90 4 [(0, .func 27 [.ptr o 0] []), (1, .func 57 [] c4), (2, .func 63 [] c5), (3, .func 36 [] [.ptr b0 0, .ptr b2 0, .ptr b4 0])] = some (.slice h5.next 0 4 1, h5.add (.cells [.func 27 [.ptr o 0] [], .func 57 [] c4, .func 63 [] c5, .func 36 [] [.ptr b0 0, .ptr b2 0, .ptr b4 0]] true)) := rfl
  have x6 : Ext h5 (h5.add (.cells [.func 27 [.ptr o 0] [], .func 57 [] c4, .func 63 [] c5, .func 36 [] [.ptr b0 0, .ptr b2 0, .ptr b4 0]] true)) := (Ext.refl x5.wf).add _
  have r6 := slice_row (h := h5) [.func 27 [.ptr o 0] [], .func 57 [] c4, .func 63 [] c5, .func 36 [] [.ptr b0 0, .ptr b2 0, .ptr b4 0]]
  generalize hh6 : h5.add (.cells [.func 27 [.ptr o 0] [], .func 57 [] c4, .func 63 [] c5, .func 36 [] [.ptr b0 0, .ptr b2 0, .ptr b4 0]] true) = h6 at e6 x6 r6
  have ask : ∀ n, findT tb dir name = some n → Ask h6 (.func 36 [] [.ptr b0 0, .ptr b2 0, .ptr b4 0]) (emptyE tb dir name) := fun n hn => by
    obtain ⟨nd, hk, _⟩ := hent n hn
    refine ⟨36, [], _, rfl, fun h' x' => ⟨h', run36 0 ?_, Ext.refl x'.wf⟩⟩
    have A' := a.ext ((X5.trans x6).trans x')
    have hfr := find_run A' dir name
    rw [hn] at hfr
    unfold F36
    simp only [ld23 (x'.keep _ _ (x6.keep _ _ k0)), ld3 (x'.keep _ _ (x6.keep _ _ k2)), ld9 (x'.keep _ _ (x6.keep _ _ k4)), valK_s, hfr, bothK_s, extractA_0, extractA_1, nil_ptr, fa68_2, A'.l_m, intOf, A'.look_some hk, fa65_2, A'.l_ents hk, A'.len hk, abin_eql, must_run, emptyE, hn, hk]
    have : decide ((nd.ents.length : Int) = 0) = decide (nd.ents.length = 0) := by
      by_cases q : nd.ents.length = 0 <;> simp [q]
    rw [this]
    simp only [decide_eq_true_eq]
  have q : Asks h6 [.func 27 [.ptr o 0] [], .func 57 [] c4, .func 63 [] c5, .func 36 [] [.ptr b0 0, .ptr b2 0, .ptr b4 0]] [0, dirE tb dir, entryE tb dir name, emptyE tb dir name] :=
    ⟨there_ask, fun _ => ⟨a4.ext (x5.trans x6), fun _ => ⟨a5.ext x6, fun hz => by
      obtain ⟨n, hn⟩ := entryE_zero hz
      exact ⟨ask n hn, fun _ => trivial⟩⟩⟩⟩
  obtain ⟨h7, e7, x7⟩ := first_run q r6 (by simp) x6.wf
  replace e7 : EG (.fn 26) [.slice h5.next 0 4 1] h6 = some (.int .i64 (unlinkE tb dir name), h7) := e7
  have hT : unlinkT tb dir name = if unlinkE tb dir name = 0 then (match findT tb dir name with
    | some ino => goneT tb (delE tb.nodes dir name) ino
    | none => tb) else tb := rfl
  rw [hT]
  have hz0 : unlinkE tb dir name = 0 → ∀ e ∈ [0, dirE tb dir, entryE tb dir name, emptyE tb dir name], e = 0 := firstE_zero.1
  clear hT q
  generalize unlinkE tb dir name = E at e7 hz0 ⊢
  have X7 := (X5.trans x6).trans x7
  have A7 := a.ext X7
  have m0 := x7.keep _ _ (x6.keep _ _ k0)
  have m2 := x7.keep _ _ (x6.keep _ _ k2)
  have m4 := x7.keep _ _ (x6.keep _ _ k4)
  by_cases h0 : E = 0
  · have hz := hz0 h0
    obtain ⟨dnd, hd, hd2⟩ := dirE_zero (hz _ (by simp) : dirE tb dir = 0)
    obtain ⟨ino, hin⟩ := entryE_zero (hz _ (by simp) : entryE tb dir name = 0)
    obtain ⟨nd, hk, hb1, hb2⟩ := hent ino hin
    have hem := (hz _ (by simp) : emptyE tb dir name = 0)
    have hno : nd.ents.length = 0 := by
      simp only [emptyE, hin, hk] at hem
      split at hem
      · assumption
      · simp at hem
    have hne : ino ≠ dir := fun e => by
      rw [e, hd] at hk; cases hk
      rw [findT_some hd, List.eq_nil_of_length_eq_zero hno] at hin
      cases hin
    have nb0 := a.not_new n1
    have nb2 := a.not_new (x1.none n2)
    have nb4 := a.not_new (x1.none (x2.none n3))
    have hfr := find_run A7 dir name
    rw [hin] at hfr
    obtain ⟨y, e8, ⟨z, gz⟩, a8⟩ := A7.leave hd hd2 name
    have hiE := A7.inE _ _ hd hd2
    have k8 := X7.step.put hiE gz y
    have p0 := keepP (z := y) m0 nb0 hiE
    have hev : evOf L dir dnd = .map (L.ent dir) := by simp only [evOf, hd2, if_true]
    generalize hh8 : h7.put (L.ent dir) y = h8 at e8 a8 k8 p0
    have hk8 : upd tb.nodes dir (some { dnd with ents := delN name dnd.ents }) ino = some nd := by rw [upd_ne _ _ hne]; exact hk
    have e9 := a8.s_links hk8 (nd.links - 1)
    have a9 := a8.setNode (nd' := { nd with links := nd.links - 1 }) hk8 rfl rfl
    have hiN := a8.inN _ _ hk8
    have k9 := k8.put hiN (a8.node _ _ hk8) (.cells (ndCells L ino { nd with links := nd.links - 1 }) true)
    have p09 := keepP (z := .cells (ndCells L ino { nd with links := nd.links - 1 }) true) p0 nb0 hiN
    generalize hh9 : h8.put (L.place ino) (.cells (ndCells L ino { nd with links := nd.links - 1 }) true) = h9 at e9 a9 k9 p09
    have hk9 : upd (upd tb.nodes dir (some { dnd with ents := delN name dnd.ents })) ino (some { nd with links := nd.links - 1 }) ino = some { nd with links := nd.links - 1 } := upd_self _ _ _
    have hl9 := a9.l_links hk9
    have sub1 := abin_sub (T := tab) (t := 3) (show -9223372036854775808 ≤ nd.links - 1 by omega) (show nd.links - 1 ≤ 9223372036854775807 by omega)
    have su := hs.ui; have sb := hs.ub
    by_cases hlast : nd.links - 1 = 0
    · obtain ⟨l, c, q1, q2, q3⟩ := a9.map
      have e10 := delete_int (T := tab) (h := h9) (m := L.m) (key := ino) ty66 q1 q2
      have a10 := a9.delNode (k := ino) q1 q2 q3
      have k10 := k9.put a9.inM q1 (.map (intE (delI ino l)) c)
      have p010 := keepP (z := .map (intE (delI ino l)) c) p09 nb0 a9.inM
      have gn10 : (h9.put L.m (.map (intE (delI ino l)) c)).get (L.place ino) = some (.cells (ndCells L ino { nd with links := nd.links - 1 }) true) := by
        rw [AHeap.get_put_ne _ _ (fun e => a9.m_ne_place hk9 e.symm)]; exact a9.node _ _ hk9
      generalize hh10 : h9.put L.m (.map (intE (delI ino l)) c) = h10 at e10 a10 k10 p010 gn10
      have e11 := a10.s_ui (tb.ui - 1)
      have a11 := a10.setTop (tb' := { tb with ui := tb.ui - 1, nodes := upd (upd (upd tb.nodes dir (some { dnd with ents := delN name dnd.ents })) ino (some { nd with links := nd.links - 1 })) ino none }) rfl
      have k11 := k10.put a10.inO a10.top (.cells (tbCells L { tb with ui := tb.ui - 1, nodes := upd (upd (upd tb.nodes dir (some { dnd with ents := delN name dnd.ents })) ino (some { nd with links := nd.links - 1 })) ino none }) true)
      have p011 := keepP (z := .cells (tbCells L { tb with ui := tb.ui - 1, nodes := upd (upd (upd tb.nodes dir (some { dnd with ents := delN name dnd.ents })) ino (some { nd with links := nd.links - 1 })) ino none }) true) p010 nb0 a10.inO
      have hpo : L.place ino ≠ o := a.apart _ _ hk
      have gn11 : (h10.put o (.cells (tbCells L { tb with ui := tb.ui - 1, nodes := upd (upd (upd tb.nodes dir (some { dnd with ents := delN name dnd.ents })) ino (some { nd with links := nd.links - 1 })) ino none }) true)).get (L.place ino) = some (.cells (ndCells L ino { nd with links := nd.links - 1 }) true) := by
        rw [AHeap.get_put_ne _ _ hpo]; exact gn10
      replace e11 : storeA tab h10 3 (.ptr o 2) (.int .i64 (tb.ui - 1)) = some (h10.put o (.cells (tbCells L { tb with ui := tb.ui - 1, nodes := upd (upd (upd tb.nodes dir (some { dnd with ents := delN name dnd.ents })) ino (some { nd with links := nd.links - 1 })) ino none }) true)) := e11
      generalize hh11 : h10.put o (.cells (tbCells L { tb with ui := tb.ui - 1, nodes := upd (upd (upd tb.nodes dir (some { dnd with ents := delN name dnd.ents })) ino (some { nd with links := nd.links - 1 })) ino none }) true) = h11 at e11 a11 k11 p011 gn11
      have e12 := a11.s_ub (tb.ub - nd.data.length)
      have a12 := a11.setTop (tb' := { tb with ui := tb.ui - 1, ub := tb.ub - nd.data.length, nodes := upd (upd (upd tb.nodes dir (some { dnd with ents := delN name dnd.ents })) ino (some { nd with links := nd.links - 1 })) ino none }) rfl
      have k12 := k11.put a11.inO a11.top (.cells (tbCells L { tb with ui := tb.ui - 1, ub := tb.ub - nd.data.length, nodes := upd (upd (upd tb.nodes dir (some { dnd with ents := delN name dnd.ents })) ino (some { nd with links := nd.links - 1 })) ino none }) true)
      have ldat : loadA tab h11 9 (.ptr (L.place ino) 2) = some (.str nd.data) := loadA_cell ty9 rfl gn11 rfl
      refine ⟨_, run14 0 ?_, ?_, k12⟩
      · unfold F14
        simp only [e1, e2, e3, bothK_s, ld23 k0a, ld3 k2a, ld9 g3, valK_s, e4, ld23 k0b, ld3 k2b, ld9 k4b, sameK_r, e5, ld23 k0, e6, e7, abin_neq]
        simp only [h0, decide_true, Bool.not_true, boolK_f, ld23 m0, ld3 m2, ld9 m4, valK_s, hfr, bothK_s, extractA_0, extractA_1, intOf, nil_ptr, fa68_2, A7.l_m, A7.look_some hd, fa65_2, A7.l_ents hd, hev, e8, hpK_s, ld23 p0, a8.l_m, a8.look_some hk8, fa65_0, fa35_3, a8.l_links hk8, sub1, e9, hl9, abin_eql]
        simp only [hlast, decide_true, boolK_t, ld23 p09, valK_s, nil_ptr, fa68_2, a9.l_m, e10, hpK_s, ld23 p010, fa68_1, fa26_20, fa26_21, a10.l_ui, abin_sub (show -9223372036854775808 ≤ tb.ui - 1 by omega) (show tb.ui - 1 ≤ 9223372036854775807 by omega), e11, ld23 p011, a11.l_ub, fa65_0, fa35_2, ldat, alen9,
          abin_sub (show -9223372036854775808 ≤ tb.ub - nd.data.length by omega) (show tb.ub - nd.data.length ≤ 9223372036854775807 by omega)]
        exact congrArg (fun x => hpK x fun h92 => some (AV.int .i64 0, h92)) e12
      · rw [if_pos h0]
        simp only [hin, goneT, delE_some hd, hk8, hlast, if_true]
        rw [upd_upd] at a12
        exact a12
    · refine ⟨h9, run14 0 ?_, ?_, k9⟩
      · unfold F14
        simp only [e1, e2, e3, bothK_s, ld23 k0a, ld3 k2a, ld9 g3, valK_s, e4, ld23 k0b, ld3 k2b, ld9 k4b, sameK_r, e5, ld23 k0, e6, e7, abin_neq]
        simp only [h0, decide_true, Bool.not_true, boolK_f, ld23 m0, ld3 m2, ld9 m4, valK_s, hfr, bothK_s, extractA_0, extractA_1, intOf, nil_ptr, fa68_2, A7.l_m, A7.look_some hd, fa65_2, A7.l_ents hd, hev, e8, hpK_s, ld23 p0, a8.l_m, a8.look_some hk8, fa65_0, fa35_3, a8.l_links hk8, sub1, e9, hl9, abin_eql]
        simp only [decide_eq_false hlast, boolK_f]
      · rw [if_pos h0]
        simp only [hin, goneT, delE_some hd, hk8, hlast, if_false]
        exact a9
  · refine ⟨h7, run14 0 ?_, by rw [if_neg h0]; exact A7, X7.step⟩
    unfold F14
    simp only [e1, e2, e3, bothK_s, ld23 k0a, ld3 k2a, ld9 g3, valK_s, e4, ld23 k0b, ld3 k2b, ld9 k4b, sameK_r, e5, ld23 k0, e6, e7, abin_neq]
    simp only [decide_eq_false h0, Bool.not_false, boolK_t]
end
end Go.Am
