/-
  inode: Link, Write, Chmod.
-/
import Derived.Test.YtpofhpkdjcnhmaaT5
set_option linter.unusedVariables false
set_option linter.unusedSimpArgs false
namespace Go.Am
open Go Go.Proofs

def incL (f : Int → Option Nd) (k d : Int) : Int → Option Nd := match f k with
  | some nd => upd f k (some { nd with links := nd.links + d })
  | none => f
theorem incL_some {f : Int → Option Nd} {k : Int} {nd : Nd} (h : f k = some nd) (d : Int) : incL f k d = upd f k (some { nd with links := nd.links + d }) := by simp only [incL, h]

def linkE (tb : Tb) (dir : Int) (name : Bs) (ino : Int) : Int := firstE [0, dirE tb dir, nameE name, fileE tb ino, freeE tb dir name]
def linkT (tb : Tb) (dir : Int) (name : Bs) (ino : Int) : Tb := if linkE tb dir name ino = 0 then { tb with nodes := incL (addE tb.nodes dir name ino) ino 1 } else tb

def writeE (tb : Tb) (ino : Int) (data : Bs) : Int := firstE [0, fileE tb ino, match tb.nodes ino with | some nd => roomE tb 0 ((data.length : Int) - nd.data.length) | none => 0]
def writeT (tb : Tb) (ino : Int) (data : Bs) : Tb := if writeE tb ino data = 0 then (match tb.nodes ino with
  | some nd => { tb with ub := tb.ub + ((data.length : Int) - nd.data.length), nodes := upd tb.nodes ino (some { nd with data := data }) }
  | none => tb) else tb

def chmodE (tb : Tb) (ino mode : Int) : Int := firstE [0, if 0 ≤ mode ∧ mode ≤ 511 then 0 else 2, if (tb.nodes ino).isSome = true then 0 else 5]
def chmodT (tb : Tb) (ino mode : Int) : Tb := if chmodE tb ino mode = 0 then (match tb.nodes ino with
  | some nd => { tb with nodes := upd tb.nodes ino (some { nd with mode := mode }) }
  | none => tb) else tb

section
variable {S : Nat → Prop} {h : AHeap} {o : Nat} {tb : Tb} {L : Lay}

theorem link_run (a : TR S h o tb L) (hw : h.WF) {dir ino : Int} {name : Bs} (hname : name.length ≤ 56 → AnyOK name) (hlk : ∀ nd, tb.nodes ino = some nd → -1000000000000 < nd.links ∧ nd.links < 1000000000000) :
    ∃ h', EG (.fn 9) [.ptr o 0, .int .i64 dir, .str name, .int .i64 ino] h = some (.int .i64 (linkE tb dir name ino), h') ∧ TR S h' o (linkT tb dir name ino) L ∧ Step S h S h' := by
  obtain ⟨c1, h1, e1, x1, a1⟩ := dir_run a hw dir
  obtain ⟨c2, h2, e2, x2, a2⟩ := named_run x1.wf hname
  obtain ⟨c3, h3, e3, x3, a3⟩ := file_run (a.ext (x1.trans x2)) x2.wf ino
  obtain ⟨c4, h4, e4, x4, a4⟩ := free_run (a.ext ((x1.trans x2).trans x3)) x3.wf dir name
  have X4 := ((x1.trans x2).trans x3).trans x4
  have e5 : abuildSlice tab h4 90 5 [(0, .func 27 [.ptr o 0] []), (1, .func 57 [] c1), (2, .func 58 [] c2), (3, .func 62 [] c3), (4, .func 60 [] c4)] = some (.slice h4.next 0 5 1, h4.add (.cells [.func 27 [.ptr o 0] [], .func 57 [] c1, .func 58 [] c2, .func 62 [] c3, .func 60 [] c4] true)) := rfl
  have x5 : Ext h4 (h4.add (.cells [.func 27 [.ptr o 0] [], .func 57 [] c1, .func 58 [] c2, .func 62 [] c3, .func 60 [] c4] true)) := (Ext.refl x4.wf).add _
  have r5 := slice_row (h := h4) [.func 27 [.ptr o 0] [], .func 57 [] c1, .func 58 [] c2, .func 62 [] c3, .func 60 [] c4]
  generalize hh5 : h4.add (.cells [.func 27 [.ptr o 0] [], .func 57 [] c1, .func 58 [] c2, .func 62 [] c3, .func 60 [] c4] true) = h5 at e5 x5 r5
  have q : Asks h5 [.func 27 [.ptr o 0] [], .func 57 [] c1, .func 58 [] c2, .func 62 [] c3, .func 60 [] c4] [0, dirE tb dir, nameE name, fileE tb ino, freeE tb dir name] :=
    ⟨there_ask, fun _ => ⟨a1.ext (((x2.trans x3).trans x4).trans x5), fun _ => ⟨a2.ext ((x3.trans x4).trans x5), fun _ => ⟨a3.ext (x4.trans x5), fun _ => ⟨a4.ext x5, fun _ => trivial⟩⟩⟩⟩⟩
  obtain ⟨h6, e6, x6⟩ := first_run q r5 (by simp) x5.wf
  replace e6 : EG (.fn 26) [.slice h4.next 0 5 1] h5 = some (.int .i64 (linkE tb dir name ino), h6) := e6
  have hT : linkT tb dir name ino = if linkE tb dir name ino = 0 then { tb with nodes := incL (addE tb.nodes dir name ino) ino 1 } else tb := rfl
  rw [hT]
  have hz0 : linkE tb dir name ino = 0 → ∀ e ∈ [0, dirE tb dir, nameE name, fileE tb ino, freeE tb dir name], e = 0 := firstE_zero.1
  clear hT q
  generalize linkE tb dir name ino = E at e6 hz0 ⊢
  have X6 := (X4.trans x5).trans x6
  have A6 := a.ext X6
  by_cases h0 : E = 0
  · have hz := hz0 h0
    obtain ⟨dnd, hd, hd2⟩ := dirE_zero (hz _ (by simp) : dirE tb dir = 0)
    obtain ⟨fnd, hf, hf2⟩ := fileE_zero (hz _ (by simp) : fileE tb ino = 0)
    have hn := freeE_zero (hz _ (by simp) : freeE tb dir name = 0)
    rw [findT_some hd] at hn
    have hne : ino ≠ dir := fun e => by rw [e, hd] at hf; cases hf; omega
    obtain ⟨y, e7, ⟨z, gz⟩, a7⟩ := A6.enter hd hd2 hn ino
    have k7 := X6.step.put (A6.inE _ _ hd hd2) gz y
    have hf7 : upd tb.nodes dir (some { dnd with ents := dnd.ents ++ [(name, ino)] }) ino = some fnd := by rw [upd_ne _ _ hne]; exact hf
    have lb := hlk _ hf
    have e8 := a7.s_links hf7 (fnd.links + 1)
    have a8 := a7.setNode (nd' := { fnd with links := fnd.links + 1 }) hf7 rfl rfl
    have k8 := k7.put (a7.inN _ _ hf7) (a7.node _ _ hf7) (.cells (ndCells L ino { fnd with links := fnd.links + 1 }) true)
    refine ⟨_, run9 0 ?_, ?_, k8⟩
    · unfold F9
      have hev : evOf L dir dnd = .map (L.ent dir) := by simp only [evOf, hd2, if_true]
      simp only [e1, e2, e3, e4, bothK_s, e5, e6, abin_neq, valK_s]
      simp only [h0, decide_true, Bool.not_true, boolK_f, nil_ptr, fa68_2, A6.l_m, valK_s, A6.look_some hd, fa65_2, A6.l_ents hd, hev, e7, hpK_s, a7.l_m, a7.look_some hf7, fa65_0, fa35_3, a7.l_links hf7,
        abin_add (show -9223372036854775808 ≤ fnd.links + 1 by omega) (show fnd.links + 1 ≤ 9223372036854775807 by omega), e8]
    · rw [if_pos h0, addE_some hd, incL_some hf7]; exact a8
  · refine ⟨h6, run9 0 ?_, by rw [if_neg h0]; exact A6, X6.step⟩
    unfold F9
    simp only [e1, e2, e3, e4, bothK_s, e5, e6, abin_neq, valK_s]
    simp only [decide_eq_false h0, Bool.not_false, boolK_t]

theorem write_run (a : TR S h o tb L) (hw : h.WF) (hs : Small tb) {ino : Int} {data : Bs} (hdl : data.length < 1000000000000) (hdo : ∀ nd, tb.nodes ino = some nd → nd.data.length < 1000000000000) :
    ∃ h', EG (.fn 10) [.ptr o 0, .int .i64 ino, .str data] h = some (.int .i64 (writeE tb ino data), h') ∧ TR S h' o (writeT tb ino data) L ∧ Step S h S h' := by
  obtain ⟨b0, h1, e1, g1, x1, n1⟩ := box hw (.ptr o 0) rfl rfl
  obtain ⟨b2, h2, e2, g2, x2, n2⟩ := box x1.wf (.int .i64 ino) rfl rfl
  obtain ⟨b4, h3, e3, g3, x3, n3⟩ := box x2.wf (.str data) rfl rfl
  have X3 := (x1.trans x2).trans x3
  obtain ⟨c4, h4, e4, x4, a4⟩ := file_run (a.ext X3) x3.wf ino
  have X4 := X3.trans x4
  have k0a : h3.get b0 = some (.cells [.ptr o 0] true) := x3.keep _ _ (x2.keep _ _ g1)
  have k2a : h3.get b2 = some (.cells [.int .i64 ino] true) := x3.keep _ _ g2
  have k0 : h4.get b0 = some (.cells [.ptr o 0] true) := x4.keep _ _ k0a
  have k2 : h4.get b2 = some (.cells [.int .i64 ino] true) := x4.keep _ _ k2a
  have k4 : h4.get b4 = some (.cells [.str data] true) := x4.keep _ _ g3
  have e5 : abuildSlice tab h4 90 3 [(0, .func 27 [.ptr o 0] []), (1, .func 62 [] c4), (2, .func 34 [] [.ptr b0 0, .ptr b4 0, .ptr b2 0])] = some (.slice h4.next 0 3 1, h4.add (.cells [.func 27 [.ptr o 0] [], .func 62 [] c4, .func 34 [] [.ptr b0 0, .ptr b4 0, .ptr b2 0]] true)) := rfl
  have x5 : Ext h4 (h4.add (.cells [.func 27 [.ptr o 0] [], .func 62 [] c4, .func 34 [] [.ptr b0 0, .ptr b4 0, .ptr b2 0]] true)) := (Ext.refl x4.wf).add _
  have r5 := slice_row (h := h4) [.func 27 [.ptr o 0] [], .func 62 [] c4, .func 34 [] [.ptr b0 0, .ptr b4 0, .ptr b2 0]]
  generalize hh5 : h4.add (.cells [.func 27 [.ptr o 0] [], .func 62 [] c4, .func 34 [] [.ptr b0 0, .ptr b4 0, .ptr b2 0]] true) = h5 at e5 x5 r5
  have ask : ∀ nd, tb.nodes ino = some nd → Ask h5 (.func 34 [] [.ptr b0 0, .ptr b4 0, .ptr b2 0]) (roomE tb 0 ((data.length : Int) - nd.data.length)) := fun nd hk => by
    refine ⟨34, [], _, rfl, fun h' x' => ?_⟩
    have A' := a.ext ((X4.trans x5).trans x')
    have hdn := hdo nd hk
    obtain ⟨c, h2, q1, q2, g, p, c', q3, q4⟩ := room_run A' x'.wf hs (i := 0) (b := (data.length : Int) - nd.data.length) (by omega) (by omega)
    cases q3
    obtain ⟨h3, q5, q6⟩ := q4 h2 (Ext.refl q2.wf)
    rw [List.nil_append] at q5
    refine ⟨h3, run34 0 ?_, q2.trans q6⟩
    unfold F34
    simp only [ld23 (x'.keep _ _ (x5.keep _ _ k0)), ld9 (x'.keep _ _ (x5.keep _ _ k4)), ld3 (x'.keep _ _ (x5.keep _ _ k2)), valK_s, alen9, nil_ptr, fa68_2, A'.l_m, A'.look_some hk, fa65_0, fa35_2, A'.l_data hk,
      abin_sub (show -9223372036854775808 ≤ (data.length : Int) - nd.data.length by omega) (show (data.length : Int) - nd.data.length ≤ 9223372036854775807 by omega), q1, bothK_s, callA_func, List.nil_append, q5]
  have q : Asks h5 [.func 27 [.ptr o 0] [], .func 62 [] c4, .func 34 [] [.ptr b0 0, .ptr b4 0, .ptr b2 0]] [0, fileE tb ino, match tb.nodes ino with | some nd => roomE tb 0 ((data.length : Int) - nd.data.length) | none => 0] :=
    ⟨there_ask, fun _ => ⟨a4.ext x5, fun hz => by
      obtain ⟨nd, hk, _⟩ := fileE_zero hz
      rw [hk]
      exact ⟨ask nd hk, fun _ => trivial⟩⟩⟩
  obtain ⟨h6, e6, x6⟩ := first_run q r5 (by simp) x5.wf
  replace e6 : EG (.fn 26) [.slice h4.next 0 3 1] h5 = some (.int .i64 (writeE tb ino data), h6) := e6
  have hT : writeT tb ino data = if writeE tb ino data = 0 then (match tb.nodes ino with
    | some nd => { tb with ub := tb.ub + ((data.length : Int) - nd.data.length), nodes := upd tb.nodes ino (some { nd with data := data }) }
    | none => tb) else tb := rfl
  rw [hT]
  have hz0 : writeE tb ino data = 0 → fileE tb ino = 0 := fun h0 => firstE_zero.1 h0 _ (by simp)
  clear hT q
  generalize writeE tb ino data = E at e6 hz0 ⊢
  have X6 := (X4.trans x5).trans x6
  have A6 := a.ext X6
  have m0 := x6.keep _ _ (x5.keep _ _ k0)
  have m2 := x6.keep _ _ (x5.keep _ _ k2)
  have m4 := x6.keep _ _ (x5.keep _ _ k4)
  by_cases h0 : E = 0
  · obtain ⟨nd, hk, hk1⟩ := fileE_zero (hz0 h0)
    have hdn := hdo nd hk
    have s1 := hs.ub
    have n4 := a.not_new (x1.none (x2.none n3))
    have e7 := A6.s_ub (tb.ub + ((data.length : Int) - nd.data.length))
    have a7 := A6.setTop (tb' := { tb with ub := tb.ub + ((data.length : Int) - nd.data.length) }) rfl
    have k7 := X6.step.put A6.inO A6.top (.cells (tbCells L { tb with ub := tb.ub + ((data.length : Int) - nd.data.length) }) true)
    have p4 := keepP (z := .cells (tbCells L { tb with ub := tb.ub + ((data.length : Int) - nd.data.length) }) true) m4 n4 A6.inO
    generalize hh7 : h6.put o (.cells (tbCells L { tb with ub := tb.ub + ((data.length : Int) - nd.data.length) }) true) = h7 at e7 a7 k7 p4
    have e8 := a7.s_data (k := ino) hk data
    have a8 := a7.setNode (k := ino) (nd' := { nd with data := data }) hk rfl rfl
    have k8 := k7.put (a7.inN _ _ hk) (a7.node _ _ hk) (.cells (ndCells L ino { nd with data := data }) true)
    refine ⟨_, run10 0 ?_, ?_, k8⟩
    · unfold F10
      simp only [e1, e2, e3, bothK_s, ld23 k0a, ld3 k2a, valK_s, e4, ld23 k0, sameK_r, e5, e6, abin_neq]
      simp only [h0, decide_true, Bool.not_true, boolK_f, ld23 m0, ld3 m2, ld9 m4, valK_s, nil_ptr, fa68_2, A6.l_m, A6.look_some hk, fa68_1, fa26_21, A6.l_ub, alen9, fa65_0, fa35_2, A6.l_data hk,
        abin_sub (show -9223372036854775808 ≤ (data.length : Int) - nd.data.length by omega) (show (data.length : Int) - nd.data.length ≤ 9223372036854775807 by omega),
        abin_add (show -9223372036854775808 ≤ tb.ub + ((data.length : Int) - nd.data.length) by omega) (show tb.ub + ((data.length : Int) - nd.data.length) ≤ 9223372036854775807 by omega), e7, hpK_s, ld9 p4, e8]
    · rw [if_pos h0]
      simp only [hk]
      exact a8
  · refine ⟨h6, run10 0 ?_, by rw [if_neg h0]; exact A6, X6.step⟩
    unfold F10
    simp only [e1, e2, e3, bothK_s, ld23 k0a, ld3 k2a, valK_s, e4, ld23 k0, sameK_r, e5, e6, abin_neq]
    simp only [decide_eq_false h0, Bool.not_false, boolK_t]

theorem chmod_run (a : TR S h o tb L) (hw : h.WF) {ino mode : Int} :
    ∃ h', EG (.fn 46) [.ptr o 0, .int .i64 ino, .int .i64 mode] h = some (.int .i64 (chmodE tb ino mode), h') ∧ TR S h' o (chmodT tb ino mode) L ∧ Step S h S h' := by
  obtain ⟨b0, h1, e1, g1, x1, n1⟩ := box hw (.ptr o 0) rfl rfl
  obtain ⟨b2, h2, e2, g2, x2, n2⟩ := box x1.wf (.int .i64 ino) rfl rfl
  obtain ⟨b4, h3, e3, g3, x3, n3⟩ := box x2.wf (.int .i64 mode) rfl rfl
  have X3 := (x1.trans x2).trans x3
  have k0 : h3.get b0 = some (.cells [.ptr o 0] true) := x3.keep _ _ (x2.keep _ _ g1)
  have k2 : h3.get b2 = some (.cells [.int .i64 ino] true) := x3.keep _ _ g2
  have e5 : abuildSlice tab h3 90 3 [(0, .func 27 [.ptr o 0] []), (1, .func 74 [] [.ptr b4 0]), (2, .func 75 [] [.ptr b0 0, .ptr b2 0])] = some (.slice h3.next 0 3 1, h3.add (.cells [.func 27 [.ptr o 0] [], .func 74 [] [.ptr b4 0], .func 75 [] [.ptr b0 0, .ptr b2 0]] true)) := rfl
  have x5 : Ext h3 (h3.add (.cells [.func 27 [.ptr o 0] [], .func 74 [] [.ptr b4 0], .func 75 [] [.ptr b0 0, .ptr b2 0]] true)) := (Ext.refl x3.wf).add _
  have r5 := slice_row (h := h3) [.func 27 [.ptr o 0] [], .func 74 [] [.ptr b4 0], .func 75 [] [.ptr b0 0, .ptr b2 0]]
  generalize hh5 : h3.add (.cells [.func 27 [.ptr o 0] [], .func 74 [] [.ptr b4 0], .func 75 [] [.ptr b0 0, .ptr b2 0]] true) = h5 at e5 x5 r5
  have ask1 : Ask h5 (.func 74 [] [.ptr b4 0]) (if 0 ≤ mode ∧ mode ≤ 511 then 0 else 2) := by
    refine ⟨74, [], _, rfl, fun h' x' => ⟨h', run74 0 ?_, Ext.refl x'.wf⟩⟩
    unfold F74
    simp only [ld3 (x'.keep _ _ (x5.keep _ _ g3)), valK_s, abin_geq, abin_leq, must_run, bothK_s, boolK_b, decide_eq_true_eq]
    by_cases q1 : 0 ≤ mode <;> simp [q1]
  have ask2 : Ask h5 (.func 75 [] [.ptr b0 0, .ptr b2 0]) (if (tb.nodes ino).isSome = true then 0 else 5) := by
    refine ⟨75, [], _, rfl, fun h' x' => ⟨h', run75 0 ?_, Ext.refl x'.wf⟩⟩
    have A' := a.ext ((X3.trans x5).trans x')
    unfold F75
    simp only [ld23 (x'.keep _ _ (x5.keep _ _ k0)), ld3 (x'.keep _ _ (x5.keep _ _ k2)), valK_s, get_run A', bothK_s]
    cases hk : tb.nodes ino with
    | none => simp only [ptrOf, hk, ne62n, valK_s, must_run, bothK_s]; rfl
    | some nd => simp only [ptrOf, hk, ne62, valK_s, must_run, bothK_s]; rfl
  have q : Asks h5 [.func 27 [.ptr o 0] [], .func 74 [] [.ptr b4 0], .func 75 [] [.ptr b0 0, .ptr b2 0]] [0, if 0 ≤ mode ∧ mode ≤ 511 then 0 else 2, if (tb.nodes ino).isSome = true then 0 else 5] :=
    ⟨there_ask, fun _ => ⟨ask1, fun _ => ⟨ask2, fun _ => trivial⟩⟩⟩
  obtain ⟨h6, e6, x6⟩ := first_run q r5 (by simp) x5.wf
  replace e6 : EG (.fn 26) [.slice h3.next 0 3 1] h5 = some (.int .i64 (chmodE tb ino mode), h6) := e6
  have hT : chmodT tb ino mode = if chmodE tb ino mode = 0 then (match tb.nodes ino with
    | some nd => { tb with nodes := upd tb.nodes ino (some { nd with mode := mode }) }
    | none => tb) else tb := rfl
  rw [hT]
  have hz0 : chmodE tb ino mode = 0 → (tb.nodes ino).isSome = true := fun h0 => by
    have := firstE_zero.1 h0 (if (tb.nodes ino).isSome = true then 0 else 5) (by simp)
    split at this
    · assumption
    · simp at this
  clear hT q
  generalize chmodE tb ino mode = E at e6 hz0 ⊢
  have X6 := (X3.trans x5).trans x6
  have A6 := a.ext X6
  have m0 := x6.keep _ _ (x5.keep _ _ k0)
  have m2 := x6.keep _ _ (x5.keep _ _ k2)
  have m4 := x6.keep _ _ (x5.keep _ _ g3)
  by_cases h0 : E = 0
  · obtain ⟨nd, hk⟩ := Option.isSome_iff_exists.1 (hz0 h0)
    have e7 := A6.s_mode hk mode
    have a7 := A6.setNode (nd' := { nd with mode := mode }) hk rfl rfl
    have k7 := X6.step.put (A6.inN _ _ hk) (A6.node _ _ hk) (.cells (ndCells L ino { nd with mode := mode }) true)
    refine ⟨_, run46 0 ?_, ?_, k7⟩
    · unfold F46
      simp only [e1, e2, e3, bothK_s, ld23 k0, valK_s, e5, e6, abin_neq]
      simp only [h0, decide_true, Bool.not_true, boolK_f, ld23 m0, ld3 m2, ld3 m4, valK_s, nil_ptr, fa68_2, A6.l_m, A6.look_some hk, fa65_0, fa35_1, e7, hpK_s]
    · rw [if_pos h0]
      simp only [hk]
      exact a7
  · refine ⟨h6, run46 0 ?_, by rw [if_neg h0]; exact A6, X6.step⟩
    unfold F46
    simp only [e1, e2, e3, bothK_s, ld23 k0, valK_s, e5, e6, abin_neq]
    simp only [decide_eq_false h0, Bool.not_false, boolK_t]
end
end Go.Am
