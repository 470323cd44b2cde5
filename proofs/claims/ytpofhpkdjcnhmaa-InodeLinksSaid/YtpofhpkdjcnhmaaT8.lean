/-
  inode: Move.
-/
import Derived.Test.YtpofhpkdjcnhmaaT7
set_option linter.unusedVariables false
set_option linter.unusedSimpArgs false
namespace Go.Am
open Go Go.Proofs

/-- From a directory to the root: is one met? -/
def climbE (f : Int → Option Nd) (ino : Int) : Nat → Int → Option Int
  | 0, _ => none
  | n + 1, at' => if at' = 1 then some 0 else if at' = ino then some 2 else match f at' with | some nd => climbE f ino n nd.up | none => none

def apartE (tb : Tb) (ino to : Int) : Int := match climbE tb.nodes ino (tb.last.toNat + 2) to with | some e => e | none => 0
def move1E (tb : Tb) (fro : Int) (name : Bs) (to : Int) (as' : Bs) : Int := firstE [0, dirE tb fro, dirE tb to, nameE as', entryE tb fro name]
def move2E (tb : Tb) (fro : Int) (name : Bs) (to : Int) (as' : Bs) : Int := firstE [freeE tb to as', match findT tb fro name with | some ino => apartE tb ino to | none => 0]
def moveE (tb : Tb) (fro : Int) (name : Bs) (to : Int) (as' : Bs) : Int :=
  if move1E tb fro name to as' = 0 then (if fro = to ∧ name = as' then 0 else move2E tb fro name to as') else move1E tb fro name to as'
def setUp (f : Int → Option Nd) (k to : Int) : Int → Option Nd := match f k with
  | some nd => if nd.kind = 2 then upd f k (some { nd with up := to }) else f
  | none => f
def movedT (tb : Tb) (fro : Int) (name : Bs) (to : Int) (as' : Bs) (ino : Int) : Tb := { tb with nodes := setUp (addE (delE tb.nodes fro name) to as' ino) ino to }
def moveT (tb : Tb) (fro : Int) (name : Bs) (to : Int) (as' : Bs) : Tb :=
  if move1E tb fro name to as' = 0 then (if fro = to ∧ name = as' then tb else if move2E tb fro name to as' = 0 then (match findT tb fro name with | some ino => movedT tb fro name to as' ino | none => tb) else tb) else tb

theorem delE_at {f : Int → Option Nd} {d k : Int} {s : Bs} {nd : Nd} (h : f k = some nd) : ∃ nd', delE f d s k = some nd' ∧ nd'.kind = nd.kind := by
  cases hd : f d with
  | none => exact ⟨nd, by simp only [delE, hd]; exact h, rfl⟩
  | some x =>
    rw [delE_some hd]
    by_cases e : k = d
    · subst e; rw [h] at hd; cases hd; exact ⟨_, upd_self _ _ _, rfl⟩
    · exact ⟨nd, by rw [upd_ne _ _ e]; exact h, rfl⟩
theorem addE_at {f : Int → Option Nd} {d k n : Int} {s : Bs} {nd : Nd} (h : f k = some nd) : ∃ nd', addE f d s n k = some nd' ∧ nd'.kind = nd.kind := by
  cases hd : f d with
  | none => exact ⟨nd, by simp only [addE, hd]; exact h, rfl⟩
  | some x =>
    rw [addE_some hd]
    by_cases e : k = d
    · subst e; rw [h] at hd; cases hd; exact ⟨_, upd_self _ _ _, rfl⟩
    · exact ⟨nd, by rw [upd_ne _ _ e]; exact h, rfl⟩

section
variable {S : Nat → Prop} {h : AHeap} {o : Nat} {tb : Tb} {L : Lay}

theorem apart_ask (a : TR S h o tb L) (hw : h.WF) {b0 b2 bi : Nat} {to ino : Int} (g0 : h.get b0 = some (.cells [.ptr o 0] true)) (g2 : h.get b2 = some (.cells [.int .i64 to] true)) (gi : h.get bi = some (.cells [.int .i64 ino] true)) {n : Nat} {e : Int} (hc : climbE tb.nodes ino n to = some e) :
    Ask h (.func 40 [] [.ptr b2 0, .ptr b0 0, .ptr bi 0]) e := by
  refine ⟨40, [], _, rfl, fun h' x' => ⟨h', run40 (n + 1) ?_, Ext.refl x'.wf⟩⟩
  have A' := a.ext x'
  have l0 := ld23 (x'.keep _ _ g0)
  have li := ld3 (x'.keep _ _ gi)
  unfold F40
  simp only [ld3 (x'.keep _ _ g2), valK_s]
  have : ∀ m at', climbE tb.nodes ino m at' = some e → ∀ N, m < N → loopN (F40_b2 EG (n + 1)) N (.ptr b0 0, .ptr bi 0, .int .i64 at', ()) [] h' = some (.int .i64 e, h') := by
    intro m
    induction m with
    | zero => intro at' h; simp [climbE] at h
    | succ m ih =>
      intro at' hm N hN
      match N, hN with
      | N + 1, hN =>
        simp only [climbE] at hm
        simp only [loopN, F40_b2, abin_neq, valK_s]
        by_cases c1 : at' = 1
        · simp only [c1, if_true, Option.some.injEq] at hm
          simp only [c1, decide_true, Bool.not_true, boolK_f, unmark_nil, hpK_s, hm]
        · simp only [c1, if_false] at hm
          simp only [decide_eq_false c1, Bool.not_false, boolK_t, li, valK_s, abin_eql]
          by_cases c2 : at' = ino
          · simp only [c2, if_true, Option.some.injEq] at hm
            simp only [c2, decide_true, boolK_t, unmark_nil, hpK_s, hm]
          · simp only [c2, if_false] at hm
            cases hk : tb.nodes at' with
            | none => rw [hk] at hm; simp at hm
            | some nd =>
              rw [hk] at hm
              simp only [decide_eq_false c2, boolK_f, l0, valK_s, nil_ptr, fa68_2, A'.l_m, A'.look_some hk, fa65_1, A'.l_up hk]
              exact ih nd.up hm N (by omega)
  exact this n to hc (n + 1) (by omega)

/-- The second half of Move. -/
theorem move_rest {hb : AHeap} (a : TR S h o tb L) (hw : h.WF) (kb : Step S hb S h) {fro to ino : Int} {name as' : Bs} {b0 b2 : Nat} {fnd tnd ind : Nd} (hf : tb.nodes fro = some fnd) (hf2 : fnd.kind = 2) (ht : tb.nodes to = some tnd) (ht2 : tnd.kind = 2) (hi : findT tb fro name = some ino) (hin : tb.nodes ino = some ind)
    (g0 : h.get b0 = some (.cells [.ptr o 0] true)) (n0 : ¬ S b0) (g2 : h.get b2 = some (.cells [.int .i64 to] true)) (n2 : ¬ S b2) (hc : (climbE tb.nodes ino (tb.last.toNat + 2) to).isSome = true) :
    ∃ h', (valK (loadA tab h 23 (.ptr b0 0)) fun x34 =>
      bothK (EG (.fn 13) [x34, .int .i64 fro, .str name] h) fun x35 h36 =>
      valK (extractA x35 0) fun x37 =>
      valK (extractA x35 1) fun x38 =>
      bothK (newCells h36 [.int .i64 0] fun o => .ptr o 0) fun x39 h40 =>
      hpK (storeA tab h40 3 x39 x37) fun h41 =>
      valK (loadA tab h41 23 (.ptr b0 0)) fun x42 =>
      valK (loadA tab h41 3 (.ptr b2 0)) fun x43 =>
      bothK (EG (.fn 30) [x42, x43, .str as'] h41) fun x44 h45 =>
      bothK (abuildSlice tab h45 90 2 [(0, x44), (1, (.func 40 [] [.ptr b2 0, .ptr b0 0, x39]))]) fun x46 h47 =>
      bothK (EG (.fn 26) [x46] h47) fun x48 h49 =>
      valK (abin tab .neq 27 x48 (.int .i64 0)) fun x50 =>
      boolK x50 (
      hpK (unmark h49 []) fun h51 =>
      some (x48, h51)) (
      valK (loadA tab h49 23 (.ptr b0 0)) fun x52 =>
      valK (nilA x52) fun x53 =>
      valK (afieldAddr tab 68 x53 2) fun x54 =>
      valK (loadA tab h49 66 x54) fun x55 =>
      valK (alookup tab h49 66 x55 (.int .i64 fro) false) fun x56 =>
      valK (nilA x56) fun x57 =>
      valK (afieldAddr tab 65 x57 2) fun x58 =>
      valK (loadA tab h49 63 x58) fun x59 =>
      hpK (adelete tab h49 63 x59 (.str name)) fun h60 =>
      valK (loadA tab h60 23 (.ptr b0 0)) fun x61 =>
      valK (nilA x61) fun x62 =>
      valK (afieldAddr tab 68 x62 2) fun x63 =>
      valK (loadA tab h60 66 x63) fun x64 =>
      valK (loadA tab h60 3 (.ptr b2 0)) fun x65 =>
      valK (alookup tab h60 66 x64 x65 false) fun x66 =>
      valK (nilA x66) fun x67 =>
      valK (afieldAddr tab 65 x67 2) fun x68 =>
      valK (loadA tab h60 63 x68) fun x69 =>
      valK (loadA tab h60 3 x39) fun x70 =>
      hpK (amapUpdate tab h60 63 x69 (.str as') x70) fun h71 =>
      valK (loadA tab h71 23 (.ptr b0 0)) fun x72 =>
      valK (nilA x72) fun x73 =>
      valK (afieldAddr tab 68 x73 2) fun x74 =>
      valK (loadA tab h71 66 x74) fun x75 =>
      valK (loadA tab h71 3 x39) fun x76 =>
      valK (alookup tab h71 66 x75 x76 false) fun x77 =>
      valK (nilA x77) fun x78 =>
      valK (afieldAddr tab 65 x78 0) fun x79 =>
      valK (afieldAddr tab 35 x79 0) fun x80 =>
      valK (loadA tab h71 3 x80) fun x81 =>
      valK (abin tab .eql 3 x81 (.int .i64 2)) fun x82 =>
      boolK x82 (
      valK (loadA tab h71 3 (.ptr b2 0)) fun x83 =>
      valK (nilA x77) fun x84 =>
      valK (afieldAddr tab 65 x84 1) fun x85 =>
      hpK (storeA tab h71 3 x85 x83) fun h86 =>
      hpK (unmark h86 []) fun h87 =>
      some ((.int .i64 0), h87)) (
      hpK (unmark h71 []) fun h88 =>
      some ((.int .i64 0), h88)))) = some (.int .i64 (move2E tb fro name to as'), h') ∧
      TR S h' o (if move2E tb fro name to as' = 0 then movedT tb fro name to as' ino else tb) L ∧ Step S hb S h' := by
  have hfr := find_run a fro name
  rw [hi] at hfr
  -- the inode's number in a cell of its own
  have c1 : newCells h [.int .i64 0] (fun o => .ptr o 0) = some (.ptr h.next 0, h.add (.cells [.int .i64 0] true)) := rfl
  have x1 : Ext h (h.add (.cells [.int .i64 0] true)) := (Ext.refl hw).add _
  have g1 : (h.add (.cells [.int .i64 0] true)).get h.next = some (.cells [.int .i64 0] true) := AHeap.get_add_self _ _
  have f1 : h.get h.next = none := hw.new
  generalize hh1 : h.add (.cells [.int .i64 0] true) = h1 at c1 x1 g1
  have c2 : storeA tab h1 3 (.ptr h.next 0) (.int .i64 ino) = some (h1.put h.next (.cells [.int .i64 ino] true)) := by
    simp only [storeA, astore, g1, ty3]; rfl
  have x2 : Ext h (h1.put h.next (.cells [.int .i64 ino] true)) := x1.put f1 g1 _
  have gi : (h1.put h.next (.cells [.int .i64 ino] true)).get h.next = some (.cells [.int .i64 ino] true) := AHeap.get_put_self _ _ _
  generalize hh2 : h1.put h.next (.cells [.int .i64 ino] true) = h2 at c2 x2 gi
  have A2 := a.ext x2
  obtain ⟨c3, h3, e3, x3, a3⟩ := free_run A2 x2.wf to as'
  have X3 := x2.trans x3
  have A3 := a.ext X3
  have k0 := X3.keep _ _ g0
  have k2 := X3.keep _ _ g2
  have ki := x3.keep _ _ gi
  have e4 : abuildSlice tab h3 90 2 [(0, .func 60 [] c3), (1, .func 40 [] [.ptr b2 0, .ptr b0 0, .ptr h.next 0])] = some (.slice h3.next 0 2 1, h3.add (.cells [.func 60 [] c3, .func 40 [] [.ptr b2 0, .ptr b0 0, .ptr h.next 0]] true)) := rfl
  have x4 : Ext h3 (h3.add (.cells [.func 60 [] c3, .func 40 [] [.ptr b2 0, .ptr b0 0, .ptr h.next 0]] true)) := (Ext.refl x3.wf).add _
  have r4 := slice_row (h := h3) [.func 60 [] c3, .func 40 [] [.ptr b2 0, .ptr b0 0, .ptr h.next 0]]
  generalize hh4 : h3.add (.cells [.func 60 [] c3, .func 40 [] [.ptr b2 0, .ptr b0 0, .ptr h.next 0]] true) = h4 at e4 x4 r4
  obtain ⟨ee, hee⟩ := Option.isSome_iff_exists.1 hc
  have hap : apartE tb ino to = ee := by simp only [apartE, hee]
  have q : Asks h4 [.func 60 [] c3, .func 40 [] [.ptr b2 0, .ptr b0 0, .ptr h.next 0]] [freeE tb to as', match findT tb fro name with | some ino => apartE tb ino to | none => 0] :=
    ⟨a3.ext x4, fun _ => ⟨by rw [hi]; simp only [hap]; exact (apart_ask A3 X3.wf k0 k2 ki hee).ext x4, fun _ => trivial⟩⟩
  obtain ⟨h5, e5, x5⟩ := first_run q r4 (by simp) x4.wf
  replace e5 : EG (.fn 26) [.slice h3.next 0 2 1] h4 = some (.int .i64 (move2E tb fro name to as'), h5) := e5
  have hz0 : move2E tb fro name to as' = 0 → freeE tb to as' = 0 := fun h0 => firstE_zero.1 h0 _ (by simp)
  clear q
  generalize move2E tb fro name to as' = E at e5 hz0 ⊢
  have X5 := (X3.trans x4).trans x5
  have A5 := a.ext X5
  have K5 : Step S hb S h5 := kb.trans X5.step
  have m0 := x5.keep _ _ (x4.keep _ _ k0)
  have m2 := x5.keep _ _ (x4.keep _ _ k2)
  have mi := x5.keep _ _ (x4.keep _ _ ki)
  by_cases h0 : E = 0
  · have hfree := freeE_zero (hz0 h0)
    rw [findT_some ht] at hfree
    have ni := a.not_new f1
    obtain ⟨y, e6, ⟨z, gz⟩, a6⟩ := A5.leave hf hf2 name
    have hiE := A5.inE _ _ hf hf2
    have k6 := K5.put hiE gz y
    have p0 := keepP (z := y) m0 n0 hiE
    have p2 := keepP (z := y) m2 n2 hiE
    have pi := keepP (z := y) mi ni hiE
    have hevf : evOf L fro fnd = .map (L.ent fro) := by simp only [evOf, hf2, if_true]
    generalize hh6 : h5.put (L.ent fro) y = h6 at e6 a6 k6 p0 p2 pi
    -- where it goes
    obtain ⟨tnd', ht', ht2', hno⟩ : ∃ tnd' : Nd, upd tb.nodes fro (some { fnd with ents := delN name fnd.ents }) to = some tnd' ∧ tnd'.kind = 2 ∧ getN as' tnd'.ents = none := by
      by_cases e : to = fro
      · subst e
        rw [hf] at ht; cases ht
        refine ⟨_, upd_self _ _ _, hf2, ?_⟩
        show getN as' (delN name fnd.ents) = none
        rw [getN_del, hfree]
        split <;> rfl
      · exact ⟨tnd, by rw [upd_ne _ _ e]; exact ht, ht2, hfree⟩
    obtain ⟨y7, e7, ⟨z7, gz7⟩, a7⟩ := a6.enter (k := to) ht' ht2' hno ino
    have hiE7 := a6.inE _ _ ht' ht2'
    have k7 := k6.put hiE7 gz7 y7
    have p07 := keepP (z := y7) p0 n0 hiE7
    have p27 := keepP (z := y7) p2 n2 hiE7
    have pi7 := keepP (z := y7) pi ni hiE7
    have hevt : evOf L to tnd' = .map (L.ent to) := by simp only [evOf, ht2', if_true]
    generalize hh7 : h6.put (L.ent to) y7 = h7 at e7 a7 k7 p07 p27 pi7
    -- what it is
    have hde : delE tb.nodes fro name = upd tb.nodes fro (some { fnd with ents := delN name fnd.ents }) := delE_some hf name
    have had : addE (delE tb.nodes fro name) to as' ino = upd (upd tb.nodes fro (some { fnd with ents := delN name fnd.ents })) to (some { tnd' with ents := tnd'.ents ++ [(as', ino)] }) := by rw [hde, addE_some ht']
    obtain ⟨nd1, hn1, hk1⟩ := delE_at (d := fro) (s := name) hin
    obtain ⟨nd2, hn2, hk2⟩ := addE_at (d := to) (s := as') (n := ino) hn1
    rw [had] at hn2
    by_cases hd : nd2.kind = 2
    · have e8 := a7.s_up (k := ino) hn2 to
      have a8 := a7.setNode (k := ino) (nd' := { nd2 with up := to }) hn2 rfl rfl
      have k8 := k7.put (a7.inN _ _ hn2) (a7.node _ _ hn2) (.cells (ndCells L ino { nd2 with up := to }) true)
      refine ⟨_, ?_, ?_, k8⟩
      · simp only [ld23 g0, valK_s, hfr, bothK_s, extractA_0, extractA_1, intOf, c1, c2, hpK_s, ld23 (x2.keep _ _ g0), ld3 (x2.keep _ _ g2), e3, e4, e5, abin_neq]
        simp only [h0, decide_true, Bool.not_true, boolK_f, ld23 m0, valK_s, nil_ptr, fa68_2, A5.l_m, A5.look_some hf, fa65_2, A5.l_ents hf, hevf, e6, hpK_s, ld23 p0, ld3 p2, ld3 pi, a6.l_m, a6.look_some ht', a6.l_ents ht', hevt, e7, ld23 p07, ld3 p27, ld3 pi7, a7.l_m, a7.look_some hn2, fa65_0, fa35_0, a7.l_kind hn2, abin_eql, hd, boolK_t, fa65_1, e8, unmark_nil]
      · rw [if_pos h0]
        simp only [movedT, had, setUp, hn2, if_pos hd]
        exact a8
    · refine ⟨h7, ?_, ?_, k7⟩
      · simp only [ld23 g0, valK_s, hfr, bothK_s, extractA_0, extractA_1, intOf, c1, c2, hpK_s, ld23 (x2.keep _ _ g0), ld3 (x2.keep _ _ g2), e3, e4, e5, abin_neq]
        simp only [h0, decide_true, Bool.not_true, boolK_f, ld23 m0, valK_s, nil_ptr, fa68_2, A5.l_m, A5.look_some hf, fa65_2, A5.l_ents hf, hevf, e6, hpK_s, ld23 p0, ld3 p2, ld3 pi, a6.l_m, a6.look_some ht', a6.l_ents ht', hevt, e7, ld23 p07, ld3 p27, ld3 pi7, a7.l_m, a7.look_some hn2, fa65_0, fa35_0, a7.l_kind hn2, abin_eql, decide_eq_false hd, unmark_nil]
      · rw [if_pos h0]
        simp only [movedT, had, setUp, hn2, if_neg hd]
        exact a7
  · refine ⟨h5, ?_, by rw [if_neg h0]; exact A5, K5⟩
    simp only [ld23 g0, valK_s, hfr, bothK_s, extractA_0, extractA_1, intOf, c1, c2, hpK_s, ld23 (x2.keep _ _ g0), ld3 (x2.keep _ _ g2), e3, e4, e5, abin_neq]
    simp only [decide_eq_false h0, Bool.not_false, boolK_t, unmark_nil, hpK_s]

theorem move_run (a : TR S h o tb L) (hw : h.WF) {fro to : Int} {name as' : Bs} (hname : as'.length ≤ 56 → AnyOK as') (hent : ∀ n, findT tb fro name = some n → ∃ nd, tb.nodes n = some nd) (hc : dirE tb fro = 0 → dirE tb to = 0 → ∀ n, findT tb fro name = some n → (climbE tb.nodes n (tb.last.toNat + 2) to).isSome = true) :
    ∃ h', EG (.fn 19) [.ptr o 0, .int .i64 fro, .str name, .int .i64 to, .str as'] h = some (.int .i64 (moveE tb fro name to as'), h') ∧ TR S h' o (moveT tb fro name to as') L ∧ Step S h S h' := by
  obtain ⟨b0, h1, e1, g1, x1, n1⟩ := box hw (.ptr o 0) rfl rfl
  obtain ⟨b2, h2, e2, g2, x2, n2⟩ := box x1.wf (.int .i64 to) rfl rfl
  have X2 := x1.trans x2
  obtain ⟨c3, h3, e3, x3, a3⟩ := dir_run (a.ext X2) x2.wf fro
  obtain ⟨c4, h4, e4, x4, a4⟩ := dir_run (a.ext (X2.trans x3)) x3.wf to
  obtain ⟨c5, h5, e5, x5, a5⟩ := named_run x4.wf hname
  obtain ⟨c6, h6, e6, x6, a6⟩ := entry_run (a.ext (((X2.trans x3).trans x4).trans x5)) x5.wf fro name
  have X6 := (((X2.trans x3).trans x4).trans x5).trans x6
  have k0a := x2.keep _ _ g1
  have k0b := x3.keep _ _ k0a
  have k2b := x3.keep _ _ g2
  have k0c := x4.keep _ _ k0b
  have k0d := x5.keep _ _ k0c
  have k0 := x6.keep _ _ k0d
  have k2 := x6.keep _ _ (x5.keep _ _ (x4.keep _ _ k2b))
  have e7 : abuildSlice tab h6 90 5 [(0, .func 27 [.ptr o 0] []), (1, .func 57 [] c3), (2, .func 57 [] c4), (3, .func 58 [] c5), (4, .func 63 [] c6)] = some (.slice h6.next 0 5 1, h6.add (.cells [.func 27 [.ptr o 0] [], .func 57 [] c3, .func 57 [] c4, .func 58 [] c5, .func 63 [] c6] true)) := rfl
  have x7 : Ext h6 (h6.add (.cells [.func 27 [.ptr o 0] [], .func 57 [] c3, .func 57 [] c4, .func 58 [] c5, .func 63 [] c6] true)) := (Ext.refl x6.wf).add _
  have r7 := slice_row (h := h6) [.func 27 [.ptr o 0] [], .func 57 [] c3, .func 57 [] c4, .func 58 [] c5, .func 63 [] c6]
  generalize hh7 : h6.add (.cells [.func 27 [.ptr o 0] [], .func 57 [] c3, .func 57 [] c4, .func 58 [] c5, .func 63 [] c6] true) = h7 at e7 x7 r7
  have q : Asks h7 [.func 27 [.ptr o 0] [], .func 57 [] c3, .func 57 [] c4, .func 58 [] c5, .func 63 [] c6] [0, dirE tb fro, dirE tb to, nameE as', entryE tb fro name] :=
    ⟨there_ask, fun _ => ⟨a3.ext (((x4.trans x5).trans x6).trans x7), fun _ => ⟨a4.ext ((x5.trans x6).trans x7), fun _ => ⟨a5.ext (x6.trans x7), fun _ => ⟨a6.ext x7, fun _ => trivial⟩⟩⟩⟩⟩
  obtain ⟨h8, e8, x8⟩ := first_run q r7 (by simp) x7.wf
  replace e8 : EG (.fn 26) [.slice h6.next 0 5 1] h7 = some (.int .i64 (move1E tb fro name to as'), h8) := e8
  have hE : moveE tb fro name to as' = if move1E tb fro name to as' = 0 then (if fro = to ∧ name = as' then 0 else move2E tb fro name to as') else move1E tb fro name to as' := rfl
  have hT : moveT tb fro name to as' = if move1E tb fro name to as' = 0 then (if fro = to ∧ name = as' then tb else if move2E tb fro name to as' = 0 then (match findT tb fro name with | some ino => movedT tb fro name to as' ino | none => tb) else tb) else tb := rfl
  rw [hE, hT]
  have hz0 : move1E tb fro name to as' = 0 → ∀ e ∈ [0, dirE tb fro, dirE tb to, nameE as', entryE tb fro name], e = 0 := firstE_zero.1
  clear hE hT q
  generalize move1E tb fro name to as' = E at e8 hz0 ⊢
  have X8 := (X6.trans x7).trans x8
  have A8 := a.ext X8
  have m0 := x8.keep _ _ (x7.keep _ _ k0)
  have m2 := x8.keep _ _ (x7.keep _ _ k2)
  by_cases h0 : E = 0
  · have hz := hz0 h0
    have hdf := (hz _ (by simp) : dirE tb fro = 0)
    have hdt := (hz _ (by simp) : dirE tb to = 0)
    obtain ⟨fnd, hf, hf2⟩ := dirE_zero hdf
    obtain ⟨tnd, ht, ht2⟩ := dirE_zero hdt
    obtain ⟨ino, hi⟩ := entryE_zero (hz _ (by simp) : entryE tb fro name = 0)
    obtain ⟨ind, hin⟩ := hent ino hi
    have n0 := a.not_new n1
    have n2' := a.not_new (x1.none n2)
    obtain ⟨h9, e9, a9, s9⟩ := move_rest (as' := as') A8 X8.wf X8.step hf hf2 ht ht2 hi hin m0 n0 m2 n2' (hc hdf hdt ino hi)
    by_cases hsame : fro = to ∧ name = as'
    · refine ⟨h8, run19 0 ?_, by rw [if_pos h0, if_pos hsame]; exact A8, X8.step⟩
      unfold F19
      simp only [e1, e2, bothK_s, ld23 k0a, ld3 g2, valK_s, e3, ld23 k0b, ld3 k2b, sameK_r, e4, ld23 k0c, e5, ld23 k0d, e6, ld23 k0, e7, e8, abin_neq, jn_a]
      simp only [h0, decide_true, Bool.not_true, boolK_f, ld3 m2, valK_s, abin_eql, skipK_b, hsame.1, boolK_t, abin_streq, hsame.2, if_true, and_self]
    · refine ⟨h9, run19 0 ?_, ?_, s9⟩
      · unfold F19
        simp only [e1, e2, bothK_s, ld23 k0a, ld3 g2, valK_s, e3, ld23 k0b, ld3 k2b, sameK_r, e4, ld23 k0c, e5, ld23 k0d, e6, ld23 k0, e7, e8, abin_neq, jn_a]
        simp only [h0, decide_true, Bool.not_true, boolK_f, ld3 m2, valK_s, abin_eql, skipK_b]
        by_cases c1 : fro = to
        · have c2 : ¬ name = as' := fun e => hsame ⟨c1, e⟩
          simp only [decide_eq_true c1, boolK_t, abin_streq, valK_s, decide_eq_false c2, boolK_f, if_neg hsame, if_true]
          exact e9
        · simp only [decide_eq_false c1, boolK_f, if_neg hsame, if_true]
          exact e9
      · rw [if_pos h0, if_neg hsame]
        simp only [hi]
        exact a9
  · refine ⟨h8, run19 0 ?_, by rw [if_neg h0]; exact A8, X8.step⟩
    unfold F19
    simp only [e1, e2, bothK_s, ld23 k0a, ld3 g2, valK_s, e3, ld23 k0b, ld3 k2b, sameK_r, e4, ld23 k0c, e5, ld23 k0d, e6, ld23 k0, e7, e8, abin_neq, jn_a]
    simp only [decide_eq_false h0, Bool.not_false, boolK_t, if_neg h0]
end
end Go.Am
