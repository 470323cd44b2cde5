/-
  inode: the closures that ask.
-/
import Derived.Test.YtpofhpkdjcnhmaaT2
set_option linter.unusedVariables false
set_option linter.unusedSimpArgs false
namespace Go.Am
open Go Go.Proofs

theorem ty4 : tab.get 4 = some ⟨.bool, 1, 1, false, .bool false⟩ := rfl
theorem ty70 : tab.get 70 = some ⟨.map 1 4, 1, 8, false, .nilmap⟩ := rfl

theorem box {h : AHeap} (hw : h.WF) (v : AV) (hc : v.cells = [v]) (h1 : v.one = true) : ∃ b h', boxA h v = some (.ptr b 0, h') ∧ h'.get b = some (.cells [v] true) ∧ Ext h h' ∧ h.get b = none := by
  refine ⟨h.next, h.add (.cells [v] true), ?_, AHeap.get_add_self _ _, (Ext.refl hw).add _, hw.new⟩
  simp only [boxA, newCells, hc, allOne, h1]
  rfl

theorem ld23 {h : AHeap} {b o : Nat} {rw : Bool} (g : h.get b = some (.cells [.ptr o 0] rw)) : loadA tab h 23 (.ptr b 0) = some (.ptr o 0) := loadA_cell ty23 rfl g rfl
theorem ld3 {h : AHeap} {b : Nat} {n : Int} {rw : Bool} (g : h.get b = some (.cells [.int .i64 n] rw)) : loadA tab h 3 (.ptr b 0) = some (.int .i64 n) := loadA_cell ty3 rfl g rfl
theorem ld9 {h : AHeap} {b : Nat} {s : Bs} {rw : Bool} (g : h.get b = some (.cells [.str s] rw)) : loadA tab h 9 (.ptr b 0) = some (.str s) := loadA_cell ty9 rfl g rfl

section
variable {S : Nat → Prop} {h : AHeap} {o : Nat} {tb : Tb} {L : Lay}

def dirE (tb : Tb) (k : Int) : Int := match tb.nodes k with | some nd => if nd.kind = 2 then 0 else 8 | none => 5
def fileE (tb : Tb) (k : Int) : Int := match tb.nodes k with | some nd => if nd.kind = 2 then 7 else if nd.kind = 1 then 0 else 2 | none => 5
def freeE (tb : Tb) (k : Int) (s : Bs) : Int := if (findT tb k s).isSome = true then 6 else 0
def entryE (tb : Tb) (k : Int) (s : Bs) : Int := if (findT tb k s).isSome = true then 0 else 5
def roomE (tb : Tb) (i b : Int) : Int := if tb.ui + i ≤ tb.qi ∧ tb.ub + b ≤ tb.qb then 0 else 10
def goodName (s : Bs) : Bool := !decide (s = []) && !decide (s = [46]) && !decide (s = [46, 46]) && !hasAny [47, 0] s
def nameE (s : Bs) : Int := if 56 < s.length then 3 else if goodName s = true then 0 else 2
def goodLike (kind mode : Int) (data : Bs) : Bool := (decide (kind = 1) || (decide (kind = 2) && decide (data = [])) || (decide (kind = 3) && !decide (data = []) && decide (data.length ≤ 255) && decide (idxB 0 data 0 < 0))) && decide (0 ≤ mode) && decide (mode ≤ 511)
def likeE (kind mode : Int) (data : Bs) : Int := if goodLike kind mode data = true then 0 else 2

/-- What the library says of a name. -/
def AnyOK (s : Bs) : Prop := ∀ h : AHeap, h.WF → ∃ h', EG (.fn 59) [.str s, .str [47, 0]] h = some (.bool (hasAny [47, 0] s), h') ∧ Ext h h'

theorem anyOK_ascii {s : Bs} (h1 : s.length < 4294967281) (h2 : s.all (fun b => Nat.blt b.toNat 128) = true) : AnyOK s := fun h hw => by
  refine ⟨h, run_prim (f := 59) rfl ?_, Ext.refl hw⟩
  have : (Nat.blt s.length 4294967281 && Nat.blt ([47, 0] : Bs).length 4294967281 && s.all (fun b => Nat.blt b.toNat 128) && ([47, 0] : Bs).all (fun b => Nat.blt b.toNat 128)) = true := by
    rw [h2, show Nat.blt s.length 4294967281 = true by simpa using h1]
    rfl
  simp only [containsAnyP, this, cond_true]

theorem there_run (i : Nat) : EG (.fn 27) [.ptr o i] h = some (.int .i64 0, h) := by
  refine run27 0 ?_
  unfold F27
  simp only [ne23, valK_s, must_run, bothK_s, if_true]

theorem there_ask : Ask h (.func 27 [.ptr o 0] []) 0 := ⟨27, [.ptr o 0], [], rfl, fun h' x' => ⟨h', there_run 0, Ext.refl x'.wf⟩⟩

theorem dir_run (a : TR S h o tb L) (hw : h.WF) (k : Int) : ∃ c h', EG (.fn 28) [.ptr o 0, .int .i64 k] h = some (.func 57 [] c, h') ∧ Ext h h' ∧ Ask h' (.func 57 [] c) (dirE tb k) := by
  obtain ⟨b1, h1, e1, g1, x1, n1⟩ := box hw (.ptr o 0) rfl rfl
  obtain ⟨b2, h2, e2, g2, x2, n2⟩ := box x1.wf (.int .i64 k) rfl rfl
  refine ⟨[.ptr b1 0, .ptr b2 0], h2, run28 0 ?_, x1.trans x2, 57, [], _, rfl, fun h' x' => ⟨h', run57 0 ?_, Ext.refl x'.wf⟩⟩
  · unfold F28
    simp only [e1, e2, bothK_s]
  · have a' := a.ext ((x1.trans x2).trans x')
    unfold F57
    simp only [ld23 (x'.keep _ _ (x2.keep _ _ g1)), ld3 (x'.keep _ _ g2), valK_s, get_run a', bothK_s]
    cases hk : tb.nodes k with
    | none => simp only [ptrOf, hk, eq62n, valK_s, boolK_t, dirE]
    | some nd =>
      simp only [ptrOf, hk, eq62, valK_s, boolK_f, nil_ptr, fa65_0, fa35_0, a'.l_kind hk, abin_eql, must_run, bothK_s, dirE, decide_eq_true_eq]

theorem file_run (a : TR S h o tb L) (hw : h.WF) (k : Int) : ∃ c h', EG (.fn 33) [.ptr o 0, .int .i64 k] h = some (.func 62 [] c, h') ∧ Ext h h' ∧ Ask h' (.func 62 [] c) (fileE tb k) := by
  obtain ⟨b1, h1, e1, g1, x1, n1⟩ := box hw (.ptr o 0) rfl rfl
  obtain ⟨b2, h2, e2, g2, x2, n2⟩ := box x1.wf (.int .i64 k) rfl rfl
  refine ⟨[.ptr b1 0, .ptr b2 0], h2, run33 0 ?_, x1.trans x2, 62, [], _, rfl, fun h' x' => ⟨h', run62 0 ?_, Ext.refl x'.wf⟩⟩
  · unfold F33
    simp only [e1, e2, bothK_s]
  · have a' := a.ext ((x1.trans x2).trans x')
    unfold F62
    simp only [ld23 (x'.keep _ _ (x2.keep _ _ g1)), ld3 (x'.keep _ _ g2), valK_s, get_run a', bothK_s]
    cases hk : tb.nodes k with
    | none => simp only [ptrOf, hk, eq62n, valK_s, boolK_t, fileE]
    | some nd =>
      simp only [ptrOf, hk, eq62, valK_s, boolK_f, nil_ptr, fa65_0, fa35_0, a'.l_kind hk, abin_eql, must_run, bothK_s, fileE, boolK_b, decide_eq_true_eq]
      by_cases h2 : nd.kind = 2 <;> simp [h2]

theorem free_run (a : TR S h o tb L) (hw : h.WF) (k : Int) (s : Bs) : ∃ c h', EG (.fn 30) [.ptr o 0, .int .i64 k, .str s] h = some (.func 60 [] c, h') ∧ Ext h h' ∧ Ask h' (.func 60 [] c) (freeE tb k s) := by
  obtain ⟨b1, h1, e1, g1, x1, n1⟩ := box hw (.ptr o 0) rfl rfl
  obtain ⟨b2, h2, e2, g2, x2, n2⟩ := box x1.wf (.int .i64 k) rfl rfl
  obtain ⟨b3, h3, e3, g3, x3, n3⟩ := box x2.wf (.str s) rfl rfl
  refine ⟨[.ptr b1 0, .ptr b2 0, .ptr b3 0], h3, run30 0 ?_, (x1.trans x2).trans x3, 60, [], _, rfl, fun h' x' => ⟨h', run60 0 ?_, Ext.refl x'.wf⟩⟩
  · unfold F30
    simp only [e1, e2, e3, bothK_s]
  · have a' := a.ext (((x1.trans x2).trans x3).trans x')
    unfold F60
    simp only [ld23 (x'.keep _ _ (x3.keep _ _ (x2.keep _ _ g1))), ld3 (x'.keep _ _ (x3.keep _ _ g2)), ld9 (x'.keep _ _ g3), valK_s, find_run a', bothK_s, extractA_0, extractA_1, aun_not, must_run, freeE]
    cases (findT tb k s).isSome <;> rfl

theorem entry_run (a : TR S h o tb L) (hw : h.WF) (k : Int) (s : Bs) : ∃ c h', EG (.fn 37) [.ptr o 0, .int .i64 k, .str s] h = some (.func 63 [] c, h') ∧ Ext h h' ∧ Ask h' (.func 63 [] c) (entryE tb k s) := by
  obtain ⟨b1, h1, e1, g1, x1, n1⟩ := box hw (.ptr o 0) rfl rfl
  obtain ⟨b2, h2, e2, g2, x2, n2⟩ := box x1.wf (.int .i64 k) rfl rfl
  obtain ⟨b3, h3, e3, g3, x3, n3⟩ := box x2.wf (.str s) rfl rfl
  refine ⟨[.ptr b1 0, .ptr b2 0, .ptr b3 0], h3, run37 0 ?_, (x1.trans x2).trans x3, 63, [], _, rfl, fun h' x' => ⟨h', run63 0 ?_, Ext.refl x'.wf⟩⟩
  · unfold F37
    simp only [e1, e2, e3, bothK_s]
  · have a' := a.ext (((x1.trans x2).trans x3).trans x')
    unfold F63
    simp only [ld23 (x'.keep _ _ (x3.keep _ _ (x2.keep _ _ g1))), ld3 (x'.keep _ _ (x3.keep _ _ g2)), ld9 (x'.keep _ _ g3), valK_s, find_run a', bothK_s, extractA_0, extractA_1, must_run, entryE]

theorem named_run (hw : h.WF) {s : Bs} (hs : s.length ≤ 56 → AnyOK s) : ∃ c h', EG (.fn 29) [.str s] h = some (.func 58 [] c, h') ∧ Ext h h' ∧ Ask h' (.func 58 [] c) (nameE s) := by
  obtain ⟨b1, h1, e1, g1, x1, n1⟩ := box hw (.str s) rfl rfl
  refine ⟨[.ptr b1 0], h1, run29 0 ?_, x1, 58, [], _, rfl, fun h' x' => ?_⟩
  · unfold F29
    simp only [e1, bothK_s]
  · have l1 := ld9 (x'.keep _ _ g1)
    by_cases hl : 56 < s.length
    · refine ⟨h', run58 0 ?_, Ext.refl x'.wf⟩
      unfold F58
      have : decide ((56 : Int) < (s.length : Int)) = true := by rw [decide_eq_true_eq]; omega
      simp only [l1, valK_s, alen9, abin_gtr, this, boolK_t, nameE, hl, if_true]
    · have hd : decide ((56 : Int) < (s.length : Int)) = false := by rw [decide_eq_false_iff_not]; omega
      obtain ⟨h2, q, x2⟩ := hs (by omega) h' x'.wf
      by_cases c1 : s = []
      · refine ⟨h', run58 0 ?_, Ext.refl x'.wf⟩
        unfold F58
        simp only [l1, valK_s, alen9, abin_gtr, hd, boolK_f, nameE, hl, if_false, abin_strne, c1, decide_true, Bool.not_true, must_run, bothK_s, goodName]
        simp
      · by_cases c2 : s = [46]
        · refine ⟨h', run58 0 ?_, Ext.refl x'.wf⟩
          unfold F58
          simp only [l1, valK_s, alen9, abin_gtr, hd, boolK_f, boolK_t, nameE, hl, if_false, abin_strne, decide_eq_false c1, Bool.not_false, decide_eq_true c2, Bool.not_true, must_run, bothK_s, goodName]
          simp
        · by_cases c3 : s = [46, 46]
          · refine ⟨h', run58 0 ?_, Ext.refl x'.wf⟩
            unfold F58
            simp only [l1, valK_s, alen9, abin_gtr, hd, boolK_f, boolK_t, nameE, hl, if_false, abin_strne, decide_eq_false c1, decide_eq_false c2, Bool.not_false, decide_eq_true c3, Bool.not_true, must_run, bothK_s, goodName]
            simp
          · refine ⟨h2, run58 0 ?_, x2⟩
            unfold F58
            simp only [l1, valK_s, alen9, abin_gtr, hd, boolK_f, boolK_t, nameE, hl, if_false, abin_strne, decide_eq_false c1, decide_eq_false c2, Bool.not_false, decide_eq_false c3, q, bothK_s, aun_not, must_run, goodName, Bool.true_and]

/-- No number is too great. -/
structure Small (tb : Tb) : Prop where
  qi : 0 ≤ tb.qi ∧ tb.qi ≤ 1048576
  qb : 0 ≤ tb.qb ∧ tb.qb ≤ 1073741824
  ui : 0 ≤ tb.ui ∧ tb.ui ≤ 1048576
  ub : 0 ≤ tb.ub ∧ tb.ub ≤ 1073741824

theorem room_run (a : TR S h o tb L) (hw : h.WF) (hs : Small tb) {i b : Int} (hi : 0 ≤ i ∧ i ≤ 1) (hb : -1152921504606846976 ≤ b ∧ b ≤ 1152921504606846976) :
    ∃ c h', EG (.fn 32) [.ptr o 0, .int .i64 i, .int .i64 b] h = some (.func 61 [] c, h') ∧ Ext h h' ∧ Ask h' (.func 61 [] c) (roomE tb i b) := by
  obtain ⟨b1, h1, e1, g1, x1, n1⟩ := box hw (.ptr o 0) rfl rfl
  obtain ⟨b2, h2, e2, g2, x2, n2⟩ := box x1.wf (.int .i64 i) rfl rfl
  obtain ⟨b3, h3, e3, g3, x3, n3⟩ := box x2.wf (.int .i64 b) rfl rfl
  refine ⟨[.ptr b1 0, .ptr b2 0, .ptr b3 0], h3, run32 0 ?_, (x1.trans x2).trans x3, 61, [], _, rfl, fun h' x' => ⟨h', run61 0 ?_, Ext.refl x'.wf⟩⟩
  · unfold F32
    simp only [e1, e2, e3, bothK_s]
  · have a' := a.ext (((x1.trans x2).trans x3).trans x')
    unfold F61
    have s1 := hs.ui; have s2 := hs.ub
    simp only [ld23 (x'.keep _ _ (x3.keep _ _ (x2.keep _ _ g1))), ld3 (x'.keep _ _ (x3.keep _ _ g2)), ld3 (x'.keep _ _ g3), valK_s, nil_ptr, fa68_1, fa68_0, fa26_20, fa26_21, fa26_00, fa26_01, a'.l_ui, a'.l_ub, a'.l_qi, a'.l_qb,
      abin_add (show -9223372036854775808 ≤ tb.ui + i by omega) (show tb.ui + i ≤ 9223372036854775807 by omega), abin_add (show -9223372036854775808 ≤ tb.ub + b by omega) (show tb.ub + b ≤ 9223372036854775807 by omega), abin_leq, must_run, bothK_s, roomE, boolK_b, decide_eq_true_eq]
    by_cases q1 : tb.ui + i ≤ tb.qi <;> simp [q1]

/-- How an inode may look. -/
theorem like_ask {kind mode : Int} {data : Bs} {b1 b2 b3 : Nat} (g1 : h.get b1 = some (.cells [.str data] true)) (g2 : h.get b2 = some (.cells [.int .i64 kind] true)) (g3 : h.get b3 = some (.cells [.int .i64 mode] true)) (hw : h.WF) :
    Ask h (.func 23 [] [.ptr b1 0, .ptr b2 0, .ptr b3 0]) (likeE kind mode data) := by
  refine ⟨23, [], _, rfl, fun h' x' => ?_⟩
  have l1 := ld9 (x'.keep _ _ g1)
  -- what stands in the map
  have rest : ∀ (link : Bool) (hh : AHeap), Ext h' hh → ∃ h'',
      (bothK (newMapA hh) fun x4 h5 =>
        hpK (amapUpdate tab h5 70 x4 (.int .i64 1) (.bool true)) fun h6 =>
        valK (loadA tab h6 9 (.ptr b1 0)) fun x7 =>
        valK (abin tab .eql 9 x7 (.str [])) fun x8 =>
        hpK (amapUpdate tab h6 70 x4 (.int .i64 2) x8) fun h9 =>
        hpK (amapUpdate tab h9 70 x4 (.int .i64 3) (.bool link)) fun h10 =>
        valK (loadA tab h10 3 (.ptr b2 0)) fun x11 =>
        valK (alookup tab h10 70 x4 x11 false) fun x12 =>
        boolK x12 (
        valK (loadA tab h10 3 (.ptr b3 0)) fun x13 =>
        valK (abin tab .geq 3 x13 (.int .i64 0)) fun x14 =>
        boolK x14 (
        valK (loadA tab h10 3 (.ptr b3 0)) fun x15 =>
        valK (abin tab .leq 3 x15 (.int .i64 511)) fun x16 =>
        bothK (EG (.fn 25) [x16, (.int .i64 2)] h10) fun x17 h18 =>
        hpK (unmark h18 []) fun h19 =>
        some (x17, h19)) (
        bothK (EG (.fn 25) [(.bool false), (.int .i64 2)] h10) fun x20 h21 =>
        hpK (unmark h21 []) fun h22 =>
        some (x20, h22))) (
        bothK (EG (.fn 25) [(.bool false), (.int .i64 2)] h10) fun x23 h24 =>
        hpK (unmark h24 []) fun h25 =>
        some (x23, h25))) = some (.int .i64 (if (decide (kind = 1) || (decide (kind = 2) && decide (data = [])) || (decide (kind = 3) && link)) && decide (0 ≤ mode) && decide (mode ≤ 511) then 0 else 2), h'') ∧ Ext h' h'' := by
    intro link hh xh
    have k1 : (hh.add (.map [] 0)).get hh.next = some (.map (intE []) 0) := AHeap.get_add_self _ _
    have u1 := update_int (T := tab) (h := hh.add (.map [] 0)) (m := hh.next) (key := 1) ty70 k1 List.nodup_nil rfl (.bool true)
    have k2 : ((hh.add (.map [] 0)).put hh.next (.map (intE ([] ++ [(1, .bool true, 0)])) (0 + 1))).get hh.next = some (.map (intE [(1, .bool true, 0)]) 1) := AHeap.get_put_self _ _ _
    generalize e2 : (hh.add (.map [] 0)).put hh.next (.map (intE ([] ++ [(1, .bool true, 0)])) (0 + 1)) = h2 at u1 k2
    have x2 : Ext h' h2 := by rw [← e2]; exact (xh.add _).put xh.new (k1) _
    have u2 := update_int (T := tab) (h := h2) (m := hh.next) (key := 2) ty70 k2 (by simp) rfl (.bool (decide (data = [])))
    have k3 : (h2.put hh.next (.map (intE ([(1, .bool true, 0)] ++ [(2, .bool (decide (data = [])), 1)])) (1 + 1))).get hh.next = some (.map (intE [(1, .bool true, 0), (2, .bool (decide (data = [])), 1)]) 2) := AHeap.get_put_self _ _ _
    generalize e3 : h2.put hh.next (.map (intE ([(1, .bool true, 0)] ++ [(2, .bool (decide (data = [])), 1)])) (1 + 1)) = h3 at u2 k3
    have x3 : Ext h' h3 := by rw [← e3]; exact x2.put xh.new k2 _
    have u3 := update_int (T := tab) (h := h3) (m := hh.next) (key := 3) ty70 k3 (by simp) rfl (.bool link)
    have k4 : (h3.put hh.next (.map (intE ([(1, .bool true, 0), (2, .bool (decide (data = [])), 1)] ++ [(3, .bool link, 2)])) (2 + 1))).get hh.next = some (.map (intE [(1, .bool true, 0), (2, .bool (decide (data = [])), 1), (3, .bool link, 2)]) 3) := AHeap.get_put_self _ _ _
    generalize e4 : h3.put hh.next (.map (intE ([(1, .bool true, 0), (2, .bool (decide (data = [])), 1)] ++ [(3, .bool link, 2)])) (2 + 1)) = h4 at u3 k4
    have x4 : Ext h' h4 := by rw [← e4]; exact x3.put xh.new k3 _
    refine ⟨h4, ?_, x4⟩
    have lk := lookup_int (T := tab) (h := h4) (m := hh.next) (key := kind) ty70 ty4 k4 (by simp)
    have lk2 : alookup tab h4 70 (.map hh.next) (.int .i64 kind) false = some (.bool (decide (kind = 1) || (decide (kind = 2) && decide (data = [])) || (decide (kind = 3) && link))) := by
      rw [lk]
      by_cases c1 : kind = 1
      · simp [getI, c1]
      · by_cases c2 : kind = 2
        · simp [getI, c2]
        · by_cases c3 : kind = 3
          · simp [getI, c3]
          · simp [getI, c1, c2, c3]
    simp only [newMapA, bothK_s, u1, hpK_s, ld9 (x2.keep _ _ (x'.keep _ _ g1)), valK_s, abin_streq, u2, u3, ld3 (x4.keep _ _ (x'.keep _ _ g2)), lk2, ld3 (x4.keep _ _ (x'.keep _ _ g3)), abin_geq, abin_leq, must_run, unmark_nil]
    generalize (decide (kind = 1) || (decide (kind = 2) && decide (data = [])) || (decide (kind = 3) && link)) = good
    cases good
    · simp [boolK_f]
    · by_cases m1 : 0 ≤ mode <;> simp [boolK_f, boolK_t, m1]
  by_cases c1 : data = []
  · obtain ⟨h2, q1, q2⟩ := rest false h' (Ext.refl x'.wf)
    refine ⟨h2, run23 0 ?_, q2⟩
    unfold F23
    simp only [jn_a, l1, valK_s, abin_strne, c1, decide_true, Bool.not_true, boolK_f]
    rw [c1] at q1
    rw [q1]
    simp [likeE, goodLike]
  · by_cases c2 : data.length ≤ 255
    · have hd : decide ((data.length : Int) ≤ 255) = true := by rw [decide_eq_true_eq]; omega
      have kp : EG (.fn 24) [.str data, .int .u8 0] h' = some (.int .i64 (idxB 0 data 0), h') := run_prim (f := 24) rfl rfl
      obtain ⟨h2, q1, q2⟩ := rest (decide (idxB 0 data 0 < 0)) h' (Ext.refl x'.wf)
      refine ⟨h2, run23 0 ?_, q2⟩
      unfold F23
      simp only [jn_a, l1, valK_s, abin_strne, decide_eq_false c1, Bool.not_false, boolK_t, alen9, abin_leq, hd, kp, bothK_s, abin_lss]
      rw [q1]
      simp [likeE, goodLike, c1, c2]
    · have hd : decide ((data.length : Int) ≤ 255) = false := by rw [decide_eq_false_iff_not]; omega
      obtain ⟨h2, q1, q2⟩ := rest false h' (Ext.refl x'.wf)
      refine ⟨h2, run23 0 ?_, q2⟩
      unfold F23
      simp only [jn_a, l1, valK_s, abin_strne, decide_eq_false c1, Bool.not_false, boolK_t, alen9, abin_leq, hd, boolK_f]
      rw [q1]
      simp [likeE, goodLike, c1, c2]

/-- Room for one more. -/
theorem room1_ask (a : TR S h o tb L) (hw : h.WF) (hs : Small tb) {data : Bs} {b1 b2 : Nat} (g1 : h.get b1 = some (.cells [.ptr o 0] true)) (g2 : h.get b2 = some (.cells [.str data] true)) (hd : data.length < 1152921504606846976) :
    Ask h (.func 31 [] [.ptr b1 0, .ptr b2 0]) (roomE tb 1 data.length) := by
  refine ⟨31, [], _, rfl, fun h' x' => ?_⟩
  obtain ⟨c, h2, q1, q2, g, p, c', q3, q4⟩ := room_run (a.ext x') x'.wf hs (i := 1) (b := data.length) (by omega) (by omega)
  cases q3
  obtain ⟨h3, q5, q6⟩ := q4 h2 (Ext.refl q2.wf)
  rw [List.nil_append] at q5
  refine ⟨h3, run31 0 ?_, q2.trans q6⟩
  unfold F31
  simp only [ld23 (x'.keep _ _ g1), ld9 (x'.keep _ _ g2), valK_s, alen9, q1, bothK_s, callA_func, List.nil_append, q5]

end
end Go.Am
