/-
  InodeLinks: the second loop.
-/
import Derived.Test.YtpofhpkdjcnhmaaU3
set_option linter.unusedVariables false
set_option linter.unusedSimpArgs false
namespace Go.Am
open Go Go.Proofs

theorem rem_nat {k n : Nat} (hn : 0 < n) : abin tab .rem 3 (.int .i64 (k : Int)) (.int .i64 (n : Int)) = some (.int .i64 ((k % n : Nat) : Int)) := by
  rw [abin_int (by simp) (by simp)]
  have : decide ((n : Int) = 0) = false := by rw [decide_eq_false_iff_not]; omega
  simp only [aint, this, cond_false]
  rw [← Int.ofNat_tmod]

theorem letter_run {j : Nat} (hj : j < 12) : ∃ x112 x113, aindex tab 9 (.str (nm j)) (.int .i64 0) = some x112 ∧ abin tab .sub 5 x112 (.int .u8 97) = some x113 ∧ abin tab .rem 5 x113 (.int .u8 2) = some (.int .u8 ((j % 2 : Nat) : Int)) := by
  have e1 : aindex tab 9 (.str (nm j)) (.int .i64 0) = some (.int .u8 ((UInt8.ofNat (97 + j)).toNat : Int)) := rfl
  have e2 : abin tab .sub 5 (.int .u8 ((UInt8.ofNat (97 + j)).toNat : Int)) (.int .u8 97) = some (.int .u8 (awrap .u8 (((UInt8.ofNat (97 + j)).toNat : Int) - 97))) := rfl
  have e3 : awrap .u8 (((UInt8.ofNat (97 + j)).toNat : Int) - 97) = (j : Int) := by
    have : ∀ j : Fin 12, awrap .u8 (((UInt8.ofNat (97 + j.val)).toNat : Int) - 97) = (j.val : Int) := by decide
    exact this ⟨j, hj⟩
  rw [e3] at e2
  refine ⟨_, _, e1, e2, ?_⟩
  have : abin tab .rem 5 (.int .u8 (j : Int)) (.int .u8 2) = some (.int .u8 ((j : Int).tmod 2)) := rfl
  rw [this]
  have h2 : ((j : Int).tmod 2) = ((j % 2 : Nat) : Int) := by
    have := Int.ofNat_tmod j 2
    exact this.symm
  rw [h2]

theorem links_loop2 {h0 : AHeap} {dat : Bs} (hd : dat.length ≤ 200) {al : List Int} (hal : ∀ x ∈ al, 0 ≤ x ∧ x ≤ 255) {w : AV} (hw0 : Row h0 w al.length 1 (al.map (AV.int .u8))) {S : Nat → Prop} {hh : AHeap} {o : Nat} {L : Lay} {v : AV} {names : List Bs} {E1 E2 : NE}
    (a : LS h0 S hh o (linkTb E1 E2 dat names.length) L v names) (b : LI names E1 E2) (hne : names ≠ []) (hn : names.length ≤ 12) {N M : Nat} (hN : 13 < N) :
    ∃ h', loopN (F3_b23 EG M) N (.str dat, w, .ptr o 0, .int .i64 2, .int .i64 3, v, .int .i64 0, ()) [] hh = some (.bool true, h') := by
  refine loop_rule (σ := AV × AV × AV × AV × AV × AV × AV × Unit) (R := AV × AHeap) (total := names.length)
    (I := fun i st h => ∃ S : Nat → Prop, ∃ tb : Tb, ∃ L : Lay, ∃ v : AV, ∃ l : List Bs, ∃ E1 E2 : NE, st = (.str dat, w, .ptr o 0, .int .i64 2, .int .i64 3, v, .int .i64 (i : Int), ()) ∧ LS h0 S h o tb L v l ∧ LI l E1 E2 ∧ l.length + i = names.length ∧
      ((l ≠ [] ∧ tb = linkTb E1 E2 dat l.length) ∨ (l = [] ∧ tb.nodes 3 = none ∧ tb.ui = 2 ∧ tb.ub = 0)))
    (Q := fun r => ∃ h', r = some (.bool true, h')) ?_ N 0 _ _ ⟨S, _, L, v, names, E1, E2, rfl, a, b, by omega, .inl ⟨hne, rfl⟩⟩ (by omega) (by omega)
  rintro i st h nx ⟨S, tb, L, v, l, E1, E2, rfl, a, b, hlen, hcase⟩
  have hl := a.row.len ty30
  rcases hcase with ⟨hl0, rfl⟩ | ⟨rfl, t3, tu, tub⟩
  · left
    have hpos : 0 < l.length := by
      cases l with
      | nil => exact absurd rfl hl0
      | cons x l => simp
    have c0 : decide ((0 : Int) < (l.length : Int)) = true := by rw [decide_eq_true_eq]; omega
    obtain ⟨h1, e1, x1⟩ := node_run a.tr a.wf 3
    replace e1 : EG (.fn 12) [.ptr o 0, .int .i64 3] h = some (.tuple [.agg [.int .i64 1, .int .i64 420, .str dat, .int .i64 l.length], .bool true], h1) := e1
    obtain ⟨c, h2, h3, e2, e3, gc, x3⟩ := ino_cell x1.wf 1 420 l.length dat
    have a3 := a.grow (x1.trans x3)
    have ll : loadA tab h3 3 (.ptr c 3) = some (.int .i64 l.length) := loadA_cell ty3 rfl gc rfl
    have ld : loadA tab h3 9 (.ptr c 2) = some (.str dat) := loadA_cell ty9 rfl gc rfl
    have hl3 := a3.row.len ty30
    have hwr := hw0.ext a3.ext
    -- which goes
    obtain ⟨at', hat, sel⟩ : ∃ at', at' < l.length ∧ ((∃ m p, decide ((i : Int) < (al.length : Int)) = true ∧ aindexAddr tab 22 w (.int .i64 (i : Int)) = some p ∧ loadA tab h3 5 p = some (.int .u8 m) ∧ aconvert tab h3 5 3 (.int .u8 m) = some (.int .i64 m, h3) ∧ abin tab .rem 3 (.int .i64 m) (.int .i64 (l.length : Int)) = some (.int .i64 (at' : Int))) ∨
        (decide ((i : Int) < (al.length : Int)) = false ∧ at' = 0)) := by
      by_cases hi : i < al.length
      · obtain ⟨p, p1, p2⟩ := hwr.get1 ty22 ty5 rfl rfl (x := .int .u8 al[i]) (i := i) (by simp [hi]) (k := .i64)
        have hb := hal al[i] (List.getElem_mem hi)
        refine ⟨al[i].toNat % l.length, Nat.mod_lt _ hpos, .inl ⟨al[i], p, ltT hi, p1, p2, ?_, ?_⟩⟩
        · show some (AV.int .i64 (awrap .i64 al[i]), h3) = _
          rw [awrap_i64 (by omega) (by omega)]
        · have := rem_nat (k := al[i].toNat) hpos
          rw [Int.toNat_of_nonneg hb.1] at this
          exact this
      · exact ⟨0, hpos, .inr ⟨ltF hi, rfl⟩⟩
    -- its name
    obtain ⟨j, hj, hs⟩ := b.known l[at'] (List.getElem_mem hat)
    have hmem : nm j ∈ l := hs ▸ List.getElem_mem hat
    obtain ⟨p2, g1, g2⟩ := a3.row.get1 ty30 ty9 rfl rfl (x := .str l[at']) (i := at') (by simp [hat]) (k := .i64)
    rw [hs] at g2
    obtain ⟨x112, x113, y1, y2, y3⟩ := letter_run hj
    obtain ⟨u1, u2, F1, F2, u3, u4⟩ := unlink_at (dat := dat) (n := (l.length : Int)) b hj hmem
    have hfr := find_run a3.tr (dirOf j) (nm j)
    rw [u1] at hfr
    obtain ⟨h5, e5, t5, s5⟩ := unlink_run a3.tr a3.wf (small_link (by omega)) (dir := dirOf j) (name := nm j) (fun n hn => by
      rw [u1] at hn; cases hn
      exact ⟨_, rfl, show dat.length < _ by omega, show (-1000000000000 : Int) < (l.length : Int) by omega, show (l.length : Int) < 1000000000000 by omega⟩)
    rw [u2] at e5
    rw [u4] at t5
    have a5 := a3.step t5 s5
    obtain ⟨x84, h6, x86, x88, x89, h7, x91, h8, z1, z2, z3, z4, z5, a8⟩ := a5.cut (by omega) hat
    have hcut : l.take at' ++ l.drop (at' + 1) = l.filter fun s => decide (s ≠ nm j) := by rw [← hs]; exact filter_erase b.nodup hat
    have hcl : (l.take at' ++ l.drop (at' + 1)).length = l.length - 1 := by simp; omega
    have inc1 := abin_inc (T := tab) (t := 3) (i := at') (by omega)
    have inc2 := abin_inc (T := tab) (t := 3) (i := i) (by omega)
    have end' : ∃ s' h', nx (.str dat, w, .ptr o 0, .int .i64 2, .int .i64 3, x91, .int .i64 ((i + 1 : Nat) : Int), ()) [] h8 = nx s' [] h' ∧ (∃ S : Nat → Prop, ∃ tb : Tb, ∃ L : Lay, ∃ v : AV, ∃ l : List Bs, ∃ E1 E2 : NE, s' = (.str dat, w, .ptr o 0, .int .i64 2, .int .i64 3, v, .int .i64 ((i + 1 : Nat) : Int), ()) ∧ LS h0 S h' o tb L v l ∧ LI l E1 E2 ∧ l.length + (i + 1) = names.length ∧
      ((l ≠ [] ∧ tb = linkTb E1 E2 dat l.length) ∨ (l = [] ∧ tb.nodes 3 = none ∧ tb.ui = 2 ∧ tb.ub = 0))) := by
      refine ⟨_, _, rfl, S, _, L, x91, _, F1, F2, rfl, a8, by rw [hcut]; exact u3, by rw [hcl]; omega, ?_⟩
      by_cases h1 : (l.length : Int) = 1
      · right
        refine ⟨List.eq_nil_of_length_eq_zero (by rw [hcl]; omega), ?_, ?_, ?_⟩ <;> rw [if_pos h1]
        exact upd_self (three F1 F2 dat l.length) 3 none
      · left
        refine ⟨fun h => ?_, ?_⟩
        · have := congrArg List.length h
          rw [hcl] at this
          simp at this
          omega
        · rw [if_neg h1, hcl]
          have : ((l.length - 1 : Nat) : Int) = (l.length : Int) - 1 := by omega
          rw [this]
    refine ⟨by omega, ?_⟩
    have par : (j % 2 = 1 ∧ dirOf j = 2 ∧ decide (((j % 2 : Nat) : Int) = 1) = true) ∨ (¬ j % 2 = 1 ∧ dirOf j = 1 ∧ decide (((j % 2 : Nat) : Int) = 1) = false) := by
      by_cases hp : j % 2 = 1
      · exact .inl ⟨hp, by simp [dirOf, hp], by rw [hp]; rfl⟩
      · exact .inr ⟨hp, by simp [dirOf, hp], by rw [decide_eq_false_iff_not]; omega⟩
    obtain ⟨s', h', q1, q2⟩ := end'
    refine ⟨s', h', ?_, q2⟩
    rw [← q1]
    simp only [F3_b23, hl, valK_s, abin_gtr, c0, boolK_t, e1, bothK_s, extractA_0, extractA_1, e2, e3, hpK_s, jn_a, aun_not, Bool.not_true, boolK_f, fa35_3, ll, hl3, abin_neq, decide_true, fa35_2, ld, abin_strne]
    rcases sel with ⟨m, p, m1, m2, m3, m4, m5⟩ | ⟨m1, rfl⟩
    · rcases par with ⟨_, d1, d2⟩ | ⟨_, d1, d2⟩ <;> rw [d1] at hfr e5
      · simp only [hwr.len ty22, valK_s, abin_lss, m1, boolK_t, m2, m3, m4, bothK_s, hl3, m5, g1, g2, y1, y2, y3, abin_eql, d2, hfr, extractA_0, extractA_1, Option.isSome_some, aun_not, Bool.not_true, boolK_f, intOf, abin_neq, decide_true, e5, z1, z2, inc1, z3, z4, z5, inc2]
      · simp only [hwr.len ty22, valK_s, abin_lss, m1, boolK_t, m2, m3, m4, bothK_s, hl3, m5, g1, g2, y1, y2, y3, abin_eql, d2, hfr, extractA_0, extractA_1, Option.isSome_some, aun_not, Bool.not_true, boolK_f, intOf, abin_neq, decide_true, e5, z1, z2, inc1, z3, z4, z5, inc2]
    · have g1 : aindexAddr tab 30 v (.int .i64 0) = some p2 := g1
      have z2 : aslice tab 30 v none (some (.int .i64 0)) = some x86 := z2
      have inc1 : abin tab .add 3 (.int .i64 0) (.int .i64 1) = some (.int .i64 ((0 + 1 : Nat) : Int)) := inc1
      rcases par with ⟨_, d1, d2⟩ | ⟨_, d1, d2⟩ <;> rw [d1] at hfr e5
      · simp only [hwr.len ty22, valK_s, abin_lss, m1, boolK_f, bothK_s, g1, g2, y1, y2, y3, abin_eql, d2, boolK_t, hfr, extractA_0, extractA_1, Option.isSome_some, aun_not, Bool.not_true, intOf, abin_neq, decide_true, e5, z1, z2, inc1, z3, z4, z5, inc2]
      · simp only [hwr.len ty22, valK_s, abin_lss, m1, boolK_f, bothK_s, g1, g2, y1, y2, y3, abin_eql, d2, boolK_t, hfr, extractA_0, extractA_1, Option.isSome_some, aun_not, Bool.not_true, intOf, abin_neq, decide_true, e5, z1, z2, inc1, z3, z4, z5, inc2]
  · right
    have c0 : decide ((0 : Int) < (([] : List Bs).length : Int)) = false := by simp
    obtain ⟨h1, e1, x1⟩ := node_run a.tr a.wf 3
    have hv : nodeV tb 3 = .agg [.int .i64 0, .int .i64 0, .str [], .int .i64 0] := by simp only [nodeV, t3, ino0]
    rw [hv, t3] at e1
    obtain ⟨c, h2, h3, e2, e3, gc, x3⟩ := ino_cell x1.wf 0 0 0 []
    have a3 := a.grow (x1.trans x3)
    obtain ⟨h4, e4, x4⟩ := used_run a3.tr a3.wf
    have e5 : abuild tab 26 [(0, .int .i64 2)] = some (.agg [.int .i64 2, .int .i64 0]) := rfl
    have e6 : abin tab .eql 26 (.agg [.int .i64 tb.ui, .int .i64 tb.ub]) (.agg [.int .i64 2, .int .i64 0]) = some (.bool true) := by rw [tu, tub]; rfl
    simp only [F3_b23, hl, valK_s, abin_gtr, c0, boolK_f, e1, bothK_s, extractA_0, extractA_1, e2, e3, hpK_s, aun_not, Option.isSome_none, Bool.not_false, boolK_t, e4, e5, e6, run15, unmark_nil]
    exact ⟨_, rfl⟩
end Go.Am
