/-
  InodeLinks: the first loop, and the whole.
-/
import Derived.Test.YtpofhpkdjcnhmaaU4
set_option linter.unusedVariables false
set_option linter.unusedSimpArgs false
namespace Go.Am
open Go Go.Proofs

theorem quota_eq (a b c d : Int) : aeq tab 26 (.agg [.int .i64 a, .int .i64 b]) (.agg [.int .i64 c, .int .i64 d]) = some (decide (a = c) && decide (b = d)) := by
  have t26 : ∃ s b' z, tab.get 26 = some ⟨.struct [(0, (1, 1)), (1, (1, 1))], s, b', true, z⟩ := ⟨_, _, _, rfl⟩
  obtain ⟨s, b', z, t1⟩ := t26
  have e : ∀ x y : Int, eqCell 1 (.int .i64 x) (.int .i64 y) = some (decide (x = y)) := fun x y => by simp [eqCell]
  simp only [aeq, t1, eqFields, List.getElem?_cons_zero, List.getElem?_cons_succ, e]
  by_cases h1 : a = c <;> by_cases h2 : b = d <;> simp [h1, h2]
theorem quota_ok (a b c d : Int) : eqOk tab 26 (.agg [.int .i64 a, .int .i64 b]) (.agg [.int .i64 c, .int .i64 d]) = true := by
  have t26 : ∃ fs s b' z, tab.get 26 = some ⟨.struct fs, s, b', true, z⟩ := ⟨_, _, _, _, rfl⟩
  obtain ⟨fs, s, b', z, t1⟩ := t26
  simp only [eqOk, t1]
theorem quota_eql (a b c d : Int) : abin tab .eql 26 (.agg [.int .i64 a, .int .i64 b]) (.agg [.int .i64 c, .int .i64 d]) = some (.bool (decide (a = c) && decide (b = d))) := by
  simp only [abin, quota_ok, cond_true, quota_eq, Option.map_some]
theorem quota_neq (a b c d : Int) : abin tab .neq 26 (.agg [.int .i64 a, .int .i64 b]) (.agg [.int .i64 c, .int .i64 d]) = some (.bool (!(decide (a = c) && decide (b = d)))) := by
  simp only [abin, quota_ok, cond_true, quota_eq, Option.map_some]

theorem links_loop1 {h0 : AHeap} {dat old : Bs} (hd : dat.length ≤ 200) (hold : old.length ≤ 200) {al : List Int} (hal : ∀ x ∈ al, 0 ≤ x ∧ x ≤ 255) {w : AV} (hw0 : Row h0 w al.length 1 (al.map (AV.int .u8))) {n0 : Int} {k : Nat} (hk : k < 12) (hn0 : n0.tmod 12 = (k : Int)) {S : Nat → Prop} {hh : AHeap} {o : Nat} {L : Lay} {v : AV} {E1 E2 : NE}
    (a : LS h0 S hh o (linkTb E1 E2 old ((0 + 1 : Nat) : Int)) L v (namesUpTo (0 + 1))) (b : LI (namesUpTo (0 + 1)) E1 E2) {N : Nat} (hN : 13 < N) :
    ∃ h', loopN (F3_b11 EG N) N (.int .u8 n0, .str dat, w, .ptr o 0, .int .i64 2, .int .i64 3, v, .int .i64 ((0 + 1 : Nat) : Int), ()) [] hh = some (.bool true, h') := by
  refine loop_rule (σ := AV × AV × AV × AV × AV × AV × AV × AV × Unit) (R := AV × AHeap) (total := k)
    (I := fun i st h => i ≤ k ∧ ∃ S : Nat → Prop, ∃ L : Lay, ∃ v : AV, ∃ E1 E2 : NE, st = (.int .u8 n0, .str dat, w, .ptr o 0, .int .i64 2, .int .i64 3, v, .int .i64 ((i + 1 : Nat) : Int), ()) ∧ LS h0 S h o (linkTb E1 E2 old ((i + 1 : Nat) : Int)) L v (namesUpTo (i + 1)) ∧ LI (namesUpTo (i + 1)) E1 E2)
    (Q := fun r => ∃ h', r = some (.bool true, h')) ?_ N 0 _ _ ⟨by omega, S, L, v, E1, E2, rfl, a, b⟩ (by omega) (by omega)
  rintro i st h nx ⟨hi, S, L, v, E1, E2, rfl, a, b⟩
  have r1 : abin tab .rem 5 (.int .u8 n0) (.int .u8 12) = some (.int .u8 (n0.tmod 12)) := rfl
  rw [hn0] at r1
  have r2 : aconvert tab h 5 3 (.int .u8 (k : Int)) = some (.int .i64 (k : Int), h) := by
    show some (AV.int .i64 (awrap .i64 (k : Int)), h) = _
    rw [awrap_i64 (by omega) (by omega)]
  have r3 := abin_add (T := tab) (t := 3) (a := 1) (b := (k : Int)) (by omega) (by omega)
  have hnl : (namesUpTo (i + 1)).length = i + 1 := by simp [namesUpTo]
  by_cases hlt : i < k
  · left
    have hi1 : i + 1 < 12 := by omega
    have c1 : decide (((i + 1 : Nat) : Int) < 1 + (k : Int)) = true := by rw [decide_eq_true_eq]; omega
    obtain ⟨x27, x29, x30, h2, e1, e2, e3, e4, x2⟩ := name_run a.wf hi1
    have a2 := a.grow x2
    have r4 : abin tab .rem 3 (.int .i64 ((i + 1 : Nat) : Int)) (.int .i64 2) = some (.int .i64 (((i + 1) % 2 : Nat) : Int)) := rem_nat (k := i + 1) (n := 2) (by omega)
    obtain ⟨u1, F1, F2, u2, u3⟩ := link_at (dat := old) (n := ((i + 1 : Nat) : Int)) b hi1 (nm_not_in hi1)
    obtain ⟨h3, e5, t3, s3⟩ := link_run a2.tr a2.wf (dir := dirOf (i + 1)) (ino := 3) (name := nm (i + 1)) (fun _ => nm_any hi1) (fun nd hnd => by
      rw [three3 hnd]
      show (-1000000000000 : Int) < ((i + 1 : Nat) : Int) ∧ ((i + 1 : Nat) : Int) < 1000000000000
      omega)
    rw [u1] at e5
    rw [u2] at t3
    have a3 := a2.step t3 s3
    obtain ⟨y, h4, v', h5, e6, e7, a5⟩ := a3.push (nm (i + 1)) (by rw [hnl]; omega)
    have inc := abin_inc (T := tab) (t := 3) (i := i + 1) (by omega)
    have hnn : namesUpTo (i + 1) ++ [nm (i + 1)] = namesUpTo (i + 1 + 1) := by
      simp [namesUpTo, List.range_succ]
    rw [hnn] at a5 u3
    have hcast : ((i + 1 : Nat) : Int) + 1 = ((i + 1 + 1 : Nat) : Int) := by omega
    rw [hcast] at a5
    refine ⟨hlt, (.int .u8 n0, .str dat, w, .ptr o 0, .int .i64 2, .int .i64 3, v', .int .i64 ((i + 1 + 1 : Nat) : Int), ()), h5, ?_, by omega, S, L, v', F1, F2, rfl, ?_, u3⟩
    · by_cases hp : (i + 1) % 2 = 1
      · have d1 : dirOf (i + 1) = 2 := by simp [dirOf, hp]
        have d2 : decide ((((i + 1) % 2 : Nat) : Int) = 1) = true := by rw [hp]; rfl
        rw [d1] at e5
        simp only [F3_b11, r1, valK_s, r2, bothK_s, r3, abin_lss, c1, boolK_t, e1, e2, e3, e4, r4, abin_eql, d2, e5, abin_neq, decide_true, Bool.not_true, boolK_f, e6, e7, inc]
      · have d1 : dirOf (i + 1) = 1 := by simp [dirOf, hp]
        have d2 : decide ((((i + 1) % 2 : Nat) : Int) = 1) = false := by rw [decide_eq_false_iff_not]; omega
        rw [d1] at e5
        simp only [F3_b11, r1, valK_s, r2, bothK_s, r3, abin_lss, c1, boolK_t, e1, e2, e3, e4, r4, abin_eql, d2, e5, abin_neq, decide_true, Bool.not_true, boolK_f, e6, e7, inc]
    · exact a5
  · right
    have hik : i = k := by omega
    subst hik
    have c1 : decide (((i + 1 : Nat) : Int) < 1 + (i : Int)) = false := by rw [decide_eq_false_iff_not]; omega
    obtain ⟨u1, u2⟩ := write_at (E1 := E1) (E2 := E2) (dat := old) (n := ((i + 1 : Nat) : Int)) (dat' := dat) (by omega) (by omega)
    obtain ⟨h2, e2, t2, s2⟩ := write_run a.tr a.wf (small_link (by omega)) (ino := 3) (data := dat) (by omega) (fun nd hnd => by rw [three3 hnd]; show old.length < _; omega)
    rw [u1] at e2
    rw [u2] at t2
    have a2 := a.step t2 s2
    obtain ⟨h3, e3, x3⟩ := used_run a2.tr a2.wf
    have a3 := a2.grow x3
    have b3 : abuild tab 26 [(0, .int .i64 3), (1, .int .i64 (dat.length : Int))] = some (.agg [.int .i64 3, .int .i64 (dat.length : Int)]) := rfl
    have q3 : abin tab .neq 26 (.agg [.int .i64 (linkTb E1 E2 dat ((i + 1 : Nat) : Int)).ui, .int .i64 (linkTb E1 E2 dat ((i + 1 : Nat) : Int)).ub]) (.agg [.int .i64 3, .int .i64 (dat.length : Int)]) = some (.bool false) := by
      rw [quota_neq]
      show some (AV.bool (!(decide ((3 : Int) = 3) && decide ((dat.length : Int) = dat.length)))) = _
      simp
    have a3' : LS h0 S h3 o (linkTb E1 E2 dat ((namesUpTo (i + 1)).length : Nat)) L v (namesUpTo (i + 1)) := by rw [hnl]; exact a3
    obtain ⟨h', e'⟩ := links_loop2 hd hal hw0 a3' b (fun h => by have := congrArg List.length h; rw [hnl] at this; simp at this) (by rw [hnl]; omega) (N := N) (M := N) hN
    refine ⟨h', ?_⟩
    simp only [F3_b11, r1, valK_s, r2, bothK_s, r3, abin_lss, c1, boolK_f, jn_a, e2, abin_neq, decide_true, Bool.not_true, e3, alen9, b3, q3]
    exact e'

theorem start_links : newT 10 300 = some ⟨10, 300, 1, 0, 1, upd (fun _ => none) 1 (some ⟨2, 493, [], 1, 1, []⟩)⟩ := rfl

def linkT0 : Tb := ⟨10, 300, 1, 0, 1, upd (fun _ => none) 1 (some ⟨2, 493, [], 1, 1, []⟩)⟩
def linkT1 : Tb := ⟨10, 300, 2, 0, 2, fun k => if k = 1 then some ⟨2, 493, [], 1, 1, [([100], 2)]⟩ else if k = 2 then some ⟨2, 493, [], 1, 1, []⟩ else none⟩

theorem links_make1 : makeE linkT0 1 [100] 2 493 [] = 0 ∧ makeT linkT0 1 [100] 2 493 [] = linkT1 := by
  have hE : makeE linkT0 1 [100] 2 493 [] = 0 := by decide
  refine ⟨hE, ?_⟩
  rw [makeT, if_pos hE]
  have : addE (upd linkT0.nodes (linkT0.last + 1) (some (freshNd 1 2 493 []))) 1 [100] (linkT0.last + 1) = linkT1.nodes := by
    funext k
    by_cases h1 : k = 1
    · subst h1; rfl
    · by_cases h2 : k = 2
      · subst h2; rfl
      · show upd (upd (upd (fun _ => none) 1 _) 2 _) 1 _ k = _
        rw [upd_ne _ _ h1, upd_ne _ _ h2, upd_ne _ _ h1]
        simp [linkT1, h1, h2]
  simp only [madeT, this]
  rfl

theorem links_make2 : makeE linkT1 1 [97] 1 420 [111, 108, 100] = 0 ∧ makeT linkT1 1 [97] 1 420 [111, 108, 100] = linkTb [([100], 2), ([97], 3)] [] [111, 108, 100] 1 := by
  have hE : makeE linkT1 1 [97] 1 420 [111, 108, 100] = 0 := by decide
  refine ⟨hE, ?_⟩
  rw [makeT, if_pos hE]
  have : addE (upd linkT1.nodes (linkT1.last + 1) (some (freshNd 1 1 420 [111, 108, 100]))) 1 [97] (linkT1.last + 1) = three [([100], 2), ([97], 3)] [] [111, 108, 100] 1 := by
    funext k
    by_cases h1 : k = 1
    · subst h1; rfl
    · by_cases h3 : k = 3
      · subst h3; rfl
      · show upd (upd linkT1.nodes 3 _) 1 _ k = _
        rw [upd_ne _ _ h1, upd_ne _ _ h3]
        by_cases h2 : k = 2
        · subst h2; rfl
        · simp [linkT1, three, h1, h2, h3]
  simp only [madeT, this]
  rfl

theorem links_li : LI (namesUpTo (0 + 1)) [([100], 2), ([97], 3)] [] where
  get i hi := by
    have : ∀ i : Fin 12, getN (nm i.val) (entsOf [([100], 2), ([97], 3)] [] i.val) = if nm i.val ∈ namesUpTo (0 + 1) then some 3 else none := by decide
    exact this ⟨i, hi⟩
  nodup := by decide
  known s hs := ⟨0, by omega, by simpa [namesUpTo] using hs⟩

theorem take_str {s : Bs} {h : AHeap} : ∃ m, amin (.int .i64 (s.length : Int)) (.int .i64 200) = some (.int .i64 (m : Nat)) ∧ aslice tab 9 (.str s) none (some (.int .i64 (m : Nat))) = some (.str (s.take 200)) := by
  refine ⟨min s.length 200, ?_, ?_⟩
  · have : amin (.int .i64 (s.length : Int)) (.int .i64 200) = some (.int .i64 (bif decide ((200 : Int) < (s.length : Int)) then 200 else (s.length : Int))) := rfl
    rw [this]
    by_cases h : 200 < s.length
    · have h1 : decide ((200 : Int) < (s.length : Int)) = true := by rw [decide_eq_true_eq]; omega
      rw [h1]; congr 2; simp only [cond_true]; omega
    · have h1 : decide ((200 : Int) < (s.length : Int)) = false := by rw [decide_eq_false_iff_not]; omega
      rw [h1]; congr 2; simp only [cond_false]; omega
  · have e1 : upTo (some (.int .i64 ((min s.length 200 : Nat) : Int))) s.length s.length = some (min s.length 200) := by
      show (bif Nat.ble (min s.length 200) s.length then some (min s.length 200) else none) = _
      rw [Nat.ble_eq_true_of_le (Nat.min_le_left _ _)]; rfl
    simp only [aslice, ty9, e1]
    show some (AV.str ((s.take (min s.length 200)).drop 0)) = _
    rw [List.drop_zero, Nat.min_comm, ← List.take_eq_take_min]

theorem small_t0 : Small linkT0 := ⟨by decide, by decide, by decide, by decide⟩
theorem small_t1 : Small linkT1 := ⟨by decide, by decide, by decide, by decide⟩
theorem fresh_t0 : Fresh linkT0 := fun k hk => by
  have : (1 : Int) < k := hk
  simp only [linkT0]
  rw [upd_ne _ _ (by omega)]
theorem fresh_t1 : Fresh linkT1 := fun k hk => by
  have : (2 : Int) < k := hk
  simp only [linkT1]
  rw [if_neg (by omega), if_neg (by omega)]

theorem inodeLinks_walk {h : AHeap} (hw : h.WF) {n0 : Int} (hn0 : 0 ≤ n0 ∧ n0 ≤ 255) (s : Bs) {al : List Int} (hal : ∀ x ∈ al, 0 ≤ x ∧ x ≤ 255) {w : AV} (hw0 : Row h w al.length 1 (al.map (AV.int .u8))) {N : Nat} (hN : 13 < N) :
    ∃ h', F3 EG N (.int .u8 n0) (.str s) w h = some (.bool true, h') := by
  have b0 : abuild tab 26 [(0, .int .i64 10), (1, .int .i64 300)] = some (.agg [.int .i64 10, .int .i64 300]) := rfl
  obtain ⟨h1, x1, hnew⟩ := new_run hw 10 300
  rw [start_links] at hnew
  obtain ⟨S, o, L, e1, t1, far⟩ := hnew
  replace t1 : TR S h1 o linkT0 L := t1
  obtain ⟨m, m1, m2⟩ := take_str (s := s) (h := h)
  have A0 : LS h S h1 o linkT0 L .nilslice [] := ⟨t1, far, x1, ⟨rfl, .inl ⟨rfl, rfl⟩⟩, fun j n e _ h => by cases h⟩
  obtain ⟨S1, L1, h2, e2, t2, s2⟩ := make_run t1 x1.wf small_t0 fresh_t0 (dir := 1) (kind := 2) (mode := 493) (name := [100]) (data := []) (by decide) (fun _ => nm_any (i := 3) (by omega)) (by decide)
  rw [links_make1.1] at e2
  rw [links_make1.2] at t2
  have A1 := A0.step t2 s2
  obtain ⟨S2, L2, h3, e3, t3, s3⟩ := make_run t2 A1.wf small_t1 fresh_t1 (dir := 1) (kind := 1) (mode := 420) (name := [97]) (data := [111, 108, 100]) (by decide) (fun _ => nm_any (i := 0) (by omega)) (by decide)
  rw [links_make2.1] at e3
  rw [links_make2.2] at t3
  have A2 := A1.step t3 s3
  -- the names
  obtain ⟨k, hk, hkn⟩ : ∃ k : Nat, k < 12 ∧ n0.tmod 12 = (k : Int) := by
    obtain ⟨q, rfl⟩ : ∃ q : Nat, n0 = q := ⟨n0.toNat, by omega⟩
    exact ⟨q % 12, Nat.mod_lt _ (by omega), (Int.ofNat_tmod q 12).symm⟩
  have b19 : abuildSlice tab h3 30 1 [(0, .str [97])] = some (.slice h3.next 0 1 1, h3.add (.cells [.str [97]] true)) := rfl
  have x19 : Ext h3 (h3.add (.cells [.str [97]] true)) := (Ext.refl A2.wf).add _
  have f19 : h3.get h3.next = none := A2.wf.new
  have A3 : LS h S2 (h3.add (.cells [.str [97]] true)) o (linkTb [([100], 2), ([97], 3)] [] [111, 108, 100] ((0 + 1 : Nat) : Int)) L2 (.slice h3.next 0 1 1) (namesUpTo (0 + 1)) :=
    ⟨t3.ext x19, A2.far, A2.ext.trans x19, ⟨rfl, .inr ⟨_, rfl, AHeap.get_add_self _ _, A2.ext.new⟩⟩, fun j n e hj he => by
      simp only [AV.slice.injEq] at he
      exact t3.there j hj (he.1 ▸ f19)⟩
  obtain ⟨h', e'⟩ := links_loop1 (dat := s.take 200) (by simp; omega) (by decide) hal hw0 hk hkn A3 links_li hN
  refine ⟨h', ?_⟩
  unfold F3
  simp only [b0, valK_s, e1, bothK_s, eq23, boolK_f, alen9, m1, m2, e2, extractA_0, extractA_1, e3, jn_a, abin_neq, if_true, decide_true, Bool.not_true, b19]
  exact e'

end Go.Am
