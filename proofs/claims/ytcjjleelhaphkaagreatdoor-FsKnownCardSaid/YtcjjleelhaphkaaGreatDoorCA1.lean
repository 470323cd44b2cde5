/-
  strings.IndexRune at a rune that is not of ASCII, in a text of ASCII: it is not there.
-/
import Derived.Shelf.Strings.IndexAnyAll
import Derived.Laws.RangeAny
import Derived.Lib.RuneCount
import Derived.Laws.Runes
import Derived.WalkMore
import Derived.Laws.Strings3
import Derived.Shelf.RegionOpenPlain
import Derived.Deep.LoopGhost
import Derived.Shelf.Small.Utf8
namespace Go.Proofs
open Go.Shelf Go.RowKit Go.Lib

theorem decode_skip (s : ByteArray) (pos : Nat) (h : pos < s.size) (ha : 128 ≤ (s[pos]'h).toNat) : ∀ j, j < (Utf8.decode s pos).2 → pos + j < s.size ∧ 128 ≤ (s.get! (pos + j)).toNat := by
  have hn : ¬ (s[pos]'h).toNat < 128 := by omega
  have h0 : pos + 0 < s.size ∧ 128 ≤ (s.get! (pos + 0)).toNat := ⟨h, by rw [get_at s pos h]; exact ha⟩
  have step : ∀ k, (decide (pos + k < s.size) && (s.get! (pos + k)).toNat / 64 == 2) = true → pos + k < s.size ∧ 128 ≤ (s.get! (pos + k)).toNat := fun k hk => by
    simp only [Bool.and_eq_true, decide_eq_true_eq, beq_iff_eq] at hk
    omega
  intro j
  simp only [Utf8.decode, get_at s pos h, hn, if_false]
  split
  · rename_i hc
    simp only [Bool.and_eq_true] at hc
    split
    · intro hj
      match j, hj with
      | 0, _ => exact h0
      | 1, _ => exact step 1 (by simpa using hc.2)
    · intro hj
      match j, hj with
      | 0, _ => exact h0
  · split
    · rename_i hc
      simp only [Bool.and_eq_true] at hc
      split
      · intro hj
        match j, hj with
        | 0, _ => exact h0
        | 1, _ => exact step 1 (by simpa using hc.1.2)
        | 2, _ => exact step 2 (by simpa using hc.2)
      · intro hj
        match j, hj with
        | 0, _ => exact h0
    · split
      · rename_i hc
        simp only [Bool.and_eq_true] at hc
        split
        · intro hj
          match j, hj with
          | 0, _ => exact h0
          | 1, _ => exact step 1 (by simpa using hc.1.1.2)
          | 2, _ => exact step 2 (by simpa using hc.1.2)
          | 3, _ => exact step 3 (by simpa using hc.2)
        · intro hj
          match j, hj with
          | 0, _ => exact h0
      · intro hj
        match j, hj with
        | 0, _ => exact h0

variable {P : Program} {ρ : Ren}

set_option maxHeartbeats 4000000 in
set_option maxRecDepth 1000000 in
theorem Any.strings_IndexRune_error (L : Lays.n152 P ρ) (s : ByteArray) (w : World) (hascii : ∀ (j : Nat) b, s.data.toList[j]? = some b → b.toNat < 128) :
    Calls P (ρ.f 152) #[.string s, .int .i32 65533] w fun e w' => e = .returned (.int .i64 (-1)) ∧ ∃ pos, w' = w.iter s pos := by
  have HA : Aside (∀ (j : Nat) b, s.data.toList[j]? = some b → b.toNat < 128) := hascii
  clear hascii
  have t3 := L.t3; have a3 := L.a3; have z3 := L.z3; have v3 := L.v3
  have t4 := L.t4; have a4 := L.a4; have z4 := L.z4; have v4 := L.v4
  have t5 := L.t5; have a5 := L.a5; have z5 := L.z5; have v5 := L.v5
  have t9 := L.t9; have a9 := L.a9; have z9 := L.z9; have v9 := L.v9
  have t21 := L.t21; have a21 := L.a21; have z21 := L.z21; have v21 := L.v21
  go_enter L.f152, Body.n152_ntmps ρ
  go_wp2
  go_loopg [5, 6] s.size (fun g _ _ wx => ∃ i : Nat, i + g = s.size ∧ wx = w.iter s i)
  case atStart => exact ⟨0, by omega, rfl⟩
  case round =>
    obtain ⟨i, hig, rfl⟩ := hrel
    cases gk with
    | zero =>
      obtain rfl : i = s.size := by omega
      have hnx := run_next_end (P := P) w s s.size
      go_wp2
      go_ret
      exact ⟨rfl, _, rfl⟩
    | succ g =>
      have hi : i < s.size := by omega
      obtain ⟨x, hx⟩ : ∃ x : UInt8, s[i]'hi = x := ⟨_, rfl⟩
      have hxl : s.data.toList[i]? = some x := by rw [← hx]; exact Lib.data_getElem? s i hi
      have hx128 : x.toNat < 128 := HA.out i x hxl
      have hnx := fun ty => run_next_ascii (P := P) w s i ty hi (by rw [hx]; exact hx128)
      rw [hx] at hnx
      clear hxl hx
      go_wp2
      go_roundg g
      case measure => omega
      case rel => exact ⟨i + 1, by omega, rfl⟩

set_option maxHeartbeats 8000000 in
set_option maxRecDepth 1000000 in
theorem Any.strings_IndexRune_high (L : Lays.n152 P ρ) (s : ByteArray) (r : Int) (w : World) (hr : 128 ≤ r) (hr2 : r ≤ 2147483647) (he : r ≠ 65533) (hascii : ∀ (j : Nat) b, s.data.toList[j]? = some b → b.toNat < 128) :
    Calls P (ρ.f 152) #[.string s, .int .i32 r] w fun e w' => e = .returned (.int .i64 (-1)) ∧ ∃ n, w' = w.drewN n := by
  have HA : Aside (∀ (j : Nat) b, s.data.toList[j]? = some b → b.toNat < 128) := hascii
  clear hascii
  have t3 := L.t3; have a3 := L.a3; have z3 := L.z3; have v3 := L.v3
  have t4 := L.t4; have a4 := L.a4; have z4 := L.z4; have v4 := L.v4
  have t5 := L.t5; have a5 := L.a5; have z5 := L.z5; have v5 := L.v5
  have t9 := L.t9; have a9 := L.a9; have z9 := L.z9; have v9 := L.v9
  have t21 := L.t21; have a21 := L.a21; have z21 := L.z21; have v21 := L.v21
  have e119 : ∀ args w, (callFunc (ρ.f 119) args).run P w = .ok (.enter (ρ.f 119) args) w := enters_of L.f119 (by kernel_rfl) rfl
  have e137 : ∀ args w, (callFunc (ρ.f 137) args).run P w = .ok (.enter (ρ.f 137) args) w := enters_of L.f137 (by kernel_rfl) rfl
  have hlt : ¬ r < 128 := by omega
  have hne : (r == 65533) = false := beq_eq_false_iff_ne.2 he
  have cv : ∀ w, (convert (ρ.t 21) (ρ.t 9) (.int .i32 r)).run P w = .ok (.string (Utf8.encode r)) w := fun w => run_convert_int_string w _ _ _ r (by rw [t21]; rfl) t9
  cases hvr : Go.validRune r with
  | false =>
    go_enter L.f152, Body.n152_ntmps ρ
    go_wp2_with (go_at_fn (ρ.f 119); refine (Any.utf8_ValidRune { L with } _ _).mono ?_; rintro e w' ⟨rfl, hw⟩; rw [hw]; rw [show Lib.validRune r = false from hvr])
    go_ret
    exact ⟨rfl, 0, rfl⟩
  | true =>
    obtain ⟨f1, f2, f3⟩ := encode_facts r (by rw [validRune_eq]; exact hvr) hr
    generalize Utf8.encode r = rs at cv f1 f2 f3
    have hlen : rs.size - 1 < rs.size := by omega
    replace f3 := f3 hlen
    have hcast : (rs.size : Int) - 1 = ((rs.size - 1 : Nat) : Int) := by omega
    obtain ⟨x, hx⟩ : ∃ x : UInt8, rs[rs.size - 1]'hlen = x := ⟨_, rfl⟩
    rw [hx] at f3
    have Hx : Aside (rs[rs.size - 1]'hlen = x) := hx
    clear hx
    go_enter L.f152, Body.n152_ntmps ρ
    go_wp2_with (go_at_fn (ρ.f 119); refine (Any.utf8_ValidRune { L with } _ _).mono ?_; rintro e w' ⟨rfl, hw⟩; rw [hw]; rw [show Lib.validRune r = true from hvr])
    go_step3
    go_wp2
    go_loopg [9] 1 (fun g v wx => g = 1 ∧ v = .int .i64 ((rs.size - 1 : Nat) : Int) ∧ wx = w)
    case atStart => exact ⟨rfl, by go_num, rfl⟩
    case round =>
      obtain ⟨hg, rfl, rfl⟩ := hrel
      by_cases hi : rs.size - 1 < s.size
      · have hiz : ((rs.size - 1 : Nat) : Int) < (s.size : Int) := by omega
        obtain ⟨y, hy⟩ : ∃ y : UInt8, s[rs.size - 1]'hi = y := ⟨_, rfl⟩
        have hyl : s.data.toList[rs.size - 1]? = some y := by rw [← hy]; exact Lib.data_getElem? s _ hi
        have hy128 : y.toNat < 128 := HA.out _ y hyl
        have hx := Hx.out
        have hyx : (y.toNat : Int) ≠ (x.toNat : Int) := by omega
        have hsub : ∀ b ∈ (s.extract (rs.size - 1 + 1) s.size).data.toList, b ≠ x := fun b hb e => by
          have h1 := mem_extract hb
          obtain ⟨q, hq, e2⟩ := List.getElem_of_mem h1
          have h2 := HA.out q b (by rw [← e2]; exact List.getElem?_eq_getElem hq)
          rw [e] at h2
          omega
        have hno : Lib.indexByte (s.extract (rs.size - 1 + 1) s.size).data.toList x < 0 := by
          have h1 := Lib.contains_iff_indexByte (s.extract (rs.size - 1 + 1) s.size).data.toList x
          have h2 : (s.extract (rs.size - 1 + 1) s.size).data.toList.contains x = false := by
            rw [List.contains_eq_mem, decide_eq_false_iff_not]
            exact fun hm => hsub x hm rfl
          rw [h2] at h1
          have := of_decide_eq_false h1.symm
          omega
        have hno2 : indexByte (List.take (s.size - (rs.size - 1 + 1)) (List.drop (rs.size - 1 + 1) s.data.toList)) x < 0 := by simpa using hno
        have hback : ((x.toNat : Int)).toNat.toUInt8 = x := by simp
        have hsl : ∀ w, (Instr.slice (ρ.t 9) (.string s) (some (.int .i64 (((rs.size - 1 : Nat) : Int) + 1))) none none).run P w = .ok (.string (s.extract (rs.size - 1 + 1) s.size)) w := fun w => by
          rw [run_slice_string_from_if (h := t9), if_pos (by omega)]
          rfl
        have hwr : IntKind.i64.wrap (((rs.size - 1 : Nat) : Int) + 1) = ((rs.size - 1 : Nat) : Int) + 1 := wrap_small _ (by omega) (by omega)
        have mixed := L.mixed
        go_wp2
        go_step3
        go_wp2
        go_quiet_o (fail)
        go_wp2
        generalize hwq : wr.drewN nq = wq
        go_quiet_o (first | (go_at_fn (ρ.f 137); refine Calls.quiet_of_same (Any.strings_IndexByte { L with } _ _ _)))
        go_wp2
        simp only [Exit.noGoto_ret, Exit.inBlock, Exit.then]
        go_ret
        exact ⟨rfl, _, by rw [← hwq, World.drewN_drewN]⟩
      · have hiz : ¬ ((rs.size - 1 : Nat) : Int) < (s.size : Int) := by omega
        go_wp2
        go_ret
        exact ⟨rfl, 0, rfl⟩

/-- strings.IndexRune at what 'range' over a text hands over, in a text of ASCII. -/
theorem Any.strings_IndexRune_beyond (L : Lays.n152 P ρ) (s : ByteArray) (r : Int) (w : World) (hr : 128 ≤ r) (hr2 : r ≤ 2147483647) (hascii : ∀ (j : Nat) b, s.data.toList[j]? = some b → b.toNat < 128) :
    Calls P (ρ.f 152) #[.string s, .int .i32 r] w fun e w' => e = .returned (.int .i64 (-1)) ∧ Below w.heap.size w w' := by
  by_cases he : r = 65533
  · subst he
    refine (Any.strings_IndexRune_error L s w hascii).mono fun e w' ⟨h1, pos, h2⟩ => ⟨h1, ?_⟩
    rw [h2]
    exact (Below.refl _ _).alloc (Nat.le_refl _) _
  · refine (Any.strings_IndexRune_high L s r w hr hr2 he hascii).mono fun e w' ⟨h1, n, h2⟩ => ⟨h1, ?_⟩
    rw [h2]
    exact ⟨rfl, rfl, rfl, Nat.le_refl _, fun _ _ => rfl⟩

end Go.Proofs
