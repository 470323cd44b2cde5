/-
  strings.IndexRune at a rune that is not of ASCII, in a text of ASCII: it is not there.
  strings.IndexAny and strings.ContainsAny at any bytes, of characters of ASCII.
  The seat's library functions.
  works(), told by what it answers.
  The seat's environment for the open laws: works() is told by what it answers; calls come to the plain functions. Printed by wip/tools/runs.py.
  A table of inodes in an abstract heap: what lies where, and what each change comes to.
  inode: what is asked of a table.
  inode: the closures that ask.
  inode: New, Make.
  inode: Make.
  inode: Link, Write, Chmod.
  inode: Unlink.
  inode: Move.
-/
import Derived.Shelf.Strings.IndexAnyAll
import Derived.Laws.RangeAny
import Derived.Lib.RuneCount
import Derived.Laws.Runes
import Derived.WalkMore
import Derived.Laws.Strings3
import Derived.Shelf.RegionOpenPlain
import Derived.Deep.LoopGhost
import Derived.Shelf.Small.Utf8
import Derived.Lib.OthersKept
import Derived.Shelf.SlIter.Nil
import Derived.Shelf.SortM.Plain
import Derived.Shelf.SortM.SortNone
import Derived.Ground.GgzProg
import Derived.Ground.SlgmProg
import Derived.Test.YtaolgkpabgmnkaaMG

namespace Go.Proofs
open Go.Shelf Go.RowKit Go.Lib

theorem decode_skip (s : ByteArray) (pos : Nat) (h : pos < s.size) (ha : 128 ≤ (s[pos]'h).toNat) : ∀ j, j < (Utf8.decode s pos).2 → pos + j < s.size ∧ 128 ≤ (s.get! (pos + j)).toNat := by
  have hn : ¬ (s[pos]'h).toNat < 128 := by omega
  have h0 : pos + 0 < s.size ∧ 128 ≤ (s.get! (pos + 0)).toNat := ⟨h, by rw [get_at s pos h]; exact ha⟩
  have step : ∀ k, (decide (pos + k < s.size) && (s.get! (pos + k)).toNat / 64 == 2) = true → pos + k < s.size ∧ 128 ≤ (s.get! (pos + k)).toNat := fun k hk => by
    simp only [Bool.and_eq_true, decide_eq_true_eq, beq_iff_eq] at hk
    omega
  intro j
  simp only [Utf8.decode, get_at s pos h, hn, if_false]
  split
  · rename_i hc
    simp only [Bool.and_eq_true] at hc
    split
    · intro hj
      match j, hj with
      | 0, _ => exact h0
      | 1, _ => exact step 1 (by simpa using hc.2)
    · intro hj
      match j, hj with
      | 0, _ => exact h0
  · split
    · rename_i hc
      simp only [Bool.and_eq_true] at hc
      split
      · intro hj
        match j, hj with
        | 0, _ => exact h0
        | 1, _ => exact step 1 (by simpa using hc.1.2)
        | 2, _ => exact step 2 (by simpa using hc.2)
      · intro hj
        match j, hj with
        | 0, _ => exact h0
    · split
      · rename_i hc
        simp only [Bool.and_eq_true] at hc
        split
        · intro hj
          match j, hj with
          | 0, _ => exact h0
          | 1, _ => exact step 1 (by simpa using hc.1.1.2)
          | 2, _ => exact step 2 (by simpa using hc.1.2)
          | 3, _ => exact step 3 (by simpa using hc.2)
        · intro hj
          match j, hj with
          | 0, _ => exact h0
      · intro hj
        match j, hj with
        | 0, _ => exact h0

variable {P : Program} {ρ : Ren}

set_option maxHeartbeats 4000000 in
set_option maxRecDepth 1000000 in
theorem Any.strings_IndexRune_error (L : Lays.n152 P ρ) (s : ByteArray) (w : World) (hascii : ∀ (j : Nat) b, s.data.toList[j]? = some b → b.toNat < 128) :
    Calls P (ρ.f 152) #[.string s, .int .i32 65533] w fun e w' => e = .returned (.int .i64 (-1)) ∧ ∃ pos, w' = w.iter s pos := by
  have HA : Aside (∀ (j : Nat) b, s.data.toList[j]? = some b → b.toNat < 128) := hascii
  clear hascii
  have t3 := L.t3; have a3 := L.a3; have z3 := L.z3; have v3 := L.v3
  have t4 := L.t4; have a4 := L.a4; have z4 := L.z4; have v4 := L.v4
  have t5 := L.t5; have a5 := L.a5; have z5 := L.z5; have v5 := L.v5
  have t9 := L.t9; have a9 := L.a9; have z9 := L.z9; have v9 := L.v9
  have t21 := L.t21; have a21 := L.a21; have z21 := L.z21; have v21 := L.v21
  go_enter L.f152, Body.n152_ntmps ρ
  go_wp2
  go_loopg [5, 6] s.size (fun g _ _ wx => ∃ i : Nat, i + g = s.size ∧ wx = w.iter s i)
  case atStart => exact ⟨0, by omega, rfl⟩
  case round =>
    obtain ⟨i, hig, rfl⟩ := hrel
    cases gk with
    | zero =>
      obtain rfl : i = s.size := by omega
      have hnx := run_next_end (P := P) w s s.size
      go_wp2
      go_ret
      exact ⟨rfl, _, rfl⟩
    | succ g =>
      have hi : i < s.size := by omega
      obtain ⟨x, hx⟩ : ∃ x : UInt8, s[i]'hi = x := ⟨_, rfl⟩
      have hxl : s.data.toList[i]? = some x := by rw [← hx]; exact Lib.data_getElem? s i hi
      have hx128 : x.toNat < 128 := HA.out i x hxl
      have hnx := fun ty => run_next_ascii (P := P) w s i ty hi (by rw [hx]; exact hx128)
      rw [hx] at hnx
      clear hxl hx
      go_wp2
      go_roundg g
      case measure => omega
      case rel => exact ⟨i + 1, by omega, rfl⟩

set_option maxHeartbeats 8000000 in
set_option maxRecDepth 1000000 in
theorem Any.strings_IndexRune_high (L : Lays.n152 P ρ) (s : ByteArray) (r : Int) (w : World) (hr : 128 ≤ r) (hr2 : r ≤ 2147483647) (he : r ≠ 65533) (hascii : ∀ (j : Nat) b, s.data.toList[j]? = some b → b.toNat < 128) :
    Calls P (ρ.f 152) #[.string s, .int .i32 r] w fun e w' => e = .returned (.int .i64 (-1)) ∧ ∃ n, w' = w.drewN n := by
  have HA : Aside (∀ (j : Nat) b, s.data.toList[j]? = some b → b.toNat < 128) := hascii
  clear hascii
  have t3 := L.t3; have a3 := L.a3; have z3 := L.z3; have v3 := L.v3
  have t4 := L.t4; have a4 := L.a4; have z4 := L.z4; have v4 := L.v4
  have t5 := L.t5; have a5 := L.a5; have z5 := L.z5; have v5 := L.v5
  have t9 := L.t9; have a9 := L.a9; have z9 := L.z9; have v9 := L.v9
  have t21 := L.t21; have a21 := L.a21; have z21 := L.z21; have v21 := L.v21
  have e119 : ∀ args w, (callFunc (ρ.f 119) args).run P w = .ok (.enter (ρ.f 119) args) w := enters_of L.f119 (by kernel_rfl) rfl
  have e137 : ∀ args w, (callFunc (ρ.f 137) args).run P w = .ok (.enter (ρ.f 137) args) w := enters_of L.f137 (by kernel_rfl) rfl
  have hlt : ¬ r < 128 := by omega
  have hne : (r == 65533) = false := beq_eq_false_iff_ne.2 he
  have cv : ∀ w, (convert (ρ.t 21) (ρ.t 9) (.int .i32 r)).run P w = .ok (.string (Utf8.encode r)) w := fun w => run_convert_int_string w _ _ _ r (by rw [t21]; rfl) t9
  cases hvr : Go.validRune r with
  | false =>
    go_enter L.f152, Body.n152_ntmps ρ
    go_wp2_with (go_at_fn (ρ.f 119); refine (Any.utf8_ValidRune { L with } _ _).mono ?_; rintro e w' ⟨rfl, hw⟩; rw [hw]; rw [show Lib.validRune r = false from hvr])
    go_ret
    exact ⟨rfl, 0, rfl⟩
  | true =>
    obtain ⟨f1, f2, f3⟩ := encode_facts r (by rw [validRune_eq]; exact hvr) hr
    generalize Utf8.encode r = rs at cv f1 f2 f3
    have hlen : rs.size - 1 < rs.size := by omega
    replace f3 := f3 hlen
    have hcast : (rs.size : Int) - 1 = ((rs.size - 1 : Nat) : Int) := by omega
    obtain ⟨x, hx⟩ : ∃ x : UInt8, rs[rs.size - 1]'hlen = x := ⟨_, rfl⟩
    rw [hx] at f3
    have Hx : Aside (rs[rs.size - 1]'hlen = x) := hx
    clear hx
    go_enter L.f152, Body.n152_ntmps ρ
    go_wp2_with (go_at_fn (ρ.f 119); refine (Any.utf8_ValidRune { L with } _ _).mono ?_; rintro e w' ⟨rfl, hw⟩; rw [hw]; rw [show Lib.validRune r = true from hvr])
    go_step3
    go_wp2
    go_loopg [9] 1 (fun g v wx => g = 1 ∧ v = .int .i64 ((rs.size - 1 : Nat) : Int) ∧ wx = w)
    case atStart => exact ⟨rfl, by go_num, rfl⟩
    case round =>
      obtain ⟨hg, rfl, rfl⟩ := hrel
      by_cases hi : rs.size - 1 < s.size
      · have hiz : ((rs.size - 1 : Nat) : Int) < (s.size : Int) := by omega
        obtain ⟨y, hy⟩ : ∃ y : UInt8, s[rs.size - 1]'hi = y := ⟨_, rfl⟩
        have hyl : s.data.toList[rs.size - 1]? = some y := by rw [← hy]; exact Lib.data_getElem? s _ hi
        have hy128 : y.toNat < 128 := HA.out _ y hyl
        have hx := Hx.out
        have hyx : (y.toNat : Int) ≠ (x.toNat : Int) := by omega
        have hsub : ∀ b ∈ (s.extract (rs.size - 1 + 1) s.size).data.toList, b ≠ x := fun b hb e => by
          have h1 := mem_extract hb
          obtain ⟨q, hq, e2⟩ := List.getElem_of_mem h1
          have h2 := HA.out q b (by rw [← e2]; exact List.getElem?_eq_getElem hq)
          rw [e] at h2
          omega
        have hno : Lib.indexByte (s.extract (rs.size - 1 + 1) s.size).data.toList x < 0 := by
          have h1 := Lib.contains_iff_indexByte (s.extract (rs.size - 1 + 1) s.size).data.toList x
          have h2 : (s.extract (rs.size - 1 + 1) s.size).data.toList.contains x = false := by
            rw [List.contains_eq_mem, decide_eq_false_iff_not]
            exact fun hm => hsub x hm rfl
          rw [h2] at h1
          have := of_decide_eq_false h1.symm
          omega
        have hno2 : indexByte (List.take (s.size - (rs.size - 1 + 1)) (List.drop (rs.size - 1 + 1) s.data.toList)) x < 0 := by simpa using hno
        have hback : ((x.toNat : Int)).toNat.toUInt8 = x := by simp
        have hsl : ∀ w, (Instr.slice (ρ.t 9) (.string s) (some (.int .i64 (((rs.size - 1 : Nat) : Int) + 1))) none none).run P w = .ok (.string (s.extract (rs.size - 1 + 1) s.size)) w := fun w => by
          rw [run_slice_string_from_if (h := t9), if_pos (by omega)]
          rfl
        have hwr : IntKind.i64.wrap (((rs.size - 1 : Nat) : Int) + 1) = ((rs.size - 1 : Nat) : Int) + 1 := wrap_small _ (by omega) (by omega)
        have mixed := L.mixed
        go_wp2
        go_step3
        go_wp2
        go_quiet_o (fail)
        go_wp2
        generalize hwq : wr.drewN nq = wq
        go_quiet_o (first | (go_at_fn (ρ.f 137); refine Calls.quiet_of_same (Any.strings_IndexByte { L with } _ _ _)))
        go_wp2
        simp only [Exit.noGoto_ret, Exit.inBlock, Exit.then]
        go_ret
        exact ⟨rfl, _, by rw [← hwq, World.drewN_drewN]⟩
      · have hiz : ¬ ((rs.size - 1 : Nat) : Int) < (s.size : Int) := by omega
        go_wp2
        go_ret
        exact ⟨rfl, 0, rfl⟩

/-- strings.IndexRune at what 'range' over a text hands over, in a text of ASCII. -/
theorem Any.strings_IndexRune_beyond (L : Lays.n152 P ρ) (s : ByteArray) (r : Int) (w : World) (hr : 128 ≤ r) (hr2 : r ≤ 2147483647) (hascii : ∀ (j : Nat) b, s.data.toList[j]? = some b → b.toNat < 128) :
    Calls P (ρ.f 152) #[.string s, .int .i32 r] w fun e w' => e = .returned (.int .i64 (-1)) ∧ Below w.heap.size w w' := by
  by_cases he : r = 65533
  · subst he
    refine (Any.strings_IndexRune_error L s w hascii).mono fun e w' ⟨h1, pos, h2⟩ => ⟨h1, ?_⟩
    rw [h2]
    exact (Below.refl _ _).alloc (Nat.le_refl _) _
  · refine (Any.strings_IndexRune_high L s r w hr hr2 he hascii).mono fun e w' ⟨h1, n, h2⟩ => ⟨h1, ?_⟩
    rw [h2]
    exact ⟨rfl, rfl, rfl, Nat.le_refl _, fun _ _ => rfl⟩

end Go.Proofs

namespace Go.Proofs
open Go.Shelf Go.RowKit Go.Lib
variable {P : Program} {ρ : Ren}

set_option maxHeartbeats 8000000 in
set_option maxRecDepth 1000000 in
theorem Any.strings_IndexAny_short_bytes (L : Lays.n153 P ρ) (s chars : ByteArray) (w : World) (h2 : 2 ≤ chars.size) (h8 : s.size ≤ 8) (hac : ∀ (j : Nat) b, chars.data.toList[j]? = some b → b.toNat < 128) :
    Calls P (ρ.f 153) #[.string s, .string chars] w fun e w' => e = .returned (.int .i64 (Lib.indexAny s.data.toList chars.data.toList)) ∧ Below w.heap.size w w' := by
  have HA : Aside (∀ (j : Nat) b, chars.data.toList[j]? = some b → b.toNat < 128) := hac
  clear hac
  have hemp : chars.toList.isEmpty = false := by
    rw [Lib.toList_data]
    cases h : chars.data.toList with
    | nil => have := Lib.size_eq chars; rw [h, List.length_nil] at this; omega
    | cons _ _ => rfl
  have hn1 : ((chars.size : Int) == 1) = false := beq_eq_false_iff_ne.2 (by omega)
  have h8z : decide ((8 : Int) < (s.size : Int)) = false := decide_eq_false (by omega)
  have t3 := L.t3; have a3 := L.a3; have z3 := L.z3; have v3 := L.v3
  have t4 := L.t4; have a4 := L.a4; have z4 := L.z4; have v4 := L.v4
  have t5 := L.t5; have a5 := L.a5; have z5 := L.z5; have v5 := L.v5
  have t9 := L.t9; have a9 := L.a9; have z9 := L.z9; have v9 := L.v9
  have t21 := L.t21; have a21 := L.a21; have z21 := L.z21; have v21 := L.v21
  have e152 : ∀ args w, (callFunc (ρ.f 152) args).run P w = .ok (.enter (ρ.f 152) args) w := enters_of L.f152 (by kernel_rfl) rfl
  have e226 : ∀ args w, (callFunc (ρ.f 226) args).run P w = .ok (.enter (ρ.f 226) args) w := enters_of L.f226 (by kernel_rfl) rfl
  go_enter L.f153, Body.n153_ntmps ρ
  go_wp2_with (go_at_fn (ρ.f 226); refine (Any.strings_shouldUseASCIISet { L with } _ _).mono ?_; rintro e w' ⟨rfl, hw⟩; rw [hw, h8z])
  go_loopg [9, 10] s.size (fun g _ _ wx => ∃ pos : Nat, s.size ≤ pos + g ∧ wx.heap[w.heap.size]? = some (.stringIter s pos) ∧ Below w.heap.size w wx ∧ Lib.NoAny s.data.toList chars.data.toList pos)
  case atStart => exact ⟨0, by omega, World.iter_heap w s 0, (Below.refl _ w).alloc (Nat.le_refl _) _, Lib.NoAny.zero _ _⟩
  case round =>
    obtain ⟨pos, hfu, hit, hbw, hno⟩ := hrel
    have HN : Aside (Lib.NoAny s.data.toList chars.data.toList pos) := hno
    clear hno
    by_cases hps : pos < s.size
    · obtain ⟨g', rfl⟩ : ∃ g', gk = g' + 1 := ⟨gk - 1, by omega⟩
      obtain ⟨x, hx⟩ : ∃ x : UInt8, s[pos]'hps = x := ⟨_, rfl⟩
      have hxl : s.data.toList[pos]? = some x := by rw [← hx]; exact Lib.data_getElem? s pos hps
      have Hx : Aside (s.data.toList[pos]? = some x) := hxl
      by_cases ha : x.toNat < 128
      · have hnx := fun ty => Lib.run_next_ascii_at (P := P) wr w.heap.size s pos ty hit hps (by rw [hx]; exact ha)
        rw [hx] at hnx
        have hit2 := Lib.iterAt_heap wr w.heap.size s pos (pos + 1) hit
        have hbw2 := Lib.below_iterAt hbw (k := w.heap.size) (Nat.le_refl _) s (pos + 1)
        obtain ⟨W, hWd⟩ : ∃ W, wr.iterAt w.heap.size s (pos + 1) = W := ⟨_, rfl⟩
        rw [hWd] at hnx hit2 hbw2
        clear hxl hx
        have hcon := Lib.contains_iff_indexByte chars.data.toList x
        have hback : ((x.toNat : Int)).toNat.toUInt8 = x := by simp
        cases hin : chars.data.toList.contains x
        · rw [hin] at hcon
          have hlt : ¬ ((0 : Int) ≤ Lib.indexByte chars.data.toList x) := of_decide_eq_false hcon.symm
          clear hcon
          go_wp2_with (go_at_fn (ρ.f 152); refine (Any.strings_IndexRune_ascii { L with } _ _ _ (by omega) (by omega)).mono ?_; rintro e w' ⟨rfl, hw⟩; rw [hw, hback])
          go_roundg g'
          case measure => omega
          case rel => exact ⟨pos + 1, by omega, hit2, hbw2, HN.out.succ Hx.out hin⟩
        · rw [hin] at hcon
          have hge : (0 : Int) ≤ Lib.indexByte chars.data.toList x := of_decide_eq_true hcon.symm
          clear hcon
          go_wp2_with (go_at_fn (ρ.f 152); refine (Any.strings_IndexRune_ascii { L with } _ _ _ (by omega) (by omega)).mono ?_; rintro e w' ⟨rfl, hw⟩; rw [hw, hback])
          go_ret
          exact ⟨by rw [Lib.indexAny_hit HN.out Hx.out hin]; rfl, hbw2⟩
      · have h128 : 128 ≤ (s[pos]'hps).toNat := by rw [hx]; omega
        have hnx := fun ty => Lib.run_next_any_at (P := P) wr w.heap.size s pos ty hit hps
        obtain ⟨hd1, hd2⟩ := decode_high s pos hps h128
        have hd3 := decode_le s pos
        have hsk := decode_skip s pos hps h128
        obtain ⟨R, hR⟩ : ∃ R, (Utf8.decode s pos).1 = R := ⟨_, rfl⟩
        obtain ⟨K, hK⟩ : ∃ K, (Utf8.decode s pos).2 = K := ⟨_, rfl⟩
        rw [hR, hK] at hnx
        rw [hR] at hd1 hd3
        rw [hK] at hd2 hsk
        have hNo : Lib.NoAny s.data.toList chars.data.toList (pos + K) := fun j b hj hb => by
          by_cases hjp : j < pos
          · exact HN.out j b hjp hb
          · obtain ⟨q1, q2⟩ := hsk (j - pos) (by omega)
            rw [show pos + (j - pos) = j by omega] at q1 q2
            have hb2 : 128 ≤ b.toNat := by
              have := Lib.data_getElem? s j q1
              rw [hb] at this
              have e : b = s[j]'q1 := Option.some.inj this
              rw [e]
              have e2 : s.get! j = s[j]'q1 := get_at s j q1
              rw [e2] at q2
              exact q2
            cases hc : chars.data.toList.contains b with
            | false => rfl
            | true =>
              rw [List.contains_eq_mem, decide_eq_true_eq] at hc
              obtain ⟨q, hq, e⟩ := List.getElem_of_mem hc
              have := HA.out q b (by rw [← e]; exact List.getElem?_eq_getElem hq)
              omega
        have HNo : Aside (Lib.NoAny s.data.toList chars.data.toList (pos + K)) := hNo
        clear hNo hsk hxl hx h128
        have hit2 := Lib.iterAt_heap wr w.heap.size s pos (pos + K) hit
        have hbw2 := Lib.below_iterAt hbw (k := w.heap.size) (Nat.le_refl _) s (pos + K)
        obtain ⟨W, hWd⟩ : ∃ W, wr.iterAt w.heap.size s (pos + K) = W := ⟨_, rfl⟩
        rw [hWd] at hnx hit2 hbw2
        have cS := Any.strings_IndexRune_beyond { L with } chars (R : Int) W (by omega) (by omega) HA.out
        have hWs : w.heap.size < W.heap.size := (Array.getElem?_eq_some_iff.1 hit2).1
        go_wp2_with (go_at_fn (ρ.f 152); refine cS.mono ?_; rintro e W' ⟨rfl, hq⟩)
        go_roundg g'
        case measure => omega
        case rel => exact ⟨pos + K, by omega, by rw [hq.block _ hWs]; exact hit2, hbw2.trans (hq.mono (Nat.le_of_lt hWs)), HNo.out⟩
    · have hnx := fun ty => Lib.run_next_end_at (P := P) wr w.heap.size s pos ty hit hps
      go_wp2
      go_ret
      refine ⟨by rw [Lib.indexAny_none (fun j b hj hb => HN.out j b (by rw [← Lib.size_eq] at hj; omega) hb)]; rfl, hbw⟩

/-- strings.IndexAny at any bytes. -/
theorem Any.strings_IndexAny_bytes (L : Lays.n153 P ρ) (h116 : (P.info? (ρ.t 116)).map (fun i => (i.zero, i.size)) = some (some (.agg (Array.replicate 256 (.bool false))), 256)) (s chars : ByteArray) (w : World) (h2 : 2 ≤ chars.size) (hs : s.size < 4294967281) (hcs : chars.size < 4294967281)
    (hac : ∀ (j : Nat) b, chars.data.toList[j]? = some b → b.toNat < 128) :
    Calls P (ρ.f 153) #[.string s, .string chars] w fun e w' => e = .returned (.int .i64 (Lib.indexAny s.data.toList chars.data.toList)) ∧ Below w.heap.size w w' := by
  by_cases h8 : s.size ≤ 8
  · exact Any.strings_IndexAny_short_bytes L s chars w h2 h8 hac
  · refine (Any.strings_IndexAny_long L (zero_of_info h116).1 (zero_of_info h116).2 s chars w h2 (by omega) hs hcs hac).mono fun e w' ⟨h1, h3⟩ => ⟨h1, ?_⟩
    rw [h3]
    exact ((Below.refl _ _).alloc (Nat.le_refl _) _).alloc (by simp) _

set_option maxHeartbeats 1000000 in
/-- strings.ContainsAny at any bytes. -/
theorem Any.strings_ContainsAny_bytes (L : Lays.n150 P ρ) (h116 : (P.info? (ρ.t 116)).map (fun i => (i.zero, i.size)) = some (some (.agg (Array.replicate 256 (.bool false))), 256)) (s chars : ByteArray) (w : World) (h2 : 2 ≤ chars.size) (hs : s.size < 4294967281) (hcs : chars.size < 4294967281)
    (hac : ∀ (j : Nat) b, chars.data.toList[j]? = some b → b.toNat < 128) :
    Calls P (ρ.f 150) #[.string s, .string chars] w fun e w' => e = .returned (.bool (Lib.containsAny s.data.toList chars.data.toList)) ∧ Below w.heap.size w w' := by
  have c := Any.strings_IndexAny_bytes { L with } h116 s chars w h2 hs hcs hac
  have t3 := L.t3; have a3 := L.a3; have z3 := L.z3; have v3 := L.v3
  have t4 := L.t4; have a4 := L.a4; have z4 := L.z4; have v4 := L.v4
  have t9 := L.t9; have a9 := L.a9; have z9 := L.z9; have v9 := L.v9
  have e153 : ∀ args w, (callFunc (ρ.f 153) args).run P w = .ok (.enter (ρ.f 153) args) w := enters_of L.f153 (by kernel_rfl) rfl
  go_enter L.f150, Body.n150_ntmps ρ
  go_wp2_with (go_at_fn (ρ.f 153); refine c.mono ?_; rintro e w' ⟨rfl, hw⟩)
  go_ret
  exact ⟨rfl, hw⟩

end Go.Proofs

set_option linter.unusedVariables false
set_option linter.unusedSimpArgs false
namespace Go.Proofs
open Go.RowKit Go.Maps Go.Sort Go.Shelf

theorem Try.sorts38 (m : Nat) : AnyZ.SortsIn Try.prog Try.sorted38_ren Fence.wide m :=
  ⟨fun blk off cap ss W hH hblk hsz => callsIn_wide.2 (AnyM.slices_Sort_string Try.sort65 blk off cap ss W hH hblk hsz),
   fun p cap W => callsIn_wide.2 (AnyM.slices_Sort_string_none Try.sort65 p cap W)⟩
theorem Try.set59 : (Try.prog.info? (Try.any59_ren.t 116)).map (fun i => (i.zero, i.size)) = some (some (.agg (Array.replicate 256 (.bool false))), 256) := by kernel_rfl
end Go.Proofs

namespace Go.Am
open Go Go.Proofs Go.RowKit Go.Maps Go.Sort Go.Shelf

theorem keys39_ok : KeysHyp Try.prog 39 66 63 := ⟨⟨Try.f39, _, Try.func39, rfl, by decide⟩, fun mb W => AnyZ.keys_in Try.keys39 Fence.wide 5 trivial rfl mb W⟩

set_option maxHeartbeats 1000000 in
theorem sorted66_ok : SortedHyp Try.prog 38 66 9 := by
  refine ⟨Try.underlying9, fun b nn D0 R Bm W hBm hcell hown hmax hbytes => ?_, fun Bm W hBm hcell => ?_⟩
  · have hseq : SeqGives Fence.wide 2 Try.prog 66 #[.pointer (some ⟨Bm, 0, none⟩)] encStr (fun ss => ss.Perm (strKeys D0)) (Maps.size D0) W :=
      AnyZ.keys_gives (ρ := Try.keys39_ren) { Try.keys39 with } Fence.wide _ trivial rfl (by omega) Bm b nn D0 _ hBm hcell hown
    exact AnyZ.sorted_in Try.sorted38 Fence.wide 5 trivial trivial trivial trivial rfl (by omega) (Try.sorts38 _) (enters_of Try.func65 (by kernel_rfl) rfl) 66 #[.pointer (some ⟨Bm, 0, none⟩)] trivial (enters_of Try.func66 (by kernel_rfl) rfl) _ _ hmax hbytes _ hseq
  · have hseq : SeqGives Fence.wide 2 Try.prog 66 #[.pointer (some ⟨Bm, 0, none⟩)] encStr (fun ss : List (List UInt8) => ss = []) 0 W :=
      AnyZ.keys_gives_nil (ρ := Try.keys39_ren) { Try.keys39 with } Fence.wide _ trivial rfl Bm _ hBm hcell
    refine (AnyZ.sorted_in Try.sorted38 Fence.wide 5 trivial trivial trivial trivial rfl (by omega) (Try.sorts38 _) (enters_of Try.func65 (by kernel_rfl) rfl) 66 #[.pointer (some ⟨Bm, 0, none⟩)] trivial (enters_of Try.func66 (by kernel_rfl) rfl) _ 0 (Nat.zero_le _) (by omega) _ hseq).mono ?_
    rintro e w' ⟨v, ss, rfl, hS, _, hnil, hb⟩
    exact ⟨by rw [hnil.2 hS], hb⟩

noncomputable def prims : Prims := fun f =>
  match f with
  | 24 => some indexByteP
  | 38 => some (sortedP [66])
  | 39 => some (keysP 66)
  | 59 => some containsAnyP
  | _ => none

theorem prims_ok : ∀ f p, prims f = some p → PrimOK Try.prog f p := by
  intro f p h
  unfold prims at h
  split at h
  · cases h; exact indexByteP_ok ⟨Try.f24, _, Try.func24, rfl, by decide⟩ fun s c W => Any.strings_IndexByte Try.index24 s c W
  · cases h
    exact sortedP_ok ⟨Try.f38, _, Try.func38, rfl, by decide⟩ fun it hit => by
      simp only [List.mem_cons, List.not_mem_nil, or_false] at hit
      subst hit
      exact sorted66_ok
  · cases h; exact keysP_ok keys39_ok
  · cases h; exact containsAnyP_ok ⟨Try.f59, _, Try.func59, rfl, by decide⟩ fun s cs W h1 h2 h3 h4 => Any.strings_ContainsAny_bytes Try.any59 Try.set59 s cs W h3 h1 h2 h4
  · cases h

theorem prims_lim : Prims.Lim prims := by
  intro f p h
  unfold prims at h
  split at h
  · cases h; exact primLim_const (q := indexByteP fun _ _ _ => none)
  · cases h; exact primLim_const (q := sortedP [66] fun _ _ _ => none)
  · cases h; exact primLim_const (q := keysP 66 fun _ _ _ => none)
  · cases h; exact primLim_const (q := containsAnyP fun _ _ _ => none)
  · cases h

theorem env_ok (n : Nat) : EnvOK Try.prog (mkE tab fns prims n) := mkE_sound tab_ok (by decide) (fun f A h => fns_ok f A h) (fun f p h => .inl (prims_ok f p h)) n
set_option maxRecDepth 100000 in
theorem works_true : answer (mkE tab fns prims 60 (.enter 15) [] ⟨.leaf, 0⟩) = some (.bool true) := by kernel_rfl
end Go.Am

set_option linter.unusedVariables false
set_option linter.unusedSimpArgs false
namespace Go.Am
open Go Go.Proofs Go.RowKit

def worksP (_ : Env) (args : List AV) (h : AHeap) : Option (AV × AHeap) :=
  match args with
  | [] => some (.bool true, h)
  | _ => none

theorem worksP_ok {P : Program} {f : Nat} (he : ∃ fn c, P.funcs[f]? = some fn ∧ fn.body = some c ∧ ¬ fn.name = "runtime.NumGoroutine")
    (hc : ∀ W, Calls P f #[] W fun e W' => e = .returned (.bool true) ∧ Below W.heap.size W W') : PrimOK P f worksP := by
  refine ⟨he, fun E hE args h r h' hp w0 β w vals hw hv => ?_⟩
  unfold worksP at hp
  split at hp
  · cases hp
    have := hv.nil_inv
    subst this
    refine callsIn_wide.2 ((hc w).mono ?_)
    rintro e w' ⟨rfl, hb⟩
    exact ⟨β, _, rfl, by simp [VR], hw.grown hb, Goes.refl _ _⟩
  · cases hp

end Go.Am

set_option linter.unusedVariables false
set_option linter.unusedSimpArgs false
namespace Go.Am
open Go Go.Proofs Go.RowKit

noncomputable def primsO : Prims := fun f => match f with
  | 15 => some worksP
  | f => prims f

theorem primsO_ok : ∀ f p, primsO f = some p → PrimOK Try.prog f p := by
  intro f p h
  unfold primsO at h
  split at h
  · cases h
    exact worksP_ok ⟨Try.f15, _, Try.func15, rfl, by decide⟩ (closed_walk (env_ok 60) works_true)
  · exact prims_ok _ _ h

theorem primsO_lim : Prims.Lim primsO := by
  intro f p h
  unfold primsO at h
  split at h
  · cases h; exact primLim_const
  · exact prims_lim _ _ h

/-- The environment. -/
noncomputable def EG : Env := EE tab fns primsO

theorem eg_ok : EnvOK Try.prog EG := EE_sound primsO_lim fun n => mkE_sound tab_ok (by decide) (fun f A h => fns_ok f A h) (fun f p h => .inl (primsO_ok f p h)) n

theorem run_fn {f n : Nat} {A : AFn} (hp : primsO f = none) (hA : fns.get f = some A) {args : List AV} {h : AHeap} {r : AV × AHeap} (he : fnK EG tab A f n args h = some r) : EG (.fn f) args h = some r :=
  EE_fn primsO_lim hp hA (fnK_some he)
theorem run_enter {f n : Nat} {A : AFn} (hp : primsO f = none) (hA : fns.get f = some A) {args : List AV} {h : AHeap} {r : AV × AHeap} (he : fnK EG tab A f n args h = some r) : EG (.enter f) args h = some r :=
  EE_enter primsO_lim hp hA (fnK_some he)
theorem run_prim {f : Nat} {p : Env → List AV → AHeap → Option (AV × AHeap)} (hp : primsO f = some p) {args : List AV} {h : AHeap} {r : AV × AHeap} (he : p EG args h = some r) : EG (.fn f) args h = some r :=
  EE_prim primsO_lim hp he
@[simp] theorem run15 (h : AHeap) : EG (.fn 15) [] h = some (.bool true, h) := run_prim (f := 15) rfl rfl
theorem run3 (n : Nat) {a0 a1 a2 : AV} {h : AHeap} {r : AV × AHeap} (he : F3 EG n a0 a1 a2 h = some r) : EG (.fn 3) [a0, a1, a2] h = some r :=
  run_fn (n := n) rfl rfl (by rw [F3_eq]; exact he)
theorem run4 (n : Nat) {a0 a1 : AV} {h : AHeap} {r : AV × AHeap} (he : F4 EG n a0 a1 h = some r) : EG (.fn 4) [a0, a1] h = some r :=
  run_fn (n := n) rfl rfl (by rw [F4_eq]; exact he)
theorem run5 (n : Nat) {a0 a1 a2 : AV} {h : AHeap} {r : AV × AHeap} (he : F5 EG n a0 a1 a2 h = some r) : EG (.fn 5) [a0, a1, a2] h = some r :=
  run_fn (n := n) rfl rfl (by rw [F5_eq]; exact he)
theorem run6 (n : Nat) {a0 a1 : AV} {h : AHeap} {r : AV × AHeap} (he : F6 EG n a0 a1 h = some r) : EG (.fn 6) [a0, a1] h = some r :=
  run_fn (n := n) rfl rfl (by rw [F6_eq]; exact he)
theorem run7 (n : Nat) {a0 : AV} {h : AHeap} {r : AV × AHeap} (he : F7 EG n a0 h = some r) : EG (.fn 7) [a0] h = some r :=
  run_fn (n := n) rfl rfl (by rw [F7_eq]; exact he)
theorem run8 (n : Nat) {a0 a1 a2 a3 a4 a5 : AV} {h : AHeap} {r : AV × AHeap} (he : F8 EG n a0 a1 a2 a3 a4 a5 h = some r) : EG (.fn 8) [a0, a1, a2, a3, a4, a5] h = some r :=
  run_fn (n := n) rfl rfl (by rw [F8_eq]; exact he)
theorem run9 (n : Nat) {a0 a1 a2 a3 : AV} {h : AHeap} {r : AV × AHeap} (he : F9 EG n a0 a1 a2 a3 h = some r) : EG (.fn 9) [a0, a1, a2, a3] h = some r :=
  run_fn (n := n) rfl rfl (by rw [F9_eq]; exact he)
theorem run10 (n : Nat) {a0 a1 a2 : AV} {h : AHeap} {r : AV × AHeap} (he : F10 EG n a0 a1 a2 h = some r) : EG (.fn 10) [a0, a1, a2] h = some r :=
  run_fn (n := n) rfl rfl (by rw [F10_eq]; exact he)
theorem run11 (n : Nat) {a0 : AV} {h : AHeap} {r : AV × AHeap} (he : F11 EG n a0 h = some r) : EG (.fn 11) [a0] h = some r :=
  run_fn (n := n) rfl rfl (by rw [F11_eq]; exact he)
theorem run12 (n : Nat) {a0 a1 : AV} {h : AHeap} {r : AV × AHeap} (he : F12 EG n a0 a1 h = some r) : EG (.fn 12) [a0, a1] h = some r :=
  run_fn (n := n) rfl rfl (by rw [F12_eq]; exact he)
theorem run13 (n : Nat) {a0 a1 a2 : AV} {h : AHeap} {r : AV × AHeap} (he : F13 EG n a0 a1 a2 h = some r) : EG (.fn 13) [a0, a1, a2] h = some r :=
  run_fn (n := n) rfl rfl (by rw [F13_eq]; exact he)
theorem run14 (n : Nat) {a0 a1 a2 : AV} {h : AHeap} {r : AV × AHeap} (he : F14 EG n a0 a1 a2 h = some r) : EG (.fn 14) [a0, a1, a2] h = some r :=
  run_fn (n := n) rfl rfl (by rw [F14_eq]; exact he)
theorem run16 (n : Nat) {a0 a1 : AV} {h : AHeap} {r : AV × AHeap} (he : F16 EG n a0 a1 h = some r) : EG (.fn 16) [a0, a1] h = some r :=
  run_fn (n := n) rfl rfl (by rw [F16_eq]; exact he)
theorem run17 (n : Nat) {a0 a1 : AV} {h : AHeap} {r : AV × AHeap} (he : F17 EG n a0 a1 h = some r) : EG (.fn 17) [a0, a1] h = some r :=
  run_fn (n := n) rfl rfl (by rw [F17_eq]; exact he)
theorem run18 (n : Nat) {a0 a1 : AV} {h : AHeap} {r : AV × AHeap} (he : F18 EG n a0 a1 h = some r) : EG (.fn 18) [a0, a1] h = some r :=
  run_fn (n := n) rfl rfl (by rw [F18_eq]; exact he)
theorem run19 (n : Nat) {a0 a1 a2 a3 a4 : AV} {h : AHeap} {r : AV × AHeap} (he : F19 EG n a0 a1 a2 a3 a4 h = some r) : EG (.fn 19) [a0, a1, a2, a3, a4] h = some r :=
  run_fn (n := n) rfl rfl (by rw [F19_eq]; exact he)
theorem run20 (n : Nat) {a0 : AV} {h : AHeap} {r : AV × AHeap} (he : F20 EG n a0 h = some r) : EG (.fn 20) [a0] h = some r :=
  run_fn (n := n) rfl rfl (by rw [F20_eq]; exact he)
theorem run21 (n : Nat) {a0 a1 : AV} {h : AHeap} {r : AV × AHeap} (he : F21 EG n a0 a1 h = some r) : EG (.fn 21) [a0, a1] h = some r :=
  run_fn (n := n) rfl rfl (by rw [F21_eq]; exact he)
theorem run22 (n : Nat) {a0 : AV} {h : AHeap} {r : AV × AHeap} (he : F22 EG n a0 h = some r) : EG (.fn 22) [a0] h = some r :=
  run_fn (n := n) rfl rfl (by rw [F22_eq]; exact he)
theorem run23 (n : Nat) {a0 a1 a2 : AV} {h : AHeap} {r : AV × AHeap} (he : F23 EG n a0 a1 a2 h = some r) : EG (.fn 23) [a0, a1, a2] h = some r :=
  run_fn (n := n) rfl rfl (by rw [F23_eq]; exact he)
theorem run25 (n : Nat) {a0 a1 : AV} {h : AHeap} {r : AV × AHeap} (he : F25 EG n a0 a1 h = some r) : EG (.fn 25) [a0, a1] h = some r :=
  run_fn (n := n) rfl rfl (by rw [F25_eq]; exact he)
theorem run26 (n : Nat) {a0 : AV} {h : AHeap} {r : AV × AHeap} (he : F26 EG n a0 h = some r) : EG (.fn 26) [a0] h = some r :=
  run_fn (n := n) rfl rfl (by rw [F26_eq]; exact he)
theorem run27 (n : Nat) {a0 : AV} {h : AHeap} {r : AV × AHeap} (he : F27 EG n a0 h = some r) : EG (.fn 27) [a0] h = some r :=
  run_fn (n := n) rfl rfl (by rw [F27_eq]; exact he)
theorem run28 (n : Nat) {a0 a1 : AV} {h : AHeap} {r : AV × AHeap} (he : F28 EG n a0 a1 h = some r) : EG (.fn 28) [a0, a1] h = some r :=
  run_fn (n := n) rfl rfl (by rw [F28_eq]; exact he)
theorem run29 (n : Nat) {a0 : AV} {h : AHeap} {r : AV × AHeap} (he : F29 EG n a0 h = some r) : EG (.fn 29) [a0] h = some r :=
  run_fn (n := n) rfl rfl (by rw [F29_eq]; exact he)
theorem run30 (n : Nat) {a0 a1 a2 : AV} {h : AHeap} {r : AV × AHeap} (he : F30 EG n a0 a1 a2 h = some r) : EG (.fn 30) [a0, a1, a2] h = some r :=
  run_fn (n := n) rfl rfl (by rw [F30_eq]; exact he)
theorem run31 (n : Nat) {a0 a1 : AV} {h : AHeap} {r : AV × AHeap} (he : F31 EG n a0 a1 h = some r) : EG (.fn 31) [a0, a1] h = some r :=
  run_fn (n := n) rfl rfl (by rw [F31_eq]; exact he)
theorem run32 (n : Nat) {a0 a1 a2 : AV} {h : AHeap} {r : AV × AHeap} (he : F32 EG n a0 a1 a2 h = some r) : EG (.fn 32) [a0, a1, a2] h = some r :=
  run_fn (n := n) rfl rfl (by rw [F32_eq]; exact he)
theorem run33 (n : Nat) {a0 a1 : AV} {h : AHeap} {r : AV × AHeap} (he : F33 EG n a0 a1 h = some r) : EG (.fn 33) [a0, a1] h = some r :=
  run_fn (n := n) rfl rfl (by rw [F33_eq]; exact he)
theorem run34 (n : Nat) {a0 a1 a2 : AV} {h : AHeap} {r : AV × AHeap} (he : F34 EG n a0 a1 a2 h = some r) : EG (.fn 34) [a0, a1, a2] h = some r :=
  run_fn (n := n) rfl rfl (by rw [F34_eq]; exact he)
theorem run35 (n : Nat) {a0 a1 : AV} {h : AHeap} {r : AV × AHeap} (he : F35 EG n a0 a1 h = some r) : EG (.fn 35) [a0, a1] h = some r :=
  run_fn (n := n) rfl rfl (by rw [F35_eq]; exact he)
theorem run36 (n : Nat) {a0 a1 a2 : AV} {h : AHeap} {r : AV × AHeap} (he : F36 EG n a0 a1 a2 h = some r) : EG (.fn 36) [a0, a1, a2] h = some r :=
  run_fn (n := n) rfl rfl (by rw [F36_eq]; exact he)
theorem run37 (n : Nat) {a0 a1 a2 : AV} {h : AHeap} {r : AV × AHeap} (he : F37 EG n a0 a1 a2 h = some r) : EG (.fn 37) [a0, a1, a2] h = some r :=
  run_fn (n := n) rfl rfl (by rw [F37_eq]; exact he)
theorem run40 (n : Nat) {a0 a1 a2 : AV} {h : AHeap} {r : AV × AHeap} (he : F40 EG n a0 a1 a2 h = some r) : EG (.fn 40) [a0, a1, a2] h = some r :=
  run_fn (n := n) rfl rfl (by rw [F40_eq]; exact he)
theorem run41 (n : Nat) {a0 a1 a2 a3 a4 a5 : AV} {h : AHeap} {r : AV × AHeap} (he : F41 EG n a0 a1 a2 a3 a4 a5 h = some r) : EG (.fn 41) [a0, a1, a2, a3, a4, a5] h = some r :=
  run_fn (n := n) rfl rfl (by rw [F41_eq]; exact he)
theorem run42 (n : Nat) {a0 a1 a2 a3 : AV} {h : AHeap} {r : AV × AHeap} (he : F42 EG n a0 a1 a2 a3 h = some r) : EG (.fn 42) [a0, a1, a2, a3] h = some r :=
  run_fn (n := n) rfl rfl (by rw [F42_eq]; exact he)
theorem run43 (n : Nat) {a0 a1 a2 : AV} {h : AHeap} {r : AV × AHeap} (he : F43 EG n a0 a1 a2 h = some r) : EG (.fn 43) [a0, a1, a2] h = some r :=
  run_fn (n := n) rfl rfl (by rw [F43_eq]; exact he)
theorem run44 (n : Nat) {a0 a1 a2 a3 a4 : AV} {h : AHeap} {r : AV × AHeap} (he : F44 EG n a0 a1 a2 a3 a4 h = some r) : EG (.fn 44) [a0, a1, a2, a3, a4] h = some r :=
  run_fn (n := n) rfl rfl (by rw [F44_eq]; exact he)
theorem run45 (n : Nat) {a0 a1 a2 : AV} {h : AHeap} {r : AV × AHeap} (he : F45 EG n a0 a1 a2 h = some r) : EG (.fn 45) [a0, a1, a2] h = some r :=
  run_fn (n := n) rfl rfl (by rw [F45_eq]; exact he)
theorem run46 (n : Nat) {a0 a1 a2 : AV} {h : AHeap} {r : AV × AHeap} (he : F46 EG n a0 a1 a2 h = some r) : EG (.fn 46) [a0, a1, a2] h = some r :=
  run_fn (n := n) rfl rfl (by rw [F46_eq]; exact he)
theorem run47 (n : Nat) {a0 a1 a2 : AV} {h : AHeap} {r : AV × AHeap} (he : F47 EG n a0 a1 a2 h = some r) : EG (.fn 47) [a0, a1, a2] h = some r :=
  run_fn (n := n) rfl rfl (by rw [F47_eq]; exact he)
theorem run48 (n : Nat) {a0 a1 a2 : AV} {h : AHeap} {r : AV × AHeap} (he : F48 EG n a0 a1 a2 h = some r) : EG (.fn 48) [a0, a1, a2] h = some r :=
  run_fn (n := n) rfl rfl (by rw [F48_eq]; exact he)
theorem run49 (n : Nat) {a0 a1 : AV} {h : AHeap} {r : AV × AHeap} (he : F49 EG n a0 a1 h = some r) : EG (.fn 49) [a0, a1] h = some r :=
  run_fn (n := n) rfl rfl (by rw [F49_eq]; exact he)
theorem run50 (n : Nat) {a0 a1 : AV} {h : AHeap} {r : AV × AHeap} (he : F50 EG n a0 a1 h = some r) : EG (.fn 50) [a0, a1] h = some r :=
  run_fn (n := n) rfl rfl (by rw [F50_eq]; exact he)
theorem run51 (n : Nat) {a0 a1 : AV} {h : AHeap} {r : AV × AHeap} (he : F51 EG n a0 a1 h = some r) : EG (.fn 51) [a0, a1] h = some r :=
  run_fn (n := n) rfl rfl (by rw [F51_eq]; exact he)
theorem run52 (n : Nat) {a0 a1 : AV} {h : AHeap} {r : AV × AHeap} (he : F52 EG n a0 a1 h = some r) : EG (.fn 52) [a0, a1] h = some r :=
  run_fn (n := n) rfl rfl (by rw [F52_eq]; exact he)
theorem run53 (n : Nat) {a0 : AV} {h : AHeap} {r : AV × AHeap} (he : F53 EG n a0 h = some r) : EG (.fn 53) [a0] h = some r :=
  run_fn (n := n) rfl rfl (by rw [F53_eq]; exact he)
theorem run54 (n : Nat) {a0 : AV} {h : AHeap} {r : AV × AHeap} (he : F54 EG n a0 h = some r) : EG (.fn 54) [a0] h = some r :=
  run_fn (n := n) rfl rfl (by rw [F54_eq]; exact he)
theorem run55 (n : Nat) {a0 : AV} {h : AHeap} {r : AV × AHeap} (he : F55 EG n a0 h = some r) : EG (.fn 55) [a0] h = some r :=
  run_fn (n := n) rfl rfl (by rw [F55_eq]; exact he)
theorem run57 (n : Nat) {a0 a1 : AV} {h : AHeap} {r : AV × AHeap} (he : F57 EG n a0 a1 h = some r) : EG (.fn 57) [a0, a1] h = some r :=
  run_fn (n := n) rfl rfl (by rw [F57_eq]; exact he)
theorem run58 (n : Nat) {a0 : AV} {h : AHeap} {r : AV × AHeap} (he : F58 EG n a0 h = some r) : EG (.fn 58) [a0] h = some r :=
  run_fn (n := n) rfl rfl (by rw [F58_eq]; exact he)
theorem run60 (n : Nat) {a0 a1 a2 : AV} {h : AHeap} {r : AV × AHeap} (he : F60 EG n a0 a1 a2 h = some r) : EG (.fn 60) [a0, a1, a2] h = some r :=
  run_fn (n := n) rfl rfl (by rw [F60_eq]; exact he)
theorem run61 (n : Nat) {a0 a1 a2 : AV} {h : AHeap} {r : AV × AHeap} (he : F61 EG n a0 a1 a2 h = some r) : EG (.fn 61) [a0, a1, a2] h = some r :=
  run_fn (n := n) rfl rfl (by rw [F61_eq]; exact he)
theorem run62 (n : Nat) {a0 a1 : AV} {h : AHeap} {r : AV × AHeap} (he : F62 EG n a0 a1 h = some r) : EG (.fn 62) [a0, a1] h = some r :=
  run_fn (n := n) rfl rfl (by rw [F62_eq]; exact he)
theorem run63 (n : Nat) {a0 a1 a2 : AV} {h : AHeap} {r : AV × AHeap} (he : F63 EG n a0 a1 a2 h = some r) : EG (.fn 63) [a0, a1, a2] h = some r :=
  run_fn (n := n) rfl rfl (by rw [F63_eq]; exact he)
theorem run67 (n : Nat) {a0 a1 a2 : AV} {h : AHeap} {r : AV × AHeap} (he : F67 EG n a0 a1 a2 h = some r) : EG (.fn 67) [a0, a1, a2] h = some r :=
  run_fn (n := n) rfl rfl (by rw [F67_eq]; exact he)
theorem run68 (n : Nat) {a0 a1 : AV} {h : AHeap} {r : AV × AHeap} (he : F68 EG n a0 a1 h = some r) : EG (.fn 68) [a0, a1] h = some r :=
  run_fn (n := n) rfl rfl (by rw [F68_eq]; exact he)
theorem run69 (n : Nat) {a0 a1 a2 : AV} {h : AHeap} {r : AV × AHeap} (he : F69 EG n a0 a1 a2 h = some r) : EG (.fn 69) [a0, a1, a2] h = some r :=
  run_fn (n := n) rfl rfl (by rw [F69_eq]; exact he)
theorem run70 (n : Nat) {a0 a1 a2 : AV} {h : AHeap} {r : AV × AHeap} (he : F70 EG n a0 a1 a2 h = some r) : EG (.fn 70) [a0, a1, a2] h = some r :=
  run_fn (n := n) rfl rfl (by rw [F70_eq]; exact he)
theorem run71 (n : Nat) {a0 a1 : AV} {h : AHeap} {r : AV × AHeap} (he : F71 EG n a0 a1 h = some r) : EG (.fn 71) [a0, a1] h = some r :=
  run_fn (n := n) rfl rfl (by rw [F71_eq]; exact he)
theorem run72 (n : Nat) {a0 a1 : AV} {h : AHeap} {r : AV × AHeap} (he : F72 EG n a0 a1 h = some r) : EG (.fn 72) [a0, a1] h = some r :=
  run_fn (n := n) rfl rfl (by rw [F72_eq]; exact he)
theorem run73 (n : Nat) {a0 a1 : AV} {h : AHeap} {r : AV × AHeap} (he : F73 EG n a0 a1 h = some r) : EG (.fn 73) [a0, a1] h = some r :=
  run_fn (n := n) rfl rfl (by rw [F73_eq]; exact he)
theorem run74 (n : Nat) {a0 : AV} {h : AHeap} {r : AV × AHeap} (he : F74 EG n a0 h = some r) : EG (.fn 74) [a0] h = some r :=
  run_fn (n := n) rfl rfl (by rw [F74_eq]; exact he)
theorem run75 (n : Nat) {a0 a1 : AV} {h : AHeap} {r : AV × AHeap} (he : F75 EG n a0 a1 h = some r) : EG (.fn 75) [a0, a1] h = some r :=
  run_fn (n := n) rfl rfl (by rw [F75_eq]; exact he)
theorem run76 (n : Nat) {a0 a1 : AV} {h : AHeap} {r : AV × AHeap} (he : F76 EG n a0 a1 h = some r) : EG (.fn 76) [a0, a1] h = some r :=
  run_fn (n := n) rfl rfl (by rw [F76_eq]; exact he)

end Go.Am

set_option linter.unusedVariables false
set_option linter.unusedSimpArgs false
namespace Go.Am
open Go

/-! ### Maps by texts, once more -/

/-- Keys and stamps, each once. -/
def Once (l : SE) (clock : Nat) : Prop := (∀ e ∈ l, e.2.2 < clock) ∧ l.Pairwise fun a b => a.1 ≠ b.1 ∧ a.2.2 ≠ b.2.2

theorem stampB_str : ∀ {l : SE} {clock : Nat}, Once l clock → stampB clock (strE l) = true
  | [], _, _ => rfl
  | e :: l, clock, ⟨h1, h2⟩ => by
    rw [List.pairwise_cons] at h2
    have ih := stampB_str (l := l) (clock := clock) ⟨fun x hx => h1 x (List.mem_cons_of_mem _ hx), h2.2⟩
    simp only [strE] at ih
    simp only [strE, List.map_cons, stampB, ih, Bool.and_true, Bool.and_eq_true]
    refine ⟨by simpa using h1 e List.mem_cons_self, ?_⟩
    rw [List.all_eq_true]
    intro x hx
    obtain ⟨y, hy, rfl⟩ := List.mem_map.1 hx
    obtain ⟨q1, q2⟩ := h2.1 y hy
    simp only [AV.beq, beq_dec, Bool.and_eq_true, Bool.not_eq_true', decide_eq_false_iff_not]
    exact ⟨fun e1 => q1 e1.symm, fun e1 => q2 e1.symm⟩

theorem keysOf_str : ∀ (l : SE), keysOf (strE l) = some (l.map (·.1))
  | [] => rfl
  | e :: l => by
    have := keysOf_str l
    simp only [strE] at this
    simp [strE, keysOf, this]

theorem hasS_iff {s : Bs} : ∀ {l : SE}, hasS s l = true ↔ s ∈ l.map (·.1)
  | [] => by simp [hasS]
  | e :: l => by
    simp only [hasS, List.map_cons, List.mem_cons]
    by_cases h : s = e.1
    · simp [h]
    · simp [h, hasS_iff (l := l)]

theorem Once.nodup {l : SE} {c : Nat} (a : Once l c) : (l.map (·.1)).Nodup := by
  rw [List.nodup_iff_pairwise_ne, List.pairwise_map]
  exact a.2.imp fun h => h.1

theorem Once.sub {l : SE} {c : Nat} (a : Once l c) (p : Bs × AV × Nat → Bool) : Once (l.filter p) c :=
  ⟨fun e he => a.1 e (List.mem_filter.1 he).1, a.2.filter p⟩

theorem Once.add {l : SE} {c : Nat} (a : Once l c) {s : Bs} (h : hasS s l = false) (v : AV) : Once (l ++ [(s, v, c)]) (c + 1) := by
  refine ⟨fun e he => ?_, ?_⟩
  · rcases List.mem_append.1 he with he | he
    · exact Nat.lt_succ_of_lt (a.1 e he)
    · rw [List.mem_singleton.1 he]; exact Nat.lt_succ_self _
  · rw [List.pairwise_append]
    refine ⟨a.2, List.pairwise_singleton _ _, fun x hx y hy => ?_⟩
    rw [List.mem_singleton.1 hy]
    refine ⟨fun e => ?_, Nat.ne_of_lt (a.1 x hx)⟩
    have : hasS s l = true := hasS_iff.2 (by rw [← show x.1 = s from e]; exact List.mem_map_of_mem hx)
    rw [this] at h; cases h

def delS (k : Bs) (l : SE) : SE := l.filter fun e => decide (e.1 ≠ k)

theorem delete_at (k : Bs) : ∀ (l : SE) (i : Nat), (l.map (·.1)).Nodup → (hasS k l = false ∧ findE (.str k) (strE l) i = some none ∧ delS k l = l) ∨
    ∃ j v b, findE (.str k) (strE l) i = some (some (i + j, v, b)) ∧ (strE l).eraseIdx j = strE (delS k l)
  | [], i, _ => .inl ⟨rfl, rfl, rfl⟩
  | e :: l, i, hn => by
    simp only [List.map_cons, List.nodup_cons] at hn
    by_cases h : k = e.1
    · refine .inr ⟨0, e.2.1, e.2.2, by simp [strE, findE, keyEq, h], ?_⟩
      have : delS k l = l := List.filter_eq_self.2 fun x hx => by
        simp only [ne_eq, decide_not, Bool.not_eq_true', decide_eq_false_iff_not]
        exact fun h2 => hn.1 (by rw [← h, ← h2]; exact List.mem_map_of_mem hx)
      have hd : delS k (e :: l) = l := by
        simp only [delS, List.filter_cons] at this ⊢
        simp only [← h, ne_eq, not_true_eq_false, decide_false, Bool.false_eq_true, if_false]
        exact this
      rw [hd]; rfl
    · have h' : ¬ e.1 = k := fun h2 => h h2.symm
      rcases delete_at k l (i + 1) hn.2 with ⟨h1, h2, h3⟩ | ⟨j, v, b, h1, h2⟩
      · exact .inl ⟨by simp [hasS, h, h1], by simp only [strE, List.map_cons, findE, keyEq, h, decide_false]; exact h2, by simp only [delS] at h3 ⊢; simp [List.filter_cons, h']; simpa using h3⟩
      · refine .inr ⟨j + 1, v, b, ?_, ?_⟩
        · simp only [strE, List.map_cons, findE, keyEq, h, decide_false]
          rw [show i + (j + 1) = i + 1 + j by omega]; exact h1
        · simp only [strE, List.map_cons, List.eraseIdx_cons_succ, delS, List.filter_cons] at h2 ⊢
          rw [h2]
          simp [h']

theorem delete_str {T : Tab} {h : AHeap} {t el s b : Nat} {ag : Bool} {z : AV} {m : Nat} {l : SE} {clock : Nat} {k : Bs} (ht : T.get t = some ⟨.map 2 el, s, b, ag, z⟩) (hm : h.get m = some (.map (strE l) clock)) (hn : (l.map (·.1)).Nodup) :
    adelete T h t (.map m) (.str k) = some (h.put m (.map (strE (delS k l)) clock)) := by
  rcases delete_at k l 0 hn with ⟨_, h2, h3⟩ | ⟨j, v, b', h1, h2⟩
  · simp only [adelete, ht, keyOk, hm, h2, cond_true, h3]
  · simp only [adelete, ht, keyOk, hm, h1, cond_true, Nat.zero_add, h2]

/-! ### Names to numbers -/

abbrev NE := List (Bs × Int)

def getN (s : Bs) : NE → Option Int
  | [] => none
  | e :: l => if s = e.1 then some e.2 else getN s l

def delN (s : Bs) (l : NE) : NE := l.filter fun e => decide (e.1 ≠ s)

def NEq (l : SE) (ents : NE) : Prop := l.map (fun e => (e.1, e.2.1)) = ents.map fun e => (e.1, AV.int .i64 e.2)

theorem NEq.get {s : Bs} : ∀ {l : SE} {ents : NE}, NEq l ents → getS s l = (getN s ents).map (AV.int .i64)
  | [], [], _ => rfl
  | [], _ :: _, h => by cases h
  | _ :: _, [], h => by cases h
  | e :: l, x :: ents, h => by
    simp only [NEq, List.map_cons, List.cons.injEq, Prod.mk.injEq] at h
    simp only [getS, getN, h.1.1, h.1.2]
    by_cases hs : s = x.1
    · simp [hs]
    · simp only [hs, if_false]; exact NEq.get h.2

theorem NEq.has {s : Bs} : ∀ {l : SE} {ents : NE}, NEq l ents → hasS s l = (getN s ents).isSome
  | [], [], _ => rfl
  | [], _ :: _, h => by cases h
  | _ :: _, [], h => by cases h
  | e :: l, x :: ents, h => by
    simp only [NEq, List.map_cons, List.cons.injEq, Prod.mk.injEq] at h
    simp only [hasS, getN, h.1.1]
    by_cases hs : s = x.1
    · simp [hs]
    · simp only [hs, if_false]; exact NEq.has h.2

theorem NEq.add {l : SE} {ents : NE} (h : NEq l ents) (s : Bs) (n : Int) (c : Nat) : NEq (l ++ [(s, .int .i64 n, c)]) (ents ++ [(s, n)]) := by
  simp only [NEq, List.map_append] at h ⊢
  rw [h]; rfl

theorem NEq.del {s : Bs} : ∀ {l : SE} {ents : NE}, NEq l ents → NEq (delS s l) (delN s ents)
  | [], [], _ => rfl
  | [], _ :: _, h => by cases h
  | _ :: _, [], h => by cases h
  | e :: l, x :: ents, h => by
    simp only [NEq, List.map_cons, List.cons.injEq, Prod.mk.injEq] at h
    have ih := NEq.del (s := s) h.2
    simp only [NEq, delS, delN] at ih
    simp only [NEq, delS, delN, List.filter_cons, h.1.1]
    by_cases hs : x.1 = s
    · simp only [hs, ne_eq, not_true_eq_false, decide_false, Bool.false_eq_true, if_false]; exact ih
    · simp only [ne_eq, hs, not_false_eq_true, decide_true, if_true, List.map_cons, h.1.1, h.1.2]
      exact congrArg _ ih

theorem NEq.keys {l : SE} {ents : NE} (h : NEq l ents) : l.map (·.1) = ents.map (·.1) := by
  have := congrArg (List.map Prod.fst) h
  simpa [List.map_map, Function.comp_def] using this

theorem NEq.len {l : SE} {ents : NE} (h : NEq l ents) : l.length = ents.length := by
  have := congrArg List.length h
  simpa using this

theorem getN_append {s : Bs} : ∀ {a b : NE}, getN s (a ++ b) = match getN s a with | some v => some v | none => getN s b
  | [], b => rfl
  | e :: a, b => by
    simp only [List.cons_append, getN]
    by_cases h : s = e.1
    · simp [h]
    · simp [h, getN_append (a := a)]

theorem getN_del {s t : Bs} : ∀ {l : NE}, getN s (delN t l) = if s = t then none else getN s l
  | [] => by simp [delN, getN]
  | e :: l => by
    have ih := getN_del (s := s) (t := t) (l := l)
    simp only [delN, List.filter_cons] at ih ⊢
    by_cases h : e.1 = t
    · simp only [h, ne_eq, not_true_eq_false, decide_false, Bool.false_eq_true, if_false, ih, getN]
      by_cases hs : s = t
      · simp [hs]
      · simp [hs]
    · simp only [ne_eq, h, not_false_eq_true, decide_true, if_true, getN, ih]
      by_cases hs : s = e.1
      · simp [hs, h]
      · simp [hs]

theorem getN_some {s : Bs} {n : Int} : ∀ {l : NE}, getN s l = some n → (s, n) ∈ l
  | [], h => by cases h
  | e :: l, h => by
    simp only [getN] at h
    split at h
    · rename_i h1; cases h; rw [h1]; exact List.mem_cons_self
    · exact List.mem_cons_of_mem _ (getN_some h)

theorem getN_none {s : Bs} : ∀ {l : NE}, getN s l = none ↔ s ∉ l.map (·.1)
  | [] => by simp [getN]
  | e :: l => by
    simp only [getN, List.map_cons, List.mem_cons, not_or]
    by_cases h : s = e.1
    · simp [h]
    · simp [h, getN_none (l := l)]

theorem getN_mem {s : Bs} {n : Int} : ∀ {l : NE}, (l.map (·.1)).Nodup → (s, n) ∈ l → getN s l = some n
  | [], _, h => by cases h
  | e :: l, hn, h => by
    simp only [List.map_cons, List.nodup_cons] at hn
    simp only [getN]
    rcases List.mem_cons.1 h with rfl | h
    · simp
    · have : s ≠ e.1 := fun he => hn.1 (by rw [← he]; exact List.mem_map_of_mem (f := Prod.fst) h)
      simp only [this, if_false]
      exact getN_mem hn.2 h

/-! ### Maps by numbers -/

abbrev IE := List (Int × AV × Nat)
def intE (l : IE) : List (AV × AV × Nat) := l.map fun e => (.int .i64 e.1, e.2.1, e.2.2)

def getI (k : Int) : IE → Option AV
  | [] => none
  | e :: l => if k = e.1 then some e.2.1 else getI k l

def delI (k : Int) (l : IE) : IE := l.filter fun e => decide (e.1 ≠ k)

theorem findE_int (k : Int) : ∀ (l : IE) (i : Nat), (l.map (·.1)).Nodup → (getI k l = none ∧ findE (.int .i64 k) (intE l) i = some none ∧ delI k l = l) ∨
    ∃ j v b, getI k l = some v ∧ findE (.int .i64 k) (intE l) i = some (some (i + j, v, b)) ∧ (intE l).eraseIdx j = intE (delI k l)
  | [], i, _ => .inl ⟨rfl, rfl, rfl⟩
  | e :: l, i, hn => by
    simp only [List.map_cons, List.nodup_cons] at hn
    by_cases h : k = e.1
    · refine .inr ⟨0, e.2.1, e.2.2, by simp [getI, h], by simp [intE, findE, keyEq, h], ?_⟩
      have : delI k l = l := List.filter_eq_self.2 fun x hx => by
        simp only [ne_eq, decide_not, Bool.not_eq_true', decide_eq_false_iff_not]
        exact fun h2 => hn.1 (by rw [← h, ← h2]; exact List.mem_map_of_mem hx)
      have hd : delI k (e :: l) = l := by
        simp only [delI, List.filter_cons] at this ⊢
        simp only [← h, ne_eq, not_true_eq_false, decide_false, Bool.false_eq_true, if_false]
        exact this
      rw [hd]; rfl
    · have h' : ¬ e.1 = k := fun h2 => h h2.symm
      rcases findE_int k l (i + 1) hn.2 with ⟨h1, h2, h3⟩ | ⟨j, v, b, h0, h1, h2⟩
      · exact .inl ⟨by simp [getI, h, h1], by simp only [intE, List.map_cons, findE, keyEq, h, decide_false, decide_true, cond_true]; exact h2, by simp only [delI] at h3 ⊢; simp [List.filter_cons, h']; simpa using h3⟩
      · refine .inr ⟨j + 1, v, b, by simp [getI, h, h0], ?_, ?_⟩
        · simp only [intE, List.map_cons, findE, keyEq, h, decide_false, decide_true, cond_true]
          rw [show i + (j + 1) = i + 1 + j by omega]; exact h1
        · simp only [intE, List.map_cons, List.eraseIdx_cons_succ, delI, List.filter_cons] at h2 ⊢
          rw [h2]
          simp [h']

theorem getI_append {k : Int} : ∀ {a b : IE}, getI k (a ++ b) = match getI k a with | some v => some v | none => getI k b
  | [], b => rfl
  | e :: a, b => by
    simp only [List.cons_append, getI]
    by_cases h : k = e.1
    · simp [h]
    · simp [h, getI_append (a := a)]

theorem getI_del {k j : Int} : ∀ {l : IE}, getI j (delI k l) = if j = k then none else getI j l
  | [] => by simp [delI, getI]
  | e :: l => by
    have ih := getI_del (k := k) (j := j) (l := l)
    simp only [delI, List.filter_cons] at ih ⊢
    by_cases h : e.1 = k
    · simp only [h, ne_eq, not_true_eq_false, decide_false, Bool.false_eq_true, if_false, ih, getI]
      by_cases hs : j = k
      · simp [hs]
      · simp [hs]
    · simp only [ne_eq, h, not_false_eq_true, decide_true, if_true, getI, ih]
      by_cases hs : j = e.1
      · simp [hs, h]
      · simp [hs]

theorem getI_none {k : Int} : ∀ {l : IE}, getI k l = none ↔ k ∉ l.map (·.1)
  | [] => by simp [getI]
  | e :: l => by
    simp only [getI, List.map_cons, List.mem_cons, not_or]
    by_cases h : k = e.1
    · simp [h]
    · simp [h, getI_none (l := l)]

section
variable {T : Tab} {h : AHeap} {t el s b : Nat} {ag : Bool} {z : AV} {te : ATy} {m : Nat} {l : IE} {clock : Nat} {key : Int}

theorem lookup_int (ht : T.get t = some ⟨.map 1 el, s, b, ag, z⟩) (he : T.get el = some te) (hm : h.get m = some (.map (intE l) clock)) (hn : (l.map (·.1)).Nodup) :
    alookup T h t (.map m) (.int .i64 key) false = some (match getI key l with
      | some v => v
      | none => te.zero) := by
  rcases findE_int key l 0 hn with ⟨h2, h3, _⟩ | ⟨j, v, b', h2, h3, _⟩ <;> simp [alookup, ht, he, keyOk, hm, h2, h3]

theorem update_int (ht : T.get t = some ⟨.map 1 el, s, b, ag, z⟩) (hm : h.get m = some (.map (intE l) clock)) (hn : (l.map (·.1)).Nodup) (hg : getI key l = none) (v : AV) :
    amapUpdate T h t (.map m) (.int .i64 key) v = some (h.put m (.map (intE (l ++ [(key, v, clock)])) (clock + 1))) := by
  rcases findE_int key l 0 hn with ⟨h1, h3, _⟩ | ⟨j, w, b', h1, h3, _⟩
  · simp only [amapUpdate, ht, keyOk, hm, h3, cond_true]
    simp [intE]
  · rw [hg] at h1; cases h1

theorem delete_int (ht : T.get t = some ⟨.map 1 el, s, b, ag, z⟩) (hm : h.get m = some (.map (intE l) clock)) (hn : (l.map (·.1)).Nodup) :
    adelete T h t (.map m) (.int .i64 key) = some (h.put m (.map (intE (delI key l)) clock)) := by
  rcases findE_int key l 0 hn with ⟨_, h2, h3⟩ | ⟨j, v, b', _, h1, h2⟩
  · simp only [adelete, ht, keyOk, hm, h2, cond_true, h3]
  · simp only [adelete, ht, keyOk, hm, h1, cond_true, Nat.zero_add, h2]
end

/-! ### The table -/

/-- An inode. -/
structure Nd where
  kind : Int
  mode : Int
  data : Bs
  links : Int
  up : Int
  ents : NE

/-- A table. -/
structure Tb where
  qi : Int
  qb : Int
  ui : Int
  ub : Int
  last : Int
  nodes : Int → Option Nd

def upd (f : Int → Option Nd) (k : Int) (x : Option Nd) : Int → Option Nd := fun j => if j = k then x else f j
theorem upd_self (f : Int → Option Nd) (k : Int) (x : Option Nd) : upd f k x k = x := if_pos rfl
theorem upd_ne (f : Int → Option Nd) {k j : Int} (x : Option Nd) (h : j ≠ k) : upd f k x j = f j := if_neg h

/-- Where its parts lie. -/
structure Lay where
  m : Nat
  place : Int → Nat
  ent : Int → Nat

def EntR (h : AHeap) (e : Nat) (ents : NE) : Prop := ∃ l clock, h.get e = some (.map (strE l) clock) ∧ NEq l ents ∧ Once l clock

def evOf (L : Lay) (k : Int) (nd : Nd) : AV := if nd.kind = 2 then .map (L.ent k) else .nilmap
def ndCells (L : Lay) (k : Int) (nd : Nd) : List AV := [.int .i64 nd.kind, .int .i64 nd.mode, .str nd.data, .int .i64 nd.links, .int .i64 nd.up, evOf L k nd]
def tbCells (L : Lay) (tb : Tb) : List AV := [.int .i64 tb.qi, .int .i64 tb.qb, .int .i64 tb.ui, .int .i64 tb.ub, .map L.m, .int .i64 tb.last]

structure TR (S : Nat → Prop) (h : AHeap) (o : Nat) (tb : Tb) (L : Lay) : Prop where
  top : h.get o = some (.cells (tbCells L tb) true)
  map : ∃ l clock, h.get L.m = some (.map (intE l) clock) ∧ (l.map (·.1)).Nodup ∧ ∀ k, getI k l = (tb.nodes k).map fun _ => .ptr (L.place k) 0
  node : ∀ k nd, tb.nodes k = some nd → h.get (L.place k) = some (.cells (ndCells L k nd) true)
  ents : ∀ k nd, tb.nodes k = some nd → nd.kind = 2 → EntR h (L.ent k) nd.ents
  noEnts : ∀ k nd, tb.nodes k = some nd → nd.kind ≠ 2 → nd.ents = []
  inj : ∀ k j nd nd', tb.nodes k = some nd → tb.nodes j = some nd' → L.place k = L.place j → k = j
  injE : ∀ k j nd nd', tb.nodes k = some nd → tb.nodes j = some nd' → nd.kind = 2 → nd'.kind = 2 → L.ent k = L.ent j → k = j
  apart : ∀ k nd, tb.nodes k = some nd → L.place k ≠ o
  apartE : ∀ k nd, tb.nodes k = some nd → nd.kind = 2 → L.ent k ≠ L.m
  inO : S o
  inM : S L.m
  inN : ∀ k nd, tb.nodes k = some nd → S (L.place k)
  inE : ∀ k nd, tb.nodes k = some nd → nd.kind = 2 → S (L.ent k)
  there : ∀ j, S j → h.get j ≠ none

/-- What is not the table's stays. -/
structure Step (S : Nat → Prop) (h : AHeap) (S' : Nat → Prop) (h' : AHeap) : Prop where
  new : ∀ j, S' j → S j ∨ h.get j = none
  keep : ∀ j y, h.get j = some y → ¬ S j → h'.get j = some y
  wf : h'.WF

theorem Step.refl {S : Nat → Prop} {h : AHeap} (hw : h.WF) : Step S h S h := ⟨fun _ a => .inl a, fun _ _ e _ => e, hw⟩
theorem Step.trans {S S1 S2 : Nat → Prop} {h h1 h2 : AHeap} (a : Step S h S1 h1) (b : Step S1 h1 S2 h2) : Step S h S2 h2 where
  new j hj := by
    rcases b.new j hj with h3 | h3
    · exact a.new j h3
    · by_cases hs : S j
      · exact .inl hs
      · cases e : h.get j with
        | none => exact .inr rfl
        | some y => rw [a.keep j y e hs] at h3; cases h3
  keep j y e hs := b.keep j y (a.keep j y e hs) fun h1' => by
    rcases a.new j h1' with h3 | h3
    · exact hs h3
    · rw [e] at h3; cases h3
  wf := b.wf
theorem Ext.step {S : Nat → Prop} {h h' : AHeap} (a : Ext h h') : Step S h S h' := ⟨fun _ a => .inl a, fun j y e _ => a.keep j y e, a.wf⟩
theorem Step.put {S S1 : Nat → Prop} {h h1 : AHeap} (a : Step S h S1 h1) {o : Nat} {y : AObj} (hs : S1 o) (ho : h1.get o = some y) (x : AObj) : Step S h S1 (h1.put o x) :=
  a.trans ⟨fun _ h => .inl h, fun j z e hn => by rw [AHeap.get_put_ne _ _ (show j ≠ o from fun e1 => hn (e1 ▸ hs))]; exact e, a.wf.put ho x⟩
theorem Step.wider {S S1 S2 : Nat → Prop} {h h1 : AHeap} (a : Step S h S1 h1) (hn : ∀ j, S2 j → S1 j ∨ S j ∨ h.get j = none) : Step S h S2 h1 :=
  ⟨fun j hj => (hn j hj).elim (a.new j) id, a.keep, a.wf⟩

section
variable {S : Nat → Prop} {h : AHeap} {o : Nat} {tb : Tb} {L : Lay}

theorem TR.ext (a : TR S h o tb L) {h' : AHeap} (e : Ext h h') : TR S h' o tb L where
  top := e.keep _ _ a.top
  map := by obtain ⟨l, c, q1, q2, q3⟩ := a.map; exact ⟨l, c, e.keep _ _ q1, q2, q3⟩
  node k nd hk := e.keep _ _ (a.node k nd hk)
  ents k nd hk h2 := by obtain ⟨l, c, q1, q2, q3⟩ := a.ents k nd hk h2; exact ⟨l, c, e.keep _ _ q1, q2, q3⟩
  noEnts := a.noEnts
  inj := a.inj
  injE := a.injE
  apart := a.apart
  apartE := a.apartE
  inO := a.inO
  inM := a.inM
  inN := a.inN
  inE := a.inE
  there j hj := by
    cases q : h.get j with
    | none => exact absurd q (a.there j hj)
    | some y => rw [e.keep _ _ q]; simp

/-- What is put over what is there. -/
theorem there_put (hh : ∀ j, S j → h.get j ≠ none) (x : Nat) (y : AObj) : ∀ j, S j → (h.put x y).get j ≠ none := fun j hj => by
  rw [AHeap.get_put]
  split
  · simp
  · exact hh j hj

theorem entR_put {e x : Nat} {ents : NE} {y : AObj} (a : EntR h e ents) (hne : e ≠ x) : EntR (h.put x y) e ents := by
  obtain ⟨l, c, q1, q2, q3⟩ := a
  exact ⟨l, c, by rw [AHeap.get_put_ne _ _ hne]; exact q1, q2, q3⟩

theorem TR.m_ne_o (a : TR S h o tb L) : L.m ≠ o := fun e => by
  obtain ⟨l, c, q1, _⟩ := a.map
  rw [e, a.top] at q1; cases q1
theorem TR.ent_ne_o (a : TR S h o tb L) {k : Int} {nd : Nd} (hk : tb.nodes k = some nd) (h2 : nd.kind = 2) : L.ent k ≠ o := fun e => by
  obtain ⟨l, c, q1, _⟩ := a.ents k nd hk h2
  rw [e, a.top] at q1; cases q1
theorem TR.ent_ne_place (a : TR S h o tb L) {k j : Int} {nd nd' : Nd} (hk : tb.nodes k = some nd) (h2 : nd.kind = 2) (hj : tb.nodes j = some nd') : L.ent k ≠ L.place j := fun e => by
  obtain ⟨l, c, q1, _⟩ := a.ents k nd hk h2
  rw [e, a.node j nd' hj] at q1; cases q1
theorem TR.m_ne_place (a : TR S h o tb L) {j : Int} {nd' : Nd} (hj : tb.nodes j = some nd') : L.m ≠ L.place j := fun e => by
  obtain ⟨l, c, q1, _⟩ := a.map
  rw [e, a.node j nd' hj] at q1; cases q1

/-- Its own numbers. -/
theorem TR.setTop (a : TR S h o tb L) {tb' : Tb} (hn : tb'.nodes = tb.nodes) : TR S (h.put o (.cells (tbCells L tb') true)) o tb' L where
  top := AHeap.get_put_self _ _ _
  map := by
    obtain ⟨l, c, q1, q2, q3⟩ := a.map
    exact ⟨l, c, by rw [AHeap.get_put_ne _ _ a.m_ne_o]; exact q1, q2, by rw [hn]; exact q3⟩
  node k nd hk := by rw [hn] at hk; rw [AHeap.get_put_ne _ _ (a.apart k nd hk)]; exact a.node k nd hk
  ents k nd hk h2 := by rw [hn] at hk; exact entR_put (a.ents k nd hk h2) (a.ent_ne_o hk h2)
  noEnts := by rw [hn]; exact a.noEnts
  inj := by rw [hn]; exact a.inj
  injE := by rw [hn]; exact a.injE
  apart := by rw [hn]; exact a.apart
  apartE := by rw [hn]; exact a.apartE
  inO := a.inO
  inM := a.inM
  inN := by rw [hn]; exact a.inN
  inE := by rw [hn]; exact a.inE
  there := there_put a.there _ _

theorem upd_cases {f : Int → Option Nd} {k j : Int} {x : Option Nd} {nd : Nd} (h : upd f k x j = some nd) : (j = k ∧ x = some nd) ∨ (j ≠ k ∧ f j = some nd) := by
  by_cases e : j = k
  · subst e; rw [upd_self] at h; exact .inl ⟨rfl, h⟩
  · rw [upd_ne _ _ e] at h; exact .inr ⟨e, h⟩

/-- An inode's own cells. -/
theorem TR.setNode (a : TR S h o tb L) {k : Int} {nd nd' : Nd} (hk : tb.nodes k = some nd) (h1 : nd'.kind = nd.kind) (h2 : nd'.ents = nd.ents) :
    TR S (h.put (L.place k) (.cells (ndCells L k nd') true)) o { tb with nodes := upd tb.nodes k (some nd') } L where
  top := by rw [AHeap.get_put_ne _ _ (fun e => a.apart k nd hk e.symm)]; exact a.top
  map := by
    obtain ⟨l, c, q1, q2, q3⟩ := a.map
    refine ⟨l, c, by rw [AHeap.get_put_ne _ _ (a.m_ne_place hk)]; exact q1, q2, fun j => ?_⟩
    rw [q3]
    by_cases e : j = k
    · subst e; show _ = Option.map _ (upd _ _ _ _); rw [upd_self, hk]; rfl
    · show _ = Option.map _ (upd _ _ _ _); rw [upd_ne _ _ e]
  node j x hj := by
    rcases upd_cases hj with ⟨rfl, hx⟩ | ⟨e, hx⟩
    · cases hx; exact AHeap.get_put_self _ _ _
    · rw [AHeap.get_put_ne _ _ (fun e2 => e (a.inj _ _ _ _ hx hk e2))]; exact a.node j x hx
  ents j x hj h3 := by
    rcases upd_cases hj with ⟨rfl, hx⟩ | ⟨e, hx⟩
    · cases hx; rw [h2]; rw [h1] at h3; exact entR_put (a.ents _ nd hk h3) (a.ent_ne_place hk h3 hk)
    · exact entR_put (a.ents j x hx h3) (a.ent_ne_place hx h3 hk)
  noEnts j x hj h3 := by
    rcases upd_cases hj with ⟨rfl, hx⟩ | ⟨e, hx⟩
    · cases hx; rw [h2]; rw [h1] at h3; exact a.noEnts _ nd hk h3
    · exact a.noEnts j x hx h3
  inj i j x y hi hj := by
    rcases upd_cases hi with ⟨rfl, hx⟩ | ⟨_, hx⟩ <;> rcases upd_cases hj with ⟨rfl, hy⟩ | ⟨_, hy⟩
    · exact fun _ => rfl
    · exact a.inj _ _ _ _ hk hy
    · exact a.inj _ _ _ _ hx hk
    · exact a.inj _ _ _ _ hx hy
  injE i j x y hi hj h3 h4 := by
    rcases upd_cases hi with ⟨rfl, hx⟩ | ⟨_, hx⟩ <;> rcases upd_cases hj with ⟨rfl, hy⟩ | ⟨_, hy⟩
    · exact fun _ => rfl
    · cases hx; exact a.injE _ _ _ _ hk hy (h1 ▸ h3) h4
    · cases hy; exact a.injE _ _ _ _ hx hk h3 (h1 ▸ h4)
    · exact a.injE _ _ _ _ hx hy h3 h4
  apart j x hj := by
    rcases upd_cases hj with ⟨rfl, hx⟩ | ⟨e, hx⟩
    · exact a.apart _ _ hk
    · exact a.apart _ _ hx
  apartE j x hj h3 := by
    rcases upd_cases hj with ⟨rfl, hx⟩ | ⟨e, hx⟩
    · cases hx; exact a.apartE _ _ hk (h1 ▸ h3)
    · exact a.apartE _ _ hx h3
  inO := a.inO
  inM := a.inM
  inN j x hj := by
    rcases upd_cases hj with ⟨rfl, hx⟩ | ⟨e, hx⟩
    · exact a.inN _ _ hk
    · exact a.inN _ _ hx
  inE j x hj h3 := by
    rcases upd_cases hj with ⟨rfl, hx⟩ | ⟨e, hx⟩
    · cases hx; exact a.inE _ _ hk (h1 ▸ h3)
    · exact a.inE _ _ hx h3
  there := there_put a.there _ _

/-- A directory's entries. -/
theorem TR.setEnts (a : TR S h o tb L) {k : Int} {nd : Nd} (hk : tb.nodes k = some nd) (h2 : nd.kind = 2) {l : SE} {clock : Nat} {ents : NE} (hl : NEq l ents) (hc : Once l clock) :
    TR S (h.put (L.ent k) (.map (strE l) clock)) o { tb with nodes := upd tb.nodes k (some { nd with ents := ents }) } L where
  top := by rw [AHeap.get_put_ne _ _ (fun e => a.ent_ne_o hk h2 e.symm)]; exact a.top
  map := by
    obtain ⟨l, c, q1, q2, q3⟩ := a.map
    refine ⟨l, c, by rw [AHeap.get_put_ne _ _ (fun e => a.apartE k nd hk h2 e.symm)]; exact q1, q2, fun j => ?_⟩
    rw [q3]
    by_cases e : j = k
    · subst e; show _ = Option.map _ (upd _ _ _ _); rw [upd_self, hk]; rfl
    · show _ = Option.map _ (upd _ _ _ _); rw [upd_ne _ _ e]
  node j x hj := by
    rcases upd_cases hj with ⟨rfl, hx⟩ | ⟨e, hx⟩
    · cases hx; rw [AHeap.get_put_ne _ _ (fun e => a.ent_ne_place hk h2 hk e.symm)]; exact a.node _ nd hk
    · rw [AHeap.get_put_ne _ _ (fun e => a.ent_ne_place hk h2 hx e.symm)]; exact a.node j x hx
  ents j x hj h3 := by
    rcases upd_cases hj with ⟨rfl, hx⟩ | ⟨e, hx⟩
    · cases hx; exact ⟨l, clock, AHeap.get_put_self _ _ _, hl, hc⟩
    · exact entR_put (a.ents j x hx h3) (fun e2 => e (a.injE _ _ _ _ hx hk h3 h2 e2))
  noEnts j x hj h3 := by
    rcases upd_cases hj with ⟨rfl, hx⟩ | ⟨e, hx⟩
    · cases hx; exact absurd h2 h3
    · exact a.noEnts j x hx h3
  inj i j x y hi hj := by
    rcases upd_cases hi with ⟨rfl, hx⟩ | ⟨_, hx⟩ <;> rcases upd_cases hj with ⟨rfl, hy⟩ | ⟨_, hy⟩
    · exact fun _ => rfl
    · exact a.inj _ _ _ _ hk hy
    · exact a.inj _ _ _ _ hx hk
    · exact a.inj _ _ _ _ hx hy
  injE i j x y hi hj h3 h4 := by
    rcases upd_cases hi with ⟨rfl, hx⟩ | ⟨_, hx⟩ <;> rcases upd_cases hj with ⟨rfl, hy⟩ | ⟨_, hy⟩
    · exact fun _ => rfl
    · exact a.injE _ _ _ _ hk hy h2 h4
    · exact a.injE _ _ _ _ hx hk h3 h2
    · exact a.injE _ _ _ _ hx hy h3 h4
  apart j x hj := by
    rcases upd_cases hj with ⟨rfl, hx⟩ | ⟨e, hx⟩
    · exact a.apart _ _ hk
    · exact a.apart _ _ hx
  apartE j x hj h3 := by
    rcases upd_cases hj with ⟨rfl, hx⟩ | ⟨e, hx⟩
    · exact a.apartE _ _ hk h2
    · exact a.apartE _ _ hx h3
  inO := a.inO
  inM := a.inM
  inN j x hj := by
    rcases upd_cases hj with ⟨rfl, hx⟩ | ⟨e, hx⟩
    · exact a.inN _ _ hk
    · exact a.inN _ _ hx
  inE j x hj h3 := by
    rcases upd_cases hj with ⟨rfl, hx⟩ | ⟨e, hx⟩
    · exact a.inE _ _ hk h2
    · exact a.inE _ _ hx h3
  there := there_put a.there _ _

/-- An inode that goes. -/
theorem TR.delNode (a : TR S h o tb L) {k : Int} {l : IE} {clock : Nat} (hm : h.get L.m = some (.map (intE l) clock)) (hnd : (l.map (·.1)).Nodup) (hl : ∀ k, getI k l = (tb.nodes k).map fun _ => .ptr (L.place k) 0) :
    TR S (h.put L.m (.map (intE (delI k l)) clock)) o { tb with nodes := upd tb.nodes k none } L where
  top := by rw [AHeap.get_put_ne _ _ (fun e => a.m_ne_o e.symm)]; exact a.top
  map := by
    refine ⟨delI k l, clock, AHeap.get_put_self _ _ _, ?_, fun j => ?_⟩
    · have : (delI k l).map (·.1) = (l.map (·.1)).filter fun q => decide (q ≠ k) := by
        simp only [delI, List.filter_map]; rfl
      rw [this]; exact hnd.filter _
    · rw [getI_del, hl]
      by_cases e : j = k
      · subst e; show _ = Option.map _ (upd _ _ _ _); rw [upd_self]; simp
      · show _ = Option.map _ (upd _ _ _ _); rw [upd_ne _ _ e]; simp [e]
  node j x hj := by
    rcases upd_cases hj with ⟨rfl, hx⟩ | ⟨e, hx⟩
    · cases hx
    · rw [AHeap.get_put_ne _ _ (fun e => a.m_ne_place hx e.symm)]; exact a.node j x hx
  ents j x hj h3 := by
    rcases upd_cases hj with ⟨rfl, hx⟩ | ⟨e, hx⟩
    · cases hx
    · exact entR_put (a.ents j x hx h3) (a.apartE _ _ hx h3)
  noEnts j x hj h3 := by
    rcases upd_cases hj with ⟨rfl, hx⟩ | ⟨e, hx⟩
    · cases hx
    · exact a.noEnts j x hx h3
  inj i j x y hi hj := by
    rcases upd_cases hi with ⟨rfl, hx⟩ | ⟨_, hx⟩ <;> rcases upd_cases hj with ⟨rfl, hy⟩ | ⟨_, hy⟩
    · exact fun _ => rfl
    · cases hx
    · cases hy
    · exact a.inj _ _ _ _ hx hy
  injE i j x y hi hj h3 h4 := by
    rcases upd_cases hi with ⟨rfl, hx⟩ | ⟨_, hx⟩ <;> rcases upd_cases hj with ⟨rfl, hy⟩ | ⟨_, hy⟩
    · exact fun _ => rfl
    · cases hx
    · cases hy
    · exact a.injE _ _ _ _ hx hy h3 h4
  apart j x hj := by
    rcases upd_cases hj with ⟨rfl, hx⟩ | ⟨e, hx⟩
    · cases hx
    · exact a.apart _ _ hx
  apartE j x hj h3 := by
    rcases upd_cases hj with ⟨rfl, hx⟩ | ⟨e, hx⟩
    · cases hx
    · exact a.apartE _ _ hx h3
  inO := a.inO
  inM := a.inM
  inN j x hj := by
    rcases upd_cases hj with ⟨rfl, hx⟩ | ⟨e, hx⟩
    · cases hx
    · exact a.inN _ _ hx
  inE j x hj h3 := by
    rcases upd_cases hj with ⟨rfl, hx⟩ | ⟨e, hx⟩
    · cases hx
    · exact a.inE _ _ hx h3
  there := there_put a.there _ _

def Lay.set (L : Lay) (k : Int) (a e : Nat) : Lay := ⟨L.m, fun j => if j = k then a else L.place j, fun j => if j = k then e else L.ent j⟩
theorem Lay.set_place (L : Lay) (k : Int) (a e : Nat) : (L.set k a e).place k = a := if_pos rfl
theorem Lay.set_place_ne (L : Lay) {k j : Int} (a e : Nat) (h : j ≠ k) : (L.set k a e).place j = L.place j := if_neg h
theorem Lay.set_ent (L : Lay) (k : Int) (a e : Nat) : (L.set k a e).ent k = e := if_pos rfl
theorem Lay.set_ent_ne (L : Lay) {k j : Int} (a e : Nat) (h : j ≠ k) : (L.set k a e).ent j = L.ent j := if_neg h
theorem Lay.set_cells (L : Lay) {k j : Int} (a e : Nat) (h : j ≠ k) (nd : Nd) : ndCells (L.set k a e) j nd = ndCells L j nd := by
  simp only [ndCells, evOf, Lay.set_ent_ne _ _ _ h]

/-- An inode that comes. -/
theorem TR.addNode (a : TR S h o tb L) {k : Int} {nd : Nd} {x e : Nat} {l : IE} {clock : Nat} (hm : h.get L.m = some (.map (intE l) clock)) (hnd : (l.map (·.1)).Nodup) (hl : ∀ k, getI k l = (tb.nodes k).map fun _ => .ptr (L.place k) 0)
    (hk : tb.nodes k = none) (hx : h.get x = some (.cells (ndCells (L.set k x e) k nd) true)) (hxS : ¬ S x) (he : nd.kind = 2 → EntR h e nd.ents ∧ ¬ S e) (hne : nd.kind ≠ 2 → nd.ents = []) :
    TR (fun j => S j ∨ j = x ∨ (nd.kind = 2 ∧ j = e)) (h.put L.m (.map (intE (l ++ [(k, .ptr x 0, clock)])) (clock + 1))) o { tb with nodes := upd tb.nodes k (some nd) } (L.set k x e) where
  top := by rw [AHeap.get_put_ne _ _ (fun e => a.m_ne_o e.symm)]; exact a.top
  map := by
    refine ⟨_, _, AHeap.get_put_self _ _ _, ?_, fun j => ?_⟩
    · rw [List.map_append, List.nodup_append]
      refine ⟨hnd, by simp, fun p hp q hq => ?_⟩
      have hq : q = k := by simpa using hq
      subst hq
      have : q ∉ l.map (·.1) := getI_none.1 (by rw [hl, hk]; rfl)
      exact fun e => this (e ▸ hp)
    · rw [getI_append, hl]
      by_cases e : j = k
      · subst e; show _ = Option.map _ (upd _ _ _ _); rw [upd_self, hk, Lay.set_place]; simp [getI]
      · show _ = Option.map _ (upd _ _ _ _); rw [upd_ne _ _ e, Lay.set_place_ne _ _ _ e]
        cases tb.nodes j with
        | none => simp [getI, e]
        | some y => rfl
  node j y hj := by
    rcases upd_cases hj with ⟨rfl, hy⟩ | ⟨e1, hy⟩
    · cases hy; rw [Lay.set_place, AHeap.get_put_ne _ _ (show x ≠ L.m from fun e2 => hxS (e2 ▸ a.inM))]; exact hx
    · rw [Lay.set_place_ne _ _ _ e1, Lay.set_cells _ _ _ e1, AHeap.get_put_ne _ _ (fun e => a.m_ne_place hy e.symm)]; exact a.node j y hy
  ents j y hj h3 := by
    rcases upd_cases hj with ⟨rfl, hy⟩ | ⟨e1, hy⟩
    · cases hy; rw [Lay.set_ent]; exact entR_put (he h3).1 (fun e2 => (he h3).2 (show S e from e2 ▸ a.inM))
    · rw [Lay.set_ent_ne _ _ _ e1]; exact entR_put (a.ents j y hy h3) (a.apartE _ _ hy h3)
  noEnts j y hj h3 := by
    rcases upd_cases hj with ⟨rfl, hy⟩ | ⟨e1, hy⟩
    · cases hy; exact hne h3
    · exact a.noEnts j y hy h3
  inj i j y z hi hj := by
    rcases upd_cases hi with ⟨rfl, hy⟩ | ⟨e1, hy⟩ <;> rcases upd_cases hj with ⟨rfl, hz⟩ | ⟨e2, hz⟩
    · exact fun _ => rfl
    · rw [Lay.set_place, Lay.set_place_ne _ _ _ e2]; exact fun e3 => absurd (e3 ▸ a.inN _ _ hz) hxS
    · rw [Lay.set_place, Lay.set_place_ne _ _ _ e1]; exact fun e3 => absurd (e3 ▸ a.inN _ _ hy) hxS
    · rw [Lay.set_place_ne _ _ _ e1, Lay.set_place_ne _ _ _ e2]; exact a.inj _ _ _ _ hy hz
  injE i j y z hi hj h3 h4 := by
    rcases upd_cases hi with ⟨rfl, hy⟩ | ⟨e1, hy⟩ <;> rcases upd_cases hj with ⟨rfl, hz⟩ | ⟨e2, hz⟩
    · exact fun _ => rfl
    · cases hy; rw [Lay.set_ent, Lay.set_ent_ne _ _ _ e2]; exact fun e3 => absurd (show S e from e3 ▸ a.inE _ _ hz h4) (he h3).2
    · cases hz; rw [Lay.set_ent, Lay.set_ent_ne _ _ _ e1]; exact fun e3 => absurd (show S e from e3 ▸ a.inE _ _ hy h3) (he h4).2
    · rw [Lay.set_ent_ne _ _ _ e1, Lay.set_ent_ne _ _ _ e2]; exact a.injE _ _ _ _ hy hz h3 h4
  apart j y hj := by
    rcases upd_cases hj with ⟨rfl, hy⟩ | ⟨e1, hy⟩
    · rw [Lay.set_place]; exact fun e3 => hxS (e3 ▸ a.inO)
    · rw [Lay.set_place_ne _ _ _ e1]; exact a.apart _ _ hy
  apartE j y hj h3 := by
    rcases upd_cases hj with ⟨rfl, hy⟩ | ⟨e1, hy⟩
    · cases hy; rw [Lay.set_ent]; exact fun e3 => (he h3).2 (show S e from e3 ▸ a.inM)
    · rw [Lay.set_ent_ne _ _ _ e1]; exact a.apartE _ _ hy h3
  inO := .inl a.inO
  inM := .inl a.inM
  inN j y hj := by
    rcases upd_cases hj with ⟨rfl, hy⟩ | ⟨e1, hy⟩
    · rw [Lay.set_place]; exact .inr (.inl rfl)
    · rw [Lay.set_place_ne _ _ _ e1]; exact .inl (a.inN _ _ hy)
  inE j y hj h3 := by
    rcases upd_cases hj with ⟨rfl, hy⟩ | ⟨e1, hy⟩
    · cases hy; rw [Lay.set_ent]; exact .inr (.inr ⟨h3, rfl⟩)
    · rw [Lay.set_ent_ne _ _ _ e1]; exact .inl (a.inE _ _ hy h3)
  there j hj := by
    rw [AHeap.get_put]
    split
    · simp
    · rcases hj with hj | rfl | ⟨h2, rfl⟩
      · exact a.there j hj
      · rw [hx]; simp
      · obtain ⟨⟨l, c, q, _⟩, _⟩ := he h2
        rw [q]; simp
end

end Go.Am

set_option linter.unusedVariables false
set_option linter.unusedSimpArgs false
namespace Go.Am
open Go Go.Proofs

theorem ltT {i n : Nat} (h : i < n) : decide ((i : Int) < (n : Int)) = true := by simp; omega
theorem ltF {i n : Nat} (h : ¬ i < n) : decide ((i : Int) < (n : Int)) = false := by simp; omega

/-! ### Types -/
theorem ty3 : tab.get 3 = some ⟨.int .i64, 1, 8, false, .int .i64 0⟩ := rfl
theorem ty9 : tab.get 9 = some ⟨.str, 1, 16, false, .str []⟩ := rfl
theorem ty23 : tab.get 23 = some ⟨.ptr, 1, 8, false, .nilptr⟩ := rfl
theorem ty62 : tab.get 62 = some ⟨.ptr, 1, 8, false, .nilptr⟩ := rfl
theorem ty63 : tab.get 63 = some ⟨.map 2 3, 1, 8, false, .nilmap⟩ := rfl
theorem ty66 : tab.get 66 = some ⟨.map 1 62, 1, 8, false, .nilmap⟩ := rfl
theorem ty72 : tab.get 72 = some ⟨.func, 1, 8, false, .nilfunc⟩ := rfl
theorem ty90 : tab.get 90 = some ⟨.slice 72, 1, 24, false, .nilslice⟩ := rfl

section
variable {o : Nat}
theorem fa68_0 : afieldAddr tab 68 (.ptr o 0) 0 = some (.ptr o 0) := rfl
theorem fa68_1 : afieldAddr tab 68 (.ptr o 0) 1 = some (.ptr o 2) := rfl
theorem fa68_2 : afieldAddr tab 68 (.ptr o 0) 2 = some (.ptr o 4) := rfl
theorem fa68_3 : afieldAddr tab 68 (.ptr o 0) 3 = some (.ptr o 5) := rfl
theorem fa26_00 : afieldAddr tab 26 (.ptr o 0) 0 = some (.ptr o 0) := rfl
theorem fa26_01 : afieldAddr tab 26 (.ptr o 0) 1 = some (.ptr o 1) := rfl
theorem fa26_20 : afieldAddr tab 26 (.ptr o 2) 0 = some (.ptr o 2) := rfl
theorem fa26_21 : afieldAddr tab 26 (.ptr o 2) 1 = some (.ptr o 3) := rfl
theorem fa65_0 : afieldAddr tab 65 (.ptr o 0) 0 = some (.ptr o 0) := rfl
theorem fa65_1 : afieldAddr tab 65 (.ptr o 0) 1 = some (.ptr o 4) := rfl
theorem fa65_2 : afieldAddr tab 65 (.ptr o 0) 2 = some (.ptr o 5) := rfl
theorem fa35_0 : afieldAddr tab 35 (.ptr o 0) 0 = some (.ptr o 0) := rfl
theorem fa35_1 : afieldAddr tab 35 (.ptr o 0) 1 = some (.ptr o 1) := rfl
theorem fa35_2 : afieldAddr tab 35 (.ptr o 0) 2 = some (.ptr o 2) := rfl
theorem fa35_3 : afieldAddr tab 35 (.ptr o 0) 3 = some (.ptr o 3) := rfl
theorem nil_ptr {i : Nat} : nilA (.ptr o i) = some (.ptr o i) := rfl
theorem eq23 {i : Nat} : abin tab .eql 23 (.ptr o i) .nilptr = some (.bool false) := rfl
theorem ne23 {i : Nat} : abin tab .neq 23 (.ptr o i) .nilptr = some (.bool true) := rfl
theorem eq62 {i : Nat} : abin tab .eql 62 (.ptr o i) .nilptr = some (.bool false) := rfl
theorem eq62n : abin tab .eql 62 .nilptr .nilptr = some (.bool true) := rfl
theorem ne62 {i : Nat} : abin tab .neq 62 (.ptr o i) .nilptr = some (.bool true) := rfl
theorem ne62n : abin tab .neq 62 .nilptr .nilptr = some (.bool false) := rfl
theorem alen9 {h : AHeap} {s : Bs} : alen tab h 9 (.str s) = some (.int .i64 s.length) := rfl
end

section
variable {S : Nat → Prop} {h : AHeap} {o : Nat} {tb : Tb} {L : Lay}

theorem TR.l_qi (a : TR S h o tb L) : loadA tab h 3 (.ptr o 0) = some (.int .i64 tb.qi) := loadA_cell ty3 rfl a.top rfl
theorem TR.l_qb (a : TR S h o tb L) : loadA tab h 3 (.ptr o 1) = some (.int .i64 tb.qb) := loadA_cell ty3 rfl a.top rfl
theorem TR.l_ui (a : TR S h o tb L) : loadA tab h 3 (.ptr o 2) = some (.int .i64 tb.ui) := loadA_cell ty3 rfl a.top rfl
theorem TR.l_ub (a : TR S h o tb L) : loadA tab h 3 (.ptr o 3) = some (.int .i64 tb.ub) := loadA_cell ty3 rfl a.top rfl
theorem TR.l_m (a : TR S h o tb L) : loadA tab h 66 (.ptr o 4) = some (.map L.m) := loadA_cell ty66 rfl a.top rfl
theorem TR.l_last (a : TR S h o tb L) : loadA tab h 3 (.ptr o 5) = some (.int .i64 tb.last) := loadA_cell ty3 rfl a.top rfl
theorem TR.l_kind (a : TR S h o tb L) {k : Int} {nd : Nd} (hk : tb.nodes k = some nd) : loadA tab h 3 (.ptr (L.place k) 0) = some (.int .i64 nd.kind) := loadA_cell ty3 rfl (a.node _ _ hk) rfl
theorem TR.l_mode (a : TR S h o tb L) {k : Int} {nd : Nd} (hk : tb.nodes k = some nd) : loadA tab h 3 (.ptr (L.place k) 1) = some (.int .i64 nd.mode) := loadA_cell ty3 rfl (a.node _ _ hk) rfl
theorem TR.l_data (a : TR S h o tb L) {k : Int} {nd : Nd} (hk : tb.nodes k = some nd) : loadA tab h 9 (.ptr (L.place k) 2) = some (.str nd.data) := loadA_cell ty9 rfl (a.node _ _ hk) rfl
theorem TR.l_links (a : TR S h o tb L) {k : Int} {nd : Nd} (hk : tb.nodes k = some nd) : loadA tab h 3 (.ptr (L.place k) 3) = some (.int .i64 nd.links) := loadA_cell ty3 rfl (a.node _ _ hk) rfl
theorem TR.l_up (a : TR S h o tb L) {k : Int} {nd : Nd} (hk : tb.nodes k = some nd) : loadA tab h 3 (.ptr (L.place k) 4) = some (.int .i64 nd.up) := loadA_cell ty3 rfl (a.node _ _ hk) rfl
theorem TR.l_ents (a : TR S h o tb L) {k : Int} {nd : Nd} (hk : tb.nodes k = some nd) : loadA tab h 63 (.ptr (L.place k) 5) = some (evOf L k nd) := loadA_cell ty63 rfl (a.node _ _ hk) rfl

theorem TR.look (a : TR S h o tb L) (k : Int) : alookup tab h 66 (.map L.m) (.int .i64 k) false = some (match tb.nodes k with | some _ => .ptr (L.place k) 0 | none => .nilptr) := by
  obtain ⟨l, c, q1, q2, q3⟩ := a.map
  rw [lookup_int ty66 ty62 q1 q2, q3]
  cases tb.nodes k <;> rfl
theorem TR.look_some (a : TR S h o tb L) {k : Int} {nd : Nd} (hk : tb.nodes k = some nd) : alookup tab h 66 (.map L.m) (.int .i64 k) false = some (.ptr (L.place k) 0) := by rw [a.look, hk]
theorem TR.look_none (a : TR S h o tb L) {k : Int} (hk : tb.nodes k = none) : alookup tab h 66 (.map L.m) (.int .i64 k) false = some .nilptr := by rw [a.look, hk]

/-- What a name names in a directory. -/
theorem TR.find (a : TR S h o tb L) {k : Int} {nd : Nd} (hk : tb.nodes k = some nd) (s : Bs) : alookup tab h 63 (evOf L k nd) (.str s) true = some (match getN s nd.ents with | some n => .tuple [.int .i64 n, .bool true] | none => .tuple [.int .i64 0, .bool false]) := by
  by_cases h2 : nd.kind = 2
  · obtain ⟨l, c, q1, q2, q3⟩ := a.ents k nd hk h2
    simp only [evOf, h2, if_true]
    rw [lookup_str ty63 ty3 q1, q2.get]
    cases getN s nd.ents <;> rfl
  · simp only [evOf, h2, if_false, a.noEnts k nd hk h2]
    rfl

theorem TR.len (a : TR S h o tb L) {k : Int} {nd : Nd} (hk : tb.nodes k = some nd) : alen tab h 63 (evOf L k nd) = some (.int .i64 nd.ents.length) := by
  by_cases h2 : nd.kind = 2
  · obtain ⟨l, c, q1, q2, q3⟩ := a.ents k nd hk h2
    simp only [evOf, h2, if_true]
    rw [len_map ty63 q1]
    have := q2.len
    simp only [strE, List.length_map, this]
  · simp only [evOf, h2, if_false, a.noEnts k nd hk h2]
    rfl

def ptrOf (tb : Tb) (L : Lay) (k : Int) : AV := match tb.nodes k with | some _ => .ptr (L.place k) 0 | none => .nilptr

theorem get_run (a : TR S h o tb L) (k : Int) : EG (.fn 35) [.ptr o 0, .int .i64 k] h = some (ptrOf tb L k, h) := by
  refine run35 0 ?_
  unfold F35
  simp only [eq23, valK_s, boolK_f, nil_ptr, fa68_2, a.l_m, a.look]
  rfl

def findT (tb : Tb) (k : Int) (s : Bs) : Option Int := match tb.nodes k with | some nd => getN s nd.ents | none => none
def intOf (x : Option Int) : AV := .int .i64 (match x with | some n => n | none => 0)

theorem find_run (a : TR S h o tb L) (k : Int) (s : Bs) : EG (.fn 13) [.ptr o 0, .int .i64 k, .str s] h = some (.tuple [intOf (findT tb k s), .bool (findT tb k s).isSome], h) := by
  refine run13 0 ?_
  unfold F13
  rw [get_run a k]
  cases hk : tb.nodes k with
  | none => simp only [ptrOf, hk, bothK_s, eq62n, valK_s, boolK_t, findT]; rfl
  | some nd =>
    simp only [ptrOf, hk, bothK_s, eq62, valK_s, boolK_f, nil_ptr, fa65_2, a.l_ents hk, a.find hk, findT]
    cases getN s nd.ents <;> rfl

/-- An inode as it is told. -/
def inoV (nd : Nd) : AV := .agg [.int .i64 nd.kind, .int .i64 nd.mode, .str nd.data, .int .i64 nd.links]
def ino0 : AV := .agg [.int .i64 0, .int .i64 0, .str [], .int .i64 0]
def nodeV (tb : Tb) (k : Int) : AV := match tb.nodes k with | some nd => inoV nd | none => ino0

theorem node_run (a : TR S h o tb L) (hw : h.WF) (k : Int) : ∃ h', EG (.fn 12) [.ptr o 0, .int .i64 k] h = some (.tuple [nodeV tb k, .bool (tb.nodes k).isSome], h') ∧ Ext h h' := by
  have x1 : Ext h (h.add (.cells [.int .i64 0, .int .i64 0, .str [], .int .i64 0] true)) := (Ext.refl hw).add _
  have a1 := a.ext x1
  have g1 : (h.add (.cells [.int .i64 0, .int .i64 0, .str [], .int .i64 0] true)).get h.next = some (.cells [.int .i64 0, .int .i64 0, .str [], .int .i64 0] true) := AHeap.get_add_self _ _
  have n0 : newCells h [.int .i64 0, .int .i64 0, .str [], .int .i64 0] (fun o => .ptr o 0) = some (.ptr h.next 0, h.add (.cells [.int .i64 0, .int .i64 0, .str [], .int .i64 0] true)) := rfl
  generalize hh1 : h.add (.cells [.int .i64 0, .int .i64 0, .str [], .int .i64 0] true) = h1 at *
  have st : ∀ xs : List AV, xs.length = 4 → allOne xs = true → storeA tab h1 35 (.ptr h.next 0) (.agg xs) = some (h1.put h.next (.cells xs true)) ∧ loadA tab (h1.put h.next (.cells xs true)) 35 (.ptr h.next 0) = some (.agg xs) ∧ Ext h (h1.put h.next (.cells xs true)) := fun xs hx ho => by
    match xs, hx with
    | [x0, x1', x2, x3], _ =>
      have t35 : ∃ ty, tab.get 35 = some ty ∧ ty.size = 4 ∧ ty.agg = true := ⟨_, rfl, rfl, rfl⟩
      obtain ⟨ty, t1, t2, t3⟩ := t35
      refine ⟨?_, ?_, x1.put hw.new g1 _⟩
      · simp only [storeA, astore, g1, t1, t2, AV.cells, ho]
        rfl
      · simp only [loadA, aload, AHeap.get_put_self, t1, t2, t3, cond_true]
        rfl
  cases hk : tb.nodes k with
  | none =>
    obtain ⟨s1, s2, s3⟩ := st [.int .i64 0, .int .i64 0, .str [], .int .i64 0] rfl rfl
    refine ⟨_, run12 0 ?_, s3⟩
    unfold F12
    have b : abuild tab 35 [] = some (.agg [.int .i64 0, .int .i64 0, .str [], .int .i64 0]) := rfl
    simp only [n0, bothK_s, get_run a1 k, ptrOf, hk, eq62n, valK_s, boolK_t, b, s1, s2, hpK_s, nodeV]
    rfl
  | some nd =>
    obtain ⟨s1, s2, s3⟩ := st [.int .i64 nd.kind, .int .i64 nd.mode, .str nd.data, .int .i64 nd.links] rfl rfl
    refine ⟨_, run12 0 ?_, s3⟩
    unfold F12
    have l1 : loadA tab h1 35 (.ptr (L.place k) 0) = some (.agg [.int .i64 nd.kind, .int .i64 nd.mode, .str nd.data, .int .i64 nd.links]) := by
      have t35 : ∃ ty, tab.get 35 = some ty ∧ ty.size = 4 ∧ ty.agg = true := ⟨_, rfl, rfl, rfl⟩
      obtain ⟨ty, t1, t2, t3⟩ := t35
      simp only [loadA, aload, a1.node k nd hk, t1, t2, t3, cond_true]
      rfl
    simp only [n0, bothK_s, get_run a1 k, ptrOf, hk, eq62, valK_s, boolK_f, nil_ptr, fa65_0, l1, s1, s2, hpK_s, nodeV, inoV]
    rfl

def upT (tb : Tb) (k : Int) : Int := match tb.nodes k with | some nd => nd.up | none => 0

theorem up_run (a : TR S h o tb L) (k : Int) : EG (.fn 18) [.ptr o 0, .int .i64 k] h = some (.int .i64 (upT tb k), h) := by
  refine run18 0 ?_
  unfold F18
  rw [get_run a k]
  cases hk : tb.nodes k with
  | none => simp only [ptrOf, hk, bothK_s, eq62n, valK_s, boolK_t, upT]
  | some nd => simp only [ptrOf, hk, bothK_s, eq62, valK_s, boolK_f, nil_ptr, fa65_1, a.l_up hk, upT]

/-- Two numbers in a cell of their own. -/
theorem quota_cell (hw : h.WF) {x y : Int} : ∃ h1 h2, newCells h [.int .i64 0, .int .i64 0] (fun o => .ptr o 0) = some (.ptr h.next 0, h1) ∧ Ext h h1 ∧ storeA tab h1 26 (.ptr h.next 0) (.agg [.int .i64 x, .int .i64 y]) = some h2 ∧ loadA tab h2 26 (.ptr h.next 0) = some (.agg [.int .i64 x, .int .i64 y]) ∧ Ext h h2 := by
  have x1 : Ext h (h.add (.cells [.int .i64 0, .int .i64 0] true)) := (Ext.refl hw).add _
  have g1 : (h.add (.cells [.int .i64 0, .int .i64 0] true)).get h.next = some (.cells [.int .i64 0, .int .i64 0] true) := AHeap.get_add_self _ _
  refine ⟨_, (h.add (.cells [.int .i64 0, .int .i64 0] true)).put h.next (.cells [.int .i64 x, .int .i64 y] true), rfl, x1, ?_, ?_, x1.put hw.new g1 _⟩
  · have t26 : ∃ ty, tab.get 26 = some ty ∧ ty.size = 2 ∧ ty.agg = true := ⟨_, rfl, rfl, rfl⟩
    obtain ⟨ty, t1, t2, t3⟩ := t26
    simp only [storeA, astore, g1, t1, t2, AV.cells]
    rfl
  · have t26 : ∃ ty, tab.get 26 = some ty ∧ ty.size = 2 ∧ ty.agg = true := ⟨_, rfl, rfl, rfl⟩
    obtain ⟨ty, t1, t2, t3⟩ := t26
    simp only [loadA, aload, AHeap.get_put_self, t1, t2, t3, cond_true]
    rfl

theorem TR.l_quota (a : TR S h o tb L) : loadA tab h 26 (.ptr o 0) = some (.agg [.int .i64 tb.qi, .int .i64 tb.qb]) := by
  have t26 : ∃ ty, tab.get 26 = some ty ∧ ty.size = 2 ∧ ty.agg = true := ⟨_, rfl, rfl, rfl⟩
  obtain ⟨ty, t1, t2, t3⟩ := t26
  simp only [loadA, aload, a.top, t1, t2, t3, cond_true]
  rfl
theorem TR.l_used (a : TR S h o tb L) : loadA tab h 26 (.ptr o 2) = some (.agg [.int .i64 tb.ui, .int .i64 tb.ub]) := by
  have t26 : ∃ ty, tab.get 26 = some ty ∧ ty.size = 2 ∧ ty.agg = true := ⟨_, rfl, rfl, rfl⟩
  obtain ⟨ty, t1, t2, t3⟩ := t26
  simp only [loadA, aload, a.top, t1, t2, t3, cond_true]
  rfl

theorem used_run (a : TR S h o tb L) (hw : h.WF) : ∃ h', EG (.fn 11) [.ptr o 0] h = some (.agg [.int .i64 tb.ui, .int .i64 tb.ub], h') ∧ Ext h h' := by
  obtain ⟨h1, h2, n0, x1, s1, l1, x2⟩ := quota_cell hw (x := tb.ui) (y := tb.ub)
  refine ⟨h2, run11 0 ?_, x2⟩
  unfold F11
  simp only [n0, bothK_s, eq23, valK_s, boolK_f, nil_ptr, fa68_1, (a.ext x1).l_used, s1, hpK_s, l1]

theorem quota_run (a : TR S h o tb L) (hw : h.WF) : ∃ h', EG (.fn 54) [.ptr o 0] h = some (.agg [.int .i64 tb.qi, .int .i64 tb.qb], h') ∧ Ext h h' := by
  obtain ⟨h1, h2, n0, x1, s1, l1, x2⟩ := quota_cell hw (x := tb.qi) (y := tb.qb)
  refine ⟨h2, run54 0 ?_, x2⟩
  unfold F54
  simp only [n0, bothK_s, eq23, valK_s, boolK_f, nil_ptr, fa68_0, (a.ext x1).l_quota, s1, hpK_s, l1]

theorem root_run (i : Nat) : EG (.fn 55) [.ptr o i] h = some (.int .i64 1, h) := by
  refine run55 0 ?_
  unfold F55
  simp only [eq23, valK_s, boolK_f]

/-- The names of a directory. -/
def namesT (tb : Tb) (k : Int) : List Bs := match tb.nodes k with | some nd => sortS (nd.ents.map (·.1)) | none => []

def SRow (h : AHeap) (v : AV) (l : List Bs) : Prop := Row h v l.length 1 (l.map .str)

/-- A row of texts of its own. -/
def SOwn (h0 h : AHeap) (v : AV) (l : List Bs) : Prop := Own h0 h v l.length 1 (l.map .str)
theorem SOwn.row {h0 h : AHeap} {v : AV} {l : List Bs} (a : SOwn h0 h v l) : SRow h v l := Own.row a

theorem names_own (a : TR S h o tb L) (hw : h.WF) (k : Int) (hn : ∀ nd, tb.nodes k = some nd → nd.ents.length < 1000000000 ∧ ∀ e ∈ nd.ents, e.1.length < 1000000000000) :
    ∃ v h', EG (.fn 17) [.ptr o 0, .int .i64 k] h = some (v, h') ∧ SOwn h h' v (namesT tb k) ∧ Ext h h' := by
  cases hk : tb.nodes k with
  | none =>
    refine ⟨.nilslice, h, run17 0 ?_, ?_, Ext.refl hw⟩
    · unfold F17
      simp only [get_run a k, ptrOf, hk, bothK_s, eq62n, valK_s, boolK_t]
    · simp only [namesT, hk]; exact ⟨rfl, .inl ⟨rfl, rfl⟩⟩
  | some nd =>
    have x1 : ∀ x, Ext h (h.add x) := fun x => (Ext.refl hw).add x
    by_cases h2 : nd.kind = 2
    · obtain ⟨l, c, q1, q2, q3⟩ := a.ents k nd hk h2
      have kp : EG (.fn 39) [.map (L.ent k)] h = some (.func 66 [] [.ptr h.next 0], h.add (.keys (.map (L.ent k)))) := run_prim (f := 39) rfl rfl
      have g1 : (h.add (.keys (.map (L.ent k)))).get h.next = some (.keys (.map (L.ent k))) := AHeap.get_add_self _ _
      have g2 := (x1 (.keys (.map (L.ent k)))).keep _ _ q1
      have hks := keysOf_str l
      have hlen : l.length < 1000000000 := by rw [q2.len]; exact (hn nd hk).1
      have hall : (l.map (·.1)).all (fun s => Nat.blt s.length 1000000000000) = true := by
        rw [List.all_eq_true, q2.keys]
        intro s hs
        obtain ⟨e, he, rfl⟩ := List.mem_map.1 hs
        simpa using (hn nd hk).2 e he
      have key : ∃ v h', EG (.fn 38) [.func 66 [] [.ptr h.next 0]] (h.add (.keys (.map (L.ent k)))) = some (v, h') ∧ SOwn h h' v (sortS (nd.ents.map (·.1))) ∧ Ext h h' := by
        rw [← q2.keys]
        cases hl : l.map (·.1) with
        | nil =>
          refine ⟨.nilslice, h.add (.keys (.map (L.ent k))), run_prim (f := 38) rfl ?_, ⟨rfl, .inl ⟨rfl, rfl⟩⟩, x1 _⟩
          rw [hl] at hks
          simp only [sortedP, g1, g2, hks]; rfl
        | cons s0 ss =>
          rw [hl] at hks hall
          have hlen2 : (s0 :: ss).length < 1000000000 := by rw [← hl, List.length_map]; exact hlen
          have hb : (stampB c (strE l) && Nat.blt (s0 :: ss).length 1000000000 && (s0 :: ss).all (fun s => Nat.blt s.length 1000000000000)) = true := by
            rw [stampB_str q3, hall]
            simpa using hlen2
          refine ⟨_, _, run_prim (f := 38) rfl (show sortedP [66] EG [.func 66 [] [.ptr h.next 0]] _ = some (.slice (h.add (.keys (.map (L.ent k)))).next 0 (s0 :: ss).length 1, (h.add (.keys (.map (L.ent k)))).add (.cells ((sortS (s0 :: ss)).map .str) true)) from ?_), ?_, (x1 _).add _⟩
          · simp only [sortedP, g1, g2, hks, hb]; rfl
          · have hsl := sortS_len (s0 :: ss)
            refine ⟨by simp, .inr ⟨_, by rw [hsl], AHeap.get_add_self _ _, (x1 _).new⟩⟩
      obtain ⟨v, h', e1, e2, e3⟩ := key
      refine ⟨v, h', run17 0 ?_, ?_, e3⟩
      · unfold F17
        simp only [get_run a k, ptrOf, hk, bothK_s, eq62, valK_s, boolK_f, nil_ptr, fa65_2, a.l_ents hk, evOf, h2, if_true, kp, e1]
      · simp only [namesT, hk]; exact e2
    · have kp : EG (.fn 39) [.nilmap] h = some (.func 66 [] [.ptr h.next 0], h.add (.keys .nilmap)) := run_prim (f := 39) rfl rfl
      have g1 : (h.add (.keys .nilmap)).get h.next = some (.keys .nilmap) := AHeap.get_add_self _ _
      have sp : EG (.fn 38) [.func 66 [] [.ptr h.next 0]] (h.add (.keys .nilmap)) = some (.nilslice, h.add (.keys .nilmap)) := run_prim (f := 38) rfl (by simp only [sortedP, g1]; rfl)
      refine ⟨.nilslice, h.add (.keys .nilmap), run17 0 ?_, ?_, x1 _⟩
      · unfold F17
        simp only [get_run a k, ptrOf, hk, bothK_s, eq62, valK_s, boolK_f, nil_ptr, fa65_2, a.l_ents hk, evOf, h2, if_false, kp, sp]
      · simp only [namesT, hk, a.noEnts k nd hk h2]; exact ⟨rfl, .inl ⟨rfl, rfl⟩⟩

theorem names_run (a : TR S h o tb L) (hw : h.WF) (k : Int) (hn : ∀ nd, tb.nodes k = some nd → nd.ents.length < 1000000000 ∧ ∀ e ∈ nd.ents, e.1.length < 1000000000000) :
    ∃ v h', EG (.fn 17) [.ptr o 0, .int .i64 k] h = some (v, h') ∧ SRow h' v (namesT tb k) ∧ Ext h h' := by
  obtain ⟨v, h', q1, q2, q3⟩ := names_own a hw k hn
  exact ⟨v, h', q1, q2.row, q3⟩
end

/-! ### What is asked, one behind the other -/

/-- A function that tells an error's number, and changes nothing. -/
def Ask (h : AHeap) (f : AV) (e : Int) : Prop := ∃ g p c, f = .func g p c ∧ ∀ h', Ext h h' → ∃ h'', EG (.fn g) (p ++ c) h' = some (.int .i64 e, h'') ∧ Ext h' h''

def Asks (h : AHeap) : List AV → List Int → Prop
  | [], [] => True
  | f :: fs, e :: es => Ask h f e ∧ (e = 0 → Asks h fs es)
  | _, _ => False

def firstE : List Int → Int
  | [] => 0
  | e :: es => if e = 0 then firstE es else e

theorem Ask.ext {h h1 : AHeap} {f : AV} {e : Int} (a : Ask h f e) (x : Ext h h1) : Ask h1 f e := by
  obtain ⟨g, p, c, rfl, q⟩ := a
  exact ⟨g, p, c, rfl, fun h' x' => q h' (x.trans x')⟩

theorem Asks.ext {h h1 : AHeap} : ∀ {fs : List AV} {es : List Int}, Asks h fs es → Ext h h1 → Asks h1 fs es
  | [], [], _, _ => trivial
  | f :: fs, e :: es, ⟨a, b⟩, x => ⟨a.ext x, fun h0 => (b h0).ext x⟩

theorem must_run {h : AHeap} (b : Bool) (e : Int) : EG (.fn 25) [.bool b, .int .i64 e] h = some (.int .i64 (if b = true then 0 else e), h) := by
  refine run25 0 ?_
  unfold F25
  cases b <;> simp

theorem first_run {h : AHeap} {v : AV} {fs : List AV} {es : List Int} (a : Asks h fs es) (r : Row h v fs.length 1 fs) (hfn : fs.length < 1000) (hw : h.WF) : ∃ h', EG (.fn 26) [v] h = some (.int .i64 (firstE es), h') ∧ Ext h h' := by
  suffices ∀ N, fs.length < N → ∃ h', F26 EG N v h = some (.int .i64 (firstE es), h') ∧ Ext h h' by
    obtain ⟨h', e, x⟩ := this (fs.length + 1) (by omega)
    exact ⟨h', run26 _ e, x⟩
  intro N hN
  unfold F26
  rw [r.len ty90]
  simp only [valK_s]
  refine loop_rule (σ := AV × AV × AV × Unit) (R := AV × AHeap) (total := fs.length)
    (I := fun i st hh => i ≤ fs.length ∧ Ext h hh ∧ st = (v, .int .i64 (fs.length : Int), .int .i64 (i : Int), ()) ∧ i < 4611686018427387904 ∧ ∃ es', Asks h (fs.drop i) es' ∧ firstE es' = firstE es)
    (Q := fun o => ∃ h', o = some (.int .i64 (firstE es), h') ∧ Ext h h') ?_ N 0 _ _ ⟨by omega, Ext.refl hw, rfl, by omega, es, a, rfl⟩ (by omega) (by omega)
  rintro i st hh nx ⟨hi, hx, rfl, hi2, es', h1, h2⟩
  simp only [F26_b2, abin_lss, valK_s]
  by_cases hlt : i < fs.length
  · have hd : fs.drop i = fs[i] :: fs.drop (i + 1) := List.drop_eq_getElem_cons hlt
    rw [hd] at h1
    match es', h1 with
    | e :: es', ⟨⟨g, pp, c, hf, q⟩, q2⟩ =>
      obtain ⟨p, b1, b2⟩ := (r.ext hx).get1 ty90 ty72 rfl rfl (List.getElem?_eq_getElem hlt) (k := .i64)
      obtain ⟨h3, b3, b4⟩ := q hh hx
      simp only [ltT hlt, boolK_t, b1, b2, valK_s, hf, callA_func, List.nil_append, b3, bothK_s, abin_neq]
      by_cases he : e = 0
      · left
        subst he
        simp only [decide_true, Bool.not_true, boolK_f, abin_inc hi2, valK_s]
        exact ⟨hlt, _, _, rfl, by omega, hx.trans b4, rfl, by omega, es', q2 rfl, by simpa [firstE] using h2⟩
      · right
        simp only [decide_eq_false he, Bool.not_false, boolK_t, unmark_nil, hpK_s]
        refine ⟨_, ?_, hx.trans b4⟩
        rw [← h2]
        simp [firstE, he]
  · right
    have : fs.drop i = [] := List.drop_of_length_le (by omega)
    rw [this] at h1
    match es', h1 with
    | [], _ =>
      simp only [ltF hlt, boolK_f, unmark_nil, hpK_s]
      exact ⟨_, by rw [← h2]; rfl, hx⟩

end Go.Am

set_option linter.unusedVariables false
set_option linter.unusedSimpArgs false
namespace Go.Am
open Go Go.Proofs

theorem ty4 : tab.get 4 = some ⟨.bool, 1, 1, false, .bool false⟩ := rfl
theorem ty70 : tab.get 70 = some ⟨.map 1 4, 1, 8, false, .nilmap⟩ := rfl

theorem box {h : AHeap} (hw : h.WF) (v : AV) (hc : v.cells = [v]) (h1 : v.one = true) : ∃ b h', boxA h v = some (.ptr b 0, h') ∧ h'.get b = some (.cells [v] true) ∧ Ext h h' ∧ h.get b = none := by
  refine ⟨h.next, h.add (.cells [v] true), ?_, AHeap.get_add_self _ _, (Ext.refl hw).add _, hw.new⟩
  simp only [boxA, newCells, hc, allOne, h1]
  rfl

theorem ld23 {h : AHeap} {b o : Nat} {rw : Bool} (g : h.get b = some (.cells [.ptr o 0] rw)) : loadA tab h 23 (.ptr b 0) = some (.ptr o 0) := loadA_cell ty23 rfl g rfl
theorem ld3 {h : AHeap} {b : Nat} {n : Int} {rw : Bool} (g : h.get b = some (.cells [.int .i64 n] rw)) : loadA tab h 3 (.ptr b 0) = some (.int .i64 n) := loadA_cell ty3 rfl g rfl
theorem ld9 {h : AHeap} {b : Nat} {s : Bs} {rw : Bool} (g : h.get b = some (.cells [.str s] rw)) : loadA tab h 9 (.ptr b 0) = some (.str s) := loadA_cell ty9 rfl g rfl

section
variable {S : Nat → Prop} {h : AHeap} {o : Nat} {tb : Tb} {L : Lay}

def dirE (tb : Tb) (k : Int) : Int := match tb.nodes k with | some nd => if nd.kind = 2 then 0 else 8 | none => 5
def fileE (tb : Tb) (k : Int) : Int := match tb.nodes k with | some nd => if nd.kind = 2 then 7 else if nd.kind = 1 then 0 else 2 | none => 5
def freeE (tb : Tb) (k : Int) (s : Bs) : Int := if (findT tb k s).isSome = true then 6 else 0
def entryE (tb : Tb) (k : Int) (s : Bs) : Int := if (findT tb k s).isSome = true then 0 else 5
def roomE (tb : Tb) (i b : Int) : Int := if tb.ui + i ≤ tb.qi ∧ tb.ub + b ≤ tb.qb then 0 else 10
def goodName (s : Bs) : Bool := !decide (s = []) && !decide (s = [46]) && !decide (s = [46, 46]) && !hasAny [47, 0] s
def nameE (s : Bs) : Int := if 56 < s.length then 3 else if goodName s = true then 0 else 2
def goodLike (kind mode : Int) (data : Bs) : Bool := (decide (kind = 1) || (decide (kind = 2) && decide (data = [])) || (decide (kind = 3) && !decide (data = []) && decide (data.length ≤ 255) && decide (idxB 0 data 0 < 0))) && decide (0 ≤ mode) && decide (mode ≤ 511)
def likeE (kind mode : Int) (data : Bs) : Int := if goodLike kind mode data = true then 0 else 2

/-- What the library says of a name. -/
def AnyOK (s : Bs) : Prop := ∀ h : AHeap, h.WF → ∃ h', EG (.fn 59) [.str s, .str [47, 0]] h = some (.bool (hasAny [47, 0] s), h') ∧ Ext h h'

theorem anyOK {s : Bs} (h1 : s.length < 4294967281) : AnyOK s := fun h hw => by
  refine ⟨h, run_prim (f := 59) rfl ?_, Ext.refl hw⟩
  have : (Nat.blt s.length 4294967281 && Nat.blt ([47, 0] : Bs).length 4294967281 && Nat.ble 2 ([47, 0] : Bs).length && ([47, 0] : Bs).all (fun b => Nat.blt b.toNat 128)) = true := by
    rw [show Nat.blt s.length 4294967281 = true by simpa using h1]
    rfl
  simp only [containsAnyP, this, cond_true]
theorem anyOK_ascii {s : Bs} (h1 : s.length < 4294967281) (h2 : s.all (fun b => Nat.blt b.toNat 128) = true) : AnyOK s := anyOK h1

theorem there_run (i : Nat) : EG (.fn 27) [.ptr o i] h = some (.int .i64 0, h) := by
  refine run27 0 ?_
  unfold F27
  simp only [ne23, valK_s, must_run, bothK_s, if_true]

theorem there_ask : Ask h (.func 27 [.ptr o 0] []) 0 := ⟨27, [.ptr o 0], [], rfl, fun h' x' => ⟨h', there_run 0, Ext.refl x'.wf⟩⟩

theorem dir_run (a : TR S h o tb L) (hw : h.WF) (k : Int) : ∃ c h', EG (.fn 28) [.ptr o 0, .int .i64 k] h = some (.func 57 [] c, h') ∧ Ext h h' ∧ Ask h' (.func 57 [] c) (dirE tb k) := by
  obtain ⟨b1, h1, e1, g1, x1, n1⟩ := box hw (.ptr o 0) rfl rfl
  obtain ⟨b2, h2, e2, g2, x2, n2⟩ := box x1.wf (.int .i64 k) rfl rfl
  refine ⟨[.ptr b1 0, .ptr b2 0], h2, run28 0 ?_, x1.trans x2, 57, [], _, rfl, fun h' x' => ⟨h', run57 0 ?_, Ext.refl x'.wf⟩⟩
  · unfold F28
    simp only [e1, e2, bothK_s]
  · have a' := a.ext ((x1.trans x2).trans x')
    unfold F57
    simp only [ld23 (x'.keep _ _ (x2.keep _ _ g1)), ld3 (x'.keep _ _ g2), valK_s, get_run a', bothK_s]
    cases hk : tb.nodes k with
    | none => simp only [ptrOf, hk, eq62n, valK_s, boolK_t, dirE]
    | some nd =>
      simp only [ptrOf, hk, eq62, valK_s, boolK_f, nil_ptr, fa65_0, fa35_0, a'.l_kind hk, abin_eql, must_run, bothK_s, dirE, decide_eq_true_eq]

theorem file_run (a : TR S h o tb L) (hw : h.WF) (k : Int) : ∃ c h', EG (.fn 33) [.ptr o 0, .int .i64 k] h = some (.func 62 [] c, h') ∧ Ext h h' ∧ Ask h' (.func 62 [] c) (fileE tb k) := by
  obtain ⟨b1, h1, e1, g1, x1, n1⟩ := box hw (.ptr o 0) rfl rfl
  obtain ⟨b2, h2, e2, g2, x2, n2⟩ := box x1.wf (.int .i64 k) rfl rfl
  refine ⟨[.ptr b1 0, .ptr b2 0], h2, run33 0 ?_, x1.trans x2, 62, [], _, rfl, fun h' x' => ⟨h', run62 0 ?_, Ext.refl x'.wf⟩⟩
  · unfold F33
    simp only [e1, e2, bothK_s]
  · have a' := a.ext ((x1.trans x2).trans x')
    unfold F62
    simp only [ld23 (x'.keep _ _ (x2.keep _ _ g1)), ld3 (x'.keep _ _ g2), valK_s, get_run a', bothK_s]
    cases hk : tb.nodes k with
    | none => simp only [ptrOf, hk, eq62n, valK_s, boolK_t, fileE]
    | some nd =>
      simp only [ptrOf, hk, eq62, valK_s, boolK_f, nil_ptr, fa65_0, fa35_0, a'.l_kind hk, abin_eql, must_run, bothK_s, fileE, boolK_b, decide_eq_true_eq]
      by_cases h2 : nd.kind = 2 <;> simp [h2]

theorem free_run (a : TR S h o tb L) (hw : h.WF) (k : Int) (s : Bs) : ∃ c h', EG (.fn 30) [.ptr o 0, .int .i64 k, .str s] h = some (.func 60 [] c, h') ∧ Ext h h' ∧ Ask h' (.func 60 [] c) (freeE tb k s) := by
  obtain ⟨b1, h1, e1, g1, x1, n1⟩ := box hw (.ptr o 0) rfl rfl
  obtain ⟨b2, h2, e2, g2, x2, n2⟩ := box x1.wf (.int .i64 k) rfl rfl
  obtain ⟨b3, h3, e3, g3, x3, n3⟩ := box x2.wf (.str s) rfl rfl
  refine ⟨[.ptr b1 0, .ptr b2 0, .ptr b3 0], h3, run30 0 ?_, (x1.trans x2).trans x3, 60, [], _, rfl, fun h' x' => ⟨h', run60 0 ?_, Ext.refl x'.wf⟩⟩
  · unfold F30
    simp only [e1, e2, e3, bothK_s]
  · have a' := a.ext (((x1.trans x2).trans x3).trans x')
    unfold F60
    simp only [ld23 (x'.keep _ _ (x3.keep _ _ (x2.keep _ _ g1))), ld3 (x'.keep _ _ (x3.keep _ _ g2)), ld9 (x'.keep _ _ g3), valK_s, find_run a', bothK_s, extractA_0, extractA_1, aun_not, must_run, freeE]
    cases (findT tb k s).isSome <;> rfl

theorem entry_run (a : TR S h o tb L) (hw : h.WF) (k : Int) (s : Bs) : ∃ c h', EG (.fn 37) [.ptr o 0, .int .i64 k, .str s] h = some (.func 63 [] c, h') ∧ Ext h h' ∧ Ask h' (.func 63 [] c) (entryE tb k s) := by
  obtain ⟨b1, h1, e1, g1, x1, n1⟩ := box hw (.ptr o 0) rfl rfl
  obtain ⟨b2, h2, e2, g2, x2, n2⟩ := box x1.wf (.int .i64 k) rfl rfl
  obtain ⟨b3, h3, e3, g3, x3, n3⟩ := box x2.wf (.str s) rfl rfl
  refine ⟨[.ptr b1 0, .ptr b2 0, .ptr b3 0], h3, run37 0 ?_, (x1.trans x2).trans x3, 63, [], _, rfl, fun h' x' => ⟨h', run63 0 ?_, Ext.refl x'.wf⟩⟩
  · unfold F37
    simp only [e1, e2, e3, bothK_s]
  · have a' := a.ext (((x1.trans x2).trans x3).trans x')
    unfold F63
    simp only [ld23 (x'.keep _ _ (x3.keep _ _ (x2.keep _ _ g1))), ld3 (x'.keep _ _ (x3.keep _ _ g2)), ld9 (x'.keep _ _ g3), valK_s, find_run a', bothK_s, extractA_0, extractA_1, must_run, entryE]

theorem named_run (hw : h.WF) {s : Bs} (hs : s.length ≤ 56 → AnyOK s) : ∃ c h', EG (.fn 29) [.str s] h = some (.func 58 [] c, h') ∧ Ext h h' ∧ Ask h' (.func 58 [] c) (nameE s) := by
  obtain ⟨b1, h1, e1, g1, x1, n1⟩ := box hw (.str s) rfl rfl
  refine ⟨[.ptr b1 0], h1, run29 0 ?_, x1, 58, [], _, rfl, fun h' x' => ?_⟩
  · unfold F29
    simp only [e1, bothK_s]
  · have l1 := ld9 (x'.keep _ _ g1)
    by_cases hl : 56 < s.length
    · refine ⟨h', run58 0 ?_, Ext.refl x'.wf⟩
      unfold F58
      have : decide ((56 : Int) < (s.length : Int)) = true := by rw [decide_eq_true_eq]; omega
      simp only [l1, valK_s, alen9, abin_gtr, this, boolK_t, nameE, hl, if_true]
    · have hd : decide ((56 : Int) < (s.length : Int)) = false := by rw [decide_eq_false_iff_not]; omega
      obtain ⟨h2, q, x2⟩ := hs (by omega) h' x'.wf
      by_cases c1 : s = []
      · refine ⟨h', run58 0 ?_, Ext.refl x'.wf⟩
        unfold F58
        simp only [l1, valK_s, alen9, abin_gtr, hd, boolK_f, nameE, hl, if_false, abin_strne, c1, decide_true, Bool.not_true, must_run, bothK_s, goodName]
        simp
      · by_cases c2 : s = [46]
        · refine ⟨h', run58 0 ?_, Ext.refl x'.wf⟩
          unfold F58
          simp only [l1, valK_s, alen9, abin_gtr, hd, boolK_f, boolK_t, nameE, hl, if_false, abin_strne, decide_eq_false c1, Bool.not_false, decide_eq_true c2, Bool.not_true, must_run, bothK_s, goodName]
          simp
        · by_cases c3 : s = [46, 46]
          · refine ⟨h', run58 0 ?_, Ext.refl x'.wf⟩
            unfold F58
            simp only [l1, valK_s, alen9, abin_gtr, hd, boolK_f, boolK_t, nameE, hl, if_false, abin_strne, decide_eq_false c1, decide_eq_false c2, Bool.not_false, decide_eq_true c3, Bool.not_true, must_run, bothK_s, goodName]
            simp
          · refine ⟨h2, run58 0 ?_, x2⟩
            unfold F58
            simp only [l1, valK_s, alen9, abin_gtr, hd, boolK_f, boolK_t, nameE, hl, if_false, abin_strne, decide_eq_false c1, decide_eq_false c2, Bool.not_false, decide_eq_false c3, q, bothK_s, aun_not, must_run, goodName, Bool.true_and]

/-- No number is too great. -/
structure Small (tb : Tb) : Prop where
  qi : 0 ≤ tb.qi ∧ tb.qi ≤ 1048576
  qb : 0 ≤ tb.qb ∧ tb.qb ≤ 1073741824
  ui : 0 ≤ tb.ui ∧ tb.ui ≤ 1048576
  ub : 0 ≤ tb.ub ∧ tb.ub ≤ 1073741824

theorem room_run (a : TR S h o tb L) (hw : h.WF) (hs : Small tb) {i b : Int} (hi : 0 ≤ i ∧ i ≤ 1) (hb : -1152921504606846976 ≤ b ∧ b ≤ 1152921504606846976) :
    ∃ c h', EG (.fn 32) [.ptr o 0, .int .i64 i, .int .i64 b] h = some (.func 61 [] c, h') ∧ Ext h h' ∧ Ask h' (.func 61 [] c) (roomE tb i b) := by
  obtain ⟨b1, h1, e1, g1, x1, n1⟩ := box hw (.ptr o 0) rfl rfl
  obtain ⟨b2, h2, e2, g2, x2, n2⟩ := box x1.wf (.int .i64 i) rfl rfl
  obtain ⟨b3, h3, e3, g3, x3, n3⟩ := box x2.wf (.int .i64 b) rfl rfl
  refine ⟨[.ptr b1 0, .ptr b2 0, .ptr b3 0], h3, run32 0 ?_, (x1.trans x2).trans x3, 61, [], _, rfl, fun h' x' => ⟨h', run61 0 ?_, Ext.refl x'.wf⟩⟩
  · unfold F32
    simp only [e1, e2, e3, bothK_s]
  · have a' := a.ext (((x1.trans x2).trans x3).trans x')
    unfold F61
    have s1 := hs.ui; have s2 := hs.ub
    simp only [ld23 (x'.keep _ _ (x3.keep _ _ (x2.keep _ _ g1))), ld3 (x'.keep _ _ (x3.keep _ _ g2)), ld3 (x'.keep _ _ g3), valK_s, nil_ptr, fa68_1, fa68_0, fa26_20, fa26_21, fa26_00, fa26_01, a'.l_ui, a'.l_ub, a'.l_qi, a'.l_qb,
      abin_add (show -9223372036854775808 ≤ tb.ui + i by omega) (show tb.ui + i ≤ 9223372036854775807 by omega), abin_add (show -9223372036854775808 ≤ tb.ub + b by omega) (show tb.ub + b ≤ 9223372036854775807 by omega), abin_leq, must_run, bothK_s, roomE, boolK_b, decide_eq_true_eq]
    by_cases q1 : tb.ui + i ≤ tb.qi <;> simp [q1]

/-- How an inode may look. -/
theorem like_ask {kind mode : Int} {data : Bs} {b1 b2 b3 : Nat} (g1 : h.get b1 = some (.cells [.str data] true)) (g2 : h.get b2 = some (.cells [.int .i64 kind] true)) (g3 : h.get b3 = some (.cells [.int .i64 mode] true)) (hw : h.WF) :
    Ask h (.func 23 [] [.ptr b1 0, .ptr b2 0, .ptr b3 0]) (likeE kind mode data) := by
  refine ⟨23, [], _, rfl, fun h' x' => ?_⟩
  have l1 := ld9 (x'.keep _ _ g1)
  -- what stands in the map
  have rest : ∀ (link : Bool) (hh : AHeap), Ext h' hh → ∃ h'',
      (bothK (newMapA hh) fun x4 h5 =>
        hpK (amapUpdate tab h5 70 x4 (.int .i64 1) (.bool true)) fun h6 =>
        valK (loadA tab h6 9 (.ptr b1 0)) fun x7 =>
        valK (abin tab .eql 9 x7 (.str [])) fun x8 =>
        hpK (amapUpdate tab h6 70 x4 (.int .i64 2) x8) fun h9 =>
        hpK (amapUpdate tab h9 70 x4 (.int .i64 3) (.bool link)) fun h10 =>
        valK (loadA tab h10 3 (.ptr b2 0)) fun x11 =>
        valK (alookup tab h10 70 x4 x11 false) fun x12 =>
        boolK x12 (
        valK (loadA tab h10 3 (.ptr b3 0)) fun x13 =>
        valK (abin tab .geq 3 x13 (.int .i64 0)) fun x14 =>
        boolK x14 (
        valK (loadA tab h10 3 (.ptr b3 0)) fun x15 =>
        valK (abin tab .leq 3 x15 (.int .i64 511)) fun x16 =>
        bothK (EG (.fn 25) [x16, (.int .i64 2)] h10) fun x17 h18 =>
        hpK (unmark h18 []) fun h19 =>
        some (x17, h19)) (
        bothK (EG (.fn 25) [(.bool false), (.int .i64 2)] h10) fun x20 h21 =>
        hpK (unmark h21 []) fun h22 =>
        some (x20, h22))) (
        bothK (EG (.fn 25) [(.bool false), (.int .i64 2)] h10) fun x23 h24 =>
        hpK (unmark h24 []) fun h25 =>
        some (x23, h25))) = some (.int .i64 (if (decide (kind = 1) || (decide (kind = 2) && decide (data = [])) || (decide (kind = 3) && link)) && decide (0 ≤ mode) && decide (mode ≤ 511) then 0 else 2), h'') ∧ Ext h' h'' := by
    intro link hh xh
    have k1 : (hh.add (.map [] 0)).get hh.next = some (.map (intE []) 0) := AHeap.get_add_self _ _
    have u1 := update_int (T := tab) (h := hh.add (.map [] 0)) (m := hh.next) (key := 1) ty70 k1 List.nodup_nil rfl (.bool true)
    have k2 : ((hh.add (.map [] 0)).put hh.next (.map (intE ([] ++ [(1, .bool true, 0)])) (0 + 1))).get hh.next = some (.map (intE [(1, .bool true, 0)]) 1) := AHeap.get_put_self _ _ _
    generalize e2 : (hh.add (.map [] 0)).put hh.next (.map (intE ([] ++ [(1, .bool true, 0)])) (0 + 1)) = h2 at u1 k2
    have x2 : Ext h' h2 := by rw [← e2]; exact (xh.add _).put xh.new (k1) _
    have u2 := update_int (T := tab) (h := h2) (m := hh.next) (key := 2) ty70 k2 (by simp) rfl (.bool (decide (data = [])))
    have k3 : (h2.put hh.next (.map (intE ([(1, .bool true, 0)] ++ [(2, .bool (decide (data = [])), 1)])) (1 + 1))).get hh.next = some (.map (intE [(1, .bool true, 0), (2, .bool (decide (data = [])), 1)]) 2) := AHeap.get_put_self _ _ _
    generalize e3 : h2.put hh.next (.map (intE ([(1, .bool true, 0)] ++ [(2, .bool (decide (data = [])), 1)])) (1 + 1)) = h3 at u2 k3
    have x3 : Ext h' h3 := by rw [← e3]; exact x2.put xh.new k2 _
    have u3 := update_int (T := tab) (h := h3) (m := hh.next) (key := 3) ty70 k3 (by simp) rfl (.bool link)
    have k4 : (h3.put hh.next (.map (intE ([(1, .bool true, 0), (2, .bool (decide (data = [])), 1)] ++ [(3, .bool link, 2)])) (2 + 1))).get hh.next = some (.map (intE [(1, .bool true, 0), (2, .bool (decide (data = [])), 1), (3, .bool link, 2)]) 3) := AHeap.get_put_self _ _ _
    generalize e4 : h3.put hh.next (.map (intE ([(1, .bool true, 0), (2, .bool (decide (data = [])), 1)] ++ [(3, .bool link, 2)])) (2 + 1)) = h4 at u3 k4
    have x4 : Ext h' h4 := by rw [← e4]; exact x3.put xh.new k3 _
    refine ⟨h4, ?_, x4⟩
    have lk := lookup_int (T := tab) (h := h4) (m := hh.next) (key := kind) ty70 ty4 k4 (by simp)
    have lk2 : alookup tab h4 70 (.map hh.next) (.int .i64 kind) false = some (.bool (decide (kind = 1) || (decide (kind = 2) && decide (data = [])) || (decide (kind = 3) && link))) := by
      rw [lk]
      by_cases c1 : kind = 1
      · simp [getI, c1]
      · by_cases c2 : kind = 2
        · simp [getI, c2]
        · by_cases c3 : kind = 3
          · simp [getI, c3]
          · simp [getI, c1, c2, c3]
    simp only [newMapA, bothK_s, u1, hpK_s, ld9 (x2.keep _ _ (x'.keep _ _ g1)), valK_s, abin_streq, u2, u3, ld3 (x4.keep _ _ (x'.keep _ _ g2)), lk2, ld3 (x4.keep _ _ (x'.keep _ _ g3)), abin_geq, abin_leq, must_run, unmark_nil]
    generalize (decide (kind = 1) || (decide (kind = 2) && decide (data = [])) || (decide (kind = 3) && link)) = good
    cases good
    · simp [boolK_f]
    · by_cases m1 : 0 ≤ mode <;> simp [boolK_f, boolK_t, m1]
  by_cases c1 : data = []
  · obtain ⟨h2, q1, q2⟩ := rest false h' (Ext.refl x'.wf)
    refine ⟨h2, run23 0 ?_, q2⟩
    unfold F23
    simp only [jn_a, l1, valK_s, abin_strne, c1, decide_true, Bool.not_true, boolK_f]
    rw [c1] at q1
    rw [q1]
    simp [likeE, goodLike]
  · by_cases c2 : data.length ≤ 255
    · have hd : decide ((data.length : Int) ≤ 255) = true := by rw [decide_eq_true_eq]; omega
      have kp : EG (.fn 24) [.str data, .int .u8 0] h' = some (.int .i64 (idxB 0 data 0), h') := run_prim (f := 24) rfl rfl
      obtain ⟨h2, q1, q2⟩ := rest (decide (idxB 0 data 0 < 0)) h' (Ext.refl x'.wf)
      refine ⟨h2, run23 0 ?_, q2⟩
      unfold F23
      simp only [jn_a, l1, valK_s, abin_strne, decide_eq_false c1, Bool.not_false, boolK_t, alen9, abin_leq, hd, kp, bothK_s, abin_lss]
      rw [q1]
      simp [likeE, goodLike, c1, c2]
    · have hd : decide ((data.length : Int) ≤ 255) = false := by rw [decide_eq_false_iff_not]; omega
      obtain ⟨h2, q1, q2⟩ := rest false h' (Ext.refl x'.wf)
      refine ⟨h2, run23 0 ?_, q2⟩
      unfold F23
      simp only [jn_a, l1, valK_s, abin_strne, decide_eq_false c1, Bool.not_false, boolK_t, alen9, abin_leq, hd, boolK_f]
      rw [q1]
      simp [likeE, goodLike, c1, c2]

/-- Room for one more. -/
theorem room1_ask (a : TR S h o tb L) (hw : h.WF) (hs : Small tb) {data : Bs} {b1 b2 : Nat} (g1 : h.get b1 = some (.cells [.ptr o 0] true)) (g2 : h.get b2 = some (.cells [.str data] true)) (hd : data.length < 1152921504606846976) :
    Ask h (.func 31 [] [.ptr b1 0, .ptr b2 0]) (roomE tb 1 data.length) := by
  refine ⟨31, [], _, rfl, fun h' x' => ?_⟩
  obtain ⟨c, h2, q1, q2, g, p, c', q3, q4⟩ := room_run (a.ext x') x'.wf hs (i := 1) (b := data.length) (by omega) (by omega)
  cases q3
  obtain ⟨h3, q5, q6⟩ := q4 h2 (Ext.refl q2.wf)
  rw [List.nil_append] at q5
  refine ⟨h3, run31 0 ?_, q2.trans q6⟩
  unfold F31
  simp only [ld23 (x'.keep _ _ g1), ld9 (x'.keep _ _ g2), valK_s, alen9, q1, bothK_s, callA_func, List.nil_append, q5]

end
end Go.Am

set_option linter.unusedVariables false
set_option linter.unusedSimpArgs false
namespace Go.Am
open Go Go.Proofs

/-! ### Stores -/
section
variable {S : Nat → Prop} {h : AHeap} {o : Nat} {tb : Tb} {L : Lay}

theorem TR.s_ui (a : TR S h o tb L) (n : Int) : storeA tab h 3 (.ptr o 2) (.int .i64 n) = some (h.put o (.cells (tbCells L { tb with ui := n }) true)) := by
  simp only [storeA, astore, a.top, ty3]; rfl
theorem TR.s_ub (a : TR S h o tb L) (n : Int) : storeA tab h 3 (.ptr o 3) (.int .i64 n) = some (h.put o (.cells (tbCells L { tb with ub := n }) true)) := by
  simp only [storeA, astore, a.top, ty3]; rfl
theorem TR.s_last (a : TR S h o tb L) (n : Int) : storeA tab h 3 (.ptr o 5) (.int .i64 n) = some (h.put o (.cells (tbCells L { tb with last := n }) true)) := by
  simp only [storeA, astore, a.top, ty3]; rfl
theorem TR.s_mode (a : TR S h o tb L) {k : Int} {nd : Nd} (hk : tb.nodes k = some nd) (n : Int) : storeA tab h 3 (.ptr (L.place k) 1) (.int .i64 n) = some (h.put (L.place k) (.cells (ndCells L k { nd with mode := n }) true)) := by
  simp only [storeA, astore, a.node k nd hk, ty3, ndCells, evOf]
  by_cases h2 : nd.kind = 2 <;> simp only [h2, if_true, if_false] <;> rfl
theorem TR.s_data (a : TR S h o tb L) {k : Int} {nd : Nd} (hk : tb.nodes k = some nd) (s : Bs) : storeA tab h 9 (.ptr (L.place k) 2) (.str s) = some (h.put (L.place k) (.cells (ndCells L k { nd with data := s }) true)) := by
  simp only [storeA, astore, a.node k nd hk, ty9, ndCells, evOf]
  by_cases h2 : nd.kind = 2 <;> simp only [h2, if_true, if_false] <;> rfl
theorem TR.s_links (a : TR S h o tb L) {k : Int} {nd : Nd} (hk : tb.nodes k = some nd) (n : Int) : storeA tab h 3 (.ptr (L.place k) 3) (.int .i64 n) = some (h.put (L.place k) (.cells (ndCells L k { nd with links := n }) true)) := by
  simp only [storeA, astore, a.node k nd hk, ty3, ndCells, evOf]
  by_cases h2 : nd.kind = 2 <;> simp only [h2, if_true, if_false] <;> rfl
theorem TR.s_up (a : TR S h o tb L) {k : Int} {nd : Nd} (hk : tb.nodes k = some nd) (n : Int) : storeA tab h 3 (.ptr (L.place k) 4) (.int .i64 n) = some (h.put (L.place k) (.cells (ndCells L k { nd with up := n }) true)) := by
  simp only [storeA, astore, a.node k nd hk, ty3, ndCells, evOf]
  by_cases h2 : nd.kind = 2 <;> simp only [h2, if_true, if_false] <;> rfl

/-- What is not the table's stays when the table's is put over. -/
theorem keepP {b x : Nat} {y z : AObj} (g : h.get b = some y) (hb : ¬ S b) (hx : S x) : (h.put x z).get b = some y := by
  rw [AHeap.get_put_ne _ _ (show b ≠ x from fun e => hb (e ▸ hx))]; exact g

theorem TR.not_new (a : TR S h o tb L) {b : Nat} (hb : h.get b = none) : ¬ S b := fun hs => a.there b hs hb

theorem dirE_zero {k : Int} (h0 : dirE tb k = 0) : ∃ nd, tb.nodes k = some nd ∧ nd.kind = 2 := by
  unfold dirE at h0
  cases hk : tb.nodes k with
  | none => rw [hk] at h0; simp at h0
  | some nd =>
    rw [hk] at h0
    simp only at h0
    split at h0
    · exact ⟨nd, rfl, by assumption⟩
    · simp at h0
theorem fileE_zero {k : Int} (h0 : fileE tb k = 0) : ∃ nd, tb.nodes k = some nd ∧ nd.kind = 1 := by
  unfold fileE at h0
  cases hk : tb.nodes k with
  | none => rw [hk] at h0; simp at h0
  | some nd =>
    rw [hk] at h0
    simp only at h0
    split at h0
    · simp at h0
    · split at h0
      · exact ⟨nd, rfl, by assumption⟩
      · simp at h0
theorem freeE_zero {k : Int} {s : Bs} (h0 : freeE tb k s = 0) : findT tb k s = none := by
  unfold freeE at h0
  cases h1 : findT tb k s with
  | none => rfl
  | some n => rw [h1] at h0; simp at h0
theorem entryE_zero {k : Int} {s : Bs} (h0 : entryE tb k s = 0) : ∃ n, findT tb k s = some n := by
  unfold entryE at h0
  cases h1 : findT tb k s with
  | none => rw [h1] at h0; simp at h0
  | some n => exact ⟨n, rfl⟩
theorem findT_some {k : Int} {nd : Nd} (hk : tb.nodes k = some nd) (s : Bs) : findT tb k s = getN s nd.ents := by simp only [findT, hk]
theorem firstE_zero : ∀ {es : List Int}, firstE es = 0 ↔ ∀ e ∈ es, e = 0
  | [] => by simp [firstE]
  | e :: es => by
    simp only [firstE]
    by_cases h : e = 0
    · simp [h, firstE_zero (es := es)]
    · simp [h]

/-- A new name in a directory. -/
theorem TR.enter (a : TR S h o tb L) {k : Int} {nd : Nd} (hk : tb.nodes k = some nd) (h2 : nd.kind = 2) {s : Bs} (hs : getN s nd.ents = none) (n : Int) :
    ∃ y, amapUpdate tab h 63 (.map (L.ent k)) (.str s) (.int .i64 n) = some (h.put (L.ent k) y) ∧ (∃ z, h.get (L.ent k) = some z) ∧ TR S (h.put (L.ent k) y) o { tb with nodes := upd tb.nodes k (some { nd with ents := nd.ents ++ [(s, n)] }) } L := by
  obtain ⟨l, c, q1, q2, q3⟩ := a.ents k nd hk h2
  have hno : hasS s l = false := by rw [q2.has, hs]; rfl
  refine ⟨.map (strE (l ++ [(s, .int .i64 n, c)])) (c + 1), ?_, ⟨_, q1⟩, a.setEnts hk h2 (q2.add s n c) (q3.add hno _)⟩
  rw [update_str ty63 q1, hno, setS_new hno]; rfl

/-- A name that goes. -/
theorem TR.leave (a : TR S h o tb L) {k : Int} {nd : Nd} (hk : tb.nodes k = some nd) (h2 : nd.kind = 2) (s : Bs) :
    ∃ y, adelete tab h 63 (.map (L.ent k)) (.str s) = some (h.put (L.ent k) y) ∧ (∃ z, h.get (L.ent k) = some z) ∧ TR S (h.put (L.ent k) y) o { tb with nodes := upd tb.nodes k (some { nd with ents := delN s nd.ents }) } L := by
  obtain ⟨l, c, q1, q2, q3⟩ := a.ents k nd hk h2
  exact ⟨.map (strE (delS s l)) c, delete_str ty63 q1 q3.nodup, ⟨_, q1⟩, a.setEnts hk h2 q2.del (q3.sub _)⟩
end

/-! ### New -/

def newT (qi qb : Int) : Option Tb := if qi < 1 ∨ 1048576 < qi ∨ qb < 0 ∨ 1073741824 < qb then none else some ⟨qi, qb, 1, 0, 1, upd (fun _ => none) 1 (some ⟨2, 493, [], 1, 1, []⟩)⟩

theorem new_run {h : AHeap} (hw : h.WF) (qi qb : Int) : ∃ h', Ext h h' ∧ match newT qi qb with
    | none => EG (.fn 7) [.agg [.int .i64 qi, .int .i64 qb]] h = some (.nilptr, h')
    | some tb => ∃ S o L, EG (.fn 7) [.agg [.int .i64 qi, .int .i64 qb]] h = some (.ptr o 0, h') ∧ TR S h' o tb L ∧ ∀ j, S j → h.get j = none := by
  have b0 : boxA h (.agg [.int .i64 qi, .int .i64 qb]) = some (.ptr h.next 0, h.add (.cells [.int .i64 qi, .int .i64 qb] true)) := rfl
  have g0 : (h.add (.cells [.int .i64 qi, .int .i64 qb] true)).get h.next = some (.cells [.int .i64 qi, .int .i64 qb] true) := AHeap.get_add_self _ _
  have x0 := (Ext.refl hw).add (.cells [.int .i64 qi, .int .i64 qb] true)
  generalize hh1 : h.add (.cells [.int .i64 qi, .int .i64 qb] true) = h1 at b0 g0 x0
  have l0 : loadA tab h1 3 (.ptr h.next 0) = some (.int .i64 qi) := loadA_cell ty3 rfl g0 rfl
  have l1 : loadA tab h1 3 (.ptr h.next 1) = some (.int .i64 qb) := loadA_cell ty3 rfl g0 rfl
  by_cases hc : qi < 1 ∨ 1048576 < qi ∨ qb < 0 ∨ 1073741824 < qb
  · refine ⟨h1, x0, ?_⟩
    simp only [newT, hc, if_true]
    refine run7 0 ?_
    unfold F7
    simp only [b0, bothK_s, jn_a, fa26_00, fa26_01, l0, l1, valK_s, abin_lss, abin_gtr]
    by_cases c1 : qi < 1
    · simp only [decide_eq_true c1, boolK_t]
    · by_cases c2 : 1048576 < qi
      · simp only [decide_eq_false c1, boolK_f, decide_eq_true c2, boolK_t]
      · by_cases c3 : qb < 0
        · simp only [decide_eq_false c1, boolK_f, decide_eq_false c2, decide_eq_true c3, boolK_t]
        · have c4 : 1073741824 < qb := by omega
          simp only [decide_eq_false c1, boolK_f, decide_eq_false c2, decide_eq_false c3, decide_eq_true c4, boolK_t]
  · have c1 : ¬ qi < 1 := by omega
    have c2 : ¬ 1048576 < qi := by omega
    have c3 : ¬ qb < 0 := by omega
    have c4 : ¬ 1073741824 < qb := by omega
    -- the root's entries
    have n1 : newMapA h1 = some (.map h1.next, h1.add (.map [] 0)) := rfl
    have x1 := x0.add (.map [] 0)
    have e1 : (h1.add (.map [] 0)).get h1.next = some (.map (strE []) 0) := AHeap.get_add_self _ _
    have f1 : h.get h1.next = none := x0.new
    generalize hh2 : h1.add (.map [] 0) = h2 at n1 x1 e1
    -- the root
    have n2 : boxA h2 (.agg [.int .i64 2, .int .i64 493, .str [], .int .i64 1, .int .i64 1, .map h1.next]) = some (.ptr h2.next 0, h2.add (.cells [.int .i64 2, .int .i64 493, .str [], .int .i64 1, .int .i64 1, .map h1.next] true)) := rfl
    have x2 := x1.add (.cells [.int .i64 2, .int .i64 493, .str [], .int .i64 1, .int .i64 1, .map h1.next] true)
    have e2 : (h2.add (.cells [.int .i64 2, .int .i64 493, .str [], .int .i64 1, .int .i64 1, .map h1.next] true)).get h2.next = some (.cells [.int .i64 2, .int .i64 493, .str [], .int .i64 1, .int .i64 1, .map h1.next] true) := AHeap.get_add_self _ _
    have f2 : h.get h2.next = none := x1.new
    have y2 : Ext h2 (h2.add (.cells [.int .i64 2, .int .i64 493, .str [], .int .i64 1, .int .i64 1, .map h1.next] true)) := (Ext.refl x1.wf).add _
    generalize hh3 : h2.add (.cells [.int .i64 2, .int .i64 493, .str [], .int .i64 1, .int .i64 1, .map h1.next] true) = h3 at n2 x2 e2 y2
    -- the inodes
    have n3 : newMapA h3 = some (.map h3.next, h3.add (.map [] 0)) := rfl
    have y3 : Ext h3 (h3.add (.map [] 0)) := (Ext.refl x2.wf).add _
    have x3 := x2.add (.map [] 0)
    have e3 : (h3.add (.map [] 0)).get h3.next = some (.map (intE []) 0) := AHeap.get_add_self _ _
    have f3 : h.get h3.next = none := x2.new
    have f3' : h3.get h3.next = none := x2.wf.new
    generalize hh4 : h3.add (.map [] 0) = h4 at n3 x3 e3 y3
    have u4 := update_int (T := tab) (h := h4) (m := h3.next) (key := 1) ty66 e3 (by simp) rfl (.ptr h2.next 0)
    have e4 : (h4.put h3.next (.map (intE ([] ++ [(1, .ptr h2.next 0, 0)])) (0 + 1))).get h3.next = some (.map (intE [(1, .ptr h2.next 0, 0)]) 1) := AHeap.get_put_self _ _ _
    have y4 : Ext h3 (h4.put h3.next (.map (intE ([] ++ [(1, .ptr h2.next 0, 0)])) (0 + 1))) := y3.put f3' e3 _
    have x4 := x3.put f3 e3 (.map (intE ([] ++ [(1, .ptr h2.next 0, 0)])) (0 + 1))
    generalize hh5 : h4.put h3.next (.map (intE ([] ++ [(1, .ptr h2.next 0, 0)])) (0 + 1)) = h5 at u4 e4 x4 y4
    -- the table
    have n5 : boxA h5 (.agg [.int .i64 qi, .int .i64 qb, .int .i64 1, .int .i64 0, .map h3.next, .int .i64 1]) = some (.ptr h5.next 0, h5.add (.cells [.int .i64 qi, .int .i64 qb, .int .i64 1, .int .i64 0, .map h3.next, .int .i64 1] true)) := rfl
    have y5 : Ext h5 (h5.add (.cells [.int .i64 qi, .int .i64 qb, .int .i64 1, .int .i64 0, .map h3.next, .int .i64 1] true)) := (Ext.refl x4.wf).add _
    have x5 := x4.add (.cells [.int .i64 qi, .int .i64 qb, .int .i64 1, .int .i64 0, .map h3.next, .int .i64 1] true)
    have e5 : (h5.add (.cells [.int .i64 qi, .int .i64 qb, .int .i64 1, .int .i64 0, .map h3.next, .int .i64 1] true)).get h5.next = some (.cells [.int .i64 qi, .int .i64 qb, .int .i64 1, .int .i64 0, .map h3.next, .int .i64 1] true) := AHeap.get_add_self _ _
    have f5 : h.get h5.next = none := x4.new
    have f5' : h5.get h5.next = none := x4.wf.new
    generalize hh6 : h5.add (.cells [.int .i64 qi, .int .i64 qb, .int .i64 1, .int .i64 0, .map h3.next, .int .i64 1] true) = h6 at n5 x5 e5 y5
    have p2 := y5.keep _ _ (y4.keep _ _ e2)
    have p1 := y5.keep _ _ (y4.keep _ _ (y2.keep _ _ e1))
    have p3 := y5.keep _ _ e4
    refine ⟨h6, x5, ?_⟩
    simp only [newT, hc, if_false]
    refine ⟨fun j => j = h5.next ∨ j = h3.next ∨ j = h2.next ∨ j = h1.next, h5.next, ⟨h3.next, fun _ => h2.next, fun _ => h1.next⟩, run7 0 ?_, ?_, ?_⟩
    · unfold F7
      have l2 : loadA tab h3 26 (.ptr h.next 0) = some (.agg [.int .i64 qi, .int .i64 qb]) := by
        have t26 : ∃ ty, tab.get 26 = some ty ∧ ty.size = 2 ∧ ty.agg = true := ⟨_, rfl, rfl, rfl⟩
        obtain ⟨ty, t1, t2, t3⟩ := t26
        have q1 : h2.get h.next = some (.cells [.int .i64 qi, .int .i64 qb] true) := by rw [← hh2]; exact ((Ext.refl x0.wf).add _).keep _ _ g0
        simp only [loadA, aload, y2.keep _ _ q1, t1, t2, t3, cond_true]
        rfl
      have a1 : abuild tab 35 [(0, .int .i64 2), (1, .int .i64 493), (3, .int .i64 1)] = some (.agg [.int .i64 2, .int .i64 493, .str [], .int .i64 1]) := rfl
      have a2 : abuild tab 65 [(0, .agg [.int .i64 2, .int .i64 493, .str [], .int .i64 1]), (1, .int .i64 1), (2, .map h1.next)] = some (.agg [.int .i64 2, .int .i64 493, .str [], .int .i64 1, .int .i64 1, .map h1.next]) := rfl
      have a3 : abuild tab 26 [(0, .int .i64 1)] = some (.agg [.int .i64 1, .int .i64 0]) := rfl
      have a4 : abuild tab 68 [(0, .agg [.int .i64 qi, .int .i64 qb]), (1, .agg [.int .i64 1, .int .i64 0]), (2, .map h3.next), (3, .int .i64 1)] = some (.agg [.int .i64 qi, .int .i64 qb, .int .i64 1, .int .i64 0, .map h3.next, .int .i64 1]) := rfl
      simp only [b0, bothK_s, jn_a, fa26_00, fa26_01, l0, l1, valK_s, abin_lss, abin_gtr, decide_eq_false c1, boolK_f, decide_eq_false c2, decide_eq_false c3, decide_eq_false c4, a1, n1, a2, n2, l2, a3, n3, u4, hpK_s, a4, n5, unmark_nil]
    · have one : ∀ k nd, upd (fun _ => none) 1 (some (⟨2, 493, [], 1, 1, []⟩ : Nd)) k = some nd → k = 1 ∧ nd = ⟨2, 493, [], 1, 1, []⟩ := fun k nd h => by
        rcases upd_cases h with ⟨rfl, hx⟩ | ⟨_, hx⟩
        · cases hx; exact ⟨rfl, rfl⟩
        · cases hx
      exact {
        top := e5
        map := ⟨_, _, p3, by simp, fun k => by
          by_cases e : k = 1
          · subst e; rfl
          · simp [getI, upd, e]⟩
        node := fun k nd hk => by obtain ⟨rfl, rfl⟩ := one k nd hk; exact p2
        ents := fun k nd hk _ => by obtain ⟨rfl, rfl⟩ := one k nd hk; exact ⟨[], 0, p1, rfl, by simp, List.Pairwise.nil⟩
        noEnts := fun k nd hk hne => by obtain ⟨rfl, rfl⟩ := one k nd hk; rfl
        inj := fun k j nd nd' hk hj _ => by rw [(one k nd hk).1, (one j nd' hj).1]
        injE := fun k j nd nd' hk hj _ _ _ => by rw [(one k nd hk).1, (one j nd' hj).1]
        apart := fun k nd hk e => by
          have : h5.get h5.next = some (.cells [.int .i64 2, .int .i64 493, .str [], .int .i64 1, .int .i64 1, .map h1.next] true) := by rw [← show h2.next = h5.next from e]; exact y4.keep _ _ e2
          rw [f5'] at this; cases this
        apartE := fun k nd hk _ e => by
          have : h3.get h3.next = some (.map (strE []) 0) := by rw [← show h1.next = h3.next from e]; exact y2.keep _ _ e1
          rw [f3'] at this; cases this
        inO := .inl rfl
        inM := .inr (.inl rfl)
        inN := fun _ _ _ => .inr (.inr (.inl rfl))
        inE := fun _ _ _ _ => .inr (.inr (.inr rfl))
        there := fun j hj => by
          rcases hj with rfl | rfl | rfl | rfl
          · rw [e5]; simp
          · rw [p3]; simp
          · rw [p2]; simp
          · rw [p1]; simp }
    · rintro j (rfl | rfl | rfl | rfl)
      · exact f5
      · exact f3
      · exact f2
      · exact f1

/-! ### Make -/

def addE (f : Int → Option Nd) (d : Int) (s : Bs) (n : Int) : Int → Option Nd := match f d with
  | some nd => upd f d (some { nd with ents := nd.ents ++ [(s, n)] })
  | none => f
def delE (f : Int → Option Nd) (d : Int) (s : Bs) : Int → Option Nd := match f d with
  | some nd => upd f d (some { nd with ents := delN s nd.ents })
  | none => f
theorem addE_some {f : Int → Option Nd} {d : Int} {nd : Nd} (h : f d = some nd) (s : Bs) (n : Int) : addE f d s n = upd f d (some { nd with ents := nd.ents ++ [(s, n)] }) := by simp only [addE, h]
theorem delE_some {f : Int → Option Nd} {d : Int} {nd : Nd} (h : f d = some nd) (s : Bs) : delE f d s = upd f d (some { nd with ents := delN s nd.ents }) := by simp only [delE, h]

def makeE (tb : Tb) (dir : Int) (name : Bs) (kind mode : Int) (data : Bs) : Int := firstE [0, dirE tb dir, nameE name, likeE kind mode data, freeE tb dir name, roomE tb 1 data.length]
def freshNd (dir kind mode : Int) (data : Bs) : Nd := ⟨kind, mode, data, 1, if kind = 2 then dir else 0, []⟩
def madeT (tb : Tb) (dir : Int) (name : Bs) (kind mode : Int) (data : Bs) : Tb :=
  { tb with ui := tb.ui + 1, ub := tb.ub + data.length, last := tb.last + 1, nodes := addE (upd tb.nodes (tb.last + 1) (some (freshNd dir kind mode data))) dir name (tb.last + 1) }
def makeT (tb : Tb) (dir : Int) (name : Bs) (kind mode : Int) (data : Bs) : Tb := if makeE tb dir name kind mode data = 0 then madeT tb dir name kind mode data else tb

def Fresh (tb : Tb) : Prop := ∀ k, tb.last < k → tb.nodes k = none

section
variable {S : Nat → Prop} {h : AHeap} {o : Nat} {tb : Tb} {L : Lay}

/-- The second half of Make. -/
theorem make_rest {hb : AHeap} (a : TR S h o tb L) (hw : h.WF) (kb : Step S hb S h) (hs : Small tb) {dir : Int} {name data : Bs} {nd dnd : Nd} {b0 b6 x e : Nat} (hl : 0 ≤ tb.last ∧ tb.last < 1152921504606846976) (hk : tb.nodes tb.last = none) (hd : tb.nodes dir = some dnd) (hd2 : dnd.kind = 2) (hn : getN name dnd.ents = none)
    (hdl : data.length < 1152921504606846976)
    (g0 : h.get b0 = some (.cells [.ptr o 0] true)) (n0 : ¬ S b0) (g6 : h.get b6 = some (.cells [.str data] true)) (n6 : ¬ S b6) (hx : h.get x = some (.cells (ndCells (L.set tb.last x e) tb.last nd) true)) (hxS : ¬ S x) (he : nd.kind = 2 → EntR h e nd.ents ∧ ¬ S e) (hne : nd.kind ≠ 2 → nd.ents = []) (hbx : hb.get x = none) (hbe : nd.kind = 2 → hb.get e = none) (hb0 : b0 ≠ x ∧ b0 ≠ e) (hb6 : b6 ≠ x ∧ b6 ≠ e) :
    ∃ S' h', (valK (loadA tab h 23 (.ptr b0 0)) fun x46 =>
      valK (nilA x46) fun x47 =>
      valK (afieldAddr tab 68 x47 2) fun x48 =>
      valK (loadA tab h 66 x48) fun x49 =>
      valK (loadA tab h 23 (.ptr b0 0)) fun x50 =>
      valK (nilA x50) fun x51 =>
      valK (afieldAddr tab 68 x51 3) fun x52 =>
      valK (loadA tab h 3 x52) fun x53 =>
      hpK (amapUpdate tab h 66 x49 x53 (.ptr x 0)) fun h54 =>
      valK (loadA tab h54 23 (.ptr b0 0)) fun x55 =>
      valK (nilA x55) fun x56 =>
      valK (afieldAddr tab 68 x56 2) fun x57 =>
      valK (loadA tab h54 66 x57) fun x58 =>
      valK (alookup tab h54 66 x58 (.int .i64 dir) false) fun x59 =>
      valK (nilA x59) fun x60 =>
      valK (afieldAddr tab 65 x60 2) fun x61 =>
      valK (loadA tab h54 63 x61) fun x62 =>
      valK (loadA tab h54 23 (.ptr b0 0)) fun x63 =>
      valK (nilA x63) fun x64 =>
      valK (afieldAddr tab 68 x64 3) fun x65 =>
      valK (loadA tab h54 3 x65) fun x66 =>
      hpK (amapUpdate tab h54 63 x62 (.str name) x66) fun h67 =>
      valK (loadA tab h67 23 (.ptr b0 0)) fun x68 =>
      valK (nilA x68) fun x69 =>
      valK (afieldAddr tab 68 x69 1) fun x70 =>
      valK (afieldAddr tab 26 x70 0) fun x71 =>
      valK (loadA tab h67 3 x71) fun x72 =>
      valK (abin tab .add 3 x72 (.int .i64 1)) fun x73 =>
      valK (nilA x68) fun x74 =>
      valK (afieldAddr tab 68 x74 1) fun x75 =>
      valK (afieldAddr tab 26 x75 0) fun x76 =>
      hpK (storeA tab h67 3 x76 x73) fun h77 =>
      valK (loadA tab h77 23 (.ptr b0 0)) fun x78 =>
      valK (nilA x78) fun x79 =>
      valK (afieldAddr tab 68 x79 1) fun x80 =>
      valK (afieldAddr tab 26 x80 1) fun x81 =>
      valK (loadA tab h77 3 x81) fun x82 =>
      valK (loadA tab h77 9 (.ptr b6 0)) fun x83 =>
      valK (alen tab h77 9 x83) fun x84 =>
      valK (abin tab .add 3 x82 x84) fun x85 =>
      valK (nilA x78) fun x86 =>
      valK (afieldAddr tab 68 x86 1) fun x87 =>
      valK (afieldAddr tab 26 x87 1) fun x88 =>
      hpK (storeA tab h77 3 x88 x85) fun h89 =>
      valK (loadA tab h89 23 (.ptr b0 0)) fun x90 =>
      valK (nilA x90) fun x91 =>
      valK (afieldAddr tab 68 x91 3) fun x92 =>
      valK (loadA tab h89 3 x92) fun x93 =>
      hpK (unmark h89 []) fun h94 =>
      some (AV.tuple [x93, (.int .i64 0)], h94)) = some (.tuple [.int .i64 tb.last, .int .i64 0], h') ∧
      TR S' h' o { tb with ui := tb.ui + 1, ub := tb.ub + data.length, nodes := addE (upd tb.nodes tb.last (some nd)) dir name tb.last } (L.set tb.last x e) ∧ Step S hb S' h' := by
  obtain ⟨l, c, q1, q2, q3⟩ := a.map
  have u1 := update_int (T := tab) (h := h) (m := L.m) (key := tb.last) ty66 q1 q2 (by rw [q3, hk]; rfl) (.ptr x 0)
  have a1 := a.addNode q1 q2 q3 hk hx hxS he hne
  have w1 : (h.put L.m (.map (intE (l ++ [(tb.last, .ptr x 0, c)])) (c + 1))).WF := hw.put q1 _
  have g0' : (h.put L.m (.map (intE (l ++ [(tb.last, .ptr x 0, c)])) (c + 1))).get b0 = some (.cells [.ptr o 0] true) := keepP g0 n0 a.inM
  have g6' : (h.put L.m (.map (intE (l ++ [(tb.last, .ptr x 0, c)])) (c + 1))).get b6 = some (.cells [.str data] true) := keepP g6 n6 a.inM
  have k1 : Step S h S (h.put L.m (.map (intE (l ++ [(tb.last, .ptr x 0, c)])) (c + 1))) := (Step.refl hw).put a.inM q1 _
  have n0' : ¬ (S b0 ∨ b0 = x ∨ (nd.kind = 2 ∧ b0 = e)) := by rintro (q | q | q); exact n0 q; exact hb0.1 q; exact hb0.2 q.2
  have n6' : ¬ (S b6 ∨ b6 = x ∨ (nd.kind = 2 ∧ b6 = e)) := by rintro (q | q | q); exact n6 q; exact hb6.1 q; exact hb6.2 q.2
  generalize hh1 : h.put L.m (.map (intE (l ++ [(tb.last, .ptr x 0, c)])) (c + 1)) = h1 at u1 a1 w1 g0' g6' k1
  have hdl' : dir ≠ tb.last := fun e => by rw [e, hk] at hd; cases hd
  have hd1 : upd tb.nodes tb.last (some nd) dir = some dnd := by rw [upd_ne _ _ hdl']; exact hd
  obtain ⟨y, e2, ⟨z, gz⟩, a2⟩ := a1.enter (k := dir) hd1 hd2 hn tb.last
  have hin := a1.inE dir dnd hd1 hd2
  have g0'' := keepP (S := fun j => S j ∨ j = x ∨ (nd.kind = 2 ∧ j = e)) (z := y) g0' n0' hin
  have g6'' := keepP (S := fun j => S j ∨ j = x ∨ (nd.kind = 2 ∧ j = e)) (z := y) g6' n6' hin
  generalize hh2 : h1.put ((L.set tb.last x e).ent dir) y = h2 at e2 a2 g0'' g6''
  have e3 := a2.s_ui (tb.ui + 1)
  have a3 := a2.setTop (tb' := { tb with ui := tb.ui + 1, nodes := addE (upd tb.nodes tb.last (some nd)) dir name tb.last }) (by rw [addE_some hd1])
  have g03 := keepP (S := fun j => S j ∨ j = x ∨ (nd.kind = 2 ∧ j = e)) (z := .cells (tbCells (L.set tb.last x e) { tb with ui := tb.ui + 1, nodes := addE (upd tb.nodes tb.last (some nd)) dir name tb.last }) true) g0'' n0' a2.inO
  have g63 := keepP (S := fun j => S j ∨ j = x ∨ (nd.kind = 2 ∧ j = e)) (z := .cells (tbCells (L.set tb.last x e) { tb with ui := tb.ui + 1, nodes := addE (upd tb.nodes tb.last (some nd)) dir name tb.last }) true) g6'' n6' a2.inO
  replace e3 : storeA tab h2 3 (.ptr o 2) (.int .i64 (tb.ui + 1)) = some (h2.put o (.cells (tbCells (L.set tb.last x e) { tb with ui := tb.ui + 1, nodes := addE (upd tb.nodes tb.last (some nd)) dir name tb.last }) true)) := e3
  generalize hh3 : h2.put o (.cells (tbCells (L.set tb.last x e) { tb with ui := tb.ui + 1, nodes := addE (upd tb.nodes tb.last (some nd)) dir name tb.last }) true) = h3 at e3 a3 g03 g63
  have e4 := a3.s_ub (tb.ub + data.length)
  have a4 := a3.setTop (tb' := { tb with ui := tb.ui + 1, ub := tb.ub + data.length, nodes := addE (upd tb.nodes tb.last (some nd)) dir name tb.last }) rfl
  have g04 := keepP (S := fun j => S j ∨ j = x ∨ (nd.kind = 2 ∧ j = e)) (z := .cells (tbCells (L.set tb.last x e) { tb with ui := tb.ui + 1, ub := tb.ub + data.length, nodes := addE (upd tb.nodes tb.last (some nd)) dir name tb.last }) true) g03 n0' a3.inO
  replace e4 : storeA tab h3 3 (.ptr o 3) (.int .i64 (tb.ub + data.length)) = some (h3.put o (.cells (tbCells (L.set tb.last x e) { tb with ui := tb.ui + 1, ub := tb.ub + data.length, nodes := addE (upd tb.nodes tb.last (some nd)) dir name tb.last }) true)) := e4
  have k3 : Step (fun j => S j ∨ j = x ∨ (nd.kind = 2 ∧ j = e)) h1 (fun j => S j ∨ j = x ∨ (nd.kind = 2 ∧ j = e)) (h3.put o (.cells (tbCells (L.set tb.last x e) { tb with ui := tb.ui + 1, ub := tb.ub + data.length, nodes := addE (upd tb.nodes tb.last (some nd)) dir name tb.last }) true)) := by
    have s1 := (Step.refl (S := fun j => S j ∨ j = x ∨ (nd.kind = 2 ∧ j = e)) w1).put hin gz y
    rw [hh2] at s1
    have s2 := s1.put a2.inO a2.top (.cells (tbCells (L.set tb.last x e) { tb with ui := tb.ui + 1, nodes := addE (upd tb.nodes tb.last (some nd)) dir name tb.last }) true)
    rw [hh3] at s2
    exact s2.put a3.inO a3.top _
  generalize hh4 : h3.put o (.cells (tbCells (L.set tb.last x e) { tb with ui := tb.ui + 1, ub := tb.ub + data.length, nodes := addE (upd tb.nodes tb.last (some nd)) dir name tb.last }) true) = h4 at e4 a4 g04 k3
  have hev : evOf (L.set tb.last x e) dir dnd = .map ((L.set tb.last x e).ent dir) := by simp only [evOf, hd2, if_true]
  have s1 := hs.ui; have s2 := hs.ub
  refine ⟨fun j => S j ∨ j = x ∨ (nd.kind = 2 ∧ j = e), h4, ?_, a4, ?_⟩
  · simp only [ld23 g0, ld23 g0', ld23 g0'', ld23 g03, ld23 g04, valK_s, nil_ptr, fa68_2, fa68_3, fa68_1, fa26_20, fa26_21, a.l_m, a.l_last, u1, hpK_s, show loadA tab h1 66 (.ptr o 4) = some (.map (L.set tb.last x e).m) from a1.l_m, a1.look_some hd1, fa65_2, a1.l_ents hd1, hev, a1.l_last, e2, a2.l_ui,
      abin_add (show -9223372036854775808 ≤ tb.ui + 1 by omega) (show tb.ui + 1 ≤ 9223372036854775807 by omega), e3, a3.l_ub, ld9 g63, alen9, abin_add (show -9223372036854775808 ≤ tb.ub + data.length by omega) (show tb.ub + data.length ≤ 9223372036854775807 by omega), e4, a4.l_last, unmark_nil]
  · refine ((kb.trans k1).wider fun j hj => ?_).trans k3
    rcases hj with hj | rfl | ⟨h2, rfl⟩
    · exact .inl hj
    · exact .inr (.inr hbx)
    · exact .inr (.inr (hbe h2))
end
end Go.Am

set_option linter.unusedVariables false
set_option linter.unusedSimpArgs false
namespace Go.Am
open Go Go.Proofs

theorem slice_row {h : AHeap} (fs : List AV) : Row (h.add (.cells fs true)) (.slice h.next 0 fs.length 1) fs.length 1 fs :=
  ⟨by simp, .inr (.inr ⟨_, 0, fs, true, rfl, AHeap.get_add_self _ _, by simp, fun j _ => by rw [Nat.zero_add]⟩)⟩

section
variable {S : Nat → Prop} {h : AHeap} {o : Nat} {tb : Tb} {L : Lay}

theorem Step.none {S' : Nat → Prop} {h' : AHeap} (a : Step S h S' h') {j : Nat} (hj : h'.get j = none) (hS : ¬ S j) : h.get j = none := by
  cases e : h.get j with
  | none => rfl
  | some y => rw [a.keep j y e hS] at hj; cases hj

theorem ne_of_get {j k : Nat} {y : AObj} (h1 : h.get j = some y) (h2 : h.get k = none) : j ≠ k := fun e => by rw [e, h2] at h1; cases h1

theorem make_run (a : TR S h o tb L) (hw : h.WF) (hs : Small tb) (hf : Fresh tb) {dir kind mode : Int} {name data : Bs} (hl : 0 ≤ tb.last ∧ tb.last < 1000000000000) (hname : name.length ≤ 56 → AnyOK name) (hdl : data.length < 1152921504606846976) :
    ∃ S' L' h', EG (.fn 8) [.ptr o 0, .int .i64 dir, .str name, .int .i64 kind, .int .i64 mode, .str data] h = some (.tuple [.int .i64 (if makeE tb dir name kind mode data = 0 then tb.last + 1 else 0), .int .i64 (makeE tb dir name kind mode data)], h') ∧
      TR S' h' o (makeT tb dir name kind mode data) L' ∧ Step S h S' h' := by
  obtain ⟨b0, h1, e1, g1, x1, n1⟩ := box hw (.ptr o 0) rfl rfl
  obtain ⟨b2, h2, e2, g2, x2, n2⟩ := box x1.wf (.int .i64 kind) rfl rfl
  obtain ⟨b4, h3, e3, g3, x3, n3⟩ := box x2.wf (.int .i64 mode) rfl rfl
  obtain ⟨b6, h4, e4, g4, x4, n4⟩ := box x3.wf (.str data) rfl rfl
  have X4 := ((x1.trans x2).trans x3).trans x4
  obtain ⟨c5, h5, e5, x5, a5⟩ := dir_run (a.ext X4) x4.wf dir
  obtain ⟨c6, h6, e6, x6, a6⟩ := named_run x5.wf hname
  obtain ⟨c7, h7, e7, x7, a7⟩ := free_run (a.ext ((X4.trans x5).trans x6)) x6.wf dir name
  have k0 : h7.get b0 = some (.cells [.ptr o 0] true) := x7.keep _ _ (x6.keep _ _ (x5.keep _ _ (x4.keep _ _ (x3.keep _ _ (x2.keep _ _ g1)))))
  have k0a : h4.get b0 = some (.cells [.ptr o 0] true) := x4.keep _ _ (x3.keep _ _ (x2.keep _ _ g1))
  have k0b : h5.get b0 = some (.cells [.ptr o 0] true) := x5.keep _ _ k0a
  have k0c : h6.get b0 = some (.cells [.ptr o 0] true) := x6.keep _ _ k0b
  have k2 : h7.get b2 = some (.cells [.int .i64 kind] true) := x7.keep _ _ (x6.keep _ _ (x5.keep _ _ (x4.keep _ _ (x3.keep _ _ g2))))
  have k4 : h7.get b4 = some (.cells [.int .i64 mode] true) := x7.keep _ _ (x6.keep _ _ (x5.keep _ _ (x4.keep _ _ g3)))
  have k6 : h7.get b6 = some (.cells [.str data] true) := x7.keep _ _ (x6.keep _ _ (x5.keep _ _ g4))
  have X7 := ((X4.trans x5).trans x6).trans x7
  let fs : List AV := [.func 27 [.ptr o 0] [], .func 57 [] c5, .func 58 [] c6, .func 23 [] [.ptr b6 0, .ptr b2 0, .ptr b4 0], .func 60 [] c7, .func 31 [] [.ptr b0 0, .ptr b6 0]]
  have e8 : abuildSlice tab h7 90 6 [(0, .func 27 [.ptr o 0] []), (1, .func 57 [] c5), (2, .func 58 [] c6), (3, .func 23 [] [.ptr b6 0, .ptr b2 0, .ptr b4 0]), (4, .func 60 [] c7), (5, .func 31 [] [.ptr b0 0, .ptr b6 0])] = some (.slice h7.next 0 6 1, h7.add (.cells fs true)) := rfl
  have x8 : Ext h7 (h7.add (.cells fs true)) := (Ext.refl x7.wf).add _
  have r8 : Row (h7.add (.cells fs true)) (.slice h7.next 0 6 1) fs.length 1 fs := slice_row fs
  have w8 := x8.wf
  generalize hh8 : h7.add (.cells fs true) = h8 at e8 x8 r8 w8
  have q : Asks h8 fs [0, dirE tb dir, nameE name, likeE kind mode data, freeE tb dir name, roomE tb 1 data.length] :=
    ⟨there_ask, fun _ => ⟨a5.ext (((x6.trans x7).trans x8)), fun _ => ⟨a6.ext (x7.trans x8), fun _ => ⟨(like_ask k6 k2 k4 x7.wf).ext x8, fun _ => ⟨a7.ext x8, fun _ => ⟨(room1_ask (a.ext X7) x7.wf hs k0 k6 hdl).ext x8, fun _ => trivial⟩⟩⟩⟩⟩⟩
  obtain ⟨h9, e9, x9⟩ := first_run q r8 (by show 6 < 1000; omega) w8
  replace e9 : EG (.fn 26) [.slice h7.next 0 6 1] h8 = some (.int .i64 (makeE tb dir name kind mode data), h9) := e9
  have hT : makeT tb dir name kind mode data = if makeE tb dir name kind mode data = 0 then madeT tb dir name kind mode data else tb := rfl
  rw [hT]
  have hz0 : makeE tb dir name kind mode data = 0 → ∀ e ∈ [0, dirE tb dir, nameE name, likeE kind mode data, freeE tb dir name, roomE tb 1 data.length], e = 0 := firstE_zero.1
  clear hT q
  generalize makeE tb dir name kind mode data = E at e9 hz0 ⊢
  have X9 := (X7.trans x8).trans x9
  have A9 := a.ext X9
  have m0 := x9.keep _ _ (x8.keep _ _ k0)
  have m2 := x9.keep _ _ (x8.keep _ _ k2)
  have m4 := x9.keep _ _ (x8.keep _ _ k4)
  have m6 := x9.keep _ _ (x8.keep _ _ k6)
  by_cases h0 : E = 0
  · have hz := hz0 h0
    obtain ⟨dnd, hd, hd2⟩ := dirE_zero (hz _ (by simp) : dirE tb dir = 0)
    have hn := freeE_zero (hz _ (by simp) : freeE tb dir name = 0)
    rw [findT_some hd] at hn
    have nb0 := a.not_new n1
    have nb2 := a.not_new (x1.none n2)
    have nb4 := a.not_new (x1.none (x2.none n3))
    have nb6 := a.not_new (x1.none (x2.none (x3.none n4)))
    have e10 := A9.s_last (tb.last + 1)
    have a10 := A9.setTop (tb' := { tb with last := tb.last + 1 }) rfl
    have k10 : Step S h S (h9.put o (.cells (tbCells L { tb with last := tb.last + 1 }) true)) := X9.step.put A9.inO A9.top _
    have p0 := keepP (z := .cells (tbCells L { tb with last := tb.last + 1 }) true) m0 nb0 A9.inO
    have p2 := keepP (z := .cells (tbCells L { tb with last := tb.last + 1 }) true) m2 nb2 A9.inO
    have p4 := keepP (z := .cells (tbCells L { tb with last := tb.last + 1 }) true) m4 nb4 A9.inO
    have p6 := keepP (z := .cells (tbCells L { tb with last := tb.last + 1 }) true) m6 nb6 A9.inO
    generalize hh10 : h9.put o (.cells (tbCells L { tb with last := tb.last + 1 }) true) = h10 at e10 a10 k10 p0 p2 p4 p6
    have c38 : abuild tab 35 [(0, .int .i64 kind), (1, .int .i64 mode), (2, .str data), (3, .int .i64 1)] = some (.agg [.int .i64 kind, .int .i64 mode, .str data, .int .i64 1]) := rfl
    have c39 : abuild tab 65 [(0, .agg [.int .i64 kind, .int .i64 mode, .str data, .int .i64 1])] = some (.agg [.int .i64 kind, .int .i64 mode, .str data, .int .i64 1, .int .i64 0, .nilmap]) := rfl
    have c40 : boxA h10 (.agg [.int .i64 kind, .int .i64 mode, .str data, .int .i64 1, .int .i64 0, .nilmap]) = some (.ptr h10.next 0, h10.add (.cells [.int .i64 kind, .int .i64 mode, .str data, .int .i64 1, .int .i64 0, .nilmap] true)) := rfl
    have w10 := k10.wf
    have f10 : h10.get h10.next = none := w10.new
    have x11 : Ext h10 (h10.add (.cells [.int .i64 kind, .int .i64 mode, .str data, .int .i64 1, .int .i64 0, .nilmap] true)) := (Ext.refl w10).add _
    have g11 : (h10.add (.cells [.int .i64 kind, .int .i64 mode, .str data, .int .i64 1, .int .i64 0, .nilmap] true)).get h10.next = some (.cells [.int .i64 kind, .int .i64 mode, .str data, .int .i64 1, .int .i64 0, .nilmap] true) := AHeap.get_add_self _ _
    generalize hh11 : h10.add (.cells [.int .i64 kind, .int .i64 mode, .str data, .int .i64 1, .int .i64 0, .nilmap] true) = h11 at c40 x11 g11
    have hxS : ¬ S h10.next := a10.not_new f10
    have hlast : ({ tb with last := tb.last + 1 } : Tb).nodes ({ tb with last := tb.last + 1 } : Tb).last = none := hf _ (by show tb.last < tb.last + 1; omega)
    have hlast2 : 0 ≤ ({ tb with last := tb.last + 1 } : Tb).last ∧ ({ tb with last := tb.last + 1 } : Tb).last < 1152921504606846976 := by show 0 ≤ tb.last + 1 ∧ tb.last + 1 < _; omega
    have hs' : Small { tb with last := tb.last + 1 } := ⟨hs.qi, hs.qb, hs.ui, hs.ub⟩
    by_cases hk2 : kind = 2
    · subst hk2
      have c97 : newMapA h11 = some (.map h11.next, h11.add (.map [] 0)) := rfl
      have f11 : h11.get h11.next = none := x11.wf.new
      have x12 : Ext h10 (h11.add (.map [] 0)) := x11.add _
      have g12 : (h11.add (.map [] 0)).get h10.next = some (.cells [.int .i64 2, .int .i64 mode, .str data, .int .i64 1, .int .i64 0, .nilmap] true) := ((Ext.refl x11.wf).add _).keep _ _ g11
      have ge : (h11.add (.map [] 0)).get h11.next = some (.map (strE []) 0) := AHeap.get_add_self _ _
      have hne : h11.next ≠ h10.next := fun e => by rw [e, g11] at f11; cases f11
      generalize hh12 : h11.add (.map [] 0) = h12 at c97 x12 g12 ge
      have c13 : storeA tab h12 3 (.ptr h10.next 4) (.int .i64 dir) = some (h12.put h10.next (.cells [.int .i64 2, .int .i64 mode, .str data, .int .i64 1, .int .i64 dir, .nilmap] true)) := by
        simp only [storeA, astore, g12, ty3]; rfl
      have x13 : Ext h10 (h12.put h10.next (.cells [.int .i64 2, .int .i64 mode, .str data, .int .i64 1, .int .i64 dir, .nilmap] true)) := x12.put f10 g12 _
      have g13 : (h12.put h10.next (.cells [.int .i64 2, .int .i64 mode, .str data, .int .i64 1, .int .i64 dir, .nilmap] true)).get h10.next = some (.cells [.int .i64 2, .int .i64 mode, .str data, .int .i64 1, .int .i64 dir, .nilmap] true) := AHeap.get_put_self _ _ _
      have ge13 : (h12.put h10.next (.cells [.int .i64 2, .int .i64 mode, .str data, .int .i64 1, .int .i64 dir, .nilmap] true)).get h11.next = some (.map (strE []) 0) := by rw [AHeap.get_put_ne _ _ hne]; exact ge
      generalize hh13 : h12.put h10.next (.cells [.int .i64 2, .int .i64 mode, .str data, .int .i64 1, .int .i64 dir, .nilmap] true) = h13 at c13 x13 g13 ge13
      have c14 : storeA tab h13 63 (.ptr h10.next 5) (.map h11.next) = some (h13.put h10.next (.cells [.int .i64 2, .int .i64 mode, .str data, .int .i64 1, .int .i64 dir, .map h11.next] true)) := by
        simp only [storeA, astore, g13, ty63]; rfl
      have x14 : Ext h10 (h13.put h10.next (.cells [.int .i64 2, .int .i64 mode, .str data, .int .i64 1, .int .i64 dir, .map h11.next] true)) := x13.put f10 g13 _
      have g14 : (h13.put h10.next (.cells [.int .i64 2, .int .i64 mode, .str data, .int .i64 1, .int .i64 dir, .map h11.next] true)).get h10.next = some (.cells [.int .i64 2, .int .i64 mode, .str data, .int .i64 1, .int .i64 dir, .map h11.next] true) := AHeap.get_put_self _ _ _
      have ge14 : (h13.put h10.next (.cells [.int .i64 2, .int .i64 mode, .str data, .int .i64 1, .int .i64 dir, .map h11.next] true)).get h11.next = some (.map (strE []) 0) := by rw [AHeap.get_put_ne _ _ hne]; exact ge13
      generalize hh14 : h13.put h10.next (.cells [.int .i64 2, .int .i64 mode, .str data, .int .i64 1, .int .i64 dir, .map h11.next] true) = h14 at c14 x14 g14 ge14
      have heS : ¬ S h11.next := fun hS => a10.there _ hS (x11.none f11)
      obtain ⟨S', h', er, at', st⟩ := make_rest (hb := h) (nd := freshNd dir 2 mode data) (x := h10.next) (e := h11.next) (name := name) (data := data) (b0 := b0) (b6 := b6) (a10.ext x14) x14.wf (k10.trans x14.step) hs' hlast2 hlast hd hd2 hn hdl
        (x14.keep _ _ p0) nb0 (x14.keep _ _ p6) nb6 (by rw [g14]; simp only [ndCells, freshNd, evOf, if_true, Lay.set_ent]) hxS (fun _ => ⟨⟨[], 0, ge14, rfl, by simp, List.Pairwise.nil⟩, heS⟩) (fun h => absurd rfl h) (k10.none f10 hxS) (fun _ => k10.none (x11.none f11) heS)
        ⟨ne_of_get p0 f10, ne_of_get (x11.keep _ _ p0) f11⟩ ⟨ne_of_get p6 f10, ne_of_get (x11.keep _ _ p6) f11⟩
      refine ⟨S', _, h', run8 0 ?_, by rw [if_pos h0]; exact at', st⟩
      unfold F8
      simp only [e1, e2, e3, e4, bothK_s, ld23 k0a, valK_s, e5, ld23 k0b, sameK_r, e6, ld23 k0c, e7, ld23 k0, e8, e9, abin_neq]
      simp only [h0, decide_true, Bool.not_true, boolK_f, ld23 m0, nil_ptr, fa68_3, A9.l_last, valK_s, abin_add (show -9223372036854775808 ≤ tb.last + 1 by omega) (show tb.last + 1 ≤ 9223372036854775807 by omega), e10, hpK_s, ld3 p2, ld3 p4, ld9 p6, c38, c39, c40, bothK_s, jn_a, ld3 (x11.keep _ _ p2), abin_eql, boolK_t, c97, fa65_1, c13, fa65_2, c14, if_true]
      exact er
    · obtain ⟨S', h', er, at', st⟩ := make_rest (hb := h) (nd := freshNd dir kind mode data) (x := h10.next) (e := h10.next) (name := name) (data := data) (b0 := b0) (b6 := b6) (a10.ext x11) x11.wf (k10.trans x11.step) hs' hlast2 hlast hd hd2 hn hdl
        (x11.keep _ _ p0) nb0 (x11.keep _ _ p6) nb6 (by rw [g11]; simp only [ndCells, freshNd, evOf, if_neg hk2]) hxS (fun h2 => absurd h2 hk2) (fun _ => rfl) (k10.none f10 hxS) (fun h2 => absurd h2 hk2)
        ⟨ne_of_get p0 f10, ne_of_get p0 f10⟩ ⟨ne_of_get p6 f10, ne_of_get p6 f10⟩
      refine ⟨S', _, h', run8 0 ?_, by rw [if_pos h0]; exact at', st⟩
      unfold F8
      simp only [e1, e2, e3, e4, bothK_s, ld23 k0a, valK_s, e5, ld23 k0b, sameK_r, e6, ld23 k0c, e7, ld23 k0, e8, e9, abin_neq]
      simp only [h0, decide_true, Bool.not_true, boolK_f, ld23 m0, nil_ptr, fa68_3, A9.l_last, valK_s, abin_add (show -9223372036854775808 ≤ tb.last + 1 by omega) (show tb.last + 1 ≤ 9223372036854775807 by omega), e10, hpK_s, ld3 p2, ld3 p4, ld9 p6, c38, c39, c40, bothK_s, jn_a, ld3 (x11.keep _ _ p2), abin_eql, decide_eq_false hk2, if_true]
      exact er
  · refine ⟨S, L, h9, run8 0 ?_, by rw [if_neg h0]; exact A9, X9.step⟩
    unfold F8
    simp only [e1, e2, e3, e4, bothK_s, ld23 k0a, valK_s, e5, ld23 k0b, sameK_r, e6, ld23 k0c, e7, ld23 k0, e8, e9, abin_neq]
    simp only [decide_eq_false h0, Bool.not_false, boolK_t, if_neg h0]
end
end Go.Am

set_option linter.unusedVariables false
set_option linter.unusedSimpArgs false
namespace Go.Am
open Go Go.Proofs

def incL (f : Int → Option Nd) (k d : Int) : Int → Option Nd := match f k with
  | some nd => upd f k (some { nd with links := nd.links + d })
  | none => f
theorem incL_some {f : Int → Option Nd} {k : Int} {nd : Nd} (h : f k = some nd) (d : Int) : incL f k d = upd f k (some { nd with links := nd.links + d }) := by simp only [incL, h]

def linkE (tb : Tb) (dir : Int) (name : Bs) (ino : Int) : Int := firstE [0, dirE tb dir, nameE name, fileE tb ino, freeE tb dir name]
def linkT (tb : Tb) (dir : Int) (name : Bs) (ino : Int) : Tb := if linkE tb dir name ino = 0 then { tb with nodes := incL (addE tb.nodes dir name ino) ino 1 } else tb

def writeE (tb : Tb) (ino : Int) (data : Bs) : Int := firstE [0, fileE tb ino, match tb.nodes ino with | some nd => roomE tb 0 ((data.length : Int) - nd.data.length) | none => 0]
def writeT (tb : Tb) (ino : Int) (data : Bs) : Tb := if writeE tb ino data = 0 then (match tb.nodes ino with
  | some nd => { tb with ub := tb.ub + ((data.length : Int) - nd.data.length), nodes := upd tb.nodes ino (some { nd with data := data }) }
  | none => tb) else tb

def chmodE (tb : Tb) (ino mode : Int) : Int := firstE [0, if 0 ≤ mode ∧ mode ≤ 511 then 0 else 2, if (tb.nodes ino).isSome = true then 0 else 5]
def chmodT (tb : Tb) (ino mode : Int) : Tb := if chmodE tb ino mode = 0 then (match tb.nodes ino with
  | some nd => { tb with nodes := upd tb.nodes ino (some { nd with mode := mode }) }
  | none => tb) else tb

section
variable {S : Nat → Prop} {h : AHeap} {o : Nat} {tb : Tb} {L : Lay}

theorem link_run (a : TR S h o tb L) (hw : h.WF) {dir ino : Int} {name : Bs} (hname : name.length ≤ 56 → AnyOK name) (hlk : ∀ nd, tb.nodes ino = some nd → -1000000000000 < nd.links ∧ nd.links < 1000000000000) :
    ∃ h', EG (.fn 9) [.ptr o 0, .int .i64 dir, .str name, .int .i64 ino] h = some (.int .i64 (linkE tb dir name ino), h') ∧ TR S h' o (linkT tb dir name ino) L ∧ Step S h S h' := by
  obtain ⟨c1, h1, e1, x1, a1⟩ := dir_run a hw dir
  obtain ⟨c2, h2, e2, x2, a2⟩ := named_run x1.wf hname
  obtain ⟨c3, h3, e3, x3, a3⟩ := file_run (a.ext (x1.trans x2)) x2.wf ino
  obtain ⟨c4, h4, e4, x4, a4⟩ := free_run (a.ext ((x1.trans x2).trans x3)) x3.wf dir name
  have X4 := ((x1.trans x2).trans x3).trans x4
  have e5 : abuildSlice tab h4 90 5 [(0, .func 27 [.ptr o 0] []), (1, .func 57 [] c1), (2, .func 58 [] c2), (3, .func 62 [] c3), (4, .func 60 [] c4)] = some (.slice h4.next 0 5 1, h4.add (.cells [.func 27 [.ptr o 0] [], .func 57 [] c1, .func 58 [] c2, .func 62 [] c3, .func 60 [] c4] true)) := rfl
  have x5 : Ext h4 (h4.add (.cells [.func 27 [.ptr o 0] [], .func 57 [] c1, .func 58 [] c2, .func 62 [] c3, .func 60 [] c4] true)) := (Ext.refl x4.wf).add _
  have r5 := slice_row (h := h4) [.func 27 [.ptr o 0] [], .func 57 [] c1, .func 58 [] c2, .func 62 [] c3, .func 60 [] c4]
  generalize hh5 : h4.add (.cells [.func 27 [.ptr o 0] [], .func 57 [] c1, .func 58 [] c2, .func 62 [] c3, .func 60 [] c4] true) = h5 at e5 x5 r5
  have q : Asks h5 [.func 27 [.ptr o 0] [], .func 57 [] c1, .func 58 [] c2, .func 62 [] c3, .func 60 [] c4] [0, dirE tb dir, nameE name, fileE tb ino, freeE tb dir name] :=
    ⟨there_ask, fun _ => ⟨a1.ext (((x2.trans x3).trans x4).trans x5), fun _ => ⟨a2.ext ((x3.trans x4).trans x5), fun _ => ⟨a3.ext (x4.trans x5), fun _ => ⟨a4.ext x5, fun _ => trivial⟩⟩⟩⟩⟩
  obtain ⟨h6, e6, x6⟩ := first_run q r5 (by simp) x5.wf
  replace e6 : EG (.fn 26) [.slice h4.next 0 5 1] h5 = some (.int .i64 (linkE tb dir name ino), h6) := e6
  have hT : linkT tb dir name ino = if linkE tb dir name ino = 0 then { tb with nodes := incL (addE tb.nodes dir name ino) ino 1 } else tb := rfl
  rw [hT]
  have hz0 : linkE tb dir name ino = 0 → ∀ e ∈ [0, dirE tb dir, nameE name, fileE tb ino, freeE tb dir name], e = 0 := firstE_zero.1
  clear hT q
  generalize linkE tb dir name ino = E at e6 hz0 ⊢
  have X6 := (X4.trans x5).trans x6
  have A6 := a.ext X6
  by_cases h0 : E = 0
  · have hz := hz0 h0
    obtain ⟨dnd, hd, hd2⟩ := dirE_zero (hz _ (by simp) : dirE tb dir = 0)
    obtain ⟨fnd, hf, hf2⟩ := fileE_zero (hz _ (by simp) : fileE tb ino = 0)
    have hn := freeE_zero (hz _ (by simp) : freeE tb dir name = 0)
    rw [findT_some hd] at hn
    have hne : ino ≠ dir := fun e => by rw [e, hd] at hf; cases hf; omega
    obtain ⟨y, e7, ⟨z, gz⟩, a7⟩ := A6.enter hd hd2 hn ino
    have k7 := X6.step.put (A6.inE _ _ hd hd2) gz y
    have hf7 : upd tb.nodes dir (some { dnd with ents := dnd.ents ++ [(name, ino)] }) ino = some fnd := by rw [upd_ne _ _ hne]; exact hf
    have lb := hlk _ hf
    have e8 := a7.s_links hf7 (fnd.links + 1)
    have a8 := a7.setNode (nd' := { fnd with links := fnd.links + 1 }) hf7 rfl rfl
    have k8 := k7.put (a7.inN _ _ hf7) (a7.node _ _ hf7) (.cells (ndCells L ino { fnd with links := fnd.links + 1 }) true)
    refine ⟨_, run9 0 ?_, ?_, k8⟩
    · unfold F9
      have hev : evOf L dir dnd = .map (L.ent dir) := by simp only [evOf, hd2, if_true]
      simp only [e1, e2, e3, e4, bothK_s, e5, e6, abin_neq, valK_s]
      simp only [h0, decide_true, Bool.not_true, boolK_f, nil_ptr, fa68_2, A6.l_m, valK_s, A6.look_some hd, fa65_2, A6.l_ents hd, hev, e7, hpK_s, a7.l_m, a7.look_some hf7, fa65_0, fa35_3, a7.l_links hf7,
        abin_add (show -9223372036854775808 ≤ fnd.links + 1 by omega) (show fnd.links + 1 ≤ 9223372036854775807 by omega), e8]
    · rw [if_pos h0, addE_some hd, incL_some hf7]; exact a8
  · refine ⟨h6, run9 0 ?_, by rw [if_neg h0]; exact A6, X6.step⟩
    unfold F9
    simp only [e1, e2, e3, e4, bothK_s, e5, e6, abin_neq, valK_s]
    simp only [decide_eq_false h0, Bool.not_false, boolK_t]

theorem write_run (a : TR S h o tb L) (hw : h.WF) (hs : Small tb) {ino : Int} {data : Bs} (hdl : data.length < 1000000000000) (hdo : ∀ nd, tb.nodes ino = some nd → nd.data.length < 1000000000000) :
    ∃ h', EG (.fn 10) [.ptr o 0, .int .i64 ino, .str data] h = some (.int .i64 (writeE tb ino data), h') ∧ TR S h' o (writeT tb ino data) L ∧ Step S h S h' := by
  obtain ⟨b0, h1, e1, g1, x1, n1⟩ := box hw (.ptr o 0) rfl rfl
  obtain ⟨b2, h2, e2, g2, x2, n2⟩ := box x1.wf (.int .i64 ino) rfl rfl
  obtain ⟨b4, h3, e3, g3, x3, n3⟩ := box x2.wf (.str data) rfl rfl
  have X3 := (x1.trans x2).trans x3
  obtain ⟨c4, h4, e4, x4, a4⟩ := file_run (a.ext X3) x3.wf ino
  have X4 := X3.trans x4
  have k0a : h3.get b0 = some (.cells [.ptr o 0] true) := x3.keep _ _ (x2.keep _ _ g1)
  have k2a : h3.get b2 = some (.cells [.int .i64 ino] true) := x3.keep _ _ g2
  have k0 : h4.get b0 = some (.cells [.ptr o 0] true) := x4.keep _ _ k0a
  have k2 : h4.get b2 = some (.cells [.int .i64 ino] true) := x4.keep _ _ k2a
  have k4 : h4.get b4 = some (.cells [.str data] true) := x4.keep _ _ g3
  have e5 : abuildSlice tab h4 90 3 [(0, .func 27 [.ptr o 0] []), (1, .func 62 [] c4), (2, .func 34 [] [.ptr b0 0, .ptr b4 0, .ptr b2 0])] = some (.slice h4.next 0 3 1, h4.add (.cells [.func 27 [.ptr o 0] [], .func 62 [] c4, .func 34 [] [.ptr b0 0, .ptr b4 0, .ptr b2 0]] true)) := rfl
  have x5 : Ext h4 (h4.add (.cells [.func 27 [.ptr o 0] [], .func 62 [] c4, .func 34 [] [.ptr b0 0, .ptr b4 0, .ptr b2 0]] true)) := (Ext.refl x4.wf).add _
  have r5 := slice_row (h := h4) [.func 27 [.ptr o 0] [], .func 62 [] c4, .func 34 [] [.ptr b0 0, .ptr b4 0, .ptr b2 0]]
  generalize hh5 : h4.add (.cells [.func 27 [.ptr o 0] [], .func 62 [] c4, .func 34 [] [.ptr b0 0, .ptr b4 0, .ptr b2 0]] true) = h5 at e5 x5 r5
  have ask : ∀ nd, tb.nodes ino = some nd → Ask h5 (.func 34 [] [.ptr b0 0, .ptr b4 0, .ptr b2 0]) (roomE tb 0 ((data.length : Int) - nd.data.length)) := fun nd hk => by
    refine ⟨34, [], _, rfl, fun h' x' => ?_⟩
    have A' := a.ext ((X4.trans x5).trans x')
    have hdn := hdo nd hk
    obtain ⟨c, h2, q1, q2, g, p, c', q3, q4⟩ := room_run A' x'.wf hs (i := 0) (b := (data.length : Int) - nd.data.length) (by omega) (by omega)
    cases q3
    obtain ⟨h3, q5, q6⟩ := q4 h2 (Ext.refl q2.wf)
    rw [List.nil_append] at q5
    refine ⟨h3, run34 0 ?_, q2.trans q6⟩
    unfold F34
    simp only [ld23 (x'.keep _ _ (x5.keep _ _ k0)), ld9 (x'.keep _ _ (x5.keep _ _ k4)), ld3 (x'.keep _ _ (x5.keep _ _ k2)), valK_s, alen9, nil_ptr, fa68_2, A'.l_m, A'.look_some hk, fa65_0, fa35_2, A'.l_data hk,
      abin_sub (show -9223372036854775808 ≤ (data.length : Int) - nd.data.length by omega) (show (data.length : Int) - nd.data.length ≤ 9223372036854775807 by omega), q1, bothK_s, callA_func, List.nil_append, q5]
  have q : Asks h5 [.func 27 [.ptr o 0] [], .func 62 [] c4, .func 34 [] [.ptr b0 0, .ptr b4 0, .ptr b2 0]] [0, fileE tb ino, match tb.nodes ino with | some nd => roomE tb 0 ((data.length : Int) - nd.data.length) | none => 0] :=
    ⟨there_ask, fun _ => ⟨a4.ext x5, fun hz => by
      obtain ⟨nd, hk, _⟩ := fileE_zero hz
      rw [hk]
      exact ⟨ask nd hk, fun _ => trivial⟩⟩⟩
  obtain ⟨h6, e6, x6⟩ := first_run q r5 (by simp) x5.wf
  replace e6 : EG (.fn 26) [.slice h4.next 0 3 1] h5 = some (.int .i64 (writeE tb ino data), h6) := e6
  have hT : writeT tb ino data = if writeE tb ino data = 0 then (match tb.nodes ino with
    | some nd => { tb with ub := tb.ub + ((data.length : Int) - nd.data.length), nodes := upd tb.nodes ino (some { nd with data := data }) }
    | none => tb) else tb := rfl
  rw [hT]
  have hz0 : writeE tb ino data = 0 → fileE tb ino = 0 := fun h0 => firstE_zero.1 h0 _ (by simp)
  clear hT q
  generalize writeE tb ino data = E at e6 hz0 ⊢
  have X6 := (X4.trans x5).trans x6
  have A6 := a.ext X6
  have m0 := x6.keep _ _ (x5.keep _ _ k0)
  have m2 := x6.keep _ _ (x5.keep _ _ k2)
  have m4 := x6.keep _ _ (x5.keep _ _ k4)
  by_cases h0 : E = 0
  · obtain ⟨nd, hk, hk1⟩ := fileE_zero (hz0 h0)
    have hdn := hdo nd hk
    have s1 := hs.ub
    have n4 := a.not_new (x1.none (x2.none n3))
    have e7 := A6.s_ub (tb.ub + ((data.length : Int) - nd.data.length))
    have a7 := A6.setTop (tb' := { tb with ub := tb.ub + ((data.length : Int) - nd.data.length) }) rfl
    have k7 := X6.step.put A6.inO A6.top (.cells (tbCells L { tb with ub := tb.ub + ((data.length : Int) - nd.data.length) }) true)
    have p4 := keepP (z := .cells (tbCells L { tb with ub := tb.ub + ((data.length : Int) - nd.data.length) }) true) m4 n4 A6.inO
    generalize hh7 : h6.put o (.cells (tbCells L { tb with ub := tb.ub + ((data.length : Int) - nd.data.length) }) true) = h7 at e7 a7 k7 p4
    have e8 := a7.s_data (k := ino) hk data
    have a8 := a7.setNode (k := ino) (nd' := { nd with data := data }) hk rfl rfl
    have k8 := k7.put (a7.inN _ _ hk) (a7.node _ _ hk) (.cells (ndCells L ino { nd with data := data }) true)
    refine ⟨_, run10 0 ?_, ?_, k8⟩
    · unfold F10
      simp only [e1, e2, e3, bothK_s, ld23 k0a, ld3 k2a, valK_s, e4, ld23 k0, sameK_r, e5, e6, abin_neq]
      simp only [h0, decide_true, Bool.not_true, boolK_f, ld23 m0, ld3 m2, ld9 m4, valK_s, nil_ptr, fa68_2, A6.l_m, A6.look_some hk, fa68_1, fa26_21, A6.l_ub, alen9, fa65_0, fa35_2, A6.l_data hk,
        abin_sub (show -9223372036854775808 ≤ (data.length : Int) - nd.data.length by omega) (show (data.length : Int) - nd.data.length ≤ 9223372036854775807 by omega),
        abin_add (show -9223372036854775808 ≤ tb.ub + ((data.length : Int) - nd.data.length) by omega) (show tb.ub + ((data.length : Int) - nd.data.length) ≤ 9223372036854775807 by omega), e7, hpK_s, ld9 p4, e8]
    · rw [if_pos h0]
      simp only [hk]
      exact a8
  · refine ⟨h6, run10 0 ?_, by rw [if_neg h0]; exact A6, X6.step⟩
    unfold F10
    simp only [e1, e2, e3, bothK_s, ld23 k0a, ld3 k2a, valK_s, e4, ld23 k0, sameK_r, e5, e6, abin_neq]
    simp only [decide_eq_false h0, Bool.not_false, boolK_t]

theorem chmod_run (a : TR S h o tb L) (hw : h.WF) {ino mode : Int} :
    ∃ h', EG (.fn 46) [.ptr o 0, .int .i64 ino, .int .i64 mode] h = some (.int .i64 (chmodE tb ino mode), h') ∧ TR S h' o (chmodT tb ino mode) L ∧ Step S h S h' := by
  obtain ⟨b0, h1, e1, g1, x1, n1⟩ := box hw (.ptr o 0) rfl rfl
  obtain ⟨b2, h2, e2, g2, x2, n2⟩ := box x1.wf (.int .i64 ino) rfl rfl
  obtain ⟨b4, h3, e3, g3, x3, n3⟩ := box x2.wf (.int .i64 mode) rfl rfl
  have X3 := (x1.trans x2).trans x3
  have k0 : h3.get b0 = some (.cells [.ptr o 0] true) := x3.keep _ _ (x2.keep _ _ g1)
  have k2 : h3.get b2 = some (.cells [.int .i64 ino] true) := x3.keep _ _ g2
  have e5 : abuildSlice tab h3 90 3 [(0, .func 27 [.ptr o 0] []), (1, .func 74 [] [.ptr b4 0]), (2, .func 75 [] [.ptr b0 0, .ptr b2 0])] = some (.slice h3.next 0 3 1, h3.add (.cells [.func 27 [.ptr o 0] [], .func 74 [] [.ptr b4 0], .func 75 [] [.ptr b0 0, .ptr b2 0]] true)) := rfl
  have x5 : Ext h3 (h3.add (.cells [.func 27 [.ptr o 0] [], .func 74 [] [.ptr b4 0], .func 75 [] [.ptr b0 0, .ptr b2 0]] true)) := (Ext.refl x3.wf).add _
  have r5 := slice_row (h := h3) [.func 27 [.ptr o 0] [], .func 74 [] [.ptr b4 0], .func 75 [] [.ptr b0 0, .ptr b2 0]]
  generalize hh5 : h3.add (.cells [.func 27 [.ptr o 0] [], .func 74 [] [.ptr b4 0], .func 75 [] [.ptr b0 0, .ptr b2 0]] true) = h5 at e5 x5 r5
  have ask1 : Ask h5 (.func 74 [] [.ptr b4 0]) (if 0 ≤ mode ∧ mode ≤ 511 then 0 else 2) := by
    refine ⟨74, [], _, rfl, fun h' x' => ⟨h', run74 0 ?_, Ext.refl x'.wf⟩⟩
    unfold F74
    simp only [ld3 (x'.keep _ _ (x5.keep _ _ g3)), valK_s, abin_geq, abin_leq, must_run, bothK_s, boolK_b, decide_eq_true_eq]
    by_cases q1 : 0 ≤ mode <;> simp [q1]
  have ask2 : Ask h5 (.func 75 [] [.ptr b0 0, .ptr b2 0]) (if (tb.nodes ino).isSome = true then 0 else 5) := by
    refine ⟨75, [], _, rfl, fun h' x' => ⟨h', run75 0 ?_, Ext.refl x'.wf⟩⟩
    have A' := a.ext ((X3.trans x5).trans x')
    unfold F75
    simp only [ld23 (x'.keep _ _ (x5.keep _ _ k0)), ld3 (x'.keep _ _ (x5.keep _ _ k2)), valK_s, get_run A', bothK_s]
    cases hk : tb.nodes ino with
    | none => simp only [ptrOf, hk, ne62n, valK_s, must_run, bothK_s]; rfl
    | some nd => simp only [ptrOf, hk, ne62, valK_s, must_run, bothK_s]; rfl
  have q : Asks h5 [.func 27 [.ptr o 0] [], .func 74 [] [.ptr b4 0], .func 75 [] [.ptr b0 0, .ptr b2 0]] [0, if 0 ≤ mode ∧ mode ≤ 511 then 0 else 2, if (tb.nodes ino).isSome = true then 0 else 5] :=
    ⟨there_ask, fun _ => ⟨ask1, fun _ => ⟨ask2, fun _ => trivial⟩⟩⟩
  obtain ⟨h6, e6, x6⟩ := first_run q r5 (by simp) x5.wf
  replace e6 : EG (.fn 26) [.slice h3.next 0 3 1] h5 = some (.int .i64 (chmodE tb ino mode), h6) := e6
  have hT : chmodT tb ino mode = if chmodE tb ino mode = 0 then (match tb.nodes ino with
    | some nd => { tb with nodes := upd tb.nodes ino (some { nd with mode := mode }) }
    | none => tb) else tb := rfl
  rw [hT]
  have hz0 : chmodE tb ino mode = 0 → (tb.nodes ino).isSome = true := fun h0 => by
    have := firstE_zero.1 h0 (if (tb.nodes ino).isSome = true then 0 else 5) (by simp)
    split at this
    · assumption
    · simp at this
  clear hT q
  generalize chmodE tb ino mode = E at e6 hz0 ⊢
  have X6 := (X3.trans x5).trans x6
  have A6 := a.ext X6
  have m0 := x6.keep _ _ (x5.keep _ _ k0)
  have m2 := x6.keep _ _ (x5.keep _ _ k2)
  have m4 := x6.keep _ _ (x5.keep _ _ g3)
  by_cases h0 : E = 0
  · obtain ⟨nd, hk⟩ := Option.isSome_iff_exists.1 (hz0 h0)
    have e7 := A6.s_mode hk mode
    have a7 := A6.setNode (nd' := { nd with mode := mode }) hk rfl rfl
    have k7 := X6.step.put (A6.inN _ _ hk) (A6.node _ _ hk) (.cells (ndCells L ino { nd with mode := mode }) true)
    refine ⟨_, run46 0 ?_, ?_, k7⟩
    · unfold F46
      simp only [e1, e2, e3, bothK_s, ld23 k0, valK_s, e5, e6, abin_neq]
      simp only [h0, decide_true, Bool.not_true, boolK_f, ld23 m0, ld3 m2, ld3 m4, valK_s, nil_ptr, fa68_2, A6.l_m, A6.look_some hk, fa65_0, fa35_1, e7, hpK_s]
    · rw [if_pos h0]
      simp only [hk]
      exact a7
  · refine ⟨h6, run46 0 ?_, by rw [if_neg h0]; exact A6, X6.step⟩
    unfold F46
    simp only [e1, e2, e3, bothK_s, ld23 k0, valK_s, e5, e6, abin_neq]
    simp only [decide_eq_false h0, Bool.not_false, boolK_t]
end
end Go.Am

set_option linter.unusedVariables false
set_option linter.unusedSimpArgs false
namespace Go.Am
open Go Go.Proofs

def emptyE (tb : Tb) (dir : Int) (name : Bs) : Int := match findT tb dir name with
  | some n => (match tb.nodes n with | some nd => if nd.ents.length = 0 then 0 else 20 | none => 0)
  | none => 0
def unlinkE (tb : Tb) (dir : Int) (name : Bs) : Int := firstE [0, dirE tb dir, entryE tb dir name, emptyE tb dir name]
def goneT (tb : Tb) (f : Int → Option Nd) (ino : Int) : Tb := match f ino with
  | some nd => if nd.links - 1 = 0 then { tb with ui := tb.ui - 1, ub := tb.ub - nd.data.length, nodes := upd f ino none } else { tb with nodes := upd f ino (some { nd with links := nd.links - 1 }) }
  | none => { tb with nodes := f }
def unlinkT (tb : Tb) (dir : Int) (name : Bs) : Tb := if unlinkE tb dir name = 0 then (match findT tb dir name with
  | some ino => goneT tb (delE tb.nodes dir name) ino
  | none => tb) else tb

theorem upd_upd (f : Int → Option Nd) (k : Int) (x y : Option Nd) : upd (upd f k x) k y = upd f k y := by
  funext j
  unfold upd
  split <;> rfl

section
variable {S : Nat → Prop} {h : AHeap} {o : Nat} {tb : Tb} {L : Lay}

theorem unlink_run (a : TR S h o tb L) (hw : h.WF) (hs : Small tb) {dir : Int} {name : Bs} (hent : ∀ n, findT tb dir name = some n → ∃ nd, tb.nodes n = some nd ∧ nd.data.length < 1000000000000 ∧ -1000000000000 < nd.links ∧ nd.links < 1000000000000) :
    ∃ h', EG (.fn 14) [.ptr o 0, .int .i64 dir, .str name] h = some (.int .i64 (unlinkE tb dir name), h') ∧ TR S h' o (unlinkT tb dir name) L ∧ Step S h S h' := by
  obtain ⟨b0, h1, e1, g1, x1, n1⟩ := box hw (.ptr o 0) rfl rfl
  obtain ⟨b2, h2, e2, g2, x2, n2⟩ := box x1.wf (.int .i64 dir) rfl rfl
  obtain ⟨b4, h3, e3, g3, x3, n3⟩ := box x2.wf (.str name) rfl rfl
  have X3 := (x1.trans x2).trans x3
  obtain ⟨c4, h4, e4, x4, a4⟩ := dir_run (a.ext X3) x3.wf dir
  have X4 := X3.trans x4
  obtain ⟨c5, h5, e5, x5, a5⟩ := entry_run (a.ext X4) x4.wf dir name
  have X5 := X4.trans x5
  have k0a : h3.get b0 = some (.cells [.ptr o 0] true) := x3.keep _ _ (x2.keep _ _ g1)
  have k2a : h3.get b2 = some (.cells [.int .i64 dir] true) := x3.keep _ _ g2
  have k0b : h4.get b0 = some (.cells [.ptr o 0] true) := x4.keep _ _ k0a
  have k2b : h4.get b2 = some (.cells [.int .i64 dir] true) := x4.keep _ _ k2a
  have k4b : h4.get b4 = some (.cells [.str name] true) := x4.keep _ _ g3
  have k0 : h5.get b0 = some (.cells [.ptr o 0] true) := x5.keep _ _ k0b
  have k2 : h5.get b2 = some (.cells [.int .i64 dir] true) := x5.keep _ _ k2b
  have k4 : h5.get b4 = some (.cells [.str name] true) := x5.keep _ _ k4b
  have e6 : abuildSlice tab h5 90 4 [(0, .func 27 [.ptr o 0] []), (1, .func 57 [] c4), (2, .func 63 [] c5), (3, .func 36 [] [.ptr b0 0, .ptr b2 0, .ptr b4 0])] = some (.slice h5.next 0 4 1, h5.add (.cells [.func 27 [.ptr o 0] [], .func 57 [] c4, .func 63 [] c5, .func 36 [] [.ptr b0 0, .ptr b2 0, .ptr b4 0]] true)) := rfl
  have x6 : Ext h5 (h5.add (.cells [.func 27 [.ptr o 0] [], .func 57 [] c4, .func 63 [] c5, .func 36 [] [.ptr b0 0, .ptr b2 0, .ptr b4 0]] true)) := (Ext.refl x5.wf).add _
  have r6 := slice_row (h := h5) [.func 27 [.ptr o 0] [], .func 57 [] c4, .func 63 [] c5, .func 36 [] [.ptr b0 0, .ptr b2 0, .ptr b4 0]]
  generalize hh6 : h5.add (.cells [.func 27 [.ptr o 0] [], .func 57 [] c4, .func 63 [] c5, .func 36 [] [.ptr b0 0, .ptr b2 0, .ptr b4 0]] true) = h6 at e6 x6 r6
  have ask : ∀ n, findT tb dir name = some n → Ask h6 (.func 36 [] [.ptr b0 0, .ptr b2 0, .ptr b4 0]) (emptyE tb dir name) := fun n hn => by
    obtain ⟨nd, hk, _⟩ := hent n hn
    refine ⟨36, [], _, rfl, fun h' x' => ⟨h', run36 0 ?_, Ext.refl x'.wf⟩⟩
    have A' := a.ext ((X5.trans x6).trans x')
    have hfr := find_run A' dir name
    rw [hn] at hfr
    unfold F36
    simp only [ld23 (x'.keep _ _ (x6.keep _ _ k0)), ld3 (x'.keep _ _ (x6.keep _ _ k2)), ld9 (x'.keep _ _ (x6.keep _ _ k4)), valK_s, hfr, bothK_s, extractA_0, extractA_1, nil_ptr, fa68_2, A'.l_m, intOf, A'.look_some hk, fa65_2, A'.l_ents hk, A'.len hk, abin_eql, must_run, emptyE, hn, hk]
    have : decide ((nd.ents.length : Int) = 0) = decide (nd.ents.length = 0) := by
      by_cases q : nd.ents.length = 0 <;> simp [q]
    rw [this]
    simp only [decide_eq_true_eq]
  have q : Asks h6 [.func 27 [.ptr o 0] [], .func 57 [] c4, .func 63 [] c5, .func 36 [] [.ptr b0 0, .ptr b2 0, .ptr b4 0]] [0, dirE tb dir, entryE tb dir name, emptyE tb dir name] :=
    ⟨there_ask, fun _ => ⟨a4.ext (x5.trans x6), fun _ => ⟨a5.ext x6, fun hz => by
      obtain ⟨n, hn⟩ := entryE_zero hz
      exact ⟨ask n hn, fun _ => trivial⟩⟩⟩⟩
  obtain ⟨h7, e7, x7⟩ := first_run q r6 (by simp) x6.wf
  replace e7 : EG (.fn 26) [.slice h5.next 0 4 1] h6 = some (.int .i64 (unlinkE tb dir name), h7) := e7
  have hT : unlinkT tb dir name = if unlinkE tb dir name = 0 then (match findT tb dir name with
    | some ino => goneT tb (delE tb.nodes dir name) ino
    | none => tb) else tb := rfl
  rw [hT]
  have hz0 : unlinkE tb dir name = 0 → ∀ e ∈ [0, dirE tb dir, entryE tb dir name, emptyE tb dir name], e = 0 := firstE_zero.1
  clear hT q
  generalize unlinkE tb dir name = E at e7 hz0 ⊢
  have X7 := (X5.trans x6).trans x7
  have A7 := a.ext X7
  have m0 := x7.keep _ _ (x6.keep _ _ k0)
  have m2 := x7.keep _ _ (x6.keep _ _ k2)
  have m4 := x7.keep _ _ (x6.keep _ _ k4)
  by_cases h0 : E = 0
  · have hz := hz0 h0
    obtain ⟨dnd, hd, hd2⟩ := dirE_zero (hz _ (by simp) : dirE tb dir = 0)
    obtain ⟨ino, hin⟩ := entryE_zero (hz _ (by simp) : entryE tb dir name = 0)
    obtain ⟨nd, hk, hb1, hb2⟩ := hent ino hin
    have hem := (hz _ (by simp) : emptyE tb dir name = 0)
    have hno : nd.ents.length = 0 := by
      simp only [emptyE, hin, hk] at hem
      split at hem
      · assumption
      · simp at hem
    have hne : ino ≠ dir := fun e => by
      rw [e, hd] at hk; cases hk
      rw [findT_some hd, List.eq_nil_of_length_eq_zero hno] at hin
      cases hin
    have nb0 := a.not_new n1
    have nb2 := a.not_new (x1.none n2)
    have nb4 := a.not_new (x1.none (x2.none n3))
    have hfr := find_run A7 dir name
    rw [hin] at hfr
    obtain ⟨y, e8, ⟨z, gz⟩, a8⟩ := A7.leave hd hd2 name
    have hiE := A7.inE _ _ hd hd2
    have k8 := X7.step.put hiE gz y
    have p0 := keepP (z := y) m0 nb0 hiE
    have hev : evOf L dir dnd = .map (L.ent dir) := by simp only [evOf, hd2, if_true]
    generalize hh8 : h7.put (L.ent dir) y = h8 at e8 a8 k8 p0
    have hk8 : upd tb.nodes dir (some { dnd with ents := delN name dnd.ents }) ino = some nd := by rw [upd_ne _ _ hne]; exact hk
    have e9 := a8.s_links hk8 (nd.links - 1)
    have a9 := a8.setNode (nd' := { nd with links := nd.links - 1 }) hk8 rfl rfl
    have hiN := a8.inN _ _ hk8
    have k9 := k8.put hiN (a8.node _ _ hk8) (.cells (ndCells L ino { nd with links := nd.links - 1 }) true)
    have p09 := keepP (z := .cells (ndCells L ino { nd with links := nd.links - 1 }) true) p0 nb0 hiN
    generalize hh9 : h8.put (L.place ino) (.cells (ndCells L ino { nd with links := nd.links - 1 }) true) = h9 at e9 a9 k9 p09
    have hk9 : upd (upd tb.nodes dir (some { dnd with ents := delN name dnd.ents })) ino (some { nd with links := nd.links - 1 }) ino = some { nd with links := nd.links - 1 } := upd_self _ _ _
    have hl9 := a9.l_links hk9
    have sub1 := abin_sub (T := tab) (t := 3) (show -9223372036854775808 ≤ nd.links - 1 by omega) (show nd.links - 1 ≤ 9223372036854775807 by omega)
    have su := hs.ui; have sb := hs.ub
    by_cases hlast : nd.links - 1 = 0
    · obtain ⟨l, c, q1, q2, q3⟩ := a9.map
      have e10 := delete_int (T := tab) (h := h9) (m := L.m) (key := ino) ty66 q1 q2
      have a10 := a9.delNode (k := ino) q1 q2 q3
      have k10 := k9.put a9.inM q1 (.map (intE (delI ino l)) c)
      have p010 := keepP (z := .map (intE (delI ino l)) c) p09 nb0 a9.inM
      have gn10 : (h9.put L.m (.map (intE (delI ino l)) c)).get (L.place ino) = some (.cells (ndCells L ino { nd with links := nd.links - 1 }) true) := by
        rw [AHeap.get_put_ne _ _ (fun e => a9.m_ne_place hk9 e.symm)]; exact a9.node _ _ hk9
      generalize hh10 : h9.put L.m (.map (intE (delI ino l)) c) = h10 at e10 a10 k10 p010 gn10
      have e11 := a10.s_ui (tb.ui - 1)
      have a11 := a10.setTop (tb' := { tb with ui := tb.ui - 1, nodes := upd (upd (upd tb.nodes dir (some { dnd with ents := delN name dnd.ents })) ino (some { nd with links := nd.links - 1 })) ino none }) rfl
      have k11 := k10.put a10.inO a10.top (.cells (tbCells L { tb with ui := tb.ui - 1, nodes := upd (upd (upd tb.nodes dir (some { dnd with ents := delN name dnd.ents })) ino (some { nd with links := nd.links - 1 })) ino none }) true)
      have p011 := keepP (z := .cells (tbCells L { tb with ui := tb.ui - 1, nodes := upd (upd (upd tb.nodes dir (some { dnd with ents := delN name dnd.ents })) ino (some { nd with links := nd.links - 1 })) ino none }) true) p010 nb0 a10.inO
      have hpo : L.place ino ≠ o := a.apart _ _ hk
      have gn11 : (h10.put o (.cells (tbCells L { tb with ui := tb.ui - 1, nodes := upd (upd (upd tb.nodes dir (some { dnd with ents := delN name dnd.ents })) ino (some { nd with links := nd.links - 1 })) ino none }) true)).get (L.place ino) = some (.cells (ndCells L ino { nd with links := nd.links - 1 }) true) := by
        rw [AHeap.get_put_ne _ _ hpo]; exact gn10
      replace e11 : storeA tab h10 3 (.ptr o 2) (.int .i64 (tb.ui - 1)) = some (h10.put o (.cells (tbCells L { tb with ui := tb.ui - 1, nodes := upd (upd (upd tb.nodes dir (some { dnd with ents := delN name dnd.ents })) ino (some { nd with links := nd.links - 1 })) ino none }) true)) := e11
      generalize hh11 : h10.put o (.cells (tbCells L { tb with ui := tb.ui - 1, nodes := upd (upd (upd tb.nodes dir (some { dnd with ents := delN name dnd.ents })) ino (some { nd with links := nd.links - 1 })) ino none }) true) = h11 at e11 a11 k11 p011 gn11
      have e12 := a11.s_ub (tb.ub - nd.data.length)
      have a12 := a11.setTop (tb' := { tb with ui := tb.ui - 1, ub := tb.ub - nd.data.length, nodes := upd (upd (upd tb.nodes dir (some { dnd with ents := delN name dnd.ents })) ino (some { nd with links := nd.links - 1 })) ino none }) rfl
      have k12 := k11.put a11.inO a11.top (.cells (tbCells L { tb with ui := tb.ui - 1, ub := tb.ub - nd.data.length, nodes := upd (upd (upd tb.nodes dir (some { dnd with ents := delN name dnd.ents })) ino (some { nd with links := nd.links - 1 })) ino none }) true)
      have ldat : loadA tab h11 9 (.ptr (L.place ino) 2) = some (.str nd.data) := loadA_cell ty9 rfl gn11 rfl
      refine ⟨_, run14 0 ?_, ?_, k12⟩
      · unfold F14
        simp only [e1, e2, e3, bothK_s, ld23 k0a, ld3 k2a, ld9 g3, valK_s, e4, ld23 k0b, ld3 k2b, ld9 k4b, sameK_r, e5, ld23 k0, e6, e7, abin_neq]
        simp only [h0, decide_true, Bool.not_true, boolK_f, ld23 m0, ld3 m2, ld9 m4, valK_s, hfr, bothK_s, extractA_0, extractA_1, intOf, nil_ptr, fa68_2, A7.l_m, A7.look_some hd, fa65_2, A7.l_ents hd, hev, e8, hpK_s, ld23 p0, a8.l_m, a8.look_some hk8, fa65_0, fa35_3, a8.l_links hk8, sub1, e9, hl9, abin_eql]
        simp only [hlast, decide_true, boolK_t, ld23 p09, valK_s, nil_ptr, fa68_2, a9.l_m, e10, hpK_s, ld23 p010, fa68_1, fa26_20, fa26_21, a10.l_ui, abin_sub (show -9223372036854775808 ≤ tb.ui - 1 by omega) (show tb.ui - 1 ≤ 9223372036854775807 by omega), e11, ld23 p011, a11.l_ub, fa65_0, fa35_2, ldat, alen9,
          abin_sub (show -9223372036854775808 ≤ tb.ub - nd.data.length by omega) (show tb.ub - nd.data.length ≤ 9223372036854775807 by omega)]
        exact congrArg (fun x => hpK x fun h92 => some (AV.int .i64 0, h92)) e12
      · rw [if_pos h0]
        simp only [hin, goneT, delE_some hd, hk8, hlast, if_true]
        rw [upd_upd] at a12
        exact a12
    · refine ⟨h9, run14 0 ?_, ?_, k9⟩
      · unfold F14
        simp only [e1, e2, e3, bothK_s, ld23 k0a, ld3 k2a, ld9 g3, valK_s, e4, ld23 k0b, ld3 k2b, ld9 k4b, sameK_r, e5, ld23 k0, e6, e7, abin_neq]
        simp only [h0, decide_true, Bool.not_true, boolK_f, ld23 m0, ld3 m2, ld9 m4, valK_s, hfr, bothK_s, extractA_0, extractA_1, intOf, nil_ptr, fa68_2, A7.l_m, A7.look_some hd, fa65_2, A7.l_ents hd, hev, e8, hpK_s, ld23 p0, a8.l_m, a8.look_some hk8, fa65_0, fa35_3, a8.l_links hk8, sub1, e9, hl9, abin_eql]
        simp only [decide_eq_false hlast, boolK_f]
      · rw [if_pos h0]
        simp only [hin, goneT, delE_some hd, hk8, hlast, if_false]
        exact a9
  · refine ⟨h7, run14 0 ?_, by rw [if_neg h0]; exact A7, X7.step⟩
    unfold F14
    simp only [e1, e2, e3, bothK_s, ld23 k0a, ld3 k2a, ld9 g3, valK_s, e4, ld23 k0b, ld3 k2b, ld9 k4b, sameK_r, e5, ld23 k0, e6, e7, abin_neq]
    simp only [decide_eq_false h0, Bool.not_false, boolK_t]
end
end Go.Am

set_option linter.unusedVariables false
set_option linter.unusedSimpArgs false
namespace Go.Am
open Go Go.Proofs

/-- From a directory to the root: is one met? -/
def climbE (f : Int → Option Nd) (ino : Int) : Nat → Int → Option Int
  | 0, _ => none
  | n + 1, at' => if at' = 1 then some 0 else if at' = ino then some 2 else match f at' with | some nd => climbE f ino n nd.up | none => none

def apartE (tb : Tb) (ino to : Int) : Int := match climbE tb.nodes ino (tb.last.toNat + 2) to with | some e => e | none => 0
def move1E (tb : Tb) (fro : Int) (name : Bs) (to : Int) (as' : Bs) : Int := firstE [0, dirE tb fro, dirE tb to, nameE as', entryE tb fro name]
def move2E (tb : Tb) (fro : Int) (name : Bs) (to : Int) (as' : Bs) : Int := firstE [freeE tb to as', match findT tb fro name with | some ino => apartE tb ino to | none => 0]
def moveE (tb : Tb) (fro : Int) (name : Bs) (to : Int) (as' : Bs) : Int :=
  if move1E tb fro name to as' = 0 then (if fro = to ∧ name = as' then 0 else move2E tb fro name to as') else move1E tb fro name to as'
def setUp (f : Int → Option Nd) (k to : Int) : Int → Option Nd := match f k with
  | some nd => if nd.kind = 2 then upd f k (some { nd with up := to }) else f
  | none => f
def movedT (tb : Tb) (fro : Int) (name : Bs) (to : Int) (as' : Bs) (ino : Int) : Tb := { tb with nodes := setUp (addE (delE tb.nodes fro name) to as' ino) ino to }
def moveT (tb : Tb) (fro : Int) (name : Bs) (to : Int) (as' : Bs) : Tb :=
  if move1E tb fro name to as' = 0 then (if fro = to ∧ name = as' then tb else if move2E tb fro name to as' = 0 then (match findT tb fro name with | some ino => movedT tb fro name to as' ino | none => tb) else tb) else tb

theorem delE_at {f : Int → Option Nd} {d k : Int} {s : Bs} {nd : Nd} (h : f k = some nd) : ∃ nd', delE f d s k = some nd' ∧ nd'.kind = nd.kind := by
  cases hd : f d with
  | none => exact ⟨nd, by simp only [delE, hd]; exact h, rfl⟩
  | some x =>
    rw [delE_some hd]
    by_cases e : k = d
    · subst e; rw [h] at hd; cases hd; exact ⟨_, upd_self _ _ _, rfl⟩
    · exact ⟨nd, by rw [upd_ne _ _ e]; exact h, rfl⟩
theorem addE_at {f : Int → Option Nd} {d k n : Int} {s : Bs} {nd : Nd} (h : f k = some nd) : ∃ nd', addE f d s n k = some nd' ∧ nd'.kind = nd.kind := by
  cases hd : f d with
  | none => exact ⟨nd, by simp only [addE, hd]; exact h, rfl⟩
  | some x =>
    rw [addE_some hd]
    by_cases e : k = d
    · subst e; rw [h] at hd; cases hd; exact ⟨_, upd_self _ _ _, rfl⟩
    · exact ⟨nd, by rw [upd_ne _ _ e]; exact h, rfl⟩

section
variable {S : Nat → Prop} {h : AHeap} {o : Nat} {tb : Tb} {L : Lay}

theorem apart_ask (a : TR S h o tb L) (hw : h.WF) {b0 b2 bi : Nat} {to ino : Int} (g0 : h.get b0 = some (.cells [.ptr o 0] true)) (g2 : h.get b2 = some (.cells [.int .i64 to] true)) (gi : h.get bi = some (.cells [.int .i64 ino] true)) {n : Nat} {e : Int} (hc : climbE tb.nodes ino n to = some e) :
    Ask h (.func 40 [] [.ptr b2 0, .ptr b0 0, .ptr bi 0]) e := by
  refine ⟨40, [], _, rfl, fun h' x' => ⟨h', run40 (n + 1) ?_, Ext.refl x'.wf⟩⟩
  have A' := a.ext x'
  have l0 := ld23 (x'.keep _ _ g0)
  have li := ld3 (x'.keep _ _ gi)
  unfold F40
  simp only [ld3 (x'.keep _ _ g2), valK_s]
  have : ∀ m at', climbE tb.nodes ino m at' = some e → ∀ N, m < N → loopN (F40_b2 EG (n + 1)) N (.ptr b0 0, .ptr bi 0, .int .i64 at', ()) [] h' = some (.int .i64 e, h') := by
    intro m
    induction m with
    | zero => intro at' h; simp [climbE] at h
    | succ m ih =>
      intro at' hm N hN
      match N, hN with
      | N + 1, hN =>
        simp only [climbE] at hm
        simp only [loopN, F40_b2, abin_neq, valK_s]
        by_cases c1 : at' = 1
        · simp only [c1, if_true, Option.some.injEq] at hm
          simp only [c1, decide_true, Bool.not_true, boolK_f, unmark_nil, hpK_s, hm]
        · simp only [c1, if_false] at hm
          simp only [decide_eq_false c1, Bool.not_false, boolK_t, li, valK_s, abin_eql]
          by_cases c2 : at' = ino
          · simp only [c2, if_true, Option.some.injEq] at hm
            simp only [c2, decide_true, boolK_t, unmark_nil, hpK_s, hm]
          · simp only [c2, if_false] at hm
            cases hk : tb.nodes at' with
            | none => rw [hk] at hm; simp at hm
            | some nd =>
              rw [hk] at hm
              simp only [decide_eq_false c2, boolK_f, l0, valK_s, nil_ptr, fa68_2, A'.l_m, A'.look_some hk, fa65_1, A'.l_up hk]
              exact ih nd.up hm N (by omega)
  exact this n to hc (n + 1) (by omega)

/-- The second half of Move. -/
theorem move_rest {hb : AHeap} (a : TR S h o tb L) (hw : h.WF) (kb : Step S hb S h) {fro to ino : Int} {name as' : Bs} {b0 b2 : Nat} {fnd tnd ind : Nd} (hf : tb.nodes fro = some fnd) (hf2 : fnd.kind = 2) (ht : tb.nodes to = some tnd) (ht2 : tnd.kind = 2) (hi : findT tb fro name = some ino) (hin : tb.nodes ino = some ind)
    (g0 : h.get b0 = some (.cells [.ptr o 0] true)) (n0 : ¬ S b0) (g2 : h.get b2 = some (.cells [.int .i64 to] true)) (n2 : ¬ S b2) (hc : (climbE tb.nodes ino (tb.last.toNat + 2) to).isSome = true) :
    ∃ h', (valK (loadA tab h 23 (.ptr b0 0)) fun x34 =>
      bothK (EG (.fn 13) [x34, .int .i64 fro, .str name] h) fun x35 h36 =>
      valK (extractA x35 0) fun x37 =>
      valK (extractA x35 1) fun x38 =>
      bothK (newCells h36 [.int .i64 0] fun o => .ptr o 0) fun x39 h40 =>
      hpK (storeA tab h40 3 x39 x37) fun h41 =>
      valK (loadA tab h41 23 (.ptr b0 0)) fun x42 =>
      valK (loadA tab h41 3 (.ptr b2 0)) fun x43 =>
      bothK (EG (.fn 30) [x42, x43, .str as'] h41) fun x44 h45 =>
      bothK (abuildSlice tab h45 90 2 [(0, x44), (1, (.func 40 [] [.ptr b2 0, .ptr b0 0, x39]))]) fun x46 h47 =>
      bothK (EG (.fn 26) [x46] h47) fun x48 h49 =>
      valK (abin tab .neq 27 x48 (.int .i64 0)) fun x50 =>
      boolK x50 (
      hpK (unmark h49 []) fun h51 =>
      some (x48, h51)) (
      valK (loadA tab h49 23 (.ptr b0 0)) fun x52 =>
      valK (nilA x52) fun x53 =>
      valK (afieldAddr tab 68 x53 2) fun x54 =>
      valK (loadA tab h49 66 x54) fun x55 =>
      valK (alookup tab h49 66 x55 (.int .i64 fro) false) fun x56 =>
      valK (nilA x56) fun x57 =>
      valK (afieldAddr tab 65 x57 2) fun x58 =>
      valK (loadA tab h49 63 x58) fun x59 =>
      hpK (adelete tab h49 63 x59 (.str name)) fun h60 =>
      valK (loadA tab h60 23 (.ptr b0 0)) fun x61 =>
      valK (nilA x61) fun x62 =>
      valK (afieldAddr tab 68 x62 2) fun x63 =>
      valK (loadA tab h60 66 x63) fun x64 =>
      valK (loadA tab h60 3 (.ptr b2 0)) fun x65 =>
      valK (alookup tab h60 66 x64 x65 false) fun x66 =>
      valK (nilA x66) fun x67 =>
      valK (afieldAddr tab 65 x67 2) fun x68 =>
      valK (loadA tab h60 63 x68) fun x69 =>
      valK (loadA tab h60 3 x39) fun x70 =>
      hpK (amapUpdate tab h60 63 x69 (.str as') x70) fun h71 =>
      valK (loadA tab h71 23 (.ptr b0 0)) fun x72 =>
      valK (nilA x72) fun x73 =>
      valK (afieldAddr tab 68 x73 2) fun x74 =>
      valK (loadA tab h71 66 x74) fun x75 =>
      valK (loadA tab h71 3 x39) fun x76 =>
      valK (alookup tab h71 66 x75 x76 false) fun x77 =>
      valK (nilA x77) fun x78 =>
      valK (afieldAddr tab 65 x78 0) fun x79 =>
      valK (afieldAddr tab 35 x79 0) fun x80 =>
      valK (loadA tab h71 3 x80) fun x81 =>
      valK (abin tab .eql 3 x81 (.int .i64 2)) fun x82 =>
      boolK x82 (
      valK (loadA tab h71 3 (.ptr b2 0)) fun x83 =>
      valK (nilA x77) fun x84 =>
      valK (afieldAddr tab 65 x84 1) fun x85 =>
      hpK (storeA tab h71 3 x85 x83) fun h86 =>
      hpK (unmark h86 []) fun h87 =>
      some ((.int .i64 0), h87)) (
      hpK (unmark h71 []) fun h88 =>
      some ((.int .i64 0), h88)))) = some (.int .i64 (move2E tb fro name to as'), h') ∧
      TR S h' o (if move2E tb fro name to as' = 0 then movedT tb fro name to as' ino else tb) L ∧ Step S hb S h' := by
  have hfr := find_run a fro name
  rw [hi] at hfr
  -- the inode's number in a cell of its own
  have c1 : newCells h [.int .i64 0] (fun o => .ptr o 0) = some (.ptr h.next 0, h.add (.cells [.int .i64 0] true)) := rfl
  have x1 : Ext h (h.add (.cells [.int .i64 0] true)) := (Ext.refl hw).add _
  have g1 : (h.add (.cells [.int .i64 0] true)).get h.next = some (.cells [.int .i64 0] true) := AHeap.get_add_self _ _
  have f1 : h.get h.next = none := hw.new
  generalize hh1 : h.add (.cells [.int .i64 0] true) = h1 at c1 x1 g1
  have c2 : storeA tab h1 3 (.ptr h.next 0) (.int .i64 ino) = some (h1.put h.next (.cells [.int .i64 ino] true)) := by
    simp only [storeA, astore, g1, ty3]; rfl
  have x2 : Ext h (h1.put h.next (.cells [.int .i64 ino] true)) := x1.put f1 g1 _
  have gi : (h1.put h.next (.cells [.int .i64 ino] true)).get h.next = some (.cells [.int .i64 ino] true) := AHeap.get_put_self _ _ _
  generalize hh2 : h1.put h.next (.cells [.int .i64 ino] true) = h2 at c2 x2 gi
  have A2 := a.ext x2
  obtain ⟨c3, h3, e3, x3, a3⟩ := free_run A2 x2.wf to as'
  have X3 := x2.trans x3
  have A3 := a.ext X3
  have k0 := X3.keep _ _ g0
  have k2 := X3.keep _ _ g2
  have ki := x3.keep _ _ gi
  have e4 : abuildSlice tab h3 90 2 [(0, .func 60 [] c3), (1, .func 40 [] [.ptr b2 0, .ptr b0 0, .ptr h.next 0])] = some (.slice h3.next 0 2 1, h3.add (.cells [.func 60 [] c3, .func 40 [] [.ptr b2 0, .ptr b0 0, .ptr h.next 0]] true)) := rfl
  have x4 : Ext h3 (h3.add (.cells [.func 60 [] c3, .func 40 [] [.ptr b2 0, .ptr b0 0, .ptr h.next 0]] true)) := (Ext.refl x3.wf).add _
  have r4 := slice_row (h := h3) [.func 60 [] c3, .func 40 [] [.ptr b2 0, .ptr b0 0, .ptr h.next 0]]
  generalize hh4 : h3.add (.cells [.func 60 [] c3, .func 40 [] [.ptr b2 0, .ptr b0 0, .ptr h.next 0]] true) = h4 at e4 x4 r4
  obtain ⟨ee, hee⟩ := Option.isSome_iff_exists.1 hc
  have hap : apartE tb ino to = ee := by simp only [apartE, hee]
  have q : Asks h4 [.func 60 [] c3, .func 40 [] [.ptr b2 0, .ptr b0 0, .ptr h.next 0]] [freeE tb to as', match findT tb fro name with | some ino => apartE tb ino to | none => 0] :=
    ⟨a3.ext x4, fun _ => ⟨by rw [hi]; simp only [hap]; exact (apart_ask A3 X3.wf k0 k2 ki hee).ext x4, fun _ => trivial⟩⟩
  obtain ⟨h5, e5, x5⟩ := first_run q r4 (by simp) x4.wf
  replace e5 : EG (.fn 26) [.slice h3.next 0 2 1] h4 = some (.int .i64 (move2E tb fro name to as'), h5) := e5
  have hz0 : move2E tb fro name to as' = 0 → freeE tb to as' = 0 := fun h0 => firstE_zero.1 h0 _ (by simp)
  clear q
  generalize move2E tb fro name to as' = E at e5 hz0 ⊢
  have X5 := (X3.trans x4).trans x5
  have A5 := a.ext X5
  have K5 : Step S hb S h5 := kb.trans X5.step
  have m0 := x5.keep _ _ (x4.keep _ _ k0)
  have m2 := x5.keep _ _ (x4.keep _ _ k2)
  have mi := x5.keep _ _ (x4.keep _ _ ki)
  by_cases h0 : E = 0
  · have hfree := freeE_zero (hz0 h0)
    rw [findT_some ht] at hfree
    have ni := a.not_new f1
    obtain ⟨y, e6, ⟨z, gz⟩, a6⟩ := A5.leave hf hf2 name
    have hiE := A5.inE _ _ hf hf2
    have k6 := K5.put hiE gz y
    have p0 := keepP (z := y) m0 n0 hiE
    have p2 := keepP (z := y) m2 n2 hiE
    have pi := keepP (z := y) mi ni hiE
    have hevf : evOf L fro fnd = .map (L.ent fro) := by simp only [evOf, hf2, if_true]
    generalize hh6 : h5.put (L.ent fro) y = h6 at e6 a6 k6 p0 p2 pi
    -- where it goes
    obtain ⟨tnd', ht', ht2', hno⟩ : ∃ tnd' : Nd, upd tb.nodes fro (some { fnd with ents := delN name fnd.ents }) to = some tnd' ∧ tnd'.kind = 2 ∧ getN as' tnd'.ents = none := by
      by_cases e : to = fro
      · subst e
        rw [hf] at ht; cases ht
        refine ⟨_, upd_self _ _ _, hf2, ?_⟩
        show getN as' (delN name fnd.ents) = none
        rw [getN_del, hfree]
        split <;> rfl
      · exact ⟨tnd, by rw [upd_ne _ _ e]; exact ht, ht2, hfree⟩
    obtain ⟨y7, e7, ⟨z7, gz7⟩, a7⟩ := a6.enter (k := to) ht' ht2' hno ino
    have hiE7 := a6.inE _ _ ht' ht2'
    have k7 := k6.put hiE7 gz7 y7
    have p07 := keepP (z := y7) p0 n0 hiE7
    have p27 := keepP (z := y7) p2 n2 hiE7
    have pi7 := keepP (z := y7) pi ni hiE7
    have hevt : evOf L to tnd' = .map (L.ent to) := by simp only [evOf, ht2', if_true]
    generalize hh7 : h6.put (L.ent to) y7 = h7 at e7 a7 k7 p07 p27 pi7
    -- what it is
    have hde : delE tb.nodes fro name = upd tb.nodes fro (some { fnd with ents := delN name fnd.ents }) := delE_some hf name
    have had : addE (delE tb.nodes fro name) to as' ino = upd (upd tb.nodes fro (some { fnd with ents := delN name fnd.ents })) to (some { tnd' with ents := tnd'.ents ++ [(as', ino)] }) := by rw [hde, addE_some ht']
    obtain ⟨nd1, hn1, hk1⟩ := delE_at (d := fro) (s := name) hin
    obtain ⟨nd2, hn2, hk2⟩ := addE_at (d := to) (s := as') (n := ino) hn1
    rw [had] at hn2
    by_cases hd : nd2.kind = 2
    · have e8 := a7.s_up (k := ino) hn2 to
      have a8 := a7.setNode (k := ino) (nd' := { nd2 with up := to }) hn2 rfl rfl
      have k8 := k7.put (a7.inN _ _ hn2) (a7.node _ _ hn2) (.cells (ndCells L ino { nd2 with up := to }) true)
      refine ⟨_, ?_, ?_, k8⟩
      · simp only [ld23 g0, valK_s, hfr, bothK_s, extractA_0, extractA_1, intOf, c1, c2, hpK_s, ld23 (x2.keep _ _ g0), ld3 (x2.keep _ _ g2), e3, e4, e5, abin_neq]
        simp only [h0, decide_true, Bool.not_true, boolK_f, ld23 m0, valK_s, nil_ptr, fa68_2, A5.l_m, A5.look_some hf, fa65_2, A5.l_ents hf, hevf, e6, hpK_s, ld23 p0, ld3 p2, ld3 pi, a6.l_m, a6.look_some ht', a6.l_ents ht', hevt, e7, ld23 p07, ld3 p27, ld3 pi7, a7.l_m, a7.look_some hn2, fa65_0, fa35_0, a7.l_kind hn2, abin_eql, hd, boolK_t, fa65_1, e8, unmark_nil]
      · rw [if_pos h0]
        simp only [movedT, had, setUp, hn2, if_pos hd]
        exact a8
    · refine ⟨h7, ?_, ?_, k7⟩
      · simp only [ld23 g0, valK_s, hfr, bothK_s, extractA_0, extractA_1, intOf, c1, c2, hpK_s, ld23 (x2.keep _ _ g0), ld3 (x2.keep _ _ g2), e3, e4, e5, abin_neq]
        simp only [h0, decide_true, Bool.not_true, boolK_f, ld23 m0, valK_s, nil_ptr, fa68_2, A5.l_m, A5.look_some hf, fa65_2, A5.l_ents hf, hevf, e6, hpK_s, ld23 p0, ld3 p2, ld3 pi, a6.l_m, a6.look_some ht', a6.l_ents ht', hevt, e7, ld23 p07, ld3 p27, ld3 pi7, a7.l_m, a7.look_some hn2, fa65_0, fa35_0, a7.l_kind hn2, abin_eql, decide_eq_false hd, unmark_nil]
      · rw [if_pos h0]
        simp only [movedT, had, setUp, hn2, if_neg hd]
        exact a7
  · refine ⟨h5, ?_, by rw [if_neg h0]; exact A5, K5⟩
    simp only [ld23 g0, valK_s, hfr, bothK_s, extractA_0, extractA_1, intOf, c1, c2, hpK_s, ld23 (x2.keep _ _ g0), ld3 (x2.keep _ _ g2), e3, e4, e5, abin_neq]
    simp only [decide_eq_false h0, Bool.not_false, boolK_t, unmark_nil, hpK_s]

theorem move_run (a : TR S h o tb L) (hw : h.WF) {fro to : Int} {name as' : Bs} (hname : as'.length ≤ 56 → AnyOK as') (hent : ∀ n, findT tb fro name = some n → ∃ nd, tb.nodes n = some nd) (hc : dirE tb fro = 0 → dirE tb to = 0 → ∀ n, findT tb fro name = some n → (climbE tb.nodes n (tb.last.toNat + 2) to).isSome = true) :
    ∃ h', EG (.fn 19) [.ptr o 0, .int .i64 fro, .str name, .int .i64 to, .str as'] h = some (.int .i64 (moveE tb fro name to as'), h') ∧ TR S h' o (moveT tb fro name to as') L ∧ Step S h S h' := by
  obtain ⟨b0, h1, e1, g1, x1, n1⟩ := box hw (.ptr o 0) rfl rfl
  obtain ⟨b2, h2, e2, g2, x2, n2⟩ := box x1.wf (.int .i64 to) rfl rfl
  have X2 := x1.trans x2
  obtain ⟨c3, h3, e3, x3, a3⟩ := dir_run (a.ext X2) x2.wf fro
  obtain ⟨c4, h4, e4, x4, a4⟩ := dir_run (a.ext (X2.trans x3)) x3.wf to
  obtain ⟨c5, h5, e5, x5, a5⟩ := named_run x4.wf hname
  obtain ⟨c6, h6, e6, x6, a6⟩ := entry_run (a.ext (((X2.trans x3).trans x4).trans x5)) x5.wf fro name
  have X6 := (((X2.trans x3).trans x4).trans x5).trans x6
  have k0a := x2.keep _ _ g1
  have k0b := x3.keep _ _ k0a
  have k2b := x3.keep _ _ g2
  have k0c := x4.keep _ _ k0b
  have k0d := x5.keep _ _ k0c
  have k0 := x6.keep _ _ k0d
  have k2 := x6.keep _ _ (x5.keep _ _ (x4.keep _ _ k2b))
  have e7 : abuildSlice tab h6 90 5 [(0, .func 27 [.ptr o 0] []), (1, .func 57 [] c3), (2, .func 57 [] c4), (3, .func 58 [] c5), (4, .func 63 [] c6)] = some (.slice h6.next 0 5 1, h6.add (.cells [.func 27 [.ptr o 0] [], .func 57 [] c3, .func 57 [] c4, .func 58 [] c5, .func 63 [] c6] true)) := rfl
  have x7 : Ext h6 (h6.add (.cells [.func 27 [.ptr o 0] [], .func 57 [] c3, .func 57 [] c4, .func 58 [] c5, .func 63 [] c6] true)) := (Ext.refl x6.wf).add _
  have r7 := slice_row (h := h6) [.func 27 [.ptr o 0] [], .func 57 [] c3, .func 57 [] c4, .func 58 [] c5, .func 63 [] c6]
  generalize hh7 : h6.add (.cells [.func 27 [.ptr o 0] [], .func 57 [] c3, .func 57 [] c4, .func 58 [] c5, .func 63 [] c6] true) = h7 at e7 x7 r7
  have q : Asks h7 [.func 27 [.ptr o 0] [], .func 57 [] c3, .func 57 [] c4, .func 58 [] c5, .func 63 [] c6] [0, dirE tb fro, dirE tb to, nameE as', entryE tb fro name] :=
    ⟨there_ask, fun _ => ⟨a3.ext (((x4.trans x5).trans x6).trans x7), fun _ => ⟨a4.ext ((x5.trans x6).trans x7), fun _ => ⟨a5.ext (x6.trans x7), fun _ => ⟨a6.ext x7, fun _ => trivial⟩⟩⟩⟩⟩
  obtain ⟨h8, e8, x8⟩ := first_run q r7 (by simp) x7.wf
  replace e8 : EG (.fn 26) [.slice h6.next 0 5 1] h7 = some (.int .i64 (move1E tb fro name to as'), h8) := e8
  have hE : moveE tb fro name to as' = if move1E tb fro name to as' = 0 then (if fro = to ∧ name = as' then 0 else move2E tb fro name to as') else move1E tb fro name to as' := rfl
  have hT : moveT tb fro name to as' = if move1E tb fro name to as' = 0 then (if fro = to ∧ name = as' then tb else if move2E tb fro name to as' = 0 then (match findT tb fro name with | some ino => movedT tb fro name to as' ino | none => tb) else tb) else tb := rfl
  rw [hE, hT]
  have hz0 : move1E tb fro name to as' = 0 → ∀ e ∈ [0, dirE tb fro, dirE tb to, nameE as', entryE tb fro name], e = 0 := firstE_zero.1
  clear hE hT q
  generalize move1E tb fro name to as' = E at e8 hz0 ⊢
  have X8 := (X6.trans x7).trans x8
  have A8 := a.ext X8
  have m0 := x8.keep _ _ (x7.keep _ _ k0)
  have m2 := x8.keep _ _ (x7.keep _ _ k2)
  by_cases h0 : E = 0
  · have hz := hz0 h0
    have hdf := (hz _ (by simp) : dirE tb fro = 0)
    have hdt := (hz _ (by simp) : dirE tb to = 0)
    obtain ⟨fnd, hf, hf2⟩ := dirE_zero hdf
    obtain ⟨tnd, ht, ht2⟩ := dirE_zero hdt
    obtain ⟨ino, hi⟩ := entryE_zero (hz _ (by simp) : entryE tb fro name = 0)
    obtain ⟨ind, hin⟩ := hent ino hi
    have n0 := a.not_new n1
    have n2' := a.not_new (x1.none n2)
    obtain ⟨h9, e9, a9, s9⟩ := move_rest (as' := as') A8 X8.wf X8.step hf hf2 ht ht2 hi hin m0 n0 m2 n2' (hc hdf hdt ino hi)
    by_cases hsame : fro = to ∧ name = as'
    · refine ⟨h8, run19 0 ?_, by rw [if_pos h0, if_pos hsame]; exact A8, X8.step⟩
      unfold F19
      simp only [e1, e2, bothK_s, ld23 k0a, ld3 g2, valK_s, e3, ld23 k0b, ld3 k2b, sameK_r, e4, ld23 k0c, e5, ld23 k0d, e6, ld23 k0, e7, e8, abin_neq, jn_a]
      simp only [h0, decide_true, Bool.not_true, boolK_f, ld3 m2, valK_s, abin_eql, skipK_b, hsame.1, boolK_t, abin_streq, hsame.2, if_true, and_self]
    · refine ⟨h9, run19 0 ?_, ?_, s9⟩
      · unfold F19
        simp only [e1, e2, bothK_s, ld23 k0a, ld3 g2, valK_s, e3, ld23 k0b, ld3 k2b, sameK_r, e4, ld23 k0c, e5, ld23 k0d, e6, ld23 k0, e7, e8, abin_neq, jn_a]
        simp only [h0, decide_true, Bool.not_true, boolK_f, ld3 m2, valK_s, abin_eql, skipK_b]
        by_cases c1 : fro = to
        · have c2 : ¬ name = as' := fun e => hsame ⟨c1, e⟩
          simp only [decide_eq_true c1, boolK_t, abin_streq, valK_s, decide_eq_false c2, boolK_f, if_neg hsame, if_true]
          exact e9
        · simp only [decide_eq_false c1, boolK_f, if_neg hsame, if_true]
          exact e9
      · rw [if_pos h0, if_neg hsame]
        simp only [hi]
        exact a9
  · refine ⟨h8, run19 0 ?_, by rw [if_neg h0]; exact A8, X8.step⟩
    unfold F19
    simp only [e1, e2, bothK_s, ld23 k0a, ld3 g2, valK_s, e3, ld23 k0b, ld3 k2b, sameK_r, e4, ld23 k0c, e5, ld23 k0d, e6, ld23 k0, e7, e8, abin_neq, jn_a]
    simp only [decide_eq_false h0, Bool.not_false, boolK_t, if_neg h0]
end
end Go.Am
