/-
  Library functions of texts, told by what they do: strings.IndexByte, strings.ContainsAny.
-/
import Derived.Test.YtcjjleelhaphkaaGreatDoorP3
import Derived.Lib.IndexAny
import Derived.Lib.Bytealg
set_option linter.unusedVariables false
set_option linter.unusedSimpArgs false
namespace Go.Am
open Go Go.Proofs Go.RowKit Go.Maps Go.Sort

abbrev Bs := List UInt8

/-- Where a byte stands first. -/
def idxB (c : UInt8) : Bs → Nat → Int
  | [], _ => -1
  | b :: l, i => bif Nat.beq b.toNat c.toNat then (i : Int) else idxB c l (i + 1)

def hasAny (cs : Bs) : Bs → Bool
  | [] => false
  | b :: l => cs.any (fun c => Nat.beq b.toNat c.toNat) || hasAny cs l

theorem beq_byte (a b : UInt8) : Nat.beq a.toNat b.toNat = decide (a = b) := by
  rw [show Nat.beq a.toNat b.toNat = decide (a.toNat = b.toNat) from by
    cases e : Nat.beq a.toNat b.toNat with
    | true => simp [Nat.eq_of_beq_eq_true e]
    | false => simp [Nat.ne_of_beq_eq_false e]]
  by_cases h : a = b
  · subst h; simp
  · have : a.toNat ≠ b.toNat := fun e => h (UInt8.toNat_inj.1 e)
    simp [h, this]

theorem idxB_lib (c : UInt8) : ∀ (l : Bs) (i : Nat), idxB c l i = if Lib.indexByte l c = -1 then -1 else Lib.indexByte l c + i := by
  intro l
  induction l with
  | nil => intro i; rfl
  | cons b l ih =>
    intro i
    simp only [idxB, beq_byte]
    by_cases h : b = c
    · subst h
      simp [Lib.indexByte]
    · have hb : (b == c) = false := by simpa using h
      have ge : -1 ≤ Lib.indexByte l c := by
        clear ih
        induction l with
        | nil => simp [Lib.indexByte]
        | cons b l ih =>
          unfold Lib.indexByte
          split
          · omega
          · split
            · omega
            · omega
      simp only [h, decide_false, cond_false, ih]
      conv => rhs; unfold Lib.indexByte
      simp only [hb]
      by_cases h2 : Lib.indexByte l c = -1
      · simp [h2]
      · simp only [h2, if_false]
        have h3 : (Lib.indexByte l c == -1) = false := by simpa using h2
        simp only [h3]
        simp
        omega

theorem idxB_zero (c : UInt8) (l : Bs) : idxB c l 0 = Lib.indexByte l c := by
  rw [idxB_lib]
  split
  · rename_i h; rw [h]
  · simp

theorem hasAny_lib (cs : Bs) : ∀ (l : Bs), hasAny cs l = Lib.containsAny l cs
  | [] => rfl
  | b :: l => by
    have e1 : cs.any (fun c => Nat.beq b.toNat c.toNat) = cs.contains b := by
      induction cs with
      | nil => rfl
      | cons c cs ih =>
        rw [List.any_cons, List.contains_cons, ih, beq_byte]
        by_cases h : b = c
        · subst h; simp
        · have : (b == c) = false := by simpa using h
          rw [this]; simp [h]
    have ge := Lib.indexAny_ge cs l
    simp only [hasAny, e1, hasAny_lib cs l, Lib.containsAny]
    conv => rhs; unfold Lib.indexAny
    by_cases h : cs.contains b = true
    · rw [h]; simp
    · rw [Bool.not_eq_true] at h
      rw [h]
      by_cases h2 : Lib.indexAny l cs = -1
      · simp [h2]
      · have h3 : (Lib.indexAny l cs == -1) = false := by simpa using h2
        have h4 : 0 ≤ Lib.indexAny l cs := by omega
        have h5 : 0 ≤ Lib.indexAny l cs + 1 := by omega
        simp [h3, h4, h5]

/-- strings.IndexByte. -/
def indexByteP (_ : Env) (args : List AV) (h : AHeap) : Option (AV × AHeap) :=
  match args with
  | [.str s, .int .u8 c] => bif decide (0 ≤ c) && decide (c < 256) then some (.int .i64 (idxB c.toNat.toUInt8 s 0), h) else none
  | _ => none

theorem indexByteP_ok {P : Program} {f : Nat} (he : ∃ fn c, P.funcs[f]? = some fn ∧ fn.body = some c ∧ ¬ fn.name = "runtime.NumGoroutine")
    (hc : ∀ (s : ByteArray) (c : Int) W, Calls P f #[.string s, .int .u8 c] W fun e w' => e = .returned (.int .i64 (Lib.indexByte s.data.toList c.toNat.toUInt8)) ∧ w' = W) : PrimOK P f indexByteP := by
  refine ⟨he, fun E hE args h r h' hp w0 β w vals hw hv => ?_⟩
  unfold indexByteP at hp
  split at hp
  · rename_i s c
    cases hb : decide (0 ≤ c) && decide (c < 256) with
    | false => rw [hb] at hp; cases hp
    | true =>
      rw [hb] at hp
      cases hp
      obtain ⟨V1, Vs, h1, h2, rfl⟩ := hv.cons_inv
      obtain ⟨V2, Vs, h3, h4, rfl⟩ := h2.cons_inv
      have := h4.nil_inv
      subst this
      simp only [VR] at h1 h3
      subst h1 h3
      refine callsIn_wide.2 ((hc ⟨s.toArray⟩ c w).mono ?_)
      rintro e w' ⟨rfl, rfl⟩
      exact ⟨β, _, rfl, by simp [VR, idxB_zero], hw, Goes.refl _ _⟩
  · cases hp

/-- strings.ContainsAny, of two characters or more, all below 128. -/
def containsAnyP (_ : Env) (args : List AV) (h : AHeap) : Option (AV × AHeap) :=
  match args with
  | [.str s, .str cs] => bif Nat.blt s.length 4294967281 && Nat.blt cs.length 4294967281 && Nat.ble 2 cs.length && cs.all (fun b => Nat.blt b.toNat 128) then some (.bool (hasAny cs s), h) else none
  | _ => none

theorem ascii_get {s : Bs} (h : s.all (fun b => Nat.blt b.toNat 128) = true) : ∀ (j : Nat) b, (⟨s.toArray⟩ : ByteArray).data.toList[j]? = some b → b.toNat < 128 := fun j b hb => by
  have hb : s[j]? = some b := by simpa using hb
  have := List.all_eq_true.1 h b (List.mem_of_getElem? hb)
  simpa using this

theorem containsAnyP_ok {P : Program} {f : Nat} (he : ∃ fn c, P.funcs[f]? = some fn ∧ fn.body = some c ∧ ¬ fn.name = "runtime.NumGoroutine")
    (hc : ∀ (s chars : ByteArray) (W : World), s.size < 4294967281 → chars.size < 4294967281 → 2 ≤ chars.size → (∀ (j : Nat) b, chars.data.toList[j]? = some b → b.toNat < 128) →
      Calls P f #[.string s, .string chars] W fun e w' => e = .returned (.bool (Lib.containsAny s.data.toList chars.data.toList)) ∧ Below W.heap.size W w') : PrimOK P f containsAnyP := by
  refine ⟨he, fun E hE args h r h' hp w0 β w vals hw hv => ?_⟩
  unfold containsAnyP at hp
  split at hp
  · rename_i s cs
    cases hb : Nat.blt s.length 4294967281 && Nat.blt cs.length 4294967281 && Nat.ble 2 cs.length && cs.all (fun b => Nat.blt b.toNat 128) with
    | false => rw [hb] at hp; cases hp
    | true =>
      rw [hb] at hp
      cases hp
      simp only [Bool.and_eq_true] at hb
      obtain ⟨⟨⟨b1, b2⟩, b3⟩, b4⟩ := hb
      obtain ⟨V1, Vs, h1, h2, rfl⟩ := hv.cons_inv
      obtain ⟨V2, Vs, h3, h4, rfl⟩ := h2.cons_inv
      have := h4.nil_inv
      subst this
      simp only [VR] at h1 h3
      subst h1 h3
      refine callsIn_wide.2 ((hc ⟨s.toArray⟩ ⟨cs.toArray⟩ w (by simpa [ByteArray.size] using b1) (by simpa [ByteArray.size] using b2) (by simpa [ByteArray.size] using b3) (ascii_get b4)).mono ?_)
      rintro e w' ⟨rfl, hbl⟩
      exact ⟨β, _, rfl, by simp [VR, hasAny_lib], hw.grown hbl, Goes.refl _ _⟩
  · cases hp

end Go.Am
