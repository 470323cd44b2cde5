/-
  Library functions of texts: strings.Index at one byte, strings.Repeat.
-/
import Derived.Test.YtcjjleelhaphkaaGreatDoorP8
import Derived.Shelf.Strings.Search3
import Derived.Shelf.Strings.Repeat
set_option linter.unusedVariables false
set_option linter.unusedSimpArgs false
namespace Go.Am
open Go Go.Proofs Go.RowKit Go.Maps Go.Sort

/-- strings.Index, one byte. -/
def index1P (_ : Env) (args : List AV) (h : AHeap) : Option (AV × AHeap) :=
  match args with
  | [.str s, .str [c]] => some (.int .i64 (idxB c s 0), h)
  | _ => none

theorem index1P_ok {P : Program} {f : Nat} (he : ∃ fn c, P.funcs[f]? = some fn ∧ fn.body = some c ∧ ¬ fn.name = "runtime.NumGoroutine")
    (hc : ∀ (s : ByteArray) (c : UInt8) W, Calls P f #[.string s, .string ⟨#[c]⟩] W fun e w' => e = .returned (.int .i64 (Lib.indexByte s.data.toList c)) ∧ w' = W) : PrimOK P f index1P := by
  refine ⟨he, fun E hE args h r h' hp w0 β w vals hw hv => ?_⟩
  unfold index1P at hp
  split at hp
  · rename_i s c
    cases hp
    obtain ⟨V1, Vs, h1, h2, rfl⟩ := hv.cons_inv
    obtain ⟨V2, Vs, h3, h4, rfl⟩ := h2.cons_inv
    have := h4.nil_inv
    subst this
    simp only [VR] at h1 h3
    subst h1 h3
    refine callsIn_wide.2 ((hc ⟨s.toArray⟩ c w).mono ?_)
    rintro e w' ⟨rfl, rfl⟩
    exact ⟨β, _, rfl, by simp [VR, idxB_zero], hw, Goes.refl _ _⟩
  · cases hp

/-- strings.Repeat. -/
def repeatP (_ : Env) (args : List AV) (h : AHeap) : Option (AV × AHeap) :=
  match args with
  | [.str s, .int .i64 (.ofNat n)] => bif Nat.ble n 9223372036854775807 && Nat.ble (s.length * n) 140737488355328 then some (.str (Lib.repeatL s n), h) else none
  | _ => none

theorem repeatP_ok {P : Program} {f : Nat} (he : ∃ fn c, P.funcs[f]? = some fn ∧ fn.body = some c ∧ ¬ fn.name = "runtime.NumGoroutine")
    (hc : ∀ (s : ByteArray) (c : Nat) (W : World), c ≤ 9223372036854775807 → s.size * c ≤ 140737488355328 →
      Calls P f #[.string s, .int .i64 c] W fun e w' => e = .returned (.string ⟨(Lib.repeatL s.data.toList c).toArray⟩) ∧ Below W.heap.size W w') : PrimOK P f repeatP := by
  refine ⟨he, fun E hE args h r h' hp w0 β w vals hw hv => ?_⟩
  unfold repeatP at hp
  split at hp
  · rename_i s n
    cases hb : Nat.ble n 9223372036854775807 && Nat.ble (s.length * n) 140737488355328 with
    | false => rw [hb] at hp; cases hp
    | true =>
      rw [hb] at hp
      cases hp
      simp only [Bool.and_eq_true] at hb
      obtain ⟨b1, b2⟩ := hb
      obtain ⟨V1, Vs, h1, h2, rfl⟩ := hv.cons_inv
      obtain ⟨V2, Vs, h3, h4, rfl⟩ := h2.cons_inv
      have := h4.nil_inv
      subst this
      simp only [VR] at h1 h3
      subst h1 h3
      refine callsIn_wide.2 ((hc ⟨s.toArray⟩ n w (Nat.le_of_ble_eq_true b1) (by have := Nat.le_of_ble_eq_true b2; simpa [ByteArray.size] using this)).mono ?_)
      rintro e w' ⟨rfl, hbl⟩
      exact ⟨β, _, rfl, by simp [VR], hw.grown hbl, Goes.refl _ _⟩
  · cases hp

end Go.Am
