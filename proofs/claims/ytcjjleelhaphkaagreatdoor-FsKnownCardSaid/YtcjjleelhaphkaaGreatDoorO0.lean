/-
  works(), told by what it answers.
-/
import Derived.Test.YtcjjleelhaphkaaGreatDoorM1
import Derived.Test.YtcjjleelhaphkaaGreatDoorQ1
import Derived.Test.YtcjjleelhaphkaaGreatDoorP3
import Derived.Test.YtcjjleelhaphkaaGreatDoorK2
set_option linter.unusedVariables false
set_option linter.unusedSimpArgs false
namespace Go.Am
open Go Go.Proofs Go.RowKit

def worksP (_ : Env) (args : List AV) (h : AHeap) : Option (AV × AHeap) :=
  match args with
  | [] => some (.bool true, h)
  | _ => none

theorem worksP_ok {P : Program} {f : Nat} (he : ∃ fn c, P.funcs[f]? = some fn ∧ fn.body = some c ∧ ¬ fn.name = "runtime.NumGoroutine")
    (hc : ∀ W, Calls P f #[] W fun e W' => e = .returned (.bool true) ∧ Below W.heap.size W W') : PrimOK P f worksP := by
  refine ⟨he, fun E hE args h r h' hp w0 β w vals hw hv => ?_⟩
  unfold worksP at hp
  split at hp
  · cases hp
    have := hv.nil_inv
    subst this
    refine callsIn_wide.2 ((hc w).mono ?_)
    rintro e w' ⟨rfl, hb⟩
    exact ⟨β, _, rfl, by simp [VR], hw.grown hb, Goes.refl _ _⟩
  · cases hp

end Go.Am
