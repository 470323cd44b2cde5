/-
  From the abstract machine to a statement: where a call begins, how a law ends.
-/
import Derived.Test.YtcjjleelhaphkaaGreatDoorC8
import Derived.Below
import Derived.ChangeSame
import Derived.ProofKit
import Derived.OpenShut
import Derived.JoinedCond
set_option linter.unusedVariables false
set_option linter.unusedSimpArgs false
namespace Go.Am
open Go.RowKit Go.WideShapes Go.ChangeShapes

def answer : Option (AV × AHeap) → Option AV
  | some (v, _) => some v
  | none => none

theorem answer_some {x : Option (AV × AHeap)} {v : AV} (h : answer x = some v) : ∃ h', x = some (v, h') := by
  cases x with
  | none => cases h
  | some p => obtain ⟨a, b⟩ := p; cases h; exact ⟨b, rfl⟩

/-- Nothing is known of the world but that it is there. -/
theorem WR.start (W : World) : WR W (fun _ => none) ⟨.leaf, 0⟩ W :=
  ⟨Below.refl _ W, fun _ _ h => (by cases h), fun o x h => (by simp [AHeap.get, PT.get] at h), fun o x L h => (by simp [AHeap.get, PT.get] at h), fun o o' x x' L L' h => (by simp [AHeap.get, PT.get] at h)⟩

/-- A closed law, evaluated. -/
theorem closed_walk {P : Program} {E : Env} (hE : EnvOK P E) {f : Nat} (h : answer (E (.enter f) [] ⟨.leaf, 0⟩) = some (.bool true)) (W : World) :
    Calls P f #[] W fun e W' => e = .returned (.bool true) ∧ Below W.heap.size W W' := by
  obtain ⟨h', he⟩ := answer_some h
  have := (hE (.enter f) [] ⟨.leaf, 0⟩ _ h' he W (fun _ => none) W [] (WR.start W) VRL.nil).2
  refine callsIn_wide.1 (CallsIn.mono (F := Fence.wide) (n := 0) this ?_)
  rintro e W' ⟨β', V, rfl, q1, q2, _⟩
  simp only [VR] at q1
  subst q1
  exact ⟨rfl, q2.below⟩

/-- How a law's row ends: it has answered true, and all that lay there lies as it did. -/
theorem law_post {H : Type} {enc : TypeId × Value → H} {P : Program} {f : Func} {s : ChangeSpec} {W W' : World} {args : Array Value} {ds : List (DataW H)} {before : List MemPlace}
    (hW : DataW.Whole enc P f.params.toList s.vars false W args.toList ds [] before) (hfn : s.fn H ds = { results := [.lit (.bool true)], args := ds }) (hb : Below W.heap.size W W') {t : Nat} (ht : f.resultTypes = #[t]) (hu : P.underlying t = some .bool)
    (hargs : ∀ sp : Nat → Bool, (∀ p ∈ before, sp p.block = true) → DataW.TrodAll enc P W' 0 sp true f.params.toList args.toList ds before) (hvars : ∀ sp : Nat → Bool, DataW.TrodVars enc P W' sp s.vars (s.fn H ds).vars []) :
    s.post enc P f false true false false W args (.bool true) W' := by
  have hall : ∀ p ∈ before, (fun b => decide (b < W.heap.size)) p.block = true := fun p hp => by simpa using hW.lt p hp
  refine ⟨ds, [], before, [], before, [], hW, ?_, ?_, ?_, World.keptBut_mono (fun p hp => ⟨hp, .inr (.inl hp)⟩) (hb.frame (· ∈ before)), fun h => by cases h⟩
  · rw [List.append_nil, hfn, ht]
    exact trodAll_mk1 (shut_bool hu true)
  · rw [List.append_nil, hfn]
    exact hargs _ hall
  · rw [List.append_nil]
    exact hvars _
end Go.Am
