/-
  From the abstract machine to a statement with arguments.
-/
import Derived.Test.YtpofhpkdjcnhmaaR1
import Derived.Test.YtpofhpkdjcnhmaaQ1
set_option linter.unusedVariables false
set_option linter.unusedSimpArgs false
namespace Go.Am
open Go.RowKit Go.WideShapes Go.ChangeShapes

/-- A law that answers true in the abstract machine. -/
theorem open_walk {P : Program} {E : Env} (hE : EnvOK P E) {f : Nat} {args : List AV} {h h' : AHeap} (he : E (.enter f) args h = some (.bool true, h')) {W : World} {β : Inj} (hw : WR W β h W) {vals : List Value} (hv : VRL β args vals) :
    Calls P f vals.toArray W fun e W' => e = .returned (.bool true) ∧ Below W.heap.size W W' := by
  have := (hE (.enter f) args h _ h' he W β W vals hw hv).2
  refine callsIn_wide.1 (CallsIn.mono (F := Fence.wide) (n := 0) this ?_)
  rintro e W' ⟨β', V, rfl, q1, q2, _⟩
  simp only [VR] at q1
  subst q1
  exact ⟨rfl, q2.below⟩

theorem trodAll_stays {H : Type} {enc : TypeId × Value → H} {P : Program} (hl : laidOutB P = true) {W W' : World} (hb : Below W.heap.size W W') {sp : Nat → Bool} : ∀ {ts : List TypeId} {vs : List Value} {ds : List (DataW H)} {ps : List MemPlace},
    (ts.all fun t => P.readableRec t && decide (t < P.types.size)) = true → DataW.TrodAll enc P W 0 (fun _ => true) true ts vs ds ps → (∀ x ∈ ps, x.block < W.heap.size) → (∀ x ∈ ps, sp x.block = true) → DataW.TrodAll enc P W' 0 sp true ts vs ds ps
  | [], [], [], ps, _, h, _, _ => h
  | t :: ts, v :: vs, d :: ds, ps, hts, ⟨p, q, h1, h2, e⟩, hlt, hsp => by
    simp only [List.all_cons, Bool.and_eq_true, decide_eq_true_eq] at hts
    refine ⟨p, q, WideElems.Trod_stays hl hts.1.1 hts.1.2 h1 (fun x hx => hb.same (hlt x (by rw [e]; exact List.mem_append_left _ hx))) (fun x hx => hsp x (by rw [e]; exact List.mem_append_left _ hx)), ?_, e⟩
    exact trodAll_stays hl hb hts.2 h2 (fun x hx => hlt x (by rw [e]; exact List.mem_append_right _ hx)) (fun x hx => hsp x (by rw [e]; exact List.mem_append_right _ hx))
  | [], [], _ :: _, _, _, h, _, _ => h.elim
  | [], _ :: _, _, _, _, h, _, _ => h.elim
  | _ :: _, [], _, _, _, h, _, _ => h.elim
  | _ :: _, _ :: _, [], _, _, h, _, _ => h.elim

end Go.Am
