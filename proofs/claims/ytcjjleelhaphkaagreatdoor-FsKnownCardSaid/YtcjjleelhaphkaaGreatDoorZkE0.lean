/-
  The chapters' rows (works) of the big seat, evaluated.
-/
import Derived.Test.YtcjjleelhaphkaaGreatDoorZkP7
import Derived.Test.YtcjjleelhaphkaaGreatDoorZkQ
import Derived.Test.YtcjjleelhaphkaaGreatDoorO0
set_option linter.unusedVariables false
set_option linter.unusedSimpArgs false
namespace Go.Am
open Go Go.Proofs Go.RowKit
theorem ee_ok : EnvOK Tryz.prog (EE tab fns prims) := EE_sound prims_lim env_ok
set_option maxRecDepth 100000 in
theorem fs_works_true : answer (qE tab fns prims qtab 60 (.enter 29) [] ⟨.leaf, 0⟩) = some (.bool true) := by kernel_rfl
theorem fs_works (W : World) : Calls Tryz.prog 29 #[] W fun e W' => e = .returned (.bool true) ∧ Below W.heap.size W W' := closed_walk ee_ok (qE_answer prims_lim qtab_ok fs_works_true) W
noncomputable def primsO : Prims := fun f => match f with
  | 29 => some worksP
  | f => prims f

theorem primsO_ok : ∀ f p, primsO f = some p → PrimOK Tryz.prog f p := by
  intro f p h
  unfold primsO at h
  split at h
  · cases h
    exact worksP_ok ⟨Tryz.f29, _, Tryz.func29, rfl, by decide⟩ fs_works
  · exact prims_ok _ _ h

theorem primsO_lim : Prims.Lim primsO := by
  intro f p h
  unfold primsO at h
  split at h
  · cases h; exact primLim_const (q := worksP fun _ _ _ => none)
  · exact prims_lim _ _ h

theorem eo_ok : EnvOK Tryz.prog (EE tab fns primsO) := EE_sound primsO_lim fun n => mkE_sound tab_ok (by decide) (fun f A h => fns_ok f A h) (fun f p h => .inl (primsO_ok f p h)) n
end Go.Am
