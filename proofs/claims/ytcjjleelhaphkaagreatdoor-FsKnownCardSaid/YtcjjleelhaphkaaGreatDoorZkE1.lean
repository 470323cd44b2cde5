/-
  FsKnown, evaluated.
-/
import Derived.Test.YtcjjleelhaphkaaGreatDoorZkE0
namespace Go.Am
open Go
set_option maxRecDepth 100000 in
theorem fs_known_true : answer (qE tab fns primsO qtab 400 (.enter 4) [] ⟨.leaf, 0⟩) = some (.bool true) := by kernel_rfl
end Go.Am
