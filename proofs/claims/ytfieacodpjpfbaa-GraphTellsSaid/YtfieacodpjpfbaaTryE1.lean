/-
  Closed laws of the seat, evaluated.
-/
import Derived.Test.YtfieacodpjpfbaaTryP7
import Derived.Test.YtfieacodpjpfbaaQ1
set_option linter.unusedVariables false
set_option linter.unusedSimpArgs false
namespace Go.Am
open Go

set_option maxRecDepth 100000 in
theorem works_true : answer (mkE tab fns prims 60 (.enter 14) [] ⟨.leaf, 0⟩) = some (.bool true) := by kernel_rfl
set_option maxRecDepth 100000 in
theorem known_true : answer (mkE tab fns prims 60 (.enter 7) [] ⟨.leaf, 0⟩) = some (.bool true) := by kernel_rfl
end Go.Am
