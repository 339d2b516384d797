/- Layer 17: the examples. -/
import Derived.Test.YtcngpijmkdpbgaaDx
import Derived.KernelRfl
namespace Go.AMach
set_option linter.unusedVariables false
set_option linter.unusedSimpArgs false
set_option linter.unnecessarySimpa false
theorem awake17 : Q_z1u = some ((true, ()), ()) := by kernel_rfl
end Go.AMach
