/- The closed law of the names. -/
import Derived.Test.YtphmidhlgkclgaaDx
import Derived.KernelRfl
namespace Go.AMach
set_option linter.unusedVariables false
set_option linter.unusedSimpArgs false
set_option linter.unnecessarySimpa false
theorem awake18 : Q_turnoutlaw18_awake = some ((true, ()), ()) := by kernel_rfl
theorem Pure.KeyNames : Q_turnoutlaw18_KeyNames = some ((true, ()), ()) := by kernel_rfl
end Go.AMach
