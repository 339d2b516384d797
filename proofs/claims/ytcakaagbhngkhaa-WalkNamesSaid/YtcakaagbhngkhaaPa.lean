/- WalkNames, as plain Lean: true. -/
import Derived.Test.YtcakaagbhngkhaaD
import Derived.KernelRfl
namespace Go.AMach
set_option linter.unusedVariables false
set_option linter.unusedSimpArgs false
set_option linter.unnecessarySimpa false
theorem awake_ok : Q_turnoutlaw16_awake = some ((true, ()), ()) := by kernel_rfl
theorem Pure.WalkNames : Q_turnoutlaw16_WalkNames = some ((true, ()), ()) := by kernel_rfl
end Go.AMach
