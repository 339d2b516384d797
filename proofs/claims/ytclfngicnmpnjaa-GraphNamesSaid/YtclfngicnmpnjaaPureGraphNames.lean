/- GraphNames, as plain Lean: true. -/
import Derived.Test.YtclfngicnmpnjaaD
import Derived.KernelRfl
namespace Go.AMach
theorem Pure.GraphNames : Q_turnoutlaw15_GraphNames = some ((true, ()), ()) := by kernel_rfl
end Go.AMach
