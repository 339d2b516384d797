/- The abstract machine: plain forms of what library functions come to. -/
import Derived.Test.YtcngpijmkdpbgaaGreatAm21
import Derived.Lib.Strings
namespace Go.AMach
set_option linter.unusedVariables false
set_option linter.unusedSimpArgs false
set_option linter.unnecessarySimpa false
set_option linter.unusedVariables false

def juj {α : Type} (l : List α) : Option ((Nat × Unit) × (List α × Unit)) := if l.length ≤ 1000000000 then some ((l.length, ()), (l, ())) else none
end Go.AMach
