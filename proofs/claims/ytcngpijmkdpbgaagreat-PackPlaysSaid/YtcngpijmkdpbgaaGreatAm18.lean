/- The abstract machine: jbD of a code. -/
import Derived.Test.YtcngpijmkdpbgaaGreatAm17
import Derived.KernelRfl
namespace Go.AMach
set_option linter.unusedVariables false
set_option linter.unusedSimpArgs false
set_option linter.unnecessarySimpa false
def jaR : Code → List Nat → Code
  | c, [] => c
  | .seq a b, k :: r => if k = 0 then jaR a r else jaR b r
  | .cond _ a b, k :: r => if k = 0 then jaR a r else jaR b r
  | .block _ c, _ :: r => jaR c r
  | .loop c, _ :: r => jaR c r
  | _, _ => .skip
def rfOf : Code → Option (Array Tmp × Code × Code)
  | .rangeFunc _ ps a b => some (ps, a, b)
  | _ => none
def jae (fn : Func) : Code := match fn.body with
  | some c => c
  | none => .skip
end Go.AMach
