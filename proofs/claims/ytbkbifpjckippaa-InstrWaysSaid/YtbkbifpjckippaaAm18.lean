/- The abstract machine: parts of a code. -/
import Derived.Test.YtbkbifpjckippaaAm17
import Derived.KernelRfl
namespace Go.AMach
set_option linter.unusedVariables false
set_option linter.unusedSimpArgs false
set_option linter.unnecessarySimpa false
def partOf : Code → List Nat → Code
  | c, [] => c
  | .seq a b, k :: r => if k = 0 then partOf a r else partOf b r
  | .cond _ a b, k :: r => if k = 0 then partOf a r else partOf b r
  | .block _ c, _ :: r => partOf c r
  | .loop c, _ :: r => partOf c r
  | _, _ => .skip
def rfOf : Code → Option (Array Tmp × Code × Code)
  | .rangeFunc _ ps a b => some (ps, a, b)
  | _ => none
def bodyOf (fn : Func) : Code := match fn.body with
  | some c => c
  | none => .skip
end Go.AMach
