/- The abstract machine: plain forms of what library functions come to. -/
import Derived.Test.YtcngpijmkdpbgaaAm21
import Derived.Lib.Strings
namespace Go.AMach
set_option linter.unusedVariables false
set_option linter.unusedSimpArgs false
set_option linter.unnecessarySimpa false
set_option linter.unusedVariables false

/-- A text for each of some things, one behind the other; the first that is refused ends it. -/
def ofL {α β : Type} (T : α → β → Option ((ByteArray × (Int × Unit)) × β)) : List α → β → ByteArray → Option ((ByteArray × (Int × Unit)) × β)
  | [], b, acc => some ((acc, (0, ())), b)
  | f :: r, b, acc => match T f b with
    | none => none
    | some ((s, (n, ())), b') => if n = 0 then (if acc.size + s.size ≤ 140737488355328 then ofL T r b' (acc ++ s) else none) else some ((ByteArray.empty, (n, ())), b')

def ofQ {α β : Type} (T : α → β → Option ((ByteArray × (Int × Unit)) × β)) (l : List α) (b : β) : Option ((ByteArray × (Int × Unit)) × β) := if l.length ≤ 140737488355328 then ofL T l b ByteArray.empty else none

/-- Texts joined. -/
def joinL : List ByteArray → ByteArray → ByteArray
  | [], _ => ByteArray.empty
  | [x], _ => x
  | x :: y :: r, sep => x ++ sep ++ joinL (y :: r) sep
def joinQ (l : List ByteArray) (sep : ByteArray) : Option ((ByteArray × Unit) × Unit) :=
  if l.length ≤ 140737488355328 ∧ (joinL l sep).size ≤ 140737488355328 then some ((joinL l sep, ()), ()) else none

/-- A slice of 16-byte structures, copied. -/
def cloneQ {α : Type} (l : List α) : Option ((Nat × Unit) × (List α × Unit)) := if l.length ≤ 1000000000 then some ((l.length, ()), (l, ())) else none
end Go.AMach
