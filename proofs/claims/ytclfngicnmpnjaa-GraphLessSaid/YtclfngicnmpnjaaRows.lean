/-
  No cell of these rows narrows 'for every input' (looked for: loops, veiled, ifaces, maps, wideKeys, modest, calm, conditions, laid).
  DERIVED. THE GIVEN ROWS OF THIS SEAT. 6 by the template 'for every input the law returns true; each argument reads behind the call as it read before'; 0 by the template 'total and deterministic' (their statements: YtclfngicnmpnjaaTotals.lean).
  GIVEN WITH THE SEED: the statements are not yours to turn. If you find one false, say at which input.
  Laid BY PROGRAM, IN A SANDBOX (cutbox-rows.mjs): the forced cells as the released guide's own fill.sh prints them over the translation 9224fb604611602e… (all of the seat's roots in one cut). By AI agents, Wed Nov 11 2026. No macro, syntax, notation, axiom, sorry.
-/
import Derived.Test.YtclfngicnmpnjaaChecked
import GoSem.Claim
import GoSem.ClaimJoined
import GoSem.ClaimMapViews
import Derived.JoinedTies
import Derived.KernelRfl
namespace Go.Proofs.Ytclfngicnmpnjaa
/- THE CELL 'sum', in the pinned program and in every row, IS THE sha256 OF THE DUMP (.gsa) THAT YtclfngicnmpnjaaProg.lean LOADS. Nothing in Lean hashes anything: it is a label: what it is worth is what the hold of that sum in a sandbox is worth. -/
noncomputable def Try.pinned : Pinned := { name := "ytclfngicnmpnjaa", sum := "9224fb604611602e62423684b9af08869411acad788d9f7d9452d313c9f452c8", checked := Try.checked }
namespace Rows
def none {H : Type} : Left H := { results := [], args := [] }

/-- 'turnoutlaw15.GraphNames': WHATEVER THE INPUT: true; the input reads as it did. -/
def graphNamesSpec : ChangeSpec := { name := "graphNames", fn := fun _ => fun
  | [] => { results := [.lit (.bool true)], args := [] }
  | _ => none }
def graphNamesRow : OpenClaim := { program := "ytclfngicnmpnjaa", sum := "9224fb604611602e62423684b9af08869411acad788d9f7d9452d313c9f452c8", func := "turnout/turnoutlaw15.GraphNames", spec := "graphNames", unfollowed := true, recurses := true, apart := false }
def GraphNamesSaid : Prop := graphNamesRow.holds Try.pinned (OpenSpec.ofChange graphNamesSpec)

/-- ITS FALSE NEIGHBOUR: 'it returns false'. Refute it at one input. -/
def graphNamesWrong : ChangeSpec := { name := "graphNames", fn := fun _ => fun
  | [] => { results := [.lit (.bool false)], args := [] }
  | _ => none }
def GraphNamesWrongFalsely : Prop := graphNamesRow.holds Try.pinned (OpenSpec.ofChange graphNamesWrong)

/-- 'turnoutlaw15.GraphForms': WHATEVER THE INPUT: true; the input reads as it did. -/
def graphFormsSpec : ChangeSpec := { name := "graphForms", fn := fun _ => fun
  | [d] => { results := [.lit (.bool true)], args := [d] }
  | _ => none }
def graphFormsRow : OpenClaim := { program := "ytclfngicnmpnjaa", sum := "9224fb604611602e62423684b9af08869411acad788d9f7d9452d313c9f452c8", func := "turnout/turnoutlaw15.GraphForms", spec := "graphForms", unfollowed := true, recurses := true, apart := false }
def GraphFormsSaid : Prop := graphFormsRow.holds Try.pinned (OpenSpec.ofChange graphFormsSpec)

/-- ITS FALSE NEIGHBOUR: 'it returns false'. Refute it at one input. -/
def graphFormsWrong : ChangeSpec := { name := "graphForms", fn := fun _ => fun
  | [d] => { results := [.lit (.bool false)], args := [d] }
  | _ => none }
def GraphFormsWrongFalsely : Prop := graphFormsRow.holds Try.pinned (OpenSpec.ofChange graphFormsWrong)

/-- 'turnoutlaw15.GraphLongest': WHATEVER THE INPUT: true; the input reads as it did. -/
def graphLongestSpec : ChangeSpec := { name := "graphLongest", fn := fun _ => fun
  | [d1, d2] => { results := [.lit (.bool true)], args := [d1, d2] }
  | _ => none }
def graphLongestRow : OpenClaim := { program := "ytclfngicnmpnjaa", sum := "9224fb604611602e62423684b9af08869411acad788d9f7d9452d313c9f452c8", func := "turnout/turnoutlaw15.GraphLongest", spec := "graphLongest", unfollowed := true, recurses := true, apart := false }
def GraphLongestSaid : Prop := graphLongestRow.holds Try.pinned (OpenSpec.ofChange graphLongestSpec)

/-- ITS FALSE NEIGHBOUR: 'it returns false'. Refute it at one input. -/
def graphLongestWrong : ChangeSpec := { name := "graphLongest", fn := fun _ => fun
  | [d1, d2] => { results := [.lit (.bool false)], args := [d1, d2] }
  | _ => none }
def GraphLongestWrongFalsely : Prop := graphLongestRow.holds Try.pinned (OpenSpec.ofChange graphLongestWrong)

/-- 'turnoutlaw15.GraphEnds': WHATEVER THE INPUT: true; the input reads as it did. -/
def graphEndsSpec : ChangeSpec := { name := "graphEnds", fn := fun _ => fun
  | [d1, d2, d3] => { results := [.lit (.bool true)], args := [d1, d2, d3] }
  | _ => none }
def graphEndsRow : OpenClaim := { program := "ytclfngicnmpnjaa", sum := "9224fb604611602e62423684b9af08869411acad788d9f7d9452d313c9f452c8", func := "turnout/turnoutlaw15.GraphEnds", spec := "graphEnds", unfollowed := true, recurses := true, apart := false }
def GraphEndsSaid : Prop := graphEndsRow.holds Try.pinned (OpenSpec.ofChange graphEndsSpec)

/-- ITS FALSE NEIGHBOUR: 'it returns false'. Refute it at one input. -/
def graphEndsWrong : ChangeSpec := { name := "graphEnds", fn := fun _ => fun
  | [d1, d2, d3] => { results := [.lit (.bool false)], args := [d1, d2, d3] }
  | _ => none }
def GraphEndsWrongFalsely : Prop := graphEndsRow.holds Try.pinned (OpenSpec.ofChange graphEndsWrong)

/-- 'turnoutlaw15.GraphLess': WHATEVER THE INPUT: true; the input reads as it did. -/
def graphLessSpec : ChangeSpec := { name := "graphLess", fn := fun _ => fun
  | [d1, d2] => { results := [.lit (.bool true)], args := [d1, d2] }
  | _ => none }
def graphLessRow : OpenClaim := { program := "ytclfngicnmpnjaa", sum := "9224fb604611602e62423684b9af08869411acad788d9f7d9452d313c9f452c8", func := "turnout/turnoutlaw15.GraphLess", spec := "graphLess", unfollowed := true, recurses := true, apart := false }
def GraphLessSaid : Prop := graphLessRow.holds Try.pinned (OpenSpec.ofChange graphLessSpec)

/-- ITS FALSE NEIGHBOUR: 'it returns false'. Refute it at one input. -/
def graphLessWrong : ChangeSpec := { name := "graphLess", fn := fun _ => fun
  | [d1, d2] => { results := [.lit (.bool false)], args := [d1, d2] }
  | _ => none }
def GraphLessWrongFalsely : Prop := graphLessRow.holds Try.pinned (OpenSpec.ofChange graphLessWrong)

/-- 'turnoutlaw15.GraphRing': WHATEVER THE INPUT: true; the input reads as it did. -/
def graphRingSpec : ChangeSpec := { name := "graphRing", fn := fun _ => fun
  | [d1, d2, d3, d4] => { results := [.lit (.bool true)], args := [d1, d2, d3, d4] }
  | _ => none }
def graphRingRow : OpenClaim := { program := "ytclfngicnmpnjaa", sum := "9224fb604611602e62423684b9af08869411acad788d9f7d9452d313c9f452c8", func := "turnout/turnoutlaw15.GraphRing", spec := "graphRing", unfollowed := true, recurses := true, apart := false }
def GraphRingSaid : Prop := graphRingRow.holds Try.pinned (OpenSpec.ofChange graphRingSpec)

/-- ITS FALSE NEIGHBOUR: 'it returns false'. Refute it at one input. -/
def graphRingWrong : ChangeSpec := { name := "graphRing", fn := fun _ => fun
  | [d1, d2, d3, d4] => { results := [.lit (.bool false)], args := [d1, d2, d3, d4] }
  | _ => none }
def GraphRingWrongFalsely : Prop := graphRingRow.holds Try.pinned (OpenSpec.ofChange graphRingWrong)

/- THE SECOND FORM. 'bulk': how many values and letters a reading holds, each counted each time it is reached (what is shared counts as often as it is met; a slice's spare places count too). A statement '..UptoSaid' is the law's where the arguments, and the package variables that the reading takes, are together of bulk at most 1048576: NARROWER than '..Said'. Prove '..Said' where nothing that the law and all that it calls make is longer than what came in: it says more and counts as full. Else prove '..UptoSaid'. A law counts once. -/
mutual
def uptoBulk {H : Type} : DataW H → Nat
  | .lit (.string bytes) => bytes.length + 1
  | .lit _ => 1
  | .nil => 1
  | .ptr d => uptoBulk d + 1
  | .slice elems spare => uptoBulkAll elems + uptoBulkAll spare + 1
  | .agg parts => uptoBulkAll parts + 1
  | .iface _ d => uptoBulk d + 1
  | .map entries => uptoBulkEntries entries + 1
  | .held _ => 1
def uptoBulkAll {H : Type} : List (DataW H) → Nat
  | [] => 0
  | d :: r => uptoBulk d + uptoBulkAll r
def uptoBulkEntries {H : Type} : List (Lit × DataW H) → Nat
  | [] => 0
  | x :: r => uptoBulkEntry x + uptoBulkEntries r
def uptoBulkEntry {H : Type} : Lit × DataW H → Nat
  | (.string bytes, d) => bytes.length + uptoBulk d + 1
  | (_, d) => uptoBulk d + 1
 end
def uptoSmall : (H : Type) → List (DataW H) → Bool := fun _ ds => decide (uptoBulkAll ds ≤ 1048576)
def OpenSpec.upto (s : _root_.Go.ChangeSpec) : _root_.Go.OpenSpec := { _root_.Go.OpenSpec.ofChange s with cond := some uptoSmall }

/-- 'turnoutlaw15.GraphNames', WHERE WHAT IT READS IS OF BULK AT MOST 1048576: true; the input reads as it did. -/
def graphNamesUptoRow : OpenClaim := { program := "ytclfngicnmpnjaa", sum := "9224fb604611602e62423684b9af08869411acad788d9f7d9452d313c9f452c8", func := "turnout/turnoutlaw15.GraphNames", spec := "graphNames", unfollowed := true, recurses := true, apart := false, narrowed := true }
def GraphNamesUptoSaid : Prop := graphNamesUptoRow.holds Try.pinned (OpenSpec.upto graphNamesSpec)

/-- 'turnoutlaw15.GraphForms', WHERE WHAT IT READS IS OF BULK AT MOST 1048576: true; the input reads as it did. -/
def graphFormsUptoRow : OpenClaim := { program := "ytclfngicnmpnjaa", sum := "9224fb604611602e62423684b9af08869411acad788d9f7d9452d313c9f452c8", func := "turnout/turnoutlaw15.GraphForms", spec := "graphForms", unfollowed := true, recurses := true, apart := false, narrowed := true }
def GraphFormsUptoSaid : Prop := graphFormsUptoRow.holds Try.pinned (OpenSpec.upto graphFormsSpec)

/-- 'turnoutlaw15.GraphLongest', WHERE WHAT IT READS IS OF BULK AT MOST 1048576: true; the input reads as it did. -/
def graphLongestUptoRow : OpenClaim := { program := "ytclfngicnmpnjaa", sum := "9224fb604611602e62423684b9af08869411acad788d9f7d9452d313c9f452c8", func := "turnout/turnoutlaw15.GraphLongest", spec := "graphLongest", unfollowed := true, recurses := true, apart := false, narrowed := true }
def GraphLongestUptoSaid : Prop := graphLongestUptoRow.holds Try.pinned (OpenSpec.upto graphLongestSpec)

/-- 'turnoutlaw15.GraphEnds', WHERE WHAT IT READS IS OF BULK AT MOST 1048576: true; the input reads as it did. -/
def graphEndsUptoRow : OpenClaim := { program := "ytclfngicnmpnjaa", sum := "9224fb604611602e62423684b9af08869411acad788d9f7d9452d313c9f452c8", func := "turnout/turnoutlaw15.GraphEnds", spec := "graphEnds", unfollowed := true, recurses := true, apart := false, narrowed := true }
def GraphEndsUptoSaid : Prop := graphEndsUptoRow.holds Try.pinned (OpenSpec.upto graphEndsSpec)

/-- 'turnoutlaw15.GraphLess', WHERE WHAT IT READS IS OF BULK AT MOST 1048576: true; the input reads as it did. -/
def graphLessUptoRow : OpenClaim := { program := "ytclfngicnmpnjaa", sum := "9224fb604611602e62423684b9af08869411acad788d9f7d9452d313c9f452c8", func := "turnout/turnoutlaw15.GraphLess", spec := "graphLess", unfollowed := true, recurses := true, apart := false, narrowed := true }
def GraphLessUptoSaid : Prop := graphLessUptoRow.holds Try.pinned (OpenSpec.upto graphLessSpec)

/-- 'turnoutlaw15.GraphRing', WHERE WHAT IT READS IS OF BULK AT MOST 1048576: true; the input reads as it did. -/
def graphRingUptoRow : OpenClaim := { program := "ytclfngicnmpnjaa", sum := "9224fb604611602e62423684b9af08869411acad788d9f7d9452d313c9f452c8", func := "turnout/turnoutlaw15.GraphRing", spec := "graphRing", unfollowed := true, recurses := true, apart := false, narrowed := true }
def GraphRingUptoSaid : Prop := graphRingUptoRow.holds Try.pinned (OpenSpec.upto graphRingSpec)

end Rows
end Go.Proofs.Ytclfngicnmpnjaa
