/-
  No cell of these rows narrows 'for every input' (looked for: loops, veiled, ifaces, maps, wideKeys, modest, calm, conditions, laid).
  DERIVED. THE GIVEN ROWS OF THIS SEAT. 6 by the template 'for every input the law returns true; each argument reads behind the call as it read before'; 0 by the template 'total and deterministic' (their statements: YtcakaagbhngkhaaTotals.lean).
  GIVEN WITH THE SEED: the statements are not yours to turn. If you find one false, say at which input.
  Laid BY PROGRAM, IN A SANDBOX (cutbox-rows.mjs): the forced cells as the released guide's own fill.sh prints them over the translation d88d8ad8a1b11a1d… (all of the seat's roots in one cut). By AI agents, Wed Nov 11 2026. No macro, syntax, notation, axiom, sorry.
-/
import Derived.Test.YtcakaagbhngkhaaChecked
import GoSem.Claim
import GoSem.ClaimJoined
import GoSem.ClaimMapViews
import Derived.JoinedTies
import Derived.KernelRfl
namespace Go.Proofs.Ytcakaagbhngkhaa
/- THE CELL 'sum', in the pinned program and in every row, IS THE sha256 OF THE DUMP (.gsa) THAT YtcakaagbhngkhaaProg.lean LOADS. Nothing in Lean hashes anything: it is a label: what it is worth is what the hold of that sum in a sandbox is worth. -/
noncomputable def Try.pinned : Pinned := { name := "ytcakaagbhngkhaa", sum := "d88d8ad8a1b11a1d62b5ae7ba7c468a63f07e00d3ae991ba3ad8d8b9239d2b5e", checked := Try.checked }
namespace Rows
def none {H : Type} : Left H := { results := [], args := [] }

/-- 'turnoutlaw16.WalkTells': WHATEVER THE INPUT: true; the input reads as it did. -/
def walkTellsSpec : ChangeSpec := { name := "walkTells", fn := fun _ => fun
  | [d1, d2] => { results := [.lit (.bool true)], args := [d1, d2] }
  | _ => none }
def walkTellsRow : OpenClaim := { program := "ytcakaagbhngkhaa", sum := "d88d8ad8a1b11a1d62b5ae7ba7c468a63f07e00d3ae991ba3ad8d8b9239d2b5e", func := "turnout/turnoutlaw16.WalkTells", spec := "walkTells", unfollowed := true, recurses := true, apart := false }
def WalkTellsSaid : Prop := walkTellsRow.holds Try.pinned (OpenSpec.ofChange walkTellsSpec)

/-- ITS FALSE NEIGHBOUR: 'it returns false'. Refute it at one input. -/
def walkTellsWrong : ChangeSpec := { name := "walkTells", fn := fun _ => fun
  | [d1, d2] => { results := [.lit (.bool false)], args := [d1, d2] }
  | _ => none }
def WalkTellsWrongFalsely : Prop := walkTellsRow.holds Try.pinned (OpenSpec.ofChange walkTellsWrong)

/-- 'turnoutlaw16.WalkNames': WHATEVER THE INPUT: true; the input reads as it did. -/
def walkNamesSpec : ChangeSpec := { name := "walkNames", fn := fun _ => fun
  | [] => { results := [.lit (.bool true)], args := [] }
  | _ => none }
def walkNamesRow : OpenClaim := { program := "ytcakaagbhngkhaa", sum := "d88d8ad8a1b11a1d62b5ae7ba7c468a63f07e00d3ae991ba3ad8d8b9239d2b5e", func := "turnout/turnoutlaw16.WalkNames", spec := "walkNames", unfollowed := true, recurses := true, apart := false }
def WalkNamesSaid : Prop := walkNamesRow.holds Try.pinned (OpenSpec.ofChange walkNamesSpec)

/-- ITS FALSE NEIGHBOUR: 'it returns false'. Refute it at one input. -/
def walkNamesWrong : ChangeSpec := { name := "walkNames", fn := fun _ => fun
  | [] => { results := [.lit (.bool false)], args := [] }
  | _ => none }
def WalkNamesWrongFalsely : Prop := walkNamesRow.holds Try.pinned (OpenSpec.ofChange walkNamesWrong)

/-- 'turnoutlaw16.WalkGraph': WHATEVER THE INPUT: true; the input reads as it did. -/
def walkGraphSpec : ChangeSpec := { name := "walkGraph", fn := fun _ => fun
  | [d1, d2] => { results := [.lit (.bool true)], args := [d1, d2] }
  | _ => none }
def walkGraphRow : OpenClaim := { program := "ytcakaagbhngkhaa", sum := "d88d8ad8a1b11a1d62b5ae7ba7c468a63f07e00d3ae991ba3ad8d8b9239d2b5e", func := "turnout/turnoutlaw16.WalkGraph", spec := "walkGraph", unfollowed := true, recurses := true, apart := false }
def WalkGraphSaid : Prop := walkGraphRow.holds Try.pinned (OpenSpec.ofChange walkGraphSpec)

/-- ITS FALSE NEIGHBOUR: 'it returns false'. Refute it at one input. -/
def walkGraphWrong : ChangeSpec := { name := "walkGraph", fn := fun _ => fun
  | [d1, d2] => { results := [.lit (.bool false)], args := [d1, d2] }
  | _ => none }
def WalkGraphWrongFalsely : Prop := walkGraphRow.holds Try.pinned (OpenSpec.ofChange walkGraphWrong)

/-- 'turnoutlaw16.WalkBehind': WHATEVER THE INPUT: true; the input reads as it did. -/
def walkBehindSpec : ChangeSpec := { name := "walkBehind", fn := fun _ => fun
  | [d1, d2, d3] => { results := [.lit (.bool true)], args := [d1, d2, d3] }
  | _ => none }
def walkBehindRow : OpenClaim := { program := "ytcakaagbhngkhaa", sum := "d88d8ad8a1b11a1d62b5ae7ba7c468a63f07e00d3ae991ba3ad8d8b9239d2b5e", func := "turnout/turnoutlaw16.WalkBehind", spec := "walkBehind", unfollowed := true, recurses := true, apart := false }
def WalkBehindSaid : Prop := walkBehindRow.holds Try.pinned (OpenSpec.ofChange walkBehindSpec)

/-- ITS FALSE NEIGHBOUR: 'it returns false'. Refute it at one input. -/
def walkBehindWrong : ChangeSpec := { name := "walkBehind", fn := fun _ => fun
  | [d1, d2, d3] => { results := [.lit (.bool false)], args := [d1, d2, d3] }
  | _ => none }
def WalkBehindWrongFalsely : Prop := walkBehindRow.holds Try.pinned (OpenSpec.ofChange walkBehindWrong)

/-- 'turnoutlaw16.WalkCut': WHATEVER THE INPUT: true; the input reads as it did. -/
def walkCutSpec : ChangeSpec := { name := "walkCut", fn := fun _ => fun
  | [d1, d2, d3] => { results := [.lit (.bool true)], args := [d1, d2, d3] }
  | _ => none }
def walkCutRow : OpenClaim := { program := "ytcakaagbhngkhaa", sum := "d88d8ad8a1b11a1d62b5ae7ba7c468a63f07e00d3ae991ba3ad8d8b9239d2b5e", func := "turnout/turnoutlaw16.WalkCut", spec := "walkCut", unfollowed := true, recurses := true, apart := false }
def WalkCutSaid : Prop := walkCutRow.holds Try.pinned (OpenSpec.ofChange walkCutSpec)

/-- ITS FALSE NEIGHBOUR: 'it returns false'. Refute it at one input. -/
def walkCutWrong : ChangeSpec := { name := "walkCut", fn := fun _ => fun
  | [d1, d2, d3] => { results := [.lit (.bool false)], args := [d1, d2, d3] }
  | _ => none }
def WalkCutWrongFalsely : Prop := walkCutRow.holds Try.pinned (OpenSpec.ofChange walkCutWrong)

/-- 'turnoutlaw16.WalkSteps': WHATEVER THE INPUT: true; the input reads as it did. -/
def walkStepsSpec : ChangeSpec := { name := "walkSteps", fn := fun _ => fun
  | [d1, d2] => { results := [.lit (.bool true)], args := [d1, d2] }
  | _ => none }
def walkStepsRow : OpenClaim := { program := "ytcakaagbhngkhaa", sum := "d88d8ad8a1b11a1d62b5ae7ba7c468a63f07e00d3ae991ba3ad8d8b9239d2b5e", func := "turnout/turnoutlaw16.WalkSteps", spec := "walkSteps", unfollowed := true, recurses := true, apart := false }
def WalkStepsSaid : Prop := walkStepsRow.holds Try.pinned (OpenSpec.ofChange walkStepsSpec)

/-- ITS FALSE NEIGHBOUR: 'it returns false'. Refute it at one input. -/
def walkStepsWrong : ChangeSpec := { name := "walkSteps", fn := fun _ => fun
  | [d1, d2] => { results := [.lit (.bool false)], args := [d1, d2] }
  | _ => none }
def WalkStepsWrongFalsely : Prop := walkStepsRow.holds Try.pinned (OpenSpec.ofChange walkStepsWrong)

/- THE SECOND FORM. 'bulk': how many values and letters a reading holds, each counted each time it is reached (what is shared counts as often as it is met; a slice's spare places count too). A statement '..UptoSaid' is the law's where the arguments, and the package variables that the reading takes, are together of bulk at most 1048576: NARROWER than '..Said'. Prove '..Said' where nothing that the law and all that it calls make is longer than what came in: it says more and counts as full. Else prove '..UptoSaid'. A law counts once. -/
mutual
def uptoBulk {H : Type} : DataW H → Nat
  | .lit (.string bytes) => bytes.length + 1
  | .lit _ => 1
  | .nil => 1
  | .ptr d => uptoBulk d + 1
  | .slice elems spare => uptoBulkAll elems + uptoBulkAll spare + 1
  | .agg parts => uptoBulkAll parts + 1
  | .iface _ d => uptoBulk d + 1
  | .map entries => uptoBulkEntries entries + 1
  | .held _ => 1
def uptoBulkAll {H : Type} : List (DataW H) → Nat
  | [] => 0
  | d :: r => uptoBulk d + uptoBulkAll r
def uptoBulkEntries {H : Type} : List (Lit × DataW H) → Nat
  | [] => 0
  | x :: r => uptoBulkEntry x + uptoBulkEntries r
def uptoBulkEntry {H : Type} : Lit × DataW H → Nat
  | (.string bytes, d) => bytes.length + uptoBulk d + 1
  | (_, d) => uptoBulk d + 1
 end
def uptoSmall : (H : Type) → List (DataW H) → Bool := fun _ ds => decide (uptoBulkAll ds ≤ 1048576)
def OpenSpec.upto (s : _root_.Go.ChangeSpec) : _root_.Go.OpenSpec := { _root_.Go.OpenSpec.ofChange s with cond := some uptoSmall }

/-- 'turnoutlaw16.WalkTells', WHERE WHAT IT READS IS OF BULK AT MOST 1048576: true; the input reads as it did. -/
def walkTellsUptoRow : OpenClaim := { program := "ytcakaagbhngkhaa", sum := "d88d8ad8a1b11a1d62b5ae7ba7c468a63f07e00d3ae991ba3ad8d8b9239d2b5e", func := "turnout/turnoutlaw16.WalkTells", spec := "walkTells", unfollowed := true, recurses := true, apart := false, narrowed := true }
def WalkTellsUptoSaid : Prop := walkTellsUptoRow.holds Try.pinned (OpenSpec.upto walkTellsSpec)

/-- 'turnoutlaw16.WalkNames', WHERE WHAT IT READS IS OF BULK AT MOST 1048576: true; the input reads as it did. -/
def walkNamesUptoRow : OpenClaim := { program := "ytcakaagbhngkhaa", sum := "d88d8ad8a1b11a1d62b5ae7ba7c468a63f07e00d3ae991ba3ad8d8b9239d2b5e", func := "turnout/turnoutlaw16.WalkNames", spec := "walkNames", unfollowed := true, recurses := true, apart := false, narrowed := true }
def WalkNamesUptoSaid : Prop := walkNamesUptoRow.holds Try.pinned (OpenSpec.upto walkNamesSpec)

/-- 'turnoutlaw16.WalkGraph', WHERE WHAT IT READS IS OF BULK AT MOST 1048576: true; the input reads as it did. -/
def walkGraphUptoRow : OpenClaim := { program := "ytcakaagbhngkhaa", sum := "d88d8ad8a1b11a1d62b5ae7ba7c468a63f07e00d3ae991ba3ad8d8b9239d2b5e", func := "turnout/turnoutlaw16.WalkGraph", spec := "walkGraph", unfollowed := true, recurses := true, apart := false, narrowed := true }
def WalkGraphUptoSaid : Prop := walkGraphUptoRow.holds Try.pinned (OpenSpec.upto walkGraphSpec)

/-- 'turnoutlaw16.WalkBehind', WHERE WHAT IT READS IS OF BULK AT MOST 1048576: true; the input reads as it did. -/
def walkBehindUptoRow : OpenClaim := { program := "ytcakaagbhngkhaa", sum := "d88d8ad8a1b11a1d62b5ae7ba7c468a63f07e00d3ae991ba3ad8d8b9239d2b5e", func := "turnout/turnoutlaw16.WalkBehind", spec := "walkBehind", unfollowed := true, recurses := true, apart := false, narrowed := true }
def WalkBehindUptoSaid : Prop := walkBehindUptoRow.holds Try.pinned (OpenSpec.upto walkBehindSpec)

/-- 'turnoutlaw16.WalkCut', WHERE WHAT IT READS IS OF BULK AT MOST 1048576: true; the input reads as it did. -/
def walkCutUptoRow : OpenClaim := { program := "ytcakaagbhngkhaa", sum := "d88d8ad8a1b11a1d62b5ae7ba7c468a63f07e00d3ae991ba3ad8d8b9239d2b5e", func := "turnout/turnoutlaw16.WalkCut", spec := "walkCut", unfollowed := true, recurses := true, apart := false, narrowed := true }
def WalkCutUptoSaid : Prop := walkCutUptoRow.holds Try.pinned (OpenSpec.upto walkCutSpec)

/-- 'turnoutlaw16.WalkSteps', WHERE WHAT IT READS IS OF BULK AT MOST 1048576: true; the input reads as it did. -/
def walkStepsUptoRow : OpenClaim := { program := "ytcakaagbhngkhaa", sum := "d88d8ad8a1b11a1d62b5ae7ba7c468a63f07e00d3ae991ba3ad8d8b9239d2b5e", func := "turnout/turnoutlaw16.WalkSteps", spec := "walkSteps", unfollowed := true, recurses := true, apart := false, narrowed := true }
def WalkStepsUptoSaid : Prop := walkStepsUptoRow.holds Try.pinned (OpenSpec.upto walkStepsSpec)

end Rows
end Go.Proofs.Ytcakaagbhngkhaa
