/-
  No cell of these rows narrows 'for every input' (looked for: loops, veiled, ifaces, maps, wideKeys, modest, calm, conditions, laid).
  DERIVED. THE GIVEN ROWS OF THIS SEAT. 7 by the template 'for every input the law returns true; each argument reads behind the call as it read before'; 0 by the template 'total and deterministic' (their statements: YtfmjdojndbpkhaaTotals.lean).
  GIVEN WITH THE SEED: the statements are not yours to turn. If you find one false, say at which input.
  Laid BY PROGRAM, IN A SANDBOX (cutbox-rows.mjs): the forced cells as the released guide's own fill.sh prints them over the translation be8e79fb6fa29b7f… (all of the seat's roots in one cut). By AI agents, Wed Nov 11 2026. No macro, syntax, notation, axiom, sorry.
-/
import Derived.Test.YtfmjdojndbpkhaaChecked
import GoSem.Claim
import GoSem.ClaimJoined
import GoSem.ClaimMapViews
import Derived.JoinedTies
import Derived.KernelRfl
namespace Go.Proofs.Ytfmjdojndbpkhaa
/- THE CELL 'sum', in the pinned program and in every row, IS THE sha256 OF THE DUMP (.gsa) THAT YtfmjdojndbpkhaaProg.lean LOADS. Nothing in Lean hashes anything: it is a label: what it is worth is what the hold of that sum in a sandbox is worth. -/
noncomputable def Try.pinned : Pinned := { name := "ytfmjdojndbpkhaa", sum := "be8e79fb6fa29b7f9459e42cdf5d2c0cd7b9110967b79e47165178322a1b7530", checked := Try.checked }
namespace Rows
def none {H : Type} : Left H := { results := [], args := [] }

/-- 'turnoutlaw24.BoundTells': WHATEVER THE INPUT: true; the input reads as it did. -/
def boundTellsSpec : ChangeSpec := { name := "boundTells", fn := fun _ => fun
  | [d1, d2] => { results := [.lit (.bool true)], args := [d1, d2] }
  | _ => none }
def boundTellsRow : OpenClaim := { program := "ytfmjdojndbpkhaa", sum := "be8e79fb6fa29b7f9459e42cdf5d2c0cd7b9110967b79e47165178322a1b7530", func := "turnout/turnoutlaw24.BoundTells", spec := "boundTells", unfollowed := true, recurses := true, plainKeys := false, apart := false }
def BoundTellsSaid : Prop := boundTellsRow.holds Try.pinned (OpenSpec.ofChange boundTellsSpec)

/-- ITS FALSE NEIGHBOUR: 'it returns false'. Refute it at one input. -/
def boundTellsWrong : ChangeSpec := { name := "boundTells", fn := fun _ => fun
  | [d1, d2] => { results := [.lit (.bool false)], args := [d1, d2] }
  | _ => none }
def BoundTellsWrongFalsely : Prop := boundTellsRow.holds Try.pinned (OpenSpec.ofChange boundTellsWrong)

/-- 'turnoutlaw24.BoundNames': WHATEVER THE INPUT: true; the input reads as it did. -/
def boundNamesSpec : ChangeSpec := { name := "boundNames", fn := fun _ => fun
  | [] => { results := [.lit (.bool true)], args := [] }
  | _ => none }
def boundNamesRow : OpenClaim := { program := "ytfmjdojndbpkhaa", sum := "be8e79fb6fa29b7f9459e42cdf5d2c0cd7b9110967b79e47165178322a1b7530", func := "turnout/turnoutlaw24.BoundNames", spec := "boundNames", unfollowed := true, recurses := true, plainKeys := false, apart := false }
def BoundNamesSaid : Prop := boundNamesRow.holds Try.pinned (OpenSpec.ofChange boundNamesSpec)

/-- ITS FALSE NEIGHBOUR: 'it returns false'. Refute it at one input. -/
def boundNamesWrong : ChangeSpec := { name := "boundNames", fn := fun _ => fun
  | [] => { results := [.lit (.bool false)], args := [] }
  | _ => none }
def BoundNamesWrongFalsely : Prop := boundNamesRow.holds Try.pinned (OpenSpec.ofChange boundNamesWrong)

/-- 'turnoutlaw24.BoundWays': WHATEVER THE INPUT: true; the input reads as it did. -/
def boundWaysSpec : ChangeSpec := { name := "boundWays", fn := fun _ => fun
  | [d1, d2, d3] => { results := [.lit (.bool true)], args := [d1, d2, d3] }
  | _ => none }
def boundWaysRow : OpenClaim := { program := "ytfmjdojndbpkhaa", sum := "be8e79fb6fa29b7f9459e42cdf5d2c0cd7b9110967b79e47165178322a1b7530", func := "turnout/turnoutlaw24.BoundWays", spec := "boundWays", unfollowed := true, recurses := true, plainKeys := false, apart := false }
def BoundWaysSaid : Prop := boundWaysRow.holds Try.pinned (OpenSpec.ofChange boundWaysSpec)

/-- ITS FALSE NEIGHBOUR: 'it returns false'. Refute it at one input. -/
def boundWaysWrong : ChangeSpec := { name := "boundWays", fn := fun _ => fun
  | [d1, d2, d3] => { results := [.lit (.bool false)], args := [d1, d2, d3] }
  | _ => none }
def BoundWaysWrongFalsely : Prop := boundWaysRow.holds Try.pinned (OpenSpec.ofChange boundWaysWrong)

/-- 'turnoutlaw24.BoundParts': WHATEVER THE INPUT: true; the input reads as it did. -/
def boundPartsSpec : ChangeSpec := { name := "boundParts", fn := fun _ => fun
  | [d1, d2] => { results := [.lit (.bool true)], args := [d1, d2] }
  | _ => none }
def boundPartsRow : OpenClaim := { program := "ytfmjdojndbpkhaa", sum := "be8e79fb6fa29b7f9459e42cdf5d2c0cd7b9110967b79e47165178322a1b7530", func := "turnout/turnoutlaw24.BoundParts", spec := "boundParts", unfollowed := true, recurses := true, plainKeys := false, apart := false }
def BoundPartsSaid : Prop := boundPartsRow.holds Try.pinned (OpenSpec.ofChange boundPartsSpec)

/-- ITS FALSE NEIGHBOUR: 'it returns false'. Refute it at one input. -/
def boundPartsWrong : ChangeSpec := { name := "boundParts", fn := fun _ => fun
  | [d1, d2] => { results := [.lit (.bool false)], args := [d1, d2] }
  | _ => none }
def BoundPartsWrongFalsely : Prop := boundPartsRow.holds Try.pinned (OpenSpec.ofChange boundPartsWrong)

/-- 'turnoutlaw24.BoundLess': WHATEVER THE INPUT: true; the input reads as it did. -/
def boundLessSpec : ChangeSpec := { name := "boundLess", fn := fun _ => fun
  | [d1, d2, d3, d4] => { results := [.lit (.bool true)], args := [d1, d2, d3, d4] }
  | _ => none }
def boundLessRow : OpenClaim := { program := "ytfmjdojndbpkhaa", sum := "be8e79fb6fa29b7f9459e42cdf5d2c0cd7b9110967b79e47165178322a1b7530", func := "turnout/turnoutlaw24.BoundLess", spec := "boundLess", unfollowed := true, recurses := true, plainKeys := false, apart := false }
def BoundLessSaid : Prop := boundLessRow.holds Try.pinned (OpenSpec.ofChange boundLessSpec)

/-- ITS FALSE NEIGHBOUR: 'it returns false'. Refute it at one input. -/
def boundLessWrong : ChangeSpec := { name := "boundLess", fn := fun _ => fun
  | [d1, d2, d3, d4] => { results := [.lit (.bool false)], args := [d1, d2, d3, d4] }
  | _ => none }
def BoundLessWrongFalsely : Prop := boundLessRow.holds Try.pinned (OpenSpec.ofChange boundLessWrong)

/-- 'turnoutlaw24.BoundCycles': WHATEVER THE INPUT: true; the input reads as it did. -/
def boundCyclesSpec : ChangeSpec := { name := "boundCycles", fn := fun _ => fun
  | [d1, d2, d3] => { results := [.lit (.bool true)], args := [d1, d2, d3] }
  | _ => none }
def boundCyclesRow : OpenClaim := { program := "ytfmjdojndbpkhaa", sum := "be8e79fb6fa29b7f9459e42cdf5d2c0cd7b9110967b79e47165178322a1b7530", func := "turnout/turnoutlaw24.BoundCycles", spec := "boundCycles", unfollowed := true, recurses := true, plainKeys := false, apart := false }
def BoundCyclesSaid : Prop := boundCyclesRow.holds Try.pinned (OpenSpec.ofChange boundCyclesSpec)

/-- ITS FALSE NEIGHBOUR: 'it returns false'. Refute it at one input. -/
def boundCyclesWrong : ChangeSpec := { name := "boundCycles", fn := fun _ => fun
  | [d1, d2, d3] => { results := [.lit (.bool false)], args := [d1, d2, d3] }
  | _ => none }
def BoundCyclesWrongFalsely : Prop := boundCyclesRow.holds Try.pinned (OpenSpec.ofChange boundCyclesWrong)

/-- 'turnoutlaw24.BoundTower': WHATEVER THE INPUT: true; the input reads as it did. -/
def boundTowerSpec : ChangeSpec := { name := "boundTower", fn := fun _ => fun
  | [d1, d2, d3] => { results := [.lit (.bool true)], args := [d1, d2, d3] }
  | _ => none }
def boundTowerRow : OpenClaim := { program := "ytfmjdojndbpkhaa", sum := "be8e79fb6fa29b7f9459e42cdf5d2c0cd7b9110967b79e47165178322a1b7530", func := "turnout/turnoutlaw24.BoundTower", spec := "boundTower", unfollowed := true, recurses := true, plainKeys := false, apart := false }
def BoundTowerSaid : Prop := boundTowerRow.holds Try.pinned (OpenSpec.ofChange boundTowerSpec)

/-- ITS FALSE NEIGHBOUR: 'it returns false'. Refute it at one input. -/
def boundTowerWrong : ChangeSpec := { name := "boundTower", fn := fun _ => fun
  | [d1, d2, d3] => { results := [.lit (.bool false)], args := [d1, d2, d3] }
  | _ => none }
def BoundTowerWrongFalsely : Prop := boundTowerRow.holds Try.pinned (OpenSpec.ofChange boundTowerWrong)

/- THE SECOND FORM. 'bulk': how many values and letters a reading holds, each counted each time it is reached (what is shared counts as often as it is met; a slice's spare places count too). A statement '..UptoSaid' is the law's where the arguments, and the package variables that the reading takes, are together of bulk at most 1048576: NARROWER than '..Said'. Prove '..Said' where nothing that the law and all that it calls make is longer than what came in: it says more and counts as full. Else prove '..UptoSaid'. A law counts once. -/
mutual
def uptoBulk {H : Type} : DataW H → Nat
  | .lit (.string bytes) => bytes.length + 1
  | .lit _ => 1
  | .nil => 1
  | .ptr d => uptoBulk d + 1
  | .slice elems spare => uptoBulkAll elems + uptoBulkAll spare + 1
  | .agg parts => uptoBulkAll parts + 1
  | .iface _ d => uptoBulk d + 1
  | .map entries => uptoBulkEntries entries + 1
  | .held _ => 1
def uptoBulkAll {H : Type} : List (DataW H) → Nat
  | [] => 0
  | d :: r => uptoBulk d + uptoBulkAll r
def uptoBulkEntries {H : Type} : List (Lit × DataW H) → Nat
  | [] => 0
  | x :: r => uptoBulkEntry x + uptoBulkEntries r
def uptoBulkEntry {H : Type} : Lit × DataW H → Nat
  | (.string bytes, d) => bytes.length + uptoBulk d + 1
  | (_, d) => uptoBulk d + 1
 end
def uptoSmall : (H : Type) → List (DataW H) → Bool := fun _ ds => decide (uptoBulkAll ds ≤ 1048576)
def OpenSpec.upto (s : _root_.Go.ChangeSpec) : _root_.Go.OpenSpec := { _root_.Go.OpenSpec.ofChange s with cond := some uptoSmall }

/-- 'turnoutlaw24.BoundTells', WHERE WHAT IT READS IS OF BULK AT MOST 1048576: true; the input reads as it did. -/
def boundTellsUptoRow : OpenClaim := { program := "ytfmjdojndbpkhaa", sum := "be8e79fb6fa29b7f9459e42cdf5d2c0cd7b9110967b79e47165178322a1b7530", func := "turnout/turnoutlaw24.BoundTells", spec := "boundTells", unfollowed := true, recurses := true, plainKeys := false, apart := false, narrowed := true }
def BoundTellsUptoSaid : Prop := boundTellsUptoRow.holds Try.pinned (OpenSpec.upto boundTellsSpec)

/-- 'turnoutlaw24.BoundNames', WHERE WHAT IT READS IS OF BULK AT MOST 1048576: true; the input reads as it did. -/
def boundNamesUptoRow : OpenClaim := { program := "ytfmjdojndbpkhaa", sum := "be8e79fb6fa29b7f9459e42cdf5d2c0cd7b9110967b79e47165178322a1b7530", func := "turnout/turnoutlaw24.BoundNames", spec := "boundNames", unfollowed := true, recurses := true, plainKeys := false, apart := false, narrowed := true }
def BoundNamesUptoSaid : Prop := boundNamesUptoRow.holds Try.pinned (OpenSpec.upto boundNamesSpec)

/-- 'turnoutlaw24.BoundWays', WHERE WHAT IT READS IS OF BULK AT MOST 1048576: true; the input reads as it did. -/
def boundWaysUptoRow : OpenClaim := { program := "ytfmjdojndbpkhaa", sum := "be8e79fb6fa29b7f9459e42cdf5d2c0cd7b9110967b79e47165178322a1b7530", func := "turnout/turnoutlaw24.BoundWays", spec := "boundWays", unfollowed := true, recurses := true, plainKeys := false, apart := false, narrowed := true }
def BoundWaysUptoSaid : Prop := boundWaysUptoRow.holds Try.pinned (OpenSpec.upto boundWaysSpec)

/-- 'turnoutlaw24.BoundParts', WHERE WHAT IT READS IS OF BULK AT MOST 1048576: true; the input reads as it did. -/
def boundPartsUptoRow : OpenClaim := { program := "ytfmjdojndbpkhaa", sum := "be8e79fb6fa29b7f9459e42cdf5d2c0cd7b9110967b79e47165178322a1b7530", func := "turnout/turnoutlaw24.BoundParts", spec := "boundParts", unfollowed := true, recurses := true, plainKeys := false, apart := false, narrowed := true }
def BoundPartsUptoSaid : Prop := boundPartsUptoRow.holds Try.pinned (OpenSpec.upto boundPartsSpec)

/-- 'turnoutlaw24.BoundLess', WHERE WHAT IT READS IS OF BULK AT MOST 1048576: true; the input reads as it did. -/
def boundLessUptoRow : OpenClaim := { program := "ytfmjdojndbpkhaa", sum := "be8e79fb6fa29b7f9459e42cdf5d2c0cd7b9110967b79e47165178322a1b7530", func := "turnout/turnoutlaw24.BoundLess", spec := "boundLess", unfollowed := true, recurses := true, plainKeys := false, apart := false, narrowed := true }
def BoundLessUptoSaid : Prop := boundLessUptoRow.holds Try.pinned (OpenSpec.upto boundLessSpec)

/-- 'turnoutlaw24.BoundCycles', WHERE WHAT IT READS IS OF BULK AT MOST 1048576: true; the input reads as it did. -/
def boundCyclesUptoRow : OpenClaim := { program := "ytfmjdojndbpkhaa", sum := "be8e79fb6fa29b7f9459e42cdf5d2c0cd7b9110967b79e47165178322a1b7530", func := "turnout/turnoutlaw24.BoundCycles", spec := "boundCycles", unfollowed := true, recurses := true, plainKeys := false, apart := false, narrowed := true }
def BoundCyclesUptoSaid : Prop := boundCyclesUptoRow.holds Try.pinned (OpenSpec.upto boundCyclesSpec)

/-- 'turnoutlaw24.BoundTower', WHERE WHAT IT READS IS OF BULK AT MOST 1048576: true; the input reads as it did. -/
def boundTowerUptoRow : OpenClaim := { program := "ytfmjdojndbpkhaa", sum := "be8e79fb6fa29b7f9459e42cdf5d2c0cd7b9110967b79e47165178322a1b7530", func := "turnout/turnoutlaw24.BoundTower", spec := "boundTower", unfollowed := true, recurses := true, plainKeys := false, apart := false, narrowed := true }
def BoundTowerUptoSaid : Prop := boundTowerUptoRow.holds Try.pinned (OpenSpec.upto boundTowerSpec)

end Rows
end Go.Proofs.Ytfmjdojndbpkhaa
