/-
  No cell of these rows narrows 'for every input' (looked for: loops, veiled, ifaces, maps, wideKeys, modest, calm, conditions, laid).
  DERIVED. THE GIVEN ROWS OF THIS SEAT. 7 by the template 'for every input the law returns true; each argument reads behind the call as it read before'; 0 by the template 'total and deterministic' (their statements: YtcngpijmkdpbgaaTotals.lean).
  GIVEN WITH THE SEED: the statements are not yours to turn. If you find one false, say at which input.
  Laid BY PROGRAM, IN A SANDBOX (cutbox-rows.mjs): the forced cells as the released guide's own fill.sh prints them over the translation 06c1f21f279543eb… (all of the seat's roots in one cut). By AI agents, Wed Nov 11 2026. No macro, syntax, notation, axiom, sorry.
-/
import Derived.Test.YtcngpijmkdpbgaaChecked
import GoSem.Claim
import GoSem.ClaimJoined
import GoSem.ClaimMapViews
import Derived.JoinedTies
import Derived.KernelRfl
namespace Go.Proofs.Ytcngpijmkdpbgaa
/- THE CELL 'sum', in the pinned program and in every row, IS THE sha256 OF THE DUMP (.gsa) THAT YtcngpijmkdpbgaaProg.lean LOADS. Nothing in Lean hashes anything: it is a label: what it is worth is what the hold of that sum in a sandbox is worth. -/
noncomputable def Try.pinned : Pinned := { name := "ytcngpijmkdpbgaa", sum := "06c1f21f279543ebc60d0806fbd9e45d0312d404268220cf95959c92f625ae34", checked := Try.checked }
namespace Rows
def none {H : Type} : Left H := { results := [], args := [] }

/-- 'turnoutlaw17.PackMoves': WHATEVER THE INPUT: true; the input reads as it did. -/
def packMovesSpec : ChangeSpec := { name := "packMoves", fn := fun _ => fun
  | [d1, d2, d3, d4, d5] => { results := [.lit (.bool true)], args := [d1, d2, d3, d4, d5] }
  | _ => none }
def packMovesRow : OpenClaim := { program := "ytcngpijmkdpbgaa", sum := "06c1f21f279543ebc60d0806fbd9e45d0312d404268220cf95959c92f625ae34", func := "turnout/turnoutlaw17.PackMoves", spec := "packMoves", unfollowed := true, recurses := true, apart := false }
def PackMovesSaid : Prop := packMovesRow.holds Try.pinned (OpenSpec.ofChange packMovesSpec)

/-- ITS FALSE NEIGHBOUR: 'it returns false'. Refute it at one input. -/
def packMovesWrong : ChangeSpec := { name := "packMoves", fn := fun _ => fun
  | [d1, d2, d3, d4, d5] => { results := [.lit (.bool false)], args := [d1, d2, d3, d4, d5] }
  | _ => none }
def PackMovesWrongFalsely : Prop := packMovesRow.holds Try.pinned (OpenSpec.ofChange packMovesWrong)

/-- 'turnoutlaw17.PackOut': WHATEVER THE INPUT: true; the input reads as it did. -/
def packOutSpec : ChangeSpec := { name := "packOut", fn := fun _ => fun
  | [d1, d2, d3, d4] => { results := [.lit (.bool true)], args := [d1, d2, d3, d4] }
  | _ => none }
def packOutRow : OpenClaim := { program := "ytcngpijmkdpbgaa", sum := "06c1f21f279543ebc60d0806fbd9e45d0312d404268220cf95959c92f625ae34", func := "turnout/turnoutlaw17.PackOut", spec := "packOut", unfollowed := true, recurses := true, apart := false }
def PackOutSaid : Prop := packOutRow.holds Try.pinned (OpenSpec.ofChange packOutSpec)

/-- ITS FALSE NEIGHBOUR: 'it returns false'. Refute it at one input. -/
def packOutWrong : ChangeSpec := { name := "packOut", fn := fun _ => fun
  | [d1, d2, d3, d4] => { results := [.lit (.bool false)], args := [d1, d2, d3, d4] }
  | _ => none }
def PackOutWrongFalsely : Prop := packOutRow.holds Try.pinned (OpenSpec.ofChange packOutWrong)

/-- 'turnoutlaw17.PackBack': WHATEVER THE INPUT: true; the input reads as it did. -/
def packBackSpec : ChangeSpec := { name := "packBack", fn := fun _ => fun
  | [d1, d2, d3, d4, d5] => { results := [.lit (.bool true)], args := [d1, d2, d3, d4, d5] }
  | _ => none }
def packBackRow : OpenClaim := { program := "ytcngpijmkdpbgaa", sum := "06c1f21f279543ebc60d0806fbd9e45d0312d404268220cf95959c92f625ae34", func := "turnout/turnoutlaw17.PackBack", spec := "packBack", unfollowed := true, recurses := true, apart := false }
def PackBackSaid : Prop := packBackRow.holds Try.pinned (OpenSpec.ofChange packBackSpec)

/-- ITS FALSE NEIGHBOUR: 'it returns false'. Refute it at one input. -/
def packBackWrong : ChangeSpec := { name := "packBack", fn := fun _ => fun
  | [d1, d2, d3, d4, d5] => { results := [.lit (.bool false)], args := [d1, d2, d3, d4, d5] }
  | _ => none }
def PackBackWrongFalsely : Prop := packBackRow.holds Try.pinned (OpenSpec.ofChange packBackWrong)

/-- 'turnoutlaw17.PackGood': WHATEVER THE INPUT: true; the input reads as it did. -/
def packGoodSpec : ChangeSpec := { name := "packGood", fn := fun _ => fun
  | [d1, d2, d3, d4] => { results := [.lit (.bool true)], args := [d1, d2, d3, d4] }
  | _ => none }
def packGoodRow : OpenClaim := { program := "ytcngpijmkdpbgaa", sum := "06c1f21f279543ebc60d0806fbd9e45d0312d404268220cf95959c92f625ae34", func := "turnout/turnoutlaw17.PackGood", spec := "packGood", unfollowed := true, recurses := true, apart := false }
def PackGoodSaid : Prop := packGoodRow.holds Try.pinned (OpenSpec.ofChange packGoodSpec)

/-- ITS FALSE NEIGHBOUR: 'it returns false'. Refute it at one input. -/
def packGoodWrong : ChangeSpec := { name := "packGood", fn := fun _ => fun
  | [d1, d2, d3, d4] => { results := [.lit (.bool false)], args := [d1, d2, d3, d4] }
  | _ => none }
def PackGoodWrongFalsely : Prop := packGoodRow.holds Try.pinned (OpenSpec.ofChange packGoodWrong)

/-- 'turnoutlaw17.PackNames': WHATEVER THE INPUT: true; the input reads as it did. -/
def packNamesSpec : ChangeSpec := { name := "packNames", fn := fun _ => fun
  | [] => { results := [.lit (.bool true)], args := [] }
  | _ => none }
def packNamesRow : OpenClaim := { program := "ytcngpijmkdpbgaa", sum := "06c1f21f279543ebc60d0806fbd9e45d0312d404268220cf95959c92f625ae34", func := "turnout/turnoutlaw17.PackNames", spec := "packNames", unfollowed := true, recurses := true, apart := false }
def PackNamesSaid : Prop := packNamesRow.holds Try.pinned (OpenSpec.ofChange packNamesSpec)

/-- ITS FALSE NEIGHBOUR: 'it returns false'. Refute it at one input. -/
def packNamesWrong : ChangeSpec := { name := "packNames", fn := fun _ => fun
  | [] => { results := [.lit (.bool false)], args := [] }
  | _ => none }
def PackNamesWrongFalsely : Prop := packNamesRow.holds Try.pinned (OpenSpec.ofChange packNamesWrong)

/-- 'turnoutlaw17.PackStays': WHATEVER THE INPUT: true; the input reads as it did. -/
def packStaysSpec : ChangeSpec := { name := "packStays", fn := fun _ => fun
  | [d1, d2, d3] => { results := [.lit (.bool true)], args := [d1, d2, d3] }
  | _ => none }
def packStaysRow : OpenClaim := { program := "ytcngpijmkdpbgaa", sum := "06c1f21f279543ebc60d0806fbd9e45d0312d404268220cf95959c92f625ae34", func := "turnout/turnoutlaw17.PackStays", spec := "packStays", unfollowed := true, recurses := true, apart := false }
def PackStaysSaid : Prop := packStaysRow.holds Try.pinned (OpenSpec.ofChange packStaysSpec)

/-- ITS FALSE NEIGHBOUR: 'it returns false'. Refute it at one input. -/
def packStaysWrong : ChangeSpec := { name := "packStays", fn := fun _ => fun
  | [d1, d2, d3] => { results := [.lit (.bool false)], args := [d1, d2, d3] }
  | _ => none }
def PackStaysWrongFalsely : Prop := packStaysRow.holds Try.pinned (OpenSpec.ofChange packStaysWrong)

/-- 'turnoutlaw17.PackApart': WHATEVER THE INPUT: true; the input reads as it did. -/
def packApartSpec : ChangeSpec := { name := "packApart", fn := fun _ => fun
  | [d1, d2, d3] => { results := [.lit (.bool true)], args := [d1, d2, d3] }
  | _ => none }
def packApartRow : OpenClaim := { program := "ytcngpijmkdpbgaa", sum := "06c1f21f279543ebc60d0806fbd9e45d0312d404268220cf95959c92f625ae34", func := "turnout/turnoutlaw17.PackApart", spec := "packApart", unfollowed := true, recurses := true, apart := false }
def PackApartSaid : Prop := packApartRow.holds Try.pinned (OpenSpec.ofChange packApartSpec)

/-- ITS FALSE NEIGHBOUR: 'it returns false'. Refute it at one input. -/
def packApartWrong : ChangeSpec := { name := "packApart", fn := fun _ => fun
  | [d1, d2, d3] => { results := [.lit (.bool false)], args := [d1, d2, d3] }
  | _ => none }
def PackApartWrongFalsely : Prop := packApartRow.holds Try.pinned (OpenSpec.ofChange packApartWrong)

/- THE SECOND FORM. 'bulk': how many values and letters a reading holds, each counted each time it is reached (what is shared counts as often as it is met; a slice's spare places count too). A statement '..UptoSaid' is the law's where the arguments, and the package variables that the reading takes, are together of bulk at most 1048576: NARROWER than '..Said'. Prove '..Said' where nothing that the law and all that it calls make is longer than what came in: it says more and counts as full. Else prove '..UptoSaid'. A law counts once. -/
mutual
def uptoBulk {H : Type} : DataW H → Nat
  | .lit (.string bytes) => bytes.length + 1
  | .lit _ => 1
  | .nil => 1
  | .ptr d => uptoBulk d + 1
  | .slice elems spare => uptoBulkAll elems + uptoBulkAll spare + 1
  | .agg parts => uptoBulkAll parts + 1
  | .iface _ d => uptoBulk d + 1
  | .map entries => uptoBulkEntries entries + 1
  | .held _ => 1
def uptoBulkAll {H : Type} : List (DataW H) → Nat
  | [] => 0
  | d :: r => uptoBulk d + uptoBulkAll r
def uptoBulkEntries {H : Type} : List (Lit × DataW H) → Nat
  | [] => 0
  | x :: r => uptoBulkEntry x + uptoBulkEntries r
def uptoBulkEntry {H : Type} : Lit × DataW H → Nat
  | (.string bytes, d) => bytes.length + uptoBulk d + 1
  | (_, d) => uptoBulk d + 1
 end
def uptoSmall : (H : Type) → List (DataW H) → Bool := fun _ ds => decide (uptoBulkAll ds ≤ 1048576)
def OpenSpec.upto (s : _root_.Go.ChangeSpec) : _root_.Go.OpenSpec := { _root_.Go.OpenSpec.ofChange s with cond := some uptoSmall }

/-- 'turnoutlaw17.PackMoves', WHERE WHAT IT READS IS OF BULK AT MOST 1048576: true; the input reads as it did. -/
def packMovesUptoRow : OpenClaim := { program := "ytcngpijmkdpbgaa", sum := "06c1f21f279543ebc60d0806fbd9e45d0312d404268220cf95959c92f625ae34", func := "turnout/turnoutlaw17.PackMoves", spec := "packMoves", unfollowed := true, recurses := true, apart := false, narrowed := true }
def PackMovesUptoSaid : Prop := packMovesUptoRow.holds Try.pinned (OpenSpec.upto packMovesSpec)

/-- 'turnoutlaw17.PackOut', WHERE WHAT IT READS IS OF BULK AT MOST 1048576: true; the input reads as it did. -/
def packOutUptoRow : OpenClaim := { program := "ytcngpijmkdpbgaa", sum := "06c1f21f279543ebc60d0806fbd9e45d0312d404268220cf95959c92f625ae34", func := "turnout/turnoutlaw17.PackOut", spec := "packOut", unfollowed := true, recurses := true, apart := false, narrowed := true }
def PackOutUptoSaid : Prop := packOutUptoRow.holds Try.pinned (OpenSpec.upto packOutSpec)

/-- 'turnoutlaw17.PackBack', WHERE WHAT IT READS IS OF BULK AT MOST 1048576: true; the input reads as it did. -/
def packBackUptoRow : OpenClaim := { program := "ytcngpijmkdpbgaa", sum := "06c1f21f279543ebc60d0806fbd9e45d0312d404268220cf95959c92f625ae34", func := "turnout/turnoutlaw17.PackBack", spec := "packBack", unfollowed := true, recurses := true, apart := false, narrowed := true }
def PackBackUptoSaid : Prop := packBackUptoRow.holds Try.pinned (OpenSpec.upto packBackSpec)

/-- 'turnoutlaw17.PackGood', WHERE WHAT IT READS IS OF BULK AT MOST 1048576: true; the input reads as it did. -/
def packGoodUptoRow : OpenClaim := { program := "ytcngpijmkdpbgaa", sum := "06c1f21f279543ebc60d0806fbd9e45d0312d404268220cf95959c92f625ae34", func := "turnout/turnoutlaw17.PackGood", spec := "packGood", unfollowed := true, recurses := true, apart := false, narrowed := true }
def PackGoodUptoSaid : Prop := packGoodUptoRow.holds Try.pinned (OpenSpec.upto packGoodSpec)

/-- 'turnoutlaw17.PackNames', WHERE WHAT IT READS IS OF BULK AT MOST 1048576: true; the input reads as it did. -/
def packNamesUptoRow : OpenClaim := { program := "ytcngpijmkdpbgaa", sum := "06c1f21f279543ebc60d0806fbd9e45d0312d404268220cf95959c92f625ae34", func := "turnout/turnoutlaw17.PackNames", spec := "packNames", unfollowed := true, recurses := true, apart := false, narrowed := true }
def PackNamesUptoSaid : Prop := packNamesUptoRow.holds Try.pinned (OpenSpec.upto packNamesSpec)

/-- 'turnoutlaw17.PackStays', WHERE WHAT IT READS IS OF BULK AT MOST 1048576: true; the input reads as it did. -/
def packStaysUptoRow : OpenClaim := { program := "ytcngpijmkdpbgaa", sum := "06c1f21f279543ebc60d0806fbd9e45d0312d404268220cf95959c92f625ae34", func := "turnout/turnoutlaw17.PackStays", spec := "packStays", unfollowed := true, recurses := true, apart := false, narrowed := true }
def PackStaysUptoSaid : Prop := packStaysUptoRow.holds Try.pinned (OpenSpec.upto packStaysSpec)

/-- 'turnoutlaw17.PackApart', WHERE WHAT IT READS IS OF BULK AT MOST 1048576: true; the input reads as it did. -/
def packApartUptoRow : OpenClaim := { program := "ytcngpijmkdpbgaa", sum := "06c1f21f279543ebc60d0806fbd9e45d0312d404268220cf95959c92f625ae34", func := "turnout/turnoutlaw17.PackApart", spec := "packApart", unfollowed := true, recurses := true, apart := false, narrowed := true }
def PackApartUptoSaid : Prop := packApartUptoRow.holds Try.pinned (OpenSpec.upto packApartSpec)

end Rows
end Go.Proofs.Ytcngpijmkdpbgaa
