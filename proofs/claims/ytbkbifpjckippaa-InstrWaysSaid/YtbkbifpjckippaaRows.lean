/-
  No cell of these rows narrows 'for every input' (looked for: loops, veiled, ifaces, maps, wideKeys, modest, calm, conditions, laid).
  DERIVED. THE GIVEN ROWS OF THIS SEAT. 8 by the template 'for every input the law returns true; each argument reads behind the call as it read before'; 0 by the template 'total and deterministic' (their statements: YtbkbifpjckippaaTotals.lean).
  GIVEN WITH THE SEED: the statements are not yours to turn. If you find one false, say at which input.
  Laid BY PROGRAM, IN A SANDBOX (cutbox-rows.mjs): the forced cells as the released guide's own fill.sh prints them over the translation ab30fd15c3dd3ad5… (all of the seat's roots in one cut). By AI agents, Wed Nov 11 2026. No macro, syntax, notation, axiom, sorry.
-/
import Derived.Test.YtbkbifpjckippaaChecked
import GoSem.Claim
import GoSem.ClaimJoined
import GoSem.ClaimMapViews
import Derived.JoinedTies
import Derived.KernelRfl
namespace Go.Proofs.Ytbkbifpjckippaa
/- THE CELL 'sum', in the pinned program and in every row, IS THE sha256 OF THE DUMP (.gsa) THAT YtbkbifpjckippaaProg.lean LOADS. Nothing in Lean hashes anything: it is a label: what it is worth is what the hold of that sum in a sandbox is worth. -/
noncomputable def Try.pinned : Pinned := { name := "ytbkbifpjckippaa", sum := "ab30fd15c3dd3ad5baa901c4272e52aea5a65720ac875329b7231705d822433b", checked := Try.checked }
namespace Rows
def none {H : Type} : Left H := { results := [], args := [] }

/-- 'turnoutlaw19.InstrNames': WHATEVER THE INPUT: true; the input reads as it did. -/
def instrNamesSpec : ChangeSpec := { name := "instrNames", fn := fun _ => fun
  | [] => { results := [.lit (.bool true)], args := [] }
  | _ => none }
def instrNamesRow : OpenClaim := { program := "ytbkbifpjckippaa", sum := "ab30fd15c3dd3ad5baa901c4272e52aea5a65720ac875329b7231705d822433b", func := "turnout/turnoutlaw19.InstrNames", spec := "instrNames", unfollowed := true, recurses := true, plainKeys := false, apart := false }
def InstrNamesSaid : Prop := instrNamesRow.holds Try.pinned (OpenSpec.ofChange instrNamesSpec)

/-- ITS FALSE NEIGHBOUR: 'it returns false'. Refute it at one input. -/
def instrNamesWrong : ChangeSpec := { name := "instrNames", fn := fun _ => fun
  | [] => { results := [.lit (.bool false)], args := [] }
  | _ => none }
def InstrNamesWrongFalsely : Prop := instrNamesRow.holds Try.pinned (OpenSpec.ofChange instrNamesWrong)

/-- 'turnoutlaw19.InstrForms': WHATEVER THE INPUT: true; the input reads as it did. -/
def instrFormsSpec : ChangeSpec := { name := "instrForms", fn := fun _ => fun
  | [d] => { results := [.lit (.bool true)], args := [d] }
  | _ => none }
def instrFormsRow : OpenClaim := { program := "ytbkbifpjckippaa", sum := "ab30fd15c3dd3ad5baa901c4272e52aea5a65720ac875329b7231705d822433b", func := "turnout/turnoutlaw19.InstrForms", spec := "instrForms", unfollowed := true, recurses := true, plainKeys := false, apart := false }
def InstrFormsSaid : Prop := instrFormsRow.holds Try.pinned (OpenSpec.ofChange instrFormsSpec)

/-- ITS FALSE NEIGHBOUR: 'it returns false'. Refute it at one input. -/
def instrFormsWrong : ChangeSpec := { name := "instrForms", fn := fun _ => fun
  | [d] => { results := [.lit (.bool false)], args := [d] }
  | _ => none }
def InstrFormsWrongFalsely : Prop := instrFormsRow.holds Try.pinned (OpenSpec.ofChange instrFormsWrong)

/-- 'turnoutlaw19.InstrBlocks': WHATEVER THE INPUT: true; the input reads as it did. -/
def instrBlocksSpec : ChangeSpec := { name := "instrBlocks", fn := fun _ => fun
  | [d] => { results := [.lit (.bool true)], args := [d] }
  | _ => none }
def instrBlocksRow : OpenClaim := { program := "ytbkbifpjckippaa", sum := "ab30fd15c3dd3ad5baa901c4272e52aea5a65720ac875329b7231705d822433b", func := "turnout/turnoutlaw19.InstrBlocks", spec := "instrBlocks", unfollowed := true, recurses := true, plainKeys := false, apart := false }
def InstrBlocksSaid : Prop := instrBlocksRow.holds Try.pinned (OpenSpec.ofChange instrBlocksSpec)

/-- ITS FALSE NEIGHBOUR: 'it returns false'. Refute it at one input. -/
def instrBlocksWrong : ChangeSpec := { name := "instrBlocks", fn := fun _ => fun
  | [d] => { results := [.lit (.bool false)], args := [d] }
  | _ => none }
def InstrBlocksWrongFalsely : Prop := instrBlocksRow.holds Try.pinned (OpenSpec.ofChange instrBlocksWrong)

/-- 'turnoutlaw19.InstrWays': WHATEVER THE INPUT: true; the input reads as it did. -/
def instrWaysSpec : ChangeSpec := { name := "instrWays", fn := fun _ => fun
  | [d1, d2] => { results := [.lit (.bool true)], args := [d1, d2] }
  | _ => none }
def instrWaysRow : OpenClaim := { program := "ytbkbifpjckippaa", sum := "ab30fd15c3dd3ad5baa901c4272e52aea5a65720ac875329b7231705d822433b", func := "turnout/turnoutlaw19.InstrWays", spec := "instrWays", unfollowed := true, recurses := true, plainKeys := false, apart := false }
def InstrWaysSaid : Prop := instrWaysRow.holds Try.pinned (OpenSpec.ofChange instrWaysSpec)

/-- ITS FALSE NEIGHBOUR: 'it returns false'. Refute it at one input. -/
def instrWaysWrong : ChangeSpec := { name := "instrWays", fn := fun _ => fun
  | [d1, d2] => { results := [.lit (.bool false)], args := [d1, d2] }
  | _ => none }
def InstrWaysWrongFalsely : Prop := instrWaysRow.holds Try.pinned (OpenSpec.ofChange instrWaysWrong)

/-- 'turnoutlaw19.InstrAhead': WHATEVER THE INPUT: true; the input reads as it did. -/
def instrAheadSpec : ChangeSpec := { name := "instrAhead", fn := fun _ => fun
  | [d1, d2] => { results := [.lit (.bool true)], args := [d1, d2] }
  | _ => none }
def instrAheadRow : OpenClaim := { program := "ytbkbifpjckippaa", sum := "ab30fd15c3dd3ad5baa901c4272e52aea5a65720ac875329b7231705d822433b", func := "turnout/turnoutlaw19.InstrAhead", spec := "instrAhead", unfollowed := true, recurses := true, plainKeys := false, apart := false }
def InstrAheadSaid : Prop := instrAheadRow.holds Try.pinned (OpenSpec.ofChange instrAheadSpec)

/-- ITS FALSE NEIGHBOUR: 'it returns false'. Refute it at one input. -/
def instrAheadWrong : ChangeSpec := { name := "instrAhead", fn := fun _ => fun
  | [d1, d2] => { results := [.lit (.bool false)], args := [d1, d2] }
  | _ => none }
def InstrAheadWrongFalsely : Prop := instrAheadRow.holds Try.pinned (OpenSpec.ofChange instrAheadWrong)

/-- 'turnoutlaw19.InstrStraight': WHATEVER THE INPUT: true; the input reads as it did. -/
def instrStraightSpec : ChangeSpec := { name := "instrStraight", fn := fun _ => fun
  | [d1, d2] => { results := [.lit (.bool true)], args := [d1, d2] }
  | _ => none }
def instrStraightRow : OpenClaim := { program := "ytbkbifpjckippaa", sum := "ab30fd15c3dd3ad5baa901c4272e52aea5a65720ac875329b7231705d822433b", func := "turnout/turnoutlaw19.InstrStraight", spec := "instrStraight", unfollowed := true, recurses := true, plainKeys := false, apart := false }
def InstrStraightSaid : Prop := instrStraightRow.holds Try.pinned (OpenSpec.ofChange instrStraightSpec)

/-- ITS FALSE NEIGHBOUR: 'it returns false'. Refute it at one input. -/
def instrStraightWrong : ChangeSpec := { name := "instrStraight", fn := fun _ => fun
  | [d1, d2] => { results := [.lit (.bool false)], args := [d1, d2] }
  | _ => none }
def InstrStraightWrongFalsely : Prop := instrStraightRow.holds Try.pinned (OpenSpec.ofChange instrStraightWrong)

/-- 'turnoutlaw19.InstrElse': WHATEVER THE INPUT: true; the input reads as it did. -/
def instrElseSpec : ChangeSpec := { name := "instrElse", fn := fun _ => fun
  | [d1, d2] => { results := [.lit (.bool true)], args := [d1, d2] }
  | _ => none }
def instrElseRow : OpenClaim := { program := "ytbkbifpjckippaa", sum := "ab30fd15c3dd3ad5baa901c4272e52aea5a65720ac875329b7231705d822433b", func := "turnout/turnoutlaw19.InstrElse", spec := "instrElse", unfollowed := true, recurses := true, plainKeys := false, apart := false }
def InstrElseSaid : Prop := instrElseRow.holds Try.pinned (OpenSpec.ofChange instrElseSpec)

/-- ITS FALSE NEIGHBOUR: 'it returns false'. Refute it at one input. -/
def instrElseWrong : ChangeSpec := { name := "instrElse", fn := fun _ => fun
  | [d1, d2] => { results := [.lit (.bool false)], args := [d1, d2] }
  | _ => none }
def InstrElseWrongFalsely : Prop := instrElseRow.holds Try.pinned (OpenSpec.ofChange instrElseWrong)

/-- 'turnoutlaw19.InstrSkips': WHATEVER THE INPUT: true; the input reads as it did. -/
def instrSkipsSpec : ChangeSpec := { name := "instrSkips", fn := fun _ => fun
  | [d1, d2, d3] => { results := [.lit (.bool true)], args := [d1, d2, d3] }
  | _ => none }
def instrSkipsRow : OpenClaim := { program := "ytbkbifpjckippaa", sum := "ab30fd15c3dd3ad5baa901c4272e52aea5a65720ac875329b7231705d822433b", func := "turnout/turnoutlaw19.InstrSkips", spec := "instrSkips", unfollowed := true, recurses := true, plainKeys := false, apart := false }
def InstrSkipsSaid : Prop := instrSkipsRow.holds Try.pinned (OpenSpec.ofChange instrSkipsSpec)

/-- ITS FALSE NEIGHBOUR: 'it returns false'. Refute it at one input. -/
def instrSkipsWrong : ChangeSpec := { name := "instrSkips", fn := fun _ => fun
  | [d1, d2, d3] => { results := [.lit (.bool false)], args := [d1, d2, d3] }
  | _ => none }
def InstrSkipsWrongFalsely : Prop := instrSkipsRow.holds Try.pinned (OpenSpec.ofChange instrSkipsWrong)

/- THE SECOND FORM. 'bulk': how many values and letters a reading holds, each counted each time it is reached (what is shared counts as often as it is met; a slice's spare places count too). A statement '..UptoSaid' is the law's where the arguments, and the package variables that the reading takes, are together of bulk at most 1048576: NARROWER than '..Said'. Prove '..Said' where nothing that the law and all that it calls make is longer than what came in: it says more and counts as full. Else prove '..UptoSaid'. A law counts once. -/
mutual
def uptoBulk {H : Type} : DataW H → Nat
  | .lit (.string bytes) => bytes.length + 1
  | .lit _ => 1
  | .nil => 1
  | .ptr d => uptoBulk d + 1
  | .slice elems spare => uptoBulkAll elems + uptoBulkAll spare + 1
  | .agg parts => uptoBulkAll parts + 1
  | .iface _ d => uptoBulk d + 1
  | .map entries => uptoBulkEntries entries + 1
  | .held _ => 1
def uptoBulkAll {H : Type} : List (DataW H) → Nat
  | [] => 0
  | d :: r => uptoBulk d + uptoBulkAll r
def uptoBulkEntries {H : Type} : List (Lit × DataW H) → Nat
  | [] => 0
  | x :: r => uptoBulkEntry x + uptoBulkEntries r
def uptoBulkEntry {H : Type} : Lit × DataW H → Nat
  | (.string bytes, d) => bytes.length + uptoBulk d + 1
  | (_, d) => uptoBulk d + 1
 end
def uptoSmall : (H : Type) → List (DataW H) → Bool := fun _ ds => decide (uptoBulkAll ds ≤ 1048576)
def OpenSpec.upto (s : _root_.Go.ChangeSpec) : _root_.Go.OpenSpec := { _root_.Go.OpenSpec.ofChange s with cond := some uptoSmall }

/-- 'turnoutlaw19.InstrNames', WHERE WHAT IT READS IS OF BULK AT MOST 1048576: true; the input reads as it did. -/
def instrNamesUptoRow : OpenClaim := { program := "ytbkbifpjckippaa", sum := "ab30fd15c3dd3ad5baa901c4272e52aea5a65720ac875329b7231705d822433b", func := "turnout/turnoutlaw19.InstrNames", spec := "instrNames", unfollowed := true, recurses := true, plainKeys := false, apart := false, narrowed := true }
def InstrNamesUptoSaid : Prop := instrNamesUptoRow.holds Try.pinned (OpenSpec.upto instrNamesSpec)

/-- 'turnoutlaw19.InstrForms', WHERE WHAT IT READS IS OF BULK AT MOST 1048576: true; the input reads as it did. -/
def instrFormsUptoRow : OpenClaim := { program := "ytbkbifpjckippaa", sum := "ab30fd15c3dd3ad5baa901c4272e52aea5a65720ac875329b7231705d822433b", func := "turnout/turnoutlaw19.InstrForms", spec := "instrForms", unfollowed := true, recurses := true, plainKeys := false, apart := false, narrowed := true }
def InstrFormsUptoSaid : Prop := instrFormsUptoRow.holds Try.pinned (OpenSpec.upto instrFormsSpec)

/-- 'turnoutlaw19.InstrBlocks', WHERE WHAT IT READS IS OF BULK AT MOST 1048576: true; the input reads as it did. -/
def instrBlocksUptoRow : OpenClaim := { program := "ytbkbifpjckippaa", sum := "ab30fd15c3dd3ad5baa901c4272e52aea5a65720ac875329b7231705d822433b", func := "turnout/turnoutlaw19.InstrBlocks", spec := "instrBlocks", unfollowed := true, recurses := true, plainKeys := false, apart := false, narrowed := true }
def InstrBlocksUptoSaid : Prop := instrBlocksUptoRow.holds Try.pinned (OpenSpec.upto instrBlocksSpec)

/-- 'turnoutlaw19.InstrWays', WHERE WHAT IT READS IS OF BULK AT MOST 1048576: true; the input reads as it did. -/
def instrWaysUptoRow : OpenClaim := { program := "ytbkbifpjckippaa", sum := "ab30fd15c3dd3ad5baa901c4272e52aea5a65720ac875329b7231705d822433b", func := "turnout/turnoutlaw19.InstrWays", spec := "instrWays", unfollowed := true, recurses := true, plainKeys := false, apart := false, narrowed := true }
def InstrWaysUptoSaid : Prop := instrWaysUptoRow.holds Try.pinned (OpenSpec.upto instrWaysSpec)

/-- 'turnoutlaw19.InstrAhead', WHERE WHAT IT READS IS OF BULK AT MOST 1048576: true; the input reads as it did. -/
def instrAheadUptoRow : OpenClaim := { program := "ytbkbifpjckippaa", sum := "ab30fd15c3dd3ad5baa901c4272e52aea5a65720ac875329b7231705d822433b", func := "turnout/turnoutlaw19.InstrAhead", spec := "instrAhead", unfollowed := true, recurses := true, plainKeys := false, apart := false, narrowed := true }
def InstrAheadUptoSaid : Prop := instrAheadUptoRow.holds Try.pinned (OpenSpec.upto instrAheadSpec)

/-- 'turnoutlaw19.InstrStraight', WHERE WHAT IT READS IS OF BULK AT MOST 1048576: true; the input reads as it did. -/
def instrStraightUptoRow : OpenClaim := { program := "ytbkbifpjckippaa", sum := "ab30fd15c3dd3ad5baa901c4272e52aea5a65720ac875329b7231705d822433b", func := "turnout/turnoutlaw19.InstrStraight", spec := "instrStraight", unfollowed := true, recurses := true, plainKeys := false, apart := false, narrowed := true }
def InstrStraightUptoSaid : Prop := instrStraightUptoRow.holds Try.pinned (OpenSpec.upto instrStraightSpec)

/-- 'turnoutlaw19.InstrElse', WHERE WHAT IT READS IS OF BULK AT MOST 1048576: true; the input reads as it did. -/
def instrElseUptoRow : OpenClaim := { program := "ytbkbifpjckippaa", sum := "ab30fd15c3dd3ad5baa901c4272e52aea5a65720ac875329b7231705d822433b", func := "turnout/turnoutlaw19.InstrElse", spec := "instrElse", unfollowed := true, recurses := true, plainKeys := false, apart := false, narrowed := true }
def InstrElseUptoSaid : Prop := instrElseUptoRow.holds Try.pinned (OpenSpec.upto instrElseSpec)

/-- 'turnoutlaw19.InstrSkips', WHERE WHAT IT READS IS OF BULK AT MOST 1048576: true; the input reads as it did. -/
def instrSkipsUptoRow : OpenClaim := { program := "ytbkbifpjckippaa", sum := "ab30fd15c3dd3ad5baa901c4272e52aea5a65720ac875329b7231705d822433b", func := "turnout/turnoutlaw19.InstrSkips", spec := "instrSkips", unfollowed := true, recurses := true, plainKeys := false, apart := false, narrowed := true }
def InstrSkipsUptoSaid : Prop := instrSkipsUptoRow.holds Try.pinned (OpenSpec.upto instrSkipsSpec)

end Rows
end Go.Proofs.Ytbkbifpjckippaa
