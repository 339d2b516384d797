/-
  No cell of these rows narrows 'for every input' (looked for: loops, veiled, ifaces, maps, wideKeys, modest, calm, conditions, laid).
  DERIVED. THE GIVEN ROWS OF THIS SEAT. 8 by the template 'for every input the law returns true; each argument reads behind the call as it read before'; 0 by the template 'total and deterministic' (their statements: YtphmidhlgkclgaaTotals.lean).
  GIVEN WITH THE SEED: the statements are not yours to turn. If you find one false, say at which input.
  Laid BY PROGRAM, IN A SANDBOX (cutbox-rows.mjs): the forced cells as the released guide's own fill.sh prints them over the translation dc334b6f2f51550a… (all of the seat's roots in one cut). By AI agents, Wed Nov 11 2026. No macro, syntax, notation, axiom, sorry.
-/
import Derived.Test.YtphmidhlgkclgaaChecked
import GoSem.Claim
import GoSem.ClaimJoined
import GoSem.ClaimMapViews
import Derived.JoinedTies
import Derived.KernelRfl
namespace Go.Proofs.Ytphmidhlgkclgaa
/- THE CELL 'sum', in the pinned program and in every row, IS THE sha256 OF THE DUMP (.gsa) THAT YtphmidhlgkclgaaProg.lean LOADS. Nothing in Lean hashes anything: it is a label: what it is worth is what the hold of that sum in a sandbox is worth. -/
noncomputable def Try.pinned : Pinned := { name := "ytphmidhlgkclgaa", sum := "dc334b6f2f51550a5c2725a02a336c9e8976a660a966c952584f56c1410cde0a", checked := Try.checked }
namespace Rows
def none {H : Type} : Left H := { results := [], args := [] }

/-- 'turnoutlaw18.KeyBack': WHATEVER THE INPUT: true; the input reads as it did. -/
def keyBackSpec : ChangeSpec := { name := "keyBack", fn := fun _ => fun
  | [d1, d2, d3] => { results := [.lit (.bool true)], args := [d1, d2, d3] }
  | _ => none }
def keyBackRow : OpenClaim := { program := "ytphmidhlgkclgaa", sum := "dc334b6f2f51550a5c2725a02a336c9e8976a660a966c952584f56c1410cde0a", func := "turnout/turnoutlaw18.KeyBack", spec := "keyBack", inPlace := ["internal/abi.NoEscape", "internal/bytealg.MakeNoZero"], unfollowed := true, recurses := true, apart := false }
def KeyBackSaid : Prop := keyBackRow.holds Try.pinned (OpenSpec.ofChange keyBackSpec)

/-- ITS FALSE NEIGHBOUR: 'it returns false'. Refute it at one input. -/
def keyBackWrong : ChangeSpec := { name := "keyBack", fn := fun _ => fun
  | [d1, d2, d3] => { results := [.lit (.bool false)], args := [d1, d2, d3] }
  | _ => none }
def KeyBackWrongFalsely : Prop := keyBackRow.holds Try.pinned (OpenSpec.ofChange keyBackWrong)

/-- 'turnoutlaw18.KeyParts': WHATEVER THE INPUT: true; the input reads as it did. -/
def keyPartsSpec : ChangeSpec := { name := "keyParts", fn := fun _ => fun
  | [d1, d2, d3, d4, d5] => { results := [.lit (.bool true)], args := [d1, d2, d3, d4, d5] }
  | _ => none }
def keyPartsRow : OpenClaim := { program := "ytphmidhlgkclgaa", sum := "dc334b6f2f51550a5c2725a02a336c9e8976a660a966c952584f56c1410cde0a", func := "turnout/turnoutlaw18.KeyParts", spec := "keyParts", inPlace := ["internal/abi.NoEscape", "internal/bytealg.MakeNoZero"], unfollowed := true, recurses := true, apart := false }
def KeyPartsSaid : Prop := keyPartsRow.holds Try.pinned (OpenSpec.ofChange keyPartsSpec)

/-- ITS FALSE NEIGHBOUR: 'it returns false'. Refute it at one input. -/
def keyPartsWrong : ChangeSpec := { name := "keyParts", fn := fun _ => fun
  | [d1, d2, d3, d4, d5] => { results := [.lit (.bool false)], args := [d1, d2, d3, d4, d5] }
  | _ => none }
def KeyPartsWrongFalsely : Prop := keyPartsRow.holds Try.pinned (OpenSpec.ofChange keyPartsWrong)

/-- 'turnoutlaw18.KeyNames': WHATEVER THE INPUT: true; the input reads as it did. -/
def keyNamesSpec : ChangeSpec := { name := "keyNames", fn := fun _ => fun
  | [] => { results := [.lit (.bool true)], args := [] }
  | _ => none }
def keyNamesRow : OpenClaim := { program := "ytphmidhlgkclgaa", sum := "dc334b6f2f51550a5c2725a02a336c9e8976a660a966c952584f56c1410cde0a", func := "turnout/turnoutlaw18.KeyNames", spec := "keyNames", inPlace := ["internal/abi.NoEscape", "internal/bytealg.MakeNoZero"], unfollowed := true, recurses := true, apart := false }
def KeyNamesSaid : Prop := keyNamesRow.holds Try.pinned (OpenSpec.ofChange keyNamesSpec)

/-- ITS FALSE NEIGHBOUR: 'it returns false'. Refute it at one input. -/
def keyNamesWrong : ChangeSpec := { name := "keyNames", fn := fun _ => fun
  | [] => { results := [.lit (.bool false)], args := [] }
  | _ => none }
def KeyNamesWrongFalsely : Prop := keyNamesRow.holds Try.pinned (OpenSpec.ofChange keyNamesWrong)

/-- 'turnoutlaw18.KeyTells': WHATEVER THE INPUT: true; the input reads as it did. -/
def keyTellsSpec : ChangeSpec := { name := "keyTells", fn := fun _ => fun
  | [d1, d2, d3] => { results := [.lit (.bool true)], args := [d1, d2, d3] }
  | _ => none }
def keyTellsRow : OpenClaim := { program := "ytphmidhlgkclgaa", sum := "dc334b6f2f51550a5c2725a02a336c9e8976a660a966c952584f56c1410cde0a", func := "turnout/turnoutlaw18.KeyTells", spec := "keyTells", inPlace := ["internal/abi.NoEscape"], unfollowed := true, recurses := true, apart := false }
def KeyTellsSaid : Prop := keyTellsRow.holds Try.pinned (OpenSpec.ofChange keyTellsSpec)

/-- ITS FALSE NEIGHBOUR: 'it returns false'. Refute it at one input. -/
def keyTellsWrong : ChangeSpec := { name := "keyTells", fn := fun _ => fun
  | [d1, d2, d3] => { results := [.lit (.bool false)], args := [d1, d2, d3] }
  | _ => none }
def KeyTellsWrongFalsely : Prop := keyTellsRow.holds Try.pinned (OpenSpec.ofChange keyTellsWrong)

/-- 'turnoutlaw18.KeyWhole': WHATEVER THE INPUT: true; the input reads as it did. -/
def keyWholeSpec : ChangeSpec := { name := "keyWhole", fn := fun _ => fun
  | [d1, d2, d3, d4] => { results := [.lit (.bool true)], args := [d1, d2, d3, d4] }
  | _ => none }
def keyWholeRow : OpenClaim := { program := "ytphmidhlgkclgaa", sum := "dc334b6f2f51550a5c2725a02a336c9e8976a660a966c952584f56c1410cde0a", func := "turnout/turnoutlaw18.KeyWhole", spec := "keyWhole", inPlace := ["internal/abi.NoEscape"], unfollowed := true, recurses := true, apart := false }
def KeyWholeSaid : Prop := keyWholeRow.holds Try.pinned (OpenSpec.ofChange keyWholeSpec)

/-- ITS FALSE NEIGHBOUR: 'it returns false'. Refute it at one input. -/
def keyWholeWrong : ChangeSpec := { name := "keyWhole", fn := fun _ => fun
  | [d1, d2, d3, d4] => { results := [.lit (.bool false)], args := [d1, d2, d3, d4] }
  | _ => none }
def KeyWholeWrongFalsely : Prop := keyWholeRow.holds Try.pinned (OpenSpec.ofChange keyWholeWrong)

/-- 'turnoutlaw18.KeyGone': WHATEVER THE INPUT: true; the input reads as it did. -/
def keyGoneSpec : ChangeSpec := { name := "keyGone", fn := fun _ => fun
  | [d1, d2, d3] => { results := [.lit (.bool true)], args := [d1, d2, d3] }
  | _ => none }
def keyGoneRow : OpenClaim := { program := "ytphmidhlgkclgaa", sum := "dc334b6f2f51550a5c2725a02a336c9e8976a660a966c952584f56c1410cde0a", func := "turnout/turnoutlaw18.KeyGone", spec := "keyGone", inPlace := ["internal/abi.NoEscape"], unfollowed := true, recurses := true, apart := false }
def KeyGoneSaid : Prop := keyGoneRow.holds Try.pinned (OpenSpec.ofChange keyGoneSpec)

/-- ITS FALSE NEIGHBOUR: 'it returns false'. Refute it at one input. -/
def keyGoneWrong : ChangeSpec := { name := "keyGone", fn := fun _ => fun
  | [d1, d2, d3] => { results := [.lit (.bool false)], args := [d1, d2, d3] }
  | _ => none }
def KeyGoneWrongFalsely : Prop := keyGoneRow.holds Try.pinned (OpenSpec.ofChange keyGoneWrong)

/-- 'turnoutlaw18.KeyAlike': WHATEVER THE INPUT: true; the input reads as it did. -/
def keyAlikeSpec : ChangeSpec := { name := "keyAlike", fn := fun _ => fun
  | [d1, d2, d3, d4] => { results := [.lit (.bool true)], args := [d1, d2, d3, d4] }
  | _ => none }
def keyAlikeRow : OpenClaim := { program := "ytphmidhlgkclgaa", sum := "dc334b6f2f51550a5c2725a02a336c9e8976a660a966c952584f56c1410cde0a", func := "turnout/turnoutlaw18.KeyAlike", spec := "keyAlike", inPlace := ["internal/abi.NoEscape"], unfollowed := true, recurses := true, apart := false }
def KeyAlikeSaid : Prop := keyAlikeRow.holds Try.pinned (OpenSpec.ofChange keyAlikeSpec)

/-- ITS FALSE NEIGHBOUR: 'it returns false'. Refute it at one input. -/
def keyAlikeWrong : ChangeSpec := { name := "keyAlike", fn := fun _ => fun
  | [d1, d2, d3, d4] => { results := [.lit (.bool false)], args := [d1, d2, d3, d4] }
  | _ => none }
def KeyAlikeWrongFalsely : Prop := keyAlikeRow.holds Try.pinned (OpenSpec.ofChange keyAlikeWrong)

/-- 'turnoutlaw18.KeyPut': WHATEVER THE INPUT: true; the input reads as it did. -/
def keyPutSpec : ChangeSpec := { name := "keyPut", fn := fun _ => fun
  | [d1, d2, d3, d4] => { results := [.lit (.bool true)], args := [d1, d2, d3, d4] }
  | _ => none }
def keyPutRow : OpenClaim := { program := "ytphmidhlgkclgaa", sum := "dc334b6f2f51550a5c2725a02a336c9e8976a660a966c952584f56c1410cde0a", func := "turnout/turnoutlaw18.KeyPut", spec := "keyPut", inPlace := ["internal/abi.NoEscape"], unfollowed := true, recurses := true, apart := false }
def KeyPutSaid : Prop := keyPutRow.holds Try.pinned (OpenSpec.ofChange keyPutSpec)

/-- ITS FALSE NEIGHBOUR: 'it returns false'. Refute it at one input. -/
def keyPutWrong : ChangeSpec := { name := "keyPut", fn := fun _ => fun
  | [d1, d2, d3, d4] => { results := [.lit (.bool false)], args := [d1, d2, d3, d4] }
  | _ => none }
def KeyPutWrongFalsely : Prop := keyPutRow.holds Try.pinned (OpenSpec.ofChange keyPutWrong)

/- THE SECOND FORM. 'bulk': how many values and letters a reading holds, each counted each time it is reached (what is shared counts as often as it is met; a slice's spare places count too). A statement '..UptoSaid' is the law's where the arguments, and the package variables that the reading takes, are together of bulk at most 1048576: NARROWER than '..Said'. Prove '..Said' where nothing that the law and all that it calls make is longer than what came in: it says more and counts as full. Else prove '..UptoSaid'. A law counts once. -/
mutual
def uptoBulk {H : Type} : DataW H → Nat
  | .lit (.string bytes) => bytes.length + 1
  | .lit _ => 1
  | .nil => 1
  | .ptr d => uptoBulk d + 1
  | .slice elems spare => uptoBulkAll elems + uptoBulkAll spare + 1
  | .agg parts => uptoBulkAll parts + 1
  | .iface _ d => uptoBulk d + 1
  | .map entries => uptoBulkEntries entries + 1
  | .held _ => 1
def uptoBulkAll {H : Type} : List (DataW H) → Nat
  | [] => 0
  | d :: r => uptoBulk d + uptoBulkAll r
def uptoBulkEntries {H : Type} : List (Lit × DataW H) → Nat
  | [] => 0
  | x :: r => uptoBulkEntry x + uptoBulkEntries r
def uptoBulkEntry {H : Type} : Lit × DataW H → Nat
  | (.string bytes, d) => bytes.length + uptoBulk d + 1
  | (_, d) => uptoBulk d + 1
 end
def uptoSmall : (H : Type) → List (DataW H) → Bool := fun _ ds => decide (uptoBulkAll ds ≤ 1048576)
def OpenSpec.upto (s : _root_.Go.ChangeSpec) : _root_.Go.OpenSpec := { _root_.Go.OpenSpec.ofChange s with cond := some uptoSmall }

/-- 'turnoutlaw18.KeyBack', WHERE WHAT IT READS IS OF BULK AT MOST 1048576: true; the input reads as it did. -/
def keyBackUptoRow : OpenClaim := { program := "ytphmidhlgkclgaa", sum := "dc334b6f2f51550a5c2725a02a336c9e8976a660a966c952584f56c1410cde0a", func := "turnout/turnoutlaw18.KeyBack", spec := "keyBack", inPlace := ["internal/abi.NoEscape", "internal/bytealg.MakeNoZero"], unfollowed := true, recurses := true, apart := false, narrowed := true }
def KeyBackUptoSaid : Prop := keyBackUptoRow.holds Try.pinned (OpenSpec.upto keyBackSpec)

/-- 'turnoutlaw18.KeyParts', WHERE WHAT IT READS IS OF BULK AT MOST 1048576: true; the input reads as it did. -/
def keyPartsUptoRow : OpenClaim := { program := "ytphmidhlgkclgaa", sum := "dc334b6f2f51550a5c2725a02a336c9e8976a660a966c952584f56c1410cde0a", func := "turnout/turnoutlaw18.KeyParts", spec := "keyParts", inPlace := ["internal/abi.NoEscape", "internal/bytealg.MakeNoZero"], unfollowed := true, recurses := true, apart := false, narrowed := true }
def KeyPartsUptoSaid : Prop := keyPartsUptoRow.holds Try.pinned (OpenSpec.upto keyPartsSpec)

/-- 'turnoutlaw18.KeyNames', WHERE WHAT IT READS IS OF BULK AT MOST 1048576: true; the input reads as it did. -/
def keyNamesUptoRow : OpenClaim := { program := "ytphmidhlgkclgaa", sum := "dc334b6f2f51550a5c2725a02a336c9e8976a660a966c952584f56c1410cde0a", func := "turnout/turnoutlaw18.KeyNames", spec := "keyNames", inPlace := ["internal/abi.NoEscape", "internal/bytealg.MakeNoZero"], unfollowed := true, recurses := true, apart := false, narrowed := true }
def KeyNamesUptoSaid : Prop := keyNamesUptoRow.holds Try.pinned (OpenSpec.upto keyNamesSpec)

/-- 'turnoutlaw18.KeyTells', WHERE WHAT IT READS IS OF BULK AT MOST 1048576: true; the input reads as it did. -/
def keyTellsUptoRow : OpenClaim := { program := "ytphmidhlgkclgaa", sum := "dc334b6f2f51550a5c2725a02a336c9e8976a660a966c952584f56c1410cde0a", func := "turnout/turnoutlaw18.KeyTells", spec := "keyTells", inPlace := ["internal/abi.NoEscape"], unfollowed := true, recurses := true, apart := false, narrowed := true }
def KeyTellsUptoSaid : Prop := keyTellsUptoRow.holds Try.pinned (OpenSpec.upto keyTellsSpec)

/-- 'turnoutlaw18.KeyWhole', WHERE WHAT IT READS IS OF BULK AT MOST 1048576: true; the input reads as it did. -/
def keyWholeUptoRow : OpenClaim := { program := "ytphmidhlgkclgaa", sum := "dc334b6f2f51550a5c2725a02a336c9e8976a660a966c952584f56c1410cde0a", func := "turnout/turnoutlaw18.KeyWhole", spec := "keyWhole", inPlace := ["internal/abi.NoEscape"], unfollowed := true, recurses := true, apart := false, narrowed := true }
def KeyWholeUptoSaid : Prop := keyWholeUptoRow.holds Try.pinned (OpenSpec.upto keyWholeSpec)

/-- 'turnoutlaw18.KeyGone', WHERE WHAT IT READS IS OF BULK AT MOST 1048576: true; the input reads as it did. -/
def keyGoneUptoRow : OpenClaim := { program := "ytphmidhlgkclgaa", sum := "dc334b6f2f51550a5c2725a02a336c9e8976a660a966c952584f56c1410cde0a", func := "turnout/turnoutlaw18.KeyGone", spec := "keyGone", inPlace := ["internal/abi.NoEscape"], unfollowed := true, recurses := true, apart := false, narrowed := true }
def KeyGoneUptoSaid : Prop := keyGoneUptoRow.holds Try.pinned (OpenSpec.upto keyGoneSpec)

/-- 'turnoutlaw18.KeyAlike', WHERE WHAT IT READS IS OF BULK AT MOST 1048576: true; the input reads as it did. -/
def keyAlikeUptoRow : OpenClaim := { program := "ytphmidhlgkclgaa", sum := "dc334b6f2f51550a5c2725a02a336c9e8976a660a966c952584f56c1410cde0a", func := "turnout/turnoutlaw18.KeyAlike", spec := "keyAlike", inPlace := ["internal/abi.NoEscape"], unfollowed := true, recurses := true, apart := false, narrowed := true }
def KeyAlikeUptoSaid : Prop := keyAlikeUptoRow.holds Try.pinned (OpenSpec.upto keyAlikeSpec)

/-- 'turnoutlaw18.KeyPut', WHERE WHAT IT READS IS OF BULK AT MOST 1048576: true; the input reads as it did. -/
def keyPutUptoRow : OpenClaim := { program := "ytphmidhlgkclgaa", sum := "dc334b6f2f51550a5c2725a02a336c9e8976a660a966c952584f56c1410cde0a", func := "turnout/turnoutlaw18.KeyPut", spec := "keyPut", inPlace := ["internal/abi.NoEscape"], unfollowed := true, recurses := true, apart := false, narrowed := true }
def KeyPutUptoSaid : Prop := keyPutUptoRow.holds Try.pinned (OpenSpec.upto keyPutSpec)

end Rows
end Go.Proofs.Ytphmidhlgkclgaa
