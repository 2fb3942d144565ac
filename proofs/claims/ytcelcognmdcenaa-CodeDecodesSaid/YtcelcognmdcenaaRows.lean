/-
  No cell of these rows narrows 'for every input' (looked for: loops, veiled, ifaces, maps, wideKeys, modest, calm, conditions, laid).
  DERIVED. THE GIVEN ROWS OF THIS SEAT. 7 by the template 'for every input the law returns true; each argument reads behind the call as it read before'; 0 by the template 'total and deterministic' (their statements: YtcelcognmdcenaaTotals.lean).
  GIVEN WITH THE SEED: the statements are not yours to turn. If you find one false, say at which input.
  Laid BY PROGRAM, IN A SANDBOX (cutbox-rows.mjs): the forced cells as the released guide's own fill.sh prints them over the translation f378c403a6f5ca37… (all of the seat's roots in one cut). By AI agents, Wed Nov 11 2026. No macro, syntax, notation, axiom, sorry.
-/
import Derived.Test.YtcelcognmdcenaaChecked
import GoSem.Claim
import GoSem.ClaimJoined
import GoSem.ClaimMapViews
import Derived.JoinedTies
import Derived.KernelRfl
namespace Go.Proofs.Ytcelcognmdcenaa
/- THE CELL 'sum', in the pinned program and in every row, IS THE sha256 OF THE DUMP (.gsa) THAT YtcelcognmdcenaaProg.lean LOADS. Nothing in Lean hashes anything: it is a label: what it is worth is what the hold of that sum in a sandbox is worth. -/
noncomputable def Try.pinned : Pinned := { name := "ytcelcognmdcenaa", sum := "f378c403a6f5ca37e203ed645b90b4ef99c4f2a24bcafa07b8dcf2ddb2e70efa", checked := Try.checked }
namespace Rows
def none {H : Type} : Left H := { results := [], args := [] }

/-- 'anvillaw17.CodeBegins': WHATEVER THE INPUT: true; the input reads as it did. -/
def codeBeginsSpec : ChangeSpec := { name := "codeBegins", fn := fun _ => fun
  | [d1, d2] => { results := [.lit (.bool true)], args := [d1, d2] }
  | _ => none }
def codeBeginsRow : OpenClaim := { program := "ytcelcognmdcenaa", sum := "f378c403a6f5ca37e203ed645b90b4ef99c4f2a24bcafa07b8dcf2ddb2e70efa", func := "anvil/anvillaw17.CodeBegins", spec := "codeBegins", unfollowed := true, recurses := true, apart := false }
def CodeBeginsSaid : Prop := codeBeginsRow.holds Try.pinned (OpenSpec.ofChange codeBeginsSpec)

/-- ITS FALSE NEIGHBOUR: 'it returns false'. Refute it at one input. -/
def codeBeginsWrong : ChangeSpec := { name := "codeBegins", fn := fun _ => fun
  | [d1, d2] => { results := [.lit (.bool false)], args := [d1, d2] }
  | _ => none }
def CodeBeginsWrongFalsely : Prop := codeBeginsRow.holds Try.pinned (OpenSpec.ofChange codeBeginsWrong)

/-- 'anvillaw17.CodeKnown': WHATEVER THE INPUT: true; the input reads as it did. -/
def codeKnownSpec : ChangeSpec := { name := "codeKnown", fn := fun _ => fun
  | [] => { results := [.lit (.bool true)], args := [] }
  | _ => none }
def codeKnownRow : OpenClaim := { program := "ytcelcognmdcenaa", sum := "f378c403a6f5ca37e203ed645b90b4ef99c4f2a24bcafa07b8dcf2ddb2e70efa", func := "anvil/anvillaw17.CodeKnown", spec := "codeKnown", unfollowed := true, recurses := true, apart := false }
def CodeKnownSaid : Prop := codeKnownRow.holds Try.pinned (OpenSpec.ofChange codeKnownSpec)

/-- ITS FALSE NEIGHBOUR: 'it returns false'. Refute it at one input. -/
def codeKnownWrong : ChangeSpec := { name := "codeKnown", fn := fun _ => fun
  | [] => { results := [.lit (.bool false)], args := [] }
  | _ => none }
def CodeKnownWrongFalsely : Prop := codeKnownRow.holds Try.pinned (OpenSpec.ofChange codeKnownWrong)

/-- 'anvillaw17.CodeEncodes': WHATEVER THE INPUT: true; the input reads as it did. -/
def codeEncodesSpec : ChangeSpec := { name := "codeEncodes", fn := fun _ => fun
  | [d] => { results := [.lit (.bool true)], args := [d] }
  | _ => none }
def codeEncodesRow : OpenClaim := { program := "ytcelcognmdcenaa", sum := "f378c403a6f5ca37e203ed645b90b4ef99c4f2a24bcafa07b8dcf2ddb2e70efa", func := "anvil/anvillaw17.CodeEncodes", spec := "codeEncodes", unfollowed := true, recurses := true, apart := false }
def CodeEncodesSaid : Prop := codeEncodesRow.holds Try.pinned (OpenSpec.ofChange codeEncodesSpec)

/-- ITS FALSE NEIGHBOUR: 'it returns false'. Refute it at one input. -/
def codeEncodesWrong : ChangeSpec := { name := "codeEncodes", fn := fun _ => fun
  | [d] => { results := [.lit (.bool false)], args := [d] }
  | _ => none }
def CodeEncodesWrongFalsely : Prop := codeEncodesRow.holds Try.pinned (OpenSpec.ofChange codeEncodesWrong)

/-- 'anvillaw17.CodeDecodes': WHATEVER THE INPUT: true; the input reads as it did. -/
def codeDecodesSpec : ChangeSpec := { name := "codeDecodes", fn := fun _ => fun
  | [d] => { results := [.lit (.bool true)], args := [d] }
  | _ => none }
def codeDecodesRow : OpenClaim := { program := "ytcelcognmdcenaa", sum := "f378c403a6f5ca37e203ed645b90b4ef99c4f2a24bcafa07b8dcf2ddb2e70efa", func := "anvil/anvillaw17.CodeDecodes", spec := "codeDecodes", unfollowed := true, recurses := true, apart := false }
def CodeDecodesSaid : Prop := codeDecodesRow.holds Try.pinned (OpenSpec.ofChange codeDecodesSpec)

/-- ITS FALSE NEIGHBOUR: 'it returns false'. Refute it at one input. -/
def codeDecodesWrong : ChangeSpec := { name := "codeDecodes", fn := fun _ => fun
  | [d] => { results := [.lit (.bool false)], args := [d] }
  | _ => none }
def CodeDecodesWrongFalsely : Prop := codeDecodesRow.holds Try.pinned (OpenSpec.ofChange codeDecodesWrong)

/-- 'anvillaw17.CodeSames': WHATEVER THE INPUT: true; the input reads as it did. -/
def codeSamesSpec : ChangeSpec := { name := "codeSames", fn := fun _ => fun
  | [d1, d2] => { results := [.lit (.bool true)], args := [d1, d2] }
  | _ => none }
def codeSamesRow : OpenClaim := { program := "ytcelcognmdcenaa", sum := "f378c403a6f5ca37e203ed645b90b4ef99c4f2a24bcafa07b8dcf2ddb2e70efa", func := "anvil/anvillaw17.CodeSames", spec := "codeSames", unfollowed := true, recurses := true, apart := false }
def CodeSamesSaid : Prop := codeSamesRow.holds Try.pinned (OpenSpec.ofChange codeSamesSpec)

/-- ITS FALSE NEIGHBOUR: 'it returns false'. Refute it at one input. -/
def codeSamesWrong : ChangeSpec := { name := "codeSames", fn := fun _ => fun
  | [d1, d2] => { results := [.lit (.bool false)], args := [d1, d2] }
  | _ => none }
def CodeSamesWrongFalsely : Prop := codeSamesRow.holds Try.pinned (OpenSpec.ofChange codeSamesWrong)

/-- 'anvillaw17.CodeCut': WHATEVER THE INPUT: true; the input reads as it did. -/
def codeCutSpec : ChangeSpec := { name := "codeCut", fn := fun _ => fun
  | [d1, d2, d3, d4] => { results := [.lit (.bool true)], args := [d1, d2, d3, d4] }
  | _ => none }
def codeCutRow : OpenClaim := { program := "ytcelcognmdcenaa", sum := "f378c403a6f5ca37e203ed645b90b4ef99c4f2a24bcafa07b8dcf2ddb2e70efa", func := "anvil/anvillaw17.CodeCut", spec := "codeCut", unfollowed := true, recurses := true, apart := false }
def CodeCutSaid : Prop := codeCutRow.holds Try.pinned (OpenSpec.ofChange codeCutSpec)

/-- ITS FALSE NEIGHBOUR: 'it returns false'. Refute it at one input. -/
def codeCutWrong : ChangeSpec := { name := "codeCut", fn := fun _ => fun
  | [d1, d2, d3, d4] => { results := [.lit (.bool false)], args := [d1, d2, d3, d4] }
  | _ => none }
def CodeCutWrongFalsely : Prop := codeCutRow.holds Try.pinned (OpenSpec.ofChange codeCutWrong)

/-- 'anvillaw17.CodeBack': WHATEVER THE INPUT: true; the input reads as it did. -/
def codeBackSpec : ChangeSpec := { name := "codeBack", fn := fun _ => fun
  | [d1, d2] => { results := [.lit (.bool true)], args := [d1, d2] }
  | _ => none }
def codeBackRow : OpenClaim := { program := "ytcelcognmdcenaa", sum := "f378c403a6f5ca37e203ed645b90b4ef99c4f2a24bcafa07b8dcf2ddb2e70efa", func := "anvil/anvillaw17.CodeBack", spec := "codeBack", unfollowed := true, recurses := true, apart := false }
def CodeBackSaid : Prop := codeBackRow.holds Try.pinned (OpenSpec.ofChange codeBackSpec)

/-- ITS FALSE NEIGHBOUR: 'it returns false'. Refute it at one input. -/
def codeBackWrong : ChangeSpec := { name := "codeBack", fn := fun _ => fun
  | [d1, d2] => { results := [.lit (.bool false)], args := [d1, d2] }
  | _ => none }
def CodeBackWrongFalsely : Prop := codeBackRow.holds Try.pinned (OpenSpec.ofChange codeBackWrong)

/- THE SECOND FORM. 'bulk': how many values and letters a reading holds, each counted each time it is reached (what is shared counts as often as it is met; a slice's spare places count too). A statement '..UptoSaid' is the law's where the arguments, and the package variables that the reading takes, are together of bulk at most 1048576: NARROWER than '..Said'. Prove '..Said' where nothing that the law and all that it calls make is longer than what came in: it says more and counts as full. Else prove '..UptoSaid'. A law counts once. -/
mutual
def uptoBulk {H : Type} : DataW H → Nat
  | .lit (.string bytes) => bytes.length + 1
  | .lit _ => 1
  | .nil => 1
  | .ptr d => uptoBulk d + 1
  | .slice elems spare => uptoBulkAll elems + uptoBulkAll spare + 1
  | .agg parts => uptoBulkAll parts + 1
  | .iface _ d => uptoBulk d + 1
  | .map entries => uptoBulkEntries entries + 1
  | .held _ => 1
def uptoBulkAll {H : Type} : List (DataW H) → Nat
  | [] => 0
  | d :: r => uptoBulk d + uptoBulkAll r
def uptoBulkEntries {H : Type} : List (Lit × DataW H) → Nat
  | [] => 0
  | x :: r => uptoBulkEntry x + uptoBulkEntries r
def uptoBulkEntry {H : Type} : Lit × DataW H → Nat
  | (.string bytes, d) => bytes.length + uptoBulk d + 1
  | (_, d) => uptoBulk d + 1
 end
def uptoSmall : (H : Type) → List (DataW H) → Bool := fun _ ds => decide (uptoBulkAll ds ≤ 1048576)
def OpenSpec.upto (s : _root_.Go.ChangeSpec) : _root_.Go.OpenSpec := { _root_.Go.OpenSpec.ofChange s with cond := some uptoSmall }

/-- 'anvillaw17.CodeBegins', WHERE WHAT IT READS IS OF BULK AT MOST 1048576: true; the input reads as it did. -/
def codeBeginsUptoRow : OpenClaim := { program := "ytcelcognmdcenaa", sum := "f378c403a6f5ca37e203ed645b90b4ef99c4f2a24bcafa07b8dcf2ddb2e70efa", func := "anvil/anvillaw17.CodeBegins", spec := "codeBegins", unfollowed := true, recurses := true, apart := false, narrowed := true }
def CodeBeginsUptoSaid : Prop := codeBeginsUptoRow.holds Try.pinned (OpenSpec.upto codeBeginsSpec)

/-- 'anvillaw17.CodeKnown', WHERE WHAT IT READS IS OF BULK AT MOST 1048576: true; the input reads as it did. -/
def codeKnownUptoRow : OpenClaim := { program := "ytcelcognmdcenaa", sum := "f378c403a6f5ca37e203ed645b90b4ef99c4f2a24bcafa07b8dcf2ddb2e70efa", func := "anvil/anvillaw17.CodeKnown", spec := "codeKnown", unfollowed := true, recurses := true, apart := false, narrowed := true }
def CodeKnownUptoSaid : Prop := codeKnownUptoRow.holds Try.pinned (OpenSpec.upto codeKnownSpec)

/-- 'anvillaw17.CodeEncodes', WHERE WHAT IT READS IS OF BULK AT MOST 1048576: true; the input reads as it did. -/
def codeEncodesUptoRow : OpenClaim := { program := "ytcelcognmdcenaa", sum := "f378c403a6f5ca37e203ed645b90b4ef99c4f2a24bcafa07b8dcf2ddb2e70efa", func := "anvil/anvillaw17.CodeEncodes", spec := "codeEncodes", unfollowed := true, recurses := true, apart := false, narrowed := true }
def CodeEncodesUptoSaid : Prop := codeEncodesUptoRow.holds Try.pinned (OpenSpec.upto codeEncodesSpec)

/-- 'anvillaw17.CodeDecodes', WHERE WHAT IT READS IS OF BULK AT MOST 1048576: true; the input reads as it did. -/
def codeDecodesUptoRow : OpenClaim := { program := "ytcelcognmdcenaa", sum := "f378c403a6f5ca37e203ed645b90b4ef99c4f2a24bcafa07b8dcf2ddb2e70efa", func := "anvil/anvillaw17.CodeDecodes", spec := "codeDecodes", unfollowed := true, recurses := true, apart := false, narrowed := true }
def CodeDecodesUptoSaid : Prop := codeDecodesUptoRow.holds Try.pinned (OpenSpec.upto codeDecodesSpec)

/-- 'anvillaw17.CodeSames', WHERE WHAT IT READS IS OF BULK AT MOST 1048576: true; the input reads as it did. -/
def codeSamesUptoRow : OpenClaim := { program := "ytcelcognmdcenaa", sum := "f378c403a6f5ca37e203ed645b90b4ef99c4f2a24bcafa07b8dcf2ddb2e70efa", func := "anvil/anvillaw17.CodeSames", spec := "codeSames", unfollowed := true, recurses := true, apart := false, narrowed := true }
def CodeSamesUptoSaid : Prop := codeSamesUptoRow.holds Try.pinned (OpenSpec.upto codeSamesSpec)

/-- 'anvillaw17.CodeCut', WHERE WHAT IT READS IS OF BULK AT MOST 1048576: true; the input reads as it did. -/
def codeCutUptoRow : OpenClaim := { program := "ytcelcognmdcenaa", sum := "f378c403a6f5ca37e203ed645b90b4ef99c4f2a24bcafa07b8dcf2ddb2e70efa", func := "anvil/anvillaw17.CodeCut", spec := "codeCut", unfollowed := true, recurses := true, apart := false, narrowed := true }
def CodeCutUptoSaid : Prop := codeCutUptoRow.holds Try.pinned (OpenSpec.upto codeCutSpec)

/-- 'anvillaw17.CodeBack', WHERE WHAT IT READS IS OF BULK AT MOST 1048576: true; the input reads as it did. -/
def codeBackUptoRow : OpenClaim := { program := "ytcelcognmdcenaa", sum := "f378c403a6f5ca37e203ed645b90b4ef99c4f2a24bcafa07b8dcf2ddb2e70efa", func := "anvil/anvillaw17.CodeBack", spec := "codeBack", unfollowed := true, recurses := true, apart := false, narrowed := true }
def CodeBackUptoSaid : Prop := codeBackUptoRow.holds Try.pinned (OpenSpec.upto codeBackSpec)

end Rows
end Go.Proofs.Ytcelcognmdcenaa
