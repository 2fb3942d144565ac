/-
  No cell of these rows narrows 'for every input' (looked for: loops, veiled, ifaces, maps, wideKeys, modest, calm, conditions, laid).
  DERIVED. THE GIVEN ROWS OF THIS SEAT. 6 by the template 'for every input the law returns true; each argument reads behind the call as it read before'; 0 by the template 'total and deterministic' (their statements: YtlncdkdkoamadaaTotals.lean).
  GIVEN WITH THE SEED: the statements are not yours to turn. If you find one false, say at which input.
  Laid BY PROGRAM, IN A SANDBOX (cutbox-rows.mjs): the forced cells as the released guide's own fill.sh prints them over the translation 5b510e7266146a33… (all of the seat's roots in one cut). By AI agents, Wed Nov 11 2026. No macro, syntax, notation, axiom, sorry.
-/
import Derived.Test.YtlncdkdkoamadaaChecked
import GoSem.Claim
import GoSem.ClaimJoined
import GoSem.ClaimMapViews
import Derived.JoinedTies
import Derived.KernelRfl
namespace Go.Proofs.Ytlncdkdkoamadaa
/- THE CELL 'sum', in the pinned program and in every row, IS THE sha256 OF THE DUMP (.gsa) THAT YtlncdkdkoamadaaProg.lean LOADS. Nothing in Lean hashes anything: it is a label: what it is worth is what the hold of that sum in a sandbox is worth. -/
noncomputable def Try.pinned : Pinned := { name := "ytlncdkdkoamadaa", sum := "5b510e7266146a3386ac4e82fb92dbd6eab4f5df273313f54e2fef35984b9136", checked := Try.checked }
namespace Rows
def none {H : Type} : Left H := { results := [], args := [] }

/-- 'anvillaw24.ModelPlays': WHATEVER THE INPUT: true; the input reads as it did. -/
def modelPlaysSpec : ChangeSpec := { name := "modelPlays", fn := fun _ => fun
  | [d1, d2, d3] => { results := [.lit (.bool true)], args := [d1, d2, d3] }
  | _ => none }
def modelPlaysRow : OpenClaim := { program := "ytlncdkdkoamadaa", sum := "5b510e7266146a3386ac4e82fb92dbd6eab4f5df273313f54e2fef35984b9136", func := "anvil/anvillaw24.ModelPlays", spec := "modelPlays", apart := false }
def ModelPlaysSaid : Prop := modelPlaysRow.holds Try.pinned (OpenSpec.ofChange modelPlaysSpec)

/-- ITS FALSE NEIGHBOUR: 'it returns false'. Refute it at one input. -/
def modelPlaysWrong : ChangeSpec := { name := "modelPlays", fn := fun _ => fun
  | [d1, d2, d3] => { results := [.lit (.bool false)], args := [d1, d2, d3] }
  | _ => none }
def ModelPlaysWrongFalsely : Prop := modelPlaysRow.holds Try.pinned (OpenSpec.ofChange modelPlaysWrong)

/-- 'anvillaw24.ModelEnds': WHATEVER THE INPUT: true; the input reads as it did. -/
def modelEndsSpec : ChangeSpec := { name := "modelEnds", fn := fun _ => fun
  | [d1, d2, d3] => { results := [.lit (.bool true)], args := [d1, d2, d3] }
  | _ => none }
def modelEndsRow : OpenClaim := { program := "ytlncdkdkoamadaa", sum := "5b510e7266146a3386ac4e82fb92dbd6eab4f5df273313f54e2fef35984b9136", func := "anvil/anvillaw24.ModelEnds", spec := "modelEnds", apart := false }
def ModelEndsSaid : Prop := modelEndsRow.holds Try.pinned (OpenSpec.ofChange modelEndsSpec)

/-- ITS FALSE NEIGHBOUR: 'it returns false'. Refute it at one input. -/
def modelEndsWrong : ChangeSpec := { name := "modelEnds", fn := fun _ => fun
  | [d1, d2, d3] => { results := [.lit (.bool false)], args := [d1, d2, d3] }
  | _ => none }
def ModelEndsWrongFalsely : Prop := modelEndsRow.holds Try.pinned (OpenSpec.ofChange modelEndsWrong)

/-- 'anvillaw24.ModelAll': WHATEVER THE INPUT: true; the input reads as it did. -/
def modelAllSpec : ChangeSpec := { name := "modelAll", fn := fun _ => fun
  | [d1, d2] => { results := [.lit (.bool true)], args := [d1, d2] }
  | _ => none }
def modelAllRow : OpenClaim := { program := "ytlncdkdkoamadaa", sum := "5b510e7266146a3386ac4e82fb92dbd6eab4f5df273313f54e2fef35984b9136", func := "anvil/anvillaw24.ModelAll", spec := "modelAll", recurses := true, apart := false }
def ModelAllSaid : Prop := modelAllRow.holds Try.pinned (OpenSpec.ofChange modelAllSpec)

/-- ITS FALSE NEIGHBOUR: 'it returns false'. Refute it at one input. -/
def modelAllWrong : ChangeSpec := { name := "modelAll", fn := fun _ => fun
  | [d1, d2] => { results := [.lit (.bool false)], args := [d1, d2] }
  | _ => none }
def ModelAllWrongFalsely : Prop := modelAllRow.holds Try.pinned (OpenSpec.ofChange modelAllWrong)

/-- 'anvillaw24.ModelPairs': WHATEVER THE INPUT: true; the input reads as it did. -/
def modelPairsSpec : ChangeSpec := { name := "modelPairs", fn := fun _ => fun
  | [d1, d2] => { results := [.lit (.bool true)], args := [d1, d2] }
  | _ => none }
def modelPairsRow : OpenClaim := { program := "ytlncdkdkoamadaa", sum := "5b510e7266146a3386ac4e82fb92dbd6eab4f5df273313f54e2fef35984b9136", func := "anvil/anvillaw24.ModelPairs", spec := "modelPairs", apart := false }
def ModelPairsSaid : Prop := modelPairsRow.holds Try.pinned (OpenSpec.ofChange modelPairsSpec)

/-- ITS FALSE NEIGHBOUR: 'it returns false'. Refute it at one input. -/
def modelPairsWrong : ChangeSpec := { name := "modelPairs", fn := fun _ => fun
  | [d1, d2] => { results := [.lit (.bool false)], args := [d1, d2] }
  | _ => none }
def ModelPairsWrongFalsely : Prop := modelPairsRow.holds Try.pinned (OpenSpec.ofChange modelPairsWrong)

/-- 'anvillaw24.ModelTraces': WHATEVER THE INPUT: true; the input reads as it did. -/
def modelTracesSpec : ChangeSpec := { name := "modelTraces", fn := fun _ => fun
  | [d1, d2, d3] => { results := [.lit (.bool true)], args := [d1, d2, d3] }
  | _ => none }
def modelTracesRow : OpenClaim := { program := "ytlncdkdkoamadaa", sum := "5b510e7266146a3386ac4e82fb92dbd6eab4f5df273313f54e2fef35984b9136", func := "anvil/anvillaw24.ModelTraces", spec := "modelTraces", apart := false }
def ModelTracesSaid : Prop := modelTracesRow.holds Try.pinned (OpenSpec.ofChange modelTracesSpec)

/-- ITS FALSE NEIGHBOUR: 'it returns false'. Refute it at one input. -/
def modelTracesWrong : ChangeSpec := { name := "modelTraces", fn := fun _ => fun
  | [d1, d2, d3] => { results := [.lit (.bool false)], args := [d1, d2, d3] }
  | _ => none }
def ModelTracesWrongFalsely : Prop := modelTracesRow.holds Try.pinned (OpenSpec.ofChange modelTracesWrong)

/-- 'anvillaw24.ModelKnown': WHATEVER THE INPUT: true; the input reads as it did. -/
def modelKnownSpec : ChangeSpec := { name := "modelKnown", fn := fun _ => fun
  | [] => { results := [.lit (.bool true)], args := [] }
  | _ => none }
def modelKnownRow : OpenClaim := { program := "ytlncdkdkoamadaa", sum := "5b510e7266146a3386ac4e82fb92dbd6eab4f5df273313f54e2fef35984b9136", func := "anvil/anvillaw24.ModelKnown", spec := "modelKnown", apart := false }
def ModelKnownSaid : Prop := modelKnownRow.holds Try.pinned (OpenSpec.ofChange modelKnownSpec)

/-- ITS FALSE NEIGHBOUR: 'it returns false'. Refute it at one input. -/
def modelKnownWrong : ChangeSpec := { name := "modelKnown", fn := fun _ => fun
  | [] => { results := [.lit (.bool false)], args := [] }
  | _ => none }
def ModelKnownWrongFalsely : Prop := modelKnownRow.holds Try.pinned (OpenSpec.ofChange modelKnownWrong)

/- THE SECOND FORM. 'bulk': how many values and letters a reading holds, each counted each time it is reached (what is shared counts as often as it is met; a slice's spare places count too). A statement '..UptoSaid' is the law's where the arguments, and the package variables that the reading takes, are together of bulk at most 1048576: NARROWER than '..Said'. Prove '..Said' where nothing that the law and all that it calls make is longer than what came in: it says more and counts as full. Else prove '..UptoSaid'. A law counts once. -/
mutual
def uptoBulk {H : Type} : DataW H → Nat
  | .lit (.string bytes) => bytes.length + 1
  | .lit _ => 1
  | .nil => 1
  | .ptr d => uptoBulk d + 1
  | .slice elems spare => uptoBulkAll elems + uptoBulkAll spare + 1
  | .agg parts => uptoBulkAll parts + 1
  | .iface _ d => uptoBulk d + 1
  | .map entries => uptoBulkEntries entries + 1
  | .held _ => 1
def uptoBulkAll {H : Type} : List (DataW H) → Nat
  | [] => 0
  | d :: r => uptoBulk d + uptoBulkAll r
def uptoBulkEntries {H : Type} : List (Lit × DataW H) → Nat
  | [] => 0
  | x :: r => uptoBulkEntry x + uptoBulkEntries r
def uptoBulkEntry {H : Type} : Lit × DataW H → Nat
  | (.string bytes, d) => bytes.length + uptoBulk d + 1
  | (_, d) => uptoBulk d + 1
 end
def uptoSmall : (H : Type) → List (DataW H) → Bool := fun _ ds => decide (uptoBulkAll ds ≤ 1048576)
def OpenSpec.upto (s : _root_.Go.ChangeSpec) : _root_.Go.OpenSpec := { _root_.Go.OpenSpec.ofChange s with cond := some uptoSmall }

/-- 'anvillaw24.ModelPlays', WHERE WHAT IT READS IS OF BULK AT MOST 1048576: true; the input reads as it did. -/
def modelPlaysUptoRow : OpenClaim := { program := "ytlncdkdkoamadaa", sum := "5b510e7266146a3386ac4e82fb92dbd6eab4f5df273313f54e2fef35984b9136", func := "anvil/anvillaw24.ModelPlays", spec := "modelPlays", apart := false, narrowed := true }
def ModelPlaysUptoSaid : Prop := modelPlaysUptoRow.holds Try.pinned (OpenSpec.upto modelPlaysSpec)

/-- 'anvillaw24.ModelEnds', WHERE WHAT IT READS IS OF BULK AT MOST 1048576: true; the input reads as it did. -/
def modelEndsUptoRow : OpenClaim := { program := "ytlncdkdkoamadaa", sum := "5b510e7266146a3386ac4e82fb92dbd6eab4f5df273313f54e2fef35984b9136", func := "anvil/anvillaw24.ModelEnds", spec := "modelEnds", apart := false, narrowed := true }
def ModelEndsUptoSaid : Prop := modelEndsUptoRow.holds Try.pinned (OpenSpec.upto modelEndsSpec)

/-- 'anvillaw24.ModelAll', WHERE WHAT IT READS IS OF BULK AT MOST 1048576: true; the input reads as it did. -/
def modelAllUptoRow : OpenClaim := { program := "ytlncdkdkoamadaa", sum := "5b510e7266146a3386ac4e82fb92dbd6eab4f5df273313f54e2fef35984b9136", func := "anvil/anvillaw24.ModelAll", spec := "modelAll", recurses := true, apart := false, narrowed := true }
def ModelAllUptoSaid : Prop := modelAllUptoRow.holds Try.pinned (OpenSpec.upto modelAllSpec)

/-- 'anvillaw24.ModelPairs', WHERE WHAT IT READS IS OF BULK AT MOST 1048576: true; the input reads as it did. -/
def modelPairsUptoRow : OpenClaim := { program := "ytlncdkdkoamadaa", sum := "5b510e7266146a3386ac4e82fb92dbd6eab4f5df273313f54e2fef35984b9136", func := "anvil/anvillaw24.ModelPairs", spec := "modelPairs", apart := false, narrowed := true }
def ModelPairsUptoSaid : Prop := modelPairsUptoRow.holds Try.pinned (OpenSpec.upto modelPairsSpec)

/-- 'anvillaw24.ModelTraces', WHERE WHAT IT READS IS OF BULK AT MOST 1048576: true; the input reads as it did. -/
def modelTracesUptoRow : OpenClaim := { program := "ytlncdkdkoamadaa", sum := "5b510e7266146a3386ac4e82fb92dbd6eab4f5df273313f54e2fef35984b9136", func := "anvil/anvillaw24.ModelTraces", spec := "modelTraces", apart := false, narrowed := true }
def ModelTracesUptoSaid : Prop := modelTracesUptoRow.holds Try.pinned (OpenSpec.upto modelTracesSpec)

/-- 'anvillaw24.ModelKnown', WHERE WHAT IT READS IS OF BULK AT MOST 1048576: true; the input reads as it did. -/
def modelKnownUptoRow : OpenClaim := { program := "ytlncdkdkoamadaa", sum := "5b510e7266146a3386ac4e82fb92dbd6eab4f5df273313f54e2fef35984b9136", func := "anvil/anvillaw24.ModelKnown", spec := "modelKnown", apart := false, narrowed := true }
def ModelKnownUptoSaid : Prop := modelKnownUptoRow.holds Try.pinned (OpenSpec.upto modelKnownSpec)

end Rows
end Go.Proofs.Ytlncdkdkoamadaa
