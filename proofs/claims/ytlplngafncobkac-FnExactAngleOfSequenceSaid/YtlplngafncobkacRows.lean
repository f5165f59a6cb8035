/-
  No cell of these rows narrows 'for every input' (looked for: loops, veiled, ifaces, maps, wideKeys, modest, calm, conditions, laid).
  DERIVED. THE GIVEN ROWS OF THIS SEAT. 12 by the template 'for every input the law returns true; each argument reads behind the call as it read before'; 0 by the template 'total and deterministic' (their statements: YtlplngafncobkacTotals.lean).
  GIVEN WITH THE SEED: the statements are not yours to turn. If you find one false, say at which input.
  Laid BY PROGRAM, IN A SANDBOX (cutbox-rows.mjs): the forced cells as the released guide's own fill.sh prints them over the translation f3389c6cc1b9219f… (all of the seat's roots in one cut). By AI agents, Wed Nov 11 2026. No macro, syntax, notation, axiom, sorry.
-/
import Derived.Test.YtlplngafncobkacChecked
import GoSem.Claim
import GoSem.ClaimJoined
import GoSem.ClaimMapViews
import Derived.JoinedTies
import Derived.KernelRfl
namespace Go.Proofs.Ytlplngafncobkac
/- THE CELL 'sum', in the pinned program and in every row, IS THE sha256 OF THE DUMP (.gsa) THAT YtlplngafncobkacProg.lean LOADS. Nothing in Lean hashes anything: it is a label: what it is worth is what the hold of that sum in a sandbox is worth. -/
noncomputable def Try.pinned : Pinned := { name := "ytlplngafncobkac", sum := "f3389c6cc1b9219fdfae817d9d300c0a3b1384bf6998cbbe3c1bc82baadef845", checked := Try.checked }
namespace Rows
def none {H : Type} : Left H := { results := [], args := [] }

/-- 'laws.FnExactPairMatrix': WHATEVER THE INPUT: true; the input reads as it did. -/
def fnExactPairMatrixSpec : ChangeSpec := { name := "fnExactPairMatrix", fn := fun _ => fun
  | [d] => { results := [.lit (.bool true)], args := [d] }
  | _ => none }
def fnExactPairMatrixRow : OpenClaim := { program := "ytlplngafncobkac", sum := "f3389c6cc1b9219fdfae817d9d300c0a3b1384bf6998cbbe3c1bc82baadef845", func := "loop.example/g01234/laws.FnExactPairMatrix", spec := "fnExactPairMatrix", unfollowed := true, recurses := true, apart := false }
def FnExactPairMatrixSaid : Prop := fnExactPairMatrixRow.holds Try.pinned (OpenSpec.ofChange fnExactPairMatrixSpec)

/-- ITS FALSE NEIGHBOUR: 'it returns false'. Refute it at one input. -/
def fnExactPairMatrixWrong : ChangeSpec := { name := "fnExactPairMatrix", fn := fun _ => fun
  | [d] => { results := [.lit (.bool false)], args := [d] }
  | _ => none }
def FnExactPairMatrixWrongFalsely : Prop := fnExactPairMatrixRow.holds Try.pinned (OpenSpec.ofChange fnExactPairMatrixWrong)

/-- 'laws.FnExactPathTrace': WHATEVER THE INPUT: true; the input reads as it did. -/
def fnExactPathTraceSpec : ChangeSpec := { name := "fnExactPathTrace", fn := fun _ => fun
  | [d1, d2] => { results := [.lit (.bool true)], args := [d1, d2] }
  | _ => none }
def fnExactPathTraceRow : OpenClaim := { program := "ytlplngafncobkac", sum := "f3389c6cc1b9219fdfae817d9d300c0a3b1384bf6998cbbe3c1bc82baadef845", func := "loop.example/g01234/laws.FnExactPathTrace", spec := "fnExactPathTrace", unfollowed := true, recurses := true, apart := false }
def FnExactPathTraceSaid : Prop := fnExactPathTraceRow.holds Try.pinned (OpenSpec.ofChange fnExactPathTraceSpec)

/-- ITS FALSE NEIGHBOUR: 'it returns false'. Refute it at one input. -/
def fnExactPathTraceWrong : ChangeSpec := { name := "fnExactPathTrace", fn := fun _ => fun
  | [d1, d2] => { results := [.lit (.bool false)], args := [d1, d2] }
  | _ => none }
def FnExactPathTraceWrongFalsely : Prop := fnExactPathTraceRow.holds Try.pinned (OpenSpec.ofChange fnExactPathTraceWrong)

/-- 'laws.FnExactPathCount': WHATEVER THE INPUT: true; the input reads as it did. -/
def fnExactPathCountSpec : ChangeSpec := { name := "fnExactPathCount", fn := fun _ => fun
  | [d1, d2] => { results := [.lit (.bool true)], args := [d1, d2] }
  | _ => none }
def fnExactPathCountRow : OpenClaim := { program := "ytlplngafncobkac", sum := "f3389c6cc1b9219fdfae817d9d300c0a3b1384bf6998cbbe3c1bc82baadef845", func := "loop.example/g01234/laws.FnExactPathCount", spec := "fnExactPathCount", unfollowed := true, recurses := true, apart := false }
def FnExactPathCountSaid : Prop := fnExactPathCountRow.holds Try.pinned (OpenSpec.ofChange fnExactPathCountSpec)

/-- ITS FALSE NEIGHBOUR: 'it returns false'. Refute it at one input. -/
def fnExactPathCountWrong : ChangeSpec := { name := "fnExactPathCount", fn := fun _ => fun
  | [d1, d2] => { results := [.lit (.bool false)], args := [d1, d2] }
  | _ => none }
def FnExactPathCountWrongFalsely : Prop := fnExactPathCountRow.holds Try.pinned (OpenSpec.ofChange fnExactPathCountWrong)

/-- 'laws.FnExactPairOrbit': WHATEVER THE INPUT: true; the input reads as it did. -/
def fnExactPairOrbitSpec : ChangeSpec := { name := "fnExactPairOrbit", fn := fun _ => fun
  | [d1, d2, d3, d4] => { results := [.lit (.bool true)], args := [d1, d2, d3, d4] }
  | _ => none }
def fnExactPairOrbitRow : OpenClaim := { program := "ytlplngafncobkac", sum := "f3389c6cc1b9219fdfae817d9d300c0a3b1384bf6998cbbe3c1bc82baadef845", func := "loop.example/g01234/laws.FnExactPairOrbit", spec := "fnExactPairOrbit", unfollowed := true, recurses := true, apart := false }
def FnExactPairOrbitSaid : Prop := fnExactPairOrbitRow.holds Try.pinned (OpenSpec.ofChange fnExactPairOrbitSpec)

/-- ITS FALSE NEIGHBOUR: 'it returns false'. Refute it at one input. -/
def fnExactPairOrbitWrong : ChangeSpec := { name := "fnExactPairOrbit", fn := fun _ => fun
  | [d1, d2, d3, d4] => { results := [.lit (.bool false)], args := [d1, d2, d3, d4] }
  | _ => none }
def FnExactPairOrbitWrongFalsely : Prop := fnExactPairOrbitRow.holds Try.pinned (OpenSpec.ofChange fnExactPairOrbitWrong)

/-- 'laws.FnExactGrowsFaster': WHATEVER THE INPUT: true; the input reads as it did. -/
def fnExactGrowsFasterSpec : ChangeSpec := { name := "fnExactGrowsFaster", fn := fun _ => fun
  | [d1, d2, d3] => { results := [.lit (.bool true)], args := [d1, d2, d3] }
  | _ => none }
def fnExactGrowsFasterRow : OpenClaim := { program := "ytlplngafncobkac", sum := "f3389c6cc1b9219fdfae817d9d300c0a3b1384bf6998cbbe3c1bc82baadef845", func := "loop.example/g01234/laws.FnExactGrowsFaster", spec := "fnExactGrowsFaster", unfollowed := true, recurses := true, apart := false }
def FnExactGrowsFasterSaid : Prop := fnExactGrowsFasterRow.holds Try.pinned (OpenSpec.ofChange fnExactGrowsFasterSpec)

/-- ITS FALSE NEIGHBOUR: 'it returns false'. Refute it at one input. -/
def fnExactGrowsFasterWrong : ChangeSpec := { name := "fnExactGrowsFaster", fn := fun _ => fun
  | [d1, d2, d3] => { results := [.lit (.bool false)], args := [d1, d2, d3] }
  | _ => none }
def FnExactGrowsFasterWrongFalsely : Prop := fnExactGrowsFasterRow.holds Try.pinned (OpenSpec.ofChange fnExactGrowsFasterWrong)

/-- 'laws.FnExactPairPolynomial': WHATEVER THE INPUT: true; the input reads as it did. -/
def fnExactPairPolynomialSpec : ChangeSpec := { name := "fnExactPairPolynomial", fn := fun _ => fun
  | [d] => { results := [.lit (.bool true)], args := [d] }
  | _ => none }
def fnExactPairPolynomialRow : OpenClaim := { program := "ytlplngafncobkac", sum := "f3389c6cc1b9219fdfae817d9d300c0a3b1384bf6998cbbe3c1bc82baadef845", func := "loop.example/g01234/laws.FnExactPairPolynomial", spec := "fnExactPairPolynomial", unfollowed := true, recurses := true, apart := false }
def FnExactPairPolynomialSaid : Prop := fnExactPairPolynomialRow.holds Try.pinned (OpenSpec.ofChange fnExactPairPolynomialSpec)

/-- ITS FALSE NEIGHBOUR: 'it returns false'. Refute it at one input. -/
def fnExactPairPolynomialWrong : ChangeSpec := { name := "fnExactPairPolynomial", fn := fun _ => fun
  | [d] => { results := [.lit (.bool false)], args := [d] }
  | _ => none }
def FnExactPairPolynomialWrongFalsely : Prop := fnExactPairPolynomialRow.holds Try.pinned (OpenSpec.ofChange fnExactPairPolynomialWrong)

/-- 'laws.FnCharacteristics': WHATEVER THE INPUT: true; the input reads as it did. -/
def fnCharacteristicsSpec : ChangeSpec := { name := "fnCharacteristics", fn := fun _ => fun
  | [d] => { results := [.lit (.bool true)], args := [d] }
  | _ => none }
def fnCharacteristicsRow : OpenClaim := { program := "ytlplngafncobkac", sum := "f3389c6cc1b9219fdfae817d9d300c0a3b1384bf6998cbbe3c1bc82baadef845", func := "loop.example/g01234/laws.FnCharacteristics", spec := "fnCharacteristics", unfollowed := true, recurses := true, apart := false }
def FnCharacteristicsSaid : Prop := fnCharacteristicsRow.holds Try.pinned (OpenSpec.ofChange fnCharacteristicsSpec)

/-- ITS FALSE NEIGHBOUR: 'it returns false'. Refute it at one input. -/
def fnCharacteristicsWrong : ChangeSpec := { name := "fnCharacteristics", fn := fun _ => fun
  | [d] => { results := [.lit (.bool false)], args := [d] }
  | _ => none }
def FnCharacteristicsWrongFalsely : Prop := fnCharacteristicsRow.holds Try.pinned (OpenSpec.ofChange fnCharacteristicsWrong)

/-- 'laws.FnPairMatrices': WHATEVER THE INPUT: true; the input reads as it did. -/
def fnPairMatricesSpec : ChangeSpec := { name := "fnPairMatrices", fn := fun _ => fun
  | [d] => { results := [.lit (.bool true)], args := [d] }
  | _ => none }
def fnPairMatricesRow : OpenClaim := { program := "ytlplngafncobkac", sum := "f3389c6cc1b9219fdfae817d9d300c0a3b1384bf6998cbbe3c1bc82baadef845", func := "loop.example/g01234/laws.FnPairMatrices", spec := "fnPairMatrices", unfollowed := true, recurses := true, apart := false }
def FnPairMatricesSaid : Prop := fnPairMatricesRow.holds Try.pinned (OpenSpec.ofChange fnPairMatricesSpec)

/-- ITS FALSE NEIGHBOUR: 'it returns false'. Refute it at one input. -/
def fnPairMatricesWrong : ChangeSpec := { name := "fnPairMatrices", fn := fun _ => fun
  | [d] => { results := [.lit (.bool false)], args := [d] }
  | _ => none }
def FnPairMatricesWrongFalsely : Prop := fnPairMatricesRow.holds Try.pinned (OpenSpec.ofChange fnPairMatricesWrong)

/-- 'laws.FnExactItineraryOf': WHATEVER THE INPUT: true; the input reads as it did. -/
def fnExactItineraryOfSpec : ChangeSpec := { name := "fnExactItineraryOf", fn := fun _ => fun
  | [d1, d2] => { results := [.lit (.bool true)], args := [d1, d2] }
  | _ => none }
def fnExactItineraryOfRow : OpenClaim := { program := "ytlplngafncobkac", sum := "f3389c6cc1b9219fdfae817d9d300c0a3b1384bf6998cbbe3c1bc82baadef845", func := "loop.example/g01234/laws.FnExactItineraryOf", spec := "fnExactItineraryOf", inPlace := ["internal/abi.NoEscape", "internal/bytealg.MakeNoZero"], unfollowed := true, recurses := true, apart := false }
def FnExactItineraryOfSaid : Prop := fnExactItineraryOfRow.holds Try.pinned (OpenSpec.ofChange fnExactItineraryOfSpec)

/-- ITS FALSE NEIGHBOUR: 'it returns false'. Refute it at one input. -/
def fnExactItineraryOfWrong : ChangeSpec := { name := "fnExactItineraryOf", fn := fun _ => fun
  | [d1, d2] => { results := [.lit (.bool false)], args := [d1, d2] }
  | _ => none }
def FnExactItineraryOfWrongFalsely : Prop := fnExactItineraryOfRow.holds Try.pinned (OpenSpec.ofChange fnExactItineraryOfWrong)

/-- 'laws.FnExactKneadingOf': WHATEVER THE INPUT: true; the input reads as it did. -/
def fnExactKneadingOfSpec : ChangeSpec := { name := "fnExactKneadingOf", fn := fun _ => fun
  | [d] => { results := [.lit (.bool true)], args := [d] }
  | _ => none }
def fnExactKneadingOfRow : OpenClaim := { program := "ytlplngafncobkac", sum := "f3389c6cc1b9219fdfae817d9d300c0a3b1384bf6998cbbe3c1bc82baadef845", func := "loop.example/g01234/laws.FnExactKneadingOf", spec := "fnExactKneadingOf", inPlace := ["internal/abi.NoEscape", "internal/bytealg.MakeNoZero"], unfollowed := true, recurses := true, apart := false }
def FnExactKneadingOfSaid : Prop := fnExactKneadingOfRow.holds Try.pinned (OpenSpec.ofChange fnExactKneadingOfSpec)

/-- ITS FALSE NEIGHBOUR: 'it returns false'. Refute it at one input. -/
def fnExactKneadingOfWrong : ChangeSpec := { name := "fnExactKneadingOf", fn := fun _ => fun
  | [d] => { results := [.lit (.bool false)], args := [d] }
  | _ => none }
def FnExactKneadingOfWrongFalsely : Prop := fnExactKneadingOfRow.holds Try.pinned (OpenSpec.ofChange fnExactKneadingOfWrong)

/-- 'laws.FnExactExpansionOf': WHATEVER THE INPUT: true; the input reads as it did. -/
def fnExactExpansionOfSpec : ChangeSpec := { name := "fnExactExpansionOf", fn := fun _ => fun
  | [d] => { results := [.lit (.bool true)], args := [d] }
  | _ => none }
def fnExactExpansionOfRow : OpenClaim := { program := "ytlplngafncobkac", sum := "f3389c6cc1b9219fdfae817d9d300c0a3b1384bf6998cbbe3c1bc82baadef845", func := "loop.example/g01234/laws.FnExactExpansionOf", spec := "fnExactExpansionOf", inPlace := ["internal/abi.NoEscape", "internal/bytealg.MakeNoZero"], unfollowed := true, recurses := true, apart := false }
def FnExactExpansionOfSaid : Prop := fnExactExpansionOfRow.holds Try.pinned (OpenSpec.ofChange fnExactExpansionOfSpec)

/-- ITS FALSE NEIGHBOUR: 'it returns false'. Refute it at one input. -/
def fnExactExpansionOfWrong : ChangeSpec := { name := "fnExactExpansionOf", fn := fun _ => fun
  | [d] => { results := [.lit (.bool false)], args := [d] }
  | _ => none }
def FnExactExpansionOfWrongFalsely : Prop := fnExactExpansionOfRow.holds Try.pinned (OpenSpec.ofChange fnExactExpansionOfWrong)

/-- 'laws.FnExactAngleOfSequence': WHATEVER THE INPUT: true; the input reads as it did. -/
def fnExactAngleOfSequenceSpec : ChangeSpec := { name := "fnExactAngleOfSequence", fn := fun _ => fun
  | [d] => { results := [.lit (.bool true)], args := [d] }
  | _ => none }
def fnExactAngleOfSequenceRow : OpenClaim := { program := "ytlplngafncobkac", sum := "f3389c6cc1b9219fdfae817d9d300c0a3b1384bf6998cbbe3c1bc82baadef845", func := "loop.example/g01234/laws.FnExactAngleOfSequence", spec := "fnExactAngleOfSequence", inPlace := ["internal/abi.NoEscape", "internal/bytealg.MakeNoZero", "internal/bytealg.IndexByteString", "internal/bytealg.IndexString"], unfollowed := true, recurses := true, named := ["internal/bytealg.MaxLen"], apart := false }
def FnExactAngleOfSequenceSaid : Prop := fnExactAngleOfSequenceRow.holds Try.pinned (OpenSpec.ofChange fnExactAngleOfSequenceSpec)

/-- ITS FALSE NEIGHBOUR: 'it returns false'. Refute it at one input. -/
def fnExactAngleOfSequenceWrong : ChangeSpec := { name := "fnExactAngleOfSequence", fn := fun _ => fun
  | [d] => { results := [.lit (.bool false)], args := [d] }
  | _ => none }
def FnExactAngleOfSequenceWrongFalsely : Prop := fnExactAngleOfSequenceRow.holds Try.pinned (OpenSpec.ofChange fnExactAngleOfSequenceWrong)

/- THE SECOND FORM. 'bulk': how many values and letters a reading holds, each counted each time it is reached (what is shared counts as often as it is met; a slice's spare places count too). A statement '..UptoSaid' is the law's where the arguments, and the package variables that the reading takes, are together of bulk at most 1048576: NARROWER than '..Said'. Prove '..Said' where nothing that the law and all that it calls make is longer than what came in: it says more and counts as full. Else prove '..UptoSaid'. A law counts once. -/
mutual
def uptoBulk {H : Type} : DataW H → Nat
  | .lit (.string bytes) => bytes.length + 1
  | .lit _ => 1
  | .nil => 1
  | .ptr d => uptoBulk d + 1
  | .slice elems spare => uptoBulkAll elems + uptoBulkAll spare + 1
  | .agg parts => uptoBulkAll parts + 1
  | .iface _ d => uptoBulk d + 1
  | .map entries => uptoBulkEntries entries + 1
  | .held _ => 1
def uptoBulkAll {H : Type} : List (DataW H) → Nat
  | [] => 0
  | d :: r => uptoBulk d + uptoBulkAll r
def uptoBulkEntries {H : Type} : List (Lit × DataW H) → Nat
  | [] => 0
  | x :: r => uptoBulkEntry x + uptoBulkEntries r
def uptoBulkEntry {H : Type} : Lit × DataW H → Nat
  | (.string bytes, d) => bytes.length + uptoBulk d + 1
  | (_, d) => uptoBulk d + 1
 end
def uptoSmall : (H : Type) → List (DataW H) → Bool := fun _ ds => decide (uptoBulkAll ds ≤ 1048576)
def OpenSpec.upto (s : _root_.Go.ChangeSpec) : _root_.Go.OpenSpec := { _root_.Go.OpenSpec.ofChange s with cond := some uptoSmall }

/-- 'laws.FnExactPairMatrix', WHERE WHAT IT READS IS OF BULK AT MOST 1048576: true; the input reads as it did. -/
def fnExactPairMatrixUptoRow : OpenClaim := { program := "ytlplngafncobkac", sum := "f3389c6cc1b9219fdfae817d9d300c0a3b1384bf6998cbbe3c1bc82baadef845", func := "loop.example/g01234/laws.FnExactPairMatrix", spec := "fnExactPairMatrix", unfollowed := true, recurses := true, apart := false, narrowed := true }
def FnExactPairMatrixUptoSaid : Prop := fnExactPairMatrixUptoRow.holds Try.pinned (OpenSpec.upto fnExactPairMatrixSpec)

/-- 'laws.FnExactPathTrace', WHERE WHAT IT READS IS OF BULK AT MOST 1048576: true; the input reads as it did. -/
def fnExactPathTraceUptoRow : OpenClaim := { program := "ytlplngafncobkac", sum := "f3389c6cc1b9219fdfae817d9d300c0a3b1384bf6998cbbe3c1bc82baadef845", func := "loop.example/g01234/laws.FnExactPathTrace", spec := "fnExactPathTrace", unfollowed := true, recurses := true, apart := false, narrowed := true }
def FnExactPathTraceUptoSaid : Prop := fnExactPathTraceUptoRow.holds Try.pinned (OpenSpec.upto fnExactPathTraceSpec)

/-- 'laws.FnExactPathCount', WHERE WHAT IT READS IS OF BULK AT MOST 1048576: true; the input reads as it did. -/
def fnExactPathCountUptoRow : OpenClaim := { program := "ytlplngafncobkac", sum := "f3389c6cc1b9219fdfae817d9d300c0a3b1384bf6998cbbe3c1bc82baadef845", func := "loop.example/g01234/laws.FnExactPathCount", spec := "fnExactPathCount", unfollowed := true, recurses := true, apart := false, narrowed := true }
def FnExactPathCountUptoSaid : Prop := fnExactPathCountUptoRow.holds Try.pinned (OpenSpec.upto fnExactPathCountSpec)

/-- 'laws.FnExactPairOrbit', WHERE WHAT IT READS IS OF BULK AT MOST 1048576: true; the input reads as it did. -/
def fnExactPairOrbitUptoRow : OpenClaim := { program := "ytlplngafncobkac", sum := "f3389c6cc1b9219fdfae817d9d300c0a3b1384bf6998cbbe3c1bc82baadef845", func := "loop.example/g01234/laws.FnExactPairOrbit", spec := "fnExactPairOrbit", unfollowed := true, recurses := true, apart := false, narrowed := true }
def FnExactPairOrbitUptoSaid : Prop := fnExactPairOrbitUptoRow.holds Try.pinned (OpenSpec.upto fnExactPairOrbitSpec)

/-- 'laws.FnExactGrowsFaster', WHERE WHAT IT READS IS OF BULK AT MOST 1048576: true; the input reads as it did. -/
def fnExactGrowsFasterUptoRow : OpenClaim := { program := "ytlplngafncobkac", sum := "f3389c6cc1b9219fdfae817d9d300c0a3b1384bf6998cbbe3c1bc82baadef845", func := "loop.example/g01234/laws.FnExactGrowsFaster", spec := "fnExactGrowsFaster", unfollowed := true, recurses := true, apart := false, narrowed := true }
def FnExactGrowsFasterUptoSaid : Prop := fnExactGrowsFasterUptoRow.holds Try.pinned (OpenSpec.upto fnExactGrowsFasterSpec)

/-- 'laws.FnExactPairPolynomial', WHERE WHAT IT READS IS OF BULK AT MOST 1048576: true; the input reads as it did. -/
def fnExactPairPolynomialUptoRow : OpenClaim := { program := "ytlplngafncobkac", sum := "f3389c6cc1b9219fdfae817d9d300c0a3b1384bf6998cbbe3c1bc82baadef845", func := "loop.example/g01234/laws.FnExactPairPolynomial", spec := "fnExactPairPolynomial", unfollowed := true, recurses := true, apart := false, narrowed := true }
def FnExactPairPolynomialUptoSaid : Prop := fnExactPairPolynomialUptoRow.holds Try.pinned (OpenSpec.upto fnExactPairPolynomialSpec)

/-- 'laws.FnCharacteristics', WHERE WHAT IT READS IS OF BULK AT MOST 1048576: true; the input reads as it did. -/
def fnCharacteristicsUptoRow : OpenClaim := { program := "ytlplngafncobkac", sum := "f3389c6cc1b9219fdfae817d9d300c0a3b1384bf6998cbbe3c1bc82baadef845", func := "loop.example/g01234/laws.FnCharacteristics", spec := "fnCharacteristics", unfollowed := true, recurses := true, apart := false, narrowed := true }
def FnCharacteristicsUptoSaid : Prop := fnCharacteristicsUptoRow.holds Try.pinned (OpenSpec.upto fnCharacteristicsSpec)

/-- 'laws.FnPairMatrices', WHERE WHAT IT READS IS OF BULK AT MOST 1048576: true; the input reads as it did. -/
def fnPairMatricesUptoRow : OpenClaim := { program := "ytlplngafncobkac", sum := "f3389c6cc1b9219fdfae817d9d300c0a3b1384bf6998cbbe3c1bc82baadef845", func := "loop.example/g01234/laws.FnPairMatrices", spec := "fnPairMatrices", unfollowed := true, recurses := true, apart := false, narrowed := true }
def FnPairMatricesUptoSaid : Prop := fnPairMatricesUptoRow.holds Try.pinned (OpenSpec.upto fnPairMatricesSpec)

/-- 'laws.FnExactItineraryOf', WHERE WHAT IT READS IS OF BULK AT MOST 1048576: true; the input reads as it did. -/
def fnExactItineraryOfUptoRow : OpenClaim := { program := "ytlplngafncobkac", sum := "f3389c6cc1b9219fdfae817d9d300c0a3b1384bf6998cbbe3c1bc82baadef845", func := "loop.example/g01234/laws.FnExactItineraryOf", spec := "fnExactItineraryOf", inPlace := ["internal/abi.NoEscape", "internal/bytealg.MakeNoZero"], unfollowed := true, recurses := true, apart := false, narrowed := true }
def FnExactItineraryOfUptoSaid : Prop := fnExactItineraryOfUptoRow.holds Try.pinned (OpenSpec.upto fnExactItineraryOfSpec)

/-- 'laws.FnExactKneadingOf', WHERE WHAT IT READS IS OF BULK AT MOST 1048576: true; the input reads as it did. -/
def fnExactKneadingOfUptoRow : OpenClaim := { program := "ytlplngafncobkac", sum := "f3389c6cc1b9219fdfae817d9d300c0a3b1384bf6998cbbe3c1bc82baadef845", func := "loop.example/g01234/laws.FnExactKneadingOf", spec := "fnExactKneadingOf", inPlace := ["internal/abi.NoEscape", "internal/bytealg.MakeNoZero"], unfollowed := true, recurses := true, apart := false, narrowed := true }
def FnExactKneadingOfUptoSaid : Prop := fnExactKneadingOfUptoRow.holds Try.pinned (OpenSpec.upto fnExactKneadingOfSpec)

/-- 'laws.FnExactExpansionOf', WHERE WHAT IT READS IS OF BULK AT MOST 1048576: true; the input reads as it did. -/
def fnExactExpansionOfUptoRow : OpenClaim := { program := "ytlplngafncobkac", sum := "f3389c6cc1b9219fdfae817d9d300c0a3b1384bf6998cbbe3c1bc82baadef845", func := "loop.example/g01234/laws.FnExactExpansionOf", spec := "fnExactExpansionOf", inPlace := ["internal/abi.NoEscape", "internal/bytealg.MakeNoZero"], unfollowed := true, recurses := true, apart := false, narrowed := true }
def FnExactExpansionOfUptoSaid : Prop := fnExactExpansionOfUptoRow.holds Try.pinned (OpenSpec.upto fnExactExpansionOfSpec)

/-- 'laws.FnExactAngleOfSequence', WHERE WHAT IT READS IS OF BULK AT MOST 1048576: true; the input reads as it did. -/
def fnExactAngleOfSequenceUptoRow : OpenClaim := { program := "ytlplngafncobkac", sum := "f3389c6cc1b9219fdfae817d9d300c0a3b1384bf6998cbbe3c1bc82baadef845", func := "loop.example/g01234/laws.FnExactAngleOfSequence", spec := "fnExactAngleOfSequence", inPlace := ["internal/abi.NoEscape", "internal/bytealg.MakeNoZero", "internal/bytealg.IndexByteString", "internal/bytealg.IndexString"], unfollowed := true, recurses := true, named := ["internal/bytealg.MaxLen"], apart := false, narrowed := true }
def FnExactAngleOfSequenceUptoSaid : Prop := fnExactAngleOfSequenceUptoRow.holds Try.pinned (OpenSpec.upto fnExactAngleOfSequenceSpec)

end Rows
end Go.Proofs.Ytlplngafncobkac
