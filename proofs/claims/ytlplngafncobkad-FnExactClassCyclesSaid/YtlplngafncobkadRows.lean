/-
  No cell of these rows narrows 'for every input' (looked for: loops, veiled, ifaces, maps, wideKeys, modest, calm, conditions, laid).
  DERIVED. THE GIVEN ROWS OF THIS SEAT. 10 by the template 'for every input the law returns true; each argument reads behind the call as it read before'; 0 by the template 'total and deterministic' (their statements: YtlplngafncobkadTotals.lean).
  GIVEN WITH THE SEED: the statements are not yours to turn. If you find one false, say at which input.
  Laid BY PROGRAM, IN A SANDBOX (cutbox-rows.mjs): the forced cells as the released guide's own fill.sh prints them over the translation 56730010fe261fe6… (all of the seat's roots in one cut). By AI agents, Wed Nov 11 2026. No macro, syntax, notation, axiom, sorry.
-/
import Derived.Test.YtlplngafncobkadChecked
import GoSem.Claim
import GoSem.ClaimJoined
import GoSem.ClaimMapViews
import Derived.JoinedTies
import Derived.KernelRfl
namespace Go.Proofs.Ytlplngafncobkad
/- THE CELL 'sum', in the pinned program and in every row, IS THE sha256 OF THE DUMP (.gsa) THAT YtlplngafncobkadProg.lean LOADS. Nothing in Lean hashes anything: it is a label: what it is worth is what the hold of that sum in a sandbox is worth. -/
noncomputable def Try.pinned : Pinned := { name := "ytlplngafncobkad", sum := "56730010fe261fe6cfa439fb056a280d8d258d0948e306cf16a6ff3a3f7f531d", checked := Try.checked }
namespace Rows
def none {H : Type} : Left H := { results := [], args := [] }

/-- 'laws.FnExactSequenceText': WHATEVER THE INPUT: true; the input reads as it did. -/
def fnExactSequenceTextSpec : ChangeSpec := { name := "fnExactSequenceText", fn := fun _ => fun
  | [d] => { results := [.lit (.bool true)], args := [d] }
  | _ => none }
def fnExactSequenceTextRow : OpenClaim := { program := "ytlplngafncobkad", sum := "56730010fe261fe6cfa439fb056a280d8d258d0948e306cf16a6ff3a3f7f531d", func := "loop.example/g01234/laws.FnExactSequenceText", spec := "fnExactSequenceText", inPlace := ["internal/abi.NoEscape", "internal/bytealg.MakeNoZero"], unfollowed := true, recurses := true, plainKeys := false, apart := false }
def FnExactSequenceTextSaid : Prop := fnExactSequenceTextRow.holds Try.pinned (OpenSpec.ofChange fnExactSequenceTextSpec)

/-- ITS FALSE NEIGHBOUR: 'it returns false'. Refute it at one input. -/
def fnExactSequenceTextWrong : ChangeSpec := { name := "fnExactSequenceText", fn := fun _ => fun
  | [d] => { results := [.lit (.bool false)], args := [d] }
  | _ => none }
def FnExactSequenceTextWrongFalsely : Prop := fnExactSequenceTextRow.holds Try.pinned (OpenSpec.ofChange fnExactSequenceTextWrong)

/-- 'laws.FnExactIsDesk': WHATEVER THE INPUT: true; the input reads as it did. -/
def fnExactIsDeskSpec : ChangeSpec := { name := "fnExactIsDesk", fn := fun _ => fun
  | [d] => { results := [.lit (.bool true)], args := [d] }
  | _ => none }
def fnExactIsDeskRow : OpenClaim := { program := "ytlplngafncobkad", sum := "56730010fe261fe6cfa439fb056a280d8d258d0948e306cf16a6ff3a3f7f531d", func := "loop.example/g01234/laws.FnExactIsDesk", spec := "fnExactIsDesk", inPlace := ["internal/abi.NoEscape", "internal/bytealg.MakeNoZero"], unfollowed := true, recurses := true, plainKeys := false, apart := false }
def FnExactIsDeskSaid : Prop := fnExactIsDeskRow.holds Try.pinned (OpenSpec.ofChange fnExactIsDeskSpec)

/-- ITS FALSE NEIGHBOUR: 'it returns false'. Refute it at one input. -/
def fnExactIsDeskWrong : ChangeSpec := { name := "fnExactIsDesk", fn := fun _ => fun
  | [d] => { results := [.lit (.bool false)], args := [d] }
  | _ => none }
def FnExactIsDeskWrongFalsely : Prop := fnExactIsDeskRow.holds Try.pinned (OpenSpec.ofChange fnExactIsDeskWrong)

/-- 'laws.FnExactParseSequence': WHATEVER THE INPUT: true; the input reads as it did. -/
def fnExactParseSequenceSpec : ChangeSpec := { name := "fnExactParseSequence", fn := fun _ => fun
  | [d] => { results := [.lit (.bool true)], args := [d] }
  | _ => none }
def fnExactParseSequenceRow : OpenClaim := { program := "ytlplngafncobkad", sum := "56730010fe261fe6cfa439fb056a280d8d258d0948e306cf16a6ff3a3f7f531d", func := "loop.example/g01234/laws.FnExactParseSequence", spec := "fnExactParseSequence", inPlace := ["internal/bytealg.IndexByteString", "internal/bytealg.IndexString", "internal/abi.NoEscape", "internal/bytealg.MakeNoZero"], unfollowed := true, recurses := true, named := ["internal/bytealg.MaxLen"], plainKeys := false, apart := false }
def FnExactParseSequenceSaid : Prop := fnExactParseSequenceRow.holds Try.pinned (OpenSpec.ofChange fnExactParseSequenceSpec)

/-- ITS FALSE NEIGHBOUR: 'it returns false'. Refute it at one input. -/
def fnExactParseSequenceWrong : ChangeSpec := { name := "fnExactParseSequence", fn := fun _ => fun
  | [d] => { results := [.lit (.bool false)], args := [d] }
  | _ => none }
def FnExactParseSequenceWrongFalsely : Prop := fnExactParseSequenceRow.holds Try.pinned (OpenSpec.ofChange fnExactParseSequenceWrong)

/-- 'laws.FnExactAreJoined': WHATEVER THE INPUT: true; the input reads as it did. -/
def fnExactAreJoinedSpec : ChangeSpec := { name := "fnExactAreJoined", fn := fun _ => fun
  | [d1, d2, d3, d4, d5] => { results := [.lit (.bool true)], args := [d1, d2, d3, d4, d5] }
  | _ => none }
def fnExactAreJoinedRow : OpenClaim := { program := "ytlplngafncobkad", sum := "56730010fe261fe6cfa439fb056a280d8d258d0948e306cf16a6ff3a3f7f531d", func := "loop.example/g01234/laws.FnExactAreJoined", spec := "fnExactAreJoined", inPlace := ["internal/abi.NoEscape", "internal/bytealg.MakeNoZero"], unfollowed := true, recurses := true, plainKeys := false, apart := false }
def FnExactAreJoinedSaid : Prop := fnExactAreJoinedRow.holds Try.pinned (OpenSpec.ofChange fnExactAreJoinedSpec)

/-- ITS FALSE NEIGHBOUR: 'it returns false'. Refute it at one input. -/
def fnExactAreJoinedWrong : ChangeSpec := { name := "fnExactAreJoined", fn := fun _ => fun
  | [d1, d2, d3, d4, d5] => { results := [.lit (.bool false)], args := [d1, d2, d3, d4, d5] }
  | _ => none }
def FnExactAreJoinedWrongFalsely : Prop := fnExactAreJoinedRow.holds Try.pinned (OpenSpec.ofChange fnExactAreJoinedWrong)

/-- 'laws.FnExactLargestClass': WHATEVER THE INPUT: true; the input reads as it did. -/
def fnExactLargestClassSpec : ChangeSpec := { name := "fnExactLargestClass", fn := fun _ => fun
  | [d1, d2, d3] => { results := [.lit (.bool true)], args := [d1, d2, d3] }
  | _ => none }
def fnExactLargestClassRow : OpenClaim := { program := "ytlplngafncobkad", sum := "56730010fe261fe6cfa439fb056a280d8d258d0948e306cf16a6ff3a3f7f531d", func := "loop.example/g01234/laws.FnExactLargestClass", spec := "fnExactLargestClass", inPlace := ["internal/abi.NoEscape", "internal/bytealg.MakeNoZero"], unfollowed := true, recurses := true, plainKeys := false, apart := false }
def FnExactLargestClassSaid : Prop := fnExactLargestClassRow.holds Try.pinned (OpenSpec.ofChange fnExactLargestClassSpec)

/-- ITS FALSE NEIGHBOUR: 'it returns false'. Refute it at one input. -/
def fnExactLargestClassWrong : ChangeSpec := { name := "fnExactLargestClass", fn := fun _ => fun
  | [d1, d2, d3] => { results := [.lit (.bool false)], args := [d1, d2, d3] }
  | _ => none }
def FnExactLargestClassWrongFalsely : Prop := fnExactLargestClassRow.holds Try.pinned (OpenSpec.ofChange fnExactLargestClassWrong)

/-- 'laws.FnExactClassImages': WHATEVER THE INPUT: true; the input reads as it did. -/
def fnExactClassImagesSpec : ChangeSpec := { name := "fnExactClassImages", fn := fun _ => fun
  | [d1, d2] => { results := [.lit (.bool true)], args := [d1, d2] }
  | _ => none }
def fnExactClassImagesRow : OpenClaim := { program := "ytlplngafncobkad", sum := "56730010fe261fe6cfa439fb056a280d8d258d0948e306cf16a6ff3a3f7f531d", func := "loop.example/g01234/laws.FnExactClassImages", spec := "fnExactClassImages", inPlace := ["internal/abi.NoEscape", "internal/bytealg.MakeNoZero"], unfollowed := true, recurses := true, plainKeys := false, apart := false }
def FnExactClassImagesSaid : Prop := fnExactClassImagesRow.holds Try.pinned (OpenSpec.ofChange fnExactClassImagesSpec)

/-- ITS FALSE NEIGHBOUR: 'it returns false'. Refute it at one input. -/
def fnExactClassImagesWrong : ChangeSpec := { name := "fnExactClassImages", fn := fun _ => fun
  | [d1, d2] => { results := [.lit (.bool false)], args := [d1, d2] }
  | _ => none }
def FnExactClassImagesWrongFalsely : Prop := fnExactClassImagesRow.holds Try.pinned (OpenSpec.ofChange fnExactClassImagesWrong)

/-- 'laws.FnExactClassesOf': WHATEVER THE INPUT: true; the input reads as it did. -/
def fnExactClassesOfSpec : ChangeSpec := { name := "fnExactClassesOf", fn := fun _ => fun
  | [d1, d2] => { results := [.lit (.bool true)], args := [d1, d2] }
  | _ => none }
def fnExactClassesOfRow : OpenClaim := { program := "ytlplngafncobkad", sum := "56730010fe261fe6cfa439fb056a280d8d258d0948e306cf16a6ff3a3f7f531d", func := "loop.example/g01234/laws.FnExactClassesOf", spec := "fnExactClassesOf", inPlace := ["internal/abi.NoEscape", "internal/bytealg.MakeNoZero"], unfollowed := true, recurses := true, plainKeys := false, apart := false }
def FnExactClassesOfSaid : Prop := fnExactClassesOfRow.holds Try.pinned (OpenSpec.ofChange fnExactClassesOfSpec)

/-- ITS FALSE NEIGHBOUR: 'it returns false'. Refute it at one input. -/
def fnExactClassesOfWrong : ChangeSpec := { name := "fnExactClassesOf", fn := fun _ => fun
  | [d1, d2] => { results := [.lit (.bool false)], args := [d1, d2] }
  | _ => none }
def FnExactClassesOfWrongFalsely : Prop := fnExactClassesOfRow.holds Try.pinned (OpenSpec.ofChange fnExactClassesOfWrong)

/-- 'laws.FnExactJoinedClasses': WHATEVER THE INPUT: true; the input reads as it did. -/
def fnExactJoinedClassesSpec : ChangeSpec := { name := "fnExactJoinedClasses", fn := fun _ => fun
  | [d1, d2, d3] => { results := [.lit (.bool true)], args := [d1, d2, d3] }
  | _ => none }
def fnExactJoinedClassesRow : OpenClaim := { program := "ytlplngafncobkad", sum := "56730010fe261fe6cfa439fb056a280d8d258d0948e306cf16a6ff3a3f7f531d", func := "loop.example/g01234/laws.FnExactJoinedClasses", spec := "fnExactJoinedClasses", inPlace := ["internal/abi.NoEscape", "internal/bytealg.MakeNoZero"], unfollowed := true, recurses := true, plainKeys := false, apart := false }
def FnExactJoinedClassesSaid : Prop := fnExactJoinedClassesRow.holds Try.pinned (OpenSpec.ofChange fnExactJoinedClassesSpec)

/-- ITS FALSE NEIGHBOUR: 'it returns false'. Refute it at one input. -/
def fnExactJoinedClassesWrong : ChangeSpec := { name := "fnExactJoinedClasses", fn := fun _ => fun
  | [d1, d2, d3] => { results := [.lit (.bool false)], args := [d1, d2, d3] }
  | _ => none }
def FnExactJoinedClassesWrongFalsely : Prop := fnExactJoinedClassesRow.holds Try.pinned (OpenSpec.ofChange fnExactJoinedClassesWrong)

/-- 'laws.FnExactClassCycles': WHATEVER THE INPUT: true; the input reads as it did. -/
def fnExactClassCyclesSpec : ChangeSpec := { name := "fnExactClassCycles", fn := fun _ => fun
  | [d1, d2] => { results := [.lit (.bool true)], args := [d1, d2] }
  | _ => none }
def fnExactClassCyclesRow : OpenClaim := { program := "ytlplngafncobkad", sum := "56730010fe261fe6cfa439fb056a280d8d258d0948e306cf16a6ff3a3f7f531d", func := "loop.example/g01234/laws.FnExactClassCycles", spec := "fnExactClassCycles", inPlace := ["internal/abi.NoEscape", "internal/bytealg.MakeNoZero"], unfollowed := true, recurses := true, plainKeys := false, apart := false }
def FnExactClassCyclesSaid : Prop := fnExactClassCyclesRow.holds Try.pinned (OpenSpec.ofChange fnExactClassCyclesSpec)

/-- ITS FALSE NEIGHBOUR: 'it returns false'. Refute it at one input. -/
def fnExactClassCyclesWrong : ChangeSpec := { name := "fnExactClassCycles", fn := fun _ => fun
  | [d1, d2] => { results := [.lit (.bool false)], args := [d1, d2] }
  | _ => none }
def FnExactClassCyclesWrongFalsely : Prop := fnExactClassCyclesRow.holds Try.pinned (OpenSpec.ofChange fnExactClassCyclesWrong)

/-- 'laws.FnClasses': WHATEVER THE INPUT: true; the input reads as it did. -/
def fnClassesSpec : ChangeSpec := { name := "fnClasses", fn := fun _ => fun
  | [d] => { results := [.lit (.bool true)], args := [d] }
  | _ => none }
def fnClassesRow : OpenClaim := { program := "ytlplngafncobkad", sum := "56730010fe261fe6cfa439fb056a280d8d258d0948e306cf16a6ff3a3f7f531d", func := "loop.example/g01234/laws.FnClasses", spec := "fnClasses", inPlace := ["internal/abi.NoEscape", "internal/bytealg.MakeNoZero"], unfollowed := true, recurses := true, plainKeys := false, apart := false }
def FnClassesSaid : Prop := fnClassesRow.holds Try.pinned (OpenSpec.ofChange fnClassesSpec)

/-- ITS FALSE NEIGHBOUR: 'it returns false'. Refute it at one input. -/
def fnClassesWrong : ChangeSpec := { name := "fnClasses", fn := fun _ => fun
  | [d] => { results := [.lit (.bool false)], args := [d] }
  | _ => none }
def FnClassesWrongFalsely : Prop := fnClassesRow.holds Try.pinned (OpenSpec.ofChange fnClassesWrong)

/- THE SECOND FORM. 'bulk': how many values and letters a reading holds, each counted each time it is reached (what is shared counts as often as it is met; a slice's spare places count too). A statement '..UptoSaid' is the law's where the arguments, and the package variables that the reading takes, are together of bulk at most 1048576: NARROWER than '..Said'. Prove '..Said' where nothing that the law and all that it calls make is longer than what came in: it says more and counts as full. Else prove '..UptoSaid'. A law counts once. -/
mutual
def uptoBulk {H : Type} : DataW H → Nat
  | .lit (.string bytes) => bytes.length + 1
  | .lit _ => 1
  | .nil => 1
  | .ptr d => uptoBulk d + 1
  | .slice elems spare => uptoBulkAll elems + uptoBulkAll spare + 1
  | .agg parts => uptoBulkAll parts + 1
  | .iface _ d => uptoBulk d + 1
  | .map entries => uptoBulkEntries entries + 1
  | .held _ => 1
def uptoBulkAll {H : Type} : List (DataW H) → Nat
  | [] => 0
  | d :: r => uptoBulk d + uptoBulkAll r
def uptoBulkEntries {H : Type} : List (Lit × DataW H) → Nat
  | [] => 0
  | x :: r => uptoBulkEntry x + uptoBulkEntries r
def uptoBulkEntry {H : Type} : Lit × DataW H → Nat
  | (.string bytes, d) => bytes.length + uptoBulk d + 1
  | (_, d) => uptoBulk d + 1
 end
def uptoSmall : (H : Type) → List (DataW H) → Bool := fun _ ds => decide (uptoBulkAll ds ≤ 1048576)
def OpenSpec.upto (s : _root_.Go.ChangeSpec) : _root_.Go.OpenSpec := { _root_.Go.OpenSpec.ofChange s with cond := some uptoSmall }

/-- 'laws.FnExactSequenceText', WHERE WHAT IT READS IS OF BULK AT MOST 1048576: true; the input reads as it did. -/
def fnExactSequenceTextUptoRow : OpenClaim := { program := "ytlplngafncobkad", sum := "56730010fe261fe6cfa439fb056a280d8d258d0948e306cf16a6ff3a3f7f531d", func := "loop.example/g01234/laws.FnExactSequenceText", spec := "fnExactSequenceText", inPlace := ["internal/abi.NoEscape", "internal/bytealg.MakeNoZero"], unfollowed := true, recurses := true, plainKeys := false, apart := false, narrowed := true }
def FnExactSequenceTextUptoSaid : Prop := fnExactSequenceTextUptoRow.holds Try.pinned (OpenSpec.upto fnExactSequenceTextSpec)

/-- 'laws.FnExactIsDesk', WHERE WHAT IT READS IS OF BULK AT MOST 1048576: true; the input reads as it did. -/
def fnExactIsDeskUptoRow : OpenClaim := { program := "ytlplngafncobkad", sum := "56730010fe261fe6cfa439fb056a280d8d258d0948e306cf16a6ff3a3f7f531d", func := "loop.example/g01234/laws.FnExactIsDesk", spec := "fnExactIsDesk", inPlace := ["internal/abi.NoEscape", "internal/bytealg.MakeNoZero"], unfollowed := true, recurses := true, plainKeys := false, apart := false, narrowed := true }
def FnExactIsDeskUptoSaid : Prop := fnExactIsDeskUptoRow.holds Try.pinned (OpenSpec.upto fnExactIsDeskSpec)

/-- 'laws.FnExactParseSequence', WHERE WHAT IT READS IS OF BULK AT MOST 1048576: true; the input reads as it did. -/
def fnExactParseSequenceUptoRow : OpenClaim := { program := "ytlplngafncobkad", sum := "56730010fe261fe6cfa439fb056a280d8d258d0948e306cf16a6ff3a3f7f531d", func := "loop.example/g01234/laws.FnExactParseSequence", spec := "fnExactParseSequence", inPlace := ["internal/bytealg.IndexByteString", "internal/bytealg.IndexString", "internal/abi.NoEscape", "internal/bytealg.MakeNoZero"], unfollowed := true, recurses := true, named := ["internal/bytealg.MaxLen"], plainKeys := false, apart := false, narrowed := true }
def FnExactParseSequenceUptoSaid : Prop := fnExactParseSequenceUptoRow.holds Try.pinned (OpenSpec.upto fnExactParseSequenceSpec)

/-- 'laws.FnExactAreJoined', WHERE WHAT IT READS IS OF BULK AT MOST 1048576: true; the input reads as it did. -/
def fnExactAreJoinedUptoRow : OpenClaim := { program := "ytlplngafncobkad", sum := "56730010fe261fe6cfa439fb056a280d8d258d0948e306cf16a6ff3a3f7f531d", func := "loop.example/g01234/laws.FnExactAreJoined", spec := "fnExactAreJoined", inPlace := ["internal/abi.NoEscape", "internal/bytealg.MakeNoZero"], unfollowed := true, recurses := true, plainKeys := false, apart := false, narrowed := true }
def FnExactAreJoinedUptoSaid : Prop := fnExactAreJoinedUptoRow.holds Try.pinned (OpenSpec.upto fnExactAreJoinedSpec)

/-- 'laws.FnExactLargestClass', WHERE WHAT IT READS IS OF BULK AT MOST 1048576: true; the input reads as it did. -/
def fnExactLargestClassUptoRow : OpenClaim := { program := "ytlplngafncobkad", sum := "56730010fe261fe6cfa439fb056a280d8d258d0948e306cf16a6ff3a3f7f531d", func := "loop.example/g01234/laws.FnExactLargestClass", spec := "fnExactLargestClass", inPlace := ["internal/abi.NoEscape", "internal/bytealg.MakeNoZero"], unfollowed := true, recurses := true, plainKeys := false, apart := false, narrowed := true }
def FnExactLargestClassUptoSaid : Prop := fnExactLargestClassUptoRow.holds Try.pinned (OpenSpec.upto fnExactLargestClassSpec)

/-- 'laws.FnExactClassImages', WHERE WHAT IT READS IS OF BULK AT MOST 1048576: true; the input reads as it did. -/
def fnExactClassImagesUptoRow : OpenClaim := { program := "ytlplngafncobkad", sum := "56730010fe261fe6cfa439fb056a280d8d258d0948e306cf16a6ff3a3f7f531d", func := "loop.example/g01234/laws.FnExactClassImages", spec := "fnExactClassImages", inPlace := ["internal/abi.NoEscape", "internal/bytealg.MakeNoZero"], unfollowed := true, recurses := true, plainKeys := false, apart := false, narrowed := true }
def FnExactClassImagesUptoSaid : Prop := fnExactClassImagesUptoRow.holds Try.pinned (OpenSpec.upto fnExactClassImagesSpec)

/-- 'laws.FnExactClassesOf', WHERE WHAT IT READS IS OF BULK AT MOST 1048576: true; the input reads as it did. -/
def fnExactClassesOfUptoRow : OpenClaim := { program := "ytlplngafncobkad", sum := "56730010fe261fe6cfa439fb056a280d8d258d0948e306cf16a6ff3a3f7f531d", func := "loop.example/g01234/laws.FnExactClassesOf", spec := "fnExactClassesOf", inPlace := ["internal/abi.NoEscape", "internal/bytealg.MakeNoZero"], unfollowed := true, recurses := true, plainKeys := false, apart := false, narrowed := true }
def FnExactClassesOfUptoSaid : Prop := fnExactClassesOfUptoRow.holds Try.pinned (OpenSpec.upto fnExactClassesOfSpec)

/-- 'laws.FnExactJoinedClasses', WHERE WHAT IT READS IS OF BULK AT MOST 1048576: true; the input reads as it did. -/
def fnExactJoinedClassesUptoRow : OpenClaim := { program := "ytlplngafncobkad", sum := "56730010fe261fe6cfa439fb056a280d8d258d0948e306cf16a6ff3a3f7f531d", func := "loop.example/g01234/laws.FnExactJoinedClasses", spec := "fnExactJoinedClasses", inPlace := ["internal/abi.NoEscape", "internal/bytealg.MakeNoZero"], unfollowed := true, recurses := true, plainKeys := false, apart := false, narrowed := true }
def FnExactJoinedClassesUptoSaid : Prop := fnExactJoinedClassesUptoRow.holds Try.pinned (OpenSpec.upto fnExactJoinedClassesSpec)

/-- 'laws.FnExactClassCycles', WHERE WHAT IT READS IS OF BULK AT MOST 1048576: true; the input reads as it did. -/
def fnExactClassCyclesUptoRow : OpenClaim := { program := "ytlplngafncobkad", sum := "56730010fe261fe6cfa439fb056a280d8d258d0948e306cf16a6ff3a3f7f531d", func := "loop.example/g01234/laws.FnExactClassCycles", spec := "fnExactClassCycles", inPlace := ["internal/abi.NoEscape", "internal/bytealg.MakeNoZero"], unfollowed := true, recurses := true, plainKeys := false, apart := false, narrowed := true }
def FnExactClassCyclesUptoSaid : Prop := fnExactClassCyclesUptoRow.holds Try.pinned (OpenSpec.upto fnExactClassCyclesSpec)

/-- 'laws.FnClasses', WHERE WHAT IT READS IS OF BULK AT MOST 1048576: true; the input reads as it did. -/
def fnClassesUptoRow : OpenClaim := { program := "ytlplngafncobkad", sum := "56730010fe261fe6cfa439fb056a280d8d258d0948e306cf16a6ff3a3f7f531d", func := "loop.example/g01234/laws.FnClasses", spec := "fnClasses", inPlace := ["internal/abi.NoEscape", "internal/bytealg.MakeNoZero"], unfollowed := true, recurses := true, plainKeys := false, apart := false, narrowed := true }
def FnClassesUptoSaid : Prop := fnClassesUptoRow.holds Try.pinned (OpenSpec.upto fnClassesSpec)

end Rows
end Go.Proofs.Ytlplngafncobkad
