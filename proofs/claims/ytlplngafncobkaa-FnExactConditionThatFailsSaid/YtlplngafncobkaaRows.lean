/-
  No cell of these rows narrows 'for every input' (looked for: loops, veiled, ifaces, maps, wideKeys, modest, calm, conditions, laid).
  DERIVED. THE GIVEN ROWS OF THIS SEAT. 11 by the template 'for every input the law returns true; each argument reads behind the call as it read before'; 0 by the template 'total and deterministic' (their statements: YtlplngafncobkaaTotals.lean).
  GIVEN WITH THE SEED: the statements are not yours to turn. If you find one false, say at which input.
  Laid BY PROGRAM, IN A SANDBOX (cutbox-rows.mjs): the forced cells as the released guide's own fill.sh prints them over the translation 16af0051077d3c99… (all of the seat's roots in one cut). By AI agents, Wed Nov 11 2026. No macro, syntax, notation, axiom, sorry.
-/
import Derived.Test.YtlplngafncobkaaChecked
import GoSem.Claim
import GoSem.ClaimJoined
import GoSem.ClaimMapViews
import Derived.JoinedTies
import Derived.KernelRfl
namespace Go.Proofs.Ytlplngafncobkaa
/- THE CELL 'sum', in the pinned program and in every row, IS THE sha256 OF THE DUMP (.gsa) THAT YtlplngafncobkaaProg.lean LOADS. Nothing in Lean hashes anything: it is a label: what it is worth is what the hold of that sum in a sandbox is worth. -/
noncomputable def Try.pinned : Pinned := { name := "ytlplngafncobkaa", sum := "16af0051077d3c992f3f19b0e633f8f6e8ebcbd5be4400e982c06de476f2967d", checked := Try.checked }
namespace Rows
def none {H : Type} : Left H := { results := [], args := [] }

/-- 'laws.FnExactLongestLeaf': WHATEVER THE INPUT: true; the input reads as it did. -/
def fnExactLongestLeafSpec : ChangeSpec := { name := "fnExactLongestLeaf", fn := fun _ => fun
  | [d] => { results := [.lit (.bool true)], args := [d] }
  | _ => none }
def fnExactLongestLeafRow : OpenClaim := { program := "ytlplngafncobkaa", sum := "16af0051077d3c992f3f19b0e633f8f6e8ebcbd5be4400e982c06de476f2967d", func := "loop.example/g01234/laws.FnExactLongestLeaf", spec := "fnExactLongestLeaf", unfollowed := true, recurses := true, apart := false }
def FnExactLongestLeafSaid : Prop := fnExactLongestLeafRow.holds Try.pinned (OpenSpec.ofChange fnExactLongestLeafSpec)

/-- ITS FALSE NEIGHBOUR: 'it returns false'. Refute it at one input. -/
def fnExactLongestLeafWrong : ChangeSpec := { name := "fnExactLongestLeaf", fn := fun _ => fun
  | [d] => { results := [.lit (.bool false)], args := [d] }
  | _ => none }
def FnExactLongestLeafWrongFalsely : Prop := fnExactLongestLeafRow.holds Try.pinned (OpenSpec.ofChange fnExactLongestLeafWrong)

/-- 'laws.FnExactImagesOfLeaf': WHATEVER THE INPUT: true; the input reads as it did. -/
def fnExactImagesOfLeafSpec : ChangeSpec := { name := "fnExactImagesOfLeaf", fn := fun _ => fun
  | [d] => { results := [.lit (.bool true)], args := [d] }
  | _ => none }
def fnExactImagesOfLeafRow : OpenClaim := { program := "ytlplngafncobkaa", sum := "16af0051077d3c992f3f19b0e633f8f6e8ebcbd5be4400e982c06de476f2967d", func := "loop.example/g01234/laws.FnExactImagesOfLeaf", spec := "fnExactImagesOfLeaf", unfollowed := true, recurses := true, apart := false }
def FnExactImagesOfLeafSaid : Prop := fnExactImagesOfLeafRow.holds Try.pinned (OpenSpec.ofChange fnExactImagesOfLeafSpec)

/-- ITS FALSE NEIGHBOUR: 'it returns false'. Refute it at one input. -/
def fnExactImagesOfLeafWrong : ChangeSpec := { name := "fnExactImagesOfLeaf", fn := fun _ => fun
  | [d] => { results := [.lit (.bool false)], args := [d] }
  | _ => none }
def FnExactImagesOfLeafWrongFalsely : Prop := fnExactImagesOfLeafRow.holds Try.pinned (OpenSpec.ofChange fnExactImagesOfLeafWrong)

/-- 'laws.FnExactIsCarried': WHATEVER THE INPUT: true; the input reads as it did. -/
def fnExactIsCarriedSpec : ChangeSpec := { name := "fnExactIsCarried", fn := fun _ => fun
  | [d] => { results := [.lit (.bool true)], args := [d] }
  | _ => none }
def fnExactIsCarriedRow : OpenClaim := { program := "ytlplngafncobkaa", sum := "16af0051077d3c992f3f19b0e633f8f6e8ebcbd5be4400e982c06de476f2967d", func := "loop.example/g01234/laws.FnExactIsCarried", spec := "fnExactIsCarried", unfollowed := true, recurses := true, apart := false }
def FnExactIsCarriedSaid : Prop := fnExactIsCarriedRow.holds Try.pinned (OpenSpec.ofChange fnExactIsCarriedSpec)

/-- ITS FALSE NEIGHBOUR: 'it returns false'. Refute it at one input. -/
def fnExactIsCarriedWrong : ChangeSpec := { name := "fnExactIsCarried", fn := fun _ => fun
  | [d] => { results := [.lit (.bool false)], args := [d] }
  | _ => none }
def FnExactIsCarriedWrongFalsely : Prop := fnExactIsCarriedRow.holds Try.pinned (OpenSpec.ofChange fnExactIsCarriedWrong)

/-- 'laws.FnExactPullBackPast': WHATEVER THE INPUT: true; the input reads as it did. -/
def fnExactPullBackPastSpec : ChangeSpec := { name := "fnExactPullBackPast", fn := fun _ => fun
  | [d1, d2] => { results := [.lit (.bool true)], args := [d1, d2] }
  | _ => none }
def fnExactPullBackPastRow : OpenClaim := { program := "ytlplngafncobkaa", sum := "16af0051077d3c992f3f19b0e633f8f6e8ebcbd5be4400e982c06de476f2967d", func := "loop.example/g01234/laws.FnExactPullBackPast", spec := "fnExactPullBackPast", unfollowed := true, recurses := true, apart := false }
def FnExactPullBackPastSaid : Prop := fnExactPullBackPastRow.holds Try.pinned (OpenSpec.ofChange fnExactPullBackPastSpec)

/-- ITS FALSE NEIGHBOUR: 'it returns false'. Refute it at one input. -/
def fnExactPullBackPastWrong : ChangeSpec := { name := "fnExactPullBackPast", fn := fun _ => fun
  | [d1, d2] => { results := [.lit (.bool false)], args := [d1, d2] }
  | _ => none }
def FnExactPullBackPastWrongFalsely : Prop := fnExactPullBackPastRow.holds Try.pinned (OpenSpec.ofChange fnExactPullBackPastWrong)

/-- 'laws.FnExactMajorsOf': WHATEVER THE INPUT: true; the input reads as it did. -/
def fnExactMajorsOfSpec : ChangeSpec := { name := "fnExactMajorsOf", fn := fun _ => fun
  | [d] => { results := [.lit (.bool true)], args := [d] }
  | _ => none }
def fnExactMajorsOfRow : OpenClaim := { program := "ytlplngafncobkaa", sum := "16af0051077d3c992f3f19b0e633f8f6e8ebcbd5be4400e982c06de476f2967d", func := "loop.example/g01234/laws.FnExactMajorsOf", spec := "fnExactMajorsOf", unfollowed := true, recurses := true, apart := false }
def FnExactMajorsOfSaid : Prop := fnExactMajorsOfRow.holds Try.pinned (OpenSpec.ofChange fnExactMajorsOfSpec)

/-- ITS FALSE NEIGHBOUR: 'it returns false'. Refute it at one input. -/
def fnExactMajorsOfWrong : ChangeSpec := { name := "fnExactMajorsOf", fn := fun _ => fun
  | [d] => { results := [.lit (.bool false)], args := [d] }
  | _ => none }
def FnExactMajorsOfWrongFalsely : Prop := fnExactMajorsOfRow.holds Try.pinned (OpenSpec.ofChange fnExactMajorsOfWrong)

/-- 'laws.FnExactConditionThatFails': WHATEVER THE INPUT: true; the input reads as it did. -/
def fnExactConditionThatFailsSpec : ChangeSpec := { name := "fnExactConditionThatFails", fn := fun _ => fun
  | [d] => { results := [.lit (.bool true)], args := [d] }
  | _ => none }
def fnExactConditionThatFailsRow : OpenClaim := { program := "ytlplngafncobkaa", sum := "16af0051077d3c992f3f19b0e633f8f6e8ebcbd5be4400e982c06de476f2967d", func := "loop.example/g01234/laws.FnExactConditionThatFails", spec := "fnExactConditionThatFails", unfollowed := true, recurses := true, apart := false }
def FnExactConditionThatFailsSaid : Prop := fnExactConditionThatFailsRow.holds Try.pinned (OpenSpec.ofChange fnExactConditionThatFailsSpec)

/-- ITS FALSE NEIGHBOUR: 'it returns false'. Refute it at one input. -/
def fnExactConditionThatFailsWrong : ChangeSpec := { name := "fnExactConditionThatFails", fn := fun _ => fun
  | [d] => { results := [.lit (.bool false)], args := [d] }
  | _ => none }
def FnExactConditionThatFailsWrongFalsely : Prop := fnExactConditionThatFailsRow.holds Try.pinned (OpenSpec.ofChange fnExactConditionThatFailsWrong)

/-- 'laws.FnExactAddLeaf': WHATEVER THE INPUT: true; the input reads as it did. -/
def fnExactAddLeafSpec : ChangeSpec := { name := "fnExactAddLeaf", fn := fun _ => fun
  | [d1, d2] => { results := [.lit (.bool true)], args := [d1, d2] }
  | _ => none }
def fnExactAddLeafRow : OpenClaim := { program := "ytlplngafncobkaa", sum := "16af0051077d3c992f3f19b0e633f8f6e8ebcbd5be4400e982c06de476f2967d", func := "loop.example/g01234/laws.FnExactAddLeaf", spec := "fnExactAddLeaf", inPlace := ["slices.overlaps[loop.example/g01234/impl.Leaf]"], unfollowed := true, recurses := true, apart := false }
def FnExactAddLeafSaid : Prop := fnExactAddLeafRow.holds Try.pinned (OpenSpec.ofChange fnExactAddLeafSpec)

/-- ITS FALSE NEIGHBOUR: 'it returns false'. Refute it at one input. -/
def fnExactAddLeafWrong : ChangeSpec := { name := "fnExactAddLeaf", fn := fun _ => fun
  | [d1, d2] => { results := [.lit (.bool false)], args := [d1, d2] }
  | _ => none }
def FnExactAddLeafWrongFalsely : Prop := fnExactAddLeafRow.holds Try.pinned (OpenSpec.ofChange fnExactAddLeafWrong)

/-- 'laws.FnLeaves': WHATEVER THE INPUT: true; the input reads as it did. -/
def fnLeavesSpec : ChangeSpec := { name := "fnLeaves", fn := fun _ => fun
  | [d] => { results := [.lit (.bool true)], args := [d] }
  | _ => none }
def fnLeavesRow : OpenClaim := { program := "ytlplngafncobkaa", sum := "16af0051077d3c992f3f19b0e633f8f6e8ebcbd5be4400e982c06de476f2967d", func := "loop.example/g01234/laws.FnLeaves", spec := "fnLeaves", unfollowed := true, recurses := true, apart := false }
def FnLeavesSaid : Prop := fnLeavesRow.holds Try.pinned (OpenSpec.ofChange fnLeavesSpec)

/-- ITS FALSE NEIGHBOUR: 'it returns false'. Refute it at one input. -/
def fnLeavesWrong : ChangeSpec := { name := "fnLeaves", fn := fun _ => fun
  | [d] => { results := [.lit (.bool false)], args := [d] }
  | _ => none }
def FnLeavesWrongFalsely : Prop := fnLeavesRow.holds Try.pinned (OpenSpec.ofChange fnLeavesWrong)

/-- 'laws.FnExactPullBackBy': WHATEVER THE INPUT: true; the input reads as it did. -/
def fnExactPullBackBySpec : ChangeSpec := { name := "fnExactPullBackBy", fn := fun _ => fun
  | [d1, d2] => { results := [.lit (.bool true)], args := [d1, d2] }
  | _ => none }
def fnExactPullBackByRow : OpenClaim := { program := "ytlplngafncobkaa", sum := "16af0051077d3c992f3f19b0e633f8f6e8ebcbd5be4400e982c06de476f2967d", func := "loop.example/g01234/laws.FnExactPullBackBy", spec := "fnExactPullBackBy", unfollowed := true, recurses := true, apart := false }
def FnExactPullBackBySaid : Prop := fnExactPullBackByRow.holds Try.pinned (OpenSpec.ofChange fnExactPullBackBySpec)

/-- ITS FALSE NEIGHBOUR: 'it returns false'. Refute it at one input. -/
def fnExactPullBackByWrong : ChangeSpec := { name := "fnExactPullBackBy", fn := fun _ => fun
  | [d1, d2] => { results := [.lit (.bool false)], args := [d1, d2] }
  | _ => none }
def FnExactPullBackByWrongFalsely : Prop := fnExactPullBackByRow.holds Try.pinned (OpenSpec.ofChange fnExactPullBackByWrong)

/-- 'laws.FnAngles': WHATEVER THE INPUT: true; the input reads as it did. -/
def fnAnglesSpec : ChangeSpec := { name := "fnAngles", fn := fun _ => fun
  | [d] => { results := [.lit (.bool true)], args := [d] }
  | _ => none }
def fnAnglesRow : OpenClaim := { program := "ytlplngafncobkaa", sum := "16af0051077d3c992f3f19b0e633f8f6e8ebcbd5be4400e982c06de476f2967d", func := "loop.example/g01234/laws.FnAngles", spec := "fnAngles", unfollowed := true, recurses := true, apart := false }
def FnAnglesSaid : Prop := fnAnglesRow.holds Try.pinned (OpenSpec.ofChange fnAnglesSpec)

/-- ITS FALSE NEIGHBOUR: 'it returns false'. Refute it at one input. -/
def fnAnglesWrong : ChangeSpec := { name := "fnAngles", fn := fun _ => fun
  | [d] => { results := [.lit (.bool false)], args := [d] }
  | _ => none }
def FnAnglesWrongFalsely : Prop := fnAnglesRow.holds Try.pinned (OpenSpec.ofChange fnAnglesWrong)

/-- 'laws.FnExactRotationSet': WHATEVER THE INPUT: true; the input reads as it did. -/
def fnExactRotationSetSpec : ChangeSpec := { name := "fnExactRotationSet", fn := fun _ => fun
  | [d1, d2] => { results := [.lit (.bool true)], args := [d1, d2] }
  | _ => none }
def fnExactRotationSetRow : OpenClaim := { program := "ytlplngafncobkaa", sum := "16af0051077d3c992f3f19b0e633f8f6e8ebcbd5be4400e982c06de476f2967d", func := "loop.example/g01234/laws.FnExactRotationSet", spec := "fnExactRotationSet", unfollowed := true, recurses := true, apart := false }
def FnExactRotationSetSaid : Prop := fnExactRotationSetRow.holds Try.pinned (OpenSpec.ofChange fnExactRotationSetSpec)

/-- ITS FALSE NEIGHBOUR: 'it returns false'. Refute it at one input. -/
def fnExactRotationSetWrong : ChangeSpec := { name := "fnExactRotationSet", fn := fun _ => fun
  | [d1, d2] => { results := [.lit (.bool false)], args := [d1, d2] }
  | _ => none }
def FnExactRotationSetWrongFalsely : Prop := fnExactRotationSetRow.holds Try.pinned (OpenSpec.ofChange fnExactRotationSetWrong)

/- THE SECOND FORM. 'bulk': how many values and letters a reading holds, each counted each time it is reached (what is shared counts as often as it is met; a slice's spare places count too). A statement '..UptoSaid' is the law's where the arguments, and the package variables that the reading takes, are together of bulk at most 1048576: NARROWER than '..Said'. Prove '..Said' where nothing that the law and all that it calls make is longer than what came in: it says more and counts as full. Else prove '..UptoSaid'. A law counts once. -/
mutual
def uptoBulk {H : Type} : DataW H → Nat
  | .lit (.string bytes) => bytes.length + 1
  | .lit _ => 1
  | .nil => 1
  | .ptr d => uptoBulk d + 1
  | .slice elems spare => uptoBulkAll elems + uptoBulkAll spare + 1
  | .agg parts => uptoBulkAll parts + 1
  | .iface _ d => uptoBulk d + 1
  | .map entries => uptoBulkEntries entries + 1
  | .held _ => 1
def uptoBulkAll {H : Type} : List (DataW H) → Nat
  | [] => 0
  | d :: r => uptoBulk d + uptoBulkAll r
def uptoBulkEntries {H : Type} : List (Lit × DataW H) → Nat
  | [] => 0
  | x :: r => uptoBulkEntry x + uptoBulkEntries r
def uptoBulkEntry {H : Type} : Lit × DataW H → Nat
  | (.string bytes, d) => bytes.length + uptoBulk d + 1
  | (_, d) => uptoBulk d + 1
 end
def uptoSmall : (H : Type) → List (DataW H) → Bool := fun _ ds => decide (uptoBulkAll ds ≤ 1048576)
def OpenSpec.upto (s : _root_.Go.ChangeSpec) : _root_.Go.OpenSpec := { _root_.Go.OpenSpec.ofChange s with cond := some uptoSmall }

/-- 'laws.FnExactLongestLeaf', WHERE WHAT IT READS IS OF BULK AT MOST 1048576: true; the input reads as it did. -/
def fnExactLongestLeafUptoRow : OpenClaim := { program := "ytlplngafncobkaa", sum := "16af0051077d3c992f3f19b0e633f8f6e8ebcbd5be4400e982c06de476f2967d", func := "loop.example/g01234/laws.FnExactLongestLeaf", spec := "fnExactLongestLeaf", unfollowed := true, recurses := true, apart := false, narrowed := true }
def FnExactLongestLeafUptoSaid : Prop := fnExactLongestLeafUptoRow.holds Try.pinned (OpenSpec.upto fnExactLongestLeafSpec)

/-- 'laws.FnExactImagesOfLeaf', WHERE WHAT IT READS IS OF BULK AT MOST 1048576: true; the input reads as it did. -/
def fnExactImagesOfLeafUptoRow : OpenClaim := { program := "ytlplngafncobkaa", sum := "16af0051077d3c992f3f19b0e633f8f6e8ebcbd5be4400e982c06de476f2967d", func := "loop.example/g01234/laws.FnExactImagesOfLeaf", spec := "fnExactImagesOfLeaf", unfollowed := true, recurses := true, apart := false, narrowed := true }
def FnExactImagesOfLeafUptoSaid : Prop := fnExactImagesOfLeafUptoRow.holds Try.pinned (OpenSpec.upto fnExactImagesOfLeafSpec)

/-- 'laws.FnExactIsCarried', WHERE WHAT IT READS IS OF BULK AT MOST 1048576: true; the input reads as it did. -/
def fnExactIsCarriedUptoRow : OpenClaim := { program := "ytlplngafncobkaa", sum := "16af0051077d3c992f3f19b0e633f8f6e8ebcbd5be4400e982c06de476f2967d", func := "loop.example/g01234/laws.FnExactIsCarried", spec := "fnExactIsCarried", unfollowed := true, recurses := true, apart := false, narrowed := true }
def FnExactIsCarriedUptoSaid : Prop := fnExactIsCarriedUptoRow.holds Try.pinned (OpenSpec.upto fnExactIsCarriedSpec)

/-- 'laws.FnExactPullBackPast', WHERE WHAT IT READS IS OF BULK AT MOST 1048576: true; the input reads as it did. -/
def fnExactPullBackPastUptoRow : OpenClaim := { program := "ytlplngafncobkaa", sum := "16af0051077d3c992f3f19b0e633f8f6e8ebcbd5be4400e982c06de476f2967d", func := "loop.example/g01234/laws.FnExactPullBackPast", spec := "fnExactPullBackPast", unfollowed := true, recurses := true, apart := false, narrowed := true }
def FnExactPullBackPastUptoSaid : Prop := fnExactPullBackPastUptoRow.holds Try.pinned (OpenSpec.upto fnExactPullBackPastSpec)

/-- 'laws.FnExactMajorsOf', WHERE WHAT IT READS IS OF BULK AT MOST 1048576: true; the input reads as it did. -/
def fnExactMajorsOfUptoRow : OpenClaim := { program := "ytlplngafncobkaa", sum := "16af0051077d3c992f3f19b0e633f8f6e8ebcbd5be4400e982c06de476f2967d", func := "loop.example/g01234/laws.FnExactMajorsOf", spec := "fnExactMajorsOf", unfollowed := true, recurses := true, apart := false, narrowed := true }
def FnExactMajorsOfUptoSaid : Prop := fnExactMajorsOfUptoRow.holds Try.pinned (OpenSpec.upto fnExactMajorsOfSpec)

/-- 'laws.FnExactConditionThatFails', WHERE WHAT IT READS IS OF BULK AT MOST 1048576: true; the input reads as it did. -/
def fnExactConditionThatFailsUptoRow : OpenClaim := { program := "ytlplngafncobkaa", sum := "16af0051077d3c992f3f19b0e633f8f6e8ebcbd5be4400e982c06de476f2967d", func := "loop.example/g01234/laws.FnExactConditionThatFails", spec := "fnExactConditionThatFails", unfollowed := true, recurses := true, apart := false, narrowed := true }
def FnExactConditionThatFailsUptoSaid : Prop := fnExactConditionThatFailsUptoRow.holds Try.pinned (OpenSpec.upto fnExactConditionThatFailsSpec)

/-- 'laws.FnExactAddLeaf', WHERE WHAT IT READS IS OF BULK AT MOST 1048576: true; the input reads as it did. -/
def fnExactAddLeafUptoRow : OpenClaim := { program := "ytlplngafncobkaa", sum := "16af0051077d3c992f3f19b0e633f8f6e8ebcbd5be4400e982c06de476f2967d", func := "loop.example/g01234/laws.FnExactAddLeaf", spec := "fnExactAddLeaf", inPlace := ["slices.overlaps[loop.example/g01234/impl.Leaf]"], unfollowed := true, recurses := true, apart := false, narrowed := true }
def FnExactAddLeafUptoSaid : Prop := fnExactAddLeafUptoRow.holds Try.pinned (OpenSpec.upto fnExactAddLeafSpec)

/-- 'laws.FnLeaves', WHERE WHAT IT READS IS OF BULK AT MOST 1048576: true; the input reads as it did. -/
def fnLeavesUptoRow : OpenClaim := { program := "ytlplngafncobkaa", sum := "16af0051077d3c992f3f19b0e633f8f6e8ebcbd5be4400e982c06de476f2967d", func := "loop.example/g01234/laws.FnLeaves", spec := "fnLeaves", unfollowed := true, recurses := true, apart := false, narrowed := true }
def FnLeavesUptoSaid : Prop := fnLeavesUptoRow.holds Try.pinned (OpenSpec.upto fnLeavesSpec)

/-- 'laws.FnExactPullBackBy', WHERE WHAT IT READS IS OF BULK AT MOST 1048576: true; the input reads as it did. -/
def fnExactPullBackByUptoRow : OpenClaim := { program := "ytlplngafncobkaa", sum := "16af0051077d3c992f3f19b0e633f8f6e8ebcbd5be4400e982c06de476f2967d", func := "loop.example/g01234/laws.FnExactPullBackBy", spec := "fnExactPullBackBy", unfollowed := true, recurses := true, apart := false, narrowed := true }
def FnExactPullBackByUptoSaid : Prop := fnExactPullBackByUptoRow.holds Try.pinned (OpenSpec.upto fnExactPullBackBySpec)

/-- 'laws.FnAngles', WHERE WHAT IT READS IS OF BULK AT MOST 1048576: true; the input reads as it did. -/
def fnAnglesUptoRow : OpenClaim := { program := "ytlplngafncobkaa", sum := "16af0051077d3c992f3f19b0e633f8f6e8ebcbd5be4400e982c06de476f2967d", func := "loop.example/g01234/laws.FnAngles", spec := "fnAngles", unfollowed := true, recurses := true, apart := false, narrowed := true }
def FnAnglesUptoSaid : Prop := fnAnglesUptoRow.holds Try.pinned (OpenSpec.upto fnAnglesSpec)

/-- 'laws.FnExactRotationSet', WHERE WHAT IT READS IS OF BULK AT MOST 1048576: true; the input reads as it did. -/
def fnExactRotationSetUptoRow : OpenClaim := { program := "ytlplngafncobkaa", sum := "16af0051077d3c992f3f19b0e633f8f6e8ebcbd5be4400e982c06de476f2967d", func := "loop.example/g01234/laws.FnExactRotationSet", spec := "fnExactRotationSet", unfollowed := true, recurses := true, apart := false, narrowed := true }
def FnExactRotationSetUptoSaid : Prop := fnExactRotationSetUptoRow.holds Try.pinned (OpenSpec.upto fnExactRotationSetSpec)

end Rows
end Go.Proofs.Ytlplngafncobkaa
