/-
  No cell of these rows narrows 'for every input' (looked for: loops, veiled, ifaces, maps, wideKeys, modest, calm, conditions, laid).
  DERIVED. THE GIVEN ROWS OF THIS SEAT. 4 by the template 'for every input the law returns true; each argument reads behind the call as it read before'; 0 by the template 'total and deterministic' (their statements: YtadlnnjgocknhaaTotals.lean).
  GIVEN WITH THE SEED: the statements are not yours to turn. If you find one false, say at which input.
  Laid BY PROGRAM, IN A SANDBOX (cutbox-rows.mjs): the forced cells as the released guide's own fill.sh prints them over the translation b0ca8d37fb86863a… (all of the seat's roots in one cut). By AI agents, Wed Nov 11 2026. No macro, syntax, notation, axiom, sorry.
-/
import Derived.Test.YtadlnnjgocknhaaChecked
import GoSem.Claim
import GoSem.ClaimJoined
import GoSem.ClaimMapViews
import Derived.JoinedTies
import Derived.KernelRfl
namespace Go.Proofs.Ytadlnnjgocknhaa
/- THE CELL 'sum', in the pinned program and in every row, IS THE sha256 OF THE DUMP (.gsa) THAT YtadlnnjgocknhaaProg.lean LOADS. Nothing in Lean hashes anything: it is a label: what it is worth is what the hold of that sum in a sandbox is worth. -/
noncomputable def Try.pinned : Pinned := { name := "ytadlnnjgocknhaa", sum := "b0ca8d37fb86863a6bce09eb6b6d459b269e401bdf85f683c839e38e41232efb", checked := Try.checked }
namespace Rows
def none {H : Type} : Left H := { results := [], args := [] }

/-- 'laws.FnExactPairOrbit': WHATEVER THE INPUT: true; the input reads as it did. -/
def fnExactPairOrbitSpec : ChangeSpec := { name := "fnExactPairOrbit", fn := fun _ => fun
  | [d1, d2, d3, d4] => { results := [.lit (.bool true)], args := [d1, d2, d3, d4] }
  | _ => none }
def fnExactPairOrbitRow : OpenClaim := { program := "ytadlnnjgocknhaa", sum := "b0ca8d37fb86863a6bce09eb6b6d459b269e401bdf85f683c839e38e41232efb", func := "loop.example/g01234/laws.FnExactPairOrbit", spec := "fnExactPairOrbit", unfollowed := true, recurses := true, apart := false }
def FnExactPairOrbitSaid : Prop := fnExactPairOrbitRow.holds Try.pinned (OpenSpec.ofChange fnExactPairOrbitSpec)

/-- ITS FALSE NEIGHBOUR: 'it returns false'. Refute it at one input. -/
def fnExactPairOrbitWrong : ChangeSpec := { name := "fnExactPairOrbit", fn := fun _ => fun
  | [d1, d2, d3, d4] => { results := [.lit (.bool false)], args := [d1, d2, d3, d4] }
  | _ => none }
def FnExactPairOrbitWrongFalsely : Prop := fnExactPairOrbitRow.holds Try.pinned (OpenSpec.ofChange fnExactPairOrbitWrong)

/-- 'laws.FnExactPairPolynomial': WHATEVER THE INPUT: true; the input reads as it did. -/
def fnExactPairPolynomialSpec : ChangeSpec := { name := "fnExactPairPolynomial", fn := fun _ => fun
  | [d] => { results := [.lit (.bool true)], args := [d] }
  | _ => none }
def fnExactPairPolynomialRow : OpenClaim := { program := "ytadlnnjgocknhaa", sum := "b0ca8d37fb86863a6bce09eb6b6d459b269e401bdf85f683c839e38e41232efb", func := "loop.example/g01234/laws.FnExactPairPolynomial", spec := "fnExactPairPolynomial", unfollowed := true, recurses := true, apart := false }
def FnExactPairPolynomialSaid : Prop := fnExactPairPolynomialRow.holds Try.pinned (OpenSpec.ofChange fnExactPairPolynomialSpec)

/-- ITS FALSE NEIGHBOUR: 'it returns false'. Refute it at one input. -/
def fnExactPairPolynomialWrong : ChangeSpec := { name := "fnExactPairPolynomial", fn := fun _ => fun
  | [d] => { results := [.lit (.bool false)], args := [d] }
  | _ => none }
def FnExactPairPolynomialWrongFalsely : Prop := fnExactPairPolynomialRow.holds Try.pinned (OpenSpec.ofChange fnExactPairPolynomialWrong)

/-- 'laws.FnCharacteristics': WHATEVER THE INPUT: true; the input reads as it did. -/
def fnCharacteristicsSpec : ChangeSpec := { name := "fnCharacteristics", fn := fun _ => fun
  | [d] => { results := [.lit (.bool true)], args := [d] }
  | _ => none }
def fnCharacteristicsRow : OpenClaim := { program := "ytadlnnjgocknhaa", sum := "b0ca8d37fb86863a6bce09eb6b6d459b269e401bdf85f683c839e38e41232efb", func := "loop.example/g01234/laws.FnCharacteristics", spec := "fnCharacteristics", unfollowed := true, recurses := true, apart := false }
def FnCharacteristicsSaid : Prop := fnCharacteristicsRow.holds Try.pinned (OpenSpec.ofChange fnCharacteristicsSpec)

/-- ITS FALSE NEIGHBOUR: 'it returns false'. Refute it at one input. -/
def fnCharacteristicsWrong : ChangeSpec := { name := "fnCharacteristics", fn := fun _ => fun
  | [d] => { results := [.lit (.bool false)], args := [d] }
  | _ => none }
def FnCharacteristicsWrongFalsely : Prop := fnCharacteristicsRow.holds Try.pinned (OpenSpec.ofChange fnCharacteristicsWrong)

/-- 'laws.FnPairMatrices': WHATEVER THE INPUT: true; the input reads as it did. -/
def fnPairMatricesSpec : ChangeSpec := { name := "fnPairMatrices", fn := fun _ => fun
  | [d] => { results := [.lit (.bool true)], args := [d] }
  | _ => none }
def fnPairMatricesRow : OpenClaim := { program := "ytadlnnjgocknhaa", sum := "b0ca8d37fb86863a6bce09eb6b6d459b269e401bdf85f683c839e38e41232efb", func := "loop.example/g01234/laws.FnPairMatrices", spec := "fnPairMatrices", unfollowed := true, recurses := true, apart := false }
def FnPairMatricesSaid : Prop := fnPairMatricesRow.holds Try.pinned (OpenSpec.ofChange fnPairMatricesSpec)

/-- ITS FALSE NEIGHBOUR: 'it returns false'. Refute it at one input. -/
def fnPairMatricesWrong : ChangeSpec := { name := "fnPairMatrices", fn := fun _ => fun
  | [d] => { results := [.lit (.bool false)], args := [d] }
  | _ => none }
def FnPairMatricesWrongFalsely : Prop := fnPairMatricesRow.holds Try.pinned (OpenSpec.ofChange fnPairMatricesWrong)

/- THE SECOND FORM. 'bulk': how many values and letters a reading holds, each counted each time it is reached (what is shared counts as often as it is met; a slice's spare places count too). A statement '..UptoSaid' is the law's where the arguments, and the package variables that the reading takes, are together of bulk at most 1048576: NARROWER than '..Said'. Prove '..Said' where nothing that the law and all that it calls make is longer than what came in: it says more and counts as full. Else prove '..UptoSaid'. A law counts once. -/
mutual
def uptoBulk {H : Type} : DataW H → Nat
  | .lit (.string bytes) => bytes.length + 1
  | .lit _ => 1
  | .nil => 1
  | .ptr d => uptoBulk d + 1
  | .slice elems spare => uptoBulkAll elems + uptoBulkAll spare + 1
  | .agg parts => uptoBulkAll parts + 1
  | .iface _ d => uptoBulk d + 1
  | .map entries => uptoBulkEntries entries + 1
  | .held _ => 1
def uptoBulkAll {H : Type} : List (DataW H) → Nat
  | [] => 0
  | d :: r => uptoBulk d + uptoBulkAll r
def uptoBulkEntries {H : Type} : List (Lit × DataW H) → Nat
  | [] => 0
  | x :: r => uptoBulkEntry x + uptoBulkEntries r
def uptoBulkEntry {H : Type} : Lit × DataW H → Nat
  | (.string bytes, d) => bytes.length + uptoBulk d + 1
  | (_, d) => uptoBulk d + 1
 end
def uptoSmall : (H : Type) → List (DataW H) → Bool := fun _ ds => decide (uptoBulkAll ds ≤ 1048576)
def OpenSpec.upto (s : _root_.Go.ChangeSpec) : _root_.Go.OpenSpec := { _root_.Go.OpenSpec.ofChange s with cond := some uptoSmall }

/-- 'laws.FnExactPairOrbit', WHERE WHAT IT READS IS OF BULK AT MOST 1048576: true; the input reads as it did. -/
def fnExactPairOrbitUptoRow : OpenClaim := { program := "ytadlnnjgocknhaa", sum := "b0ca8d37fb86863a6bce09eb6b6d459b269e401bdf85f683c839e38e41232efb", func := "loop.example/g01234/laws.FnExactPairOrbit", spec := "fnExactPairOrbit", unfollowed := true, recurses := true, apart := false, narrowed := true }
def FnExactPairOrbitUptoSaid : Prop := fnExactPairOrbitUptoRow.holds Try.pinned (OpenSpec.upto fnExactPairOrbitSpec)

/-- 'laws.FnExactPairPolynomial', WHERE WHAT IT READS IS OF BULK AT MOST 1048576: true; the input reads as it did. -/
def fnExactPairPolynomialUptoRow : OpenClaim := { program := "ytadlnnjgocknhaa", sum := "b0ca8d37fb86863a6bce09eb6b6d459b269e401bdf85f683c839e38e41232efb", func := "loop.example/g01234/laws.FnExactPairPolynomial", spec := "fnExactPairPolynomial", unfollowed := true, recurses := true, apart := false, narrowed := true }
def FnExactPairPolynomialUptoSaid : Prop := fnExactPairPolynomialUptoRow.holds Try.pinned (OpenSpec.upto fnExactPairPolynomialSpec)

/-- 'laws.FnCharacteristics', WHERE WHAT IT READS IS OF BULK AT MOST 1048576: true; the input reads as it did. -/
def fnCharacteristicsUptoRow : OpenClaim := { program := "ytadlnnjgocknhaa", sum := "b0ca8d37fb86863a6bce09eb6b6d459b269e401bdf85f683c839e38e41232efb", func := "loop.example/g01234/laws.FnCharacteristics", spec := "fnCharacteristics", unfollowed := true, recurses := true, apart := false, narrowed := true }
def FnCharacteristicsUptoSaid : Prop := fnCharacteristicsUptoRow.holds Try.pinned (OpenSpec.upto fnCharacteristicsSpec)

/-- 'laws.FnPairMatrices', WHERE WHAT IT READS IS OF BULK AT MOST 1048576: true; the input reads as it did. -/
def fnPairMatricesUptoRow : OpenClaim := { program := "ytadlnnjgocknhaa", sum := "b0ca8d37fb86863a6bce09eb6b6d459b269e401bdf85f683c839e38e41232efb", func := "loop.example/g01234/laws.FnPairMatrices", spec := "fnPairMatrices", unfollowed := true, recurses := true, apart := false, narrowed := true }
def FnPairMatricesUptoSaid : Prop := fnPairMatricesUptoRow.holds Try.pinned (OpenSpec.upto fnPairMatricesSpec)

end Rows
end Go.Proofs.Ytadlnnjgocknhaa
