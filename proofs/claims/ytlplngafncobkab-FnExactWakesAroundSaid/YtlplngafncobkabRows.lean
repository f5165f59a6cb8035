/-
  No cell of these rows narrows 'for every input' (looked for: loops, veiled, ifaces, maps, wideKeys, modest, calm, conditions, laid).
  DERIVED. THE GIVEN ROWS OF THIS SEAT. 12 by the template 'for every input the law returns true; each argument reads behind the call as it read before'; 0 by the template 'total and deterministic' (their statements: YtlplngafncobkabTotals.lean).
  GIVEN WITH THE SEED: the statements are not yours to turn. If you find one false, say at which input.
  Laid BY PROGRAM, IN A SANDBOX (cutbox-rows.mjs): the forced cells as the released guide's own fill.sh prints them over the translation c531492ede17eecc… (all of the seat's roots in one cut). By AI agents, Wed Nov 11 2026. No macro, syntax, notation, axiom, sorry.
-/
import Derived.Test.YtlplngafncobkabChecked
import GoSem.Claim
import GoSem.ClaimJoined
import GoSem.ClaimMapViews
import Derived.JoinedTies
import Derived.KernelRfl
namespace Go.Proofs.Ytlplngafncobkab
/- THE CELL 'sum', in the pinned program and in every row, IS THE sha256 OF THE DUMP (.gsa) THAT YtlplngafncobkabProg.lean LOADS. Nothing in Lean hashes anything: it is a label: what it is worth is what the hold of that sum in a sandbox is worth. -/
noncomputable def Try.pinned : Pinned := { name := "ytlplngafncobkab", sum := "c531492ede17eecc0cf0b2780bb6961afdacacb94746ac8d344618c37bb7b095", checked := Try.checked }
namespace Rows
def none {H : Type} : Left H := { results := [], args := [] }

/-- 'laws.FnExactWakesAround': WHATEVER THE INPUT: true; the input reads as it did. -/
def fnExactWakesAroundSpec : ChangeSpec := { name := "fnExactWakesAround", fn := fun _ => fun
  | [d1, d2] => { results := [.lit (.bool true)], args := [d1, d2] }
  | _ => none }
def fnExactWakesAroundRow : OpenClaim := { program := "ytlplngafncobkab", sum := "c531492ede17eecc0cf0b2780bb6961afdacacb94746ac8d344618c37bb7b095", func := "loop.example/g01234/laws.FnExactWakesAround", spec := "fnExactWakesAround", unfollowed := true, recurses := true, apart := false }
def FnExactWakesAroundSaid : Prop := fnExactWakesAroundRow.holds Try.pinned (OpenSpec.ofChange fnExactWakesAroundSpec)

/-- ITS FALSE NEIGHBOUR: 'it returns false'. Refute it at one input. -/
def fnExactWakesAroundWrong : ChangeSpec := { name := "fnExactWakesAround", fn := fun _ => fun
  | [d1, d2] => { results := [.lit (.bool false)], args := [d1, d2] }
  | _ => none }
def FnExactWakesAroundWrongFalsely : Prop := fnExactWakesAroundRow.holds Try.pinned (OpenSpec.ofChange fnExactWakesAroundWrong)

/-- 'laws.FnExactAreObstructed': WHATEVER THE INPUT: true; the input reads as it did. -/
def fnExactAreObstructedSpec : ChangeSpec := { name := "fnExactAreObstructed", fn := fun _ => fun
  | [d1, d2] => { results := [.lit (.bool true)], args := [d1, d2] }
  | _ => none }
def fnExactAreObstructedRow : OpenClaim := { program := "ytlplngafncobkab", sum := "c531492ede17eecc0cf0b2780bb6961afdacacb94746ac8d344618c37bb7b095", func := "loop.example/g01234/laws.FnExactAreObstructed", spec := "fnExactAreObstructed", unfollowed := true, recurses := true, apart := false }
def FnExactAreObstructedSaid : Prop := fnExactAreObstructedRow.holds Try.pinned (OpenSpec.ofChange fnExactAreObstructedSpec)

/-- ITS FALSE NEIGHBOUR: 'it returns false'. Refute it at one input. -/
def fnExactAreObstructedWrong : ChangeSpec := { name := "fnExactAreObstructed", fn := fun _ => fun
  | [d1, d2] => { results := [.lit (.bool false)], args := [d1, d2] }
  | _ => none }
def FnExactAreObstructedWrongFalsely : Prop := fnExactAreObstructedRow.holds Try.pinned (OpenSpec.ofChange fnExactAreObstructedWrong)

/-- 'laws.FnExactLimbOf': WHATEVER THE INPUT: true; the input reads as it did. -/
def fnExactLimbOfSpec : ChangeSpec := { name := "fnExactLimbOf", fn := fun _ => fun
  | [d] => { results := [.lit (.bool true)], args := [d] }
  | _ => none }
def fnExactLimbOfRow : OpenClaim := { program := "ytlplngafncobkab", sum := "c531492ede17eecc0cf0b2780bb6961afdacacb94746ac8d344618c37bb7b095", func := "loop.example/g01234/laws.FnExactLimbOf", spec := "fnExactLimbOf", unfollowed := true, recurses := true, apart := false }
def FnExactLimbOfSaid : Prop := fnExactLimbOfRow.holds Try.pinned (OpenSpec.ofChange fnExactLimbOfSpec)

/-- ITS FALSE NEIGHBOUR: 'it returns false'. Refute it at one input. -/
def fnExactLimbOfWrong : ChangeSpec := { name := "fnExactLimbOf", fn := fun _ => fun
  | [d] => { results := [.lit (.bool false)], args := [d] }
  | _ => none }
def FnExactLimbOfWrongFalsely : Prop := fnExactLimbOfRow.holds Try.pinned (OpenSpec.ofChange fnExactLimbOfWrong)

/-- 'laws.FnExactParentOf': WHATEVER THE INPUT: true; the input reads as it did. -/
def fnExactParentOfSpec : ChangeSpec := { name := "fnExactParentOf", fn := fun _ => fun
  | [d] => { results := [.lit (.bool true)], args := [d] }
  | _ => none }
def fnExactParentOfRow : OpenClaim := { program := "ytlplngafncobkab", sum := "c531492ede17eecc0cf0b2780bb6961afdacacb94746ac8d344618c37bb7b095", func := "loop.example/g01234/laws.FnExactParentOf", spec := "fnExactParentOf", unfollowed := true, recurses := true, apart := false }
def FnExactParentOfSaid : Prop := fnExactParentOfRow.holds Try.pinned (OpenSpec.ofChange fnExactParentOfSpec)

/-- ITS FALSE NEIGHBOUR: 'it returns false'. Refute it at one input. -/
def fnExactParentOfWrong : ChangeSpec := { name := "fnExactParentOf", fn := fun _ => fun
  | [d] => { results := [.lit (.bool false)], args := [d] }
  | _ => none }
def FnExactParentOfWrongFalsely : Prop := fnExactParentOfRow.holds Try.pinned (OpenSpec.ofChange fnExactParentOfWrong)

/-- 'laws.FnExactPairsOfPeriod': WHATEVER THE INPUT: true; the input reads as it did. -/
def fnExactPairsOfPeriodSpec : ChangeSpec := { name := "fnExactPairsOfPeriod", fn := fun _ => fun
  | [d] => { results := [.lit (.bool true)], args := [d] }
  | _ => none }
def fnExactPairsOfPeriodRow : OpenClaim := { program := "ytlplngafncobkab", sum := "c531492ede17eecc0cf0b2780bb6961afdacacb94746ac8d344618c37bb7b095", func := "loop.example/g01234/laws.FnExactPairsOfPeriod", spec := "fnExactPairsOfPeriod", unfollowed := true, recurses := true, apart := false }
def FnExactPairsOfPeriodSaid : Prop := fnExactPairsOfPeriodRow.holds Try.pinned (OpenSpec.ofChange fnExactPairsOfPeriodSpec)

/-- ITS FALSE NEIGHBOUR: 'it returns false'. Refute it at one input. -/
def fnExactPairsOfPeriodWrong : ChangeSpec := { name := "fnExactPairsOfPeriod", fn := fun _ => fun
  | [d] => { results := [.lit (.bool false)], args := [d] }
  | _ => none }
def FnExactPairsOfPeriodWrongFalsely : Prop := fnExactPairsOfPeriodRow.holds Try.pinned (OpenSpec.ofChange fnExactPairsOfPeriodWrong)

/-- 'laws.FnExactPairOf': WHATEVER THE INPUT: true; the input reads as it did. -/
def fnExactPairOfSpec : ChangeSpec := { name := "fnExactPairOf", fn := fun _ => fun
  | [d] => { results := [.lit (.bool true)], args := [d] }
  | _ => none }
def fnExactPairOfRow : OpenClaim := { program := "ytlplngafncobkab", sum := "c531492ede17eecc0cf0b2780bb6961afdacacb94746ac8d344618c37bb7b095", func := "loop.example/g01234/laws.FnExactPairOf", spec := "fnExactPairOf", unfollowed := true, recurses := true, apart := false }
def FnExactPairOfSaid : Prop := fnExactPairOfRow.holds Try.pinned (OpenSpec.ofChange fnExactPairOfSpec)

/-- ITS FALSE NEIGHBOUR: 'it returns false'. Refute it at one input. -/
def fnExactPairOfWrong : ChangeSpec := { name := "fnExactPairOf", fn := fun _ => fun
  | [d] => { results := [.lit (.bool false)], args := [d] }
  | _ => none }
def FnExactPairOfWrongFalsely : Prop := fnExactPairOfRow.holds Try.pinned (OpenSpec.ofChange fnExactPairOfWrong)

/-- 'laws.FnExactPartnerOf': WHATEVER THE INPUT: true; the input reads as it did. -/
def fnExactPartnerOfSpec : ChangeSpec := { name := "fnExactPartnerOf", fn := fun _ => fun
  | [d] => { results := [.lit (.bool true)], args := [d] }
  | _ => none }
def fnExactPartnerOfRow : OpenClaim := { program := "ytlplngafncobkab", sum := "c531492ede17eecc0cf0b2780bb6961afdacacb94746ac8d344618c37bb7b095", func := "loop.example/g01234/laws.FnExactPartnerOf", spec := "fnExactPartnerOf", unfollowed := true, recurses := true, apart := false }
def FnExactPartnerOfSaid : Prop := fnExactPartnerOfRow.holds Try.pinned (OpenSpec.ofChange fnExactPartnerOfSpec)

/-- ITS FALSE NEIGHBOUR: 'it returns false'. Refute it at one input. -/
def fnExactPartnerOfWrong : ChangeSpec := { name := "fnExactPartnerOf", fn := fun _ => fun
  | [d] => { results := [.lit (.bool false)], args := [d] }
  | _ => none }
def FnExactPartnerOfWrongFalsely : Prop := fnExactPartnerOfRow.holds Try.pinned (OpenSpec.ofChange fnExactPartnerOfWrong)

/-- 'laws.FnExactWidthOf': WHATEVER THE INPUT: true; the input reads as it did. -/
def fnExactWidthOfSpec : ChangeSpec := { name := "fnExactWidthOf", fn := fun _ => fun
  | [d] => { results := [.lit (.bool true)], args := [d] }
  | _ => none }
def fnExactWidthOfRow : OpenClaim := { program := "ytlplngafncobkab", sum := "c531492ede17eecc0cf0b2780bb6961afdacacb94746ac8d344618c37bb7b095", func := "loop.example/g01234/laws.FnExactWidthOf", spec := "fnExactWidthOf", unfollowed := true, recurses := true, apart := false }
def FnExactWidthOfSaid : Prop := fnExactWidthOfRow.holds Try.pinned (OpenSpec.ofChange fnExactWidthOfSpec)

/-- ITS FALSE NEIGHBOUR: 'it returns false'. Refute it at one input. -/
def fnExactWidthOfWrong : ChangeSpec := { name := "fnExactWidthOf", fn := fun _ => fun
  | [d] => { results := [.lit (.bool false)], args := [d] }
  | _ => none }
def FnExactWidthOfWrongFalsely : Prop := fnExactWidthOfRow.holds Try.pinned (OpenSpec.ofChange fnExactWidthOfWrong)

/-- 'laws.FnExactDepthOf': WHATEVER THE INPUT: true; the input reads as it did. -/
def fnExactDepthOfSpec : ChangeSpec := { name := "fnExactDepthOf", fn := fun _ => fun
  | [d] => { results := [.lit (.bool true)], args := [d] }
  | _ => none }
def fnExactDepthOfRow : OpenClaim := { program := "ytlplngafncobkab", sum := "c531492ede17eecc0cf0b2780bb6961afdacacb94746ac8d344618c37bb7b095", func := "loop.example/g01234/laws.FnExactDepthOf", spec := "fnExactDepthOf", unfollowed := true, recurses := true, apart := false }
def FnExactDepthOfSaid : Prop := fnExactDepthOfRow.holds Try.pinned (OpenSpec.ofChange fnExactDepthOfSpec)

/-- ITS FALSE NEIGHBOUR: 'it returns false'. Refute it at one input. -/
def fnExactDepthOfWrong : ChangeSpec := { name := "fnExactDepthOf", fn := fun _ => fun
  | [d] => { results := [.lit (.bool false)], args := [d] }
  | _ => none }
def FnExactDepthOfWrongFalsely : Prop := fnExactDepthOfRow.holds Try.pinned (OpenSpec.ofChange fnExactDepthOfWrong)

/-- 'laws.FnExactIsSatellite': WHATEVER THE INPUT: true; the input reads as it did. -/
def fnExactIsSatelliteSpec : ChangeSpec := { name := "fnExactIsSatellite", fn := fun _ => fun
  | [d] => { results := [.lit (.bool true)], args := [d] }
  | _ => none }
def fnExactIsSatelliteRow : OpenClaim := { program := "ytlplngafncobkab", sum := "c531492ede17eecc0cf0b2780bb6961afdacacb94746ac8d344618c37bb7b095", func := "loop.example/g01234/laws.FnExactIsSatellite", spec := "fnExactIsSatellite", unfollowed := true, recurses := true, apart := false }
def FnExactIsSatelliteSaid : Prop := fnExactIsSatelliteRow.holds Try.pinned (OpenSpec.ofChange fnExactIsSatelliteSpec)

/-- ITS FALSE NEIGHBOUR: 'it returns false'. Refute it at one input. -/
def fnExactIsSatelliteWrong : ChangeSpec := { name := "fnExactIsSatellite", fn := fun _ => fun
  | [d] => { results := [.lit (.bool false)], args := [d] }
  | _ => none }
def FnExactIsSatelliteWrongFalsely : Prop := fnExactIsSatelliteRow.holds Try.pinned (OpenSpec.ofChange fnExactIsSatelliteWrong)

/-- 'laws.FnExactCountSatellites': WHATEVER THE INPUT: true; the input reads as it did. -/
def fnExactCountSatellitesSpec : ChangeSpec := { name := "fnExactCountSatellites", fn := fun _ => fun
  | [d] => { results := [.lit (.bool true)], args := [d] }
  | _ => none }
def fnExactCountSatellitesRow : OpenClaim := { program := "ytlplngafncobkab", sum := "c531492ede17eecc0cf0b2780bb6961afdacacb94746ac8d344618c37bb7b095", func := "loop.example/g01234/laws.FnExactCountSatellites", spec := "fnExactCountSatellites", unfollowed := true, recurses := true, apart := false }
def FnExactCountSatellitesSaid : Prop := fnExactCountSatellitesRow.holds Try.pinned (OpenSpec.ofChange fnExactCountSatellitesSpec)

/-- ITS FALSE NEIGHBOUR: 'it returns false'. Refute it at one input. -/
def fnExactCountSatellitesWrong : ChangeSpec := { name := "fnExactCountSatellites", fn := fun _ => fun
  | [d] => { results := [.lit (.bool false)], args := [d] }
  | _ => none }
def FnExactCountSatellitesWrongFalsely : Prop := fnExactCountSatellitesRow.holds Try.pinned (OpenSpec.ofChange fnExactCountSatellitesWrong)

/-- 'laws.FnLimbs': WHATEVER THE INPUT: true; the input reads as it did. -/
def fnLimbsSpec : ChangeSpec := { name := "fnLimbs", fn := fun _ => fun
  | [d] => { results := [.lit (.bool true)], args := [d] }
  | _ => none }
def fnLimbsRow : OpenClaim := { program := "ytlplngafncobkab", sum := "c531492ede17eecc0cf0b2780bb6961afdacacb94746ac8d344618c37bb7b095", func := "loop.example/g01234/laws.FnLimbs", spec := "fnLimbs", unfollowed := true, recurses := true, apart := false }
def FnLimbsSaid : Prop := fnLimbsRow.holds Try.pinned (OpenSpec.ofChange fnLimbsSpec)

/-- ITS FALSE NEIGHBOUR: 'it returns false'. Refute it at one input. -/
def fnLimbsWrong : ChangeSpec := { name := "fnLimbs", fn := fun _ => fun
  | [d] => { results := [.lit (.bool false)], args := [d] }
  | _ => none }
def FnLimbsWrongFalsely : Prop := fnLimbsRow.holds Try.pinned (OpenSpec.ofChange fnLimbsWrong)

/- THE SECOND FORM. 'bulk': how many values and letters a reading holds, each counted each time it is reached (what is shared counts as often as it is met; a slice's spare places count too). A statement '..UptoSaid' is the law's where the arguments, and the package variables that the reading takes, are together of bulk at most 1048576: NARROWER than '..Said'. Prove '..Said' where nothing that the law and all that it calls make is longer than what came in: it says more and counts as full. Else prove '..UptoSaid'. A law counts once. -/
mutual
def uptoBulk {H : Type} : DataW H → Nat
  | .lit (.string bytes) => bytes.length + 1
  | .lit _ => 1
  | .nil => 1
  | .ptr d => uptoBulk d + 1
  | .slice elems spare => uptoBulkAll elems + uptoBulkAll spare + 1
  | .agg parts => uptoBulkAll parts + 1
  | .iface _ d => uptoBulk d + 1
  | .map entries => uptoBulkEntries entries + 1
  | .held _ => 1
def uptoBulkAll {H : Type} : List (DataW H) → Nat
  | [] => 0
  | d :: r => uptoBulk d + uptoBulkAll r
def uptoBulkEntries {H : Type} : List (Lit × DataW H) → Nat
  | [] => 0
  | x :: r => uptoBulkEntry x + uptoBulkEntries r
def uptoBulkEntry {H : Type} : Lit × DataW H → Nat
  | (.string bytes, d) => bytes.length + uptoBulk d + 1
  | (_, d) => uptoBulk d + 1
 end
def uptoSmall : (H : Type) → List (DataW H) → Bool := fun _ ds => decide (uptoBulkAll ds ≤ 1048576)
def OpenSpec.upto (s : _root_.Go.ChangeSpec) : _root_.Go.OpenSpec := { _root_.Go.OpenSpec.ofChange s with cond := some uptoSmall }

/-- 'laws.FnExactWakesAround', WHERE WHAT IT READS IS OF BULK AT MOST 1048576: true; the input reads as it did. -/
def fnExactWakesAroundUptoRow : OpenClaim := { program := "ytlplngafncobkab", sum := "c531492ede17eecc0cf0b2780bb6961afdacacb94746ac8d344618c37bb7b095", func := "loop.example/g01234/laws.FnExactWakesAround", spec := "fnExactWakesAround", unfollowed := true, recurses := true, apart := false, narrowed := true }
def FnExactWakesAroundUptoSaid : Prop := fnExactWakesAroundUptoRow.holds Try.pinned (OpenSpec.upto fnExactWakesAroundSpec)

/-- 'laws.FnExactAreObstructed', WHERE WHAT IT READS IS OF BULK AT MOST 1048576: true; the input reads as it did. -/
def fnExactAreObstructedUptoRow : OpenClaim := { program := "ytlplngafncobkab", sum := "c531492ede17eecc0cf0b2780bb6961afdacacb94746ac8d344618c37bb7b095", func := "loop.example/g01234/laws.FnExactAreObstructed", spec := "fnExactAreObstructed", unfollowed := true, recurses := true, apart := false, narrowed := true }
def FnExactAreObstructedUptoSaid : Prop := fnExactAreObstructedUptoRow.holds Try.pinned (OpenSpec.upto fnExactAreObstructedSpec)

/-- 'laws.FnExactLimbOf', WHERE WHAT IT READS IS OF BULK AT MOST 1048576: true; the input reads as it did. -/
def fnExactLimbOfUptoRow : OpenClaim := { program := "ytlplngafncobkab", sum := "c531492ede17eecc0cf0b2780bb6961afdacacb94746ac8d344618c37bb7b095", func := "loop.example/g01234/laws.FnExactLimbOf", spec := "fnExactLimbOf", unfollowed := true, recurses := true, apart := false, narrowed := true }
def FnExactLimbOfUptoSaid : Prop := fnExactLimbOfUptoRow.holds Try.pinned (OpenSpec.upto fnExactLimbOfSpec)

/-- 'laws.FnExactParentOf', WHERE WHAT IT READS IS OF BULK AT MOST 1048576: true; the input reads as it did. -/
def fnExactParentOfUptoRow : OpenClaim := { program := "ytlplngafncobkab", sum := "c531492ede17eecc0cf0b2780bb6961afdacacb94746ac8d344618c37bb7b095", func := "loop.example/g01234/laws.FnExactParentOf", spec := "fnExactParentOf", unfollowed := true, recurses := true, apart := false, narrowed := true }
def FnExactParentOfUptoSaid : Prop := fnExactParentOfUptoRow.holds Try.pinned (OpenSpec.upto fnExactParentOfSpec)

/-- 'laws.FnExactPairsOfPeriod', WHERE WHAT IT READS IS OF BULK AT MOST 1048576: true; the input reads as it did. -/
def fnExactPairsOfPeriodUptoRow : OpenClaim := { program := "ytlplngafncobkab", sum := "c531492ede17eecc0cf0b2780bb6961afdacacb94746ac8d344618c37bb7b095", func := "loop.example/g01234/laws.FnExactPairsOfPeriod", spec := "fnExactPairsOfPeriod", unfollowed := true, recurses := true, apart := false, narrowed := true }
def FnExactPairsOfPeriodUptoSaid : Prop := fnExactPairsOfPeriodUptoRow.holds Try.pinned (OpenSpec.upto fnExactPairsOfPeriodSpec)

/-- 'laws.FnExactPairOf', WHERE WHAT IT READS IS OF BULK AT MOST 1048576: true; the input reads as it did. -/
def fnExactPairOfUptoRow : OpenClaim := { program := "ytlplngafncobkab", sum := "c531492ede17eecc0cf0b2780bb6961afdacacb94746ac8d344618c37bb7b095", func := "loop.example/g01234/laws.FnExactPairOf", spec := "fnExactPairOf", unfollowed := true, recurses := true, apart := false, narrowed := true }
def FnExactPairOfUptoSaid : Prop := fnExactPairOfUptoRow.holds Try.pinned (OpenSpec.upto fnExactPairOfSpec)

/-- 'laws.FnExactPartnerOf', WHERE WHAT IT READS IS OF BULK AT MOST 1048576: true; the input reads as it did. -/
def fnExactPartnerOfUptoRow : OpenClaim := { program := "ytlplngafncobkab", sum := "c531492ede17eecc0cf0b2780bb6961afdacacb94746ac8d344618c37bb7b095", func := "loop.example/g01234/laws.FnExactPartnerOf", spec := "fnExactPartnerOf", unfollowed := true, recurses := true, apart := false, narrowed := true }
def FnExactPartnerOfUptoSaid : Prop := fnExactPartnerOfUptoRow.holds Try.pinned (OpenSpec.upto fnExactPartnerOfSpec)

/-- 'laws.FnExactWidthOf', WHERE WHAT IT READS IS OF BULK AT MOST 1048576: true; the input reads as it did. -/
def fnExactWidthOfUptoRow : OpenClaim := { program := "ytlplngafncobkab", sum := "c531492ede17eecc0cf0b2780bb6961afdacacb94746ac8d344618c37bb7b095", func := "loop.example/g01234/laws.FnExactWidthOf", spec := "fnExactWidthOf", unfollowed := true, recurses := true, apart := false, narrowed := true }
def FnExactWidthOfUptoSaid : Prop := fnExactWidthOfUptoRow.holds Try.pinned (OpenSpec.upto fnExactWidthOfSpec)

/-- 'laws.FnExactDepthOf', WHERE WHAT IT READS IS OF BULK AT MOST 1048576: true; the input reads as it did. -/
def fnExactDepthOfUptoRow : OpenClaim := { program := "ytlplngafncobkab", sum := "c531492ede17eecc0cf0b2780bb6961afdacacb94746ac8d344618c37bb7b095", func := "loop.example/g01234/laws.FnExactDepthOf", spec := "fnExactDepthOf", unfollowed := true, recurses := true, apart := false, narrowed := true }
def FnExactDepthOfUptoSaid : Prop := fnExactDepthOfUptoRow.holds Try.pinned (OpenSpec.upto fnExactDepthOfSpec)

/-- 'laws.FnExactIsSatellite', WHERE WHAT IT READS IS OF BULK AT MOST 1048576: true; the input reads as it did. -/
def fnExactIsSatelliteUptoRow : OpenClaim := { program := "ytlplngafncobkab", sum := "c531492ede17eecc0cf0b2780bb6961afdacacb94746ac8d344618c37bb7b095", func := "loop.example/g01234/laws.FnExactIsSatellite", spec := "fnExactIsSatellite", unfollowed := true, recurses := true, apart := false, narrowed := true }
def FnExactIsSatelliteUptoSaid : Prop := fnExactIsSatelliteUptoRow.holds Try.pinned (OpenSpec.upto fnExactIsSatelliteSpec)

/-- 'laws.FnExactCountSatellites', WHERE WHAT IT READS IS OF BULK AT MOST 1048576: true; the input reads as it did. -/
def fnExactCountSatellitesUptoRow : OpenClaim := { program := "ytlplngafncobkab", sum := "c531492ede17eecc0cf0b2780bb6961afdacacb94746ac8d344618c37bb7b095", func := "loop.example/g01234/laws.FnExactCountSatellites", spec := "fnExactCountSatellites", unfollowed := true, recurses := true, apart := false, narrowed := true }
def FnExactCountSatellitesUptoSaid : Prop := fnExactCountSatellitesUptoRow.holds Try.pinned (OpenSpec.upto fnExactCountSatellitesSpec)

/-- 'laws.FnLimbs', WHERE WHAT IT READS IS OF BULK AT MOST 1048576: true; the input reads as it did. -/
def fnLimbsUptoRow : OpenClaim := { program := "ytlplngafncobkab", sum := "c531492ede17eecc0cf0b2780bb6961afdacacb94746ac8d344618c37bb7b095", func := "loop.example/g01234/laws.FnLimbs", spec := "fnLimbs", unfollowed := true, recurses := true, apart := false, narrowed := true }
def FnLimbsUptoSaid : Prop := fnLimbsUptoRow.holds Try.pinned (OpenSpec.upto fnLimbsSpec)

end Rows
end Go.Proofs.Ytlplngafncobkab
