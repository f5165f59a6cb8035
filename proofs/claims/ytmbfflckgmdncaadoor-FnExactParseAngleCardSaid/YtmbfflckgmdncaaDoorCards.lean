/-
  DERIVED. GIVEN WITH THE SEED: THE CARDS: each row of YtmbfflckgmdncaaDoorRows.lean that lists a variable, with what it lists TIED to the program's text (the seventh form; the later family's looks); each row that meets fmt, with fmt's text TOLD by the authors' own Lean function (tested against real Go, not proved from fmt's source: count such statements apart). THE CARD IS WHAT COUNTS. Prove the row's statement (the work); the ties are given (YtmbfflckgmdncaaDoorTie.lean); close each card by the builder's one call (the guide's Derived/Test/ToyasCard.lean, 'card_holds'). Laid BY PROGRAM, IN A SANDBOX (cutbox-door.mjs). By AI agents, Wed Nov 11 2026. No macro, syntax, notation, axiom, sorry.
-/
import Derived.Test.YtmbfflckgmdncaaDoorRows
import GoSem.ClaimSeven
namespace Go.Proofs.YtmbfflckgmdncaaDoor
namespace Rows

/-- THE TIED CARD OF 'laws.FnExactAngleText'. -/
def fnExactAngleTextCard : Claim7 := { stood := { row := fnExactAngleTextRow, standIns := [], harness := (true, "6811f78fb413ac913022c65a80d83294cbfd99838618ef663342086cbd64a8a5"), looks := true }, kinds := [], alts := [], laidByText := true, laidKinds := [.data, .data, .data], laidTests := true, laidLooks := .later }
def FnExactAngleTextCardSaid : Prop := Claim7.holds Tryd.pinned (.plain (OpenSpec.ofChange fnExactAngleTextSpec)) fnExactAngleTextCard

/-- THE TIED CARD OF 'laws.FnExactParseAngle'. -/
def fnExactParseAngleCard : Claim7 := { stood := { row := fnExactParseAngleRow, standIns := [], harness := (true, "6811f78fb413ac913022c65a80d83294cbfd99838618ef663342086cbd64a8a5"), looks := true }, kinds := [], alts := [], laidByText := true, laidKinds := [.data, .data, .data, .sentinel, .sentinel], laidTests := true, laidLooks := .later }
def FnExactParseAngleCardSaid : Prop := Claim7.holds Tryd.pinned (.plain (OpenSpec.ofChange fnExactParseAngleSpec)) fnExactParseAngleCard

/-- THE SECOND FORM's CARD OF 'laws.FnExactAngleText'. -/
def fnExactAngleTextUptoCard : Claim7 := { stood := { row := fnExactAngleTextUptoRow, standIns := [], harness := (true, "6811f78fb413ac913022c65a80d83294cbfd99838618ef663342086cbd64a8a5"), looks := true }, kinds := [], alts := [], laidByText := true, laidKinds := [.data, .data, .data], laidTests := true, laidLooks := .later }
def FnExactAngleTextUptoCardSaid : Prop := Claim7.holds Tryd.pinned (.plain (OpenSpec.upto fnExactAngleTextSpec)) fnExactAngleTextUptoCard

/-- THE SECOND FORM's CARD OF 'laws.FnExactParseAngle'. -/
def fnExactParseAngleUptoCard : Claim7 := { stood := { row := fnExactParseAngleUptoRow, standIns := [], harness := (true, "6811f78fb413ac913022c65a80d83294cbfd99838618ef663342086cbd64a8a5"), looks := true }, kinds := [], alts := [], laidByText := true, laidKinds := [.data, .data, .data, .sentinel, .sentinel], laidTests := true, laidLooks := .later }
def FnExactParseAngleUptoCardSaid : Prop := Claim7.holds Tryd.pinned (.plain (OpenSpec.upto fnExactParseAngleSpec)) fnExactParseAngleUptoCard
end Rows
end Go.Proofs.YtmbfflckgmdncaaDoor
