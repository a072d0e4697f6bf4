/-
  DERIVED. GIVEN WITH THE SEED: THE CARDS: each row of YtkneajcbgoaadaaGreatDoorRows.lean that lists a variable, with what it lists TIED to the program's text (the seventh form; the later family's looks); each row that meets fmt, with fmt's text TOLD by the authors' own Lean function (tested against real Go, not proved from fmt's source: count such statements apart). THE CARD IS WHAT COUNTS. Prove the row's statement (the work); the ties are given (YtkneajcbgoaadaaGreatDoorTie.lean); close each card by the builder's one call (the guide's Derived/Test/ToyasCard.lean, 'card_holds'). Laid BY PROGRAM, IN A SANDBOX (cutbox-door.mjs). By AI agents, Wed Nov 11 2026. No macro, syntax, notation, axiom, sorry.
-/
import Derived.Test.YtkneajcbgoaadaaGreatDoorRows
import GoSem.ClaimSeven
namespace Go.Proofs.YtkneajcbgoaadaaGreatDoor
namespace Rows

/-- THE TIED CARD OF 'tollwaylaw42.AgencyParses'. -/
def agencyParsesCard : Claim7 := { stood := { row := agencyParsesRow, standIns := [], harness := (true, "9a277d5f2110cbc2af41c8f3cbfce20f14765cbe729fead47b610322410a9e59"), looks := true }, kinds := [], alts := [], laidByText := true, laidKinds := [.data, .data, .data, .data, .widerDeep, .pinned], laidTests := true, laidLooks := .later }
def AgencyParsesCardSaid : Prop := Claim7.holds Tryz.pinned (.plain (OpenSpec.ofChange agencyParsesSpec)) agencyParsesCard

/-- THE SECOND FORM's CARD OF 'tollwaylaw42.AgencyParses'. -/
def agencyParsesUptoCard : Claim7 := { stood := { row := agencyParsesUptoRow, standIns := [], harness := (true, "9a277d5f2110cbc2af41c8f3cbfce20f14765cbe729fead47b610322410a9e59"), looks := true }, kinds := [], alts := [], laidByText := true, laidKinds := [.data, .data, .data, .data, .widerDeep, .pinned], laidTests := true, laidLooks := .later }
def AgencyParsesUptoCardSaid : Prop := Claim7.holds Tryz.pinned (.plain (OpenSpec.upto agencyParsesSpec)) agencyParsesUptoCard
end Rows
end Go.Proofs.YtkneajcbgoaadaaGreatDoor
