/-
  DERIVED. GIVEN WITH THE SEED: THE CARDS: each row of YtkneajcbgoaadaaDoorRows.lean that lists a variable, with what it lists TIED to the program's text (the seventh form; the later family's looks); each row that meets fmt, with fmt's text TOLD by the authors' own Lean function (tested against real Go, not proved from fmt's source: count such statements apart). THE CARD IS WHAT COUNTS. Prove the row's statement (the work); the ties are given (YtkneajcbgoaadaaDoorTie.lean); close each card by the builder's one call (the guide's Derived/Test/ToyasCard.lean, 'card_holds'). Laid BY PROGRAM, IN A SANDBOX (cutbox-door.mjs). By AI agents, Wed Nov 11 2026. No macro, syntax, notation, axiom, sorry.
-/
import Derived.Test.YtkneajcbgoaadaaDoorRows
import GoSem.ClaimSeven
namespace Go.Proofs.YtkneajcbgoaadaaDoor
namespace Rows

/-- THE TIED CARD OF 'tollwaylaw42.AgencyChecks'. -/
def agencyChecksCard : Claim7 := { stood := { row := agencyChecksRow, standIns := [], harness := (true, "d49c876961a2ba3cb3b914ef0860a388d4da059250f510bc7779424643dfee61"), looks := true }, kinds := [], alts := [], laidByText := true, laidKinds := [.data, .data, .data, .data, .widerDeep, .pinned], laidTests := true, laidLooks := .later }
def AgencyChecksCardSaid : Prop := Claim7.holds Tryd.pinned (.plain (OpenSpec.ofChange agencyChecksSpec)) agencyChecksCard

/-- THE TIED CARD OF 'tollwaylaw42.AgencyPrints'. -/
def agencyPrintsCard : Claim7 := { stood := { row := agencyPrintsRow, standIns := [], harness := (true, "d49c876961a2ba3cb3b914ef0860a388d4da059250f510bc7779424643dfee61"), looks := true }, kinds := [], alts := [], laidByText := true, laidKinds := [.data, .data, .data, .data, .widerDeep, .pinned], laidTests := true, laidLooks := .later }
def AgencyPrintsCardSaid : Prop := Claim7.holds Tryd.pinned (.plain (OpenSpec.ofChange agencyPrintsSpec)) agencyPrintsCard

/-- THE TIED CARD OF 'tollwaylaw42.AgencyMany'. -/
def agencyManyCard : Claim7 := { stood := { row := agencyManyRow, standIns := [], harness := (true, "d49c876961a2ba3cb3b914ef0860a388d4da059250f510bc7779424643dfee61"), looks := true }, kinds := [], alts := [], laidByText := true, laidKinds := [.data, .data, .data, .data, .widerDeep, .pinned], laidTests := true, laidLooks := .later }
def AgencyManyCardSaid : Prop := Claim7.holds Tryd.pinned (.plain (OpenSpec.ofChange agencyManySpec)) agencyManyCard

/-- THE TIED CARD OF 'tollwaylaw42.AgencyLong'. -/
def agencyLongCard : Claim7 := { stood := { row := agencyLongRow, standIns := [], harness := (true, "d49c876961a2ba3cb3b914ef0860a388d4da059250f510bc7779424643dfee61"), looks := true }, kinds := [], alts := [], laidByText := true, laidKinds := [.data, .data, .data, .data, .widerDeep, .pinned], laidTests := true, laidLooks := .later }
def AgencyLongCardSaid : Prop := Claim7.holds Tryd.pinned (.plain (OpenSpec.ofChange agencyLongSpec)) agencyLongCard

/-- THE TIED CARD OF 'tollwaylaw42.AgencyBack'. -/
def agencyBackCard : Claim7 := { stood := { row := agencyBackRow, standIns := [], harness := (true, "d49c876961a2ba3cb3b914ef0860a388d4da059250f510bc7779424643dfee61"), looks := true }, kinds := [], alts := [], laidByText := true, laidKinds := [.data, .data, .data, .data, .widerDeep, .pinned], laidTests := true, laidLooks := .later }
def AgencyBackCardSaid : Prop := Claim7.holds Tryd.pinned (.plain (OpenSpec.ofChange agencyBackSpec)) agencyBackCard

/-- THE TIED CARD OF 'tollwaylaw42.AgencyOnly'. -/
def agencyOnlyCard : Claim7 := { stood := { row := agencyOnlyRow, standIns := [], harness := (true, "d49c876961a2ba3cb3b914ef0860a388d4da059250f510bc7779424643dfee61"), looks := true }, kinds := [], alts := [], laidByText := true, laidKinds := [.data, .data, .data, .data, .widerDeep, .pinned], laidTests := true, laidLooks := .later }
def AgencyOnlyCardSaid : Prop := Claim7.holds Tryd.pinned (.plain (OpenSpec.ofChange agencyOnlySpec)) agencyOnlyCard

/-- THE SECOND FORM's CARD OF 'tollwaylaw42.AgencyChecks'. -/
def agencyChecksUptoCard : Claim7 := { stood := { row := agencyChecksUptoRow, standIns := [], harness := (true, "d49c876961a2ba3cb3b914ef0860a388d4da059250f510bc7779424643dfee61"), looks := true }, kinds := [], alts := [], laidByText := true, laidKinds := [.data, .data, .data, .data, .widerDeep, .pinned], laidTests := true, laidLooks := .later }
def AgencyChecksUptoCardSaid : Prop := Claim7.holds Tryd.pinned (.plain (OpenSpec.upto agencyChecksSpec)) agencyChecksUptoCard

/-- THE SECOND FORM's CARD OF 'tollwaylaw42.AgencyPrints'. -/
def agencyPrintsUptoCard : Claim7 := { stood := { row := agencyPrintsUptoRow, standIns := [], harness := (true, "d49c876961a2ba3cb3b914ef0860a388d4da059250f510bc7779424643dfee61"), looks := true }, kinds := [], alts := [], laidByText := true, laidKinds := [.data, .data, .data, .data, .widerDeep, .pinned], laidTests := true, laidLooks := .later }
def AgencyPrintsUptoCardSaid : Prop := Claim7.holds Tryd.pinned (.plain (OpenSpec.upto agencyPrintsSpec)) agencyPrintsUptoCard

/-- THE SECOND FORM's CARD OF 'tollwaylaw42.AgencyMany'. -/
def agencyManyUptoCard : Claim7 := { stood := { row := agencyManyUptoRow, standIns := [], harness := (true, "d49c876961a2ba3cb3b914ef0860a388d4da059250f510bc7779424643dfee61"), looks := true }, kinds := [], alts := [], laidByText := true, laidKinds := [.data, .data, .data, .data, .widerDeep, .pinned], laidTests := true, laidLooks := .later }
def AgencyManyUptoCardSaid : Prop := Claim7.holds Tryd.pinned (.plain (OpenSpec.upto agencyManySpec)) agencyManyUptoCard

/-- THE SECOND FORM's CARD OF 'tollwaylaw42.AgencyLong'. -/
def agencyLongUptoCard : Claim7 := { stood := { row := agencyLongUptoRow, standIns := [], harness := (true, "d49c876961a2ba3cb3b914ef0860a388d4da059250f510bc7779424643dfee61"), looks := true }, kinds := [], alts := [], laidByText := true, laidKinds := [.data, .data, .data, .data, .widerDeep, .pinned], laidTests := true, laidLooks := .later }
def AgencyLongUptoCardSaid : Prop := Claim7.holds Tryd.pinned (.plain (OpenSpec.upto agencyLongSpec)) agencyLongUptoCard

/-- THE SECOND FORM's CARD OF 'tollwaylaw42.AgencyBack'. -/
def agencyBackUptoCard : Claim7 := { stood := { row := agencyBackUptoRow, standIns := [], harness := (true, "d49c876961a2ba3cb3b914ef0860a388d4da059250f510bc7779424643dfee61"), looks := true }, kinds := [], alts := [], laidByText := true, laidKinds := [.data, .data, .data, .data, .widerDeep, .pinned], laidTests := true, laidLooks := .later }
def AgencyBackUptoCardSaid : Prop := Claim7.holds Tryd.pinned (.plain (OpenSpec.upto agencyBackSpec)) agencyBackUptoCard

/-- THE SECOND FORM's CARD OF 'tollwaylaw42.AgencyOnly'. -/
def agencyOnlyUptoCard : Claim7 := { stood := { row := agencyOnlyUptoRow, standIns := [], harness := (true, "d49c876961a2ba3cb3b914ef0860a388d4da059250f510bc7779424643dfee61"), looks := true }, kinds := [], alts := [], laidByText := true, laidKinds := [.data, .data, .data, .data, .widerDeep, .pinned], laidTests := true, laidLooks := .later }
def AgencyOnlyUptoCardSaid : Prop := Claim7.holds Tryd.pinned (.plain (OpenSpec.upto agencyOnlySpec)) agencyOnlyUptoCard
end Rows
end Go.Proofs.YtkneajcbgoaadaaDoor
