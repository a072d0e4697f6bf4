/-
  DERIVED. GIVEN WITH THE SEED: THE CARDS: each row of YtckjmdppjealdaaGreatDoorRows.lean that lists a variable, with what it lists TIED to the program's text (the seventh form; the later family's looks); each row that meets fmt, with fmt's text TOLD by the authors' own Lean function (tested against real Go, not proved from fmt's source: count such statements apart). THE CARD IS WHAT COUNTS. Prove the row's statement (the work); the ties are given (YtckjmdppjealdaaGreatDoorTie.lean); close each card by the builder's one call (the guide's Derived/Test/ToyasCard.lean, 'card_holds'). Laid BY PROGRAM, IN A SANDBOX (cutbox-door.mjs). By AI agents, Wed Nov 11 2026. No macro, syntax, notation, axiom, sorry.
-/
import Derived.Test.YtckjmdppjealdaaGreatDoorRows
import GoSem.ClaimSeven
namespace Go.Proofs.YtckjmdppjealdaaGreatDoor
namespace Rows

/-- THE TIED CARD OF 'tollwaylaw27.SessionSteps'. -/
def sessionStepsCard : Claim7 := { stood := { row := sessionStepsRow, standIns := [], harness := (true, "e60d651a1af9da90dc426253e992453f7b6f05077294913fb038ea6dbd52c81f"), looks := true }, kinds := [], alts := [], laidByText := true, laidKinds := [.data, .data, .data], laidTests := true, laidLooks := .later }
def SessionStepsCardSaid : Prop := Claim7.holds Tryz.pinned (.plain (OpenSpec.ofChange sessionStepsSpec)) sessionStepsCard

/-- THE TIED CARD OF 'tollwaylaw27.SessionAll'. -/
def sessionAllCard : Claim7 := { stood := { row := sessionAllRow, standIns := [], harness := (true, "e60d651a1af9da90dc426253e992453f7b6f05077294913fb038ea6dbd52c81f"), looks := true }, kinds := [], alts := [], laidByText := true, laidKinds := [.data, .data, .data], laidTests := true, laidLooks := .later }
def SessionAllCardSaid : Prop := Claim7.holds Tryz.pinned (.plain (OpenSpec.ofChange sessionAllSpec)) sessionAllCard

/-- THE TIED CARD OF 'tollwaylaw42.AgencyAmounts'. -/
def agencyAmountsCard : Claim7 := { stood := { row := agencyAmountsRow, standIns := [], harness := (true, "e60d651a1af9da90dc426253e992453f7b6f05077294913fb038ea6dbd52c81f"), looks := true }, kinds := [], alts := [], laidByText := true, laidKinds := [.data, .data, .data, .data, .widerDeep, .pinned], laidTests := true, laidLooks := .later }
def AgencyAmountsCardSaid : Prop := Claim7.holds Tryz.pinned (.plain (OpenSpec.ofChange agencyAmountsSpec)) agencyAmountsCard

/-- THE TIED CARD OF 'tollwaylaw42.AgencyNets'. -/
def agencyNetsCard : Claim7 := { stood := { row := agencyNetsRow, standIns := [], harness := (true, "e60d651a1af9da90dc426253e992453f7b6f05077294913fb038ea6dbd52c81f"), looks := true }, kinds := [], alts := [], laidByText := true, laidKinds := [.data, .data, .data, .data, .widerDeep, .pinned], laidTests := true, laidLooks := .later }
def AgencyNetsCardSaid : Prop := Claim7.holds Tryz.pinned (.plain (OpenSpec.ofChange agencyNetsSpec)) agencyNetsCard

/-- THE SECOND FORM's CARD OF 'tollwaylaw27.SessionSteps'. -/
def sessionStepsUptoCard : Claim7 := { stood := { row := sessionStepsUptoRow, standIns := [], harness := (true, "e60d651a1af9da90dc426253e992453f7b6f05077294913fb038ea6dbd52c81f"), looks := true }, kinds := [], alts := [], laidByText := true, laidKinds := [.data, .data, .data], laidTests := true, laidLooks := .later }
def SessionStepsUptoCardSaid : Prop := Claim7.holds Tryz.pinned (.plain (OpenSpec.upto sessionStepsSpec)) sessionStepsUptoCard

/-- THE SECOND FORM's CARD OF 'tollwaylaw27.SessionAll'. -/
def sessionAllUptoCard : Claim7 := { stood := { row := sessionAllUptoRow, standIns := [], harness := (true, "e60d651a1af9da90dc426253e992453f7b6f05077294913fb038ea6dbd52c81f"), looks := true }, kinds := [], alts := [], laidByText := true, laidKinds := [.data, .data, .data], laidTests := true, laidLooks := .later }
def SessionAllUptoCardSaid : Prop := Claim7.holds Tryz.pinned (.plain (OpenSpec.upto sessionAllSpec)) sessionAllUptoCard

/-- THE SECOND FORM's CARD OF 'tollwaylaw42.AgencyAmounts'. -/
def agencyAmountsUptoCard : Claim7 := { stood := { row := agencyAmountsUptoRow, standIns := [], harness := (true, "e60d651a1af9da90dc426253e992453f7b6f05077294913fb038ea6dbd52c81f"), looks := true }, kinds := [], alts := [], laidByText := true, laidKinds := [.data, .data, .data, .data, .widerDeep, .pinned], laidTests := true, laidLooks := .later }
def AgencyAmountsUptoCardSaid : Prop := Claim7.holds Tryz.pinned (.plain (OpenSpec.upto agencyAmountsSpec)) agencyAmountsUptoCard

/-- THE SECOND FORM's CARD OF 'tollwaylaw42.AgencyNets'. -/
def agencyNetsUptoCard : Claim7 := { stood := { row := agencyNetsUptoRow, standIns := [], harness := (true, "e60d651a1af9da90dc426253e992453f7b6f05077294913fb038ea6dbd52c81f"), looks := true }, kinds := [], alts := [], laidByText := true, laidKinds := [.data, .data, .data, .data, .widerDeep, .pinned], laidTests := true, laidLooks := .later }
def AgencyNetsUptoCardSaid : Prop := Claim7.holds Tryz.pinned (.plain (OpenSpec.upto agencyNetsSpec)) agencyNetsUptoCard
end Rows
end Go.Proofs.YtckjmdppjealdaaGreatDoor
