/-
  DERIVED. GIVEN WITH THE SEED: THE CARDS: each row of YtdoofgbeajkpaaaGreatDoorRows.lean that lists a variable, with what it lists TIED to the program's text (the seventh form; the later family's looks); each row that meets fmt, with fmt's text TOLD by the authors' own Lean function (tested against real Go, not proved from fmt's source: count such statements apart). THE CARD IS WHAT COUNTS. Prove the row's statement (the work); the ties are given (YtdoofgbeajkpaaaGreatDoorTie.lean); close each card by the builder's one call (the guide's Derived/Test/ToyasCard.lean, 'card_holds'). Laid BY PROGRAM, IN A SANDBOX (cutbox-door.mjs). By AI agents, Wed Nov 11 2026. No macro, syntax, notation, axiom, sorry.
-/
import Derived.Test.YtdoofgbeajkpaaaGreatDoorRows
import GoSem.ClaimSeven
namespace Go.Proofs.YtdoofgbeajkpaaaGreatDoor
namespace Rows

/-- THE TIED CARD OF 'tollwaytop.TopParking'. -/
def topParkingCard : Claim7 := { stood := { row := topParkingRow, standIns := [], harness := (true, "2bf70da1d746e184627420e64502071201e0a26de5bbeacf158bda307da7c271"), looks := false }, kinds := [], alts := [], laidByText := true, laidKinds := [.data, .data, .data], laidTests := true, laidLooks := .later }
def TopParkingCardSaid : Prop := Claim7.holds Tryz.pinned (.plain (OpenSpec.ofChange topParkingSpec)) topParkingCard

/-- THE TIED CARD OF 'tollwaylaw30.StayPairs'. -/
def stayPairsCard : Claim7 := { stood := { row := stayPairsRow, standIns := [], harness := (true, "2bf70da1d746e184627420e64502071201e0a26de5bbeacf158bda307da7c271"), looks := false }, kinds := [], alts := [], laidByText := true, laidKinds := [.data, .data, .data], laidTests := true, laidLooks := .later }
def StayPairsCardSaid : Prop := Claim7.holds Tryz.pinned (.plain (OpenSpec.ofChange stayPairsSpec)) stayPairsCard

/-- THE TIED CARD OF 'tollwaylaw30.StayChecks'. -/
def stayChecksCard : Claim7 := { stood := { row := stayChecksRow, standIns := [], harness := (true, "2bf70da1d746e184627420e64502071201e0a26de5bbeacf158bda307da7c271"), looks := false }, kinds := [], alts := [], laidByText := true, laidKinds := [.data, .data, .data], laidTests := true, laidLooks := .later }
def StayChecksCardSaid : Prop := Claim7.holds Tryz.pinned (.plain (OpenSpec.ofChange stayChecksSpec)) stayChecksCard

/-- THE TIED CARD OF 'tollwaylaw30.StayUnpaid'. -/
def stayUnpaidCard : Claim7 := { stood := { row := stayUnpaidRow, standIns := [], harness := (true, "2bf70da1d746e184627420e64502071201e0a26de5bbeacf158bda307da7c271"), looks := false }, kinds := [], alts := [], laidByText := true, laidKinds := [.data, .data, .data], laidTests := true, laidLooks := .later }
def StayUnpaidCardSaid : Prop := Claim7.holds Tryz.pinned (.plain (OpenSpec.ofChange stayUnpaidSpec)) stayUnpaidCard

/-- THE TIED CARD OF 'tollwaylaw30.StayCounts'. -/
def stayCountsCard : Claim7 := { stood := { row := stayCountsRow, standIns := [], harness := (true, "2bf70da1d746e184627420e64502071201e0a26de5bbeacf158bda307da7c271"), looks := false }, kinds := [], alts := [], laidByText := true, laidKinds := [.data, .data, .data], laidTests := true, laidLooks := .later }
def StayCountsCardSaid : Prop := Claim7.holds Tryz.pinned (.plain (OpenSpec.ofChange stayCountsSpec)) stayCountsCard

/-- THE TIED CARD OF 'tollwaylaw30.StayTurns'. -/
def stayTurnsCard : Claim7 := { stood := { row := stayTurnsRow, standIns := [], harness := (true, "2bf70da1d746e184627420e64502071201e0a26de5bbeacf158bda307da7c271"), looks := false }, kinds := [], alts := [], laidByText := true, laidKinds := [.data, .data, .data], laidTests := true, laidLooks := .later }
def StayTurnsCardSaid : Prop := Claim7.holds Tryz.pinned (.plain (OpenSpec.ofChange stayTurnsSpec)) stayTurnsCard

/-- THE TIED CARD OF 'tollwaylaw30.StayOnce'. -/
def stayOnceCard : Claim7 := { stood := { row := stayOnceRow, standIns := [], harness := (true, "2bf70da1d746e184627420e64502071201e0a26de5bbeacf158bda307da7c271"), looks := false }, kinds := [], alts := [], laidByText := true, laidKinds := [.data, .data, .data], laidTests := true, laidLooks := .later }
def StayOnceCardSaid : Prop := Claim7.holds Tryz.pinned (.plain (OpenSpec.ofChange stayOnceSpec)) stayOnceCard

/-- THE TIED CARD OF 'tollwaylaw30.StayPeaks'. -/
def stayPeaksCard : Claim7 := { stood := { row := stayPeaksRow, standIns := [], harness := (true, "2bf70da1d746e184627420e64502071201e0a26de5bbeacf158bda307da7c271"), looks := false }, kinds := [], alts := [], laidByText := true, laidKinds := [.data, .data, .data], laidTests := true, laidLooks := .later }
def StayPeaksCardSaid : Prop := Claim7.holds Tryz.pinned (.plain (OpenSpec.ofChange stayPeaksSpec)) stayPeaksCard

/-- THE TIED CARD OF 'tollwaylaw30.StaySeconds'. -/
def staySecondsCard : Claim7 := { stood := { row := staySecondsRow, standIns := [], harness := (true, "2bf70da1d746e184627420e64502071201e0a26de5bbeacf158bda307da7c271"), looks := false }, kinds := [], alts := [], laidByText := true, laidKinds := [.data, .data, .data], laidTests := true, laidLooks := .later }
def StaySecondsCardSaid : Prop := Claim7.holds Tryz.pinned (.plain (OpenSpec.ofChange staySecondsSpec)) staySecondsCard

/-- THE SECOND FORM's CARD OF 'tollwaytop.TopParking'. -/
def topParkingUptoCard : Claim7 := { stood := { row := topParkingUptoRow, standIns := [], harness := (true, "2bf70da1d746e184627420e64502071201e0a26de5bbeacf158bda307da7c271"), looks := false }, kinds := [], alts := [], laidByText := true, laidKinds := [.data, .data, .data], laidTests := true, laidLooks := .later }
def TopParkingUptoCardSaid : Prop := Claim7.holds Tryz.pinned (.plain (OpenSpec.upto topParkingSpec)) topParkingUptoCard

/-- THE SECOND FORM's CARD OF 'tollwaylaw30.StayPairs'. -/
def stayPairsUptoCard : Claim7 := { stood := { row := stayPairsUptoRow, standIns := [], harness := (true, "2bf70da1d746e184627420e64502071201e0a26de5bbeacf158bda307da7c271"), looks := false }, kinds := [], alts := [], laidByText := true, laidKinds := [.data, .data, .data], laidTests := true, laidLooks := .later }
def StayPairsUptoCardSaid : Prop := Claim7.holds Tryz.pinned (.plain (OpenSpec.upto stayPairsSpec)) stayPairsUptoCard

/-- THE SECOND FORM's CARD OF 'tollwaylaw30.StayChecks'. -/
def stayChecksUptoCard : Claim7 := { stood := { row := stayChecksUptoRow, standIns := [], harness := (true, "2bf70da1d746e184627420e64502071201e0a26de5bbeacf158bda307da7c271"), looks := false }, kinds := [], alts := [], laidByText := true, laidKinds := [.data, .data, .data], laidTests := true, laidLooks := .later }
def StayChecksUptoCardSaid : Prop := Claim7.holds Tryz.pinned (.plain (OpenSpec.upto stayChecksSpec)) stayChecksUptoCard

/-- THE SECOND FORM's CARD OF 'tollwaylaw30.StayUnpaid'. -/
def stayUnpaidUptoCard : Claim7 := { stood := { row := stayUnpaidUptoRow, standIns := [], harness := (true, "2bf70da1d746e184627420e64502071201e0a26de5bbeacf158bda307da7c271"), looks := false }, kinds := [], alts := [], laidByText := true, laidKinds := [.data, .data, .data], laidTests := true, laidLooks := .later }
def StayUnpaidUptoCardSaid : Prop := Claim7.holds Tryz.pinned (.plain (OpenSpec.upto stayUnpaidSpec)) stayUnpaidUptoCard

/-- THE SECOND FORM's CARD OF 'tollwaylaw30.StayCounts'. -/
def stayCountsUptoCard : Claim7 := { stood := { row := stayCountsUptoRow, standIns := [], harness := (true, "2bf70da1d746e184627420e64502071201e0a26de5bbeacf158bda307da7c271"), looks := false }, kinds := [], alts := [], laidByText := true, laidKinds := [.data, .data, .data], laidTests := true, laidLooks := .later }
def StayCountsUptoCardSaid : Prop := Claim7.holds Tryz.pinned (.plain (OpenSpec.upto stayCountsSpec)) stayCountsUptoCard

/-- THE SECOND FORM's CARD OF 'tollwaylaw30.StayTurns'. -/
def stayTurnsUptoCard : Claim7 := { stood := { row := stayTurnsUptoRow, standIns := [], harness := (true, "2bf70da1d746e184627420e64502071201e0a26de5bbeacf158bda307da7c271"), looks := false }, kinds := [], alts := [], laidByText := true, laidKinds := [.data, .data, .data], laidTests := true, laidLooks := .later }
def StayTurnsUptoCardSaid : Prop := Claim7.holds Tryz.pinned (.plain (OpenSpec.upto stayTurnsSpec)) stayTurnsUptoCard

/-- THE SECOND FORM's CARD OF 'tollwaylaw30.StayOnce'. -/
def stayOnceUptoCard : Claim7 := { stood := { row := stayOnceUptoRow, standIns := [], harness := (true, "2bf70da1d746e184627420e64502071201e0a26de5bbeacf158bda307da7c271"), looks := false }, kinds := [], alts := [], laidByText := true, laidKinds := [.data, .data, .data], laidTests := true, laidLooks := .later }
def StayOnceUptoCardSaid : Prop := Claim7.holds Tryz.pinned (.plain (OpenSpec.upto stayOnceSpec)) stayOnceUptoCard

/-- THE SECOND FORM's CARD OF 'tollwaylaw30.StayPeaks'. -/
def stayPeaksUptoCard : Claim7 := { stood := { row := stayPeaksUptoRow, standIns := [], harness := (true, "2bf70da1d746e184627420e64502071201e0a26de5bbeacf158bda307da7c271"), looks := false }, kinds := [], alts := [], laidByText := true, laidKinds := [.data, .data, .data], laidTests := true, laidLooks := .later }
def StayPeaksUptoCardSaid : Prop := Claim7.holds Tryz.pinned (.plain (OpenSpec.upto stayPeaksSpec)) stayPeaksUptoCard

/-- THE SECOND FORM's CARD OF 'tollwaylaw30.StaySeconds'. -/
def staySecondsUptoCard : Claim7 := { stood := { row := staySecondsUptoRow, standIns := [], harness := (true, "2bf70da1d746e184627420e64502071201e0a26de5bbeacf158bda307da7c271"), looks := false }, kinds := [], alts := [], laidByText := true, laidKinds := [.data, .data, .data], laidTests := true, laidLooks := .later }
def StaySecondsUptoCardSaid : Prop := Claim7.holds Tryz.pinned (.plain (OpenSpec.upto staySecondsSpec)) staySecondsUptoCard
end Rows
end Go.Proofs.YtdoofgbeajkpaaaGreatDoor
