/-
  DERIVED. GIVEN WITH THE SEED: THE CARDS: each row of YteeepgnhkfmnaaaDoorRows.lean that lists a variable, with what it lists TIED to the program's text (the seventh form; the later family's looks); each row that meets fmt, with fmt's text TOLD by the authors' own Lean function (tested against real Go, not proved from fmt's source: count such statements apart). THE CARD IS WHAT COUNTS. Prove the row's statement (the work); the ties are given (YteeepgnhkfmnaaaDoorTie.lean); close each card by the builder's one call (the guide's Derived/Test/ToyasCard.lean, 'card_holds'). Laid BY PROGRAM, IN A SANDBOX (cutbox-door.mjs). By AI agents, Wed Nov 11 2026. No macro, syntax, notation, axiom, sorry.
-/
import Derived.Test.YteeepgnhkfmnaaaDoorRows
import GoSem.ClaimSeven
namespace Go.Proofs.YteeepgnhkfmnaaaDoor
namespace Rows

/-- THE TIED CARD OF 'tollwaylaw46.EventPrints'. -/
def eventPrintsCard : Claim7 := { stood := { row := eventPrintsRow, standIns := [], harness := (true, "7bc52a7518cb2f77b6982806e5a54834d6e76c4f552b6848c642f1fbbefb3fcc"), looks := true }, kinds := [], alts := [], laidByText := true, laidKinds := [.data, .data, .data, .data, .pinned], laidTests := true, laidLooks := .later }
def EventPrintsCardSaid : Prop := Claim7.holds Tryd.pinned (.plain (OpenSpec.ofChange eventPrintsSpec)) eventPrintsCard

/-- THE TIED CARD OF 'tollwaylaw46.EventParses'. -/
def eventParsesCard : Claim7 := { stood := { row := eventParsesRow, standIns := [], harness := (true, "7bc52a7518cb2f77b6982806e5a54834d6e76c4f552b6848c642f1fbbefb3fcc"), looks := true }, kinds := [], alts := [], laidByText := true, laidKinds := [.data, .data, .data, .data, .pinned], laidTests := true, laidLooks := .later }
def EventParsesCardSaid : Prop := Claim7.holds Tryd.pinned (.plain (OpenSpec.ofChange eventParsesSpec)) eventParsesCard

/-- THE TIED CARD OF 'tollwaylaw46.EventPuts'. -/
def eventPutsCard : Claim7 := { stood := { row := eventPutsRow, standIns := [], harness := (true, "7bc52a7518cb2f77b6982806e5a54834d6e76c4f552b6848c642f1fbbefb3fcc"), looks := true }, kinds := [], alts := [], laidByText := true, laidKinds := [.data, .data, .data, .data, .pinned], laidTests := true, laidLooks := .later }
def EventPutsCardSaid : Prop := Claim7.holds Tryd.pinned (.plain (OpenSpec.ofChange eventPutsSpec)) eventPutsCard

/-- THE TIED CARD OF 'tollwaylaw46.EventGets'. -/
def eventGetsCard : Claim7 := { stood := { row := eventGetsRow, standIns := [], harness := (true, "7bc52a7518cb2f77b6982806e5a54834d6e76c4f552b6848c642f1fbbefb3fcc"), looks := true }, kinds := [], alts := [], laidByText := true, laidKinds := [.data, .data, .data, .data, .pinned], laidTests := true, laidLooks := .later }
def EventGetsCardSaid : Prop := Claim7.holds Tryd.pinned (.plain (OpenSpec.ofChange eventGetsSpec)) eventGetsCard

/-- THE TIED CARD OF 'tollwaylaw46.EventAgain'. -/
def eventAgainCard : Claim7 := { stood := { row := eventAgainRow, standIns := [], harness := (true, "7bc52a7518cb2f77b6982806e5a54834d6e76c4f552b6848c642f1fbbefb3fcc"), looks := true }, kinds := [], alts := [], laidByText := true, laidKinds := [.data, .data, .data, .data, .pinned], laidTests := true, laidLooks := .later }
def EventAgainCardSaid : Prop := Claim7.holds Tryd.pinned (.plain (OpenSpec.ofChange eventAgainSpec)) eventAgainCard

/-- THE TIED CARD OF 'tollwaylaw46.EventKeys'. -/
def eventKeysCard : Claim7 := { stood := { row := eventKeysRow, standIns := [], harness := (true, "7bc52a7518cb2f77b6982806e5a54834d6e76c4f552b6848c642f1fbbefb3fcc"), looks := true }, kinds := [], alts := [], laidByText := true, laidKinds := [.data, .data, .data, .data, .pinned], laidTests := true, laidLooks := .later }
def EventKeysCardSaid : Prop := Claim7.holds Tryd.pinned (.plain (OpenSpec.ofChange eventKeysSpec)) eventKeysCard

/-- THE SECOND FORM's CARD OF 'tollwaylaw46.EventPrints'. -/
def eventPrintsUptoCard : Claim7 := { stood := { row := eventPrintsUptoRow, standIns := [], harness := (true, "7bc52a7518cb2f77b6982806e5a54834d6e76c4f552b6848c642f1fbbefb3fcc"), looks := true }, kinds := [], alts := [], laidByText := true, laidKinds := [.data, .data, .data, .data, .pinned], laidTests := true, laidLooks := .later }
def EventPrintsUptoCardSaid : Prop := Claim7.holds Tryd.pinned (.plain (OpenSpec.upto eventPrintsSpec)) eventPrintsUptoCard

/-- THE SECOND FORM's CARD OF 'tollwaylaw46.EventParses'. -/
def eventParsesUptoCard : Claim7 := { stood := { row := eventParsesUptoRow, standIns := [], harness := (true, "7bc52a7518cb2f77b6982806e5a54834d6e76c4f552b6848c642f1fbbefb3fcc"), looks := true }, kinds := [], alts := [], laidByText := true, laidKinds := [.data, .data, .data, .data, .pinned], laidTests := true, laidLooks := .later }
def EventParsesUptoCardSaid : Prop := Claim7.holds Tryd.pinned (.plain (OpenSpec.upto eventParsesSpec)) eventParsesUptoCard

/-- THE SECOND FORM's CARD OF 'tollwaylaw46.EventPuts'. -/
def eventPutsUptoCard : Claim7 := { stood := { row := eventPutsUptoRow, standIns := [], harness := (true, "7bc52a7518cb2f77b6982806e5a54834d6e76c4f552b6848c642f1fbbefb3fcc"), looks := true }, kinds := [], alts := [], laidByText := true, laidKinds := [.data, .data, .data, .data, .pinned], laidTests := true, laidLooks := .later }
def EventPutsUptoCardSaid : Prop := Claim7.holds Tryd.pinned (.plain (OpenSpec.upto eventPutsSpec)) eventPutsUptoCard

/-- THE SECOND FORM's CARD OF 'tollwaylaw46.EventGets'. -/
def eventGetsUptoCard : Claim7 := { stood := { row := eventGetsUptoRow, standIns := [], harness := (true, "7bc52a7518cb2f77b6982806e5a54834d6e76c4f552b6848c642f1fbbefb3fcc"), looks := true }, kinds := [], alts := [], laidByText := true, laidKinds := [.data, .data, .data, .data, .pinned], laidTests := true, laidLooks := .later }
def EventGetsUptoCardSaid : Prop := Claim7.holds Tryd.pinned (.plain (OpenSpec.upto eventGetsSpec)) eventGetsUptoCard

/-- THE SECOND FORM's CARD OF 'tollwaylaw46.EventAgain'. -/
def eventAgainUptoCard : Claim7 := { stood := { row := eventAgainUptoRow, standIns := [], harness := (true, "7bc52a7518cb2f77b6982806e5a54834d6e76c4f552b6848c642f1fbbefb3fcc"), looks := true }, kinds := [], alts := [], laidByText := true, laidKinds := [.data, .data, .data, .data, .pinned], laidTests := true, laidLooks := .later }
def EventAgainUptoCardSaid : Prop := Claim7.holds Tryd.pinned (.plain (OpenSpec.upto eventAgainSpec)) eventAgainUptoCard

/-- THE SECOND FORM's CARD OF 'tollwaylaw46.EventKeys'. -/
def eventKeysUptoCard : Claim7 := { stood := { row := eventKeysUptoRow, standIns := [], harness := (true, "7bc52a7518cb2f77b6982806e5a54834d6e76c4f552b6848c642f1fbbefb3fcc"), looks := true }, kinds := [], alts := [], laidByText := true, laidKinds := [.data, .data, .data, .data, .pinned], laidTests := true, laidLooks := .later }
def EventKeysUptoCardSaid : Prop := Claim7.holds Tryd.pinned (.plain (OpenSpec.upto eventKeysSpec)) eventKeysUptoCard
end Rows
end Go.Proofs.YteeepgnhkfmnaaaDoor
