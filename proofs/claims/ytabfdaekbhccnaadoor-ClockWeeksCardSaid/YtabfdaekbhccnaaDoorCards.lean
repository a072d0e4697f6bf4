/-
  DERIVED. GIVEN WITH THE SEED: THE CARDS: each row of YtabfdaekbhccnaaDoorRows.lean that lists a variable, with what it lists TIED to the program's text (the seventh form; the later family's looks); each row that meets fmt, with fmt's text TOLD by the authors' own Lean function (tested against real Go, not proved from fmt's source: count such statements apart). THE CARD IS WHAT COUNTS. Prove the row's statement (the work); the ties are given (YtabfdaekbhccnaaDoorTie.lean); close each card by the builder's one call (the guide's Derived/Test/ToyasCard.lean, 'card_holds'). Laid BY PROGRAM, IN A SANDBOX (cutbox-door.mjs). By AI agents, Wed Nov 11 2026. No macro, syntax, notation, axiom, sorry.
-/
import Derived.Test.YtabfdaekbhccnaaDoorRows
import GoSem.ClaimSeven
namespace Go.Proofs.YtabfdaekbhccnaaDoor
namespace Rows

/-- THE TIED CARD OF 'tollwaylaw04.ClockDays'. -/
def clockDaysCard : Claim7 := { stood := { row := clockDaysRow, standIns := [], harness := (true, "bfaad366f092a17cae6bfc5726a57bebfc6baedc047ea5b173fbb38d6a34a563"), looks := false }, kinds := [], alts := [], laidByText := true, laidKinds := [.data], laidTests := true, laidLooks := .later }
def ClockDaysCardSaid : Prop := Claim7.holds Tryd.pinned (.plain (OpenSpec.ofChange clockDaysSpec)) clockDaysCard

/-- THE TIED CARD OF 'tollwaylaw04.ClockDates'. -/
def clockDatesCard : Claim7 := { stood := { row := clockDatesRow, standIns := [], harness := (true, "bfaad366f092a17cae6bfc5726a57bebfc6baedc047ea5b173fbb38d6a34a563"), looks := false }, kinds := [], alts := [], laidByText := true, laidKinds := [.data], laidTests := true, laidLooks := .later }
def ClockDatesCardSaid : Prop := Claim7.holds Tryd.pinned (.plain (OpenSpec.ofChange clockDatesSpec)) clockDatesCard

/-- THE TIED CARD OF 'tollwaylaw04.ClockDayOf'. -/
def clockDayOfCard : Claim7 := { stood := { row := clockDayOfRow, standIns := [], harness := (true, "bfaad366f092a17cae6bfc5726a57bebfc6baedc047ea5b173fbb38d6a34a563"), looks := false }, kinds := [], alts := [], laidByText := true, laidKinds := [.data], laidTests := true, laidLooks := .later }
def ClockDayOfCardSaid : Prop := Claim7.holds Tryd.pinned (.plain (OpenSpec.ofChange clockDayOfSpec)) clockDayOfCard

/-- THE TIED CARD OF 'tollwaylaw04.ClockIn'. -/
def clockInCard : Claim7 := { stood := { row := clockInRow, standIns := [], harness := (true, "bfaad366f092a17cae6bfc5726a57bebfc6baedc047ea5b173fbb38d6a34a563"), looks := false }, kinds := [], alts := [], laidByText := true, laidKinds := [.data], laidTests := true, laidLooks := .later }
def ClockInCardSaid : Prop := Claim7.holds Tryd.pinned (.plain (OpenSpec.ofChange clockInSpec)) clockInCard

/-- THE TIED CARD OF 'tollwaylaw04.ClockSpans'. -/
def clockSpansCard : Claim7 := { stood := { row := clockSpansRow, standIns := [], harness := (true, "bfaad366f092a17cae6bfc5726a57bebfc6baedc047ea5b173fbb38d6a34a563"), looks := false }, kinds := [], alts := [], laidByText := true, laidKinds := [.data], laidTests := true, laidLooks := .later }
def ClockSpansCardSaid : Prop := Claim7.holds Tryd.pinned (.plain (OpenSpec.ofChange clockSpansSpec)) clockSpansCard

/-- THE TIED CARD OF 'tollwaylaw04.ClockLater'. -/
def clockLaterCard : Claim7 := { stood := { row := clockLaterRow, standIns := [], harness := (true, "bfaad366f092a17cae6bfc5726a57bebfc6baedc047ea5b173fbb38d6a34a563"), looks := false }, kinds := [], alts := [], laidByText := true, laidKinds := [.data], laidTests := true, laidLooks := .later }
def ClockLaterCardSaid : Prop := Claim7.holds Tryd.pinned (.plain (OpenSpec.ofChange clockLaterSpec)) clockLaterCard

/-- THE TIED CARD OF 'tollwaylaw04.ClockDateBack'. -/
def clockDateBackCard : Claim7 := { stood := { row := clockDateBackRow, standIns := [], harness := (true, "bfaad366f092a17cae6bfc5726a57bebfc6baedc047ea5b173fbb38d6a34a563"), looks := false }, kinds := [], alts := [], laidByText := true, laidKinds := [.data], laidTests := true, laidLooks := .later }
def ClockDateBackCardSaid : Prop := Claim7.holds Tryd.pinned (.plain (OpenSpec.ofChange clockDateBackSpec)) clockDateBackCard

/-- THE TIED CARD OF 'tollwaylaw04.ClockWeeks'. -/
def clockWeeksCard : Claim7 := { stood := { row := clockWeeksRow, standIns := [], harness := (true, "bfaad366f092a17cae6bfc5726a57bebfc6baedc047ea5b173fbb38d6a34a563"), looks := false }, kinds := [], alts := [], laidByText := true, laidKinds := [.data], laidTests := true, laidLooks := .later }
def ClockWeeksCardSaid : Prop := Claim7.holds Tryd.pinned (.plain (OpenSpec.ofChange clockWeeksSpec)) clockWeeksCard

/-- THE TIED CARD OF 'tollwaylaw04.ClockCovers'. -/
def clockCoversCard : Claim7 := { stood := { row := clockCoversRow, standIns := [], harness := (true, "bfaad366f092a17cae6bfc5726a57bebfc6baedc047ea5b173fbb38d6a34a563"), looks := false }, kinds := [], alts := [], laidByText := true, laidKinds := [.data], laidTests := true, laidLooks := .later }
def ClockCoversCardSaid : Prop := Claim7.holds Tryd.pinned (.plain (OpenSpec.ofChange clockCoversSpec)) clockCoversCard

/-- THE TIED CARD OF 'tollwaylaw04.ClockSteps'. -/
def clockStepsCard : Claim7 := { stood := { row := clockStepsRow, standIns := [], harness := (true, "bfaad366f092a17cae6bfc5726a57bebfc6baedc047ea5b173fbb38d6a34a563"), looks := false }, kinds := [], alts := [], laidByText := true, laidKinds := [.data], laidTests := true, laidLooks := .later }
def ClockStepsCardSaid : Prop := Claim7.holds Tryd.pinned (.plain (OpenSpec.ofChange clockStepsSpec)) clockStepsCard

/-- THE SECOND FORM's CARD OF 'tollwaylaw04.ClockDays'. -/
def clockDaysUptoCard : Claim7 := { stood := { row := clockDaysUptoRow, standIns := [], harness := (true, "bfaad366f092a17cae6bfc5726a57bebfc6baedc047ea5b173fbb38d6a34a563"), looks := false }, kinds := [], alts := [], laidByText := true, laidKinds := [.data], laidTests := true, laidLooks := .later }
def ClockDaysUptoCardSaid : Prop := Claim7.holds Tryd.pinned (.plain (OpenSpec.upto clockDaysSpec)) clockDaysUptoCard

/-- THE SECOND FORM's CARD OF 'tollwaylaw04.ClockDates'. -/
def clockDatesUptoCard : Claim7 := { stood := { row := clockDatesUptoRow, standIns := [], harness := (true, "bfaad366f092a17cae6bfc5726a57bebfc6baedc047ea5b173fbb38d6a34a563"), looks := false }, kinds := [], alts := [], laidByText := true, laidKinds := [.data], laidTests := true, laidLooks := .later }
def ClockDatesUptoCardSaid : Prop := Claim7.holds Tryd.pinned (.plain (OpenSpec.upto clockDatesSpec)) clockDatesUptoCard

/-- THE SECOND FORM's CARD OF 'tollwaylaw04.ClockDayOf'. -/
def clockDayOfUptoCard : Claim7 := { stood := { row := clockDayOfUptoRow, standIns := [], harness := (true, "bfaad366f092a17cae6bfc5726a57bebfc6baedc047ea5b173fbb38d6a34a563"), looks := false }, kinds := [], alts := [], laidByText := true, laidKinds := [.data], laidTests := true, laidLooks := .later }
def ClockDayOfUptoCardSaid : Prop := Claim7.holds Tryd.pinned (.plain (OpenSpec.upto clockDayOfSpec)) clockDayOfUptoCard

/-- THE SECOND FORM's CARD OF 'tollwaylaw04.ClockIn'. -/
def clockInUptoCard : Claim7 := { stood := { row := clockInUptoRow, standIns := [], harness := (true, "bfaad366f092a17cae6bfc5726a57bebfc6baedc047ea5b173fbb38d6a34a563"), looks := false }, kinds := [], alts := [], laidByText := true, laidKinds := [.data], laidTests := true, laidLooks := .later }
def ClockInUptoCardSaid : Prop := Claim7.holds Tryd.pinned (.plain (OpenSpec.upto clockInSpec)) clockInUptoCard

/-- THE SECOND FORM's CARD OF 'tollwaylaw04.ClockSpans'. -/
def clockSpansUptoCard : Claim7 := { stood := { row := clockSpansUptoRow, standIns := [], harness := (true, "bfaad366f092a17cae6bfc5726a57bebfc6baedc047ea5b173fbb38d6a34a563"), looks := false }, kinds := [], alts := [], laidByText := true, laidKinds := [.data], laidTests := true, laidLooks := .later }
def ClockSpansUptoCardSaid : Prop := Claim7.holds Tryd.pinned (.plain (OpenSpec.upto clockSpansSpec)) clockSpansUptoCard

/-- THE SECOND FORM's CARD OF 'tollwaylaw04.ClockLater'. -/
def clockLaterUptoCard : Claim7 := { stood := { row := clockLaterUptoRow, standIns := [], harness := (true, "bfaad366f092a17cae6bfc5726a57bebfc6baedc047ea5b173fbb38d6a34a563"), looks := false }, kinds := [], alts := [], laidByText := true, laidKinds := [.data], laidTests := true, laidLooks := .later }
def ClockLaterUptoCardSaid : Prop := Claim7.holds Tryd.pinned (.plain (OpenSpec.upto clockLaterSpec)) clockLaterUptoCard

/-- THE SECOND FORM's CARD OF 'tollwaylaw04.ClockDateBack'. -/
def clockDateBackUptoCard : Claim7 := { stood := { row := clockDateBackUptoRow, standIns := [], harness := (true, "bfaad366f092a17cae6bfc5726a57bebfc6baedc047ea5b173fbb38d6a34a563"), looks := false }, kinds := [], alts := [], laidByText := true, laidKinds := [.data], laidTests := true, laidLooks := .later }
def ClockDateBackUptoCardSaid : Prop := Claim7.holds Tryd.pinned (.plain (OpenSpec.upto clockDateBackSpec)) clockDateBackUptoCard

/-- THE SECOND FORM's CARD OF 'tollwaylaw04.ClockWeeks'. -/
def clockWeeksUptoCard : Claim7 := { stood := { row := clockWeeksUptoRow, standIns := [], harness := (true, "bfaad366f092a17cae6bfc5726a57bebfc6baedc047ea5b173fbb38d6a34a563"), looks := false }, kinds := [], alts := [], laidByText := true, laidKinds := [.data], laidTests := true, laidLooks := .later }
def ClockWeeksUptoCardSaid : Prop := Claim7.holds Tryd.pinned (.plain (OpenSpec.upto clockWeeksSpec)) clockWeeksUptoCard

/-- THE SECOND FORM's CARD OF 'tollwaylaw04.ClockCovers'. -/
def clockCoversUptoCard : Claim7 := { stood := { row := clockCoversUptoRow, standIns := [], harness := (true, "bfaad366f092a17cae6bfc5726a57bebfc6baedc047ea5b173fbb38d6a34a563"), looks := false }, kinds := [], alts := [], laidByText := true, laidKinds := [.data], laidTests := true, laidLooks := .later }
def ClockCoversUptoCardSaid : Prop := Claim7.holds Tryd.pinned (.plain (OpenSpec.upto clockCoversSpec)) clockCoversUptoCard

/-- THE SECOND FORM's CARD OF 'tollwaylaw04.ClockSteps'. -/
def clockStepsUptoCard : Claim7 := { stood := { row := clockStepsUptoRow, standIns := [], harness := (true, "bfaad366f092a17cae6bfc5726a57bebfc6baedc047ea5b173fbb38d6a34a563"), looks := false }, kinds := [], alts := [], laidByText := true, laidKinds := [.data], laidTests := true, laidLooks := .later }
def ClockStepsUptoCardSaid : Prop := Claim7.holds Tryd.pinned (.plain (OpenSpec.upto clockStepsSpec)) clockStepsUptoCard
end Rows
end Go.Proofs.YtabfdaekbhccnaaDoor
