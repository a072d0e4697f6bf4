/-
  NARROWER THAN 'FOR EVERY INPUT', by the rows' own cells (each row's printed sentence says how): ClockDays: laid · ClockDates: laid · ClockDayOf: laid · ClockIn: laid · ClockSpans: laid · ClockLater: laid · ClockDateBack: laid · ClockWeeks: laid · ClockCovers: laid · ClockSteps: laid.
  DERIVED. THE GIVEN ROWS OF THIS SEAT. 10 by the template 'for every input the law returns true; each argument reads behind the call as it read before'; 0 by the template 'total and deterministic' (their statements: YtabfdaekbhccnaaDoorTotals.lean).
  GIVEN WITH THE SEED: the statements are not yours to turn. If you find one false, say at which input.
  Laid BY PROGRAM, IN A SANDBOX (cutbox-rows.mjs): the forced cells as the released guide's own fill.sh prints them over the translation 9d52ed49c5ece052… (all of the seat's roots in one cut). By AI agents, Wed Nov 11 2026. No macro, syntax, notation, axiom, sorry.
-/
import Derived.Test.YtabfdaekbhccnaaDoorChecked
import GoSem.Claim
import GoSem.ClaimJoined
import GoSem.ClaimMapViews
import Derived.JoinedTies
import Derived.KernelRfl
namespace Go.Proofs.YtabfdaekbhccnaaDoor
/- THE CELL 'sum', in the pinned program and in every row, IS THE sha256 OF THE DUMP (.gsa) THAT YtabfdaekbhccnaaDoorProg.lean LOADS. Nothing in Lean hashes anything: it is a label: what it is worth is what the hold of that sum in a sandbox is worth. -/
noncomputable def Tryd.pinned : Pinned := { name := "ytabfdaekbhccnaadoor", sum := "9d52ed49c5ece05283bb2984b6c893af374e8b09e0d1087625bf0a3c192693d6", checked := Tryd.checked }
namespace Rows
def none {H : Type} : Left H := { results := [], args := [] }

/- WHAT THE LISTED PACKAGE-LEVEL VARIABLES READ AS WHEN THE CALL BEGINS. Each datum BY PROGRAM (the guide's laid-datum.mjs) off the statement by which the dump's own 'gosem.cut.vars' lays the variable. In a bare row this is a premise. The card (YtabfdaekbhccnaaDoorCards.lean) ties it to the program's text. -/
def laid_tollway_clock_months {H : Type} : DataW H := .agg [.lit (.int .i64 31), .lit (.int .i64 28), .lit (.int .i64 31), .lit (.int .i64 30), .lit (.int .i64 31), .lit (.int .i64 30), .lit (.int .i64 31), .lit (.int .i64 31), .lit (.int .i64 30), .lit (.int .i64 31), .lit (.int .i64 30), .lit (.int .i64 31)]

/-- 'tollwaylaw04.ClockDays': WHATEVER THE INPUT: true; the input reads as it did. -/
def clockDaysSpec : ChangeSpec := { name := "clockDays", fn := fun _ => fun
  | [d1, d2] => { results := [.lit (.bool true)], args := [d1, d2] }
  | _ => none }
def clockDaysRow : OpenClaim := { program := "ytabfdaekbhccnaadoor", sum := "9d52ed49c5ece05283bb2984b6c893af374e8b09e0d1087625bf0a3c192693d6", func := "tollway/tollwaylaw04.ClockDays", spec := "clockDays", named := ["tollway/clock.months"], apart := false, laid := [("tollway/clock.months", laid_tollway_clock_months)] }
def ClockDaysSaid : Prop := clockDaysRow.holds Tryd.pinned (OpenSpec.ofChange clockDaysSpec)

/-- ITS FALSE NEIGHBOUR: 'it returns false'. Refute it at one input. -/
def clockDaysWrong : ChangeSpec := { name := "clockDays", fn := fun _ => fun
  | [d1, d2] => { results := [.lit (.bool false)], args := [d1, d2] }
  | _ => none }
def ClockDaysWrongFalsely : Prop := clockDaysRow.holds Tryd.pinned (OpenSpec.ofChange clockDaysWrong)

/-- 'tollwaylaw04.ClockDates': WHATEVER THE INPUT: true; the input reads as it did. -/
def clockDatesSpec : ChangeSpec := { name := "clockDates", fn := fun _ => fun
  | [d] => { results := [.lit (.bool true)], args := [d] }
  | _ => none }
def clockDatesRow : OpenClaim := { program := "ytabfdaekbhccnaadoor", sum := "9d52ed49c5ece05283bb2984b6c893af374e8b09e0d1087625bf0a3c192693d6", func := "tollway/tollwaylaw04.ClockDates", spec := "clockDates", named := ["tollway/clock.months"], apart := false, laid := [("tollway/clock.months", laid_tollway_clock_months)] }
def ClockDatesSaid : Prop := clockDatesRow.holds Tryd.pinned (OpenSpec.ofChange clockDatesSpec)

/-- ITS FALSE NEIGHBOUR: 'it returns false'. Refute it at one input. -/
def clockDatesWrong : ChangeSpec := { name := "clockDates", fn := fun _ => fun
  | [d] => { results := [.lit (.bool false)], args := [d] }
  | _ => none }
def ClockDatesWrongFalsely : Prop := clockDatesRow.holds Tryd.pinned (OpenSpec.ofChange clockDatesWrong)

/-- 'tollwaylaw04.ClockDayOf': WHATEVER THE INPUT: true; the input reads as it did. -/
def clockDayOfSpec : ChangeSpec := { name := "clockDayOf", fn := fun _ => fun
  | [d1, d2, d3] => { results := [.lit (.bool true)], args := [d1, d2, d3] }
  | _ => none }
def clockDayOfRow : OpenClaim := { program := "ytabfdaekbhccnaadoor", sum := "9d52ed49c5ece05283bb2984b6c893af374e8b09e0d1087625bf0a3c192693d6", func := "tollway/tollwaylaw04.ClockDayOf", spec := "clockDayOf", named := ["tollway/clock.months"], apart := false, laid := [("tollway/clock.months", laid_tollway_clock_months)] }
def ClockDayOfSaid : Prop := clockDayOfRow.holds Tryd.pinned (OpenSpec.ofChange clockDayOfSpec)

/-- ITS FALSE NEIGHBOUR: 'it returns false'. Refute it at one input. -/
def clockDayOfWrong : ChangeSpec := { name := "clockDayOf", fn := fun _ => fun
  | [d1, d2, d3] => { results := [.lit (.bool false)], args := [d1, d2, d3] }
  | _ => none }
def ClockDayOfWrongFalsely : Prop := clockDayOfRow.holds Tryd.pinned (OpenSpec.ofChange clockDayOfWrong)

/-- 'tollwaylaw04.ClockIn': WHATEVER THE INPUT: true; the input reads as it did. -/
def clockInSpec : ChangeSpec := { name := "clockIn", fn := fun _ => fun
  | [d1, d2] => { results := [.lit (.bool true)], args := [d1, d2] }
  | _ => none }
def clockInRow : OpenClaim := { program := "ytabfdaekbhccnaadoor", sum := "9d52ed49c5ece05283bb2984b6c893af374e8b09e0d1087625bf0a3c192693d6", func := "tollway/tollwaylaw04.ClockIn", spec := "clockIn", named := ["tollway/clock.months"], apart := false, laid := [("tollway/clock.months", laid_tollway_clock_months)] }
def ClockInSaid : Prop := clockInRow.holds Tryd.pinned (OpenSpec.ofChange clockInSpec)

/-- ITS FALSE NEIGHBOUR: 'it returns false'. Refute it at one input. -/
def clockInWrong : ChangeSpec := { name := "clockIn", fn := fun _ => fun
  | [d1, d2] => { results := [.lit (.bool false)], args := [d1, d2] }
  | _ => none }
def ClockInWrongFalsely : Prop := clockInRow.holds Tryd.pinned (OpenSpec.ofChange clockInWrong)

/-- 'tollwaylaw04.ClockSpans': WHATEVER THE INPUT: true; the input reads as it did. -/
def clockSpansSpec : ChangeSpec := { name := "clockSpans", fn := fun _ => fun
  | [d1, d2] => { results := [.lit (.bool true)], args := [d1, d2] }
  | _ => none }
def clockSpansRow : OpenClaim := { program := "ytabfdaekbhccnaadoor", sum := "9d52ed49c5ece05283bb2984b6c893af374e8b09e0d1087625bf0a3c192693d6", func := "tollway/tollwaylaw04.ClockSpans", spec := "clockSpans", named := ["tollway/clock.months"], apart := false, laid := [("tollway/clock.months", laid_tollway_clock_months)] }
def ClockSpansSaid : Prop := clockSpansRow.holds Tryd.pinned (OpenSpec.ofChange clockSpansSpec)

/-- ITS FALSE NEIGHBOUR: 'it returns false'. Refute it at one input. -/
def clockSpansWrong : ChangeSpec := { name := "clockSpans", fn := fun _ => fun
  | [d1, d2] => { results := [.lit (.bool false)], args := [d1, d2] }
  | _ => none }
def ClockSpansWrongFalsely : Prop := clockSpansRow.holds Tryd.pinned (OpenSpec.ofChange clockSpansWrong)

/-- 'tollwaylaw04.ClockLater': WHATEVER THE INPUT: true; the input reads as it did. -/
def clockLaterSpec : ChangeSpec := { name := "clockLater", fn := fun _ => fun
  | [d1, d2, d3] => { results := [.lit (.bool true)], args := [d1, d2, d3] }
  | _ => none }
def clockLaterRow : OpenClaim := { program := "ytabfdaekbhccnaadoor", sum := "9d52ed49c5ece05283bb2984b6c893af374e8b09e0d1087625bf0a3c192693d6", func := "tollway/tollwaylaw04.ClockLater", spec := "clockLater", named := ["tollway/clock.months"], apart := false, laid := [("tollway/clock.months", laid_tollway_clock_months)] }
def ClockLaterSaid : Prop := clockLaterRow.holds Tryd.pinned (OpenSpec.ofChange clockLaterSpec)

/-- ITS FALSE NEIGHBOUR: 'it returns false'. Refute it at one input. -/
def clockLaterWrong : ChangeSpec := { name := "clockLater", fn := fun _ => fun
  | [d1, d2, d3] => { results := [.lit (.bool false)], args := [d1, d2, d3] }
  | _ => none }
def ClockLaterWrongFalsely : Prop := clockLaterRow.holds Tryd.pinned (OpenSpec.ofChange clockLaterWrong)

/-- 'tollwaylaw04.ClockDateBack': WHATEVER THE INPUT: true; the input reads as it did. -/
def clockDateBackSpec : ChangeSpec := { name := "clockDateBack", fn := fun _ => fun
  | [d] => { results := [.lit (.bool true)], args := [d] }
  | _ => none }
def clockDateBackRow : OpenClaim := { program := "ytabfdaekbhccnaadoor", sum := "9d52ed49c5ece05283bb2984b6c893af374e8b09e0d1087625bf0a3c192693d6", func := "tollway/tollwaylaw04.ClockDateBack", spec := "clockDateBack", named := ["tollway/clock.months"], apart := false, laid := [("tollway/clock.months", laid_tollway_clock_months)] }
def ClockDateBackSaid : Prop := clockDateBackRow.holds Tryd.pinned (OpenSpec.ofChange clockDateBackSpec)

/-- ITS FALSE NEIGHBOUR: 'it returns false'. Refute it at one input. -/
def clockDateBackWrong : ChangeSpec := { name := "clockDateBack", fn := fun _ => fun
  | [d] => { results := [.lit (.bool false)], args := [d] }
  | _ => none }
def ClockDateBackWrongFalsely : Prop := clockDateBackRow.holds Tryd.pinned (OpenSpec.ofChange clockDateBackWrong)

/-- 'tollwaylaw04.ClockWeeks': WHATEVER THE INPUT: true; the input reads as it did. -/
def clockWeeksSpec : ChangeSpec := { name := "clockWeeks", fn := fun _ => fun
  | [d1, d2] => { results := [.lit (.bool true)], args := [d1, d2] }
  | _ => none }
def clockWeeksRow : OpenClaim := { program := "ytabfdaekbhccnaadoor", sum := "9d52ed49c5ece05283bb2984b6c893af374e8b09e0d1087625bf0a3c192693d6", func := "tollway/tollwaylaw04.ClockWeeks", spec := "clockWeeks", named := ["tollway/clock.months"], apart := false, laid := [("tollway/clock.months", laid_tollway_clock_months)] }
def ClockWeeksSaid : Prop := clockWeeksRow.holds Tryd.pinned (OpenSpec.ofChange clockWeeksSpec)

/-- ITS FALSE NEIGHBOUR: 'it returns false'. Refute it at one input. -/
def clockWeeksWrong : ChangeSpec := { name := "clockWeeks", fn := fun _ => fun
  | [d1, d2] => { results := [.lit (.bool false)], args := [d1, d2] }
  | _ => none }
def ClockWeeksWrongFalsely : Prop := clockWeeksRow.holds Tryd.pinned (OpenSpec.ofChange clockWeeksWrong)

/-- 'tollwaylaw04.ClockCovers': WHATEVER THE INPUT: true; the input reads as it did. -/
def clockCoversSpec : ChangeSpec := { name := "clockCovers", fn := fun _ => fun
  | [d1, d2, d3] => { results := [.lit (.bool true)], args := [d1, d2, d3] }
  | _ => none }
def clockCoversRow : OpenClaim := { program := "ytabfdaekbhccnaadoor", sum := "9d52ed49c5ece05283bb2984b6c893af374e8b09e0d1087625bf0a3c192693d6", func := "tollway/tollwaylaw04.ClockCovers", spec := "clockCovers", named := ["tollway/clock.months"], apart := false, laid := [("tollway/clock.months", laid_tollway_clock_months)] }
def ClockCoversSaid : Prop := clockCoversRow.holds Tryd.pinned (OpenSpec.ofChange clockCoversSpec)

/-- ITS FALSE NEIGHBOUR: 'it returns false'. Refute it at one input. -/
def clockCoversWrong : ChangeSpec := { name := "clockCovers", fn := fun _ => fun
  | [d1, d2, d3] => { results := [.lit (.bool false)], args := [d1, d2, d3] }
  | _ => none }
def ClockCoversWrongFalsely : Prop := clockCoversRow.holds Tryd.pinned (OpenSpec.ofChange clockCoversWrong)

/-- 'tollwaylaw04.ClockSteps': WHATEVER THE INPUT: true; the input reads as it did. -/
def clockStepsSpec : ChangeSpec := { name := "clockSteps", fn := fun _ => fun
  | [d1, d2, d3] => { results := [.lit (.bool true)], args := [d1, d2, d3] }
  | _ => none }
def clockStepsRow : OpenClaim := { program := "ytabfdaekbhccnaadoor", sum := "9d52ed49c5ece05283bb2984b6c893af374e8b09e0d1087625bf0a3c192693d6", func := "tollway/tollwaylaw04.ClockSteps", spec := "clockSteps", named := ["tollway/clock.months"], apart := false, laid := [("tollway/clock.months", laid_tollway_clock_months)] }
def ClockStepsSaid : Prop := clockStepsRow.holds Tryd.pinned (OpenSpec.ofChange clockStepsSpec)

/-- ITS FALSE NEIGHBOUR: 'it returns false'. Refute it at one input. -/
def clockStepsWrong : ChangeSpec := { name := "clockSteps", fn := fun _ => fun
  | [d1, d2, d3] => { results := [.lit (.bool false)], args := [d1, d2, d3] }
  | _ => none }
def ClockStepsWrongFalsely : Prop := clockStepsRow.holds Tryd.pinned (OpenSpec.ofChange clockStepsWrong)

/- THE SECOND FORM. 'bulk': how many values and letters a reading holds, each counted each time it is reached (what is shared counts as often as it is met; a slice's spare places count too). A statement '..UptoSaid' is the law's where the arguments, and the package variables that the reading takes, are together of bulk at most 1048576: NARROWER than '..Said'. Prove '..Said' where nothing that the law and all that it calls make is longer than what came in: it says more and counts as full. Else prove '..UptoSaid'. A law counts once. -/
mutual
def uptoBulk {H : Type} : DataW H → Nat
  | .lit (.string bytes) => bytes.length + 1
  | .lit _ => 1
  | .nil => 1
  | .ptr d => uptoBulk d + 1
  | .slice elems spare => uptoBulkAll elems + uptoBulkAll spare + 1
  | .agg parts => uptoBulkAll parts + 1
  | .iface _ d => uptoBulk d + 1
  | .map entries => uptoBulkEntries entries + 1
  | .held _ => 1
def uptoBulkAll {H : Type} : List (DataW H) → Nat
  | [] => 0
  | d :: r => uptoBulk d + uptoBulkAll r
def uptoBulkEntries {H : Type} : List (Lit × DataW H) → Nat
  | [] => 0
  | x :: r => uptoBulkEntry x + uptoBulkEntries r
def uptoBulkEntry {H : Type} : Lit × DataW H → Nat
  | (.string bytes, d) => bytes.length + uptoBulk d + 1
  | (_, d) => uptoBulk d + 1
 end
def uptoSmall : (H : Type) → List (DataW H) → Bool := fun _ ds => decide (uptoBulkAll ds ≤ 1048576)
def OpenSpec.upto (s : _root_.Go.ChangeSpec) : _root_.Go.OpenSpec := { _root_.Go.OpenSpec.ofChange s with cond := some uptoSmall }

/-- 'tollwaylaw04.ClockDays', WHERE WHAT IT READS IS OF BULK AT MOST 1048576: true; the input reads as it did. -/
def clockDaysUptoRow : OpenClaim := { program := "ytabfdaekbhccnaadoor", sum := "9d52ed49c5ece05283bb2984b6c893af374e8b09e0d1087625bf0a3c192693d6", func := "tollway/tollwaylaw04.ClockDays", spec := "clockDays", named := ["tollway/clock.months"], apart := false, laid := [("tollway/clock.months", laid_tollway_clock_months)], narrowed := true }
def ClockDaysUptoSaid : Prop := clockDaysUptoRow.holds Tryd.pinned (OpenSpec.upto clockDaysSpec)

/-- 'tollwaylaw04.ClockDates', WHERE WHAT IT READS IS OF BULK AT MOST 1048576: true; the input reads as it did. -/
def clockDatesUptoRow : OpenClaim := { program := "ytabfdaekbhccnaadoor", sum := "9d52ed49c5ece05283bb2984b6c893af374e8b09e0d1087625bf0a3c192693d6", func := "tollway/tollwaylaw04.ClockDates", spec := "clockDates", named := ["tollway/clock.months"], apart := false, laid := [("tollway/clock.months", laid_tollway_clock_months)], narrowed := true }
def ClockDatesUptoSaid : Prop := clockDatesUptoRow.holds Tryd.pinned (OpenSpec.upto clockDatesSpec)

/-- 'tollwaylaw04.ClockDayOf', WHERE WHAT IT READS IS OF BULK AT MOST 1048576: true; the input reads as it did. -/
def clockDayOfUptoRow : OpenClaim := { program := "ytabfdaekbhccnaadoor", sum := "9d52ed49c5ece05283bb2984b6c893af374e8b09e0d1087625bf0a3c192693d6", func := "tollway/tollwaylaw04.ClockDayOf", spec := "clockDayOf", named := ["tollway/clock.months"], apart := false, laid := [("tollway/clock.months", laid_tollway_clock_months)], narrowed := true }
def ClockDayOfUptoSaid : Prop := clockDayOfUptoRow.holds Tryd.pinned (OpenSpec.upto clockDayOfSpec)

/-- 'tollwaylaw04.ClockIn', WHERE WHAT IT READS IS OF BULK AT MOST 1048576: true; the input reads as it did. -/
def clockInUptoRow : OpenClaim := { program := "ytabfdaekbhccnaadoor", sum := "9d52ed49c5ece05283bb2984b6c893af374e8b09e0d1087625bf0a3c192693d6", func := "tollway/tollwaylaw04.ClockIn", spec := "clockIn", named := ["tollway/clock.months"], apart := false, laid := [("tollway/clock.months", laid_tollway_clock_months)], narrowed := true }
def ClockInUptoSaid : Prop := clockInUptoRow.holds Tryd.pinned (OpenSpec.upto clockInSpec)

/-- 'tollwaylaw04.ClockSpans', WHERE WHAT IT READS IS OF BULK AT MOST 1048576: true; the input reads as it did. -/
def clockSpansUptoRow : OpenClaim := { program := "ytabfdaekbhccnaadoor", sum := "9d52ed49c5ece05283bb2984b6c893af374e8b09e0d1087625bf0a3c192693d6", func := "tollway/tollwaylaw04.ClockSpans", spec := "clockSpans", named := ["tollway/clock.months"], apart := false, laid := [("tollway/clock.months", laid_tollway_clock_months)], narrowed := true }
def ClockSpansUptoSaid : Prop := clockSpansUptoRow.holds Tryd.pinned (OpenSpec.upto clockSpansSpec)

/-- 'tollwaylaw04.ClockLater', WHERE WHAT IT READS IS OF BULK AT MOST 1048576: true; the input reads as it did. -/
def clockLaterUptoRow : OpenClaim := { program := "ytabfdaekbhccnaadoor", sum := "9d52ed49c5ece05283bb2984b6c893af374e8b09e0d1087625bf0a3c192693d6", func := "tollway/tollwaylaw04.ClockLater", spec := "clockLater", named := ["tollway/clock.months"], apart := false, laid := [("tollway/clock.months", laid_tollway_clock_months)], narrowed := true }
def ClockLaterUptoSaid : Prop := clockLaterUptoRow.holds Tryd.pinned (OpenSpec.upto clockLaterSpec)

/-- 'tollwaylaw04.ClockDateBack', WHERE WHAT IT READS IS OF BULK AT MOST 1048576: true; the input reads as it did. -/
def clockDateBackUptoRow : OpenClaim := { program := "ytabfdaekbhccnaadoor", sum := "9d52ed49c5ece05283bb2984b6c893af374e8b09e0d1087625bf0a3c192693d6", func := "tollway/tollwaylaw04.ClockDateBack", spec := "clockDateBack", named := ["tollway/clock.months"], apart := false, laid := [("tollway/clock.months", laid_tollway_clock_months)], narrowed := true }
def ClockDateBackUptoSaid : Prop := clockDateBackUptoRow.holds Tryd.pinned (OpenSpec.upto clockDateBackSpec)

/-- 'tollwaylaw04.ClockWeeks', WHERE WHAT IT READS IS OF BULK AT MOST 1048576: true; the input reads as it did. -/
def clockWeeksUptoRow : OpenClaim := { program := "ytabfdaekbhccnaadoor", sum := "9d52ed49c5ece05283bb2984b6c893af374e8b09e0d1087625bf0a3c192693d6", func := "tollway/tollwaylaw04.ClockWeeks", spec := "clockWeeks", named := ["tollway/clock.months"], apart := false, laid := [("tollway/clock.months", laid_tollway_clock_months)], narrowed := true }
def ClockWeeksUptoSaid : Prop := clockWeeksUptoRow.holds Tryd.pinned (OpenSpec.upto clockWeeksSpec)

/-- 'tollwaylaw04.ClockCovers', WHERE WHAT IT READS IS OF BULK AT MOST 1048576: true; the input reads as it did. -/
def clockCoversUptoRow : OpenClaim := { program := "ytabfdaekbhccnaadoor", sum := "9d52ed49c5ece05283bb2984b6c893af374e8b09e0d1087625bf0a3c192693d6", func := "tollway/tollwaylaw04.ClockCovers", spec := "clockCovers", named := ["tollway/clock.months"], apart := false, laid := [("tollway/clock.months", laid_tollway_clock_months)], narrowed := true }
def ClockCoversUptoSaid : Prop := clockCoversUptoRow.holds Tryd.pinned (OpenSpec.upto clockCoversSpec)

/-- 'tollwaylaw04.ClockSteps', WHERE WHAT IT READS IS OF BULK AT MOST 1048576: true; the input reads as it did. -/
def clockStepsUptoRow : OpenClaim := { program := "ytabfdaekbhccnaadoor", sum := "9d52ed49c5ece05283bb2984b6c893af374e8b09e0d1087625bf0a3c192693d6", func := "tollway/tollwaylaw04.ClockSteps", spec := "clockSteps", named := ["tollway/clock.months"], apart := false, laid := [("tollway/clock.months", laid_tollway_clock_months)], narrowed := true }
def ClockStepsUptoSaid : Prop := clockStepsUptoRow.holds Tryd.pinned (OpenSpec.upto clockStepsSpec)

end Rows
end Go.Proofs.YtabfdaekbhccnaaDoor
