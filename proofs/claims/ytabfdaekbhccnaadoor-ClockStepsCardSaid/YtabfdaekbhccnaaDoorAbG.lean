/-
  The package variables of this seat: clock.months.
-/
import Derived.Test.YtabfdaekbhccnaaDoorAb16
import Derived.Test.YtabfdaekbhccnaaDoorChecked
set_option linter.unusedSimpArgs false
set_option linter.unusedVariables false
namespace Go.Ab
open Go.RowKit Go.Proofs

def Gt : Gl where
  f
    | 0 => some ([31, 28, 31, 30, 31, 30, 31, 31, 30, 31, 30, 31].map (.int .i64))
    | _ => none
  inv _ := True
  stable _ _ _ h := h

theorem gloMonths {tab : Tab} : gloA (ctx Tryd.prog Gt tab) 0 = .v (.c (.dptr [.int .i64 31, .int .i64 28, .int .i64 31, .int .i64 30, .int .i64 31, .int .i64 30, .int .i64 31, .int .i64 31, .int .i64 30, .int .i64 31, .int .i64 30, .int .i64 31])) := rfl

end Go.Ab
