/-
  The package variables of this seat: clock.months.
-/
import Derived.Test.YtabfdaekbhccnaaDoorAb15
namespace Go.Ab

def Gt : Nat → Option (List D)
  | 0 => some ([31, 28, 31, 30, 31, 30, 31, 31, 30, 31, 30, 31].map (.int .i64))
  | _ => none

end Go.Ab
