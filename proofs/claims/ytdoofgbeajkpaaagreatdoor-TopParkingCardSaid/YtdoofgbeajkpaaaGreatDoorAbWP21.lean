/-
  Texts of the layer and of the laws, put together: AbD1.
-/
import Derived.Test.YtdoofgbeajkpaaaGreatDoorAbWP16
import Derived.Test.YtdoofgbeajkpaaaGreatDoorAbWP12
set_option linter.unusedSimpArgs false
set_option linter.unusedVariables false
set_option maxRecDepth 100000
namespace Go.Ab
def inI (n : Int) : Bool := decide (-9223372036854775808 ≤ n ∧ n ≤ 9223372036854775807)
theorem inI_iff {n : Int} : inI n = true ↔ -9223372036854775808 ≤ n ∧ n ≤ 9223372036854775807 := by simp [inI]
end Go.Ab
