/-
  Texts of the layer and of the laws, put together: AbY1, AbY2, AbY3.
-/
import Derived.Test.YtbcklcmhmbfgnaaGreatDoorAbF16
import Derived.Test.YtbcklcmhmbfgnaaGreatDoorAbF12
set_option linter.unusedSimpArgs false
set_option linter.unusedVariables false
set_option maxRecDepth 100000
set_option linter.defProp false
namespace Go.Ab
open Go.RowKit Go.Proofs
def SX := Zk @si_eq <| Zk @ss_eq <| Zk @u8_of ST
end Go.Ab
namespace Go.Ab
open Go.RowKit Go.Proofs
theorem nn (n : Nat) : ((0 : Int) ≤ (n : Int)) = True := eq_true (by omega)
end Go.Ab
namespace Go.Ab
open Go.RowKit Go.Proofs
theorem drop_of {s : List UInt8} {j : Nat} {c : UInt8} (h : s[j]? = some c) : s.drop j = c :: s.drop (j + 1) := by
  obtain ⟨hj, rfl⟩ := List.getElem?_eq_some_iff.1 h
  exact List.drop_eq_getElem_cons hj
end Go.Ab
