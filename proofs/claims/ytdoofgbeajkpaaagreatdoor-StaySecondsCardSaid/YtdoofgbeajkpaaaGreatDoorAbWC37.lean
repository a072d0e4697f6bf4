/-
  Texts of the layer and of the laws, put together: AbJ8.
-/
import Derived.Test.YtdoofgbeajkpaaaGreatDoorAbWC36
import Derived.Test.YtdoofgbeajkpaaaGreatDoorAbWC34
set_option linter.unusedSimpArgs false
set_option linter.unusedVariables false
set_option maxRecDepth 100000
namespace Go.Ab
open Go.RowKit Go.Proofs
def encZV (p : Zon × Iv) : List PA := [.agg p.1.row, .agg (rwI p.2)]
theorem encZV_inj (a b : Zon × Iv) (h : encZV a = encZV b) : a = b := by
  simp only [encZV, List.cons.injEq, DV.agg.injEq, and_true] at h
  exact Prod.ext (Zon.inj _ _ h.1) (rwI_inj _ _ h.2)
noncomputable section
open Classical
end
end Go.Ab
