/-
  Texts of the layer and of the laws, put together: AbJ7, AbJ8.
-/
import Derived.Test.YtdoofgbeajkpaaaGreatDoorAbWP35
import Derived.Test.YtdoofgbeajkpaaaGreatDoorAbWP34
set_option linter.unusedSimpArgs false
set_option linter.unusedVariables false
set_option maxRecDepth 100000
namespace Go.Ab
open Go.RowKit Go.Proofs
noncomputable section
open Classical
def r6span_m : List PA → Option (List PA) := mE encV1 fun i => some [.b (ivOk i)]
theorem r6span_ok : PureC Tryz.prog Gt 78 r6span_m := by
  refine pure_of_awp (X := ctx Tryz.prog Gt []) Tryz.func78 rfl rfl (by kernel_rfl) (by kernel_rfl) AllOk.nil.kok ?_
  intro args r h0
  obtain ⟨⟨a, b⟩, rfl, h⟩ := mE_inv h0
  refine ⟨Nat.le_of_ble_eq_true rfl, ?_⟩
  cases h
  have hc := Nat.zero_add 0
  repeat' (first | simp only [hc, Tryz.f78, encV1, rwI, SX, ZZ, simprocAttr, ↓reduceIte] | ((first | apply Za | apply Zb | apply Zc | apply Zd | apply Ze | apply Zf | apply Zg | apply Zh) <;> intro hc) | refine Zj ?_)
  all_goals (simp_all [ivOk, DV.b, mxT]; try omega)
theorem r6span_at {i : Iv} : r6span_m [.agg (rwI i)] = some [.b (ivOk i)] := mE_eq encV1_inj (g := fun i => some [DV.b (ivOk i)]) (a := i)
end
end Go.Ab
namespace Go.Ab
open Go.RowKit Go.Proofs
def encZV (p : Zon × Iv) : List PA := [.agg p.1.row, .agg (rwI p.2)]
theorem encZV_inj (a b : Zon × Iv) (h : encZV a = encZV b) : a = b := by
  simp only [encZV, List.cons.injEq, DV.agg.injEq, and_true] at h
  exact Prod.ext (Zon.inj _ _ h.1) (rwI_inj _ _ h.2)
noncomputable section
open Classical
end
end Go.Ab
