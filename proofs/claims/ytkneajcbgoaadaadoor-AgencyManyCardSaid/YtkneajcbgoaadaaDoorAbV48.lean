/-
  Texts of the layer and of the laws, put together: AbK3. No law is stated here.
-/
import Derived.Test.YtkneajcbgoaadaaDoorAbV46
import Derived.Test.YtkneajcbgoaadaaDoorAbV47
set_option linter.unusedSimpArgs false
set_option linter.unusedVariables false
set_option maxRecDepth 100000

/-
  The seat's arguments: law Many.
-/
namespace Go.Proofs.YtkneajcbgoaadaaDoor
open Go.ChangeShapes Go.WideShapes Go.ChangeAt Go.RowKit Go.Ab

theorem ok_lMany : ∀ args : List PA, shpArgs Tryd.prog Tryd.f5.params.toList args → lMany_m args = some [.c (.bool true)] := fun args h => by
  rw [Tryd.params5] at h
  obtain ⟨p1, r1, rfl, h1, g1⟩ := shpArgs_cons h
  obtain ⟨a, rfl, a0, a1⟩ := aU8 h1
  obtain ⟨p2, r2, rfl, h2, g2⟩ := shpArgs_cons g1
  obtain ⟨b, rfl, b0, b1⟩ := aU8 h2
  obtain rfl := shpArgs_nil g2
  rw [lMany_m, mBB_eq, if_pos (decide_eq_true ⟨a0, a1, b0, b1⟩)]

end Go.Proofs.YtkneajcbgoaadaaDoor
