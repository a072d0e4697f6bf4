/-
  Texts of the layer and of the laws, put together: AbK2. No law is stated here.
-/
import Derived.Test.YtkneajcbgoaadaaDoorAbV43
import Derived.Test.YtkneajcbgoaadaaDoorAbV45
set_option linter.unusedSimpArgs false
set_option linter.unusedVariables false
set_option maxRecDepth 100000

/-
  The seat's arguments: law Back.
-/
namespace Go.Proofs.YtkneajcbgoaadaaDoor
open Go.ChangeShapes Go.WideShapes Go.ChangeAt Go.RowKit Go.Ab

theorem ok_lBack : ∀ args : List PA, shpArgs Tryd.prog Tryd.f7.params.toList args → lBack_m args = some [.c (.bool true)] := fun args h => by
  rw [Tryd.params7] at h
  obtain ⟨p1, r1, rfl, h1, g1⟩ := shpArgs_cons h
  obtain ⟨x, rfl, hx⟩ := aFil h1
  obtain ⟨p2, r2, rfl, h2, g2⟩ := shpArgs_cons g1
  obtain ⟨b, rfl, b0, b1⟩ := aU16 h2
  obtain rfl := shpArgs_nil g2
  rw [lBack_m, show ([.agg x.row, .c (.int .u16 b)] : List PA) = encFm (x, b) from rfl, mE_eq encFm_inj, if_pos (decide_eq_true ⟨hx, b0, b1⟩)]

end Go.Proofs.YtkneajcbgoaadaaDoor
