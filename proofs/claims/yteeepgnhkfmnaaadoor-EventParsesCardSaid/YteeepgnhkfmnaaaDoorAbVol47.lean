/-
  Texts of the layer and of the laws, put together: AbK2. No law is stated here.
-/
import Derived.Test.YteeepgnhkfmnaaaDoorAbVol45
import Derived.Test.YteeepgnhkfmnaaaDoorAbVol43
set_option linter.unusedSimpArgs false
set_option linter.unusedVariables false
set_option maxRecDepth 100000

/-
  The law Parses: at whatever arguments of its types it answers true.
-/
namespace Go.Proofs.YteeepgnhkfmnaaaDoor
open Go.ChangeShapes Go.WideShapes Go.ChangeAt Go.RowKit Go.Ab

theorem ok_lParses : ∀ args : List PA, shpArgs Tryd.prog Tryd.f4.params.toList args → lParses_m args = some [.c (.bool true)] := fun args h => by
  rw [Tryd.params4] at h
  obtain ⟨p1, r1, rfl, h1, g1⟩ := shpArgs_cons h
  obtain ⟨s, rfl⟩ := aStr h1
  obtain rfl := shpArgs_nil g1
  rw [lParses_m, ms_eq]
end Go.Proofs.YteeepgnhkfmnaaaDoor
