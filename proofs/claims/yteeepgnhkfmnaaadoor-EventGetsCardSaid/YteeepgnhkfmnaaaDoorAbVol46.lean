/-
  Texts of the layer and of the laws, put together: AbK1. No law is stated here.
-/
import Derived.Test.YteeepgnhkfmnaaaDoorAbVol45
import Derived.Test.YteeepgnhkfmnaaaDoorAbVol41
set_option linter.unusedSimpArgs false
set_option linter.unusedVariables false
set_option maxRecDepth 100000

/-
  The law Gets: at whatever arguments of its types it answers true.
-/
namespace Go.Proofs.YteeepgnhkfmnaaaDoor
open Go.ChangeShapes Go.WideShapes Go.ChangeAt Go.RowKit Go.Ab

theorem ok_lGets : ∀ args : List PA, shpArgs Tryd.prog Tryd.f6.params.toList args → lGets_m args = some [.c (.bool true)] := fun args h => by
  rw [Tryd.params6] at h
  obtain ⟨p1, r1, rfl, h1, g1⟩ := shpArgs_cons h
  obtain ⟨b, rfl⟩ := aBytes h1
  obtain ⟨p2, r2, rfl, h2, g2⟩ := shpArgs_cons g1
  obtain ⟨n, rfl⟩ := aInt h2
  obtain rfl := shpArgs_nil g2
  exact mE_eq encBI_inj (g := fun _ => some [DV.b true]) (a := ((false, b), n))

end Go.Proofs.YteeepgnhkfmnaaaDoor
