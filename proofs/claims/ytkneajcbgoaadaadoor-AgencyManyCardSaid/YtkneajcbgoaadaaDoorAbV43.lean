/-
  Texts of the layer and of the laws, put together: AbK1. No law is stated here.
-/
import Derived.Test.YtkneajcbgoaadaaDoorAbV40
import Derived.Test.YtkneajcbgoaadaaDoorAbV42
set_option linter.unusedSimpArgs false
set_option linter.unusedVariables false
set_option maxRecDepth 100000

/-
  The seat's arguments: bytes and counts; laws Long, Only.
-/
namespace Go.Proofs.YtkneajcbgoaadaaDoor
open Go.ChangeShapes Go.WideShapes Go.ChangeAt Go.RowKit Go.Ab

theorem aU16 {p : PA} (h : ∃ n, shpA Tryd.prog n 45 p) : ∃ a, p = .c (.int .u16 a) ∧ 0 ≤ a ∧ a ≤ 65535 := by
  obtain ⟨a, h, k⟩ := arg_int Tryd.underlying45 h
  refine ⟨a, h, ?_⟩
  simpa [IntKind.has, IntKind.min, IntKind.max, IntKind.bits, IntKind.signed] using k
theorem aU8 {p : PA} (h : ∃ n, shpA Tryd.prog n 5 p) : ∃ a, p = .c (.int .u8 a) ∧ 0 ≤ a ∧ a ≤ 255 := by
  obtain ⟨a, h, k⟩ := arg_int Tryd.underlying5 h
  refine ⟨a, h, ?_⟩
  simpa [IntKind.has, IntKind.min, IntKind.max, IntKind.bits, IntKind.signed] using k
theorem ok_lLong : ∀ args : List PA, shpArgs Tryd.prog Tryd.f6.params.toList args → lLong_m args = some [.c (.bool true)] := fun args h => by
  rw [Tryd.params6] at h
  obtain ⟨p1, r1, rfl, h1, g1⟩ := shpArgs_cons h
  obtain ⟨a, rfl, a0, a1⟩ := aU16 h1
  obtain ⟨p2, r2, rfl, h2, g2⟩ := shpArgs_cons g1
  obtain ⟨b, rfl, b0, b1⟩ := aU8 h2
  obtain rfl := shpArgs_nil g2
  rw [lLong_m, mUB_eq, if_pos (decide_eq_true ⟨a0, b0, b1⟩)]
theorem ok_lOnly : ∀ args : List PA, shpArgs Tryd.prog Tryd.f8.params.toList args → lOnly_m args = some [.c (.bool true)] := fun args h => by
  rw [Tryd.params8] at h
  obtain ⟨p1, r1, rfl, h1, g1⟩ := shpArgs_cons h
  obtain ⟨a, rfl, a0⟩ := arg_str Tryd.underlying9 h1
  obtain rfl := shpArgs_nil g1
  rw [lOnly_m, ms_eq, if_pos (decide_eq_true (show a.length ≤ 9223372036854775807 from a0))]

end Go.Proofs.YtkneajcbgoaadaaDoor
