/-
  The laws on texts, further: at whatever arguments of their types they answer true.
-/
import Derived.Test.YteeffcglpljdpaaDoorAbK0
import Derived.Test.YteeffcglpljdpaaDoorAbY11
set_option linter.unusedSimpArgs false
set_option linter.unusedVariables false
namespace Go.Proofs.YteeffcglpljdpaaDoor
open Go.ChangeShapes Go.WideShapes Go.ChangeAt Go.RowKit Go.Ab

theorem shStr {n : Nat} {xs : List D} (h : shp Tryd.prog n 9 xs = true) : ∃ a, xs = [.str a] := let ⟨a, h, _⟩ := shp_str Tryd.underlying9 h; ⟨a, h⟩
theorem aStrs {p : PA} (h : ∃ n, shpA Tryd.prog n 24 p) : ∃ l : List (List UInt8), p = .c (.sl false (l.map rowS)) := by
  obtain ⟨es, m, rfl, _, hs⟩ := arg_slice Tryd.underlying24 h
  have : ∀ es : List (List D), (∀ r ∈ es, shp Tryd.prog m 9 r = true) → ∃ l : List (List UInt8), es = l.map rowS := fun es => by
    induction es with
    | nil => exact fun _ => ⟨[], rfl⟩
    | cons r es ih =>
      intro h
      obtain ⟨a, rfl⟩ := shStr (h r List.mem_cons_self)
      obtain ⟨l, rfl⟩ := ih (fun r hr => h r (List.mem_cons_of_mem _ hr))
      exact ⟨a :: l, rfl⟩
  obtain ⟨l, rfl⟩ := this es hs
  exact ⟨l, rfl⟩
theorem ok_lJoins : ∀ args : List PA, shpArgs Tryd.prog Tryd.f8.params.toList args → lJoins_m args = some [.c (.bool true)] := fun args h => by
  rw [Tryd.params8] at h
  obtain ⟨p1, r1, rfl, h1, g1⟩ := shpArgs_cons h
  obtain ⟨a, rfl⟩ := aStrs h1
  obtain rfl := shpArgs_nil g1
  exact ml_eq
theorem ok_lFields : ∀ args : List PA, shpArgs Tryd.prog Tryd.f4.params.toList args → lFields_m args = some [.c (.bool true)] := fun args h => by
  rw [Tryd.params4] at h
  obtain ⟨p1, r1, rfl, h1, g1⟩ := shpArgs_cons h
  obtain ⟨a, rfl⟩ := aStr h1
  obtain rfl := shpArgs_nil g1
  rfl
theorem ok_lFieldsBack : ∀ args : List PA, shpArgs Tryd.prog Tryd.f11.params.toList args → lFieldsBack_m args = some [.c (.bool true)] := fun args h => by
  rw [Tryd.params11] at h
  obtain ⟨p1, r1, rfl, h1, g1⟩ := shpArgs_cons h
  obtain ⟨a, rfl⟩ := aStr h1
  obtain rfl := shpArgs_nil g1
  rfl
theorem ok_lLines : ∀ args : List PA, shpArgs Tryd.prog Tryd.f6.params.toList args → lLines_m args = some [.c (.bool true)] := fun args h => by
  rw [Tryd.params6] at h
  obtain ⟨p1, r1, rfl, h1, g1⟩ := shpArgs_cons h
  obtain ⟨a, rfl⟩ := aStr h1
  obtain rfl := shpArgs_nil g1
  rfl
theorem ok_lLinesBack : ∀ args : List PA, shpArgs Tryd.prog Tryd.f12.params.toList args → lLinesBack_m args = some [.c (.bool true)] := fun args h => by
  rw [Tryd.params12] at h
  obtain ⟨p1, r1, rfl, h1, g1⟩ := shpArgs_cons h
  obtain ⟨a, rfl⟩ := aStr h1
  obtain rfl := shpArgs_nil g1
  rfl

end Go.Proofs.YteeffcglpljdpaaDoor
