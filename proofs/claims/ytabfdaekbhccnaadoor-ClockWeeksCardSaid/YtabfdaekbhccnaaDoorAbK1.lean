/-
  The laws of the calendar: at whatever arguments of their types they answer true.
-/
import Derived.Test.YtabfdaekbhccnaaDoorAbK0
import Derived.Test.YtabfdaekbhccnaaDoorAbC13
set_option linter.unusedSimpArgs false
set_option linter.unusedVariables false
namespace Go.Proofs.YtabfdaekbhccnaaDoor
open Go.ChangeShapes Go.WideShapes Go.ChangeAt Go.RowKit Go.Ab

theorem aInts {p : PA} (h : ∃ n, shpA Tryd.prog n 46 p) : ∃ l : List Int, p = .c (.sl false (l.map rowN)) := by
  obtain ⟨es, m, rfl, _, hs⟩ := arg_slice Tryd.underlying46 h
  have : ∀ es : List (List D), (∀ r ∈ es, shp Tryd.prog m 3 r = true) → ∃ l : List Int, es = l.map rowN := fun es => by
    induction es with
    | nil => exact fun _ => ⟨[], rfl⟩
    | cons r es ih =>
      intro h
      obtain ⟨a, rfl⟩ := shInt (h r List.mem_cons_self)
      obtain ⟨l, rfl⟩ := ih (fun r hr => h r (List.mem_cons_of_mem _ hr))
      exact ⟨a :: l, rfl⟩
  obtain ⟨l, rfl⟩ := this es hs
  exact ⟨l, rfl⟩

theorem ok_lDays : ∀ args : List PA, shpArgs Tryd.prog Tryd.f3.params.toList args → lDays_m args = some [.c (.bool true)] := fun args h => by
  rw [Tryd.params3] at h
  obtain ⟨p1, r1, rfl, h1, g1⟩ := shpArgs_cons h
  obtain ⟨a, rfl⟩ := aInt h1
  obtain ⟨p2, r2, rfl, h2, g2⟩ := shpArgs_cons g1
  obtain ⟨b, rfl⟩ := aInt h2
  obtain rfl := shpArgs_nil g2
  rfl

theorem ok_lDates : ∀ args : List PA, shpArgs Tryd.prog Tryd.f4.params.toList args → lDates_m args = some [.c (.bool true)] := fun args h => by
  rw [Tryd.params4] at h
  obtain ⟨p1, r1, rfl, h1, g1⟩ := shpArgs_cons h
  obtain ⟨a, rfl⟩ := aInt h1
  obtain rfl := shpArgs_nil g1
  rfl

theorem ok_lDayOf : ∀ args : List PA, shpArgs Tryd.prog Tryd.f5.params.toList args → lDayOf_m args = some [.c (.bool true)] := fun args h => by
  rw [Tryd.params5] at h
  obtain ⟨p1, r1, rfl, h1, g1⟩ := shpArgs_cons h
  obtain ⟨a, rfl⟩ := aInt h1
  obtain ⟨p2, r2, rfl, h2, g2⟩ := shpArgs_cons g1
  obtain ⟨b, rfl⟩ := aInt h2
  obtain ⟨p3, r3, rfl, h3, g3⟩ := shpArgs_cons g2
  obtain ⟨c, rfl⟩ := aInt h3
  obtain rfl := shpArgs_nil g3
  rfl

theorem ok_lIn : ∀ args : List PA, shpArgs Tryd.prog Tryd.f6.params.toList args → lIn_m args = some [.c (.bool true)] := fun args h => by
  rw [Tryd.params6] at h
  obtain ⟨p1, r1, rfl, h1, g1⟩ := shpArgs_cons h
  obtain ⟨a, b, c, rfl⟩ := aWin h1
  obtain ⟨p2, r2, rfl, h2, g2⟩ := shpArgs_cons g1
  obtain ⟨b, rfl⟩ := aInt h2
  obtain rfl := shpArgs_nil g2
  rfl

theorem ok_lSpans : ∀ args : List PA, shpArgs Tryd.prog Tryd.f7.params.toList args → lSpans_m args = some [.c (.bool true)] := fun args h => by
  rw [Tryd.params7] at h
  obtain ⟨p1, r1, rfl, h1, g1⟩ := shpArgs_cons h
  obtain ⟨a, b, c, rfl⟩ := aWin h1
  obtain ⟨p2, r2, rfl, h2, g2⟩ := shpArgs_cons g1
  obtain ⟨a, b, rfl⟩ := aIval h2
  obtain rfl := shpArgs_nil g2
  rfl

theorem ok_lLater : ∀ args : List PA, shpArgs Tryd.prog Tryd.f8.params.toList args → lLater_m args = some [.c (.bool true)] := fun args h => by
  rw [Tryd.params8] at h
  obtain ⟨p1, r1, rfl, h1, g1⟩ := shpArgs_cons h
  obtain ⟨l, rfl⟩ := aInts h1
  obtain ⟨p2, r2, rfl, h2, g2⟩ := shpArgs_cons g1
  obtain ⟨b, rfl⟩ := aInt h2
  obtain ⟨p3, r3, rfl, h3, g3⟩ := shpArgs_cons g2
  obtain ⟨c, rfl⟩ := aInt h3
  obtain rfl := shpArgs_nil g3
  exact mlii_eq

theorem ok_lDateBack : ∀ args : List PA, shpArgs Tryd.prog Tryd.f9.params.toList args → lDateBack_m args = some [.c (.bool true)] := fun args h => by
  rw [Tryd.params9] at h
  obtain ⟨p1, r1, rfl, h1, g1⟩ := shpArgs_cons h
  obtain ⟨a, rfl⟩ := aInt h1
  obtain rfl := shpArgs_nil g1
  rfl

theorem ok_lWeeks : ∀ args : List PA, shpArgs Tryd.prog Tryd.f10.params.toList args → lWeeks_m args = some [.c (.bool true)] := fun args h => by
  rw [Tryd.params10] at h
  obtain ⟨p1, r1, rfl, h1, g1⟩ := shpArgs_cons h
  obtain ⟨a, b, c, rfl⟩ := aWin h1
  obtain ⟨p2, r2, rfl, h2, g2⟩ := shpArgs_cons g1
  obtain ⟨b, rfl⟩ := aInt h2
  obtain rfl := shpArgs_nil g2
  rfl

theorem ok_lCovers : ∀ args : List PA, shpArgs Tryd.prog Tryd.f11.params.toList args → lCovers_m args = some [.c (.bool true)] := fun args h => by
  rw [Tryd.params11] at h
  obtain ⟨p1, r1, rfl, h1, g1⟩ := shpArgs_cons h
  obtain ⟨a, b, c, rfl⟩ := aWin h1
  obtain ⟨p2, r2, rfl, h2, g2⟩ := shpArgs_cons g1
  obtain ⟨a, b, rfl⟩ := aIval h2
  obtain ⟨p3, r3, rfl, h3, g3⟩ := shpArgs_cons g2
  obtain ⟨b, rfl⟩ := aInt h3
  obtain rfl := shpArgs_nil g3
  rfl

theorem ok_lSteps : ∀ args : List PA, shpArgs Tryd.prog Tryd.f12.params.toList args → lSteps_m args = some [.c (.bool true)] := fun args h => by
  rw [Tryd.params12] at h
  obtain ⟨p1, r1, rfl, h1, g1⟩ := shpArgs_cons h
  obtain ⟨l, rfl⟩ := aInts h1
  obtain ⟨p2, r2, rfl, h2, g2⟩ := shpArgs_cons g1
  obtain ⟨b, rfl⟩ := aInt h2
  obtain ⟨p3, r3, rfl, h3, g3⟩ := shpArgs_cons g2
  obtain ⟨c, rfl⟩ := aInt h3
  obtain rfl := shpArgs_nil g3
  exact mlii_eq

end Go.Proofs.YtabfdaekbhccnaaDoor
