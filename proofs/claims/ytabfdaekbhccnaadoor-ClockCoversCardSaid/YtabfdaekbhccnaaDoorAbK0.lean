/-
  The seat's own facts: the package variable that her rows list, and a world in which it lies.
-/
import Derived.Test.YtabfdaekbhccnaaDoorCards
import Derived.Test.YtabfdaekbhccnaaDoorTie
import Derived.Test.YtabfdaekbhccnaaDoorAbG
import Derived.Test.YtabfdaekbhccnaaDoorAbB3
import Derived.WalkKit
import Derived.ProofKit
import Derived.OpenShut
import Derived.Deep.DeepHandedRow
import Derived.Lib.LaidTab
set_option linter.unusedSimpArgs false
set_option linter.unusedVariables false
namespace Go.Proofs.YtabfdaekbhccnaaDoor
open Go.ChangeShapes Go.WideShapes Go.ChangeAt Go.RowKit Go.Ab

theorem own : ownKnob Tryd.prog.godebug = none := by kernel_rfl
theorem laidOut : laidOutB Tryd.prog = true := by kernel_rfl
theorem posOk : posB Tryd.prog = true := by kernel_rfl
abbrev boolT : TypeId := 4
abbrev vname : String := Rows.clockDaysRow.named.headD default
theorem gTab : Tryd.prog.globalNamed vname = some 0 := by kernel_rfl
theorem gTabType : (Tryd.prog.globals[0]?).map (·.type) = some 56 := by kernel_rfl
theorem cells56 : Tryd.prog.cellsOf 56 = 12 := by kernel_rfl
theorem cells3 : Tryd.prog.cellsOf 3 = 1 := by kernel_rfl

theorem table {W : World} (h : laidMetH Tryd.prog Rows.clockDaysRow.laid W) : Lib.TabIs Tryd.prog W vname .i64 [31, 28, 31, 30, 31, 30, 31, 31, 30, 31, 30, 31] :=
  Lib.tabIs_of_head (rest := []) gTab gTabType Tryd.underlying56 Tryd.underlying3 cells3 cells56 h

theorem gok {W : World} (h : laidMetH Tryd.prog Rows.clockDaysRow.laid W) : GOk Gt W (fun b _ => b < W.heap.size) := by
  refine ⟨fun g xs hg => ?_, trivial⟩
  match g, hg with
  | 0, hg =>
    cases hg
    refine ⟨0, 0, rfl, fun j x hj => ?_⟩
    have hjl : j < 12 := by have := (List.getElem?_eq_some_iff.1 hj).1; simpa using this
    have hc := (table h).cell gTab j hjl
    rw [Nat.zero_add]
    refine ⟨(cell_lt hc).1, _, hc, ?_⟩
    rw [List.getElem?_map, List.getElem?_eq_getElem hjl] at hj
    cases hj
    rw [List.getD_eq_getElem?_getD, List.getElem?_eq_getElem hjl]
    exact .int _ _

noncomputable def laidWorld (os : Os) : World :=
  { World.holding Tryd.prog os ⟨#[], #[], []⟩ with heap := (World.holding Tryd.prog os ⟨#[], #[], []⟩).heap.modify 0 fun
      | .cells _ t frozen => .cells #[.int .i64 31, .int .i64 28, .int .i64 31, .int .i64 30, .int .i64 31, .int .i64 30, .int .i64 31, .int .i64 31, .int .i64 30, .int .i64 31, .int .i64 30, .int .i64 31] t frozen
      | o => o }

/-! The shapes of this seat's parameters. -/
theorem shInt {n : Nat} {xs : List D} (h : shp Tryd.prog n 3 xs = true) : ∃ a, xs = [.int .i64 a] := let ⟨a, h, _⟩ := shp_int Tryd.underlying3 h; ⟨a, h⟩
theorem aInt {p : PA} (h : ∃ n, shpA Tryd.prog n 3 p) : ∃ a, p = .c (.int .i64 a) := let ⟨a, h, _⟩ := arg_int Tryd.underlying3 h; ⟨a, h⟩
theorem aWin {p : PA} (h : ∃ n, shpA Tryd.prog n 35 p) : ∃ a b c, p = .agg [.int .i64 a, .int .i64 b, .int .i64 c] := by
  obtain ⟨xs, m, rfl, g0⟩ := arg_struct Tryd.underlying35 h
  obtain ⟨x1, y1, rfl, h1, g1⟩ := shpL_cons g0
  obtain ⟨x2, y2, rfl, h2, g2⟩ := shpL_cons g1
  obtain ⟨x3, y3, rfl, h3, g3⟩ := shpL_cons g2
  obtain rfl := shpL_nil g3
  obtain ⟨a, rfl⟩ := shInt h1
  obtain ⟨b, rfl⟩ := shInt h2
  obtain ⟨c, rfl⟩ := shInt h3
  exact ⟨a, b, c, rfl⟩
theorem aIval {p : PA} (h : ∃ n, shpA Tryd.prog n 38 p) : ∃ a b, p = .agg [.int .i64 a, .int .i64 b] := by
  obtain ⟨xs, m, rfl, g0⟩ := arg_struct Tryd.underlying38 h
  obtain ⟨x1, y1, rfl, h1, g1⟩ := shpL_cons g0
  obtain ⟨x2, y2, rfl, h2, g2⟩ := shpL_cons g1
  obtain rfl := shpL_nil g2
  obtain ⟨a, rfl⟩ := shInt h1
  obtain ⟨b, rfl⟩ := shInt h2
  exact ⟨a, b, rfl⟩

end Go.Proofs.YtabfdaekbhccnaaDoor
