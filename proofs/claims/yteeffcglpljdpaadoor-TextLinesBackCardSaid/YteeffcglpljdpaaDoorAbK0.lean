/-
  The seat's own facts: the package variables that her rows list, and a world in which they lie.
-/
import Derived.Test.YteeffcglpljdpaaDoorCards
import Derived.Test.YteeffcglpljdpaaDoorTie
import Derived.Test.YteeffcglpljdpaaDoorAbG
import Derived.Test.YteeffcglpljdpaaDoorAbSh
import Derived.Test.YteeffcglpljdpaaDoorAbB3
import Derived.Test.YteeffcglpljdpaaDoorAbY8
import Derived.WalkKit
import Derived.ProofKit
import Derived.OpenShut
import Derived.Deep.DeepHandedRow
import Derived.Lib.LaidTab
import Derived.Lib.LaidU8
set_option linter.unusedSimpArgs false
set_option linter.unusedVariables false
namespace Go.Proofs.YteeffcglpljdpaaDoor
open Go.ChangeShapes Go.WideShapes Go.ChangeAt Go.RowKit Go.Ab

theorem own : ownKnob Tryd.prog.godebug = none := by kernel_rfl
theorem laidOut : laidOutB Tryd.prog = true := by kernel_rfl
theorem posOk : posB Tryd.prog = true := by kernel_rfl
abbrev boolT : TypeId := 4
theorem gTab : Tryd.prog.globalNamed powName = some 1 := by kernel_rfl
theorem gTabType : (Tryd.prog.globals[1]?).map (·.type) = some 82 := by kernel_rfl
theorem un82 : Tryd.prog.underlying 82 = some (.array 20 71) := by kernel_rfl
theorem un71 : Tryd.prog.underlying 71 = some (.int .u64) := by kernel_rfl
theorem cells82 : Tryd.prog.cellsOf 82 = 20 := by kernel_rfl
theorem cells71 : Tryd.prog.cellsOf 71 = 1 := by kernel_rfl
theorem laidPow : ((Rows.textNamesRow.laid).drop 2).head? = some (powName, Lib.tabData .u64 Lib.pow10Tab) := by kernel_rfl

theorem table {W : World} (h : laidMetH Tryd.prog Rows.textNamesRow.laid W) : Lib.TabIs Tryd.prog W powName .u64 Lib.pow10Tab := by
  have hm : (powName, Lib.tabData .u64 Lib.pow10Tab) ∈ Rows.textNamesRow.laid :=
    List.mem_of_mem_drop (List.mem_of_mem_head? (by rw [laidPow]; rfl))
  obtain ⟨g, t, cs, fuel, p, h1, h2, h3, h4⟩ := Lib.laidMet.reads h hm
  obtain rfl := Option.some.inj (gTab.symm.trans h1)
  obtain rfl := Option.some.inj (gTabType.symm.trans h2)
  unfold Lib.TabIs
  rw [h3, ← Lib.cells_of_tab un82 un71 cells71 cells82 h4]

theorem gok {W : World} (h : laidMetH Tryd.prog Rows.textNamesRow.laid W) (hsh : W.ShapedOpen Tryd.prog) : GOk Gt W (fun b _ => b < W.heap.size) :=
  ⟨fun g xs hg => (by cases hg), table h, Tryd.laysM146.s1_3 W hsh⟩

def flat : Nat → DataW Unit → List Value
  | 0, _ => []
  | n + 1, .agg l => l.flatMap (flat n)
  | _ + 1, .lit (.int k z) => [.int k z]
  | _, _ => []
def laidCells (n : String) : Array Value := (((Rows.textNamesRow.laid.find? fun x => x.1 == n).map fun x => flat 4 x.2).getD []).toArray
def setCells (cs : Array Value) : Obj → Obj
  | .cells _ t frozen => .cells cs t frozen
  | o => o
noncomputable def laidWorld (os : Os) : World :=
  { World.holding Tryd.prog os ⟨#[], #[], []⟩ with heap := (((((World.holding Tryd.prog os ⟨#[], #[], []⟩).heap.modify 1 (setCells (laidCells "internal/strconv.uint64pow10"))).modify 2 (setCells (laidCells "unicode/utf8.first"))).modify 3 (setCells (laidCells "unicode/utf8.acceptRanges"))).modify 4 (setCells (laidCells "math/bits.deBruijn32tab"))).modify 5 (setCells (laidCells "math/bits.deBruijn64tab")) }

/-! The shapes of this seat's parameters. -/
theorem aStr {p : PA} (h : ∃ n, shpA Tryd.prog n 9 p) : ∃ a, p = .c (.str a) := let ⟨a, h, _⟩ := arg_str Tryd.underlying9 h; ⟨a, h⟩
theorem aInt {p : PA} (h : ∃ n, shpA Tryd.prog n 3 p) : ∃ a, p = .c (.int .i64 a) ∧ decide (-9223372036854775808 ≤ a ∧ a ≤ 9223372036854775807) = true := by
  obtain ⟨a, h, k⟩ := arg_int Tryd.underlying3 h
  refine ⟨a, h, decide_eq_true ?_⟩
  simpa [IntKind.has, IntKind.min, IntKind.max, IntKind.bits, IntKind.signed] using k

theorem ok_lNames : ∀ args : List PA, shpArgs Tryd.prog Tryd.f3.params.toList args → lNames_m args = some [.c (.bool true)] := fun args h => by
  rw [Tryd.params3] at h
  obtain ⟨p1, r1, rfl, h1, g1⟩ := shpArgs_cons h
  obtain ⟨a, rfl⟩ := aStr h1
  obtain rfl := shpArgs_nil g1
  rfl
theorem ok_lEscapes : ∀ args : List PA, shpArgs Tryd.prog Tryd.f7.params.toList args → lEscapes_m args = some [.c (.bool true)] := fun args h => by
  rw [Tryd.params7] at h
  obtain ⟨p1, r1, rfl, h1, g1⟩ := shpArgs_cons h
  obtain ⟨a, rfl⟩ := aStr h1
  obtain rfl := shpArgs_nil g1
  rfl
theorem ok_lEscapeBack : ∀ args : List PA, shpArgs Tryd.prog Tryd.f10.params.toList args → lEscapeBack_m args = some [.c (.bool true)] := fun args h => by
  rw [Tryd.params10] at h
  obtain ⟨p1, r1, rfl, h1, g1⟩ := shpArgs_cons h
  obtain ⟨a, rfl⟩ := aStr h1
  obtain rfl := shpArgs_nil g1
  rfl
theorem ok_lNumbers : ∀ args : List PA, shpArgs Tryd.prog Tryd.f5.params.toList args → lNumbers_m args = some [.c (.bool true)] := fun args h => by
  rw [Tryd.params5] at h
  obtain ⟨p1, r1, rfl, h1, g1⟩ := shpArgs_cons h
  obtain ⟨a, rfl⟩ := aStr h1
  obtain ⟨p2, r2, rfl, h2, g2⟩ := shpArgs_cons g1
  obtain ⟨n, rfl, hn⟩ := aInt h2
  obtain rfl := shpArgs_nil g2
  rw [lNumbers_m, msi_eq, if_pos hn]
theorem ok_lNumberBack : ∀ args : List PA, shpArgs Tryd.prog Tryd.f9.params.toList args → lNumberBack_m args = some [.c (.bool true)] := fun args h => by
  rw [Tryd.params9] at h
  obtain ⟨p1, r1, rfl, h1, g1⟩ := shpArgs_cons h
  obtain ⟨n, rfl, hn⟩ := aInt h1
  obtain ⟨p2, r2, rfl, h2, g2⟩ := shpArgs_cons g1
  obtain ⟨a, rfl⟩ := aStr h2
  obtain rfl := shpArgs_nil g2
  rw [lNumberBack_m, mis_eq, if_pos hn]

end Go.Proofs.YteeffcglpljdpaaDoor
