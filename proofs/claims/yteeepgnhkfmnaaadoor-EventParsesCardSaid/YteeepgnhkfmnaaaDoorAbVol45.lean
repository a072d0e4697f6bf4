/-
  Texts of the layer and of the laws, put together: AbK0a. No law is stated here.
-/
import Derived.Test.YteeepgnhkfmnaaaDoorCards
import Derived.Test.YteeepgnhkfmnaaaDoorTie
import Derived.Test.YteeepgnhkfmnaaaDoorAbVol20
import Derived.Test.YteeepgnhkfmnaaaDoorAbVol22
import Derived.Test.YteeepgnhkfmnaaaDoorAbVol44
import Derived.Test.YteeepgnhkfmnaaaDoorAbVol39
import Derived.WalkKit
import Derived.ProofKit
import Derived.OpenShut
import Derived.Deep.DeepHandedRow
import Derived.Lib.LaidTab
import Derived.Lib.LaidU8
set_option linter.unusedSimpArgs false
set_option linter.unusedVariables false
set_option maxRecDepth 100000

/-
  The seat's own facts: the package variables that her rows list, a world in which they lie; the shapes of events; at whatever arguments of their types the laws answer true.
-/
namespace Go.Proofs.YteeepgnhkfmnaaaDoor
open Go.ChangeShapes Go.WideShapes Go.ChangeAt Go.RowKit Go.Ab

theorem own : ownKnob Tryd.prog.godebug = none := by kernel_rfl
theorem laidOut : laidOutB Tryd.prog = true := by kernel_rfl
theorem posOk : posB Tryd.prog = true := by kernel_rfl
abbrev boolT : TypeId := 4
theorem gTab : Tryd.prog.globalNamed powName = some 0 := by kernel_rfl
theorem gTabType : (Tryd.prog.globals[0]?).map (·.type) = some 135 := by kernel_rfl
theorem un135 : Tryd.prog.underlying 135 = some (.array 20 98) := by kernel_rfl
theorem un98 : Tryd.prog.underlying 98 = some (.int .u64) := by kernel_rfl
theorem cells135 : Tryd.prog.cellsOf 135 = 20 := by kernel_rfl
theorem cells98 : Tryd.prog.cellsOf 98 = 1 := by kernel_rfl
theorem laidPow : ((Rows.eventPrintsRow.laid).drop 2).head? = some (powName, Lib.tabData .u64 Lib.pow10Tab) := by kernel_rfl

theorem table {W : World} (h : laidMetH Tryd.prog Rows.eventPrintsRow.laid W) : Lib.TabIs Tryd.prog W powName .u64 Lib.pow10Tab := by
  have hm : (powName, Lib.tabData .u64 Lib.pow10Tab) ∈ Rows.eventPrintsRow.laid :=
    List.mem_of_mem_drop (List.mem_of_mem_head? (by rw [laidPow]; rfl))
  obtain ⟨g, t, cs, fuel, p, h1, h2, h3, h4⟩ := Lib.laidMet.reads h hm
  obtain rfl := Option.some.inj (gTab.symm.trans h1)
  obtain rfl := Option.some.inj (gTabType.symm.trans h2)
  unfold Lib.TabIs
  rw [h3, ← Lib.cells_of_tab un135 un98 cells98 cells135 h4]
theorem maxLen {W : World} (h : W.ShapedOpen Tryd.prog) : ∃ m : Int, W.cell? ⟨1, 0, none⟩ = some (.int .i64 m) :=
  Go.Proofs.cell_of_shapedOpen_int (zero := #[.int .i64 0]) (t := 3) h (of_decide_eq_true (by kernel_rfl)) (by kernel_rfl) rfl (by kernel_rfl) (by kernel_rfl) Tryd.underlying3

theorem gok {W : World} (h : laidMetH Tryd.prog Rows.eventPrintsRow.laid W) (hsh : W.ShapedOpen Tryd.prog) : GOk Gt W (fun b _ => b < W.heap.size) :=
  ⟨fun g xs hg => (by cases hg), table h, maxLen hsh⟩

def flat : Nat → DataW Unit → List Value
  | 0, _ => []
  | n + 1, .agg l => l.flatMap (flat n)
  | _ + 1, .lit (.int k z) => [.int k z]
  | _, _ => []
def laidCells (n : String) : Array Value := (((Rows.eventPrintsRow.laid.find? fun x => x.1 == n).map fun x => flat 4 x.2).getD []).toArray
def setCells (cs : Array Value) : Obj → Obj
  | .cells _ t frozen => .cells cs t frozen
  | o => o
noncomputable def laidWorld (os : Os) : World :=
  { World.holding Tryd.prog os ⟨#[], #[], []⟩ with heap := (((((World.holding Tryd.prog os ⟨#[], #[], []⟩).heap.modify 0 (setCells (laidCells "internal/strconv.uint64pow10"))).modify 2 (setCells (laidCells "unicode/utf8.first"))).modify 3 (setCells (laidCells "unicode/utf8.acceptRanges"))).modify 4 (setCells (laidCells "math/bits.deBruijn32tab"))).modify 5 (setCells (laidCells "math/bits.deBruijn64tab")) }

/-! The shapes of this seat's parameters. -/
section
variable {n : Nat} {xs : List D}
theorem shInt (h : shp Tryd.prog n 3 xs = true) : ∃ a, xs = [.int .i64 a] := by
  obtain ⟨a, h, _⟩ := shp_int Tryd.underlying3 h
  exact ⟨a, h⟩
theorem shByte (h : shp Tryd.prog n 5 xs = true) : ∃ a : UInt8, xs = rowB a := by
  obtain ⟨a, h, k⟩ := shp_int Tryd.underlying5 h
  simp [IntKind.has, IntKind.min, IntKind.max, IntKind.bits, IntKind.signed] at k
  refine ⟨UInt8.ofNat a.toNat, ?_⟩
  rw [rowB_of (by omega), h, show ((a.toNat : Nat) : Int) = a by omega]
theorem shStr (h : shp Tryd.prog n 9 xs = true) : ∃ a, xs = [.str a] := let ⟨a, h, _⟩ := shp_str Tryd.underlying9 h; ⟨a, h⟩
theorem bytes_of : ∀ {es : List (List D)}, (∀ r ∈ es, ∃ c, r = rowB c) → ∃ l : List UInt8, es = l.map rowB
  | [], _ => ⟨[], rfl⟩
  | r :: es, h => by
    obtain ⟨c, rfl⟩ := h r List.mem_cons_self
    obtain ⟨l, rfl⟩ := bytes_of (fun r hr => h r (List.mem_cons_of_mem _ hr))
    exact ⟨c :: l, rfl⟩
theorem shDet (h : shp Tryd.prog n 23 xs = true) : ∃ a b c d e f g, xs = [.str a, .int .i64 b, .int .i64 c, .str d, .str e, .int .i64 f, .int .i64 g] := by
  obtain ⟨m, g0⟩ := shp_struct Tryd.underlying23 h
  obtain ⟨x1, y1, rfl, h1, g1⟩ := shpL_cons g0
  obtain ⟨x2, y2, rfl, h2, g2⟩ := shpL_cons g1
  obtain ⟨x3, y3, rfl, h3, g3⟩ := shpL_cons g2
  obtain ⟨x4, y4, rfl, h4, g4⟩ := shpL_cons g3
  obtain ⟨x5, y5, rfl, h5, g5⟩ := shpL_cons g4
  obtain ⟨x6, y6, rfl, h6, g6⟩ := shpL_cons g5
  obtain ⟨x7, y7, rfl, h7, g7⟩ := shpL_cons g6
  obtain rfl := shpL_nil g7
  obtain ⟨a, rfl⟩ := shStr h1
  obtain ⟨b, rfl⟩ := shInt h2
  obtain ⟨c, rfl⟩ := shInt h3
  obtain ⟨d, rfl⟩ := shStr h4
  obtain ⟨e, rfl⟩ := shStr h5
  obtain ⟨f, rfl⟩ := shInt h6
  obtain ⟨g, rfl⟩ := shInt h7
  exact ⟨a, b, c, d, e, f, g, rfl⟩
theorem shPrk (h : shp Tryd.prog n 25 xs = true) : ∃ a b c d e, xs = [.int .i64 a, .str b, .str c, .int .i64 d, .int .i64 e] := by
  obtain ⟨m, g0⟩ := shp_struct Tryd.underlying25 h
  obtain ⟨x1, y1, rfl, h1, g1⟩ := shpL_cons g0
  obtain ⟨x2, y2, rfl, h2, g2⟩ := shpL_cons g1
  obtain ⟨x3, y3, rfl, h3, g3⟩ := shpL_cons g2
  obtain ⟨x4, y4, rfl, h4, g4⟩ := shpL_cons g3
  obtain ⟨x5, y5, rfl, h5, g5⟩ := shpL_cons g4
  obtain rfl := shpL_nil g5
  obtain ⟨a, rfl⟩ := shInt h1
  obtain ⟨b, rfl⟩ := shStr h2
  obtain ⟨c, rfl⟩ := shStr h3
  obtain ⟨d, rfl⟩ := shInt h4
  obtain ⟨e, rfl⟩ := shInt h5
  exact ⟨a, b, c, d, e, rfl⟩
theorem shEvt (h : shp Tryd.prog n 27 xs = true) : ∃ e : Evt, xs = e.row := by
  obtain ⟨m, g0⟩ := shp_struct Tryd.underlying27 h
  obtain ⟨x1, y1, rfl, h1, g1⟩ := shpL_cons g0
  obtain ⟨x2, y2, rfl, h2, g2⟩ := shpL_cons g1
  obtain ⟨x3, y3, rfl, h3, g3⟩ := shpL_cons g2
  obtain ⟨x4, y4, rfl, h4, g4⟩ := shpL_cons g3
  obtain ⟨x5, y5, rfl, h5, g5⟩ := shpL_cons g4
  obtain ⟨x6, y6, rfl, h6, g6⟩ := shpL_cons g5
  obtain rfl := shpL_nil g6
  obtain ⟨k, rfl⟩ := shInt h1
  obtain ⟨a, b, c, d, e, f, g, rfl⟩ := shDet h2
  obtain ⟨hh, i, j, l, m, rfl⟩ := shPrk h3
  obtain ⟨n, rfl⟩ := shInt h4
  obtain ⟨o, rfl⟩ := shStr h5
  obtain ⟨p, rfl⟩ := shInt h6
  exact ⟨⟨k, a, b, c, d, e, f, g, hh, i, j, l, m, n, o, p⟩, rfl⟩
end
theorem aEvt {p : PA} (h : ∃ n, shpA Tryd.prog n 27 p) : ∃ e : Evt, p = .agg e.row := by
  obtain ⟨n, h⟩ := h
  obtain ⟨x, rfl, hx⟩ := shpA_agg (by kernel_rfl) h
  obtain ⟨f, rfl⟩ := shEvt hx
  exact ⟨f, rfl⟩
theorem aInt {p : PA} (h : ∃ n, shpA Tryd.prog n 3 p) : ∃ a, p = .c (.int .i64 a) := by
  obtain ⟨a, h, _⟩ := arg_int Tryd.underlying3 h
  exact ⟨a, h⟩
theorem aStr {p : PA} (h : ∃ n, shpA Tryd.prog n 9 p) : ∃ a, p = .c (.str a) := let ⟨a, h, _⟩ := arg_str Tryd.underlying9 h; ⟨a, h⟩
theorem aBytes {p : PA} (h : ∃ n, shpA Tryd.prog n 41 p) : ∃ l : List UInt8, p = .c (.sl false (l.map rowB)) := by
  obtain ⟨es, m, rfl, _, hs⟩ := arg_slice Tryd.underlying41 h
  obtain ⟨l, rfl⟩ := bytes_of (fun r hr => shByte (hs r hr))
  exact ⟨l, rfl⟩

end Go.Proofs.YteeepgnhkfmnaaaDoor
