/-
  Texts of the layer and of the laws, put together: AbK0, AbK1. No law is stated here.
-/
import Derived.Test.YtfokeholingnjaaDoorCards
import Derived.Test.YtfokeholingnjaaDoorTie
import Derived.Test.YtfokeholingnjaaDoorAbV17
import Derived.Test.YtfokeholingnjaaDoorAbV19
import Derived.Test.YtfokeholingnjaaDoorAbV40
import Derived.Test.YtfokeholingnjaaDoorAbV38
import Derived.WalkKit
import Derived.ProofKit
import Derived.OpenShut
import Derived.Deep.DeepHandedRow
import Derived.Lib.LaidTab
import Derived.Lib.LaidU8
import Derived.Test.YtfokeholingnjaaDoorAbV39
import Derived.Test.YtfokeholingnjaaDoorAbV41
set_option linter.unusedSimpArgs false
set_option linter.unusedVariables false
set_option maxRecDepth 100000

/-
  The seat's own facts: the package variables that her rows list, a world in which they lie; the shapes of states.
-/
namespace Go.Proofs.YtfokeholingnjaaDoor
open Go.ChangeShapes Go.WideShapes Go.ChangeAt Go.RowKit Go.Ab

theorem own : ownKnob Tryd.prog.godebug = none := by kernel_rfl
theorem laidOut : laidOutB Tryd.prog = true := by kernel_rfl
theorem posOk : posB Tryd.prog = true := by kernel_rfl
abbrev boolT : TypeId := 4
abbrev monName : String := ((Rows.reportChargesRow.laid.map fun x => x.1).drop 3).headD default
theorem gTab : Tryd.prog.globalNamed powName = some 1 := by kernel_rfl
theorem gTabType : (Tryd.prog.globals[1]?).map (·.type) = some 169 := by kernel_rfl
theorem un169 : Tryd.prog.underlying 169 = some (.array 20 126) := by kernel_rfl
theorem un126 : Tryd.prog.underlying 126 = some (.int .u64) := by kernel_rfl
theorem cells169 : Tryd.prog.cellsOf 169 = 20 := by kernel_rfl
theorem cells126 : Tryd.prog.cellsOf 126 = 1 := by kernel_rfl
theorem gMon : Tryd.prog.globalNamed monName = some 0 := by kernel_rfl
theorem gMonType : (Tryd.prog.globals[0]?).map (·.type) = some 161 := by kernel_rfl
theorem un161 : Tryd.prog.underlying 161 = some (.array 12 3) := by kernel_rfl
theorem un3 : Tryd.prog.underlying 3 = some (.int .i64) := by kernel_rfl
theorem cells161 : Tryd.prog.cellsOf 161 = 12 := by kernel_rfl
theorem cells3 : Tryd.prog.cellsOf 3 = 1 := by kernel_rfl
abbrev monTab : List Int := [31, 28, 31, 30, 31, 30, 31, 31, 30, 31, 30, 31]
theorem laidPow : ((Rows.reportChargesRow.laid).drop 2).head? = some (powName, Lib.tabData .u64 Lib.pow10Tab) := by kernel_rfl
theorem laidMon : ((Rows.reportChargesRow.laid).drop 3).head? = some (monName, Lib.tabData .i64 monTab) := by kernel_rfl
theorem laidPow2 : ((Rows.reportLinesRow.laid).drop 2).head? = some (powName, Lib.tabData .u64 Lib.pow10Tab) := by kernel_rfl
theorem laidMon2 : ((Rows.reportLinesRow.laid).drop 3).head? = some (monName, Lib.tabData .i64 monTab) := by kernel_rfl
theorem mem_of {α : Type} {l : List α} {k : Nat} {a : α} (h : (l.drop k).head? = some a) : a ∈ l := List.mem_of_mem_drop (List.mem_of_mem_head? (by rw [h]; rfl))

theorem table {W : World} {l : List (String × DataW Unit)} (hm : (powName, Lib.tabData .u64 Lib.pow10Tab) ∈ l) (h : laidMet Tryd.prog l W) : Lib.TabIs Tryd.prog W powName .u64 Lib.pow10Tab := by
  obtain ⟨g, t, cs, fuel, p, h1, h2, h3, h4⟩ := Lib.laidMet.reads h hm
  obtain rfl := Option.some.inj (gTab.symm.trans h1)
  obtain rfl := Option.some.inj (gTabType.symm.trans h2)
  unfold Lib.TabIs
  rw [h3, ← Lib.cells_of_tab un169 un126 cells126 cells169 h4]
theorem months {W : World} {l : List (String × DataW Unit)} (hm : (monName, Lib.tabData .i64 monTab) ∈ l) (h : laidMet Tryd.prog l W) : Lib.TabIs Tryd.prog W monName .i64 monTab := by
  obtain ⟨g, t, cs, fuel, p, h1, h2, h3, h4⟩ := Lib.laidMet.reads h hm
  obtain rfl := Option.some.inj (gMon.symm.trans h1)
  obtain rfl := Option.some.inj (gMonType.symm.trans h2)
  unfold Lib.TabIs
  rw [h3, ← Lib.cells_of_tab un161 un3 cells3 cells161 h4]

theorem gokL {W : World} {l : List (String × DataW Unit)} (hm1 : (powName, Lib.tabData .u64 Lib.pow10Tab) ∈ l) (hm2 : (monName, Lib.tabData .i64 monTab) ∈ l) (h : laidMet Tryd.prog l W) (hsh : W.ShapedOpen Tryd.prog) : GOk Gt W (fun b _ => b < W.heap.size) := by
  refine ⟨fun g xs hg => ?_, table hm1 h, Tryd.laysM146.s1_3 W hsh⟩
  match g, hg with
  | 0, hg =>
    cases hg
    refine ⟨0, 0, rfl, fun j x hj => ?_⟩
    have hjl : j < 12 := by have := (List.getElem?_eq_some_iff.1 hj).1; simpa using this
    have hc := (months hm2 h).cell gMon j hjl
    rw [Nat.zero_add]
    refine ⟨(cell_lt hc).1, _, hc, ?_⟩
    rw [List.getElem?_map, List.getElem?_eq_getElem hjl] at hj
    cases hj
    rw [List.getD_eq_getElem?_getD, List.getElem?_eq_getElem hjl]
    exact .int _ _
theorem gok {W : World} (h : laidMetH Tryd.prog Rows.reportChargesRow.laid W) (hsh : W.ShapedOpen Tryd.prog) : GOk Gt W (fun b _ => b < W.heap.size) := gokL (mem_of laidPow) (mem_of laidMon) h hsh
theorem gok2 {W : World} (h : laidMetH Tryd.prog Rows.reportLinesRow.laid W) (hsh : W.ShapedOpen Tryd.prog) : GOk Gt W (fun b _ => b < W.heap.size) := gokL (mem_of laidPow2) (mem_of laidMon2) h hsh

def flat : Nat → DataW Unit → List Value
  | 0, _ => []
  | n + 1, .agg l => l.flatMap (flat n)
  | _ + 1, .lit (.int k z) => [.int k z]
  | _, _ => []
def laidCells (n : String) : Array Value := (((Rows.reportLinesRow.laid.find? fun x => x.1 == n).map fun x => flat 4 x.2).getD []).toArray
def setCells (cs : Array Value) : Obj → Obj
  | .cells _ t frozen => .cells cs t frozen
  | o => o
noncomputable def laidWorld (os : Os) : World :=
  { World.holding Tryd.prog os ⟨#[], #[], []⟩ with heap := ((((((World.holding Tryd.prog os ⟨#[], #[], []⟩).heap.modify 0 (setCells (laidCells "tollway/clock.months"))).modify 1 (setCells (laidCells "internal/strconv.uint64pow10"))).modify 3 (setCells (laidCells "math/bits.deBruijn32tab"))).modify 4 (setCells (laidCells "math/bits.deBruijn64tab"))).modify 5 (setCells (laidCells "unicode/utf8.first"))).modify 6 (setCells (laidCells "unicode/utf8.acceptRanges")) }

/-! The shapes of this seat's parameters. -/
section
variable {n : Nat} {xs : List D}
theorem shInt (h : shp Tryd.prog n 3 xs = true) : ∃ a, xs = [.int .i64 a] ∧ inI a = true := by
  obtain ⟨a, h, k⟩ := shp_int Tryd.underlying3 h
  refine ⟨a, h, inI_iff.2 ?_⟩
  simpa [IntKind.has, IntKind.min, IntKind.max, IntKind.bits, IntKind.signed] using k
theorem shStr (h : shp Tryd.prog n 9 xs = true) : ∃ a, xs = [.str a] := let ⟨a, h, _⟩ := shp_str Tryd.underlying9 h; ⟨a, h⟩
theorem shBool (h : shp Tryd.prog n 4 xs = true) : ∃ a, xs = [.bool a] := shp_bool Tryd.underlying4 h
theorem rows_of {α : Type} {f : α → List D} {Q : α → Prop} : ∀ {es : List (List D)}, (∀ r ∈ es, ∃ c, r = f c ∧ Q c) → ∃ l : List α, es = l.map f ∧ ∀ c ∈ l, Q c
  | [], _ => ⟨[], rfl, fun c h => by cases h⟩
  | r :: es, h => by
    obtain ⟨c, rfl, hc⟩ := h r List.mem_cons_self
    obtain ⟨l, rfl, hl⟩ := rows_of (fun r hr => h r (List.mem_cons_of_mem _ hr))
    exact ⟨c :: l, rfl, fun x hx => by
      rcases List.mem_cons.1 hx with rfl | hx
      · exact hc
      · exact hl x hx⟩
theorem map_len {α : Type} {f : α → List D} {l : List α} (h : (l.map f).length ≤ maxLen) : l.length ≤ 9223372036854775807 := by rw [List.length_map] at h; exact h
theorem shL (h : shp Tryd.prog n 86 xs = true) : ∃ c : List UInt8 × Int, xs = rowL c ∧ inI c.2 = true := by
  obtain ⟨m, g0⟩ := shp_struct Tryd.underlying86 h
  obtain ⟨x1, y1, rfl, h1, g1⟩ := shpL_cons g0
  obtain ⟨x2, y2, rfl, h2, g2⟩ := shpL_cons g1
  obtain rfl := shpL_nil g2
  obtain ⟨a, rfl⟩ := shStr h1
  obtain ⟨b, rfl, i_b⟩ := shInt h2
  exact ⟨(a, b), rfl, i_b⟩
theorem shP (h : shp Tryd.prog n 100 xs = true) : ∃ c : List UInt8 × Int, xs = rowL c ∧ inI c.2 = true := by
  obtain ⟨m, g0⟩ := shp_struct Tryd.underlying100 h
  obtain ⟨x1, y1, rfl, h1, g1⟩ := shpL_cons g0
  obtain ⟨x2, y2, rfl, h2, g2⟩ := shpL_cons g1
  obtain rfl := shpL_nil g2
  obtain ⟨a, rfl⟩ := shStr h1
  obtain ⟨b, rfl, i_b⟩ := shInt h2
  exact ⟨(a, b), rfl, i_b⟩
theorem shN (h : shp Tryd.prog n 3 xs = true) : ∃ c : Int, xs = rowN c ∧ inI c = true := shInt h
theorem shC (h : shp Tryd.prog n 24 xs = true) : ∃ c : Chg, xs = c.row ∧ (c.rng = true ∧ c.lines.length ≤ 9223372036854775807) := by
  obtain ⟨m, g0⟩ := shp_struct Tryd.underlying24 h
  obtain ⟨x1, y1, rfl, h1, g1⟩ := shpL_cons g0
  obtain ⟨x2, y2, rfl, h2, g2⟩ := shpL_cons g1
  obtain ⟨x3, y3, rfl, h3, g3⟩ := shpL_cons g2
  obtain ⟨x4, y4, rfl, h4, g4⟩ := shpL_cons g3
  obtain ⟨x5, y5, rfl, h5, g5⟩ := shpL_cons g4
  obtain ⟨x6, y6, rfl, h6, g6⟩ := shpL_cons g5
  obtain ⟨x7, y7, rfl, h7, g7⟩ := shpL_cons g6
  obtain rfl := shpL_nil g7
  obtain ⟨a, rfl⟩ := shStr h1
  obtain ⟨b, rfl⟩ := shStr h2
  obtain ⟨c, rfl⟩ := shStr h3
  obtain ⟨d, rfl, i_d⟩ := shInt h4
  obtain ⟨e, rfl, i_e⟩ := shInt h5
  obtain ⟨ls, m6, e6, l_ls, r_ls⟩ := shp_slice Tryd.underlying22 h6
  subst e6
  obtain ⟨f, rfl, i_f⟩ := shInt h7
  obtain ⟨l, rfl, hl⟩ := rows_of (fun r hr => shL (r_ls r hr))
  exact ⟨⟨a, b, c, d, e, false, l, f⟩, rfl, Chg.rng_iff.2 ⟨i_d, i_e, i_f, hl⟩, map_len l_ls⟩
theorem shE (h : shp Tryd.prog n 98 xs = true) : ∃ c : Ent, xs = c.row ∧ (inI c.time = true ∧ c.posts.length ≤ 9223372036854775807 ∧ ∀ p ∈ c.posts, inI p.2 = true) := by
  obtain ⟨m, g0⟩ := shp_struct Tryd.underlying98 h
  obtain ⟨x1, y1, rfl, h1, g1⟩ := shpL_cons g0
  obtain ⟨x2, y2, rfl, h2, g2⟩ := shpL_cons g1
  obtain ⟨x3, y3, rfl, h3, g3⟩ := shpL_cons g2
  obtain rfl := shpL_nil g3
  obtain ⟨a, rfl⟩ := shStr h1
  obtain ⟨b, rfl, i_b⟩ := shInt h2
  obtain ⟨ls, m3, e3, l_ls, r_ls⟩ := shp_slice Tryd.underlying96 h3
  subst e3
  obtain ⟨l, rfl, hl⟩ := rows_of (fun r hr => shP (r_ls r hr))
  exact ⟨⟨a, b, false, l⟩, rfl, i_b, map_len l_ls, hl⟩
theorem shAp (h : shp Tryd.prog n 93 xs = true) : ∃ a b c, xs = [.int .i64 a, .int .i64 b, .int .i64 c] ∧ inI a = true ∧ inI c = true := by
  obtain ⟨m, g0⟩ := shp_struct Tryd.underlying93 h
  obtain ⟨x1, y1, rfl, h1, g1⟩ := shpL_cons g0
  obtain ⟨x2, y2, rfl, h2, g2⟩ := shpL_cons g1
  obtain ⟨x3, y3, rfl, h3, g3⟩ := shpL_cons g2
  obtain rfl := shpL_nil g3
  obtain ⟨a, rfl, i_a⟩ := shInt h1
  obtain ⟨b, rfl, i_b⟩ := shInt h2
  obtain ⟨c, rfl, i_c⟩ := shInt h3
  exact ⟨a, b, c, rfl, i_a, i_c⟩
theorem shK (h : shp Tryd.prog n 95 xs = true) : ∃ c : Cas, xs = c.row ∧ (inI c.begun = true ∧ inI c.since = true ∧ inI c.stage = true ∧ inI c.owed = true ∧ inI c.paid = true ∧ inI c.ast = true ∧ inI c.aday = true) := by
  obtain ⟨m, g0⟩ := shp_struct Tryd.underlying95 h
  obtain ⟨x1, y1, rfl, h1, g1⟩ := shpL_cons g0
  obtain ⟨x2, y2, rfl, h2, g2⟩ := shpL_cons g1
  obtain ⟨x3, y3, rfl, h3, g3⟩ := shpL_cons g2
  obtain ⟨x4, y4, rfl, h4, g4⟩ := shpL_cons g3
  obtain ⟨x5, y5, rfl, h5, g5⟩ := shpL_cons g4
  obtain ⟨x6, y6, rfl, h6, g6⟩ := shpL_cons g5
  obtain ⟨x7, y7, rfl, h7, g7⟩ := shpL_cons g6
  obtain ⟨x8, y8, rfl, h8, g8⟩ := shpL_cons g7
  obtain ⟨x9, y9, rfl, h9, g9⟩ := shpL_cons g8
  obtain ⟨x10, y10, rfl, h10, g10⟩ := shpL_cons g9
  obtain rfl := shpL_nil g10
  obtain ⟨a, rfl⟩ := shStr h1
  obtain ⟨b, rfl⟩ := shStr h2
  obtain ⟨c, rfl⟩ := shStr h3
  obtain ⟨d, rfl, i_d⟩ := shInt h4
  obtain ⟨e, rfl, i_e⟩ := shInt h5
  obtain ⟨f, rfl, i_f⟩ := shInt h6
  obtain ⟨g, rfl, i_g⟩ := shInt h7
  obtain ⟨u, rfl, i_u⟩ := shInt h8
  obtain ⟨v, rfl, i_v⟩ := shInt h9
  obtain ⟨p, q, w, rfl, i_p, i_w⟩ := shAp h10
  exact ⟨⟨a, b, c, d, e, f, g, u, v, p, q, w⟩, rfl, i_d, i_e, i_f, i_g, i_u, i_p, i_w⟩
theorem shIv (h : shp Tryd.prog n 215 xs = true) : ∃ a b, xs = [.int .i64 a, .int .i64 b] := by
  obtain ⟨m, g0⟩ := shp_struct Tryd.underlying215 h
  obtain ⟨x1, y1, rfl, h1, g1⟩ := shpL_cons g0
  obtain ⟨x2, y2, rfl, h2, g2⟩ := shpL_cons g1
  obtain rfl := shpL_nil g2
  obtain ⟨a, rfl, i_a⟩ := shInt h1
  obtain ⟨b, rfl, i_b⟩ := shInt h2
  exact ⟨a, b, rfl⟩
theorem shO (h : shp Tryd.prog n 255 xs = true) : ∃ c : Own, xs = c.row ∧ True := by
  obtain ⟨m, g0⟩ := shp_struct Tryd.underlying255 h
  obtain ⟨x1, y1, rfl, h1, g1⟩ := shpL_cons g0
  obtain ⟨x2, y2, rfl, h2, g2⟩ := shpL_cons g1
  obtain ⟨x3, y3, rfl, h3, g3⟩ := shpL_cons g2
  obtain rfl := shpL_nil g3
  obtain ⟨a, rfl⟩ := shStr h1
  obtain ⟨b, rfl⟩ := shStr h2
  obtain ⟨p, q, rfl⟩ := shIv h3
  exact ⟨⟨a, b, p, q⟩, rfl, trivial⟩
theorem shRf (h : shp Tryd.prog n 105 xs = true) : ∃ a b c d, xs = [.int .i64 a, .int .i64 b, .int .i64 c, .int .i64 d] := by
  obtain ⟨m, g0⟩ := shp_struct Tryd.underlying105 h
  obtain ⟨x1, y1, rfl, h1, g1⟩ := shpL_cons g0
  obtain ⟨x2, y2, rfl, h2, g2⟩ := shpL_cons g1
  obtain ⟨x3, y3, rfl, h3, g3⟩ := shpL_cons g2
  obtain ⟨x4, y4, rfl, h4, g4⟩ := shpL_cons g3
  obtain rfl := shpL_nil g4
  obtain ⟨a, rfl, i_a⟩ := shInt h1
  obtain ⟨b, rfl, i_b⟩ := shInt h2
  obtain ⟨c, rfl, i_c⟩ := shInt h3
  obtain ⟨d, rfl, i_d⟩ := shInt h4
  exact ⟨a, b, c, d, rfl⟩
theorem by103 : Tryd.prog.bytesOf 255 = 48 := by kernel_rfl
theorem shA (h : shp Tryd.prog n 107 xs = true) : ∃ c : Acc, xs = c.row ∧ c.owned.length ≤ 2932031007317 := by
  obtain ⟨m, g0⟩ := shp_struct Tryd.underlying107 h
  obtain ⟨x1, y1, rfl, h1, g1⟩ := shpL_cons g0
  obtain ⟨x2, y2, rfl, h2, g2⟩ := shpL_cons g1
  obtain ⟨x3, y3, rfl, h3, g3⟩ := shpL_cons g2
  obtain ⟨x4, y4, rfl, h4, g4⟩ := shpL_cons g3
  obtain ⟨x5, y5, rfl, h5, g5⟩ := shpL_cons g4
  obtain ⟨x6, y6, rfl, h6, g6⟩ := shpL_cons g5
  obtain rfl := shpL_nil g6
  obtain ⟨a, rfl⟩ := shStr h1
  obtain ⟨b, rfl⟩ := shStr h2
  obtain ⟨c, rfl⟩ := shBool h3
  obtain ⟨ls, m4, e4, l_ls, z_ls, r_ls⟩ := shp_sliceZ Tryd.underlying103 h4
  rw [by103] at z_ls
  subst e4
  obtain ⟨p, q, u, v, rfl⟩ := shRf h5
  obtain ⟨d, rfl⟩ := shBool h6
  obtain ⟨l, rfl, hl⟩ := rows_of (fun r hr => shO (r_ls r hr))
  exact ⟨⟨a, b, c, false, l, p, q, u, v, d⟩, rfl, by
    have e : reachBytes = 140737488351232 := rfl
    rw [e, List.length_map] at z_ls
    show l.length ≤ _
    omega⟩
theorem shNet (h : shp Tryd.prog n 31 xs = true) : ∃ a b, xs = [.sl false a, .sl false b] := by
  obtain ⟨m, g0⟩ := shp_struct Tryd.underlying31 h
  obtain ⟨x1, y1, rfl, h1, g1⟩ := shpL_cons g0
  obtain ⟨x2, y2, rfl, h2, g2⟩ := shpL_cons g1
  obtain rfl := shpL_nil g2
  obtain ⟨a, m1, e1, l_a, r_a⟩ := shp_slice Tryd.underlying28 h1
  subst e1
  obtain ⟨b, m2, e2, l_b, r_b⟩ := shp_slice Tryd.underlying29 h2
  subst e2
  exact ⟨a, b, rfl⟩
theorem shTop (h : shp Tryd.prog n 34 xs = true) : ∃ a b c, xs = [.sl false a, .sl false b, .sl false c] := by
  obtain ⟨m, g0⟩ := shp_struct Tryd.underlying34 h
  obtain ⟨x1, y1, rfl, h1, g1⟩ := shpL_cons g0
  obtain ⟨x2, y2, rfl, h2, g2⟩ := shpL_cons g1
  obtain rfl := shpL_nil g2
  obtain ⟨a, b, rfl⟩ := shNet h1
  obtain ⟨c, m2, e2, l_c, r_c⟩ := shp_slice Tryd.underlying32 h2
  subst e2
  exact ⟨a, b, c, rfl⟩
theorem shSc (h : shp Tryd.prog n 41 xs = true) : ∃ a b c d, xs = [.int .i64 a, .sl false b, .sl false c, .sl false d] := by
  obtain ⟨m, g0⟩ := shp_struct Tryd.underlying41 h
  obtain ⟨x1, y1, rfl, h1, g1⟩ := shpL_cons g0
  obtain ⟨x2, y2, rfl, h2, g2⟩ := shpL_cons g1
  obtain ⟨x3, y3, rfl, h3, g3⟩ := shpL_cons g2
  obtain ⟨x4, y4, rfl, h4, g4⟩ := shpL_cons g3
  obtain rfl := shpL_nil g4
  obtain ⟨a, rfl, i_a⟩ := shInt h1
  obtain ⟨b, m2, e2, l_b, r_b⟩ := shp_slice Tryd.underlying39 h2
  subst e2
  obtain ⟨c, m3, e3, l_c, r_c⟩ := shp_slice Tryd.underlying39 h3
  subst e3
  obtain ⟨d, m4, e4, l_d, r_d⟩ := shp_slice Tryd.underlying39 h4
  subst e4
  exact ⟨a, b, c, d, rfl⟩
theorem shLw (h : shp Tryd.prog n 49 xs = true) : ∃ c : Lw, xs = c.row ∧ c.df = false ∧ c.ff = false ∧ c.days.length ≤ 9223372036854775807 ∧ c.fees.length ≤ 9223372036854775807 := by
  obtain ⟨m, g0⟩ := shp_struct Tryd.underlying49 h
  obtain ⟨x1, y1, rfl, h1, g1⟩ := shpL_cons g0
  obtain ⟨x2, y2, rfl, h2, g2⟩ := shpL_cons g1
  obtain ⟨x3, y3, rfl, h3, g3⟩ := shpL_cons g2
  obtain rfl := shpL_nil g3
  obtain ⟨a, m1, e1, l_a, r_a⟩ := shp_slice Tryd.underlying39 h1
  subst e1
  obtain ⟨b, m2, e2, l_b, r_b⟩ := shp_slice Tryd.underlying39 h2
  subst e2
  obtain ⟨c, rfl, i_c⟩ := shInt h3
  obtain ⟨da, rfl, _⟩ := rows_of (fun r hr => shN (r_a r hr))
  obtain ⟨fe, rfl, _⟩ := rows_of (fun r hr => shN (r_b r hr))
  exact ⟨⟨false, da, false, fe, c⟩, rfl, rfl, rfl, map_len l_a, map_len l_b⟩
/-- What is asked of a configuration. -/
theorem shCf (h : shp Tryd.prog n 52 xs = true) : ∃ (a1 a2 a3 a4 a5 a6 : List (List D)) (b1 b2 : Int) (a7 : List (List D)) (b3 : Int) (a8 a9 a10 a11 a12 a13 a14 : List (List D)) (acc : List Acc) (a15 : List (List D)) (hol : List Int) (w : Lw) (a16 : List (List D)) (ag : List UInt8),
    xs = [.sl false a1, .sl false a2, .sl false a3, .sl false a4, .sl false a5, .sl false a6, .int .i64 b1, .int .i64 b2, .sl false a7, .int .i64 b3, .sl false a8, .sl false a9, .sl false a10, .sl false a11, .sl false a12, .sl false a13, .sl false a14, .sl false (acc.map Acc.row), .sl false a15, .sl false (hol.map rowN), .sl false (w.days.map rowN), .sl false (w.fees.map rowN), .int .i64 w.limit, .sl false a16, .str ag] ∧
    w.df = false ∧ w.ff = false ∧ w.days.length ≤ 9223372036854775807 ∧ w.fees.length ≤ 9223372036854775807 ∧ acc.length ≤ 9223372036854775807 ∧ hol.length ≤ 9223372036854775807 ∧ ∀ a ∈ acc, a.owned.length ≤ 2932031007317 := by
  obtain ⟨m, g0⟩ := shp_struct Tryd.underlying52 h
  obtain ⟨x1, y1, rfl, h1, g1⟩ := shpL_cons g0
  obtain ⟨x2, y2, rfl, h2, g2⟩ := shpL_cons g1
  obtain ⟨x3, y3, rfl, h3, g3⟩ := shpL_cons g2
  obtain ⟨x4, y4, rfl, h4, g4⟩ := shpL_cons g3
  obtain ⟨x5, y5, rfl, h5, g5⟩ := shpL_cons g4
  obtain ⟨x6, y6, rfl, h6, g6⟩ := shpL_cons g5
  obtain ⟨x7, y7, rfl, h7, g7⟩ := shpL_cons g6
  obtain ⟨x8, y8, rfl, h8, g8⟩ := shpL_cons g7
  obtain ⟨x9, y9, rfl, h9, g9⟩ := shpL_cons g8
  obtain ⟨x10, y10, rfl, h10, g10⟩ := shpL_cons g9
  obtain ⟨x11, y11, rfl, h11, g11⟩ := shpL_cons g10
  obtain ⟨x12, y12, rfl, h12, g12⟩ := shpL_cons g11
  obtain ⟨x13, y13, rfl, h13, g13⟩ := shpL_cons g12
  obtain ⟨x14, y14, rfl, h14, g14⟩ := shpL_cons g13
  obtain ⟨x15, y15, rfl, h15, g15⟩ := shpL_cons g14
  obtain ⟨x16, y16, rfl, h16, g16⟩ := shpL_cons g15
  obtain ⟨x17, y17, rfl, h17, g17⟩ := shpL_cons g16
  obtain ⟨x18, y18, rfl, h18, g18⟩ := shpL_cons g17
  obtain rfl := shpL_nil g18
  obtain ⟨a1, a2, a3, rfl⟩ := shTop h1
  obtain ⟨a4, m2, e2, l_a4, r_a4⟩ := shp_slice Tryd.underlying35 h2
  subst e2
  obtain ⟨a5, m3, e3, l_a5, r_a5⟩ := shp_slice Tryd.underlying36 h3
  subst e3
  obtain ⟨a6, m4, e4, l_a6, r_a6⟩ := shp_slice Tryd.underlying37 h4
  subst e4
  obtain ⟨b1, rfl, i_b1⟩ := shInt h5
  obtain ⟨b2, rfl, i_b2⟩ := shInt h6
  obtain ⟨a7, m7, e7, l_a7, r_a7⟩ := shp_slice Tryd.underlying38 h7
  subst e7
  obtain ⟨b3, a8, a9, a10, rfl⟩ := shSc h8
  obtain ⟨a11, m9, e9, l_a11, r_a11⟩ := shp_slice Tryd.underlying42 h9
  subst e9
  obtain ⟨a12, m10, e10, l_a12, r_a12⟩ := shp_slice Tryd.underlying43 h10
  subst e10
  obtain ⟨a13, m11, e11, l_a13, r_a13⟩ := shp_slice Tryd.underlying44 h11
  subst e11
  obtain ⟨a14, m12, e12, l_a14, r_a14⟩ := shp_slice Tryd.underlying45 h12
  subst e12
  obtain ⟨ac, m13, e13, l_ac, r_ac⟩ := shp_slice Tryd.underlying46 h13
  subst e13
  obtain ⟨a15, m14, e14, l_a15, r_a15⟩ := shp_slice Tryd.underlying47 h14
  subst e14
  obtain ⟨ho, m15, e15, l_ho, r_ho⟩ := shp_slice Tryd.underlying39 h15
  subst e15
  obtain ⟨⟨df, da, ff, fe, li⟩, e16, rfl, rfl, w1, w2⟩ := shLw h16
  obtain ⟨a16, m17, e17, l_a16, r_a16⟩ := shp_slice Tryd.underlying50 h17
  subst e17
  obtain ⟨ag, rfl⟩ := shStr h18
  subst e16
  obtain ⟨acc, rfl, hacc⟩ := rows_of (fun r hr => shA (r_ac r hr))
  obtain ⟨hol, rfl, _⟩ := rows_of (fun r hr => shN (r_ho r hr))
  exact ⟨a1, a2, a3, a4, a5, a6, b1, b2, a7, b3, a8, a9, a10, a11, a12, a13, a14, acc, a15, hol, ⟨false, da, false, fe, li⟩, a16, ag, rfl, rfl, rfl, w1, w2, map_len l_ac, map_len l_ho, hacc⟩
theorem shRs (h : shp Tryd.prog n 62 xs = true) : ∃ (a b c d : List (List D)) (chs : List Chg) (e : List (List D)), xs = [.sl false a, .sl false b, .sl false c, .sl false d, .sl false (chs.map Chg.row), .sl false e] ∧ a.length ≤ 9223372036854775807 ∧ b.length ≤ 9223372036854775807 ∧ c.length ≤ 9223372036854775807 ∧ d.length ≤ 9223372036854775807 ∧ e.length ≤ 9223372036854775807 ∧ chs.length ≤ 9223372036854775807 ∧ ∀ x ∈ chs, x.rng = true ∧ x.lines.length ≤ 9223372036854775807 := by
  obtain ⟨m, g0⟩ := shp_struct Tryd.underlying62 h
  obtain ⟨x1, y1, rfl, h1, g1⟩ := shpL_cons g0
  obtain ⟨x2, y2, rfl, h2, g2⟩ := shpL_cons g1
  obtain ⟨x3, y3, rfl, h3, g3⟩ := shpL_cons g2
  obtain ⟨x4, y4, rfl, h4, g4⟩ := shpL_cons g3
  obtain ⟨x5, y5, rfl, h5, g5⟩ := shpL_cons g4
  obtain ⟨x6, y6, rfl, h6, g6⟩ := shpL_cons g5
  obtain rfl := shpL_nil g6
  obtain ⟨a, m1, e1, l_a, r_a⟩ := shp_slice Tryd.underlying56 h1
  subst e1
  obtain ⟨b, m2, e2, l_b, r_b⟩ := shp_slice Tryd.underlying54 h2
  subst e2
  obtain ⟨c, m3, e3, l_c, r_c⟩ := shp_slice Tryd.underlying57 h3
  subst e3
  obtain ⟨d, m4, e4, l_d, r_d⟩ := shp_slice Tryd.underlying58 h4
  subst e4
  obtain ⟨ch, m5, e5, l_ch, r_ch⟩ := shp_slice Tryd.underlying59 h5
  subst e5
  obtain ⟨e, m6, e6, l_e, r_e⟩ := shp_slice Tryd.underlying60 h6
  subst e6
  obtain ⟨chs, rfl, hc⟩ := rows_of (fun r hr => shC (r_ch r hr))
  exact ⟨a, b, c, d, chs, e, rfl, l_a, l_b, l_c, l_d, l_e, map_len l_ch, hc⟩
theorem shLg (h : shp Tryd.prog n 65 xs = true) : ∃ (es : List Ent), xs = [.sl false (es.map Ent.row)] ∧ es.length ≤ 9223372036854775807 ∧ ∀ e ∈ es, inI e.time = true ∧ e.posts.length ≤ 9223372036854775807 ∧ ∀ p ∈ e.posts, inI p.2 = true := by
  obtain ⟨m, g0⟩ := shp_struct Tryd.underlying65 h
  obtain ⟨x1, y1, rfl, h1, g1⟩ := shpL_cons g0
  obtain rfl := shpL_nil g1
  obtain ⟨a, m1, e1, l_a, r_a⟩ := shp_slice Tryd.underlying63 h1
  subst e1
  obtain ⟨es, rfl, hc⟩ := rows_of (fun r hr => shE (r_a r hr))
  exact ⟨es, rfl, map_len l_a, hc⟩
theorem shBk (h : shp Tryd.prog n 67 xs = true) : ∃ (es : List Ent) (d : List (List D)), xs = [.sl false (es.map Ent.row), .sl false d] ∧ d.length ≤ 9223372036854775807 ∧ es.length ≤ 9223372036854775807 ∧ ∀ e ∈ es, inI e.time = true ∧ e.posts.length ≤ 9223372036854775807 ∧ ∀ p ∈ e.posts, inI p.2 = true := by
  obtain ⟨m, g0⟩ := shp_struct Tryd.underlying67 h
  obtain ⟨x1, y1, rfl, h1, g1⟩ := shpL_cons g0
  obtain ⟨x2, y2, rfl, h2, g2⟩ := shpL_cons g1
  obtain rfl := shpL_nil g2
  obtain ⟨es, rfl, q1, q2⟩ := shLg h1
  obtain ⟨d, m2, e2, l_d, r_d⟩ := shp_slice Tryd.underlying59 h2
  subst e2
  exact ⟨es, d, rfl, l_d, q1, q2⟩
/-- A state of its type is a state. -/
theorem shSt (h : shp Tryd.prog n 70 xs = true) : ∃ s : St, xs = s.cells ∧ s.is ∧ s.Wf ∧ s.OwnOk := by
  obtain ⟨m, g0⟩ := shp_struct Tryd.underlying70 h
  obtain ⟨x1, y1, rfl, h1, g1⟩ := shpL_cons g0
  obtain ⟨x2, y2, rfl, h2, g2⟩ := shpL_cons g1
  obtain ⟨x3, y3, rfl, h3, g3⟩ := shpL_cons g2
  obtain ⟨x4, y4, rfl, h4, g4⟩ := shpL_cons g3
  obtain ⟨x5, y5, rfl, h5, g5⟩ := shpL_cons g4
  obtain ⟨x6, y6, rfl, h6, g6⟩ := shpL_cons g5
  obtain ⟨x7, y7, rfl, h7, g7⟩ := shpL_cons g6
  obtain ⟨x8, y8, rfl, h8, g8⟩ := shpL_cons g7
  obtain ⟨x9, y9, rfl, h9, g9⟩ := shpL_cons g8
  obtain rfl := shpL_nil g9
  obtain ⟨a1, a2, a3, a4, a5, a6, b1, b2, a7, b3, a8, a9, a10, a11, a12, a13, a14, acc, a15, hol, ⟨df, da, ff, fe, li⟩, a16, ag, e1, w1, w2, w3, w4, w5, w6, w7⟩ := shCf h1
  obtain ⟨s1, m2, e2, l_s1, r_s1⟩ := shp_slice Tryd.underlying53 h2
  subst e2
  obtain ⟨s2, m3, e3, l_s2, r_s2⟩ := shp_slice Tryd.underlying54 h3
  subst e3
  obtain ⟨s3, m4, e4, l_s3, r_s3⟩ := shp_slice Tryd.underlying55 h4
  subst e4
  obtain ⟨cl, rfl, i_cl⟩ := shInt h5
  obtain ⟨ra, rb, rc, rd, chs, re, e6, q1, q2, q3, q4, q5, q6, q7⟩ := shRs h6
  obtain ⟨es, dn, e7, p1, p2, p3⟩ := shBk h7
  obtain ⟨ks, m8, e8, l_ks, r_ks⟩ := shp_slice Tryd.underlying68 h8
  subst e8
  obtain ⟨co, rfl, i_co⟩ := shInt h9
  obtain ⟨cas, rfl, hk⟩ := rows_of (fun r hr => shK (r_ks r hr))
  subst e1
  subst e6
  subst e7
  cases w1
  cases w2
  refine ⟨⟨_, false, acc, false, hol, ⟨false, da, false, fe, li⟩, cl, false, ra, false, rb, false, rc, false, rd, false, chs, false, re, false, es, false, dn, false, cas, co⟩, rfl, ⟨rfl, rfl, rfl, rfl, rfl, rfl, rfl, rfl, rfl, rfl, rfl, rfl, rfl, rfl, rfl, rfl, rfl⟩, ?_⟩
  exact ⟨⟨q6, w5, p2, map_len l_ks, w6, w3, w4, q1, q2, q3, q4, q5, p1, q7, p3, hk, i_cl, i_co⟩, w7⟩
end

theorem aStO {p : PA} (h : ∃ n, shpA Tryd.prog n 70 p) : ∃ s : St, p = .agg s.cells ∧ s.is ∧ s.Wf ∧ s.OwnOk := by
  obtain ⟨n, h⟩ := h
  obtain ⟨x, rfl, hx⟩ := shpA_agg (by kernel_rfl) h
  obtain ⟨s, rfl, h1, h2⟩ := shSt hx
  exact ⟨s, rfl, h1, h2⟩
theorem aSt {p : PA} (h : ∃ n, shpA Tryd.prog n 70 p) : ∃ s : St, p = .agg s.cells ∧ s.is ∧ s.Wf := let ⟨s, h1, h2, h3, _⟩ := aStO h; ⟨s, h1, h2, h3⟩
theorem aCh {p : PA} (h : ∃ n, shpA Tryd.prog n 24 p) : ∃ s : Chg, p = .agg s.row ∧ s.rng = true ∧ s.lines.length ≤ 9223372036854775807 := by
  obtain ⟨n, h⟩ := h
  obtain ⟨x, rfl, hx⟩ := shpA_agg (by kernel_rfl) h
  obtain ⟨s, rfl, h1, h2⟩ := shC hx
  exact ⟨s, rfl, h1, h2⟩
theorem aStr {p : PA} (h : ∃ n, shpA Tryd.prog n 9 p) : ∃ a, p = .c (.str a) := let ⟨a, h, _⟩ := arg_str Tryd.underlying9 h; ⟨a, h⟩
theorem aInt {p : PA} (h : ∃ n, shpA Tryd.prog n 3 p) : ∃ a, p = .c (.int .i64 a) ∧ inI a = true := by
  obtain ⟨a, h, k⟩ := arg_int Tryd.underlying3 h
  refine ⟨a, h, inI_iff.2 ?_⟩
  simpa [IntKind.has, IntKind.min, IntKind.max, IntKind.bits, IntKind.signed] using k

theorem ok_lCharges : ∀ args : List PA, shpArgs Tryd.prog Tryd.f3.params.toList args → lCharges_m args = some [.c (.bool true)] := fun args h => by
  rw [Tryd.params3] at h
  obtain ⟨p1, r1, rfl, h1, g1⟩ := shpArgs_cons h
  obtain ⟨x, rfl, hx⟩ := aCh h1
  obtain rfl := shpArgs_nil g1
  rw [lCharges_m, show ([.agg x.row] : List PA) = encC x from rfl, mE_eq encC_inj, if_pos hx]
theorem ok_lDays : ∀ args : List PA, shpArgs Tryd.prog Tryd.f4.params.toList args → lDays_m args = some [.c (.bool true)] := fun args h => by
  rw [Tryd.params4] at h
  obtain ⟨p1, r1, rfl, h1, g1⟩ := shpArgs_cons h
  obtain ⟨s, rfl, hs, hw⟩ := aSt h1
  obtain ⟨p2, r2, rfl, h2, g2⟩ := shpArgs_cons g1
  obtain ⟨d, rfl, hd⟩ := aInt h2
  obtain rfl := shpArgs_nil g2
  rw [lDays_m, stI_eq hs, if_pos hw]
theorem ok_lCases : ∀ args : List PA, shpArgs Tryd.prog Tryd.f6.params.toList args → lCases_m args = some [.c (.bool true)] := fun args h => by
  rw [Tryd.params6] at h
  obtain ⟨p1, r1, rfl, h1, g1⟩ := shpArgs_cons h
  obtain ⟨s, rfl, hs, hw⟩ := aSt h1
  obtain ⟨p2, r2, rfl, h2, g2⟩ := shpArgs_cons g1
  obtain ⟨d, rfl⟩ := aStr h2
  obtain rfl := shpArgs_nil g2
  rw [lCases_m, stS_eq hs, if_pos hw]
theorem ok_lTotals : ∀ args : List PA, shpArgs Tryd.prog Tryd.f7.params.toList args → lTotals_m args = some [.c (.bool true)] := fun args h => by
  rw [Tryd.params7] at h
  obtain ⟨p1, r1, rfl, h1, g1⟩ := shpArgs_cons h
  obtain ⟨s, rfl, hs, hw⟩ := aSt h1
  obtain rfl := shpArgs_nil g1
  rw [lTotals_m, stA_eq hs, if_pos hw]

theorem ok_lAccounts : ∀ args : List PA, shpArgs Tryd.prog Tryd.f5.params.toList args → lAccounts_m args = some [.c (.bool true)] := fun args h => by
  rw [Tryd.params5] at h
  obtain ⟨p1, r1, rfl, h1, g1⟩ := shpArgs_cons h
  obtain ⟨s, rfl, hs, hw, ho⟩ := aStO h1
  obtain ⟨p2, r2, rfl, h2, g2⟩ := shpArgs_cons g1
  obtain ⟨d, rfl⟩ := aStr h2
  obtain rfl := shpArgs_nil g2
  rw [lAccounts_m, stS_eq hs, if_pos ⟨hw, ho⟩]

/-- No cycle among the state's types; it takes the kernel a while. -/
theorem loops70 : Tryd.prog.loopsFrom 70 = false := by kernel_rfl
theorem loops3 : Tryd.prog.loopsFrom 3 = false := by kernel_rfl
theorem loops9 : Tryd.prog.loopsFrom 9 = false := by kernel_rfl

end Go.Proofs.YtfokeholingnjaaDoor

/-
  The arguments of the laws of lines and of a day's parts.
-/
namespace Go.Proofs.YtfokeholingnjaaDoor
open Go.ChangeShapes Go.WideShapes Go.ChangeAt Go.RowKit Go.Ab

theorem ok_lLines : ∀ args : List PA, shpArgs Tryd.prog Tryd.f9.params.toList args → lLines_m args = some [.c (.bool true)] := fun args h => by
  rw [Tryd.params9] at h
  obtain ⟨p1, r1, rfl, h1, g1⟩ := shpArgs_cons h
  obtain ⟨s, rfl, hs, hw, ho⟩ := aStO h1
  obtain ⟨p2, r2, rfl, h2, g2⟩ := shpArgs_cons g1
  obtain ⟨a, rfl⟩ := aStr h2
  obtain ⟨p3, r3, rfl, h3, g3⟩ := shpArgs_cons g2
  obtain ⟨b, rfl⟩ := aStr h3
  obtain ⟨p4, r4, rfl, h4, g4⟩ := shpArgs_cons g3
  obtain ⟨d, rfl, hd⟩ := aInt h4
  obtain rfl := shpArgs_nil g4
  rw [lLines_m, stL_eq hs, if_pos ⟨hw, ho⟩]
theorem ok_lParts : ∀ args : List PA, shpArgs Tryd.prog Tryd.f8.params.toList args → lParts_m args = some [.c (.bool true)] := fun args h => by
  rw [Tryd.params8] at h
  obtain ⟨p1, r1, rfl, h1, g1⟩ := shpArgs_cons h
  obtain ⟨s, rfl, hs, hw⟩ := aSt h1
  obtain ⟨p2, r2, rfl, h2, g2⟩ := shpArgs_cons g1
  obtain ⟨d, rfl, hd⟩ := aInt h2
  obtain rfl := shpArgs_nil g2
  rw [lParts_m, stI_eq hs, if_pos hw]

end Go.Proofs.YtfokeholingnjaaDoor
