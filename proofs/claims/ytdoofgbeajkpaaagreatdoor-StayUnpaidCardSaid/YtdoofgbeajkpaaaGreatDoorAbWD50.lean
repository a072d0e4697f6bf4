/-
  Texts of the layer and of the laws, put together: AbK0.
-/
import Derived.Test.YtdoofgbeajkpaaaGreatDoorCards
import Derived.Test.YtdoofgbeajkpaaaGreatDoorTie
import Derived.Test.YtdoofgbeajkpaaaGreatDoorAbWD12
import Derived.Test.YtdoofgbeajkpaaaGreatDoorAbWD14
import Derived.Test.YtdoofgbeajkpaaaGreatDoorAbWD49
import Derived.Test.YtdoofgbeajkpaaaGreatDoorAbWD48
import Derived.Test.YtdoofgbeajkpaaaGreatDoorAbWD28
import Derived.Test.YtdoofgbeajkpaaaGreatDoorAbWD47
import Derived.Test.YtdoofgbeajkpaaaGreatDoorAbWD38
import Derived.WalkKit
import Derived.ProofKit
import Derived.OpenShut
import Derived.Deep.DeepHandedRow
import Derived.Lib.LaidTab
import Derived.Lib.LaidU8
set_option linter.unusedSimpArgs false
set_option linter.unusedVariables false
set_option maxRecDepth 100000
namespace Go.Proofs.YtdoofgbeajkpaaaGreatDoor
open Go.ChangeShapes Go.WideShapes Go.ChangeAt Go.RowKit Go.Ab
theorem own : ownKnob Tryz.prog.godebug = none := by kernel_rfl
theorem laidOut : laidOutB Tryz.prog = true := by kernel_rfl
theorem posOk : posB Tryz.prog = true := by kernel_rfl
abbrev boolT : TypeId := 4
theorem gTab : Tryz.prog.globalNamed powName = some 1 := by kernel_rfl
theorem gTabType : (Tryz.prog.globals[1]?).map (·.type) = some 211 := by kernel_rfl
theorem un211 : Tryz.prog.underlying 211 = some (.array 20 183) := by kernel_rfl
theorem un183 : Tryz.prog.underlying 183 = some (.int .u64) := by kernel_rfl
theorem cells211 : Tryz.prog.cellsOf 211 = 20 := by kernel_rfl
theorem cells183 : Tryz.prog.cellsOf 183 = 1 := by kernel_rfl
theorem laidPow : ((Rows.stayPairsRow.laid).drop 2).head? = some (powName, Lib.tabData .u64 Lib.pow10Tab) := by kernel_rfl
theorem table {W : World} (h : laidMetH Tryz.prog Rows.stayPairsRow.laid W) : Lib.TabIs Tryz.prog W powName .u64 Lib.pow10Tab := by
  have hm : (powName, Lib.tabData .u64 Lib.pow10Tab) ∈ Rows.stayPairsRow.laid :=
    List.mem_of_mem_drop (List.mem_of_mem_head? (by rw [laidPow]; rfl))
  obtain ⟨g, t, cs, fuel, p, h1, h2, h3, h4⟩ := Lib.laidMet.reads h hm
  obtain rfl := Option.some.inj (gTab.symm.trans h1)
  obtain rfl := Option.some.inj (gTabType.symm.trans h2)
  unfold Lib.TabIs
  rw [h3, ← Lib.cells_of_tab un211 un183 cells183 cells211 h4]
theorem maxLen {W : World} (h : W.ShapedOpen Tryz.prog) : ∃ m : Int, W.cell? ⟨0, 0, none⟩ = some (.int .i64 m) :=
  Go.Proofs.cell_of_shapedOpen_int (zero := #[.int .i64 0]) (t := 3) h (of_decide_eq_true (by kernel_rfl)) (by kernel_rfl) rfl (by kernel_rfl) (by kernel_rfl) Tryz.underlying3
theorem gok {W : World} (h : laidMetH Tryz.prog Rows.stayPairsRow.laid W) (hsh : W.ShapedOpen Tryz.prog) : GOk Gt W (fun b _ => b < W.heap.size) :=
  ⟨fun g xs hg => (by cases hg), table h, maxLen hsh⟩
def flat : Nat → DataW Unit → List Value
  | 0, _ => []
  | n + 1, .agg l => l.flatMap (flat n)
  | _ + 1, .lit (.int k z) => [.int k z]
  | _, _ => []
def laidCells (n : String) : Array Value := (((Rows.stayPairsRow.laid.find? fun x => x.1 == n).map fun x => flat 4 x.2).getD []).toArray
def setCells (cs : Array Value) : Obj → Obj
  | .cells _ t frozen => .cells cs t frozen
  | o => o
noncomputable def laidWorld (os : Os) : World :=
  { World.holding Tryz.prog os ⟨#[], #[], []⟩ with heap := ((((World.holding Tryz.prog os ⟨#[], #[], []⟩).heap.modify 1 (setCells (laidCells "internal/strconv.uint64pow10"))).modify 2 (setCells (laidCells "math/bits.deBruijn32tab"))).modify 3 (setCells (laidCells "math/bits.deBruijn64tab"))) }
section
variable {n : Nat} {xs : List D}
theorem shInt (h : shp Tryz.prog n 3 xs = true) : ∃ a, xs = [.int .i64 a] ∧ inI a = true := by
  obtain ⟨a, h, k⟩ := shp_int Tryz.underlying3 h
  refine ⟨a, h, inI_iff.2 ?_⟩
  simpa [IntKind.has, IntKind.min, IntKind.max, IntKind.bits, IntKind.signed] using k
theorem shStr (h : shp Tryz.prog n 9 xs = true) : ∃ a, xs = [.str a] := let ⟨a, h, _⟩ := shp_str Tryz.underlying9 h; ⟨a, h⟩
theorem rows_of {α : Type} {f : α → List D} {Q : α → Prop} : ∀ {es : List (List D)}, (∀ r ∈ es, ∃ c, r = f c ∧ Q c) → ∃ l : List α, es = l.map f ∧ ∀ c ∈ l, Q c
  | [], _ => ⟨[], rfl, fun c h => by cases h⟩
  | r :: es, h => by
    obtain ⟨c, rfl, hc⟩ := h r List.mem_cons_self
    obtain ⟨l, rfl, hl⟩ := rows_of (fun r hr => h r (List.mem_cons_of_mem _ hr))
    exact ⟨c :: l, rfl, fun x hx => by
      rcases List.mem_cons.1 hx with rfl | hx
      · exact hc
      · exact hl x hx⟩
theorem shWin (h : shp Tryz.prog n 108 xs = true) : ∃ c : Win, xs = c.row ∧ True := by
  obtain ⟨m, g0⟩ := shp_struct Tryz.underlying108 h
  obtain ⟨x1, y1, rfl, h1, g1⟩ := shpL_cons g0
  obtain ⟨x2, y2, rfl, h2, g2⟩ := shpL_cons g1
  obtain ⟨x3, y3, rfl, h3, g3⟩ := shpL_cons g2
  obtain rfl := shpL_nil g3
  obtain ⟨a, rfl, _⟩ := shInt h1
  obtain ⟨b, rfl, _⟩ := shInt h2
  obtain ⟨c, rfl, _⟩ := shInt h3
  exact ⟨⟨a, b, c⟩, rfl, trivial⟩
theorem shStf (h : shp Tryz.prog n 87 xs = true) : ∃ c : Stf, xs = c.row ∧ True := by
  obtain ⟨m, g0⟩ := shp_struct Tryz.underlying87 h
  obtain ⟨x1, y1, rfl, h1, g1⟩ := shpL_cons g0
  obtain ⟨x2, y2, rfl, h2, g2⟩ := shpL_cons g1
  obtain ⟨x3, y3, rfl, h3, g3⟩ := shpL_cons g2
  obtain rfl := shpL_nil g3
  obtain ⟨a, rfl, _⟩ := shInt h1
  obtain ⟨b, rfl, _⟩ := shInt h2
  obtain ⟨c, rfl, _⟩ := shInt h3
  exact ⟨⟨a, b, c⟩, rfl, trivial⟩
theorem shIv (h : shp Tryz.prog n 35 xs = true) : ∃ c : Iv, xs = rwI c ∧ (inI c.1 = true ∧ inI c.2 = true) := by
  obtain ⟨m, g0⟩ := shp_struct Tryz.underlying35 h
  obtain ⟨x1, y1, rfl, h1, g1⟩ := shpL_cons g0
  obtain ⟨x2, y2, rfl, h2, g2⟩ := shpL_cons g1
  obtain rfl := shpL_nil g2
  obtain ⟨a, rfl, ha⟩ := shInt h1
  obtain ⟨b, rfl, hb⟩ := shInt h2
  exact ⟨(a, b), rfl, ha, hb⟩
theorem shSty (h : shp Tryz.prog n 37 xs = true) : ∃ c : Sty, xs = c.row ∧ c.In := by
  obtain ⟨m, g0⟩ := shp_struct Tryz.underlying37 h
  obtain ⟨x1, y1, rfl, h1, g1⟩ := shpL_cons g0
  obtain ⟨x2, y2, rfl, h2, g2⟩ := shpL_cons g1
  obtain ⟨x3, y3, rfl, h3, g3⟩ := shpL_cons g2
  obtain ⟨x4, y4, rfl, h4, g4⟩ := shpL_cons g3
  obtain rfl := shpL_nil g4
  obtain ⟨a, rfl⟩ := shStr h1
  obtain ⟨b, rfl⟩ := shStr h2
  obtain ⟨c, rfl⟩ := shStr h3
  obtain ⟨v, rfl, hv⟩ := shIv h4
  exact ⟨⟨a, b, c, v⟩, rfl, hv⟩
theorem shTx (h : shp Tryz.prog n 9 xs = true) : ∃ c : List UInt8, xs = rowS c ∧ True := by
  obtain ⟨a, rfl⟩ := shStr h
  exact ⟨a, rfl, trivial⟩
theorem shZon (h : shp Tryz.prog n 41 xs = true) : ∃ c : Zon, xs = c.row ∧ True := by
  obtain ⟨m, g0⟩ := shp_struct Tryz.underlying41 h
  obtain ⟨x1, y1, rfl, h1, g1⟩ := shpL_cons g0
  obtain ⟨x2, y2, rfl, h2, g2⟩ := shpL_cons g1
  obtain ⟨x3, y3, rfl, h3, g3⟩ := shpL_cons g2
  obtain ⟨x4, y4, rfl, h4, g4⟩ := shpL_cons g3
  obtain ⟨x5, y5, rfl, h5, g5⟩ := shpL_cons g4
  obtain ⟨x6, y6, rfl, h6, g6⟩ := shpL_cons g5
  obtain ⟨x7, y7, rfl, h7, g7⟩ := shpL_cons g6
  obtain rfl := shpL_nil g7
  obtain ⟨a, rfl⟩ := shStr h1
  obtain ⟨es2, m2, e2, _, r2⟩ := shp_slice Tryz.underlying38 h2
  subst e2
  obtain ⟨hs, rfl, _⟩ := rows_of (fun r hr => shWin (r2 r hr))
  obtain ⟨es3, m3, e3, _, r3⟩ := shp_slice Tryz.underlying39 h3
  subst e3
  obtain ⟨ss, rfl, _⟩ := rows_of (fun r hr => shStf (r3 r hr))
  obtain ⟨d, rfl, _⟩ := shInt h4
  obtain ⟨e, rfl, _⟩ := shInt h5
  obtain ⟨f, rfl, _⟩ := shInt h6
  obtain ⟨g, rfl, _⟩ := shInt h7
  exact ⟨⟨a, false, hs, false, ss, d, e, f, g⟩, rfl, trivial⟩
theorem shNum (h : shp Tryz.prog n 3 xs = true) : ∃ c : Int, xs = rowI c ∧ True := by
  obtain ⟨a, rfl, _⟩ := shInt h
  exact ⟨a, rfl, trivial⟩
theorem shSes (h : shp Tryz.prog n 48 xs = true) : ∃ c : Ses, xs = c.row ∧ True := by
  obtain ⟨m, g0⟩ := shp_struct Tryz.underlying48 h
  obtain ⟨x1, y1, rfl, h1, g1⟩ := shpL_cons g0
  obtain ⟨x2, y2, rfl, h2, g2⟩ := shpL_cons g1
  obtain ⟨x3, y3, rfl, h3, g3⟩ := shpL_cons g2
  obtain ⟨x4, y4, rfl, h4, g4⟩ := shpL_cons g3
  obtain ⟨x5, y5, rfl, h5, g5⟩ := shpL_cons g4
  obtain ⟨x6, y6, rfl, h6, g6⟩ := shpL_cons g5
  obtain ⟨x7, y7, rfl, h7, g7⟩ := shpL_cons g6
  obtain rfl := shpL_nil g7
  obtain ⟨a, rfl⟩ := shStr h1
  obtain ⟨b, rfl⟩ := shStr h2
  obtain ⟨c, rfl⟩ := shStr h3
  obtain ⟨d, rfl, _⟩ := shInt h4
  obtain ⟨e, rfl, _⟩ := shInt h5
  obtain ⟨f, rfl, _⟩ := shInt h6
  obtain ⟨es7, m7, e7, _, r7⟩ := shp_slice Tryz.underlying46 h7
  subst e7
  obtain ⟨ss, rfl, _⟩ := rows_of (fun r hr => shNum (r7 r hr))
  exact ⟨⟨a, b, c, d, e, f, false, ss⟩, rfl, trivial⟩
theorem shPmt (h : shp Tryz.prog n 51 xs = true) : ∃ c : Pmt, xs = c.row ∧ True := by
  obtain ⟨m, g0⟩ := shp_struct Tryz.underlying51 h
  obtain ⟨x1, y1, rfl, h1, g1⟩ := shpL_cons g0
  obtain ⟨x2, y2, rfl, h2, g2⟩ := shpL_cons g1
  obtain ⟨x3, y3, rfl, h3, g3⟩ := shpL_cons g2
  obtain ⟨x4, y4, rfl, h4, g4⟩ := shpL_cons g3
  obtain ⟨x5, y5, rfl, h5, g5⟩ := shpL_cons g4
  obtain ⟨x6, y6, rfl, h6, g6⟩ := shpL_cons g5
  obtain rfl := shpL_nil g6
  obtain ⟨a, rfl⟩ := shStr h1
  obtain ⟨b, rfl⟩ := shStr h2
  obtain ⟨es3, m3, e3, _, r3⟩ := shp_slice Tryz.underlying49 h3
  subst e3
  obtain ⟨pl, rfl, _⟩ := rows_of (fun r hr => shTx (r3 r hr))
  obtain ⟨v, rfl, _⟩ := shIv h4
  obtain ⟨es5, m5, e5, _, r5⟩ := shp_slice Tryz.underlying38 h5
  subst e5
  obtain ⟨hs, rfl, _⟩ := rows_of (fun r hr => shWin (r5 r hr))
  obtain ⟨f, rfl, _⟩ := shInt h6
  exact ⟨⟨a, b, false, pl, v, false, hs, f⟩, rfl, trivial⟩
theorem shClm (h : shp Tryz.prog n 65 xs = true) : ∃ c : Clm, xs = c.row ∧ c.Fit := by
  obtain ⟨m, g0⟩ := shp_struct Tryz.underlying65 h
  obtain ⟨x1, y1, rfl, h1, g1⟩ := shpL_cons g0
  obtain ⟨x2, y2, rfl, h2, g2⟩ := shpL_cons g1
  obtain ⟨x3, y3, rfl, h3, g3⟩ := shpL_cons g2
  obtain rfl := shpL_nil g3
  obtain ⟨es1, m1, e1, l1, r1⟩ := shp_slice Tryz.underlying22 h1
  subst e1
  obtain ⟨zs, rfl, _⟩ := rows_of (fun r hr => shZon (r1 r hr))
  obtain ⟨es2, m2, e2, l2, r2⟩ := shp_slice Tryz.underlying27 h2
  subst e2
  obtain ⟨ss, rfl, _⟩ := rows_of (fun r hr => shSes (r2 r hr))
  obtain ⟨es3, m3, e3, l3, r3⟩ := shp_slice Tryz.underlying23 h3
  subst e3
  obtain ⟨ps, rfl, _⟩ := rows_of (fun r hr => shPmt (r3 r hr))
  rw [List.length_map] at l1 l2 l3
  exact ⟨⟨false, zs, false, ss, false, ps⟩, rfl, l1, l2, l3⟩
end
theorem aSty {p : PA} (h : ∃ n, shpA Tryz.prog n 37 p) : ∃ c : Sty, p = .agg c.row ∧ c.In := by
  obtain ⟨n, h⟩ := h
  obtain ⟨x, rfl, hx⟩ := shpA_agg (by kernel_rfl) h
  obtain ⟨f, rfl, h1⟩ := shSty hx
  exact ⟨f, rfl, h1⟩
theorem aClm {p : PA} (h : ∃ n, shpA Tryz.prog n 65 p) : ∃ c : Clm, p = .agg c.row ∧ c.Fit := by
  obtain ⟨n, h⟩ := h
  obtain ⟨x, rfl, hx⟩ := shpA_agg (by kernel_rfl) h
  obtain ⟨f, rfl, h1⟩ := shClm hx
  exact ⟨f, rfl, h1⟩
noncomputable section
open Classical
theorem ok_yUnpaid : ∀ args : List PA, shpArgs Tryz.prog Tryz.f6.params.toList args → yUnpaid_m args = some [.c (.bool true)] := fun args h => by
  rw [Tryz.params6] at h
  obtain ⟨p1, r1, rfl, h1, g1⟩ := shpArgs_cons h
  obtain ⟨s, rfl, hs⟩ := aSty h1
  obtain ⟨p2, r2, rfl, h2, g2⟩ := shpArgs_cons g1
  obtain ⟨c, rfl, hc⟩ := aClm h2
  obtain rfl := shpArgs_nil g2
  have := mE_eq encSC_inj (g := fun p => if p.1.In ∧ p.2.Fit then some [DV.b true] else none) (a := (s, c))
  exact this.trans (if_pos ⟨hs, hc⟩)
end
end Go.Proofs.YtdoofgbeajkpaaaGreatDoor
