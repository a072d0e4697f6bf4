/-
  Texts of the layer and of the laws, put together: AbK0, AbK1.
-/
import Derived.Test.YtdoofgbeajkpaaaGreatDoorCards
import Derived.Test.YtdoofgbeajkpaaaGreatDoorTie
import Derived.Test.YtdoofgbeajkpaaaGreatDoorAbWP12
import Derived.Test.YtdoofgbeajkpaaaGreatDoorAbWP14
import Derived.Test.YtdoofgbeajkpaaaGreatDoorAbWP50
import Derived.Test.YtdoofgbeajkpaaaGreatDoorAbWP46
import Derived.Test.YtdoofgbeajkpaaaGreatDoorAbWP28
import Derived.Test.YtdoofgbeajkpaaaGreatDoorAbWP47
import Derived.WalkKit
import Derived.ProofKit
import Derived.OpenShut
import Derived.Deep.DeepHandedRow
import Derived.Lib.LaidTab
import Derived.Lib.LaidU8
import Derived.Test.YtdoofgbeajkpaaaGreatDoorAbWP49
set_option linter.unusedSimpArgs false
set_option linter.unusedVariables false
set_option maxRecDepth 100000
namespace Go.Proofs.YtdoofgbeajkpaaaGreatDoor
open Go.ChangeShapes Go.WideShapes Go.ChangeAt Go.RowKit Go.Ab
theorem own : ownKnob Tryz.prog.godebug = none := by kernel_rfl
theorem laidOut : laidOutB Tryz.prog = true := by kernel_rfl
theorem posOk : posB Tryz.prog = true := by kernel_rfl
abbrev boolT : TypeId := 4
theorem gTab : Tryz.prog.globalNamed powName = some 1 := by kernel_rfl
theorem gTabType : (Tryz.prog.globals[1]?).map (·.type) = some 211 := by kernel_rfl
theorem un211 : Tryz.prog.underlying 211 = some (.array 20 183) := by kernel_rfl
theorem un183 : Tryz.prog.underlying 183 = some (.int .u64) := by kernel_rfl
theorem cells211 : Tryz.prog.cellsOf 211 = 20 := by kernel_rfl
theorem cells183 : Tryz.prog.cellsOf 183 = 1 := by kernel_rfl
theorem laidPow : ((Rows.stayPairsRow.laid).drop 2).head? = some (powName, Lib.tabData .u64 Lib.pow10Tab) := by kernel_rfl
theorem table {W : World} (h : laidMetH Tryz.prog Rows.stayPairsRow.laid W) : Lib.TabIs Tryz.prog W powName .u64 Lib.pow10Tab := by
  have hm : (powName, Lib.tabData .u64 Lib.pow10Tab) ∈ Rows.stayPairsRow.laid :=
    List.mem_of_mem_drop (List.mem_of_mem_head? (by rw [laidPow]; rfl))
  obtain ⟨g, t, cs, fuel, p, h1, h2, h3, h4⟩ := Lib.laidMet.reads h hm
  obtain rfl := Option.some.inj (gTab.symm.trans h1)
  obtain rfl := Option.some.inj (gTabType.symm.trans h2)
  unfold Lib.TabIs
  rw [h3, ← Lib.cells_of_tab un211 un183 cells183 cells211 h4]
theorem maxLen {W : World} (h : W.ShapedOpen Tryz.prog) : ∃ m : Int, W.cell? ⟨0, 0, none⟩ = some (.int .i64 m) :=
  Go.Proofs.cell_of_shapedOpen_int (zero := #[.int .i64 0]) (t := 3) h (of_decide_eq_true (by kernel_rfl)) (by kernel_rfl) rfl (by kernel_rfl) (by kernel_rfl) Tryz.underlying3
theorem gok {W : World} (h : laidMetH Tryz.prog Rows.stayPairsRow.laid W) (hsh : W.ShapedOpen Tryz.prog) : GOk Gt W (fun b _ => b < W.heap.size) :=
  ⟨fun g xs hg => (by cases hg), table h, maxLen hsh⟩
def flat : Nat → DataW Unit → List Value
  | 0, _ => []
  | n + 1, .agg l => l.flatMap (flat n)
  | _ + 1, .lit (.int k z) => [.int k z]
  | _, _ => []
def laidCells (n : String) : Array Value := (((Rows.stayPairsRow.laid.find? fun x => x.1 == n).map fun x => flat 4 x.2).getD []).toArray
def setCells (cs : Array Value) : Obj → Obj
  | .cells _ t frozen => .cells cs t frozen
  | o => o
noncomputable def laidWorld (os : Os) : World :=
  { World.holding Tryz.prog os ⟨#[], #[], []⟩ with heap := ((((World.holding Tryz.prog os ⟨#[], #[], []⟩).heap.modify 1 (setCells (laidCells "internal/strconv.uint64pow10"))).modify 2 (setCells (laidCells "math/bits.deBruijn32tab"))).modify 3 (setCells (laidCells "math/bits.deBruijn64tab"))) }
section
variable {n : Nat} {xs : List D}
theorem shInt (h : shp Tryz.prog n 3 xs = true) : ∃ a, xs = [.int .i64 a] ∧ inI a = true := by
  obtain ⟨a, h, k⟩ := shp_int Tryz.underlying3 h
  refine ⟨a, h, inI_iff.2 ?_⟩
  simpa [IntKind.has, IntKind.min, IntKind.max, IntKind.bits, IntKind.signed] using k
theorem shStr (h : shp Tryz.prog n 9 xs = true) : ∃ a, xs = [.str a] := let ⟨a, h, _⟩ := shp_str Tryz.underlying9 h; ⟨a, h⟩
theorem rows_of {α : Type} {f : α → List D} {Q : α → Prop} : ∀ {es : List (List D)}, (∀ r ∈ es, ∃ c, r = f c ∧ Q c) → ∃ l : List α, es = l.map f ∧ ∀ c ∈ l, Q c
  | [], _ => ⟨[], rfl, fun c h => by cases h⟩
  | r :: es, h => by
    obtain ⟨c, rfl, hc⟩ := h r List.mem_cons_self
    obtain ⟨l, rfl, hl⟩ := rows_of (fun r hr => h r (List.mem_cons_of_mem _ hr))
    exact ⟨c :: l, rfl, fun x hx => by
      rcases List.mem_cons.1 hx with rfl | hx
      · exact hc
      · exact hl x hx⟩
theorem shWin (h : shp Tryz.prog n 108 xs = true) : ∃ c : Win, xs = c.row ∧ True := by
  obtain ⟨m, g0⟩ := shp_struct Tryz.underlying108 h
  obtain ⟨x1, y1, rfl, h1, g1⟩ := shpL_cons g0
  obtain ⟨x2, y2, rfl, h2, g2⟩ := shpL_cons g1
  obtain ⟨x3, y3, rfl, h3, g3⟩ := shpL_cons g2
  obtain rfl := shpL_nil g3
  obtain ⟨a, rfl, _⟩ := shInt h1
  obtain ⟨b, rfl, _⟩ := shInt h2
  obtain ⟨c, rfl, _⟩ := shInt h3
  exact ⟨⟨a, b, c⟩, rfl, trivial⟩
theorem shStf (h : shp Tryz.prog n 87 xs = true) : ∃ c : Stf, xs = c.row ∧ True := by
  obtain ⟨m, g0⟩ := shp_struct Tryz.underlying87 h
  obtain ⟨x1, y1, rfl, h1, g1⟩ := shpL_cons g0
  obtain ⟨x2, y2, rfl, h2, g2⟩ := shpL_cons g1
  obtain ⟨x3, y3, rfl, h3, g3⟩ := shpL_cons g2
  obtain rfl := shpL_nil g3
  obtain ⟨a, rfl, _⟩ := shInt h1
  obtain ⟨b, rfl, _⟩ := shInt h2
  obtain ⟨c, rfl, _⟩ := shInt h3
  exact ⟨⟨a, b, c⟩, rfl, trivial⟩
theorem shIv (h : shp Tryz.prog n 35 xs = true) : ∃ c : Iv, xs = rwI c ∧ (inI c.1 = true ∧ inI c.2 = true) := by
  obtain ⟨m, g0⟩ := shp_struct Tryz.underlying35 h
  obtain ⟨x1, y1, rfl, h1, g1⟩ := shpL_cons g0
  obtain ⟨x2, y2, rfl, h2, g2⟩ := shpL_cons g1
  obtain rfl := shpL_nil g2
  obtain ⟨a, rfl, ha⟩ := shInt h1
  obtain ⟨b, rfl, hb⟩ := shInt h2
  exact ⟨(a, b), rfl, ha, hb⟩
end
theorem aInt {p : PA} (h : ∃ n, shpA Tryz.prog n 3 p) : ∃ a, p = .c (.int .i64 a) := by
  obtain ⟨a, h, _⟩ := arg_int Tryz.underlying3 h
  exact ⟨a, h⟩
noncomputable section
open Classical
end
end Go.Proofs.YtdoofgbeajkpaaaGreatDoor
namespace Go.Proofs.YtdoofgbeajkpaaaGreatDoor
open Go.ChangeShapes Go.WideShapes Go.ChangeAt Go.RowKit Go.Ab
section
variable {n : Nat} {xs : List D}
theorem shStrZ (h : shp Tryz.prog n 9 xs = true) : ∃ a, xs = [.str a] ∧ a.length ≤ 140737488351232 := shp_strZ Tryz.underlying9 h
theorem shTxZ (h : shp Tryz.prog n 9 xs = true) : ∃ c : List UInt8, xs = rowS c ∧ c.length ≤ 140737488351232 := by
  obtain ⟨a, rfl, ha⟩ := shStrZ h
  exact ⟨a, rfl, ha⟩
theorem shParW (h : shp Tryz.prog n 79 xs = true) : ∃ c : Par, xs = c.row ∧ c.OkW := by
  obtain ⟨m, g0⟩ := shp_struct Tryz.underlying79 h
  obtain ⟨x1, y1, rfl, h1, g1⟩ := shpL_cons g0
  obtain ⟨x2, y2, rfl, h2, g2⟩ := shpL_cons g1
  obtain ⟨x3, y3, rfl, h3, g3⟩ := shpL_cons g2
  obtain ⟨x4, y4, rfl, h4, g4⟩ := shpL_cons g3
  obtain ⟨x5, y5, rfl, h5, g5⟩ := shpL_cons g4
  obtain rfl := shpL_nil g5
  obtain ⟨a, rfl, ha⟩ := shInt h1
  obtain ⟨b, rfl, hb⟩ := shStrZ h2
  obtain ⟨c, rfl, hc⟩ := shStrZ h3
  obtain ⟨d, rfl, hd⟩ := shInt h4
  obtain ⟨e, rfl, he⟩ := shInt h5
  exact ⟨⟨a, b, c, d, e⟩, rfl, ha, hd, he, hb, hc⟩
theorem shZonW (h : shp Tryz.prog n 41 xs = true) : ∃ c : Zon, xs = c.row ∧ c.OkW := by
  obtain ⟨m, g0⟩ := shp_struct Tryz.underlying41 h
  obtain ⟨x1, y1, rfl, h1, g1⟩ := shpL_cons g0
  obtain ⟨x2, y2, rfl, h2, g2⟩ := shpL_cons g1
  obtain ⟨x3, y3, rfl, h3, g3⟩ := shpL_cons g2
  obtain ⟨x4, y4, rfl, h4, g4⟩ := shpL_cons g3
  obtain ⟨x5, y5, rfl, h5, g5⟩ := shpL_cons g4
  obtain ⟨x6, y6, rfl, h6, g6⟩ := shpL_cons g5
  obtain ⟨x7, y7, rfl, h7, g7⟩ := shpL_cons g6
  obtain rfl := shpL_nil g7
  obtain ⟨a, rfl⟩ := shStr h1
  obtain ⟨es2, m2, e2, l2, r2⟩ := shp_slice Tryz.underlying38 h2
  subst e2
  obtain ⟨hs, rfl, _⟩ := rows_of (fun r hr => shWin (r2 r hr))
  obtain ⟨es3, m3, e3, l3, r3⟩ := shp_slice Tryz.underlying39 h3
  subst e3
  obtain ⟨ss, rfl, _⟩ := rows_of (fun r hr => shStf (r3 r hr))
  obtain ⟨d, rfl, _⟩ := shInt h4
  obtain ⟨e, rfl, _⟩ := shInt h5
  obtain ⟨f, rfl, _⟩ := shInt h6
  obtain ⟨g, rfl, _⟩ := shInt h7
  exact ⟨⟨a, false, hs, false, ss, d, e, f, g⟩, rfl, by rw [List.length_map] at l2; exact l2, by rw [List.length_map] at l3; exact l3⟩
theorem shPmtW (h : shp Tryz.prog n 51 xs = true) : ∃ c : Pmt, xs = c.row ∧ ∀ y ∈ c.plates, y.length ≤ 140737488351232 := by
  obtain ⟨m, g0⟩ := shp_struct Tryz.underlying51 h
  obtain ⟨x1, y1, rfl, h1, g1⟩ := shpL_cons g0
  obtain ⟨x2, y2, rfl, h2, g2⟩ := shpL_cons g1
  obtain ⟨x3, y3, rfl, h3, g3⟩ := shpL_cons g2
  obtain ⟨x4, y4, rfl, h4, g4⟩ := shpL_cons g3
  obtain ⟨x5, y5, rfl, h5, g5⟩ := shpL_cons g4
  obtain ⟨x6, y6, rfl, h6, g6⟩ := shpL_cons g5
  obtain rfl := shpL_nil g6
  obtain ⟨a, rfl⟩ := shStr h1
  obtain ⟨b, rfl⟩ := shStr h2
  obtain ⟨es3, m3, e3, _, r3⟩ := shp_slice Tryz.underlying49 h3
  subst e3
  obtain ⟨pl, rfl, hpl⟩ := rows_of (fun r hr => shTxZ (r3 r hr))
  obtain ⟨v, rfl, _⟩ := shIv h4
  obtain ⟨es5, m5, e5, _, r5⟩ := shp_slice Tryz.underlying38 h5
  subst e5
  obtain ⟨hs, rfl, _⟩ := rows_of (fun r hr => shWin (r5 r hr))
  obtain ⟨f, rfl, _⟩ := shInt h6
  exact ⟨⟨a, b, false, pl, v, false, hs, f⟩, rfl, hpl⟩
end
theorem aZonsW {p : PA} (h : ∃ n, shpA Tryz.prog n 22 p) : ∃ l : List Zon, p = .c (.sl false (l.map Zon.row)) ∧ zonesOkW l := by
  obtain ⟨es, m, rfl, l_es, hs⟩ := arg_slice Tryz.underlying22 h
  obtain ⟨l, rfl, h2⟩ := rows_of (fun r hr => shZonW (hs r hr))
  exact ⟨l, rfl, by rw [List.length_map] at l_es; exact l_es, h2⟩
theorem aPmtsW {p : PA} (h : ∃ n, shpA Tryz.prog n 23 p) : ∃ l : List Pmt, p = .c (.sl false (l.map Pmt.row)) ∧ ∀ x ∈ l, ∀ y ∈ x.plates, y.length ≤ 140737488351232 := by
  obtain ⟨es, m, rfl, _, hs⟩ := arg_slice Tryz.underlying23 h
  obtain ⟨l, rfl, h2⟩ := rows_of (fun r hr => shPmtW (hs r hr))
  exact ⟨l, rfl, h2⟩
theorem aParsW {p : PA} (h : ∃ n, shpA Tryz.prog n 24 p) : ∃ l : List Par, p = .c (.sl false (l.map Par.row)) ∧ ∀ x ∈ l, x.OkW := by
  obtain ⟨es, m, rfl, _, hs⟩ := arg_slice Tryz.underlying24 h
  obtain ⟨l, rfl, h2⟩ := rows_of (fun r hr => shParW (hs r hr))
  exact ⟨l, rfl, h2⟩
noncomputable section
open Classical
theorem ok_tpark : ∀ args : List PA, shpArgs Tryz.prog Tryz.f3.params.toList args → tpark_m args = some [.c (.bool true)] := fun args h => by
  rw [Tryz.params3] at h
  obtain ⟨p1, r1, rfl, h1, g1⟩ := shpArgs_cons h
  obtain ⟨zs, rfl, hz⟩ := aZonsW h1
  obtain ⟨p2, r2, rfl, h2, g2⟩ := shpArgs_cons g1
  obtain ⟨ps, rfl, hp⟩ := aPmtsW h2
  obtain ⟨p3, r3, rfl, h3, g3⟩ := shpArgs_cons g2
  obtain ⟨es, rfl, he⟩ := aParsW h3
  obtain ⟨p4, r4, rfl, h4, g4⟩ := shpArgs_cons g3
  obtain ⟨t, rfl⟩ := aInt h4
  obtain rfl := shpArgs_nil g4
  have := mE_eq encTp_inj (g := fun p => if parkOk p.1 then some [DV.b true] else none) (a := (((false, zs), (false, ps), false, es), t))
  exact this.trans (if_pos ⟨hz, hp, he⟩)
end
end Go.Proofs.YtdoofgbeajkpaaaGreatDoor
