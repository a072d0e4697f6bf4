/-
  Texts of the layer and of the laws, put together: AbK0.
-/
import Derived.Test.YtdoofgbeajkpaaaGreatDoorCards
import Derived.Test.YtdoofgbeajkpaaaGreatDoorTie
import Derived.Test.YtdoofgbeajkpaaaGreatDoorAbWA12
import Derived.Test.YtdoofgbeajkpaaaGreatDoorAbWA14
import Derived.Test.YtdoofgbeajkpaaaGreatDoorAbWA49
import Derived.Test.YtdoofgbeajkpaaaGreatDoorAbWA47
import Derived.Test.YtdoofgbeajkpaaaGreatDoorAbWA48
import Derived.Test.YtdoofgbeajkpaaaGreatDoorAbWA46
import Derived.Test.YtdoofgbeajkpaaaGreatDoorAbWA38
import Derived.WalkKit
import Derived.ProofKit
import Derived.OpenShut
import Derived.Deep.DeepHandedRow
import Derived.Lib.LaidTab
import Derived.Lib.LaidU8
set_option linter.unusedSimpArgs false
set_option linter.unusedVariables false
set_option maxRecDepth 100000
namespace Go.Proofs.YtdoofgbeajkpaaaGreatDoor
open Go.ChangeShapes Go.WideShapes Go.ChangeAt Go.RowKit Go.Ab
theorem own : ownKnob Tryz.prog.godebug = none := by kernel_rfl
theorem laidOut : laidOutB Tryz.prog = true := by kernel_rfl
theorem posOk : posB Tryz.prog = true := by kernel_rfl
abbrev boolT : TypeId := 4
theorem gTab : Tryz.prog.globalNamed powName = some 1 := by kernel_rfl
theorem gTabType : (Tryz.prog.globals[1]?).map (·.type) = some 211 := by kernel_rfl
theorem un211 : Tryz.prog.underlying 211 = some (.array 20 183) := by kernel_rfl
theorem un183 : Tryz.prog.underlying 183 = some (.int .u64) := by kernel_rfl
theorem cells211 : Tryz.prog.cellsOf 211 = 20 := by kernel_rfl
theorem cells183 : Tryz.prog.cellsOf 183 = 1 := by kernel_rfl
theorem laidPow : ((Rows.stayPairsRow.laid).drop 2).head? = some (powName, Lib.tabData .u64 Lib.pow10Tab) := by kernel_rfl
theorem table {W : World} (h : laidMetH Tryz.prog Rows.stayPairsRow.laid W) : Lib.TabIs Tryz.prog W powName .u64 Lib.pow10Tab := by
  have hm : (powName, Lib.tabData .u64 Lib.pow10Tab) ∈ Rows.stayPairsRow.laid :=
    List.mem_of_mem_drop (List.mem_of_mem_head? (by rw [laidPow]; rfl))
  obtain ⟨g, t, cs, fuel, p, h1, h2, h3, h4⟩ := Lib.laidMet.reads h hm
  obtain rfl := Option.some.inj (gTab.symm.trans h1)
  obtain rfl := Option.some.inj (gTabType.symm.trans h2)
  unfold Lib.TabIs
  rw [h3, ← Lib.cells_of_tab un211 un183 cells183 cells211 h4]
theorem maxLen {W : World} (h : W.ShapedOpen Tryz.prog) : ∃ m : Int, W.cell? ⟨0, 0, none⟩ = some (.int .i64 m) :=
  Go.Proofs.cell_of_shapedOpen_int (zero := #[.int .i64 0]) (t := 3) h (of_decide_eq_true (by kernel_rfl)) (by kernel_rfl) rfl (by kernel_rfl) (by kernel_rfl) Tryz.underlying3
theorem gok {W : World} (h : laidMetH Tryz.prog Rows.stayPairsRow.laid W) (hsh : W.ShapedOpen Tryz.prog) : GOk Gt W (fun b _ => b < W.heap.size) :=
  ⟨fun g xs hg => (by cases hg), table h, maxLen hsh⟩
def flat : Nat → DataW Unit → List Value
  | 0, _ => []
  | n + 1, .agg l => l.flatMap (flat n)
  | _ + 1, .lit (.int k z) => [.int k z]
  | _, _ => []
def laidCells (n : String) : Array Value := (((Rows.stayPairsRow.laid.find? fun x => x.1 == n).map fun x => flat 4 x.2).getD []).toArray
def setCells (cs : Array Value) : Obj → Obj
  | .cells _ t frozen => .cells cs t frozen
  | o => o
noncomputable def laidWorld (os : Os) : World :=
  { World.holding Tryz.prog os ⟨#[], #[], []⟩ with heap := ((((World.holding Tryz.prog os ⟨#[], #[], []⟩).heap.modify 1 (setCells (laidCells "internal/strconv.uint64pow10"))).modify 2 (setCells (laidCells "math/bits.deBruijn32tab"))).modify 3 (setCells (laidCells "math/bits.deBruijn64tab"))) }
section
variable {n : Nat} {xs : List D}
theorem shInt (h : shp Tryz.prog n 3 xs = true) : ∃ a, xs = [.int .i64 a] ∧ inI a = true := by
  obtain ⟨a, h, k⟩ := shp_int Tryz.underlying3 h
  refine ⟨a, h, inI_iff.2 ?_⟩
  simpa [IntKind.has, IntKind.min, IntKind.max, IntKind.bits, IntKind.signed] using k
theorem shStr (h : shp Tryz.prog n 9 xs = true) : ∃ a, xs = [.str a] := let ⟨a, h, _⟩ := shp_str Tryz.underlying9 h; ⟨a, h⟩
theorem rows_of {α : Type} {f : α → List D} {Q : α → Prop} : ∀ {es : List (List D)}, (∀ r ∈ es, ∃ c, r = f c ∧ Q c) → ∃ l : List α, es = l.map f ∧ ∀ c ∈ l, Q c
  | [], _ => ⟨[], rfl, fun c h => by cases h⟩
  | r :: es, h => by
    obtain ⟨c, rfl, hc⟩ := h r List.mem_cons_self
    obtain ⟨l, rfl, hl⟩ := rows_of (fun r hr => h r (List.mem_cons_of_mem _ hr))
    exact ⟨c :: l, rfl, fun x hx => by
      rcases List.mem_cons.1 hx with rfl | hx
      · exact hc
      · exact hl x hx⟩
theorem shPar (h : shp Tryz.prog n 79 xs = true) : ∃ c : Par, xs = c.row ∧ c.In3 := by
  obtain ⟨m, g0⟩ := shp_struct Tryz.underlying79 h
  obtain ⟨x1, y1, rfl, h1, g1⟩ := shpL_cons g0
  obtain ⟨x2, y2, rfl, h2, g2⟩ := shpL_cons g1
  obtain ⟨x3, y3, rfl, h3, g3⟩ := shpL_cons g2
  obtain ⟨x4, y4, rfl, h4, g4⟩ := shpL_cons g3
  obtain ⟨x5, y5, rfl, h5, g5⟩ := shpL_cons g4
  obtain rfl := shpL_nil g5
  obtain ⟨a, rfl, ha⟩ := shInt h1
  obtain ⟨b, rfl⟩ := shStr h2
  obtain ⟨c, rfl⟩ := shStr h3
  obtain ⟨d, rfl, hd⟩ := shInt h4
  obtain ⟨e, rfl, he⟩ := shInt h5
  exact ⟨⟨a, b, c, d, e⟩, rfl, ha, hd, he⟩
end
theorem aByte {p : PA} (h : ∃ n, shpA Tryz.prog n 5 p) : ∃ a, p = .c (.int .u8 a) ∧ 0 ≤ a ∧ a < 256 := by
  obtain ⟨a, h, k⟩ := arg_int Tryz.underlying5 h
  refine ⟨a, h, ?_⟩
  simp [IntKind.has, IntKind.min, IntKind.max, IntKind.bits, IntKind.signed] at k
  omega
theorem aPars {p : PA} (h : ∃ n, shpA Tryz.prog n 24 p) : ∃ l : List Par, p = .c (.sl false (l.map Par.row)) ∧ (∀ q ∈ l, q.In3) ∧ l.length ≤ 9223372036854775807 := by
  obtain ⟨es, m, rfl, l_es, hs⟩ := arg_slice Tryz.underlying24 h
  obtain ⟨l, rfl, h2⟩ := rows_of (fun r hr => shPar (hs r hr))
  exact ⟨l, rfl, h2, by rw [List.length_map] at l_es; exact l_es⟩
noncomputable section
open Classical
theorem ok_yPairs : ∀ args : List PA, shpArgs Tryz.prog Tryz.f4.params.toList args → yPairs_m args = some [.c (.bool true)] := fun args h => by
  rw [Tryz.params4] at h
  obtain ⟨p1, r1, rfl, h1, g1⟩ := shpArgs_cons h
  obtain ⟨l, rfl, hp⟩ := aPars h1
  obtain rfl := shpArgs_nil g1
  have := mE_eq encPs_inj (g := fun p => if (∀ q ∈ p.2, q.In3) ∧ p.2.length ≤ 9223372036854775807 then some [DV.b true] else none) (a := (false, l))
  exact this.trans (if_pos hp)
theorem ok_yOnce : ∀ args : List PA, shpArgs Tryz.prog Tryz.f9.params.toList args → yOnce_m args = some [.c (.bool true)] := fun args h => by
  rw [Tryz.params9] at h
  obtain ⟨p1, r1, rfl, h1, g1⟩ := shpArgs_cons h
  obtain ⟨l, rfl, hp⟩ := aPars h1
  obtain rfl := shpArgs_nil g1
  have := mE_eq encPs_inj (g := fun p => if (∀ q ∈ p.2, q.In3) ∧ p.2.length ≤ 9223372036854775807 then some [DV.b true] else none) (a := (false, l))
  exact this.trans (if_pos hp)
theorem ok_yTurns : ∀ args : List PA, shpArgs Tryz.prog Tryz.f8.params.toList args → yTurns_m args = some [.c (.bool true)] := fun args h => by
  rw [Tryz.params8] at h
  obtain ⟨p1, r1, rfl, h1, g1⟩ := shpArgs_cons h
  obtain ⟨l, rfl, hl, hn⟩ := aPars h1
  obtain ⟨p2, r2, rfl, h2, g2⟩ := shpArgs_cons g1
  obtain ⟨t, rfl, h4, h5⟩ := aByte h2
  obtain rfl := shpArgs_nil g2
  have := mE_eq encPsB_inj (g := fun p => if (∀ q ∈ p.1.2, q.In3) ∧ p.1.2.length ≤ 9223372036854775807 ∧ 0 ≤ p.2 ∧ p.2 < 256 then some [DV.b true] else none) (a := ((false, l), t))
  exact this.trans (if_pos ⟨hl, hn, h4, h5⟩)
end
end Go.Proofs.YtdoofgbeajkpaaaGreatDoor
