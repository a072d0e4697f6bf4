/-
  Texts of the layer and of the laws, put together: AbK0. No law is stated here.
-/
import Derived.Test.YtckjmdppjealdaaGreatDoorCards
import Derived.Test.YtckjmdppjealdaaGreatDoorTie
import Derived.Test.YtckjmdppjealdaaGreatDoorAbVol14
import Derived.Test.YtckjmdppjealdaaGreatDoorAbVol16
import Derived.Test.YtckjmdppjealdaaGreatDoorAbVol48
import Derived.Test.YtckjmdppjealdaaGreatDoorAbVol47
import Derived.WalkKit
import Derived.ProofKit
import Derived.OpenShut
import Derived.Deep.DeepHandedRow
import Derived.Lib.LaidTab
import Derived.Lib.LaidU8
set_option linter.unusedSimpArgs false
set_option linter.unusedVariables false
set_option maxRecDepth 100000

/-
  The seat's own facts: the package variables that her rows list, a world in which they lie; the shapes of events, zones, sessions; at whatever arguments of their types the laws answer true.
-/
namespace Go.Proofs.YtckjmdppjealdaaGreatDoor
open Go.ChangeShapes Go.WideShapes Go.ChangeAt Go.RowKit Go.Ab

theorem own : ownKnob Tryz.prog.godebug = none := by kernel_rfl
theorem laidOut : laidOutB Tryz.prog = true := by kernel_rfl
theorem posOk : posB Tryz.prog = true := by kernel_rfl
abbrev boolT : TypeId := 4
theorem gTab : Tryz.prog.globalNamed powName = some 2 := by kernel_rfl
theorem gTabType : (Tryz.prog.globals[2]?).map (·.type) = some 205 := by kernel_rfl
theorem un205 : Tryz.prog.underlying 205 = some (.array 20 157) := by kernel_rfl
theorem un157 : Tryz.prog.underlying 157 = some (.int .u64) := by kernel_rfl
theorem cells205 : Tryz.prog.cellsOf 205 = 20 := by kernel_rfl
theorem cells157 : Tryz.prog.cellsOf 157 = 1 := by kernel_rfl
theorem laidPow : ((Rows.sessionStepsRow.laid).drop 2).head? = some (powName, Lib.tabData .u64 Lib.pow10Tab) := by kernel_rfl

theorem table {W : World} (h : laidMetH Tryz.prog Rows.sessionStepsRow.laid W) : Lib.TabIs Tryz.prog W powName .u64 Lib.pow10Tab := by
  have hm : (powName, Lib.tabData .u64 Lib.pow10Tab) ∈ Rows.sessionStepsRow.laid :=
    List.mem_of_mem_drop (List.mem_of_mem_head? (by rw [laidPow]; rfl))
  obtain ⟨g, t, cs, fuel, p, h1, h2, h3, h4⟩ := Lib.laidMet.reads h hm
  obtain rfl := Option.some.inj (gTab.symm.trans h1)
  obtain rfl := Option.some.inj (gTabType.symm.trans h2)
  unfold Lib.TabIs
  rw [h3, ← Lib.cells_of_tab un205 un157 cells157 cells205 h4]
theorem maxLen {W : World} (h : W.ShapedOpen Tryz.prog) : ∃ m : Int, W.cell? ⟨0, 0, none⟩ = some (.int .i64 m) :=
  Go.Proofs.cell_of_shapedOpen_int (zero := #[.int .i64 0]) (t := 3) h (of_decide_eq_true (by kernel_rfl)) (by kernel_rfl) rfl (by kernel_rfl) (by kernel_rfl) Tryz.underlying3

theorem gok {W : World} (h : laidMetH Tryz.prog Rows.sessionStepsRow.laid W) (hsh : W.ShapedOpen Tryz.prog) : GOk Gt W (fun b _ => b < W.heap.size) :=
  ⟨fun g xs hg => (by cases hg), table h, maxLen hsh⟩

def flat : Nat → DataW Unit → List Value
  | 0, _ => []
  | n + 1, .agg l => l.flatMap (flat n)
  | _ + 1, .lit (.int k z) => [.int k z]
  | _, _ => []
def laidCells (n : String) : Array Value := (((Rows.sessionStepsRow.laid.find? fun x => x.1 == n).map fun x => flat 4 x.2).getD []).toArray
def setCells (cs : Array Value) : Obj → Obj
  | .cells _ t frozen => .cells cs t frozen
  | o => o
noncomputable def laidWorld (os : Os) : World :=
  { World.holding Tryz.prog os ⟨#[], #[], []⟩ with heap := ((((World.holding Tryz.prog os ⟨#[], #[], []⟩).heap.modify 2 (setCells (laidCells "internal/strconv.uint64pow10"))).modify 3 (setCells (laidCells "math/bits.deBruijn32tab"))).modify 4 (setCells (laidCells "math/bits.deBruijn64tab"))) }

/-! The shapes of this seat's parameters. -/
section
variable {n : Nat} {xs : List D}
theorem shInt (h : shp Tryz.prog n 3 xs = true) : ∃ a, xs = [.int .i64 a] ∧ inI a = true := by
  obtain ⟨a, h, k⟩ := shp_int Tryz.underlying3 h
  refine ⟨a, h, inI_iff.2 ?_⟩
  simpa [IntKind.has, IntKind.min, IntKind.max, IntKind.bits, IntKind.signed] using k
theorem shStr (h : shp Tryz.prog n 9 xs = true) : ∃ a, xs = [.str a] := let ⟨a, h, _⟩ := shp_str Tryz.underlying9 h; ⟨a, h⟩
theorem rows_of {α : Type} {f : α → List D} {Q : α → Prop} : ∀ {es : List (List D)}, (∀ r ∈ es, ∃ c, r = f c ∧ Q c) → ∃ l : List α, es = l.map f ∧ ∀ c ∈ l, Q c
  | [], _ => ⟨[], rfl, fun c h => by cases h⟩
  | r :: es, h => by
    obtain ⟨c, rfl, hc⟩ := h r List.mem_cons_self
    obtain ⟨l, rfl, hl⟩ := rows_of (fun r hr => h r (List.mem_cons_of_mem _ hr))
    exact ⟨c :: l, rfl, fun x hx => by
      rcases List.mem_cons.1 hx with rfl | hx
      · exact hc
      · exact hl x hx⟩
theorem shWin (h : shp Tryz.prog n 141 xs = true) : ∃ c : Win, xs = c.row ∧ True := by
  obtain ⟨m, g0⟩ := shp_struct Tryz.underlying141 h
  obtain ⟨x1, y1, rfl, h1, g1⟩ := shpL_cons g0
  obtain ⟨x2, y2, rfl, h2, g2⟩ := shpL_cons g1
  obtain ⟨x3, y3, rfl, h3, g3⟩ := shpL_cons g2
  obtain rfl := shpL_nil g3
  obtain ⟨a, rfl, _⟩ := shInt h1
  obtain ⟨b, rfl, _⟩ := shInt h2
  obtain ⟨c, rfl, _⟩ := shInt h3
  exact ⟨⟨a, b, c⟩, rfl, trivial⟩
theorem shStf (h : shp Tryz.prog n 62 xs = true) : ∃ c : Stf, xs = c.row ∧ True := by
  obtain ⟨m, g0⟩ := shp_struct Tryz.underlying62 h
  obtain ⟨x1, y1, rfl, h1, g1⟩ := shpL_cons g0
  obtain ⟨x2, y2, rfl, h2, g2⟩ := shpL_cons g1
  obtain ⟨x3, y3, rfl, h3, g3⟩ := shpL_cons g2
  obtain rfl := shpL_nil g3
  obtain ⟨a, rfl, _⟩ := shInt h1
  obtain ⟨b, rfl, _⟩ := shInt h2
  obtain ⟨c, rfl, _⟩ := shInt h3
  exact ⟨⟨a, b, c⟩, rfl, trivial⟩
theorem shPar (h : shp Tryz.prog n 24 xs = true) : ∃ c : Par, xs = c.row ∧ c.In := by
  obtain ⟨m, g0⟩ := shp_struct Tryz.underlying24 h
  obtain ⟨x1, y1, rfl, h1, g1⟩ := shpL_cons g0
  obtain ⟨x2, y2, rfl, h2, g2⟩ := shpL_cons g1
  obtain ⟨x3, y3, rfl, h3, g3⟩ := shpL_cons g2
  obtain ⟨x4, y4, rfl, h4, g4⟩ := shpL_cons g3
  obtain ⟨x5, y5, rfl, h5, g5⟩ := shpL_cons g4
  obtain rfl := shpL_nil g5
  obtain ⟨a, rfl, ha⟩ := shInt h1
  obtain ⟨b, rfl⟩ := shStr h2
  obtain ⟨c, rfl⟩ := shStr h3
  obtain ⟨d, rfl, hd⟩ := shInt h4
  obtain ⟨e, rfl, he⟩ := shInt h5
  exact ⟨⟨a, b, c, d, e⟩, rfl, ha, hd, he⟩
theorem shZon (h : shp Tryz.prog n 57 xs = true) : ∃ c : Zon, xs = c.row ∧ True := by
  obtain ⟨m, g0⟩ := shp_struct Tryz.underlying57 h
  obtain ⟨x1, y1, rfl, h1, g1⟩ := shpL_cons g0
  obtain ⟨x2, y2, rfl, h2, g2⟩ := shpL_cons g1
  obtain ⟨x3, y3, rfl, h3, g3⟩ := shpL_cons g2
  obtain ⟨x4, y4, rfl, h4, g4⟩ := shpL_cons g3
  obtain ⟨x5, y5, rfl, h5, g5⟩ := shpL_cons g4
  obtain ⟨x6, y6, rfl, h6, g6⟩ := shpL_cons g5
  obtain ⟨x7, y7, rfl, h7, g7⟩ := shpL_cons g6
  obtain rfl := shpL_nil g7
  obtain ⟨a, rfl⟩ := shStr h1
  obtain ⟨es2, m2, e2, _, r2⟩ := shp_slice Tryz.underlying54 h2
  subst e2
  obtain ⟨hs, rfl, _⟩ := rows_of (fun r hr => shWin (r2 r hr))
  obtain ⟨es3, m3, e3, _, r3⟩ := shp_slice Tryz.underlying55 h3
  subst e3
  obtain ⟨ss, rfl, _⟩ := rows_of (fun r hr => shStf (r3 r hr))
  obtain ⟨d, rfl, _⟩ := shInt h4
  obtain ⟨e, rfl, _⟩ := shInt h5
  obtain ⟨f, rfl, _⟩ := shInt h6
  obtain ⟨g, rfl, _⟩ := shInt h7
  exact ⟨⟨a, false, hs, false, ss, d, e, f, g⟩, rfl, trivial⟩
theorem shNum (h : shp Tryz.prog n 3 xs = true) : ∃ c : Int, xs = rowI c ∧ True := by
  obtain ⟨a, rfl, _⟩ := shInt h
  exact ⟨a, rfl, trivial⟩
theorem shSes (h : shp Tryz.prog n 60 xs = true) : ∃ c : Ses, xs = c.row := by
  obtain ⟨m, g0⟩ := shp_struct Tryz.underlying60 h
  obtain ⟨x1, y1, rfl, h1, g1⟩ := shpL_cons g0
  obtain ⟨x2, y2, rfl, h2, g2⟩ := shpL_cons g1
  obtain ⟨x3, y3, rfl, h3, g3⟩ := shpL_cons g2
  obtain ⟨x4, y4, rfl, h4, g4⟩ := shpL_cons g3
  obtain ⟨x5, y5, rfl, h5, g5⟩ := shpL_cons g4
  obtain ⟨x6, y6, rfl, h6, g6⟩ := shpL_cons g5
  obtain ⟨x7, y7, rfl, h7, g7⟩ := shpL_cons g6
  obtain rfl := shpL_nil g7
  obtain ⟨a, rfl⟩ := shStr h1
  obtain ⟨b, rfl⟩ := shStr h2
  obtain ⟨c, rfl⟩ := shStr h3
  obtain ⟨d, rfl, _⟩ := shInt h4
  obtain ⟨e, rfl, _⟩ := shInt h5
  obtain ⟨f, rfl, _⟩ := shInt h6
  obtain ⟨es7, m7, e7, _, r7⟩ := shp_slice Tryz.underlying58 h7
  subst e7
  obtain ⟨ss, rfl, _⟩ := rows_of (fun r hr => shNum (r7 r hr))
  exact ⟨⟨a, b, c, d, e, f, false, ss⟩, rfl⟩
end
theorem aPar {p : PA} (h : ∃ n, shpA Tryz.prog n 24 p) : ∃ c : Par, p = .agg c.row ∧ c.In := by
  obtain ⟨n, h⟩ := h
  obtain ⟨x, rfl, hx⟩ := shpA_agg (by kernel_rfl) h
  obtain ⟨f, rfl, h1⟩ := shPar hx
  exact ⟨f, rfl, h1⟩
theorem aZon {p : PA} (h : ∃ n, shpA Tryz.prog n 57 p) : ∃ c : Zon, p = .agg c.row := by
  obtain ⟨n, h⟩ := h
  obtain ⟨x, rfl, hx⟩ := shpA_agg (by kernel_rfl) h
  obtain ⟨f, rfl, _⟩ := shZon hx
  exact ⟨f, rfl⟩
theorem aSes {p : PA} (h : ∃ n, shpA Tryz.prog n 60 p) : ∃ c : Ses, p = .agg c.row := by
  obtain ⟨n, h⟩ := h
  obtain ⟨x, rfl, hx⟩ := shpA_agg (by kernel_rfl) h
  obtain ⟨f, rfl⟩ := shSes hx
  exact ⟨f, rfl⟩
theorem aInt {p : PA} (h : ∃ n, shpA Tryz.prog n 3 p) : ∃ a, p = .c (.int .i64 a) := by
  obtain ⟨a, h, _⟩ := arg_int Tryz.underlying3 h
  exact ⟨a, h⟩
theorem aByte {p : PA} (h : ∃ n, shpA Tryz.prog n 5 p) : ∃ a, p = .c (.int .u8 a) ∧ 0 ≤ a ∧ a < 256 := by
  obtain ⟨a, h, k⟩ := arg_int Tryz.underlying5 h
  refine ⟨a, h, ?_⟩
  simp [IntKind.has, IntKind.min, IntKind.max, IntKind.bits, IntKind.signed] at k
  omega
theorem aPars {p : PA} (h : ∃ n, shpA Tryz.prog n 37 p) : ∃ l : List Par, p = .c (.sl false (l.map Par.row)) ∧ (∀ q ∈ l, q.In) ∧ l.length ≤ 9223372036854775807 := by
  obtain ⟨es, m, rfl, l_es, hs⟩ := arg_slice Tryz.underlying37 h
  obtain ⟨l, rfl, h2⟩ := rows_of (fun r hr => shPar (hs r hr))
  exact ⟨l, rfl, h2, by rw [List.length_map] at l_es; exact l_es⟩
theorem aZons {p : PA} (h : ∃ n, shpA Tryz.prog n 25 p) : ∃ l : List Zon, p = .c (.sl false (l.map Zon.row)) ∧ l.length ≤ 9223372036854775807 := by
  obtain ⟨es, m, rfl, l_es, hs⟩ := arg_slice Tryz.underlying25 h
  obtain ⟨l, rfl, h2⟩ := rows_of (fun r hr => shZon (hs r hr))
  exact ⟨l, rfl, by rw [List.length_map] at l_es; exact l_es⟩

theorem aSess {p : PA} (h : ∃ n, shpA Tryz.prog n 22 p) : ∃ l : List Ses, p = .c (.sl false (l.map Ses.row)) ∧ l.length ≤ 9223372036854775807 := by
  obtain ⟨es, m, rfl, l_es, hs⟩ := arg_slice Tryz.underlying22 h
  obtain ⟨l, rfl, _⟩ := rows_of (f := Ses.row) (Q := fun _ => True) (fun r hr => by obtain ⟨c, hc⟩ := shSes (hs r hr); exact ⟨c, hc, trivial⟩)
  exact ⟨l, rfl, by rw [List.length_map] at l_es; exact l_es⟩

noncomputable section
open Classical

theorem ok_lSteps : ∀ args : List PA, shpArgs Tryz.prog Tryz.f3.params.toList args → lSteps_m args = some [.c (.bool true)] := fun args h => by
  rw [Tryz.params3] at h
  obtain ⟨p1, r1, rfl, h1, g1⟩ := shpArgs_cons h
  obtain ⟨l, rfl, hl⟩ := aSess h1
  obtain ⟨p2, r2, rfl, h2, g2⟩ := shpArgs_cons g1
  obtain ⟨p, rfl, hp⟩ := aPar h2
  obtain ⟨p3, r3, rfl, h3, g3⟩ := shpArgs_cons g2
  obtain ⟨zs, rfl, hz⟩ := aZons h3
  obtain rfl := shpArgs_nil g3
  have := mE_eq encStep_inj (g := fun q => if q.1.2.length ≤ 9223372036854775807 ∧ q.2.1.In ∧ q.2.2.2.length ≤ 9223372036854775807 then some [DV.b true] else none) (a := ((false, l), p, false, zs))
  exact this.trans (if_pos ⟨hl, hp, hz⟩)
theorem ok_lAll : ∀ args : List PA, shpArgs Tryz.prog Tryz.f4.params.toList args → lAll_m args = some [.c (.bool true)] := fun args h => by
  rw [Tryz.params4] at h
  obtain ⟨p1, r1, rfl, h1, g1⟩ := shpArgs_cons h
  obtain ⟨l, rfl, hl, hn⟩ := aPars h1
  obtain ⟨p2, r2, rfl, h2, g2⟩ := shpArgs_cons g1
  obtain ⟨zs, rfl, hz⟩ := aZons h2
  obtain rfl := shpArgs_nil g2
  have := mE_eq encPsZs_inj (g := fun p => if (∀ q ∈ p.1.2, q.In) ∧ p.1.2.length ≤ 9223372036854775807 ∧ p.2.2.length ≤ 9223372036854775807 then some [DV.b true] else none) (a := ((false, l), false, zs))
  exact this.trans (if_pos ⟨hl, hn, hz⟩)

end
end Go.Proofs.YtckjmdppjealdaaGreatDoor
