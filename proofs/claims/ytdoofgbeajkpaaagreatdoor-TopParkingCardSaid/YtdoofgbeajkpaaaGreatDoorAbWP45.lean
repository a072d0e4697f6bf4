/-
  Texts of the layer and of the laws, put together: AbJ26, AbJ27, AbJ34.
-/
import Derived.Test.YtdoofgbeajkpaaaGreatDoorAbWP43
import Derived.Test.YtdoofgbeajkpaaaGreatDoorAbWP37
import Derived.Test.YtdoofgbeajkpaaaGreatDoorAbWP44
import Derived.Test.YtdoofgbeajkpaaaGreatDoorAbWP42
import Derived.Test.YtdoofgbeajkpaaaGreatDoorAbWP40
set_option linter.unusedSimpArgs false
set_option linter.unusedVariables false
set_option maxRecDepth 100000
namespace Go.Ab
open Go.RowKit Go.Proofs
structure Clm where
  zf : Bool
  zs : List Zon
  sf : Bool
  ss : List Ses
  pf : Bool
  ps : List Pmt
noncomputable section
open Classical
end
end Go.Ab
namespace Go.Ab
open Go.RowKit Go.Proofs
def cvS (s : Sty) (t : Int) (x : Ses) : Bool := decide (x.zone = s.zone) && (decide (x.plate = s.plate) && (decide ((paidF x).1 ≤ t) && decide (t < (paidF x).2)))
def cvP (s : Sty) (t : Int) (p : Pmt) : Bool := decide (p.zone = s.zone) && validP p s.plate t
def covV (s : Sty) (c : Clm) (t : Int) : Bool := c.ss.any (cvS s t) || c.ps.any (cvP s t)
noncomputable section
open Classical
end
end Go.Ab
namespace Go.Ab
open Go.RowKit Go.Proofs
theorem inV_one {a b t : Int} : inV [(a, b)] t ↔ a ≤ t ∧ t < b := by
  rw [inV_cons]
  exact ⟨fun h => h.elim id fun h => absurd h inV_nil, .inl⟩
theorem encUnp_inj (a b : (Sty × (Bool × List Zon)) × ((Bool × List Ses) × (Bool × List Pmt))) (h : encUnp a = encUnp b) : a = b := by
  obtain ⟨⟨a1, a2, a3⟩, ⟨a4, a5⟩, a6, a7⟩ := a
  obtain ⟨⟨b1, b2, b3⟩, ⟨b4, b5⟩, b6, b7⟩ := b
  simp only [encUnp, List.cons.injEq, DV.agg.injEq, DV.c.injEq, D.sl.injEq, and_true] at h
  obtain ⟨h1, ⟨h2, h3⟩, ⟨h4, h5⟩, h6, h7⟩ := h
  rw [Sty.inj _ _ h1, h2, mapZn_inj.1 h3, h4, mapS_inj.1 h5, h6, mapPm_inj.1 h7]
noncomputable section
open Classical
theorem stpair_at {f : Bool} {l : List Par} (h : parsOk l) : stpair_m [.c (.sl f (l.map Par.row))] = some [.c (.sl false ((rstays (gatesF l)).map Sty.row)), .c (.sl false ((rexcl (gatesF l)).map Exc.row))] := by
  have := mE_eq encPs_inj (g := fun p => if parsOk p.2 then some [DV.c (.sl false ((rstays (gatesF p.2)).map Sty.row)), .c (.sl false ((rexcl (gatesF p.2)).map Exc.row))] else none) (a := (f, l))
  exact this.trans (if_pos h)
theorem stunp_at {f g k : Bool} {zs : List Zon} {ss : List Ses} {ps : List Pmt} {s : Sty} (h : unpOk ((s, f, zs), (g, ss), k, ps)) : stunp_m [.agg s.row, .c (.sl f (zs.map Zon.row)), .c (.sl g (ss.map Ses.row)), .c (.sl k (ps.map Pmt.row))] = some [.c (.sl (unpF zs ss ps s).1.isNone (((unpF zs ss ps s).1.getD []).map rwI)), .i (unpF zs ss ps s).2] := by
  have := mE_eq encUnp_inj (g := fun p => if unpOk p then some [DV.c (.sl (unpF p.1.2.2 p.2.1.2 p.2.2.2 p.1.1).1.isNone (((unpF p.1.2.2 p.2.1.2 p.2.2.2 p.1.1).1.getD []).map rwI)), .i (unpF p.1.2.2 p.2.1.2 p.2.2.2 p.1.1).2] else none) (a := ((s, f, zs), (g, ss), k, ps))
  exact this.trans (if_pos h)
end
end Go.Ab
