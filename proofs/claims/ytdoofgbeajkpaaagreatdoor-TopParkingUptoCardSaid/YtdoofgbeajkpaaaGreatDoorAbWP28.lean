/-
  Texts of the layer and of the laws, put together: AbU8, AbU9, AbU10, AbU11.
-/
import Derived.Test.YtdoofgbeajkpaaaGreatDoorAbWP27
set_option linter.unusedSimpArgs false
set_option linter.unusedVariables false
set_option maxRecDepth 100000
namespace Go.Ab
open Go.RowKit Go.Proofs
def overB (z : Zon) (s : Ses) (t : Int) : Bool := decide (s.til ≤ IntKind.i64.wrap (t - z.grace))
def paidF (s : Ses) : Int × Int := if ivalB s.fr s.til = true then (s.fr, s.til) else (0, 0)
def rowIv (p : Int × Int) : List D := [.int .i64 p.1, .int .i64 p.2]
noncomputable section
open Classical
def sover_m : List PA → Option (List PA) := mE encZSi fun p => some [.b (overB p.1.1 p.1.2 p.2)]
def sPaid_m : List PA → Option (List PA) := mE encS fun s => some [.agg (rowIv (paidF s))]
theorem sover_ok : PureC Tryz.prog Gt 125 sover_m := by
  refine pure_of_awp (X := ctx Tryz.prog Gt []) Tryz.func125 rfl rfl (by kernel_rfl) (by kernel_rfl) AllOk.nil.kok ?_
  intro args r h0
  obtain ⟨⟨⟨⟨name, hf, hrs, sf, sts, grace, free, dmax, stay⟩, ⟨id, zone, plate, fr, til, state, ef, seen⟩⟩, t⟩, rfl, h⟩ := mE_inv h0
  refine ⟨Nat.le_of_ble_eq_true rfl, ?_⟩
  cases h
  simp only [overB]
  have hc := Nat.zero_add 0
  repeat' (first | simp only [hc, Tryz.f125, encZSi, Zon.row, Ses.row, SX, ZZ, simprocAttr, ↓reduceIte] )
  all_goals simp [DV.b]
theorem sover_at {z : Zon} {s : Ses} {t : Int} : sover_m [.agg z.row, .agg s.row, .c (.int .i64 t)] = some [.b (overB z s t)] :=
  mE_eq encZSi_inj (g := fun p => some [.b (overB p.1.1 p.1.2 p.2)]) (a := ((z, s), t))
theorem sPaid_ok : PureC Tryz.prog Gt 18 sPaid_m := by
  refine pure_of_awp (X := ctx Tryz.prog Gt []) Tryz.func18 rfl rfl (by kernel_rfl) (by kernel_rfl) AllOk.nil.kok ?_
  intro args r h0
  obtain ⟨⟨id, zone, plate, fr, til, state, ef, seen⟩, rfl, h⟩ := mE_inv h0
  refine ⟨Nat.le_of_ble_eq_true rfl, ?_⟩
  cases h
  simp only [paidF, rowIv, ivalB]
  have hc := Nat.zero_add 0
  repeat' (first | simp only [hc, Tryz.f18, encS, Ses.row, SX, ZZ, simprocAttr, ↓reduceIte] | ((first | apply Za | apply Zd) <;> intro hc) )
  all_goals (simp only [Bool.and_eq_true, decide_eq_true_eq]; first | rw [if_pos (by omega)] | rw [if_neg (by omega)])
end
end Go.Ab
namespace Go.Ab
open Go.RowKit Go.Proofs
def ordI (a b : Int) : Int := if a < b then -1 else if b < a then 1 else 0
def befB : List UInt8 → List UInt8 → Bool
  | [], [] => false
  | [], _ :: _ => true
  | _ :: _, [] => false
  | a :: l, b :: k => if a = b then befB l k else decide (a.toNat < b.toNat)
def ordS (a b : List UInt8) : Int := if a = b then 0 else if befB a b = true then -1 else 1
def firstNz : List Int → Int
  | [] => 0
  | x :: r => if x ≠ 0 then x else firstNz r
def ordP (a b : Par) : Int := firstNz [ordI a.time b.time, ordI a.kind b.kind, ordS a.zone b.zone, ordS a.plate b.plate, ordI a.til b.til]
def encPP (p : Par × Par) : List PA := [.agg p.1.row, .agg p.2.row]
theorem encPP_inj (a b : Par × Par) (h : encPP a = encPP b) : a = b := by
  obtain ⟨a1, a2⟩ := a
  obtain ⟨b1, b2⟩ := b
  simp [encPP] at h
  simp [Par.inj a1 b1 h.1, Par.inj a2 b2 h.2]
noncomputable section
open Classical
end
end Go.Ab
namespace Go.Ab
open Go.RowKit Go.Proofs
def frontP (p : Par) : List Par → Nat
  | [] => 0
  | x :: l => if ordP x p < 0 then frontP p l + 1 else 0
def insP (l : List Par) (p : Par) : List Par :=
  match l[frontP p l]? with
  | some x => if ordP x p = 0 then l else l.take (frontP p l) ++ p :: l.drop (frontP p l)
  | none => l ++ [p]
def sortR (l : List Par) : List Par := l.foldl insP []
theorem insP_len (l : List Par) (p : Par) : (insP l p).length ≤ l.length + 1 := by
  unfold insP
  split
  · split
    · omega
    simp only [List.length_append, List.length_take, List.length_cons, List.length_drop]; omega
  simp
theorem lenPr {l : List Par} : ((l.map Par.row).length : Int) = l.length := by simp
theorem pr_at {l : List Par} {j : Nat} (h : j < l.length) : (l.map Par.row)[j]? = some [.int .i64 l[j].kind, .str l[j].zone, .str l[j].plate, .int .i64 l[j].time, .int .i64 l[j].til] := by simp [h, Par.row]
theorem foldl_take {α β : Type} {f : β → α → β} {l : List α} {b : β} {j : Nat} (h : j < l.length) : (l.take (j + 1)).foldl f b = f ((l.take j).foldl f b) l[j] := by
  rw [List.take_succ_eq_append_getElem h, List.foldl_append]; rfl
def encPs (p : Bool × List Par) : List PA := [.c (.sl p.1 (p.2.map Par.row))]
theorem encPs_inj (a b : Bool × List Par) (h : encPs a = encPs b) : a = b := by
  obtain ⟨a1, a2⟩ := a
  obtain ⟨b1, b2⟩ := b
  simpa [encPs, mapP_inj] using h
def parsOk (l : List Par) : Prop := l.length ≤ 1000000 ∧ ∀ x ∈ l, x.Ok
noncomputable section
open Classical
end
end Go.Ab
namespace Go.Ab
open Go.RowKit Go.Proofs
structure Exc where
  id : List UInt8
  why : Int
def Exc.row (x : Exc) : List D := [.str x.id, .int .i64 x.why]
theorem lenSs {l : List Ses} : ((l.map Ses.row).length : Int) = l.length := by simp
theorem ss_at {l : List Ses} {j : Nat} (h : j < l.length) : (l.map Ses.row)[j]? = some [.str l[j].id, .str l[j].zone, .str l[j].plate, .int .i64 l[j].fr, .int .i64 l[j].til, .int .i64 l[j].state, .sl l[j].sf (l[j].seen.map rowI)] := by simp [h, Ses.row]
noncomputable section
open Classical
end
end Go.Ab
