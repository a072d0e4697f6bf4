/-
  Texts of the layer and of the laws, put together: AbU8, AbU9, AbU10, AbU11, AbPk1.
-/
import Derived.Test.YtdoofgbeajkpaaaGreatDoorAbWP27
set_option linter.unusedSimpArgs false
set_option linter.unusedVariables false
set_option maxRecDepth 100000
namespace Go.Ab
open Go.RowKit Go.Proofs
def overB (z : Zon) (s : Ses) (t : Int) : Bool := decide (s.til ≤ IntKind.i64.wrap (t - z.grace))
def paidF (s : Ses) : Int × Int := if ivalB s.fr s.til = true then (s.fr, s.til) else (0, 0)
def rowIv (p : Int × Int) : List D := [.int .i64 p.1, .int .i64 p.2]
noncomputable section
open Classical
def sover_m : List PA → Option (List PA) := mE encZSi fun p => some [.b (overB p.1.1 p.1.2 p.2)]
def sPaid_m : List PA → Option (List PA) := mE encS fun s => some [.agg (rowIv (paidF s))]
theorem sover_ok : PureC Tryz.prog Gt 125 sover_m := by
  refine pure_of_awp (X := ctx Tryz.prog Gt []) Tryz.func125 rfl rfl (by kernel_rfl) (by kernel_rfl) AllOk.nil.kok ?_
  intro args r h0
  obtain ⟨⟨⟨⟨name, hf, hrs, sf, sts, grace, free, dmax, stay⟩, ⟨id, zone, plate, fr, til, state, ef, seen⟩⟩, t⟩, rfl, h⟩ := mE_inv h0
  refine ⟨Nat.le_of_ble_eq_true rfl, ?_⟩
  cases h
  simp only [overB]
  have hc := Nat.zero_add 0
  repeat' (first | simp only [hc, Tryz.f125, encZSi, Zon.row, Ses.row, SX, ZZ, simprocAttr, ↓reduceIte] | ((first | apply Za | apply Zb | apply Zc | apply Zd | apply Ze | apply Zf | apply Zg | apply Zh) <;> intro hc) | refine Zj ?_)
  all_goals simp [DV.b]
theorem sover_at {z : Zon} {s : Ses} {t : Int} : sover_m [.agg z.row, .agg s.row, .c (.int .i64 t)] = some [.b (overB z s t)] :=
  mE_eq encZSi_inj (g := fun p => some [.b (overB p.1.1 p.1.2 p.2)]) (a := ((z, s), t))
theorem sPaid_ok : PureC Tryz.prog Gt 18 sPaid_m := by
  refine pure_of_awp (X := ctx Tryz.prog Gt []) Tryz.func18 rfl rfl (by kernel_rfl) (by kernel_rfl) AllOk.nil.kok ?_
  intro args r h0
  obtain ⟨⟨id, zone, plate, fr, til, state, ef, seen⟩, rfl, h⟩ := mE_inv h0
  refine ⟨Nat.le_of_ble_eq_true rfl, ?_⟩
  cases h
  simp only [paidF, rowIv, ivalB]
  have hc := Nat.zero_add 0
  repeat' (first | simp only [hc, Tryz.f18, encS, Ses.row, SX, ZZ, simprocAttr, ↓reduceIte] | ((first | apply Za | apply Zb | apply Zc | apply Zd | apply Ze | apply Zf | apply Zg | apply Zh) <;> intro hc) | refine Zj ?_)
  all_goals (simp only [Bool.and_eq_true, decide_eq_true_eq]; first | rw [if_pos (by omega)] | rw [if_neg (by omega)])
end
end Go.Ab
namespace Go.Ab
open Go.RowKit Go.Proofs
def ordI (a b : Int) : Int := if a < b then -1 else if b < a then 1 else 0
def befB : List UInt8 → List UInt8 → Bool
  | [], [] => false
  | [], _ :: _ => true
  | _ :: _, [] => false
  | a :: l, b :: k => if a = b then befB l k else decide (a.toNat < b.toNat)
def ordS (a b : List UInt8) : Int := if a = b then 0 else if befB a b = true then -1 else 1
def firstNz : List Int → Int
  | [] => 0
  | x :: r => if x ≠ 0 then x else firstNz r
def ordP (a b : Par) : Int := firstNz [ordI a.time b.time, ordI a.kind b.kind, ordS a.zone b.zone, ordS a.plate b.plate, ordI a.til b.til]
def encPP (p : Par × Par) : List PA := [.agg p.1.row, .agg p.2.row]
theorem encPP_inj (a b : Par × Par) (h : encPP a = encPP b) : a = b := by
  obtain ⟨a1, a2⟩ := a
  obtain ⟨b1, b2⟩ := b
  simp [encPP] at h
  simp [Par.inj a1 b1 h.1, Par.inj a2 b2 h.2]
noncomputable section
open Classical
end
end Go.Ab
namespace Go.Ab
open Go.RowKit Go.Proofs
def frontP (p : Par) : List Par → Nat
  | [] => 0
  | x :: l => if ordP x p < 0 then frontP p l + 1 else 0
def insP (l : List Par) (p : Par) : List Par :=
  match l[frontP p l]? with
  | some x => if ordP x p = 0 then l else l.take (frontP p l) ++ p :: l.drop (frontP p l)
  | none => l ++ [p]
def sortR (l : List Par) : List Par := l.foldl insP []
theorem insP_len (l : List Par) (p : Par) : (insP l p).length ≤ l.length + 1 := by
  unfold insP
  split
  · split
    · omega
    simp only [List.length_append, List.length_take, List.length_cons, List.length_drop]; omega
  simp
theorem lenPr {l : List Par} : ((l.map Par.row).length : Int) = l.length := by simp
theorem pr_at {l : List Par} {j : Nat} (h : j < l.length) : (l.map Par.row)[j]? = some [.int .i64 l[j].kind, .str l[j].zone, .str l[j].plate, .int .i64 l[j].time, .int .i64 l[j].til] := by simp [h, Par.row]
theorem foldl_take {α β : Type} {f : β → α → β} {l : List α} {b : β} {j : Nat} (h : j < l.length) : (l.take (j + 1)).foldl f b = f ((l.take j).foldl f b) l[j] := by
  rw [List.take_succ_eq_append_getElem h, List.foldl_append]; rfl
def encPs (p : Bool × List Par) : List PA := [.c (.sl p.1 (p.2.map Par.row))]
theorem encPs_inj (a b : Bool × List Par) (h : encPs a = encPs b) : a = b := by
  obtain ⟨a1, a2⟩ := a
  obtain ⟨b1, b2⟩ := b
  simpa [encPs, mapP_inj] using h
def parsOk (l : List Par) : Prop := l.length ≤ 1000000 ∧ ∀ x ∈ l, x.Ok
noncomputable section
open Classical
end
end Go.Ab
namespace Go.Ab
open Go.RowKit Go.Proofs
structure Exc where
  id : List UInt8
  why : Int
def Exc.row (x : Exc) : List D := [.str x.id, .int .i64 x.why]
theorem lenSs {l : List Ses} : ((l.map Ses.row).length : Int) = l.length := by simp
theorem ss_at {l : List Ses} {j : Nat} (h : j < l.length) : (l.map Ses.row)[j]? = some [.str l[j].id, .str l[j].zone, .str l[j].plate, .int .i64 l[j].fr, .int .i64 l[j].til, .int .i64 l[j].state, .sl l[j].sf (l[j].seen.map rowI)] := by simp [h, Ses.row]
noncomputable section
open Classical
end
end Go.Ab
namespace Go.Ab
open Go.RowKit Go.Proofs
def Zon.OkW (z : Zon) : Prop := z.hrs.length ≤ 9223372036854775807 ∧ z.sts.length ≤ 9223372036854775807
def zonesOkW (l : List Zon) : Prop := l.length ≤ 9223372036854775807 ∧ ∀ z ∈ l, z.OkW
def Par.OkW (p : Par) : Prop := inI p.kind = true ∧ inI p.time = true ∧ inI p.til = true ∧ p.zone.length ≤ 140737488351232 ∧ p.plate.length ≤ 140737488351232
theorem findZ_okW {l : List Zon} {n : List UInt8} (h : zonesOkW l) {z : Zon} (hz : findZ l n = some z) : z.OkW := h.2 z (List.mem_of_find?_eq_some hz)
theorem nameB_len {s : List UInt8} (h : nameB s = true) : s.length ≤ 12 := by
  unfold nameB at h
  simp only [Bool.and_eq_true, decide_eq_true_eq] at h
  omega
theorem plateB_len {s : List UInt8} (h : plateB s = true) : s.length ≤ 10 := by
  unfold plateB at h
  obtain ⟨h1, h2⟩ := of_decide_eq_true h
  unfold plF at h1 h2
  split at h1
  · rename_i ho
    rw [if_pos ho] at h2
    dsimp only at h2
    rw [h2] at ho
    unfold plOk at ho
    simp only [Bool.and_eq_true, decide_eq_true_eq] at ho
    omega
  cases h1
theorem err_name {z : Zon} (h : z.err = 0) : nameB z.name = true := by
  rw [Zon.err_eq] at h
  cases hn : nameB z.name
  · rw [hn, if_pos rfl] at h
    cases h
  rfl
theorem errP_small {l : List Zon} {p : Par} (hp : p.OkW) (h : errP l p = 0) : p.Ok := by
  obtain ⟨h1, h2, h3, _, _⟩ := hp
  refine ⟨h1, h2, h3, ?_⟩
  unfold errP at h
  split at h
  · cases h
  cases hz : findZ l p.zone with
  | none =>
    rw [hz] at h
    cases h
  | some z =>
    rw [hz] at h
    dsimp only at h
    split at h
    · cases h
    rename_i he
    split at h
    · cases h
    rename_i hpl
    have a := nameB_len (err_name (by simpa using he : z.err = 0))
    have b := plateB_len (by simpa using hpl : plateB p.plate = true)
    have c : z.name = p.zone := by
      have := List.find?_some hz
      simpa using this
    rw [c] at a
    omega
noncomputable section
open Classical
def rpnormW_m : List PA → Option (List PA) := ms fun s => if decide (s.length ≤ 140737488351232) = true then some [.c (.str (plF s).1), .i (plF s).2] else none
def zrfindW_m : List PA → Option (List PA) := mE encZsN fun p => if zonesOkW p.1.2 then some (findR id p.1.2 p.2) else none
def rofW_m : List PA → Option (List PA) := mE encPZs fun p => if zonesOkW p.2.2 then some [.agg (if (ofR id p.2.2 p.1.zone).2 = true then (ofR id p.2.2 p.1.zone).1 else Zon.nil).row, .b (ofR id p.2.2 p.1.zone).2] else none
def r7checkW_m : List PA → Option (List PA) := mE encPZs fun p => if zonesOkW p.2.2 ∧ p.1.OkW then some [.i (errP p.2.2 p.1)] else none
theorem rpnormW_ok : PureC Tryz.prog Gt 69 rpnormW_m := by
  refine pure_of_awp (X := ctx Tryz.prog Gt []) Tryz.func69 rfl rfl (by kernel_rfl) (by kernel_rfl) AllOk.nil.kok ?_
  intro args r h0
  obtain ⟨s, rfl, h⟩ := ms_inv h0
  refine ⟨Nat.le_of_ble_eq_true rfl, ?_⟩
  split at h
  · rename_i hlen
    have hlen := of_decide_eq_true hlen
    cases h
    have hc := Nat.zero_add 0
    repeat' (first | simp only [hc, Tryz.f69, SX, ZZ, simprocAttr, ↓reduceIte] | ((first | apply Za | apply Zb | apply Zc | apply Zd | apply Ze | apply Zf | apply Zg | apply Zh) <;> intro hc) | refine Zj ?_)
    refine awp_loop (σ := Nat × List UInt8) (fun p => p.1 ≤ s.length ∧ p.2 = plL (s.take p.1) ∧ p.2.all platB = true ∧ p.2.length ≤ p.1) (fun p => ⟨[(5, AV.i p.1), (0, AV.s s), (4, .v (.c (.own 0 (p.2.map byR))))], [.tok p.2.length 1 none]⟩) (fun p => s.length - p.1) (0, []) (Wk.trans (Wk.own 4 1 (by omega) (by simp [look])) (Wk.sub' (by simp [subT, look]) rfl)) (by simp [plL]) ?_
    rintro ⟨j, out⟩ ⟨hj, hout, hall, hlo⟩
    dsimp only at hj hout hall hlo ⊢
    have l1 : (out.map byR).length = out.length := by simp
    by_cases hjl : j < s.length
    · have e1 : s[j]? = some s[j] := by simp [hjl]
      have hlt : ((j : Int) < (s.length : Int)) = True := by simp; omega
      have hw := wI (n := (j : Int) + 1) (by omega) (by omega)
      have hs1 := plL_next hjl
      have hs2 := plL_at hjl
      rw [← hout] at hs1 hs2
      generalize s[j] = c at *
      have k3 : ((out.length + 1) * 1 ≤ 140737488355328) = True := eq_true (by omega)
      have k4 : (out.length + 1 ≤ 4611686018427387904) = True := eq_true (by omega)
      have hcl := c.toNat_lt
      have hno : ∀ d : UInt8, plL s = out ++ ([d] ++ plL (s.drop (j + 1))) → platB d = false → plF s = ([], 19) := by
        intro d hd hx
        refine plF_no ?_
        rw [hd]
        simp [plOk, hx]
      by_cases hg : gapB c = true
      · rw [if_pos hg, List.append_nil] at hs1
        have hg2 := of_decide_eq_true hg
        have a2 : ((c.toNat : Int) = 32 ∨ (c.toNat : Int) = 45) := by omega
        rcases a2 with a2 | a2
        all_goals
          have hc := Nat.zero_add 0
          repeat' (first | simp only [hc, SX, e1, hlt, nn, hw, a2, l1, ZZ, simprocAttr, ↓reduceIte] | ((first | apply Za | apply Zb | apply Zc | apply Zd | apply Ze | apply Zf | apply Zg | apply Zh) <;> intro hc) | refine Zj ?_)
          exact lp_next (j + 1, out) (Wk.sub' (by simp [subT, look]) rfl) ⟨by simp only []; omega, by rw [hs1], hall, by simp only []; omega⟩ (by simp only []; omega)
      rw [if_neg hg] at hs1 hs2
      have hg2 : ¬ (c.toNat = 32 ∨ c.toNat = 45) := by simpa [gapB] using hg
      have b1 : ((c.toNat : Int) = 32) = False := eq_false (by omega)
      have b2 : ((c.toNat : Int) = 45) = False := eq_false (by omega)
      cases hlw : lowB c
      · rw [up_else hlw] at hs1 hs2
        have hlw2 : ¬ (97 ≤ c.toNat ∧ c.toNat ≤ 122) := by simpa [lowB] using hlw
        have h1 := hno c hs2
        have hok : platB c = true → (out ++ [c]).all platB = true ∧ (out ++ [c]).length ≤ j + 1 := by
          intro x
          simp [hall, x]; omega
        have hpl : platB c = decide ((65 ≤ c.toNat ∧ c.toNat ≤ 90) ∨ (48 ≤ c.toNat ∧ c.toNat ≤ 57)) := rfl
        have hc := Nat.zero_add 0
        repeat' (first | simp only [hc, SX, e1, hlt, nn, hw, l1, k3, k4, b1, b2, ZZ, simprocAttr, ↓reduceIte] | ((first | apply Za | apply Zb | apply Zc | apply Zd | apply Ze | apply Zf | apply Zg | apply Zh) <;> intro hc) | refine Zj ?_)
        all_goals first
          | (exfalso; omega)
          | (have h2 := h1 (by rw [hpl]; simp; omega); simp [h2, DV.i]; done)
          | exact lp_next (j + 1, out ++ [c]) (Wk.sub' (by simp [subT, look, byR]) (by simp)) ⟨by simp only []; omega, by rw [hs1], (hok (by rw [hpl]; simp; omega)).1, (hok (by rw [hpl]; simp; omega)).2⟩ (by simp only []; omega)
      have hlw2 : 97 ≤ c.toNat ∧ c.toNat ≤ 122 := of_decide_eq_true hlw
      have hu := up_low hlw
      generalize upC c = d at *
      have hok : (out ++ [d]).all platB = true ∧ (out ++ [d]).length ≤ j + 1 := by
        simp [hall, platB]; omega
      have hu2 : (c.toNat : Int) - 32 = (d.toNat : Int) := by omega
      have hw8 := wU8 (n := (d.toNat : Int)) (by omega) (by omega)
      have a1 : (97 ≤ (c.toNat : Int)) = True := eq_true (by omega)
      have a2 : ((c.toNat : Int) ≤ 122) = True := eq_true (by omega)
      have hc := Nat.zero_add 0
      repeat' (first | simp only [hc, SX, e1, hlt, nn, hw, l1, k3, k4, a1, a2, hu2, hw8, b1, b2, ZZ, simprocAttr, ↓reduceIte] | ((first | apply Za | apply Zb | apply Zc | apply Zd | apply Ze | apply Zf | apply Zg | apply Zh) <;> intro hc) | refine Zj ?_)
      all_goals first
        | (exfalso; omega)
        | exact lp_next (j + 1, out ++ [d]) (Wk.sub' (by simp [subT, look, byR]) (by simp)) ⟨by simp only []; omega, by rw [hs1], hok.1, hok.2⟩ (by simp only []; omega)
    have hlt : ((j : Int) < (s.length : Int)) = False := by simp; omega
    rw [List.take_of_length_le (by omega)] at hout
    by_cases h2 : out.length < 2
    · have h3 : plF s = ([], 19) := plF_no (by rw [← hout]; simp [plOk]; omega)
      have h2' : (out.length : Int) < 2 := by omega
      have hc := Nat.zero_add 0
      repeat' (first | simp only [hc, SX, hlt, l1, h2', ZZ, simprocAttr, ↓reduceIte] | ((first | apply Za | apply Zb | apply Zc | apply Zd | apply Ze | apply Zf | apply Zg | apply Zh) <;> intro hc) | refine Zj ?_)
      all_goals simp [h3, DV.i]
    have h2' : ¬ (out.length : Int) < 2 := by omega
    by_cases h4 : 10 < out.length
    · have h3 : plF s = ([], 19) := plF_no (by rw [← hout]; simp [plOk]; omega)
      have h4' : (10 : Int) < out.length := by omega
      have hc := Nat.zero_add 0
      repeat' (first | simp only [hc, SX, hlt, l1, h2', h4', ZZ, simprocAttr, ↓reduceIte] | ((first | apply Za | apply Zb | apply Zc | apply Zd | apply Ze | apply Zf | apply Zg | apply Zh) <;> intro hc) | refine Zj ?_)
      all_goals simp [h3, DV.i]
    have h3 : plF s = (out, 0) := by rw [plF_yes (by rw [← hout]; simp [plOk, hall]; omega), hout]
    have h4' : ¬ (10 : Int) < out.length := by omega
    have hc := Nat.zero_add 0
    repeat' (first | simp only [hc, SX, hlt, l1, h2', h4', ZZ, simprocAttr, ↓reduceIte] | ((first | apply Za | apply Zb | apply Zc | apply Zd | apply Ze | apply Zf | apply Zg | apply Zh) <;> intro hc) | refine Zj ?_)
    all_goals simp [h3, DV.i]
  cases h
theorem zrfindW_ok : PureC Tryz.prog Gt 67 zrfindW_m := by
  refine pure_of_awp (X := ctx Tryz.prog Gt []) Tryz.func67 rfl rfl (by kernel_rfl) (by kernel_rfl) AllOk.nil.kok ?_
  intro args r h0
  obtain ⟨⟨⟨f, l⟩, n⟩, rfl, h⟩ := mE_inv h0
  refine ⟨Nat.le_of_ble_eq_true rfl, ?_⟩
  split at h
  · rename_i hl
    dsimp only at hl h
    cases h
    have hlen := hl.1
    have l1 := @lenZn l
    have hc := Nat.zero_add 0
    repeat' (first | simp only [hc, Tryz.f67, encZsN, SX, l1, ZZ, simprocAttr, ↓reduceIte] | ((first | apply Za | apply Zb | apply Zc | apply Zd | apply Ze | apply Zf | apply Zg | apply Zh) <;> intro hc) | refine Zj ?_)
    refine awp_loop (σ := Nat) (fun j => j ≤ l.length ∧ findZ (l.take j) n = none) (fun j => ⟨[(6, AV.i j), (0, AV.d (.sl f (l.map Zon.row))), (4, .v (.c (.ptr 0 0))), (1, AV.s n)], [.box [.d (.str []), .d (.sl true []), .d (.sl true []), .d (.int .i64 0), .d (.int .i64 0), .d (.int .i64 0), .d (.int .i64 0)]]⟩) (fun j => l.length - j) 0 (Wk.sub' (by simp [subT, look]) rfl) (by simp [findZ]) ?_
    rintro j ⟨hj, hout⟩
    by_cases hjl : j < l.length
    · have e1 := zn_at hjl
      have hlt : ((j : Int) < (l.length : Int)) = True := eq_true (by omega)
      have hw := wI (n := (j : Int) + 1) (by omega) (by omega)
      obtain ⟨h1, h2⟩ := findZ_take hjl hout
      generalize l[j] = z at *
      by_cases c3 : z.name = n
      · have h3 : findR id l n = [.agg z.row, .b true] := by unfold findR; rw [h1 c3]; rfl
        rw [h3]
        have c3' : (z.name == n) = true := by simpa using c3
        have hc := Nat.zero_add 0
        repeat' (first | simp only [hc, SX, l1, e1, hlt, nn, c3', ZZ, simprocAttr, ↓reduceIte] | ((first | apply Za | apply Zb | apply Zc | apply Zd | apply Ze | apply Zf | apply Zg | apply Zh) <;> intro hc) | refine Zj ?_)
        all_goals simp [Zon.row]
      have c3' : (z.name == n) = false := by simpa using c3
      have hc := Nat.zero_add 0
      repeat' (first | simp only [hc, SX, l1, e1, hlt, nn, hw, c3', ZZ, simprocAttr, ↓reduceIte] | ((first | apply Za | apply Zb | apply Zc | apply Zd | apply Ze | apply Zf | apply Zg | apply Zh) <;> intro hc) | refine Zj ?_)
      exact lp_next (j + 1) (Wk.sub' (by simp [subT, look]) rfl) ⟨by omega, h2 c3⟩ (by omega)
    have hlt : ((j : Int) < (l.length : Int)) = False := eq_false (by omega)
    have h3 : findR id l n = [.agg Zon.nil.row, .b false] := by unfold findR; rw [findZ_all hjl hout]
    rw [h3]
    have hc := Nat.zero_add 0
    repeat' (first | simp only [hc, SX, l1, hlt, ZZ, simprocAttr, ↓reduceIte] | ((first | apply Za | apply Zb | apply Zc | apply Zd | apply Ze | apply Zf | apply Zg | apply Zh) <;> intro hc) | refine Zj ?_)
    all_goals simp [Zon.row, Zon.nil]
  cases h
theorem rpnormW_at {s : List UInt8} (h : s.length ≤ 140737488351232) : rpnormW_m [.c (.str s)] = some [.c (.str (plF s).1), .i (plF s).2] := by rw [rpnormW_m, ms_eq]; exact if_pos (by simpa using h)
theorem zrfindW_at {f : Bool} {l : List Zon} {n : List UInt8} (h : zonesOkW l) : zrfindW_m [.c (.sl f (l.map Zon.row)), .c (.str n)] = some (findR id l n) := by
  have := mE_eq encZsN_inj (g := fun p => if zonesOkW p.1.2 then some (findR id p.1.2 p.2) else none) (a := ((f, l), n))
  exact this.trans (if_pos h)
theorem rofW_ok : PureC Tryz.prog Gt 80 rofW_m := by
  refine pure_of_awp (X := ctx Tryz.prog Gt [(67, zrfindW_m), (68, zrcheck_m)]) Tryz.func80 rfl rfl (by kernel_rfl) (by kernel_rfl) (AllOk.cons zrfindW_ok (AllOk.cons zrcheck_ok AllOk.nil)).kok ?_
  intro args r h0
  obtain ⟨⟨⟨kind, zone, plate, time, til⟩, f, l⟩, rfl, h⟩ := mE_inv h0
  refine ⟨Nat.le_of_ble_eq_true rfl, ?_⟩
  split at h
  · rename_i hl
    dsimp only at hl h
    cases h
    have f1 := zrfindW_at (f := f) (n := zone) hl
    have hok := @findZ_okW l zone hl
    cases hf : findZ l zone with
    | some z =>
      simp only [findR, hf, id] at f1
      have f2 := zrcheck_at (z := z) (by have := (hok hf).2; omega)
      simp only [Zon.row] at f1 f2
      simp only [ofR, hf, id]
      by_cases c1 : z.err = 0
      · rw [c1] at f2 ⊢
        have hc := Nat.zero_add 0
        repeat' (first | simp only [hc, Tryz.f80, encPZs, Par.row, SX, f1, f2, ZZ, simprocAttr, ↓reduceIte] | ((first | apply Za | apply Zb | apply Zc | apply Zd | apply Ze | apply Zf | apply Zg | apply Zh) <;> intro hc) | refine Zj ?_)
        all_goals simp [Zon.row]
      · rw [decide_eq_false c1]
        have hc := Nat.zero_add 0
        repeat' (first | simp only [hc, Tryz.f80, encPZs, Par.row, SX, f1, f2, c1, ZZ, simprocAttr, ↓reduceIte] | ((first | apply Za | apply Zb | apply Zc | apply Zd | apply Ze | apply Zf | apply Zg | apply Zh) <;> intro hc) | refine Zj ?_)
        all_goals simp [Zon.row, Zon.nil]
    | none =>
      simp only [findR, hf, Zon.row, Zon.nil] at f1
      simp only [ofR, hf]
      have hc := Nat.zero_add 0
      repeat' (first | simp only [hc, Tryz.f80, encPZs, Par.row, SX, f1, List.map_nil, ZZ, simprocAttr, ↓reduceIte] | ((first | apply Za | apply Zb | apply Zc | apply Zd | apply Ze | apply Zf | apply Zg | apply Zh) <;> intro hc) | refine Zj ?_)
      all_goals simp [Zon.row, Zon.nil]
  cases h
theorem rofW_at {p : Par} {f : Bool} {l : List Zon} (h : zonesOkW l) : rofW_m [.agg p.row, .c (.sl f (l.map Zon.row))] = some [.agg (if (ofR id l p.zone).2 = true then (ofR id l p.zone).1 else Zon.nil).row, .b (ofR id l p.zone).2] := by
  have := mE_eq encPZs_inj (g := fun p => if zonesOkW p.2.2 then some [.agg (if (ofR id p.2.2 p.1.zone).2 = true then (ofR id p.2.2 p.1.zone).1 else Zon.nil).row, .b (ofR id p.2.2 p.1.zone).2] else none) (a := (p, f, l))
  exact this.trans (if_pos h)
theorem r7checkW_ok : PureC Tryz.prog Gt 43 r7checkW_m := by
  refine pure_of_awp (X := ctx Tryz.prog Gt [(80, rofW_m), (69, rpnormW_m), (81, risTime_m)]) Tryz.func43 rfl rfl (by kernel_rfl) (by kernel_rfl) (AllOk.cons rofW_ok (AllOk.cons rpnormW_ok (AllOk.cons risTime_ok AllOk.nil))).kok ?_
  intro args r h0
  obtain ⟨⟨⟨kind, zone, plate, time, til⟩, f, l⟩, rfl, h⟩ := mE_inv h0
  refine ⟨Nat.le_of_ble_eq_true rfl, ?_⟩
  split at h
  · rename_i hl
    obtain ⟨hl, k1, k2, k3, k4, k5⟩ := hl
    dsimp only at hl h k1 k2 k3 k4 k5
    cases h
    have k1 := inI_iff.1 k1
    have k2 := inI_iff.1 k2
    have k3 := inI_iff.1 k3
    have f1 := rofW_at (p := ⟨kind, zone, plate, time, til⟩) (f := f) hl
    have f2 := rpnormW_at k5
    have hR : errP l ⟨kind, zone, plate, time, til⟩ = if kind < 1 ∨ 6 < kind then 1 else match findZ l zone with
      | none => 23
      | some z => if z.err ≠ 0 then 23 else if plateB plate = false then 19 else if isT time = false then 12 else if kind = 1 ∨ kind = 2 then (if til ≤ time ∨ 68719476736 < til then 12 else if kind = 1 ∧ z.stay ≠ 0 ∧ z.stay < til - time then 3 else 0)
  else if til ≠ 0 then 12 else 0 := rfl
    have hpl : plateB plate = decide ((plF plate).2 = 0 ∧ (plF plate).1 = plate) := rfl
    generalize errP _ _ = R at *
    generalize (plF plate).1 = q1 at *
    generalize (plF plate).2 = q2 at *
    by_cases c1 : kind < 1
    · rw [if_pos (.inl c1)] at hR
      have hc := Nat.zero_add 0
      repeat' (first | simp only [hc, Tryz.f43, encPZs, Par.row, SX, c1, ZZ, simprocAttr, ↓reduceIte] | ((first | apply Za | apply Zb | apply Zc | apply Zd | apply Ze | apply Zf | apply Zg | apply Zh) <;> intro hc) | refine Zj ?_)
      all_goals simp [hR, DV.i]
    by_cases c2 : 6 < kind
    · rw [if_pos (.inr c2)] at hR
      have hc := Nat.zero_add 0
      repeat' (first | simp only [hc, Tryz.f43, encPZs, Par.row, SX, c1, c2, ZZ, simprocAttr, ↓reduceIte] | ((first | apply Za | apply Zb | apply Zc | apply Zd | apply Ze | apply Zf | apply Zg | apply Zh) <;> intro hc) | refine Zj ?_)
      all_goals simp [hR, DV.i]
    rw [if_neg (by omega)] at hR
    cases hf : findZ l zone with
    | none =>
      simp only [ofR, hf, Zon.row, Zon.nil, Par.row, id] at f1 hR
      have hc := Nat.zero_add 0
      repeat' (first | simp only [hc, Tryz.f43, encPZs, Par.row, SX, c1, c2, f1, List.map_nil, ZZ, simprocAttr, ↓reduceIte] | ((first | apply Za | apply Zb | apply Zc | apply Zd | apply Ze | apply Zf | apply Zg | apply Zh) <;> intro hc) | refine Zj ?_)
      all_goals simp [hR, DV.i]
    | some z =>
      simp only [ofR, hf, id] at f1 hR
      have hst := @err_stay z
      by_cases c3 : z.err ≠ 0
      · rw [if_pos c3] at hR
        rw [decide_eq_false c3] at f1
        simp only [Zon.row, Par.row, Zon.nil, Bool.false_eq_true, if_false] at f1
        have hc := Nat.zero_add 0
        repeat' (first | simp only [hc, Tryz.f43, encPZs, Par.row, SX, c1, c2, f1, List.map_nil, ZZ, simprocAttr, ↓reduceIte] | ((first | apply Za | apply Zb | apply Zc | apply Zd | apply Ze | apply Zf | apply Zg | apply Zh) <;> intro hc) | refine Zj ?_)
        all_goals simp [hR, DV.i]
      rw [if_neg c3] at hR
      have c3 : z.err = 0 := by simpa using c3
      rw [decide_eq_true c3] at f1
      simp only [Zon.row, Par.row, if_true] at f1
      have hst := hst c3
      by_cases c4 : q2 ≠ 0
      · rw [if_pos (by rw [hpl]; simp [c4])] at hR
        have hc := Nat.zero_add 0
        repeat' (first | simp only [hc, Tryz.f43, encPZs, Par.row, SX, c1, c2, f1, f2, c4, ZZ, simprocAttr, ↓reduceIte] | ((first | apply Za | apply Zb | apply Zc | apply Zd | apply Ze | apply Zf | apply Zg | apply Zh) <;> intro hc) | refine Zj ?_)
        all_goals simp [hR, DV.i]
      have c4 : q2 = 0 := by simpa using c4
      subst c4
      by_cases c5 : q1 ≠ plate
      · rw [if_pos (by rw [hpl]; simp [c5])] at hR
        have c5' : (q1 == plate) = false := by simpa using c5
        have hc := Nat.zero_add 0
        repeat' (first | simp only [hc, Tryz.f43, encPZs, Par.row, SX, c1, c2, f1, f2, c5', bne, ZZ, simprocAttr, ↓reduceIte] | ((first | apply Za | apply Zb | apply Zc | apply Zd | apply Ze | apply Zf | apply Zg | apply Zh) <;> intro hc) | refine Zj ?_)
        all_goals simp [hR, DV.i]
      have c5 : q1 = plate := by simpa using c5
      subst c5
      rw [if_neg (by rw [hpl]; simp)] at hR
      have c5' : (q1 == q1) = true := by simp
      by_cases c6 : isT time = false
      · rw [if_pos c6] at hR
        have hc := Nat.zero_add 0
        repeat' (first | simp only [hc, Tryz.f43, encPZs, Par.row, SX, c1, c2, f1, f2, c5', bne, ristime_at, c6, ZZ, simprocAttr, ↓reduceIte] | ((first | apply Za | apply Zb | apply Zc | apply Zd | apply Ze | apply Zf | apply Zg | apply Zh) <;> intro hc) | refine Zj ?_)
        all_goals simp [hR, DV.i]
      have c6 : isT time = true := by simpa using c6
      rw [if_neg (by simp [c6])] at hR
      have c7 : 0 ≤ time ∧ time < 68719476736 := by simpa [isT] using c6
      have hw : til ≤ 68719476736 → time < til → IntKind.i64.wrap (til - time) = til - time := fun a b => wI (by omega) (by omega)
      generalize z.stay = stay at *
      by_cases d1 : kind = 1
      · subst d1
        by_cases d3 : til ≤ time
        · have hR : R = 12 := by rw [hR]; simp [d3]
          have hc := Nat.zero_add 0
          repeat' (first | simp only [hc, Tryz.f43, encPZs, Par.row, SX, c1, c2, f1, f2, c5', bne, ristime_at, c6, d3, ZZ, simprocAttr, ↓reduceIte] | ((first | apply Za | apply Zb | apply Zc | apply Zd | apply Ze | apply Zf | apply Zg | apply Zh) <;> intro hc) | refine Zj ?_)
          all_goals simp [hR, DV.i]
        by_cases d4 : 68719476736 < til
        · have hR : R = 12 := by rw [hR]; simp [d4]
          have hc := Nat.zero_add 0
          repeat' (first | simp only [hc, Tryz.f43, encPZs, Par.row, SX, c1, c2, f1, f2, c5', bne, ristime_at, c6, d3, d4, ZZ, simprocAttr, ↓reduceIte] | ((first | apply Za | apply Zb | apply Zc | apply Zd | apply Ze | apply Zf | apply Zg | apply Zh) <;> intro hc) | refine Zj ?_)
          all_goals simp [hR, DV.i]
        have hw := hw (by omega) (by omega)
        have hR : R = if stay ≠ 0 ∧ stay < til - time then 3 else 0 := by rw [hR]; simp [d3, d4]
        have hc := Nat.zero_add 0
        repeat' (first | simp only [hc, Tryz.f43, encPZs, Par.row, SX, c1, c2, f1, f2, c5', bne, ristime_at, c6, d3, d4, hw, ZZ, simprocAttr, ↓reduceIte] | ((first | apply Za | apply Zb | apply Zc | apply Zd | apply Ze | apply Zf | apply Zg | apply Zh) <;> intro hc) | refine Zj ?_)
        all_goals (rw [hR]; split <;> first | rfl | (exfalso; omega))
      by_cases d2 : kind = 2
      · subst d2
        by_cases d3 : til ≤ time
        · have hR : R = 12 := by rw [hR]; simp [d3]
          have hc := Nat.zero_add 0
          repeat' (first | simp only [hc, Tryz.f43, encPZs, Par.row, SX, c1, c2, f1, f2, c5', bne, ristime_at, c6, d3, ZZ, simprocAttr, ↓reduceIte] | ((first | apply Za | apply Zb | apply Zc | apply Zd | apply Ze | apply Zf | apply Zg | apply Zh) <;> intro hc) | refine Zj ?_)
          all_goals simp [hR, DV.i]
        by_cases d4 : 68719476736 < til
        · have hR : R = 12 := by rw [hR]; simp [d4]
          have hc := Nat.zero_add 0
          repeat' (first | simp only [hc, Tryz.f43, encPZs, Par.row, SX, c1, c2, f1, f2, c5', bne, ristime_at, c6, d3, d4, ZZ, simprocAttr, ↓reduceIte] | ((first | apply Za | apply Zb | apply Zc | apply Zd | apply Ze | apply Zf | apply Zg | apply Zh) <;> intro hc) | refine Zj ?_)
          all_goals simp [hR, DV.i]
        have hR : R = 0 := by rw [hR]; simp [d3, d4]
        have hc := Nat.zero_add 0
        repeat' (first | simp only [hc, Tryz.f43, encPZs, Par.row, SX, c1, c2, f1, f2, c5', bne, ristime_at, c6, d3, d4, ZZ, simprocAttr, ↓reduceIte] | ((first | apply Za | apply Zb | apply Zc | apply Zd | apply Ze | apply Zf | apply Zg | apply Zh) <;> intro hc) | refine Zj ?_)
        all_goals simp [hR, DV.i]
      have hR : R = if til ≠ 0 then 12 else 0 := by rw [hR]; simp [d1, d2]
      have hc := Nat.zero_add 0
      repeat' (first | simp only [hc, Tryz.f43, encPZs, Par.row, SX, c1, c2, f1, f2, c5', bne, ristime_at, c6, d1, d2, ZZ, simprocAttr, ↓reduceIte] | ((first | apply Za | apply Zb | apply Zc | apply Zd | apply Ze | apply Zf | apply Zg | apply Zh) <;> intro hc) | refine Zj ?_)
      all_goals (rw [hR]; split <;> first | rfl | (exfalso; omega))
  cases h
end
end Go.Ab
