/-
  Texts of the layer and of the laws, put together: AbU3.
-/
import Derived.Test.YtdoofgbeajkpaaaGreatDoorAbWC23
set_option linter.unusedSimpArgs false
set_option linter.unusedVariables false
set_option maxRecDepth 100000
namespace Go.Ab
open Go.RowKit Go.Proofs
theorem all_next {α : Type} {l : List α} {p : α → Bool} {j : Nat} (hj : j < l.length) (h : (l.take j).all p = true) (hx : p l[j] = true) : (l.take (j + 1)).all p = true := by
  rw [List.take_succ_eq_append_getElem hj, List.all_append, h]
  simp [hx]
theorem all_bad {α : Type} {l : List α} {p : α → Bool} {j : Nat} (hj : j < l.length) (hx : p l[j] = false) : l.all p = false := by
  rw [List.all_eq_false]
  exact ⟨_, List.getElem_mem hj, by simp [hx]⟩
def Zon.tl (z : Zon) : Int :=
  if btwB z.grace 0 68719476736 = false ∨ btwB z.free 0 68719476736 = false ∨ btwB z.stay 0 68719476736 = false then 12
  else if btwB z.dmax 0 1125899906842624 = false then 13 else 0
theorem Zon.err_eq (z : Zon) : z.err = if nameB z.name = false then 6 else if 32 < z.hrs.length then 3 else if z.hrs.all Win.ok = false then 12 else if stsF z.sts ≠ 0 then stsF z.sts else z.tl := rfl
noncomputable section
open Classical
def zcheck_m : List PA → Option (List PA) := mE encZ fun z => if decide (z.sts.length ≤ 9223372036854775807) = true then some [.i z.err] else none
theorem tname_at {s : List UInt8} : tname_m [.c (.str s)] = some [.b (nameB s)] := rfl
theorem zcheck_ok : PureC Tryz.prog Gt 65 zcheck_m := by
  refine pure_of_awp (X := ctx Tryz.prog Gt [(111, tname_m), (96, zvalid_m), (112, zsteps_m), (50, zwithin_m)]) Tryz.func65 rfl rfl (by kernel_rfl) (by kernel_rfl) (AllOk.cons tname_ok (AllOk.cons zvalid_ok (AllOk.cons zsteps_ok (AllOk.cons zwithin_ok AllOk.nil)))).kok ?_
  intro args r h0
  obtain ⟨⟨name, hf, hrs, sf, sts, grace, free, dmax, stay⟩, rfl, h⟩ := mE_inv h0
  refine ⟨Nat.le_of_ble_eq_true rfl, ?_⟩
  split at h
  · rename_i hl
    have hl := of_decide_eq_true hl
    dsimp only at hl h
    cases h
    have l1 := @lenWn hrs
    have hC := Zon.err_eq ⟨name, hf, hrs, sf, sts, grace, free, dmax, stay⟩
    have hT : Zon.tl ⟨name, hf, hrs, sf, sts, grace, free, dmax, stay⟩ = if btwB grace 0 68719476736 = false ∨ btwB free 0 68719476736 = false ∨ btwB stay 0 68719476736 = false then 12
  else if btwB dmax 0 1125899906842624 = false then 13 else 0 := rfl
    have f2 := zsteps_at (f := sf) hl
    dsimp only at hC
    generalize Zon.err _ = R at *
    generalize Zon.tl _ = T at *
    generalize stsF sts = st at *
    generalize ha : btwB grace 0 68719476736 = a at *
    generalize hb : btwB free 0 68719476736 = b at *
    generalize hd : btwB stay 0 68719476736 = d at *
    generalize he : btwB dmax 0 1125899906842624 = e at *
    by_cases c1 : nameB name = false
    · rw [if_pos c1] at hC
      have hc := Nat.zero_add 0
      repeat' (first | simp only [hc, Tryz.f65, encZ, Zon.row, SX, l1, tname_at, c1, ZZ, simprocAttr, ↓reduceIte, ZF, ZE, ZN, ZI, ZB] | ((first | apply Za | apply Zb | apply Zc | apply Zd | apply Ze | apply Zf | apply Zg | apply Zh) <;> intro hc) | refine Zj ?_)
      all_goals simp [hC, DV.i]
    have c1 : nameB name = true := by simpa using c1
    rw [if_neg (by simp [c1])] at hC
    by_cases c2 : 32 < hrs.length
    · rw [if_pos c2] at hC
      have c2' : (32 : Int) < hrs.length := by omega
      have hc := Nat.zero_add 0
      repeat' (first | simp only [hc, Tryz.f65, encZ, Zon.row, SX, l1, tname_at, c1, c2', ZZ, simprocAttr, ↓reduceIte, ZF, ZE, ZN, ZI, ZB] | ((first | apply Za | apply Zb | apply Zc | apply Zd | apply Ze | apply Zf | apply Zg | apply Zh) <;> intro hc) | refine Zj ?_)
      all_goals simp [hC, DV.i]
    rw [if_neg c2] at hC
    have c2' : ¬ ((32 : Int) < hrs.length) := by omega
    have hc := Nat.zero_add 0
    repeat' (first | simp only [hc, Tryz.f65, encZ, Zon.row, SX, l1, tname_at, c1, c2', ZZ, simprocAttr, ↓reduceIte, ZF, ZE, ZN, ZI, ZB] | ((first | apply Za | apply Zb | apply Zc | apply Zd | apply Ze | apply Zf | apply Zg | apply Zh) <;> intro hc) | refine Zj ?_)
    refine awp_loop (σ := Nat) (fun j => j ≤ hrs.length ∧ (hrs.take j).all Win.ok = true) (fun j => ⟨[(17, AV.i j), (16, AV.i hrs.length), (15, AV.d (.sl hf (hrs.map Win.row))), (1, .v (.c (.ptr 0 0)))], [.box [.d (.str name), .d (.sl hf (hrs.map Win.row)), .d (.sl sf (sts.map Stf.row)), .d (.int .i64 grace), .d (.int .i64 free), .d (.int .i64 dmax), .d (.int .i64 stay)]]⟩) (fun j => hrs.length - j) 0 (Wk.sub' (by simp [subT, look]) rfl) (by simp) ?_
    rintro j ⟨hj, hall⟩
    by_cases hjl : j < hrs.length
    · have e1 := wn_at hjl
      have hlt : ((j : Int) < (hrs.length : Int)) = True := eq_true (by omega)
      have hw := wI (n := (j : Int) + 1) (by omega) (by omega)
      have h1 := all_next (p := Win.ok) hjl hall
      have h2 := all_bad (p := Win.ok) hjl
      have hv : Win.ok hrs[j] = validB hrs[j].d hrs[j].f hrs[j].t := rfl
      rw [hv] at h1 h2
      generalize hrs[j] = x at *
      by_cases c3 : validB x.d x.f x.t = true
      · skip
        have hc := Nat.zero_add 0
        repeat' (first | simp only [hc, SX, l1, e1, hlt, nn, hw, zvalid_at, c3, ZZ, simprocAttr, ↓reduceIte, ZF, ZE, ZN, ZI, ZB] | ((first | apply Za | apply Zb | apply Zc | apply Zd | apply Ze | apply Zf | apply Zg | apply Zh) <;> intro hc) | refine Zj ?_)
        exact lp_next (j + 1) (Wk.cutk (k := 1) (by simp) (by simp) (by simp) (by simp [subT, look]) (by simp [AV.low, V.low, C1.low]) (by simp [Ob.low, C1.low])) ⟨by omega, h1 c3⟩ (by omega)
      rw [if_pos (h2 (by simpa using c3))] at hC
      have hc := Nat.zero_add 0
      repeat' (first | simp only [hc, SX, l1, e1, hlt, nn, hw, zvalid_at, c3, ZZ, simprocAttr, ↓reduceIte, ZF, ZE, ZN, ZI, ZB] | ((first | apply Za | apply Zb | apply Zc | apply Zd | apply Ze | apply Zf | apply Zg | apply Zh) <;> intro hc) | refine Zj ?_)
      all_goals simp [hC, DV.i]
    have hlt : ((j : Int) < (hrs.length : Int)) = False := eq_false (by omega)
    rw [List.take_of_length_le (by omega)] at hall
    rw [if_neg (by simpa using hall)] at hC
    by_cases c4 : st = 0
    · rw [if_neg (by simpa using c4)] at hC
      rw [c4] at f2
      have hc := Nat.zero_add 0
      repeat' (first | simp only [hc, SX, l1, hlt, f2, zwithin_at, ha, hb, hd, he, ZZ, simprocAttr, ↓reduceIte, ZF, ZE, ZN, ZI, ZB] | ((first | apply Za | apply Zb | apply Zc | apply Zd | apply Ze | apply Zf | apply Zg | apply Zh) <;> intro hc) | refine Zj ?_)
      all_goals (simp_all [DV.i]; done)
    rw [if_pos c4] at hC
    have hc := Nat.zero_add 0
    repeat' (first | simp only [hc, SX, l1, hlt, f2, c4, ZZ, simprocAttr, ↓reduceIte, ZF, ZE, ZN, ZI, ZB] | ((first | apply Za | apply Zb | apply Zc | apply Zd | apply Ze | apply Zf | apply Zg | apply Zh) <;> intro hc) | refine Zj ?_)
    all_goals simp [hC, DV.i]
  cases h
end
end Go.Ab
