/-
  Texts of the layer and of the laws, put together: AbU3.
-/
import Derived.Test.YtdoofgbeajkpaaaGreatDoorAbWP23
set_option linter.unusedSimpArgs false
set_option linter.unusedVariables false
set_option maxRecDepth 100000
namespace Go.Ab
open Go.RowKit Go.Proofs
theorem all_next {α : Type} {l : List α} {p : α → Bool} {j : Nat} (hj : j < l.length) (h : (l.take j).all p = true) (hx : p l[j] = true) : (l.take (j + 1)).all p = true := by
  rw [List.take_succ_eq_append_getElem hj, List.all_append, h]
  simp [hx]
theorem all_bad {α : Type} {l : List α} {p : α → Bool} {j : Nat} (hj : j < l.length) (hx : p l[j] = false) : l.all p = false := by
  rw [List.all_eq_false]
  exact ⟨_, List.getElem_mem hj, by simp [hx]⟩
def Zon.tl (z : Zon) : Int :=
  if btwB z.grace 0 68719476736 = false ∨ btwB z.free 0 68719476736 = false ∨ btwB z.stay 0 68719476736 = false then 12
  else if btwB z.dmax 0 1125899906842624 = false then 13 else 0
theorem Zon.err_eq (z : Zon) : z.err = if nameB z.name = false then 6 else if 32 < z.hrs.length then 3 else if z.hrs.all Win.ok = false then 12 else if stsF z.sts ≠ 0 then stsF z.sts else z.tl := rfl
noncomputable section
open Classical
def zcheck_m : List PA → Option (List PA) := mE encZ fun z => if decide (z.sts.length ≤ 9223372036854775807) = true then some [.i z.err] else none
def zrcheck_m : List PA → Option (List PA) := mE encZ fun z => if decide (z.sts.length ≤ 9223372036854775807) = true then some [.i z.err] else none
theorem tname_at {s : List UInt8} : tname_m [.c (.str s)] = some [.b (nameB s)] := rfl
theorem zrname_at {s : List UInt8} : zrname_m [.c (.str s)] = some [.b (nameB s)] := rfl
theorem zrstep_at {f : Bool} {l : List Stf} {j : Nat} (h : l.length ≤ 16) (hj : j < l.length) : zrstep_m [.c (.sl f (l.map Stf.row)), .c (.int .i64 j)] = some [.i (stF (prevU l j) l[j] (decide (j + 1 = l.length)))] := by
  have := mE_eq encStI_inj (g := fun p => if decide (p.1.2.length ≤ 16 ∧ 0 ≤ p.2) = true then (match p.1.2[p.2.toNat]? with | some s => some [.i (stF (prevU p.1.2 p.2.toNat) s (decide (p.2.toNat + 1 = p.1.2.length)))] | none => none) else none) (a := ((f, l), (j : Int)))
  rw [show zrstep_m = mE encStI _ from rfl]
  simp only [encStI] at this
  refine this.trans ?_
  rw [if_pos (by simpa using h)]
  simp [hj]
theorem zcheck_ok : PureC Tryz.prog Gt 65 zcheck_m := by
  refine pure_of_awp (X := ctx Tryz.prog Gt [(111, tname_m), (96, zvalid_m), (112, zsteps_m), (50, zwithin_m)]) Tryz.func65 rfl rfl (by kernel_rfl) (by kernel_rfl) (AllOk.cons tname_ok (AllOk.cons zvalid_ok (AllOk.cons zsteps_ok (AllOk.cons zwithin_ok AllOk.nil)))).kok ?_
  intro args r h0
  obtain ⟨⟨name, hf, hrs, sf, sts, grace, free, dmax, stay⟩, rfl, h⟩ := mE_inv h0
  refine ⟨Nat.le_of_ble_eq_true rfl, ?_⟩
  split at h
  · rename_i hl
    have hl := of_decide_eq_true hl
    dsimp only at hl h
    cases h
    have l1 := @lenWn hrs
    have hC := Zon.err_eq ⟨name, hf, hrs, sf, sts, grace, free, dmax, stay⟩
    have hT : Zon.tl ⟨name, hf, hrs, sf, sts, grace, free, dmax, stay⟩ = if btwB grace 0 68719476736 = false ∨ btwB free 0 68719476736 = false ∨ btwB stay 0 68719476736 = false then 12
  else if btwB dmax 0 1125899906842624 = false then 13 else 0 := rfl
    have f2 := zsteps_at (f := sf) hl
    dsimp only at hC
    generalize Zon.err _ = R at *
    generalize Zon.tl _ = T at *
    generalize stsF sts = st at *
    generalize ha : btwB grace 0 68719476736 = a at *
    generalize hb : btwB free 0 68719476736 = b at *
    generalize hd : btwB stay 0 68719476736 = d at *
    generalize he : btwB dmax 0 1125899906842624 = e at *
    by_cases c1 : nameB name = false
    · rw [if_pos c1] at hC
      have hc := Nat.zero_add 0
      repeat' (first | simp only [hc, Tryz.f65, encZ, Zon.row, SX, l1, tname_at, c1, ZZ, simprocAttr, ↓reduceIte] | ((first | apply Za | apply Zb | apply Zc | apply Zd | apply Ze | apply Zf | apply Zg | apply Zh) <;> intro hc) | refine Zj ?_)
      all_goals simp [hC, DV.i]
    have c1 : nameB name = true := by simpa using c1
    rw [if_neg (by simp [c1])] at hC
    by_cases c2 : 32 < hrs.length
    · rw [if_pos c2] at hC
      have c2' : (32 : Int) < hrs.length := by omega
      have hc := Nat.zero_add 0
      repeat' (first | simp only [hc, Tryz.f65, encZ, Zon.row, SX, l1, tname_at, c1, c2', ZZ, simprocAttr, ↓reduceIte] | ((first | apply Za | apply Zb | apply Zc | apply Zd | apply Ze | apply Zf | apply Zg | apply Zh) <;> intro hc) | refine Zj ?_)
      all_goals simp [hC, DV.i]
    rw [if_neg c2] at hC
    have c2' : ¬ ((32 : Int) < hrs.length) := by omega
    have hc := Nat.zero_add 0
    repeat' (first | simp only [hc, Tryz.f65, encZ, Zon.row, SX, l1, tname_at, c1, c2', ZZ, simprocAttr, ↓reduceIte] | ((first | apply Za | apply Zb | apply Zc | apply Zd | apply Ze | apply Zf | apply Zg | apply Zh) <;> intro hc) | refine Zj ?_)
    refine awp_loop (σ := Nat) (fun j => j ≤ hrs.length ∧ (hrs.take j).all Win.ok = true) (fun j => ⟨[(17, AV.i j), (16, AV.i hrs.length), (15, AV.d (.sl hf (hrs.map Win.row))), (1, .v (.c (.ptr 0 0)))], [.box [.d (.str name), .d (.sl hf (hrs.map Win.row)), .d (.sl sf (sts.map Stf.row)), .d (.int .i64 grace), .d (.int .i64 free), .d (.int .i64 dmax), .d (.int .i64 stay)]]⟩) (fun j => hrs.length - j) 0 (Wk.sub' (by simp [subT, look]) rfl) (by simp) ?_
    rintro j ⟨hj, hall⟩
    by_cases hjl : j < hrs.length
    · have e1 := wn_at hjl
      have hlt : ((j : Int) < (hrs.length : Int)) = True := eq_true (by omega)
      have hw := wI (n := (j : Int) + 1) (by omega) (by omega)
      have h1 := all_next (p := Win.ok) hjl hall
      have h2 := all_bad (p := Win.ok) hjl
      have hv : Win.ok hrs[j] = validB hrs[j].d hrs[j].f hrs[j].t := rfl
      rw [hv] at h1 h2
      generalize hrs[j] = x at *
      by_cases c3 : validB x.d x.f x.t = true
      · skip
        have hc := Nat.zero_add 0
        repeat' (first | simp only [hc, SX, l1, e1, hlt, nn, hw, zvalid_at, c3, ZZ, simprocAttr, ↓reduceIte] | ((first | apply Za | apply Zb | apply Zc | apply Zd | apply Ze | apply Zf | apply Zg | apply Zh) <;> intro hc) | refine Zj ?_)
        exact lp_next (j + 1) (Wk.cutk (k := 1) (by simp) (by simp) (by simp) (by simp [subT, look]) (by simp [AV.low, V.low, C1.low]) (by simp [Ob.low, C1.low])) ⟨by omega, h1 c3⟩ (by omega)
      rw [if_pos (h2 (by simpa using c3))] at hC
      have hc := Nat.zero_add 0
      repeat' (first | simp only [hc, SX, l1, e1, hlt, nn, hw, zvalid_at, c3, ZZ, simprocAttr, ↓reduceIte] | ((first | apply Za | apply Zb | apply Zc | apply Zd | apply Ze | apply Zf | apply Zg | apply Zh) <;> intro hc) | refine Zj ?_)
      all_goals simp [hC, DV.i]
    have hlt : ((j : Int) < (hrs.length : Int)) = False := eq_false (by omega)
    rw [List.take_of_length_le (by omega)] at hall
    rw [if_neg (by simpa using hall)] at hC
    by_cases c4 : st = 0
    · rw [if_neg (by simpa using c4)] at hC
      rw [c4] at f2
      have hc := Nat.zero_add 0
      repeat' (first | simp only [hc, SX, l1, hlt, f2, zwithin_at, ha, hb, hd, he, ZZ, simprocAttr, ↓reduceIte] | ((first | apply Za | apply Zb | apply Zc | apply Zd | apply Ze | apply Zf | apply Zg | apply Zh) <;> intro hc) | refine Zj ?_)
      all_goals (simp_all [DV.i]; done)
    rw [if_pos c4] at hC
    have hc := Nat.zero_add 0
    repeat' (first | simp only [hc, SX, l1, hlt, f2, c4, ZZ, simprocAttr, ↓reduceIte] | ((first | apply Za | apply Zb | apply Zc | apply Zd | apply Ze | apply Zf | apply Zg | apply Zh) <;> intro hc) | refine Zj ?_)
    all_goals simp [hC, DV.i]
  cases h
theorem zrcheck_ok : PureC Tryz.prog Gt 68 zrcheck_m := by
  refine pure_of_awp (X := ctx Tryz.prog Gt [(76, zrname_m), (79, zrwin_m), (113, zrstep_m)]) Tryz.func68 rfl rfl (by kernel_rfl) (by kernel_rfl) (AllOk.cons zrname_ok (AllOk.cons zrwin_ok (AllOk.cons zrstep_ok AllOk.nil))).kok ?_
  intro args r h0
  obtain ⟨⟨name, hf, hrs, sf, sts, grace, free, dmax, stay⟩, rfl, h⟩ := mE_inv h0
  refine ⟨Nat.le_of_ble_eq_true rfl, ?_⟩
  split at h
  · rename_i hl
    have hl := of_decide_eq_true hl
    dsimp only at hl h
    cases h
    have l1 := @lenWn hrs
    have l2 := @lenSt sts
    have hC := Zon.err_eq ⟨name, hf, hrs, sf, sts, grace, free, dmax, stay⟩
    have hT : Zon.tl ⟨name, hf, hrs, sf, sts, grace, free, dmax, stay⟩ = if (grace < 0 ∨ 68719476736 < grace) ∨ (free < 0 ∨ 68719476736 < free) ∨ (stay < 0 ∨ 68719476736 < stay) then 12
      else if dmax < 0 ∨ 1125899906842624 < dmax then 13 else 0 := by
      simp only [Zon.tl, btwB, decide_eq_false_iff_not, Decidable.not_and_iff_or_not, Int.not_le]
    dsimp only at hC
    generalize Zon.err _ = R at *
    generalize Zon.tl _ = T at *
    by_cases c1 : nameB name = false
    · rw [if_pos c1] at hC
      have hc := Nat.zero_add 0
      repeat' (first | simp only [hc, Tryz.f68, encZ, Zon.row, SX, l1, zrname_at, c1, ZZ, simprocAttr, ↓reduceIte] | ((first | apply Za | apply Zb | apply Zc | apply Zd | apply Ze | apply Zf | apply Zg | apply Zh) <;> intro hc) | refine Zj ?_)
      all_goals simp [hC, DV.i]
    have c1 : nameB name = true := by simpa using c1
    rw [if_neg (by simp [c1])] at hC
    by_cases c2 : 32 < hrs.length
    · rw [if_pos c2] at hC
      have c2' : (32 : Int) < hrs.length := by omega
      have hc := Nat.zero_add 0
      repeat' (first | simp only [hc, Tryz.f68, encZ, Zon.row, SX, l1, zrname_at, c1, c2', ZZ, simprocAttr, ↓reduceIte] | ((first | apply Za | apply Zb | apply Zc | apply Zd | apply Ze | apply Zf | apply Zg | apply Zh) <;> intro hc) | refine Zj ?_)
      all_goals simp [hC, DV.i]
    rw [if_neg c2] at hC
    have c2' : ¬ ((32 : Int) < hrs.length) := by omega
    have hc := Nat.zero_add 0
    repeat' (first | simp only [hc, Tryz.f68, encZ, Zon.row, SX, l1, zrname_at, c1, c2', ZZ, simprocAttr, ↓reduceIte] | ((first | apply Za | apply Zb | apply Zc | apply Zd | apply Ze | apply Zf | apply Zg | apply Zh) <;> intro hc) | refine Zj ?_)
    refine awp_loop (σ := Nat) (fun j => j ≤ hrs.length ∧ (hrs.take j).all Win.ok = true) (fun j => ⟨[(3, AV.i j), (1, .v (.c (.ptr 0 0)))], [.box [.d (.str name), .d (.sl hf (hrs.map Win.row)), .d (.sl sf (sts.map Stf.row)), .d (.int .i64 grace), .d (.int .i64 free), .d (.int .i64 dmax), .d (.int .i64 stay)]]⟩) (fun j => hrs.length - j) 0 (Wk.sub' (by simp [subT, look]) rfl) (by simp) ?_
    rintro j ⟨hj, hall⟩
    by_cases hjl : j < hrs.length
    · have e1 := wn_at hjl
      have hlt : ((j : Int) < (hrs.length : Int)) = True := eq_true (by omega)
      have hw := wI (n := (j : Int) + 1) (by omega) (by omega)
      have h1 := all_next (p := Win.ok) hjl hall
      have h2 := all_bad (p := Win.ok) hjl
      have hv : Win.ok hrs[j] = validB hrs[j].d hrs[j].f hrs[j].t := rfl
      rw [hv] at h1 h2
      generalize hrs[j] = x at *
      by_cases c3 : validB x.d x.f x.t = true
      · skip
        have hc := Nat.zero_add 0
        repeat' (first | simp only [hc, SX, l1, e1, hlt, nn, hw, zrwin_at, c3, ZZ, simprocAttr, ↓reduceIte] | ((first | apply Za | apply Zb | apply Zc | apply Zd | apply Ze | apply Zf | apply Zg | apply Zh) <;> intro hc) | refine Zj ?_)
        exact lp_next (j + 1) (Wk.sub' (by simp [subT, look]) rfl) ⟨by omega, h1 c3⟩ (by omega)
      rw [if_pos (h2 (by simpa using c3))] at hC
      have hc := Nat.zero_add 0
      repeat' (first | simp only [hc, SX, l1, e1, hlt, nn, hw, zrwin_at, c3, ZZ, simprocAttr, ↓reduceIte] | ((first | apply Za | apply Zb | apply Zc | apply Zd | apply Ze | apply Zf | apply Zg | apply Zh) <;> intro hc) | refine Zj ?_)
      all_goals simp [hC, DV.i]
    have hlt : ((j : Int) < (hrs.length : Int)) = False := eq_false (by omega)
    rw [List.take_of_length_le (by omega)] at hall
    rw [if_neg (by simpa using hall)] at hC
    by_cases d1 : 16 < sts.length
    · have d1' : (16 : Int) < sts.length := by omega
      rw [show stsF sts = 3 from if_pos d1] at hC
      have hc := Nat.zero_add 0
      repeat' (first | simp only [hc, SX, l1, l2, hlt, d1', ZZ, simprocAttr, ↓reduceIte] | ((first | apply Za | apply Zb | apply Zc | apply Zd | apply Ze | apply Zf | apply Zg | apply Zh) <;> intro hc) | refine Zj ?_)
      all_goals simp [hC, DV.i]
    have d1' : ¬ (16 : Int) < sts.length := by omega
    by_cases d2 : sts.length = 0
    · have d2' : (sts.length : Int) = 0 := by omega
      rw [show stsF sts = 1 by unfold stsF; rw [if_neg d1, if_pos d2]] at hC
      have hc := Nat.zero_add 0
      repeat' (first | simp only [hc, SX, l1, l2, hlt, d1', d2', ZZ, simprocAttr, ↓reduceIte] | ((first | apply Za | apply Zb | apply Zc | apply Zd | apply Ze | apply Zf | apply Zg | apply Zh) <;> intro hc) | refine Zj ?_)
      all_goals simp [hC, DV.i]
    have d2' : ¬ (sts.length : Int) = 0 := by omega
    rw [show stsF sts = stsG none sts by unfold stsF; rw [if_neg d1, if_neg d2]] at hC
    have hc := Nat.zero_add 0
    repeat' (first | simp only [hc, SX, l1, l2, hlt, d1', d2', ZZ, simprocAttr, ↓reduceIte] | ((first | apply Za | apply Zb | apply Zc | apply Zd | apply Ze | apply Zf | apply Zg | apply Zh) <;> intro hc) | refine Zj ?_)
    generalize hS : stsG none sts = S at *
    refine awp_loop (σ := Nat) (fun k => k ≤ sts.length ∧ S = stsG (prevU sts k) (sts.drop k)) (fun k => ⟨[(4, AV.i k), (1, .v (.c (.ptr 0 0)))], [.box [.d (.str name), .d (.sl hf (hrs.map Win.row)), .d (.sl sf (sts.map Stf.row)), .d (.int .i64 grace), .d (.int .i64 free), .d (.int .i64 dmax), .d (.int .i64 stay)]]⟩) (fun k => sts.length - k) 0 (Wk.sub' (by simp [subT, look]) rfl) (by simp [prevU, hS]) ?_
    rintro k ⟨hk, hout⟩
    by_cases hkl : k < sts.length
    · have hlt : ((k : Int) < (sts.length : Int)) = True := eq_true (by omega)
      have hw := wI (n := (k : Int) + 1) (by omega) (by omega)
      have f2 := zrstep_at (f := sf) (by omega) hkl
      rw [stsG_drop hkl] at hout
      generalize stF (prevU sts k) sts[k] (decide (k + 1 = sts.length)) = u at *
      by_cases c5 : u = 0
      · rw [c5] at f2
        rw [if_neg (by simpa using c5)] at hout
        have hc := Nat.zero_add 0
        repeat' (first | simp only [hc, SX, l2, hlt, nn, hw, f2, ZZ, simprocAttr, ↓reduceIte] | ((first | apply Za | apply Zb | apply Zc | apply Zd | apply Ze | apply Zf | apply Zg | apply Zh) <;> intro hc) | refine Zj ?_)
        exact lp_next (k + 1) (Wk.sub' (by simp [subT, look]) rfl) ⟨by omega, hout⟩ (by omega)
      rw [if_pos c5] at hout
      rw [hout, if_pos c5] at hC
      have hc := Nat.zero_add 0
      repeat' (first | simp only [hc, SX, l2, hlt, nn, hw, f2, c5, ZZ, simprocAttr, ↓reduceIte] | ((first | apply Za | apply Zb | apply Zc | apply Zd | apply Ze | apply Zf | apply Zg | apply Zh) <;> intro hc) | refine Zj ?_)
      all_goals simp [hC, DV.i]
    have hlt : ((k : Int) < (sts.length : Int)) = False := eq_false (by omega)
    rw [List.drop_of_length_le (by omega)] at hout
    have hS0 : S = 0 := by rw [hout]; cases prevU sts k <;> rfl
    rw [if_neg (by simpa using hS0)] at hC
    have hc := Nat.zero_add 0
    repeat' (first | simp only [hc, SX, l2, hlt, ZZ, simprocAttr, ↓reduceIte] | ((first | apply Za | apply Zb | apply Zc | apply Zd | apply Ze | apply Zf | apply Zg | apply Zh) <;> intro hc) | refine Zj ?_)
    all_goals (simp_all [DV.i]; done)
  cases h
end
end Go.Ab
