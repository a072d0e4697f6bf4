/-
  Texts of the layer and of the laws, put together: AbA1, AbA2.
-/
import Derived.Test.YtbcklcmhmbfgnaaGreatDoorAbF23
import Derived.Test.YtbcklcmhmbfgnaaGreatDoorAbF19
import Derived.Test.YtbcklcmhmbfgnaaGreatDoorAbF11
set_option linter.unusedSimpArgs false
set_option linter.unusedVariables false
set_option maxRecDepth 100000
namespace Go.Ab
open Go.RowKit Go.Proofs
structure Rec where
  kind : Int
  key : List UInt8
  time : Int
  cents : Int
  why : Int
def Rec.row (x : Rec) : List D := [.int .i64 x.kind, .str x.key, .int .i64 x.time, .int .i64 x.cents, .int .i64 x.why]
theorem Rec.inj (a b : Rec) (h : a.row = b.row) : a = b := by
  cases a; cases b
  simpa [Rec.row] using h
theorem mapR_inj {l k : List Rec} : l.map Rec.row = k.map Rec.row ↔ l = k := ⟨map_inj Rec.inj, fun h => by rw [h]⟩
structure Fil where
  fr : List UInt8
  dst : List UInt8
  seq : Int
  rf : Bool
  recs : List Rec
def Fil.row (x : Fil) : List D := [.str x.fr, .str x.dst, .int .i64 x.seq, .sl x.rf (x.recs.map Rec.row)]
theorem Fil.inj (a b : Fil) (h : a.row = b.row) : a = b := by
  cases a; cases b
  simpa [Fil.row, mapR_inj] using h
def encR (x : Rec) : List PA := [.agg x.row]
theorem encR_inj (a b : Rec) (h : encR a = encR b) : a = b := Rec.inj a b (by simpa [encR] using h)
def encF (x : Fil) : List PA := [.agg x.row]
theorem encF_inj (a b : Fil) (h : encF a = encF b) : a = b := Fil.inj a b (by simpa [encF] using h)
def rowZ (n : Int) : List D := [.int .i64 n]
theorem mapZ_inj {l k : List Int} : l.map rowZ = k.map rowZ ↔ l = k := ⟨map_inj (fun a b h => by simpa [rowZ] using h), fun h => by rw [h]⟩
def encIs (p : Bool × List Int) : List PA := [.c (.sl p.1 (p.2.map rowZ))]
theorem encIs_inj (a b : Bool × List Int) (h : encIs a = encIs b) : a = b := by
  obtain ⟨a1, a2⟩ := a
  obtain ⟨b1, b2⟩ := b
  simpa [encIs, mapZ_inj] using h
def encRK (p : (Bool × List Rec) × List UInt8) : List PA := [.c (.sl p.1.1 (p.1.2.map Rec.row)), .c (.str p.2)]
theorem encRK_inj (a b : (Bool × List Rec) × List UInt8) (h : encRK a = encRK b) : a = b := by
  obtain ⟨⟨a1, a2⟩, a3⟩ := a
  obtain ⟨⟨b1, b2⟩, b3⟩ := b
  simp [encRK, mapR_inj] at h
  simp [h]
def afit (n : Int) : Bool := decide (-1125899906842624 ≤ n ∧ n ≤ 1125899906842624)
theorem afit_iff {n : Int} : afit n = true ↔ -1125899906842624 ≤ n ∧ n ≤ 1125899906842624 := by simp [afit]
def sumF (l : List Int) : Int × Int := if 1024 < l.length then (0, 3) else if l.all afit = true then (if afit l.sum = true then (l.sum, 0) else (0, 13)) else (0, 13)
def isCh (x : Rec) : Bool := decide (x.kind = 1 ∨ x.kind = 2)
def totL (l : List Rec) : List Int := (l.filter isCh).map (·.cents)
def totF (l : List Rec) : Int × Int := sumF (totL l)
theorem sum_bound : ∀ {l : List Int}, l.all afit = true → -(1125899906842624 * l.length) ≤ l.sum ∧ l.sum ≤ 1125899906842624 * l.length
  | [], _ => by simp
  | x :: l, h => by
    simp only [List.all_cons, Bool.and_eq_true] at h
    have h1 := afit_iff.1 h.1
    have h2 := sum_bound h.2
    simp only [List.sum_cons, List.length_cons]
    omega
def fieldB (s : List UInt8) : Bool := s.all (fun c => decide (33 ≤ c.toNat ∧ c.toNat ≤ 126)) && decide (s ≠ [])
def headF (f : Fil) : Int :=
  if nameB f.fr = false ∨ nameB f.dst = false then 6 else if f.fr = f.dst then 30 else if f.seq < 1 ∨ 2147483648 < f.seq then 31 else 0
def rightF (x : Rec) : Int :=
  if x.kind < 1 ∨ 4 < x.kind then 1 else if fieldB x.key = false then 5 else if 256 < x.key.length then 4 else if x.time < 0 ∨ 68719476736 ≤ x.time then 12
  else if x.kind = 3 then (if x.cents ≠ 0 ∨ x.why < 0 ∨ 99 < x.why then 1 else 0) else if afit x.cents = false then 13 else if x.why ≠ 0 then 1 else 0
def firstBad : List Rec → Int
  | [] => 0
  | x :: r => if rightF x ≠ 0 then rightF x else firstBad r
def checkF (f : Fil) : Int := if headF f ≠ 0 then headF f else if 1024 < f.recs.length then 3 else if firstBad f.recs ≠ 0 then firstBad f.recs else (totF f.recs).2
def Fil.Ok (f : Fil) : Prop := f.recs.length ≤ 100000 ∧ ∀ x ∈ f.recs, x.key.length ≤ 100000
noncomputable section
open Classical
def mfits_m : List PA → Option (List PA) := m1 fun n => some [.b (afit n)]
def mtotal_m : List PA → Option (List PA) := mE encIs fun p => if decide (p.2.length ≤ 1024) = true ∧ p.2.all afit = true then some [.i p.2.sum] else none
def msum_m : List PA → Option (List PA) := mE encIs fun p => if decide (p.2.length ≤ 9223372036854775807) = true then some [.i (sumF p.2).1, .i (sumF p.2).2] else none
def atotal_m : List PA → Option (List PA) := mE encF fun f => if decide (f.recs.length ≤ 1024) = true then some [.i (totF f.recs).1, .i (totF f.recs).2] else none
def ahead_m : List PA → Option (List PA) := mE encF fun f => some [.i (headF f)]
def afield_m : List PA → Option (List PA) := ms fun s => if decide (s.length ≤ 1000000000) = true then some [.b (fieldB s)] else none
def aright_m : List PA → Option (List PA) := mE encR fun x => if decide (x.key.length ≤ 100000) = true then some [.i (rightF x)] else none
def acheck_m : List PA → Option (List PA) := mE encF fun f => if f.Ok then some [.i (checkF f)] else none
theorem mfits_ok : PureC Tryz.prog Gt 37 mfits_m := by
  refine pure_of_awp (X := ctx Tryz.prog Gt []) Tryz.func37 rfl rfl (by kernel_rfl) (by kernel_rfl) AllOk.nil.kok ?_
  intro args r h0
  obtain ⟨n, rfl, h⟩ := m1_inv h0
  refine ⟨Nat.le_of_ble_eq_true rfl, ?_⟩
  cases h
  have hc := Nat.zero_add 0
  repeat' (first | simp only [hc, Tryz.f37, ZZ, simprocAttr, ↓reduceIte] | ((first | apply Za | apply Zb | apply Zc | apply Zd | apply Ze | apply Zf | apply Zg | apply Zh) <;> intro hc) | refine Zj ?_)
  all_goals (simp_all [afit, DV.b]; try omega)
theorem mfits_at {n : Int} : mfits_m [.c (.int .i64 n)] = some [.b (afit n)] := rfl
theorem sum_take {l : List Int} {j : Nat} (h : j < l.length) : (l.take (j + 1)).sum = (l.take j).sum + l[j] := by
  rw [List.take_succ_eq_append_getElem h, List.sum_append]; simp
theorem all_take {α : Type} {l : List α} {p : α → Bool} (h : l.all p = true) (j : Nat) : (l.take j).all p = true := by
  rw [List.all_eq_true] at h ⊢
  exact fun x hx => h x (List.mem_of_mem_take hx)
theorem lenI {l : List Int} : ((l.map rowZ).length : Int) = l.length := by simp
theorem mtotal_ok : PureC Tryz.prog Gt 69 mtotal_m := by
  refine pure_of_awp (X := ctx Tryz.prog Gt []) Tryz.func69 rfl rfl (by kernel_rfl) (by kernel_rfl) AllOk.nil.kok ?_
  intro args r h0
  obtain ⟨⟨f, l⟩, rfl, h⟩ := mE_inv h0
  refine ⟨Nat.le_of_ble_eq_true rfl, ?_⟩
  split at h
  · rename_i hl
    obtain ⟨h1, h2⟩ := hl
    have h1 := of_decide_eq_true h1
    dsimp only at h1 h2 h
    cases h
    have l1 := @lenI l
    have hc := Nat.zero_add 0
    repeat' (first | simp only [hc, Tryz.f69, encIs, SX, l1, ZZ, simprocAttr, ↓reduceIte] | ((first | apply Za | apply Zb | apply Zc | apply Zd | apply Ze | apply Zf | apply Zg | apply Zh) <;> intro hc) | refine Zj ?_)
    refine awp_loop (σ := Nat) (fun j => j ≤ l.length) (fun j => ⟨[(8, AV.i j), (7, AV.i l.length), (6, AV.d (.sl f (l.map rowZ))), (3, AV.i (l.take j).sum)], []⟩) (fun j => l.length - j) 0 (Wk.sub' (by simp [subT, look]) rfl) (by simp) ?_
    intro j hj
    by_cases hjl : j < l.length
    · have e1 : (l.map rowZ)[j]? = some [.int .i64 l[j]] := by simp [hjl, rowZ]
      have hlt : ((j : Int) < (l.length : Int)) = True := eq_true (by omega)
      have hw := wI (n := (j : Int) + 1) (by omega) (by omega)
      have hb1 := sum_bound (all_take h2 j)
      have hb2 := sum_bound (all_take h2 (j + 1))
      rw [List.length_take] at hb1 hb2
      have hstep := sum_take hjl
      rw [hstep] at hb2
      have hw2 := wI (n := (l.take j).sum + l[j]) (by omega) (by omega)
      generalize l[j] = x at *
      have hc := Nat.zero_add 0
      repeat' (first | simp only [hc, SX, l1, e1, hlt, nn, hw, hw2, ZZ, simprocAttr, ↓reduceIte] | ((first | apply Za | apply Zb | apply Zc | apply Zd | apply Ze | apply Zf | apply Zg | apply Zh) <;> intro hc) | refine Zj ?_)
      exact lp_next (j + 1) (Wk.sub' (by simp [subT, look, hstep]) rfl) (by omega) (by omega)
    have hlt : ((j : Int) < (l.length : Int)) = False := eq_false (by omega)
    rw [List.take_of_length_le (by omega)]
    have hc := Nat.zero_add 0
    repeat' (first | simp only [hc, SX, l1, hlt, ZZ, simprocAttr, ↓reduceIte] | ((first | apply Za | apply Zb | apply Zc | apply Zd | apply Ze | apply Zf | apply Zg | apply Zh) <;> intro hc) | refine Zj ?_)
    all_goals simp
  cases h
end
end Go.Ab
namespace Go.Ab
open Go.RowKit Go.Proofs
noncomputable section
open Classical
theorem mtotal_at {f : Bool} {l : List Int} (h1 : l.length ≤ 1024) (h2 : l.all afit = true) : mtotal_m [.c (.sl f (l.map rowZ))] = some [.i l.sum] := by
  rw [mtotal_m, show ([.c (.sl f (l.map rowZ))] : List PA) = encIs (f, l) from rfl, mE_eq encIs_inj, if_pos ⟨decide_eq_true h1, h2⟩]
theorem all_ext {α : Type} {p : α → Bool} : ∀ {l : List α} {j : Nat} (hj : j < l.length), (l.take j).all p = true → p l[j] = false → l.all p = false
  | l, j, hj, _, h => by
    rw [← Bool.not_eq_true, List.all_eq_true]
    intro hh
    rw [hh _ (List.getElem_mem hj)] at h
    cases h
theorem all_next {α : Type} {p : α → Bool} {l : List α} {j : Nat} (hj : j < l.length) (h : (l.take j).all p = true) (h2 : p l[j] = true) : (l.take (j + 1)).all p = true := by
  rw [List.take_succ_eq_append_getElem hj, List.all_append, h]; simp [h2]
theorem msum_ok : PureC Tryz.prog Gt 48 msum_m := by
  refine pure_of_awp (X := ctx Tryz.prog Gt [(37, mfits_m), (69, mtotal_m)]) Tryz.func48 rfl rfl (by kernel_rfl) (by kernel_rfl) (AllOk.cons mfits_ok (AllOk.cons mtotal_ok AllOk.nil)).kok ?_
  intro args r h0
  obtain ⟨⟨f, l⟩, rfl, h⟩ := mE_inv h0
  refine ⟨Nat.le_of_ble_eq_true rfl, ?_⟩
  split at h
  · rename_i hl
    have hl := of_decide_eq_true hl
    dsimp only at hl h
    cases h
    have l1 := @lenI l
    by_cases hb : (1024 : Int) < l.length
    · have hs : sumF l = (0, 3) := by unfold sumF; rw [if_pos (by omega)]
      have hc := Nat.zero_add 0
      repeat' (first | simp only [hc, Tryz.f48, encIs, SX, l1, hb, ZZ, simprocAttr, ↓reduceIte] | ((first | apply Za | apply Zb | apply Zc | apply Zd | apply Ze | apply Zf | apply Zg | apply Zh) <;> intro hc) | refine Zj ?_)
      all_goals simp [hs, DV.i]
    have hs : sumF l = if l.all afit = true then (if afit l.sum = true then (l.sum, 0) else (0, 13)) else (0, 13) := by unfold sumF; rw [if_neg (by omega)]
    have hc := Nat.zero_add 0
    repeat' (first | simp only [hc, Tryz.f48, encIs, SX, l1, hb, ZZ, simprocAttr, ↓reduceIte] | ((first | apply Za | apply Zb | apply Zc | apply Zd | apply Ze | apply Zf | apply Zg | apply Zh) <;> intro hc) | refine Zj ?_)
    refine awp_loop (σ := Nat) (fun j => j ≤ l.length ∧ (l.take j).all afit = true) (fun j => ⟨[(12, AV.i j), (11, AV.i l.length), (10, AV.d (.sl f (l.map rowZ))), (0, AV.d (.sl f (l.map rowZ)))], []⟩) (fun j => l.length - j) 0 (Wk.sub' (by simp [subT, look]) rfl) (by simp) ?_
    rintro j ⟨hj, hall⟩
    by_cases hjl : j < l.length
    · have e1 : (l.map rowZ)[j]? = some [.int .i64 l[j]] := by simp [hjl, rowZ]
      have hlt : ((j : Int) < (l.length : Int)) = True := eq_true (by omega)
      have hw := wI (n := (j : Int) + 1) (by omega) (by omega)
      have h1 := all_ext hjl hall
      have h2 := all_next hjl hall
      have f1 := @mfits_at l[j]
      generalize l[j] = x at *
      cases hx : afit x with
      | true =>
        rw [hx] at f1
        have hc := Nat.zero_add 0
        repeat' (first | simp only [hc, SX, l1, e1, hlt, nn, hw, f1, ZZ, simprocAttr, ↓reduceIte] | ((first | apply Za | apply Zb | apply Zc | apply Zd | apply Ze | apply Zf | apply Zg | apply Zh) <;> intro hc) | refine Zj ?_)
        exact lp_next (j + 1) (Wk.sub' (by simp [subT, look]) rfl) ⟨by omega, h2 hx⟩ (by omega)
      | false =>
        rw [hx] at f1
        rw [h1 hx] at hs
        simp only [Bool.false_eq_true, if_false] at hs
        have hc := Nat.zero_add 0
        repeat' (first | simp only [hc, SX, l1, e1, hlt, nn, hw, f1, ZZ, simprocAttr, ↓reduceIte] | ((first | apply Za | apply Zb | apply Zc | apply Zd | apply Ze | apply Zf | apply Zg | apply Zh) <;> intro hc) | refine Zj ?_)
        all_goals simp [hs, DV.i]
    have hlt : ((j : Int) < (l.length : Int)) = False := eq_false (by omega)
    rw [List.take_of_length_le (by omega)] at hall
    rw [if_pos hall] at hs
    have f1 := mtotal_at (f := f) (l := l) (by omega) hall
    have f2 := @mfits_at l.sum
    generalize l.sum = x at *
    cases hx : afit x with
    | true =>
      rw [hx] at f2
      rw [hx, if_pos rfl] at hs
      have hc := Nat.zero_add 0
      repeat' (first | simp only [hc, SX, l1, hlt, f1, f2, ZZ, simprocAttr, ↓reduceIte] | ((first | apply Za | apply Zb | apply Zc | apply Zd | apply Ze | apply Zf | apply Zg | apply Zh) <;> intro hc) | refine Zj ?_)
      all_goals simp [hs, DV.i]
    | false =>
      rw [hx] at f2
      rw [hx] at hs
      simp only [Bool.false_eq_true, if_false] at hs
      have hc := Nat.zero_add 0
      repeat' (first | simp only [hc, SX, l1, hlt, f1, f2, ZZ, simprocAttr, ↓reduceIte] | ((first | apply Za | apply Zb | apply Zc | apply Zd | apply Ze | apply Zf | apply Zg | apply Zh) <;> intro hc) | refine Zj ?_)
      all_goals simp [hs, DV.i]
  cases h
theorem msum_at {f : Bool} {l : List Int} (h1 : l.length ≤ 9223372036854775807) : msum_m [.c (.sl f (l.map rowZ))] = some [.i (sumF l).1, .i (sumF l).2] := by
  rw [msum_m, show ([.c (.sl f (l.map rowZ))] : List PA) = encIs (f, l) from rfl, mE_eq encIs_inj, if_pos (decide_eq_true h1)]
theorem ahead_ok : PureC Tryz.prog Gt 39 ahead_m := by
  refine pure_of_awp (X := ctx Tryz.prog Gt [(16, tname_m)]) Tryz.func39 rfl rfl (by kernel_rfl) (by kernel_rfl) (AllOk.cons tname_ok AllOk.nil).kok ?_
  intro args r h0
  obtain ⟨⟨a, b, n, rf, l⟩, rfl, h⟩ := mE_inv h0
  refine ⟨Nat.le_of_ble_eq_true rfl, ?_⟩
  cases h
  have f1 : tname_m [.c (.str a)] = some [.b (nameB a)] := rfl
  have f2 : tname_m [.c (.str b)] = some [.b (nameB b)] := rfl
  unfold headF
  dsimp only
  generalize nameB a = x at *
  generalize nameB b = y at *
  by_cases hab : a = b
  · subst hab
    cases x <;> cases y <;> by_cases h1 : n < 1 <;> by_cases h2 : 2147483648 < n
    all_goals
      have hc := Nat.zero_add 0
      repeat' (first | simp only [hc, Tryz.f39, encF, Fil.row, SX, f1, f2, h1, h2, ZZ, simprocAttr, ↓reduceIte] | ((first | apply Za | apply Zb | apply Zc | apply Zd | apply Ze | apply Zf | apply Zg | apply Zh) <;> intro hc) | refine Zj ?_)
      all_goals first | (simp [h1, h2, DV.i]; done) | exact absurd (f1.symm.trans f2) (by simp)
  have hab2 : (a == b) = false := by simp [hab]
  cases x <;> cases y <;> by_cases h1 : n < 1 <;> by_cases h2 : 2147483648 < n
  all_goals
    have hc := Nat.zero_add 0
    repeat' (first | simp only [hc, Tryz.f39, encF, Fil.row, SX, f1, f2, h1, h2, hab, hab2, ZZ, simprocAttr, ↓reduceIte] | ((first | apply Za | apply Zb | apply Zc | apply Zd | apply Ze | apply Zf | apply Zg | apply Zh) <;> intro hc) | refine Zj ?_)
    all_goals simp [h1, h2, hab, DV.i]
abbrev fcB (c : UInt8) : Bool := decide (33 ≤ c.toNat ∧ c.toNat ≤ 126)
theorem fieldB_no {s : List UInt8} {j : Nat} (hj : j < s.length) (h : fcB s[j] = false) : fieldB s = false := by
  unfold fieldB
  have : s.all (fun c => decide (33 ≤ c.toNat ∧ c.toNat ≤ 126)) = false := by
    rw [← Bool.not_eq_true, List.all_eq_true]
    intro hh
    have := hh _ (List.getElem_mem hj)
    rw [show fcB s[j] = true from this] at h
    cases h
  rw [this]; rfl
theorem fieldB_yes {s : List UInt8} (h : s.all fcB = true) : fieldB s = decide (s ≠ []) := by
  unfold fieldB
  rw [show s.all (fun c => decide (33 ≤ c.toNat ∧ c.toNat ≤ 126)) = true from h]
  rfl
theorem afield_ok : PureC Tryz.prog Gt 63 afield_m := by
  refine pure_of_awp (X := ctx Tryz.prog Gt []) Tryz.func63 rfl rfl (by kernel_rfl) (by kernel_rfl) AllOk.nil.kok ?_
  intro args r h0
  obtain ⟨s, rfl, h⟩ := ms_inv h0
  refine ⟨Nat.le_of_ble_eq_true rfl, ?_⟩
  split at h
  · rename_i hl
    have hl := of_decide_eq_true hl
    cases h
    have hc := Nat.zero_add 0
    repeat' (first | simp only [hc, Tryz.f63, SX, ZZ, simprocAttr, ↓reduceIte] | ((first | apply Za | apply Zb | apply Zc | apply Zd | apply Ze | apply Zf | apply Zg | apply Zh) <;> intro hc) | refine Zj ?_)
    refine awp_loop (σ := Nat) (fun j => j ≤ s.length ∧ (s.take j).all fcB = true) (fun j => ⟨[(6, AV.i j), (5, AV.i s.length), (0, AV.s s)], []⟩) (fun j => s.length - j) 0 (Wk.sub' (by simp [subT, look]) rfl) (by simp) ?_
    rintro j ⟨hj, hall⟩
    by_cases hjl : j < s.length
    · have e1 : s[j]? = some s[j] := by simp [hjl]
      have hlt : ((j : Int) < (s.length : Int)) = True := eq_true (by omega)
      have hw := wI (n := (j : Int) + 1) (by omega) (by omega)
      have h1 := fieldB_no hjl
      have h2 := all_next (p := fcB) hjl hall
      generalize s[j] = c at *
      by_cases ha : (c.toNat : Int) < 33
      · have hr := h1 (decide_eq_false (by omega))
        have hc := Nat.zero_add 0
        repeat' (first | simp only [hc, SX, e1, hlt, nn, hw, ha, ZZ, simprocAttr, ↓reduceIte] | ((first | apply Za | apply Zb | apply Zc | apply Zd | apply Ze | apply Zf | apply Zg | apply Zh) <;> intro hc) | refine Zj ?_)
        all_goals simp [hr, DV.b]
      by_cases hb : (126 : Int) < c.toNat
      · have hr := h1 (decide_eq_false (by omega))
        have hc := Nat.zero_add 0
        repeat' (first | simp only [hc, SX, e1, hlt, nn, hw, ha, hb, ZZ, simprocAttr, ↓reduceIte] | ((first | apply Za | apply Zb | apply Zc | apply Zd | apply Ze | apply Zf | apply Zg | apply Zh) <;> intro hc) | refine Zj ?_)
        all_goals simp [hr, DV.b]
      have hc := Nat.zero_add 0
      repeat' (first | simp only [hc, SX, e1, hlt, nn, hw, ha, hb, ZZ, simprocAttr, ↓reduceIte] | ((first | apply Za | apply Zb | apply Zc | apply Zd | apply Ze | apply Zf | apply Zg | apply Zh) <;> intro hc) | refine Zj ?_)
      exact lp_next (j + 1) (Wk.sub' (by simp [subT, look]) rfl) ⟨by omega, h2 (decide_eq_true (by omega))⟩ (by omega)
    have hlt : ((j : Int) < (s.length : Int)) = False := eq_false (by omega)
    rw [List.take_of_length_le (by omega)] at hall
    have hr := fieldB_yes hall
    by_cases he : s = []
    · have he2 : (s == []) = true := by simp [he]
      have hc := Nat.zero_add 0
      repeat' (first | simp only [hc, SX, hlt, he2, ZZ, simprocAttr, ↓reduceIte] | ((first | apply Za | apply Zb | apply Zc | apply Zd | apply Ze | apply Zf | apply Zg | apply Zh) <;> intro hc) | refine Zj ?_)
      all_goals (simp [he, DV.b]; rfl)
    have he2 : (s == []) = false := by simp [he]
    have hc := Nat.zero_add 0
    repeat' (first | simp only [hc, SX, hlt, he2, ZZ, simprocAttr, ↓reduceIte] | ((first | apply Za | apply Zb | apply Zc | apply Zd | apply Ze | apply Zf | apply Zg | apply Zh) <;> intro hc) | refine Zj ?_)
    all_goals simp [hr, he, DV.b]
  cases h
theorem afield_at {s : List UInt8} (h : s.length ≤ 100000) : afield_m [.c (.str s)] = some [.b (fieldB s)] := by rw [afield_m, ms_eq, if_pos (decide_eq_true (by omega))]
theorem aright_ok : PureC Tryz.prog Gt 40 aright_m := by
  refine pure_of_awp (X := ctx Tryz.prog Gt [(63, afield_m), (37, mfits_m)]) Tryz.func40 rfl rfl (by kernel_rfl) (by kernel_rfl) (AllOk.cons afield_ok (AllOk.cons mfits_ok AllOk.nil)).kok ?_
  intro args r h0
  obtain ⟨⟨k, s, t, c, w⟩, rfl, h⟩ := mE_inv h0
  refine ⟨Nat.le_of_ble_eq_true rfl, ?_⟩
  split at h
  · rename_i hl
    have hl := of_decide_eq_true hl
    dsimp only at hl h
    cases h
    have f1 := afield_at hl
    have f2 := @mfits_at c
    unfold rightF
    dsimp only
    generalize fieldB s = x at *
    generalize afit c = y at *
    by_cases c1 : k < 1
    · skip
      have hc := Nat.zero_add 0
      repeat' (first | simp only [hc, Tryz.f40, encR, Rec.row, SX, f1, f2, c1, ZZ, simprocAttr, ↓reduceIte] | ((first | apply Za | apply Zb | apply Zc | apply Zd | apply Ze | apply Zf | apply Zg | apply Zh) <;> intro hc) | refine Zj ?_)
      all_goals simp [c1, DV.i]
    by_cases c2 : 4 < k
    · skip
      have hc := Nat.zero_add 0
      repeat' (first | simp only [hc, Tryz.f40, encR, Rec.row, SX, f1, f2, c1, c2, ZZ, simprocAttr, ↓reduceIte] | ((first | apply Za | apply Zb | apply Zc | apply Zd | apply Ze | apply Zf | apply Zg | apply Zh) <;> intro hc) | refine Zj ?_)
      all_goals simp [c1, c2, DV.i]
    cases x
    · skip
      have hc := Nat.zero_add 0
      repeat' (first | simp only [hc, Tryz.f40, encR, Rec.row, SX, f1, f2, c1, c2, ZZ, simprocAttr, ↓reduceIte] | ((first | apply Za | apply Zb | apply Zc | apply Zd | apply Ze | apply Zf | apply Zg | apply Zh) <;> intro hc) | refine Zj ?_)
      all_goals simp [c1, c2, DV.i]
    by_cases c3 : 256 < s.length
    · have c3' : (256 : Int) < s.length := by omega
      have hc := Nat.zero_add 0
      repeat' (first | simp only [hc, Tryz.f40, encR, Rec.row, SX, f1, f2, c1, c2, c3', ZZ, simprocAttr, ↓reduceIte] | ((first | apply Za | apply Zb | apply Zc | apply Zd | apply Ze | apply Zf | apply Zg | apply Zh) <;> intro hc) | refine Zj ?_)
      all_goals simp [c1, c2, c3, DV.i]
    have c3' : ¬ ((256 : Int) < s.length) := by omega
    by_cases c4 : t < 0
    · skip
      have hc := Nat.zero_add 0
      repeat' (first | simp only [hc, Tryz.f40, encR, Rec.row, SX, f1, f2, c1, c2, c3', c4, ZZ, simprocAttr, ↓reduceIte] | ((first | apply Za | apply Zb | apply Zc | apply Zd | apply Ze | apply Zf | apply Zg | apply Zh) <;> intro hc) | refine Zj ?_)
      all_goals simp [c1, c2, c3, c4, DV.i]
    by_cases c5 : 68719476736 ≤ t
    · skip
      have hc := Nat.zero_add 0
      repeat' (first | simp only [hc, Tryz.f40, encR, Rec.row, SX, f1, f2, c1, c2, c3', c4, c5, ZZ, simprocAttr, ↓reduceIte] | ((first | apply Za | apply Zb | apply Zc | apply Zd | apply Ze | apply Zf | apply Zg | apply Zh) <;> intro hc) | refine Zj ?_)
      all_goals simp [c1, c2, c3, c4, c5, DV.i]
    by_cases c6 : k = 3
    · by_cases c7 : c = 0 <;> by_cases c8 : w < 0 <;> by_cases c9 : 99 < w
      all_goals
        have hc := Nat.zero_add 0
        repeat' (first | simp only [hc, Tryz.f40, encR, Rec.row, SX, f1, f2, c1, c2, c3', c4, c5, c6, c7, c8, c9, ZZ, simprocAttr, ↓reduceIte] | ((first | apply Za | apply Zb | apply Zc | apply Zd | apply Ze | apply Zf | apply Zg | apply Zh) <;> intro hc) | refine Zj ?_)
        all_goals simp [c1, c2, c3, c4, c5, c6, c7, c8, c9, DV.i]
    cases y <;> by_cases c7 : w = 0
    all_goals
      have hc := Nat.zero_add 0
      repeat' (first | simp only [hc, Tryz.f40, encR, Rec.row, SX, f1, f2, c1, c2, c3', c4, c5, c6, c7, ZZ, simprocAttr, ↓reduceIte] | ((first | apply Za | apply Zb | apply Zc | apply Zd | apply Ze | apply Zf | apply Zg | apply Zh) <;> intro hc) | refine Zj ?_)
      all_goals simp [c1, c2, c3, c4, c5, c6, c7, DV.i]
  cases h
end
end Go.Ab
