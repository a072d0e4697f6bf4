/-
  What the functions of the calendar compute: dates.
-/
import Derived.Test.YtabfdaekbhccnaaDoorAbC3
set_option linter.unusedSimpArgs false
set_option linter.unusedVariables false
namespace Go.Ab
open Go.RowKit Go.Proofs

def ylen (y : Int) : Int := if leapB y = true then 366 else 365

/-- Years: fuel, year, days left. -/
def yf : Nat → Int → Int → Int × Int
  | 0, y, r => (y, r)
  | n + 1, y, r => if r < ylen y then (y, r) else yf n (y + 1) (r - ylen y)

/-- Months 13 - n .. 12. -/
def mf : Nat → Int → Int → Int × Int
  | 0, _, r => (13, r)
  | n + 1, y, r => if r < lenF y (12 - n) then (12 - n, r) else mf n y (r - lenF y (12 - n))

def tl (y : Int) : Nat → Int
  | 0 => 0
  | n + 1 => lenF y (12 - n) + tl y n

theorem ylen_pos (y : Int) : 365 ≤ ylen y ∧ ylen y ≤ 366 := by
  unfold ylen; split <;> omega

theorem tl_all (y : Int) : tl y 12 = ylen y := by
  simp [tl, lenF, ylen]
  split <;> rfl

def dateOf (y0 d : Int) : List PA :=
  let p := yf 2200 y0 d
  let q := mf 12 p.1 p.2
  [.i p.1, .i q.1, .i (W (q.2 + 1))]

def cdate_m : List PA → Option (List PA) := m1 fun d => if isD d = true then some (dateOf (2001 + d / 146097 * 400) (d % 146097)) else some [.i 0, .i 0, .i 0]
def rdate_m : List PA → Option (List PA) := m1 fun d => if isD d = true then some (dateOf 2001 d) else some [.i 0, .i 0, .i 0]

theorem yf_bound : ∀ (n : Nat) (y r : Int), 0 ≤ r → r < 365 * n → 2001 ≤ y → 0 ≤ (yf n y r).2 ∧ (yf n y r).2 < ylen (yf n y r).1 ∧ y ≤ (yf n y r).1 ∧ (yf n y r).1 ≤ y + n
  | 0, y, r, h0, h1, _ => by simp at h1; omega
  | n + 1, y, r, h0, h1, hy => by
    simp only [yf]
    split
    · exact ⟨h0, by assumption, Int.le_refl _, by omega⟩
    · have h2 := ylen_pos y
      have := yf_bound n (y + 1) (r - ylen y) (by omega) (by omega) (by omega)
      omega

theorem rdate_ok : PureC Tryd.prog Gt 21 rdate_m := by
  refine pure_of_awp (X := ctx Tryd.prog Gt [(35, risDay_m), (38, ryear_m), (39, rlength_m)]) Tryd.func21 rfl rfl (by kernel_rfl) (by kernel_rfl) (AllOk.cons risDay_ok (AllOk.cons ryear_ok (AllOk.cons rlength_ok AllOk.nil))).kok ?_
  intro args r h0
  obtain ⟨d, rfl, h⟩ := m1_inv h0
  refine ⟨Nat.le_of_ble_eq_true rfl, ?_⟩
  by_cases hD : isD d = true
  · rw [if_pos hD] at h
    cases h
    have hd := isD_iff.1 hD
    have hc := Nat.zero_add 0
    repeat' (first | (simp only [hc, Tryd.f21, risDay_m, ryear_m, rlength_m, mEq, hD, AB, PL, RG, LP, TY, Nat.reduceEqDiff, Nat.reduceAdd, Nat.reduceSub, Nat.reduceMul, Nat.reduceLT, Nat.reduceLeDiff, Nat.reduceMod, Nat.reduceDiv, reduceCtorEq, Int.reduceEq, Int.reduceNe, Int.reduceLT, Int.reduceLE, Int.reduceNeg, Int.reduceToNat, Int.reduceAdd, Int.reduceSub, Int.reduceMul, ↓reduceIte, forall_const, eq_self, ne_eq, Option.some.injEq, beq_self_eq_true]) | refine fin_ndec (fun hc => ?_) (fun hc => ?_) | refine fin_dec (fun hc => ?_) (fun hc => ?_) | refine cnd_ndec (fun hc => ?_) (fun hc => ?_) | refine cnd_dec' (fun hc => ?_) (fun hc => ?_) | refine fin_nsplit (fun hc => ?_) (fun hc => ?_) | refine fin_split (fun hc => ?_) (fun hc => ?_) | refine cnd_nsplit (fun hc => ?_) (fun hc => ?_) | refine cnd_split (fun hc => ?_) (fun hc => ?_) | refine blk_exit_id ?_)
    refine awp_loop (σ := Nat × Int × Int) (fun p => 0 ≤ p.2.2 ∧ p.2.2 < 365 * p.1 ∧ 2001 ≤ p.2.1 ∧ p.2.1 + p.1 ≤ 4300 ∧ yf p.1 p.2.1 p.2.2 = yf 2200 2001 d) (fun p => ⟨[(5, AV.i p.2.2), (6, AV.i p.2.1)], []⟩) (fun p => p.1) (2200, 2001, d) (Wk.sub (by simp [subT, look])) (by simp; omega) ?_
    rintro ⟨n, y, r⟩ ⟨h1, h2, h3, h4, h5⟩
    dsimp only at h1 h2 h3 h4 h5 ⊢
    have hyl := ylen_pos y
    have hyl' : (if leapB y = true then (366 : Int) else 365) = ylen y := rfl
    obtain ⟨n, rfl⟩ : ∃ k, n = k + 1 := ⟨n - 1, by omega⟩
    have hc := Nat.zero_add 0
    repeat' (first | (simp only [hc, risDay_m, ryear_m, rlength_m, mEq, hyl', AB, PL, RG, LP, TY, Nat.reduceEqDiff, Nat.reduceAdd, Nat.reduceSub, Nat.reduceMul, Nat.reduceLT, Nat.reduceLeDiff, Nat.reduceMod, Nat.reduceDiv, reduceCtorEq, Int.reduceEq, Int.reduceNe, Int.reduceLT, Int.reduceLE, Int.reduceNeg, Int.reduceToNat, Int.reduceAdd, Int.reduceSub, Int.reduceMul, ↓reduceIte, forall_const, eq_self, ne_eq, Option.some.injEq, beq_self_eq_true]) | refine fin_ndec (fun hc => ?_) (fun hc => ?_) | refine fin_dec (fun hc => ?_) (fun hc => ?_) | refine cnd_ndec (fun hc => ?_) (fun hc => ?_) | refine cnd_dec' (fun hc => ?_) (fun hc => ?_) | refine fin_nsplit (fun hc => ?_) (fun hc => ?_) | refine fin_split (fun hc => ?_) (fun hc => ?_) | refine cnd_nsplit (fun hc => ?_) (fun hc => ?_) | refine cnd_split (fun hc => ?_) (fun hc => ?_) | refine blk_exit_id ?_)
    · have hw1 := wI (n := r - ylen y) (by omega) (by omega)
      have hw2 := wI (n := y + 1) (by omega) (by omega)
      refine lp_next (n, y + 1, r - ylen y) (Wk.sub (by simp [subT, look, hw1, hw2])) ⟨by simp only []; omega, by simp only []; omega, by simp only []; omega, by simp only []; omega, ?_⟩ (by simp only []; omega)
      rw [← h5]
      simp only [yf]
      rw [if_neg (by omega)]
    · have hry : r < ylen y := by omega
      have h6 : yf 2200 2001 d = (y, r) := by rw [← h5]; simp only [yf]; rw [if_pos hry]
      refine awp_loop (σ := Nat × Int) (fun p => 0 ≤ p.2 ∧ p.2 < tl y p.1 ∧ p.1 ≤ 12 ∧ p.2 ≤ 366 ∧ mf p.1 y p.2 = mf 12 y r) (fun p => ⟨[(5, AV.i p.2), (6, AV.i y), (7, AV.i (13 - p.1))], []⟩) (fun p => p.1) (12, r) (Wk.sub (by simp [subT, look])) ⟨h1, by rw [tl_all]; exact hry, Nat.le_refl _, by simp only []; omega, rfl⟩ ?_
      rintro ⟨k, q⟩ ⟨g1, g2, g3, g5, g4⟩
      dsimp only at g1 g2 g3 g4 g5 ⊢
      obtain ⟨k, rfl⟩ : ∃ j, k = j + 1 := ⟨k - 1, by
        rcases Nat.eq_zero_or_pos k with hk | hk
        · subst hk; simp [tl] at g2; omega
        · omega⟩
      have hm : (13 : Int) - ((k + 1 : Nat) : Int) = 12 - (k : Int) := by omega
      have hl : 0 ≤ lenF y (12 - k) ∧ lenF y (12 - k) ≤ 31 := by unfold lenF; split <;> (try split) <;> omega
      have hc := Nat.zero_add 0
      repeat' (first | (simp only [hc, risDay_m, ryear_m, rlength_m, mEq, hm, AB, PL, RG, LP, TY, Nat.reduceEqDiff, Nat.reduceAdd, Nat.reduceSub, Nat.reduceMul, Nat.reduceLT, Nat.reduceLeDiff, Nat.reduceMod, Nat.reduceDiv, reduceCtorEq, Int.reduceEq, Int.reduceNe, Int.reduceLT, Int.reduceLE, Int.reduceNeg, Int.reduceToNat, Int.reduceAdd, Int.reduceSub, Int.reduceMul, ↓reduceIte, forall_const, eq_self, ne_eq, Option.some.injEq, beq_self_eq_true]) | refine fin_ndec (fun hc => ?_) (fun hc => ?_) | refine fin_dec (fun hc => ?_) (fun hc => ?_) | refine cnd_ndec (fun hc => ?_) (fun hc => ?_) | refine cnd_dec' (fun hc => ?_) (fun hc => ?_) | refine fin_nsplit (fun hc => ?_) (fun hc => ?_) | refine fin_split (fun hc => ?_) (fun hc => ?_) | refine cnd_nsplit (fun hc => ?_) (fun hc => ?_) | refine cnd_split (fun hc => ?_) (fun hc => ?_) | refine blk_exit_id ?_)
      · have hw1 := wI (n := q - lenF y (12 - k)) (by omega) (by omega)
        have hk1 : (12 : Int) - k + 1 = 13 - k := by omega
        have hw2 := wI (n := 13 - (k : Int)) (by omega) (by omega)
        have g2' : q < lenF y (12 - k) + tl y k := g2
        refine lp_next (k, q - lenF y (12 - k)) (Wk.sub (by simp [subT, look, hw1, hw2, hk1])) ⟨by simp only []; omega, by simp only []; omega, by simp only []; omega, by simp only []; omega, ?_⟩ (by simp only []; omega)
        rw [← g4]
        simp only [mf]
        rw [if_neg (by omega)]
      · have h7 : mf 12 y r = (12 - (k : Int), q) := by rw [← g4]; simp only [mf]; rw [if_pos (by omega)]
        simp [dateOf, h6, h7, DV.i]
  · rw [if_neg hD] at h
    cases h
    have hc := Nat.zero_add 0
    repeat' (first | (simp only [hc, Tryd.f21, risDay_m, ryear_m, rlength_m, mEq, hD, AB, PL, RG, LP, TY, Nat.reduceEqDiff, Nat.reduceAdd, Nat.reduceSub, Nat.reduceMul, Nat.reduceLT, Nat.reduceLeDiff, Nat.reduceMod, Nat.reduceDiv, reduceCtorEq, Int.reduceEq, Int.reduceNe, Int.reduceLT, Int.reduceLE, Int.reduceNeg, Int.reduceToNat, Int.reduceAdd, Int.reduceSub, Int.reduceMul, ↓reduceIte, forall_const, eq_self, ne_eq, Option.some.injEq, beq_self_eq_true]) | refine fin_ndec (fun hc => ?_) (fun hc => ?_) | refine fin_dec (fun hc => ?_) (fun hc => ?_) | refine cnd_ndec (fun hc => ?_) (fun hc => ?_) | refine cnd_dec' (fun hc => ?_) (fun hc => ?_) | refine fin_nsplit (fun hc => ?_) (fun hc => ?_) | refine fin_split (fun hc => ?_) (fun hc => ?_) | refine cnd_nsplit (fun hc => ?_) (fun hc => ?_) | refine cnd_split (fun hc => ?_) (fun hc => ?_) | refine blk_exit_id ?_)
    all_goals simp_all [DV.i]

theorem cdate_ok : PureC Tryd.prog Gt 20 cdate_m := by
  refine pure_of_awp (X := ctx Tryd.prog Gt [(34, isDay_m), (36, leap_m), (37, clength_m)]) Tryd.func20 rfl rfl (by kernel_rfl) (by kernel_rfl) (AllOk.cons isDay_ok (AllOk.cons leap_ok (AllOk.cons clength_ok AllOk.nil))).kok ?_
  intro args r h0
  obtain ⟨d, rfl, h⟩ := m1_inv h0
  refine ⟨Nat.le_of_ble_eq_true rfl, ?_⟩
  by_cases hD : isD d = true
  · rw [if_pos hD] at h
    cases h
    have hd := isD_iff.1 hD
    have e1 : d.tdiv 146097 = d / 146097 := Int.tdiv_eq_ediv_of_nonneg (by omega)
    have e2 : d.tmod 146097 = d % 146097 := Int.tmod_eq_emod_of_nonneg (by omega)
    have w1 := wI (n := d / 146097) (by omega) (by omega)
    have w2 := wI (n := d / 146097 * 400) (by omega) (by omega)
    have w3 := wI (n := 2001 + d / 146097 * 400) (by omega) (by omega)
    have hc := Nat.zero_add 0
    repeat' (first | (simp only [hc, Tryd.f20, isDay_m, leap_m, clength_m, mEq, hD, e1, e2, w1, w2, w3, AB, PL, RG, LP, TY, Nat.reduceEqDiff, Nat.reduceAdd, Nat.reduceSub, Nat.reduceMul, Nat.reduceLT, Nat.reduceLeDiff, Nat.reduceMod, Nat.reduceDiv, reduceCtorEq, Int.reduceEq, Int.reduceNe, Int.reduceLT, Int.reduceLE, Int.reduceNeg, Int.reduceToNat, Int.reduceAdd, Int.reduceSub, Int.reduceMul, ↓reduceIte, forall_const, eq_self, ne_eq, Option.some.injEq, beq_self_eq_true]) | refine fin_ndec (fun hc => ?_) (fun hc => ?_) | refine fin_dec (fun hc => ?_) (fun hc => ?_) | refine cnd_ndec (fun hc => ?_) (fun hc => ?_) | refine cnd_dec' (fun hc => ?_) (fun hc => ?_) | refine fin_nsplit (fun hc => ?_) (fun hc => ?_) | refine fin_split (fun hc => ?_) (fun hc => ?_) | refine cnd_nsplit (fun hc => ?_) (fun hc => ?_) | refine cnd_split (fun hc => ?_) (fun hc => ?_) | refine blk_exit_id ?_)
    generalize hy0 : 2001 + d / 146097 * 400 = y0
    generalize hr0 : d % 146097 = r0
    have b1 : 2001 ≤ y0 ∧ y0 ≤ 4100 := by omega
    have b2 : 0 ≤ r0 ∧ r0 < 146097 := by omega
    refine awp_loop (σ := Nat × Int × Int) (fun p => 0 ≤ p.2.2 ∧ p.2.2 < 365 * p.1 ∧ 2001 ≤ p.2.1 ∧ p.2.1 + p.1 ≤ 6400 ∧ yf p.1 p.2.1 p.2.2 = yf 2200 y0 r0) (fun p => ⟨[(6, AV.i p.2.2), (5, AV.i p.2.1)], []⟩) (fun p => p.1) (2200, y0, r0) (Wk.sub (by simp [subT, look])) (by simp; omega) ?_
    rintro ⟨n, y, r⟩ ⟨h1, h2, h3, h4, h5⟩
    dsimp only at h1 h2 h3 h4 h5 ⊢
    have hyl := ylen_pos y
    obtain ⟨n, rfl⟩ : ∃ k, n = k + 1 := ⟨n - 1, by omega⟩
    have cases2 : leapB y = true ∧ ylen y = 366 ∨ leapB y = false ∧ ylen y = 365 := by unfold ylen; cases leapB y <;> simp
    rcases cases2 with ⟨hL, hY⟩ | ⟨hL, hY⟩
    · skip
      have hc := Nat.zero_add 0
      repeat' (first | (simp only [hc, isDay_m, leap_m, clength_m, mEq, hL, AB, PL, RG, LP, TY, Nat.reduceEqDiff, Nat.reduceAdd, Nat.reduceSub, Nat.reduceMul, Nat.reduceLT, Nat.reduceLeDiff, Nat.reduceMod, Nat.reduceDiv, reduceCtorEq, Int.reduceEq, Int.reduceNe, Int.reduceLT, Int.reduceLE, Int.reduceNeg, Int.reduceToNat, Int.reduceAdd, Int.reduceSub, Int.reduceMul, ↓reduceIte, forall_const, eq_self, ne_eq, Option.some.injEq, beq_self_eq_true]) | refine fin_ndec (fun hc => ?_) (fun hc => ?_) | refine fin_dec (fun hc => ?_) (fun hc => ?_) | refine cnd_ndec (fun hc => ?_) (fun hc => ?_) | refine cnd_dec' (fun hc => ?_) (fun hc => ?_) | refine fin_nsplit (fun hc => ?_) (fun hc => ?_) | refine fin_split (fun hc => ?_) (fun hc => ?_) | refine cnd_nsplit (fun hc => ?_) (fun hc => ?_) | refine cnd_split (fun hc => ?_) (fun hc => ?_) | refine blk_exit_id ?_)
      · have hry : r < ylen y := by omega
        have h6 : yf 2200 y0 r0 = (y, r) := by rw [← h5]; simp only [yf]; rw [if_pos hry]
        refine awp_loop (σ := Nat × Int) (fun p => 0 ≤ p.2 ∧ p.2 < tl y p.1 ∧ p.1 ≤ 12 ∧ p.2 ≤ 366 ∧ mf p.1 y p.2 = mf 12 y r) (fun p => ⟨[(6, AV.i p.2), (5, AV.i y), (8, AV.i (13 - p.1))], []⟩) (fun p => p.1) (12, r) (Wk.sub (by simp [subT, look])) ⟨h1, by rw [tl_all]; exact hry, Nat.le_refl _, by simp only []; omega, rfl⟩ ?_
        rintro ⟨k, q⟩ ⟨g1, g2, g3, g5, g4⟩
        dsimp only at g1 g2 g3 g4 g5 ⊢
        obtain ⟨k, rfl⟩ : ∃ j, k = j + 1 := ⟨k - 1, by
          rcases Nat.eq_zero_or_pos k with hk | hk
          · subst hk; simp [tl] at g2; omega
          · omega⟩
        have hm : (13 : Int) - ((k + 1 : Nat) : Int) = 12 - (k : Int) := by omega
        have hmc : (1 ≤ 12 - (k : Int) ∧ 12 - (k : Int) ≤ 12) = True := by simp; omega
        have hl : 0 ≤ lenF y (12 - k) ∧ lenF y (12 - k) ≤ 31 := by unfold lenF; split <;> (try split) <;> omega
        have hc := Nat.zero_add 0
        repeat' (first | (simp only [hc, isDay_m, leap_m, clength_m, mEq, hm, hmc, AB, PL, RG, LP, TY, Nat.reduceEqDiff, Nat.reduceAdd, Nat.reduceSub, Nat.reduceMul, Nat.reduceLT, Nat.reduceLeDiff, Nat.reduceMod, Nat.reduceDiv, reduceCtorEq, Int.reduceEq, Int.reduceNe, Int.reduceLT, Int.reduceLE, Int.reduceNeg, Int.reduceToNat, Int.reduceAdd, Int.reduceSub, Int.reduceMul, ↓reduceIte, forall_const, eq_self, ne_eq, Option.some.injEq, beq_self_eq_true]) | refine fin_ndec (fun hc => ?_) (fun hc => ?_) | refine fin_dec (fun hc => ?_) (fun hc => ?_) | refine cnd_ndec (fun hc => ?_) (fun hc => ?_) | refine cnd_dec' (fun hc => ?_) (fun hc => ?_) | refine fin_nsplit (fun hc => ?_) (fun hc => ?_) | refine fin_split (fun hc => ?_) (fun hc => ?_) | refine cnd_nsplit (fun hc => ?_) (fun hc => ?_) | refine cnd_split (fun hc => ?_) (fun hc => ?_) | refine blk_exit_id ?_)
        · have hw1 := wI (n := q - lenF y (12 - k)) (by omega) (by omega)
          have hk1 : (12 : Int) - k + 1 = 13 - k := by omega
          have hw2 := wI (n := 13 - (k : Int)) (by omega) (by omega)
          have g2' : q < lenF y (12 - k) + tl y k := g2
          refine lp_next (k, q - lenF y (12 - k)) (Wk.sub (by simp [subT, look, hw1, hw2, hk1])) ⟨by simp only []; omega, by simp only []; omega, by simp only []; omega, by simp only []; omega, ?_⟩ (by simp only []; omega)
          rw [← g4]
          simp only [mf]
          rw [if_neg (by omega)]
        · have h7 : mf 12 y r = (12 - (k : Int), q) := by rw [← g4]; simp only [mf]; rw [if_pos (by omega)]
          simp [dateOf, h6, h7, DV.i]
      · have hw1 := wI (n := r - ylen y) (by omega) (by omega)
        have hw2 := wI (n := y + 1) (by omega) (by omega)
        rw [hY] at hw1
        refine lp_next (n, y + 1, r - ylen y) (Wk.sub (by simp [subT, look, hw1, hw2, hY])) ⟨by simp only []; omega, by simp only []; omega, by simp only []; omega, by simp only []; omega, ?_⟩ (by simp only []; omega)
        rw [← h5]
        simp only [yf]
        rw [if_neg (by omega)]
    · skip
      have hc := Nat.zero_add 0
      repeat' (first | (simp only [hc, isDay_m, leap_m, clength_m, mEq, hL, AB, PL, RG, LP, TY, Nat.reduceEqDiff, Nat.reduceAdd, Nat.reduceSub, Nat.reduceMul, Nat.reduceLT, Nat.reduceLeDiff, Nat.reduceMod, Nat.reduceDiv, reduceCtorEq, Int.reduceEq, Int.reduceNe, Int.reduceLT, Int.reduceLE, Int.reduceNeg, Int.reduceToNat, Int.reduceAdd, Int.reduceSub, Int.reduceMul, ↓reduceIte, forall_const, eq_self, ne_eq, Option.some.injEq, beq_self_eq_true]) | refine fin_ndec (fun hc => ?_) (fun hc => ?_) | refine fin_dec (fun hc => ?_) (fun hc => ?_) | refine cnd_ndec (fun hc => ?_) (fun hc => ?_) | refine cnd_dec' (fun hc => ?_) (fun hc => ?_) | refine fin_nsplit (fun hc => ?_) (fun hc => ?_) | refine fin_split (fun hc => ?_) (fun hc => ?_) | refine cnd_nsplit (fun hc => ?_) (fun hc => ?_) | refine cnd_split (fun hc => ?_) (fun hc => ?_) | refine blk_exit_id ?_)
      · have hry : r < ylen y := by omega
        have h6 : yf 2200 y0 r0 = (y, r) := by rw [← h5]; simp only [yf]; rw [if_pos hry]
        refine awp_loop (σ := Nat × Int) (fun p => 0 ≤ p.2 ∧ p.2 < tl y p.1 ∧ p.1 ≤ 12 ∧ p.2 ≤ 366 ∧ mf p.1 y p.2 = mf 12 y r) (fun p => ⟨[(6, AV.i p.2), (5, AV.i y), (8, AV.i (13 - p.1))], []⟩) (fun p => p.1) (12, r) (Wk.sub (by simp [subT, look])) ⟨h1, by rw [tl_all]; exact hry, Nat.le_refl _, by simp only []; omega, rfl⟩ ?_
        rintro ⟨k, q⟩ ⟨g1, g2, g3, g5, g4⟩
        dsimp only at g1 g2 g3 g4 g5 ⊢
        obtain ⟨k, rfl⟩ : ∃ j, k = j + 1 := ⟨k - 1, by
          rcases Nat.eq_zero_or_pos k with hk | hk
          · subst hk; simp [tl] at g2; omega
          · omega⟩
        have hm : (13 : Int) - ((k + 1 : Nat) : Int) = 12 - (k : Int) := by omega
        have hmc : (1 ≤ 12 - (k : Int) ∧ 12 - (k : Int) ≤ 12) = True := by simp; omega
        have hl : 0 ≤ lenF y (12 - k) ∧ lenF y (12 - k) ≤ 31 := by unfold lenF; split <;> (try split) <;> omega
        have hc := Nat.zero_add 0
        repeat' (first | (simp only [hc, isDay_m, leap_m, clength_m, mEq, hm, hmc, AB, PL, RG, LP, TY, Nat.reduceEqDiff, Nat.reduceAdd, Nat.reduceSub, Nat.reduceMul, Nat.reduceLT, Nat.reduceLeDiff, Nat.reduceMod, Nat.reduceDiv, reduceCtorEq, Int.reduceEq, Int.reduceNe, Int.reduceLT, Int.reduceLE, Int.reduceNeg, Int.reduceToNat, Int.reduceAdd, Int.reduceSub, Int.reduceMul, ↓reduceIte, forall_const, eq_self, ne_eq, Option.some.injEq, beq_self_eq_true]) | refine fin_ndec (fun hc => ?_) (fun hc => ?_) | refine fin_dec (fun hc => ?_) (fun hc => ?_) | refine cnd_ndec (fun hc => ?_) (fun hc => ?_) | refine cnd_dec' (fun hc => ?_) (fun hc => ?_) | refine fin_nsplit (fun hc => ?_) (fun hc => ?_) | refine fin_split (fun hc => ?_) (fun hc => ?_) | refine cnd_nsplit (fun hc => ?_) (fun hc => ?_) | refine cnd_split (fun hc => ?_) (fun hc => ?_) | refine blk_exit_id ?_)
        · have hw1 := wI (n := q - lenF y (12 - k)) (by omega) (by omega)
          have hk1 : (12 : Int) - k + 1 = 13 - k := by omega
          have hw2 := wI (n := 13 - (k : Int)) (by omega) (by omega)
          have g2' : q < lenF y (12 - k) + tl y k := g2
          refine lp_next (k, q - lenF y (12 - k)) (Wk.sub (by simp [subT, look, hw1, hw2, hk1])) ⟨by simp only []; omega, by simp only []; omega, by simp only []; omega, by simp only []; omega, ?_⟩ (by simp only []; omega)
          rw [← g4]
          simp only [mf]
          rw [if_neg (by omega)]
        · have h7 : mf 12 y r = (12 - (k : Int), q) := by rw [← g4]; simp only [mf]; rw [if_pos (by omega)]
          simp [dateOf, h6, h7, DV.i]
      · have hw1 := wI (n := r - ylen y) (by omega) (by omega)
        have hw2 := wI (n := y + 1) (by omega) (by omega)
        rw [hY] at hw1
        refine lp_next (n, y + 1, r - ylen y) (Wk.sub (by simp [subT, look, hw1, hw2, hY])) ⟨by simp only []; omega, by simp only []; omega, by simp only []; omega, by simp only []; omega, ?_⟩ (by simp only []; omega)
        rw [← h5]
        simp only [yf]
        rw [if_neg (by omega)]
  · rw [if_neg hD] at h
    cases h
    have hc := Nat.zero_add 0
    repeat' (first | (simp only [hc, Tryd.f20, isDay_m, leap_m, clength_m, mEq, hD, AB, PL, RG, LP, TY, Nat.reduceEqDiff, Nat.reduceAdd, Nat.reduceSub, Nat.reduceMul, Nat.reduceLT, Nat.reduceLeDiff, Nat.reduceMod, Nat.reduceDiv, reduceCtorEq, Int.reduceEq, Int.reduceNe, Int.reduceLT, Int.reduceLE, Int.reduceNeg, Int.reduceToNat, Int.reduceAdd, Int.reduceSub, Int.reduceMul, ↓reduceIte, forall_const, eq_self, ne_eq, Option.some.injEq, beq_self_eq_true]) | refine fin_ndec (fun hc => ?_) (fun hc => ?_) | refine fin_dec (fun hc => ?_) (fun hc => ?_) | refine cnd_ndec (fun hc => ?_) (fun hc => ?_) | refine cnd_dec' (fun hc => ?_) (fun hc => ?_) | refine fin_nsplit (fun hc => ?_) (fun hc => ?_) | refine fin_split (fun hc => ?_) (fun hc => ?_) | refine cnd_nsplit (fun hc => ?_) (fun hc => ?_) | refine cnd_split (fun hc => ?_) (fun hc => ?_) | refine blk_exit_id ?_)
    all_goals simp_all [DV.i]

end Go.Ab
