/-
  What the functions of the calendar compute: the day of a date.
-/
import Derived.Test.YtabfdaekbhccnaaDoorAbC4
set_option linter.unusedSimpArgs false
set_option linter.unusedVariables false
namespace Go.Ab
open Go.RowKit Go.Proofs

def msum (y : Int) : Nat → Int
  | 0 => 0
  | n + 1 => msum y n + lenF y (n + 1)

def dbase (y d : Int) : Int := 365 * (y - 2001) + (y - 1) / 4 - 500 - ((y - 1) / 100 - 20) + (y - 1) / 400 - 5 + d - 1

def dayOf (y m d : Int) : List PA :=
  if y < 2001 ∨ 9999 < y then [.i 0, .i 12] else if m < 1 ∨ 12 < m ∨ d < 1 ∨ lenF y m < d then [.i 0, .i 1] else
    if isD (dbase y d + msum y (m.toNat - 1)) = true then [.i (dbase y d + msum y (m.toNat - 1)), .i 0] else [.i 0, .i 12]

def cdayof_m : List PA → Option (List PA) := m3 fun y m d => some (dayOf y m d)

theorem lenF_b (y m : Int) : 28 ≤ lenF y m ∧ lenF y m ≤ 31 := by unfold lenF; split <;> (try split) <;> omega
theorem msum_b (y : Int) : ∀ n : Nat, 0 ≤ msum y n ∧ msum y n ≤ 31 * n
  | 0 => by simp [msum]
  | n + 1 => by have := msum_b y n; have := lenF_b y (n + 1); simp only [msum]; omega

theorem cdayof_ok : PureC Tryd.prog Gt 22 cdayof_m := by
  refine pure_of_awp (X := ctx Tryd.prog Gt [(37, clength_m), (34, isDay_m)]) Tryd.func22 rfl rfl (by kernel_rfl) (by kernel_rfl) (AllOk.cons clength_ok (AllOk.cons isDay_ok AllOk.nil)).kok ?_
  intro args r h0
  obtain ⟨y, m, d, rfl, h⟩ := m3_inv h0
  refine ⟨Nat.le_of_ble_eq_true rfl, ?_⟩
  cases h
  by_cases hy1 : y < 2001
  · skip
    have hc := Nat.zero_add 0
    repeat' (first | (simp only [hc, Tryd.f22, clength_m, isDay_m, mEq, hy1, AB, PL, RG, LP, TY, Nat.reduceEqDiff, Nat.reduceAdd, Nat.reduceSub, Nat.reduceMul, Nat.reduceLT, Nat.reduceLeDiff, Nat.reduceMod, Nat.reduceDiv, reduceCtorEq, Int.reduceEq, Int.reduceNe, Int.reduceLT, Int.reduceLE, Int.reduceNeg, Int.reduceToNat, Int.reduceAdd, Int.reduceSub, Int.reduceMul, ↓reduceIte, forall_const, eq_self, ne_eq, Option.some.injEq, beq_self_eq_true]) | refine fin_ndec (fun hc => ?_) (fun hc => ?_) | refine fin_dec (fun hc => ?_) (fun hc => ?_) | refine cnd_ndec (fun hc => ?_) (fun hc => ?_) | refine cnd_dec' (fun hc => ?_) (fun hc => ?_) | refine fin_nsplit (fun hc => ?_) (fun hc => ?_) | refine fin_split (fun hc => ?_) (fun hc => ?_) | refine cnd_nsplit (fun hc => ?_) (fun hc => ?_) | refine cnd_split (fun hc => ?_) (fun hc => ?_) | refine blk_exit_id ?_)
    all_goals simp_all [dayOf, DV.i]
  by_cases hy2 : 9999 < y
  · skip
    have hc := Nat.zero_add 0
    repeat' (first | (simp only [hc, Tryd.f22, clength_m, isDay_m, mEq, hy1, hy2, AB, PL, RG, LP, TY, Nat.reduceEqDiff, Nat.reduceAdd, Nat.reduceSub, Nat.reduceMul, Nat.reduceLT, Nat.reduceLeDiff, Nat.reduceMod, Nat.reduceDiv, reduceCtorEq, Int.reduceEq, Int.reduceNe, Int.reduceLT, Int.reduceLE, Int.reduceNeg, Int.reduceToNat, Int.reduceAdd, Int.reduceSub, Int.reduceMul, ↓reduceIte, forall_const, eq_self, ne_eq, Option.some.injEq, beq_self_eq_true]) | refine fin_ndec (fun hc => ?_) (fun hc => ?_) | refine fin_dec (fun hc => ?_) (fun hc => ?_) | refine cnd_ndec (fun hc => ?_) (fun hc => ?_) | refine cnd_dec' (fun hc => ?_) (fun hc => ?_) | refine fin_nsplit (fun hc => ?_) (fun hc => ?_) | refine fin_split (fun hc => ?_) (fun hc => ?_) | refine cnd_nsplit (fun hc => ?_) (fun hc => ?_) | refine cnd_split (fun hc => ?_) (fun hc => ?_) | refine blk_exit_id ?_)
    all_goals simp_all [dayOf, DV.i]
  by_cases hm1 : m < 1
  · skip
    have hc := Nat.zero_add 0
    repeat' (first | (simp only [hc, Tryd.f22, clength_m, isDay_m, mEq, hy1, hy2, hm1, AB, PL, RG, LP, TY, Nat.reduceEqDiff, Nat.reduceAdd, Nat.reduceSub, Nat.reduceMul, Nat.reduceLT, Nat.reduceLeDiff, Nat.reduceMod, Nat.reduceDiv, reduceCtorEq, Int.reduceEq, Int.reduceNe, Int.reduceLT, Int.reduceLE, Int.reduceNeg, Int.reduceToNat, Int.reduceAdd, Int.reduceSub, Int.reduceMul, ↓reduceIte, forall_const, eq_self, ne_eq, Option.some.injEq, beq_self_eq_true]) | refine fin_ndec (fun hc => ?_) (fun hc => ?_) | refine fin_dec (fun hc => ?_) (fun hc => ?_) | refine cnd_ndec (fun hc => ?_) (fun hc => ?_) | refine cnd_dec' (fun hc => ?_) (fun hc => ?_) | refine fin_nsplit (fun hc => ?_) (fun hc => ?_) | refine fin_split (fun hc => ?_) (fun hc => ?_) | refine cnd_nsplit (fun hc => ?_) (fun hc => ?_) | refine cnd_split (fun hc => ?_) (fun hc => ?_) | refine blk_exit_id ?_)
    all_goals simp_all [dayOf, DV.i]
  by_cases hm2 : 12 < m
  · skip
    have hc := Nat.zero_add 0
    repeat' (first | (simp only [hc, Tryd.f22, clength_m, isDay_m, mEq, hy1, hy2, hm1, hm2, AB, PL, RG, LP, TY, Nat.reduceEqDiff, Nat.reduceAdd, Nat.reduceSub, Nat.reduceMul, Nat.reduceLT, Nat.reduceLeDiff, Nat.reduceMod, Nat.reduceDiv, reduceCtorEq, Int.reduceEq, Int.reduceNe, Int.reduceLT, Int.reduceLE, Int.reduceNeg, Int.reduceToNat, Int.reduceAdd, Int.reduceSub, Int.reduceMul, ↓reduceIte, forall_const, eq_self, ne_eq, Option.some.injEq, beq_self_eq_true]) | refine fin_ndec (fun hc => ?_) (fun hc => ?_) | refine fin_dec (fun hc => ?_) (fun hc => ?_) | refine cnd_ndec (fun hc => ?_) (fun hc => ?_) | refine cnd_dec' (fun hc => ?_) (fun hc => ?_) | refine fin_nsplit (fun hc => ?_) (fun hc => ?_) | refine fin_split (fun hc => ?_) (fun hc => ?_) | refine cnd_nsplit (fun hc => ?_) (fun hc => ?_) | refine cnd_split (fun hc => ?_) (fun hc => ?_) | refine blk_exit_id ?_)
    all_goals simp_all [dayOf, DV.i]
  by_cases hd1 : d < 1
  · skip
    have hc := Nat.zero_add 0
    repeat' (first | (simp only [hc, Tryd.f22, clength_m, isDay_m, mEq, hy1, hy2, hm1, hm2, hd1, AB, PL, RG, LP, TY, Nat.reduceEqDiff, Nat.reduceAdd, Nat.reduceSub, Nat.reduceMul, Nat.reduceLT, Nat.reduceLeDiff, Nat.reduceMod, Nat.reduceDiv, reduceCtorEq, Int.reduceEq, Int.reduceNe, Int.reduceLT, Int.reduceLE, Int.reduceNeg, Int.reduceToNat, Int.reduceAdd, Int.reduceSub, Int.reduceMul, ↓reduceIte, forall_const, eq_self, ne_eq, Option.some.injEq, beq_self_eq_true]) | refine fin_ndec (fun hc => ?_) (fun hc => ?_) | refine fin_dec (fun hc => ?_) (fun hc => ?_) | refine cnd_ndec (fun hc => ?_) (fun hc => ?_) | refine cnd_dec' (fun hc => ?_) (fun hc => ?_) | refine fin_nsplit (fun hc => ?_) (fun hc => ?_) | refine fin_split (fun hc => ?_) (fun hc => ?_) | refine cnd_nsplit (fun hc => ?_) (fun hc => ?_) | refine cnd_split (fun hc => ?_) (fun hc => ?_) | refine blk_exit_id ?_)
    all_goals simp_all [dayOf, DV.i]
  have hmc : (1 ≤ m ∧ m ≤ 12) = True := by simp; omega
  by_cases hd2 : lenF y m < d
  · skip
    have hc := Nat.zero_add 0
    repeat' (first | (simp only [hc, Tryd.f22, clength_m, isDay_m, mEq, hy1, hy2, hm1, hm2, hd1, hmc, hd2, AB, PL, RG, LP, TY, Nat.reduceEqDiff, Nat.reduceAdd, Nat.reduceSub, Nat.reduceMul, Nat.reduceLT, Nat.reduceLeDiff, Nat.reduceMod, Nat.reduceDiv, reduceCtorEq, Int.reduceEq, Int.reduceNe, Int.reduceLT, Int.reduceLE, Int.reduceNeg, Int.reduceToNat, Int.reduceAdd, Int.reduceSub, Int.reduceMul, ↓reduceIte, forall_const, eq_self, ne_eq, Option.some.injEq, beq_self_eq_true]) | refine fin_ndec (fun hc => ?_) (fun hc => ?_) | refine fin_dec (fun hc => ?_) (fun hc => ?_) | refine cnd_ndec (fun hc => ?_) (fun hc => ?_) | refine cnd_dec' (fun hc => ?_) (fun hc => ?_) | refine fin_nsplit (fun hc => ?_) (fun hc => ?_) | refine fin_split (fun hc => ?_) (fun hc => ?_) | refine cnd_nsplit (fun hc => ?_) (fun hc => ?_) | refine cnd_split (fun hc => ?_) (fun hc => ?_) | refine blk_exit_id ?_)
    all_goals simp_all [dayOf, DV.i]
  have hl := lenF_b y m
  have hb : 0 ≤ dbase y d ∧ dbase y d ≤ 10000000 := by unfold dbase; omega
  have w1 := wI (n := y - 1) (by omega) (by omega)
  have w2 := wI (n := y - 2001) (by omega) (by omega)
  have w3 := wI (n := 365 * (y - 2001)) (by omega) (by omega)
  have e4 : (y - 1).tdiv 4 = (y - 1) / 4 := Int.tdiv_eq_ediv_of_nonneg (by omega)
  have e5 : (y - 1).tdiv 100 = (y - 1) / 100 := Int.tdiv_eq_ediv_of_nonneg (by omega)
  have e6 : (y - 1).tdiv 400 = (y - 1) / 400 := Int.tdiv_eq_ediv_of_nonneg (by omega)
  have w4 := wI (n := (y - 1) / 4) (by omega) (by omega)
  have w5 := wI (n := (y - 1) / 100) (by omega) (by omega)
  have w6 := wI (n := (y - 1) / 400) (by omega) (by omega)
  have w7 := wI (n := 365 * (y - 2001) + (y - 1) / 4) (by omega) (by omega)
  have w8 := wI (n := 365 * (y - 2001) + (y - 1) / 4 - 500) (by omega) (by omega)
  have w9 := wI (n := (y - 1) / 100 - 20) (by omega) (by omega)
  have w10 := wI (n := 365 * (y - 2001) + (y - 1) / 4 - 500 - ((y - 1) / 100 - 20)) (by omega) (by omega)
  have w11 := wI (n := 365 * (y - 2001) + (y - 1) / 4 - 500 - ((y - 1) / 100 - 20) + (y - 1) / 400) (by omega) (by omega)
  have w12 := wI (n := 365 * (y - 2001) + (y - 1) / 4 - 500 - ((y - 1) / 100 - 20) + (y - 1) / 400 - 5) (by omega) (by omega)
  have w13 := wI (n := 365 * (y - 2001) + (y - 1) / 4 - 500 - ((y - 1) / 100 - 20) + (y - 1) / 400 - 5 + d) (by omega) (by omega)
  have w14 := wI (n := 365 * (y - 2001) + (y - 1) / 4 - 500 - ((y - 1) / 100 - 20) + (y - 1) / 400 - 5 + d - 1) (by omega) (by omega)
  have hc := Nat.zero_add 0
  repeat' (first | (simp only [hc, Tryd.f22, clength_m, isDay_m, mEq, hy1, hy2, hm1, hm2, hd1, hmc, hd2, w1, w2, w3, e4, e5, e6, w4, w5, w6, w7, w8, w9, w10, w11, w12, w13, w14, AB, PL, RG, LP, TY, Nat.reduceEqDiff, Nat.reduceAdd, Nat.reduceSub, Nat.reduceMul, Nat.reduceLT, Nat.reduceLeDiff, Nat.reduceMod, Nat.reduceDiv, reduceCtorEq, Int.reduceEq, Int.reduceNe, Int.reduceLT, Int.reduceLE, Int.reduceNeg, Int.reduceToNat, Int.reduceAdd, Int.reduceSub, Int.reduceMul, ↓reduceIte, forall_const, eq_self, ne_eq, Option.some.injEq, beq_self_eq_true]) | refine fin_ndec (fun hc => ?_) (fun hc => ?_) | refine fin_dec (fun hc => ?_) (fun hc => ?_) | refine cnd_ndec (fun hc => ?_) (fun hc => ?_) | refine cnd_dec' (fun hc => ?_) (fun hc => ?_) | refine fin_nsplit (fun hc => ?_) (fun hc => ?_) | refine fin_split (fun hc => ?_) (fun hc => ?_) | refine cnd_nsplit (fun hc => ?_) (fun hc => ?_) | refine cnd_split (fun hc => ?_) (fun hc => ?_) | refine blk_exit_id ?_)
  refine awp_loop (σ := Nat) (fun j => (j : Int) + 1 ≤ m) (fun j => ⟨[(9, AV.i (dbase y d + msum y j)), (10, AV.i (j + 1)), (0, AV.i y), (1, AV.i m)], []⟩) (fun j => m.toNat - j) 0 (Wk.sub (by simp [subT, look, dbase, msum])) (by omega) ?_
  intro j hj
  have hmb := msum_b y j
  have hjc : (1 ≤ (j : Int) + 1 ∧ (j : Int) + 1 ≤ 12) = True := by simp; omega
  have hc := Nat.zero_add 0
  repeat' (first | (simp only [hc, clength_m, isDay_m, mEq, hjc, AB, PL, RG, LP, TY, Nat.reduceEqDiff, Nat.reduceAdd, Nat.reduceSub, Nat.reduceMul, Nat.reduceLT, Nat.reduceLeDiff, Nat.reduceMod, Nat.reduceDiv, reduceCtorEq, Int.reduceEq, Int.reduceNe, Int.reduceLT, Int.reduceLE, Int.reduceNeg, Int.reduceToNat, Int.reduceAdd, Int.reduceSub, Int.reduceMul, ↓reduceIte, forall_const, eq_self, ne_eq, Option.some.injEq, beq_self_eq_true]) | refine fin_ndec (fun hc => ?_) (fun hc => ?_) | refine fin_dec (fun hc => ?_) (fun hc => ?_) | refine cnd_ndec (fun hc => ?_) (fun hc => ?_) | refine cnd_dec' (fun hc => ?_) (fun hc => ?_) | refine fin_nsplit (fun hc => ?_) (fun hc => ?_) | refine fin_split (fun hc => ?_) (fun hc => ?_) | refine cnd_nsplit (fun hc => ?_) (fun hc => ?_) | refine cnd_split (fun hc => ?_) (fun hc => ?_) | refine blk_exit_id ?_)
  · have hl := lenF_b y (j + 1)
    have hw1 := wI (n := dbase y d + msum y j + lenF y (j + 1)) (by omega) (by omega)
    have hw2 := wI (n := (j : Int) + 1 + 1) (by omega) (by omega)
    refine lp_next (j + 1) (Wk.sub (by simp [subT, look, hw1, hw2, msum]; omega)) (by omega) (by omega)
  all_goals
    have hjm : m.toNat - 1 = j := by omega
    simp only [dayOf, hjm]
    rw [if_neg (by omega), if_neg (by omega)]
    simp_all [DV.i]

end Go.Ab
