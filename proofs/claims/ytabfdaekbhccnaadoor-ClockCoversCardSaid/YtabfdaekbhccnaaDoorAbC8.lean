/-
  What the functions of the calendar compute: the reference's day of a date; both calendars are one.
-/
import Derived.Test.YtabfdaekbhccnaaDoorAbC7
set_option linter.unusedSimpArgs false
set_option linter.unusedVariables false
namespace Go.Ab
open Go.RowKit Go.Proofs

def cumD (y : Int) : Int := 365 * (y - 2001) + (y - 1) / 4 - 500 - ((y - 1) / 100 - 20) + (y - 1) / 400 - 5

theorem cumD_2001 : cumD 2001 = 0 := by decide
theorem cumD_succ {y : Int} (h : 0 ≤ y) : cumD (y + 1) = cumD y + ylen y := by
  have e1 : y.tmod 4 = y % 4 := Int.tmod_eq_emod_of_nonneg h
  have e2 : y.tmod 100 = y % 100 := Int.tmod_eq_emod_of_nonneg h
  have e3 : y.tmod 400 = y % 400 := Int.tmod_eq_emod_of_nonneg h
  unfold cumD ylen leapB
  simp only [e1, e2, e3, Bool.or_eq_true, Bool.and_eq_true, decide_eq_true_eq, ne_eq]
  split <;> omega
theorem cumD_add {y : Int} (h : 0 ≤ y) : ∀ n : Nat, cumD y + 365 * n ≤ cumD (y + n)
  | 0 => by simp
  | n + 1 => by
    have h1 := cumD_add h n
    have h2 := cumD_succ (y := y + n) (by omega)
    have h3 := ylen_pos (y + n)
    rw [show y + ((n + 1 : Nat) : Int) = y + n + 1 by omega]
    omega
theorem cumD_mono {a b : Int} (h : 0 ≤ a) (hab : a ≤ b) : cumD a ≤ cumD b := by
  have := cumD_add h (b - a).toNat
  rw [show a + (((b - a).toNat : Nat) : Int) = b by omega] at this
  omega
theorem cumD_inj {Y Y' R R' : Int} (h : 0 ≤ Y) (h' : 0 ≤ Y') (e : cumD Y + R = cumD Y' + R') (r1 : 0 ≤ R) (r2 : R < ylen Y) (r3 : 0 ≤ R') (r4 : R' < ylen Y') : Y = Y' ∧ R = R' := by
  rcases Int.lt_trichotomy Y Y' with hlt | heq | hgt
  · have := cumD_mono (a := Y + 1) (by omega) (show Y + 1 ≤ Y' by omega)
    rw [cumD_succ h] at this
    omega
  · subst heq; exact ⟨rfl, by omega⟩
  · have := cumD_mono (a := Y' + 1) (by omega) (show Y' + 1 ≤ Y by omega)
    rw [cumD_succ h'] at this
    omega

theorem yf_spec : ∀ (n : Nat) (y r : Int), 0 ≤ y → 0 ≤ r → r < 365 * n → y ≤ (yf n y r).1 ∧ (yf n y r).1 ≤ y + n ∧ 0 ≤ (yf n y r).2 ∧ (yf n y r).2 < ylen (yf n y r).1 ∧ cumD (yf n y r).1 + (yf n y r).2 = cumD y + r
  | 0, y, r, _, h0, h1 => by simp at h1; omega
  | n + 1, y, r, hy, h0, h1 => by
    simp only [yf]
    split
    · exact ⟨Int.le_refl _, by omega, h0, by assumption, rfl⟩
    · have h2 := ylen_pos y
      have h3 := cumD_succ hy
      have := yf_spec n (y + 1) (r - ylen y) (by omega) (by omega) (by omega)
      omega

theorem mf_spec (y : Int) : ∀ (n : Nat) (r : Int), n ≤ 12 → 0 ≤ r → r < tl y n → 13 - n ≤ (mf n y r).1 ∧ (mf n y r).1 ≤ 12 ∧ 0 ≤ (mf n y r).2 ∧ (mf n y r).2 < lenF y (mf n y r).1 ∧ msum y ((mf n y r).1.toNat - 1) + (mf n y r).2 = msum y (12 - n) + r
  | 0, r, _, h0, h1 => by simp [tl] at h1; omega
  | n + 1, r, hn, h0, h1 => by
    have e0 : ((12 : Int) - n).toNat - 1 = 12 - (n + 1) := by omega
    simp only [mf]
    split
    · refine ⟨by omega, by omega, h0, by assumption, ?_⟩
      simp only [e0]
    · have h2 : r < lenF y (12 - n) + tl y n := h1
      have := mf_spec y n (r - lenF y (12 - n)) (by omega) (by omega) (by omega)
      have e1 : 12 - n = (12 - (n + 1)) + 1 := by omega
      have e2 : msum y (12 - n) = msum y (12 - (n + 1)) + lenF y (12 - n) := by
        rw [e1]; simp only [msum]; congr 1; congr 1; omega
      omega

theorem msum_succ (y : Int) (k : Nat) : msum y (k + 1) = msum y k + lenF y (k + 1) := rfl
theorem msum_mono (y : Int) : ∀ (n k : Nat), msum y k ≤ msum y (k + n)
  | 0, k => by simp
  | n + 1, k => by
    have := msum_mono y n k
    have h2 := lenF_b y ((k + n : Nat) + 1)
    rw [show k + (n + 1) = (k + n) + 1 by omega, msum_succ]
    omega
theorem msum_12 (y : Int) : msum y 12 = ylen y := by
  simp [msum, lenF, ylen]
  split <;> rfl

/-- y, m, q (the days before): the date of day d. -/
def IsDate (d y m q : Int) : Prop := 0 ≤ y ∧ 1 ≤ m ∧ m ≤ 12 ∧ 0 ≤ q ∧ q < lenF y m ∧ cumD y + msum y (m.toNat - 1) + q = d

theorem IsDate.rest {d y m q : Int} (h : IsDate d y m q) : 0 ≤ msum y (m.toNat - 1) + q ∧ msum y (m.toNat - 1) + q < ylen y := by
  obtain ⟨h0, h1, h2, h3, h4, h5⟩ := h
  have hb := msum_b y (m.toNat - 1)
  refine ⟨by omega, ?_⟩
  have e := msum_succ y (m.toNat - 1)
  rw [show ((m.toNat - 1 : Nat) : Int) + 1 = m by omega] at e
  have hm := msum_mono y (12 - m.toNat) (m.toNat - 1 + 1)
  rw [show m.toNat - 1 + 1 + (12 - m.toNat) = 12 by omega, msum_12] at hm
  omega

theorem IsDate.unique {d y m q y' m' q' : Int} (h : IsDate d y m q) (h' : IsDate d y' m' q') : y = y' ∧ m = m' ∧ q = q' := by
  have r1 := h.rest
  have r2 := h'.rest
  obtain ⟨h0, h1, h2, h3, h4, h5⟩ := h
  obtain ⟨g0, g1, g2, g3, g4, g5⟩ := h'
  obtain ⟨rfl, hr⟩ := cumD_inj h0 g0 (R := msum y (m.toNat - 1) + q) (R' := msum y' (m'.toNat - 1) + q') (by omega) r1.1 r1.2 r2.1 r2.2
  have lt : ∀ {m q m' q' : Int}, 1 ≤ m → m < m' → q < lenF y m → 0 ≤ q' → msum y (m.toNat - 1) + q = msum y (m'.toNat - 1) + q' → False := fun {m q m' q'} a1 a2 a3 a4 a5 => by
    have e := msum_succ y (m.toNat - 1)
    rw [show ((m.toNat - 1 : Nat) : Int) + 1 = m by omega] at e
    have hm := msum_mono y (m'.toNat - 1 - m.toNat) (m.toNat - 1 + 1)
    rw [show m.toNat - 1 + 1 + (m'.toNat - 1 - m.toNat) = m'.toNat - 1 by omega] at hm
    omega
  rcases Int.lt_trichotomy m m' with hlt | heq | hgt
  · exact (lt h1 hlt h4 g3 hr).elim
  · subst heq; exact ⟨rfl, rfl, by omega⟩
  · exact (lt g1 hgt g4 h3 hr.symm).elim

theorem date_of {y0 d : Int} (hy : 0 ≤ y0) (h0 : 0 ≤ d) (h1 : d < 803000) : ∃ y m q, dateOf y0 d = [.i y, .i m, .i (q + 1)] ∧ IsDate (cumD y0 + d) y m q ∧ y0 ≤ y ∧ y ≤ y0 + 2200 := by
  obtain ⟨a1, a2, a3, a4, a5⟩ := yf_spec 2200 y0 d hy h0 (by omega)
  obtain ⟨b1, b2, b3, b4, b5⟩ := mf_spec (yf 2200 y0 d).1 12 (yf 2200 y0 d).2 (Nat.le_refl _) a3 (by rw [tl_all]; exact a4)
  have hl := lenF_b (yf 2200 y0 d).1 (mf 12 (yf 2200 y0 d).1 (yf 2200 y0 d).2).1
  refine ⟨_, _, _, ?_, ⟨by omega, by omega, b2, b3, b4, ?_⟩, a1, a2⟩
  · dsimp only [dateOf]
    rw [show W ((mf 12 (yf 2200 y0 d).1 (yf 2200 y0 d).2).2 + 1) = (mf 12 (yf 2200 y0 d).1 (yf 2200 y0 d).2).2 + 1 from wI (by omega) (by omega)]
  · rw [show msum (yf 2200 y0 d).1 (12 - 12) = 0 from rfl] at b5
    omega

theorem date_eq {d : Int} (h : isD d = true) : dateOf (2001 + d / 146097 * 400) (d % 146097) = dateOf 2001 d := by
  have hd := isD_iff.1 h
  obtain ⟨y, m, q, e1, h1, g1, g2⟩ := date_of (y0 := 2001 + d / 146097 * 400) (d := d % 146097) (by omega) (by omega) (by omega)
  obtain ⟨y', m', q', e2, h2, _⟩ := date_of (y0 := 2001) (d := d) (by omega) (by omega) (by omega)
  have e3 : cumD (2001 + d / 146097 * 400) + d % 146097 = cumD 2001 + d := by unfold cumD; omega
  rw [e3] at h1
  obtain ⟨rfl, rfl, rfl⟩ := h1.unique h2
  rw [e1, e2]

theorem date_spec {d : Int} (h : isD d = true) : ∃ y m q, dateOf 2001 d = [.i y, .i m, .i (q + 1)] ∧ IsDate d y m q ∧ 2001 ≤ y ∧ y ≤ 9999 := by
  have hd := isD_iff.1 h
  obtain ⟨y', m', q', e2, h2, h3, h4⟩ := date_of (y0 := 2001) (d := d) (by omega) (by omega) (by omega)
  rw [cumD_2001, Int.zero_add] at h2
  exact ⟨y', m', q', e2, h2, h3, by omega⟩

def rdayof_m : List PA → Option (List PA) := m3 fun y m d => some (dayOf y m d)

theorem rdayof_ok : PureC Tryd.prog Gt 23 rdayof_m := by
  refine pure_of_awp (X := ctx Tryd.prog Gt [(39, rlength_m), (38, ryear_m), (35, risDay_m)]) Tryd.func23 rfl rfl (by kernel_rfl) (by kernel_rfl) (AllOk.cons rlength_ok (AllOk.cons ryear_ok (AllOk.cons risDay_ok AllOk.nil))).kok ?_
  intro args r h0
  obtain ⟨y, m, d, rfl, h⟩ := m3_inv h0
  refine ⟨Nat.le_of_ble_eq_true rfl, ?_⟩
  cases h
  by_cases hy1 : y < 2001
  · skip
    have hc := Nat.zero_add 0
    repeat' (first | (simp only [hc, Tryd.f23, rlength_m, ryear_m, risDay_m, mEq, hy1, AB, PL, RG, LP, TY, Nat.reduceEqDiff, Nat.reduceAdd, Nat.reduceSub, Nat.reduceMul, Nat.reduceLT, Nat.reduceLeDiff, Nat.reduceMod, Nat.reduceDiv, reduceCtorEq, Int.reduceEq, Int.reduceNe, Int.reduceLT, Int.reduceLE, Int.reduceNeg, Int.reduceToNat, Int.reduceAdd, Int.reduceSub, Int.reduceMul, ↓reduceIte, forall_const, eq_self, ne_eq, Option.some.injEq, beq_self_eq_true]) | refine fin_ndec (fun hc => ?_) (fun hc => ?_) | refine fin_dec (fun hc => ?_) (fun hc => ?_) | refine cnd_ndec (fun hc => ?_) (fun hc => ?_) | refine cnd_dec' (fun hc => ?_) (fun hc => ?_) | refine fin_nsplit (fun hc => ?_) (fun hc => ?_) | refine fin_split (fun hc => ?_) (fun hc => ?_) | refine cnd_nsplit (fun hc => ?_) (fun hc => ?_) | refine cnd_split (fun hc => ?_) (fun hc => ?_) | refine blk_exit_id ?_)
    all_goals simp_all [dayOf, DV.i]
  by_cases hy2 : 9999 < y
  · skip
    have hc := Nat.zero_add 0
    repeat' (first | (simp only [hc, Tryd.f23, rlength_m, ryear_m, risDay_m, mEq, hy1, hy2, AB, PL, RG, LP, TY, Nat.reduceEqDiff, Nat.reduceAdd, Nat.reduceSub, Nat.reduceMul, Nat.reduceLT, Nat.reduceLeDiff, Nat.reduceMod, Nat.reduceDiv, reduceCtorEq, Int.reduceEq, Int.reduceNe, Int.reduceLT, Int.reduceLE, Int.reduceNeg, Int.reduceToNat, Int.reduceAdd, Int.reduceSub, Int.reduceMul, ↓reduceIte, forall_const, eq_self, ne_eq, Option.some.injEq, beq_self_eq_true]) | refine fin_ndec (fun hc => ?_) (fun hc => ?_) | refine fin_dec (fun hc => ?_) (fun hc => ?_) | refine cnd_ndec (fun hc => ?_) (fun hc => ?_) | refine cnd_dec' (fun hc => ?_) (fun hc => ?_) | refine fin_nsplit (fun hc => ?_) (fun hc => ?_) | refine fin_split (fun hc => ?_) (fun hc => ?_) | refine cnd_nsplit (fun hc => ?_) (fun hc => ?_) | refine cnd_split (fun hc => ?_) (fun hc => ?_) | refine blk_exit_id ?_)
    all_goals simp_all [dayOf, DV.i]
  by_cases hm1 : m < 1
  · skip
    have hc := Nat.zero_add 0
    repeat' (first | (simp only [hc, Tryd.f23, rlength_m, ryear_m, risDay_m, mEq, hy1, hy2, hm1, AB, PL, RG, LP, TY, Nat.reduceEqDiff, Nat.reduceAdd, Nat.reduceSub, Nat.reduceMul, Nat.reduceLT, Nat.reduceLeDiff, Nat.reduceMod, Nat.reduceDiv, reduceCtorEq, Int.reduceEq, Int.reduceNe, Int.reduceLT, Int.reduceLE, Int.reduceNeg, Int.reduceToNat, Int.reduceAdd, Int.reduceSub, Int.reduceMul, ↓reduceIte, forall_const, eq_self, ne_eq, Option.some.injEq, beq_self_eq_true]) | refine fin_ndec (fun hc => ?_) (fun hc => ?_) | refine fin_dec (fun hc => ?_) (fun hc => ?_) | refine cnd_ndec (fun hc => ?_) (fun hc => ?_) | refine cnd_dec' (fun hc => ?_) (fun hc => ?_) | refine fin_nsplit (fun hc => ?_) (fun hc => ?_) | refine fin_split (fun hc => ?_) (fun hc => ?_) | refine cnd_nsplit (fun hc => ?_) (fun hc => ?_) | refine cnd_split (fun hc => ?_) (fun hc => ?_) | refine blk_exit_id ?_)
    all_goals simp_all [dayOf, DV.i]
  by_cases hm2 : 12 < m
  · skip
    have hc := Nat.zero_add 0
    repeat' (first | (simp only [hc, Tryd.f23, rlength_m, ryear_m, risDay_m, mEq, hy1, hy2, hm1, hm2, AB, PL, RG, LP, TY, Nat.reduceEqDiff, Nat.reduceAdd, Nat.reduceSub, Nat.reduceMul, Nat.reduceLT, Nat.reduceLeDiff, Nat.reduceMod, Nat.reduceDiv, reduceCtorEq, Int.reduceEq, Int.reduceNe, Int.reduceLT, Int.reduceLE, Int.reduceNeg, Int.reduceToNat, Int.reduceAdd, Int.reduceSub, Int.reduceMul, ↓reduceIte, forall_const, eq_self, ne_eq, Option.some.injEq, beq_self_eq_true]) | refine fin_ndec (fun hc => ?_) (fun hc => ?_) | refine fin_dec (fun hc => ?_) (fun hc => ?_) | refine cnd_ndec (fun hc => ?_) (fun hc => ?_) | refine cnd_dec' (fun hc => ?_) (fun hc => ?_) | refine fin_nsplit (fun hc => ?_) (fun hc => ?_) | refine fin_split (fun hc => ?_) (fun hc => ?_) | refine cnd_nsplit (fun hc => ?_) (fun hc => ?_) | refine cnd_split (fun hc => ?_) (fun hc => ?_) | refine blk_exit_id ?_)
    all_goals simp_all [dayOf, DV.i]
  by_cases hd1 : d < 1
  · skip
    have hc := Nat.zero_add 0
    repeat' (first | (simp only [hc, Tryd.f23, rlength_m, ryear_m, risDay_m, mEq, hy1, hy2, hm1, hm2, hd1, AB, PL, RG, LP, TY, Nat.reduceEqDiff, Nat.reduceAdd, Nat.reduceSub, Nat.reduceMul, Nat.reduceLT, Nat.reduceLeDiff, Nat.reduceMod, Nat.reduceDiv, reduceCtorEq, Int.reduceEq, Int.reduceNe, Int.reduceLT, Int.reduceLE, Int.reduceNeg, Int.reduceToNat, Int.reduceAdd, Int.reduceSub, Int.reduceMul, ↓reduceIte, forall_const, eq_self, ne_eq, Option.some.injEq, beq_self_eq_true]) | refine fin_ndec (fun hc => ?_) (fun hc => ?_) | refine fin_dec (fun hc => ?_) (fun hc => ?_) | refine cnd_ndec (fun hc => ?_) (fun hc => ?_) | refine cnd_dec' (fun hc => ?_) (fun hc => ?_) | refine fin_nsplit (fun hc => ?_) (fun hc => ?_) | refine fin_split (fun hc => ?_) (fun hc => ?_) | refine cnd_nsplit (fun hc => ?_) (fun hc => ?_) | refine cnd_split (fun hc => ?_) (fun hc => ?_) | refine blk_exit_id ?_)
    all_goals simp_all [dayOf, DV.i]
  by_cases hd2 : lenF y m < d
  · skip
    have hc := Nat.zero_add 0
    repeat' (first | (simp only [hc, Tryd.f23, rlength_m, ryear_m, risDay_m, mEq, hy1, hy2, hm1, hm2, hd1, hd2, AB, PL, RG, LP, TY, Nat.reduceEqDiff, Nat.reduceAdd, Nat.reduceSub, Nat.reduceMul, Nat.reduceLT, Nat.reduceLeDiff, Nat.reduceMod, Nat.reduceDiv, reduceCtorEq, Int.reduceEq, Int.reduceNe, Int.reduceLT, Int.reduceLE, Int.reduceNeg, Int.reduceToNat, Int.reduceAdd, Int.reduceSub, Int.reduceMul, ↓reduceIte, forall_const, eq_self, ne_eq, Option.some.injEq, beq_self_eq_true]) | refine fin_ndec (fun hc => ?_) (fun hc => ?_) | refine fin_dec (fun hc => ?_) (fun hc => ?_) | refine cnd_ndec (fun hc => ?_) (fun hc => ?_) | refine cnd_dec' (fun hc => ?_) (fun hc => ?_) | refine fin_nsplit (fun hc => ?_) (fun hc => ?_) | refine fin_split (fun hc => ?_) (fun hc => ?_) | refine cnd_nsplit (fun hc => ?_) (fun hc => ?_) | refine cnd_split (fun hc => ?_) (fun hc => ?_) | refine blk_exit_id ?_)
    all_goals simp_all [dayOf, DV.i]
  have hl := lenF_b y m
  have w1 := wI (n := d - 1) (by omega) (by omega)
  have hc := Nat.zero_add 0
  repeat' (first | (simp only [hc, Tryd.f23, rlength_m, ryear_m, risDay_m, mEq, hy1, hy2, hm1, hm2, hd1, hd2, w1, AB, PL, RG, LP, TY, Nat.reduceEqDiff, Nat.reduceAdd, Nat.reduceSub, Nat.reduceMul, Nat.reduceLT, Nat.reduceLeDiff, Nat.reduceMod, Nat.reduceDiv, reduceCtorEq, Int.reduceEq, Int.reduceNe, Int.reduceLT, Int.reduceLE, Int.reduceNeg, Int.reduceToNat, Int.reduceAdd, Int.reduceSub, Int.reduceMul, ↓reduceIte, forall_const, eq_self, ne_eq, Option.some.injEq, beq_self_eq_true]) | refine fin_ndec (fun hc => ?_) (fun hc => ?_) | refine fin_dec (fun hc => ?_) (fun hc => ?_) | refine cnd_ndec (fun hc => ?_) (fun hc => ?_) | refine cnd_dec' (fun hc => ?_) (fun hc => ?_) | refine fin_nsplit (fun hc => ?_) (fun hc => ?_) | refine fin_split (fun hc => ?_) (fun hc => ?_) | refine cnd_nsplit (fun hc => ?_) (fun hc => ?_) | refine cnd_split (fun hc => ?_) (fun hc => ?_) | refine blk_exit_id ?_)
  refine awp_loop (σ := Nat) (fun j => 2001 + (j : Int) ≤ y) (fun j => ⟨[(8, AV.i (cumD (2001 + j) + d - 1)), (9, AV.i (2001 + j)), (0, AV.i y), (1, AV.i m)], []⟩) (fun j => (y - 2001 - j).toNat) 0 (Wk.sub (by simp [subT, look, cumD_2001])) (by omega) ?_
  intro j hj
  have hyl := ylen_pos (2001 + j)
  have hyl' : (if leapB (2001 + (j : Int)) = true then (366 : Int) else 365) = ylen (2001 + j) := rfl
  have hcs := cumD_succ (y := 2001 + j) (by omega)
  have hcb : 0 ≤ cumD (2001 + j) ∧ cumD (2001 + j) ≤ 10000000 := by unfold cumD; omega
  have hc := Nat.zero_add 0
  repeat' (first | (simp only [hc, rlength_m, ryear_m, risDay_m, mEq, hyl', AB, PL, RG, LP, TY, Nat.reduceEqDiff, Nat.reduceAdd, Nat.reduceSub, Nat.reduceMul, Nat.reduceLT, Nat.reduceLeDiff, Nat.reduceMod, Nat.reduceDiv, reduceCtorEq, Int.reduceEq, Int.reduceNe, Int.reduceLT, Int.reduceLE, Int.reduceNeg, Int.reduceToNat, Int.reduceAdd, Int.reduceSub, Int.reduceMul, ↓reduceIte, forall_const, eq_self, ne_eq, Option.some.injEq, beq_self_eq_true]) | refine fin_ndec (fun hc => ?_) (fun hc => ?_) | refine fin_dec (fun hc => ?_) (fun hc => ?_) | refine cnd_ndec (fun hc => ?_) (fun hc => ?_) | refine cnd_dec' (fun hc => ?_) (fun hc => ?_) | refine fin_nsplit (fun hc => ?_) (fun hc => ?_) | refine fin_split (fun hc => ?_) (fun hc => ?_) | refine cnd_nsplit (fun hc => ?_) (fun hc => ?_) | refine cnd_split (fun hc => ?_) (fun hc => ?_) | refine blk_exit_id ?_)
  · have hw1 := wI (n := cumD (2001 + j) + d - 1 + ylen (2001 + j)) (by omega) (by omega)
    have hw2 := wI (n := 2001 + (j : Int) + 1) (by omega) (by omega)
    refine lp_next (j + 1) (Wk.sub (by simp [subT, look, hw1, hw2]; rw [show (2001 : Int) + (j + 1) = 2001 + j + 1 by omega, hcs]; omega)) (by omega) (by omega)
  have hjy : 2001 + (j : Int) = y := by omega
  rw [hjy] at hcb ⊢
  refine awp_loop (σ := Nat) (fun j => (j : Int) + 1 ≤ m) (fun j => ⟨[(8, AV.i (dbase y d + msum y j)), (10, AV.i (j + 1)), (0, AV.i y), (1, AV.i m)], []⟩) (fun j => m.toNat - j) 0 (Wk.sub (by simp [subT, look, dbase, msum, cumD])) (by omega) ?_
  intro k hk
  have hmb := msum_b y k
  have hb : 0 ≤ dbase y d ∧ dbase y d ≤ 10000100 := by unfold dbase; unfold cumD at hcb; omega
  have hc := Nat.zero_add 0
  repeat' (first | (simp only [hc, rlength_m, ryear_m, risDay_m, mEq, AB, PL, RG, LP, TY, Nat.reduceEqDiff, Nat.reduceAdd, Nat.reduceSub, Nat.reduceMul, Nat.reduceLT, Nat.reduceLeDiff, Nat.reduceMod, Nat.reduceDiv, reduceCtorEq, Int.reduceEq, Int.reduceNe, Int.reduceLT, Int.reduceLE, Int.reduceNeg, Int.reduceToNat, Int.reduceAdd, Int.reduceSub, Int.reduceMul, ↓reduceIte, forall_const, eq_self, ne_eq, Option.some.injEq, beq_self_eq_true]) | refine fin_ndec (fun hc => ?_) (fun hc => ?_) | refine fin_dec (fun hc => ?_) (fun hc => ?_) | refine cnd_ndec (fun hc => ?_) (fun hc => ?_) | refine cnd_dec' (fun hc => ?_) (fun hc => ?_) | refine fin_nsplit (fun hc => ?_) (fun hc => ?_) | refine fin_split (fun hc => ?_) (fun hc => ?_) | refine cnd_nsplit (fun hc => ?_) (fun hc => ?_) | refine cnd_split (fun hc => ?_) (fun hc => ?_) | refine blk_exit_id ?_)
  · have hl := lenF_b y (k + 1)
    have hw1 := wI (n := dbase y d + msum y k + lenF y (k + 1)) (by omega) (by omega)
    have hw2 := wI (n := (k : Int) + 1 + 1) (by omega) (by omega)
    refine lp_next (k + 1) (Wk.sub (by simp [subT, look, hw1, hw2, msum]; omega)) (by omega) (by omega)
  all_goals
    have hjm : m.toNat - 1 = k := by omega
    simp only [dayOf, hjm]
    rw [if_neg (by omega), if_neg (by omega)]
    simp_all [DV.i]

end Go.Ab
