/-
  The laws of the calendar without the reference: dates back, weeks, steps.
-/
import Derived.Test.YtabfdaekbhccnaaDoorAbC11
set_option linter.unusedSimpArgs false
set_option linter.unusedVariables false
namespace Go.Ab
open Go.RowKit Go.Proofs

theorem dayOf_date {d y m q : Int} (h : IsDate d y m q) (hd : isD d = true) (h1 : 2001 ≤ y) (h2 : y ≤ 9999) : dayOf y m (q + 1) = [.c (.int .i64 d), .c (.int .i64 0)] := by
  obtain ⟨_, g1, g2, g3, g4, g5⟩ := h
  have e : dbase y (q + 1) + msum y (m.toNat - 1) = d := by unfold dbase; unfold cumD at g5; omega
  unfold dayOf
  rw [if_neg (by omega), if_neg (by omega), e, if_pos hd]

theorem next_date {d y m q y' m' q' : Int} (h : IsDate d y m q) (h' : IsDate (d + 1) y' m' q') :
    (y' = y ∧ m' = m ∧ q' = q + 1) ∨ (y' = y ∧ m' = m + 1 ∧ q' = 0 ∧ 27 ≤ q) ∨ (y' = y + 1 ∧ m = 12 ∧ q = 30 ∧ m' = 1 ∧ q' = 0) := by
  have hb := lenF_b y m
  obtain ⟨g0, g1, g2, g3, g4, g5⟩ := h
  by_cases hq : q + 1 < lenF y m
  · left
    have : IsDate (d + 1) y m (q + 1) := ⟨g0, g1, g2, by omega, hq, by omega⟩
    obtain ⟨rfl, rfl, rfl⟩ := h'.unique this
    exact ⟨rfl, rfl, rfl⟩
  · right
    have e := msum_succ y (m.toNat - 1)
    rw [show ((m.toNat - 1 : Nat) : Int) + 1 = m by omega, show m.toNat - 1 + 1 = m.toNat by omega] at e
    by_cases hm : m < 12
    · left
      have hl := lenF_b y (m + 1)
      have : IsDate (d + 1) y (m + 1) 0 := ⟨g0, by omega, by omega, by omega, by omega, by rw [show (m + 1).toNat - 1 = m.toNat by omega]; omega⟩
      obtain ⟨rfl, rfl, rfl⟩ := h'.unique this
      exact ⟨rfl, rfl, rfl, by omega⟩
    · right
      have hm12 : m = 12 := by omega
      subst hm12
      have hl := lenF_b (y + 1) 1
      have h12 : lenF y 12 = 31 := by simp [lenF]
      have hc := cumD_succ g0
      have hy := msum_12 y
      have : IsDate (d + 1) (y + 1) 1 0 := ⟨by omega, by omega, by omega, by omega, by omega, by
        have e1 : msum y (12 : Int).toNat = ylen y := hy
        show cumD (y + 1) + 0 + 0 = d + 1
        omega⟩
      obtain ⟨rfl, rfl, rfl⟩ := h'.unique this
      exact ⟨rfl, rfl, by omega, rfl, rfl⟩

def lDateBack_m : List PA → Option (List PA) := m1 fun _ => some [.b true]
def lWeeks_m : List PA → Option (List PA) := mwi fun _ _ _ _ => some [.b true]
def lSteps_m : List PA → Option (List PA) := mlii fun l _ _ => some [.b true]

theorem lDateBack_ok : PureC Tryd.prog Gt 9 lDateBack_m := by
  refine pure_of_awp (X := ctx Tryd.prog Gt [(20, cdate_m), (22, cdayof_m), (19, awake_m)]) Tryd.func9 rfl rfl (by kernel_rfl) (by kernel_rfl) (AllOk.cons cdate_ok (AllOk.cons cdayof_ok (AllOk.cons awake_ok AllOk.nil))).kok ?_
  intro args r h0
  obtain ⟨d, rfl, h⟩ := m1_inv h0
  refine ⟨Nat.le_of_ble_eq_true rfl, ?_⟩
  cases h
  by_cases hr : d < 0 ∨ 795363 ≤ d
  · by_cases h1 : d < 0
    · skip
      have hc := Nat.zero_add 0
      repeat' (first | (simp only [hc, Tryd.f9, h1, aw, AB, PL, RG, LP, TY, Nat.reduceEqDiff, Nat.reduceAdd, Nat.reduceSub, Nat.reduceMul, Nat.reduceLT, Nat.reduceLeDiff, Nat.reduceMod, Nat.reduceDiv, reduceCtorEq, Int.reduceEq, Int.reduceNe, Int.reduceLT, Int.reduceLE, Int.reduceNeg, Int.reduceToNat, Int.reduceAdd, Int.reduceSub, Int.reduceMul, ↓reduceIte, forall_const, eq_self, ne_eq, Option.some.injEq, beq_self_eq_true]) | refine fin_ndec (fun hc => ?_) (fun hc => ?_) | refine fin_dec (fun hc => ?_) (fun hc => ?_) | refine cnd_ndec (fun hc => ?_) (fun hc => ?_) | refine cnd_dec' (fun hc => ?_) (fun hc => ?_) | refine fin_nsplit (fun hc => ?_) (fun hc => ?_) | refine fin_split (fun hc => ?_) (fun hc => ?_) | refine cnd_nsplit (fun hc => ?_) (fun hc => ?_) | refine cnd_split (fun hc => ?_) (fun hc => ?_) | refine blk_exit_id ?_)
      all_goals simp_all [DV.b]
    · have h2 : 795363 ≤ d := by omega
      have hc := Nat.zero_add 0
      repeat' (first | (simp only [hc, Tryd.f9, h1, h2, aw, AB, PL, RG, LP, TY, Nat.reduceEqDiff, Nat.reduceAdd, Nat.reduceSub, Nat.reduceMul, Nat.reduceLT, Nat.reduceLeDiff, Nat.reduceMod, Nat.reduceDiv, reduceCtorEq, Int.reduceEq, Int.reduceNe, Int.reduceLT, Int.reduceLE, Int.reduceNeg, Int.reduceToNat, Int.reduceAdd, Int.reduceSub, Int.reduceMul, ↓reduceIte, forall_const, eq_self, ne_eq, Option.some.injEq, beq_self_eq_true]) | refine fin_ndec (fun hc => ?_) (fun hc => ?_) | refine fin_dec (fun hc => ?_) (fun hc => ?_) | refine cnd_ndec (fun hc => ?_) (fun hc => ?_) | refine cnd_dec' (fun hc => ?_) (fun hc => ?_) | refine fin_nsplit (fun hc => ?_) (fun hc => ?_) | refine fin_split (fun hc => ?_) (fun hc => ?_) | refine cnd_nsplit (fun hc => ?_) (fun hc => ?_) | refine cnd_split (fun hc => ?_) (fun hc => ?_) | refine blk_exit_id ?_)
      all_goals simp_all [DV.b]
  · have h1 : ¬ d < 0 := by omega
    have h2 : ¬ 795363 ≤ d := by omega
    have hD : isD d = true := isD_iff.2 (by omega)
    have hD1 : isD (d + 1) = true := isD_iff.2 (by omega)
    obtain ⟨y, m, q, e, hI, hy1, hy2⟩ := date_spec hD
    obtain ⟨y', m', q', e', hI', hy1', hy2'⟩ := date_spec hD1
    have c1 : cdate_m [.c (.int .i64 d)] = some [.c (.int .i64 y), .c (.int .i64 m), .c (.int .i64 (q + 1))] := by
      simp only [cdate_m, m1_eq, hD, if_true, date_eq hD, e]
    have c2 : cdate_m [.c (.int .i64 (d + 1))] = some [.c (.int .i64 y'), .c (.int .i64 m'), .c (.int .i64 (q' + 1))] := by
      simp only [cdate_m, m1_eq, hD1, if_true, date_eq hD1, e']
    have c3 : cdayof_m [.c (.int .i64 y), .c (.int .i64 m), .c (.int .i64 (q + 1))] = some [.c (.int .i64 d), .c (.int .i64 0)] := by
      simp only [cdayof_m, m3_eq, dayOf_date hI hD hy1 hy2]
    have hn := next_date hI hI'
    have hb := lenF_b y m
    have hb' := lenF_b y' m'
    obtain ⟨_, _, m12, q0, ql, _⟩ := hI
    obtain ⟨_, _, m12', q0', ql', _⟩ := hI'
    have w1 := wI (n := d + 1) (by omega) (by omega)
    have w2 := wI (n := q + 1 + 1) (by omega) (by omega)
    have w3 := wI (n := m + 1) (by omega) (by omega)
    have w4 := wI (n := y + 1) (by omega) (by omega)
    have b31 : (q' + 1 ≤ 31) = True := eq_true (by omega)
    have b12 : (m' ≤ 12) = True := eq_true (by omega)
    clear e e'
    have n1 : ∀ z : Int, (z = z + 1) = False := fun z => eq_false (by omega)
    have n2 : ∀ z : Int, (z + 1 = z) = False := fun z => eq_false (by omega)
    have n3 : ((1 : Int) = q + 1 + 1) = False := eq_false (by omega)
    have n4 : (q + 1 + 1 = 1) = False := eq_false (by omega)
    rcases hn with ⟨rfl, rfl, rfl⟩ | ⟨rfl, rfl, rfl, h28⟩ | ⟨rfl, rfl, rfl, rfl, rfl⟩
    · skip
      have hc := Nat.zero_add 0
      repeat' (first | (simp only [hc, Tryd.f9, h1, h2, c1, c2, c3, w1, w2, w3, w4, b31, b12, aw, n1, n2, n3, n4, AB, PL, RG, LP, TY, Nat.reduceEqDiff, Nat.reduceAdd, Nat.reduceSub, Nat.reduceMul, Nat.reduceLT, Nat.reduceLeDiff, Nat.reduceMod, Nat.reduceDiv, reduceCtorEq, Int.reduceEq, Int.reduceNe, Int.reduceLT, Int.reduceLE, Int.reduceNeg, Int.reduceToNat, Int.reduceAdd, Int.reduceSub, Int.reduceMul, ↓reduceIte, forall_const, eq_self, ne_eq, Option.some.injEq, beq_self_eq_true]) | refine fin_ndec (fun hc => ?_) (fun hc => ?_) | refine fin_dec (fun hc => ?_) (fun hc => ?_) | refine cnd_ndec (fun hc => ?_) (fun hc => ?_) | refine cnd_dec' (fun hc => ?_) (fun hc => ?_) | refine fin_nsplit (fun hc => ?_) (fun hc => ?_) | refine fin_split (fun hc => ?_) (fun hc => ?_) | refine cnd_nsplit (fun hc => ?_) (fun hc => ?_) | refine cnd_split (fun hc => ?_) (fun hc => ?_) | refine blk_exit_id ?_)
      all_goals first
        | (exfalso; omega)
        | simp_all [DV.b]
    · have n5 : (28 ≤ q + 1) = True := eq_true (by omega)
      simp only [Int.zero_add] at c2
      have hc := Nat.zero_add 0
      repeat' (first | (simp only [hc, Tryd.f9, h1, h2, c1, c2, c3, w1, w2, w3, w4, b31, b12, aw, n1, n2, n3, n4, n5, AB, PL, RG, LP, TY, Nat.reduceEqDiff, Nat.reduceAdd, Nat.reduceSub, Nat.reduceMul, Nat.reduceLT, Nat.reduceLeDiff, Nat.reduceMod, Nat.reduceDiv, reduceCtorEq, Int.reduceEq, Int.reduceNe, Int.reduceLT, Int.reduceLE, Int.reduceNeg, Int.reduceToNat, Int.reduceAdd, Int.reduceSub, Int.reduceMul, ↓reduceIte, forall_const, eq_self, ne_eq, Option.some.injEq, beq_self_eq_true]) | refine fin_ndec (fun hc => ?_) (fun hc => ?_) | refine fin_dec (fun hc => ?_) (fun hc => ?_) | refine cnd_ndec (fun hc => ?_) (fun hc => ?_) | refine cnd_dec' (fun hc => ?_) (fun hc => ?_) | refine fin_nsplit (fun hc => ?_) (fun hc => ?_) | refine fin_split (fun hc => ?_) (fun hc => ?_) | refine cnd_nsplit (fun hc => ?_) (fun hc => ?_) | refine cnd_split (fun hc => ?_) (fun hc => ?_) | refine blk_exit_id ?_)
      all_goals first
        | (exfalso; omega)
        | simp_all [DV.b]
    · simp only [Int.reduceAdd] at c1 c2 c3 w2 w3 b31 b12
      have hc := Nat.zero_add 0
      repeat' (first | (simp only [hc, Tryd.f9, h1, h2, c1, c2, c3, w1, w2, w3, w4, b31, b12, aw, n1, n2, AB, PL, RG, LP, TY, Nat.reduceEqDiff, Nat.reduceAdd, Nat.reduceSub, Nat.reduceMul, Nat.reduceLT, Nat.reduceLeDiff, Nat.reduceMod, Nat.reduceDiv, reduceCtorEq, Int.reduceEq, Int.reduceNe, Int.reduceLT, Int.reduceLE, Int.reduceNeg, Int.reduceToNat, Int.reduceAdd, Int.reduceSub, Int.reduceMul, ↓reduceIte, forall_const, eq_self, ne_eq, Option.some.injEq, beq_self_eq_true]) | refine fin_ndec (fun hc => ?_) (fun hc => ?_) | refine fin_dec (fun hc => ?_) (fun hc => ?_) | refine cnd_ndec (fun hc => ?_) (fun hc => ?_) | refine cnd_dec' (fun hc => ?_) (fun hc => ?_) | refine fin_nsplit (fun hc => ?_) (fun hc => ?_) | refine fin_split (fun hc => ?_) (fun hc => ?_) | refine cnd_nsplit (fun hc => ?_) (fun hc => ?_) | refine cnd_split (fun hc => ?_) (fun hc => ?_) | refine blk_exit_id ?_)
      all_goals first
        | (exfalso; omega)
        | simp_all [DV.b]

theorem lWeeks_ok : PureC Tryd.prog Gt 10 lWeeks_m := by
  refine pure_of_awp (X := ctx Tryd.prog Gt [(13, cday_m), (17, cwd_m), (15, cmin_m), (24, cin_m), (19, awake_m)]) Tryd.func10 rfl rfl (by kernel_rfl) (by kernel_rfl) (AllOk.cons cday_ok (AllOk.cons cwd_ok (AllOk.cons cmin_ok (AllOk.cons cin_ok (AllOk.cons awake_ok AllOk.nil))))).kok ?_
  intro args r h0
  obtain ⟨a, b, c, t, rfl, h⟩ := mwi_inv h0
  refine ⟨Nat.le_of_ble_eq_true rfl, ?_⟩
  cases h
  by_cases h1 : t < 0
  · skip
    have hc := Nat.zero_add 0
    repeat' (first | (simp only [hc, Tryd.f10, h1, aw, AB, PL, RG, LP, TY, Nat.reduceEqDiff, Nat.reduceAdd, Nat.reduceSub, Nat.reduceMul, Nat.reduceLT, Nat.reduceLeDiff, Nat.reduceMod, Nat.reduceDiv, reduceCtorEq, Int.reduceEq, Int.reduceNe, Int.reduceLT, Int.reduceLE, Int.reduceNeg, Int.reduceToNat, Int.reduceAdd, Int.reduceSub, Int.reduceMul, ↓reduceIte, forall_const, eq_self, ne_eq, Option.some.injEq, beq_self_eq_true]) | refine fin_ndec (fun hc => ?_) (fun hc => ?_) | refine fin_dec (fun hc => ?_) (fun hc => ?_) | refine cnd_ndec (fun hc => ?_) (fun hc => ?_) | refine cnd_dec' (fun hc => ?_) (fun hc => ?_) | refine fin_nsplit (fun hc => ?_) (fun hc => ?_) | refine fin_split (fun hc => ?_) (fun hc => ?_) | refine cnd_nsplit (fun hc => ?_) (fun hc => ?_) | refine cnd_split (fun hc => ?_) (fun hc => ?_) | refine blk_exit_id ?_)
    all_goals simp_all [DV.b]
  by_cases h2 : 68718785536 ≤ t
  · skip
    have hc := Nat.zero_add 0
    repeat' (first | (simp only [hc, Tryd.f10, h1, h2, aw, AB, PL, RG, LP, TY, Nat.reduceEqDiff, Nat.reduceAdd, Nat.reduceSub, Nat.reduceMul, Nat.reduceLT, Nat.reduceLeDiff, Nat.reduceMod, Nat.reduceDiv, reduceCtorEq, Int.reduceEq, Int.reduceNe, Int.reduceLT, Int.reduceLE, Int.reduceNeg, Int.reduceToNat, Int.reduceAdd, Int.reduceSub, Int.reduceMul, ↓reduceIte, forall_const, eq_self, ne_eq, Option.some.injEq, beq_self_eq_true]) | refine fin_ndec (fun hc => ?_) (fun hc => ?_) | refine fin_dec (fun hc => ?_) (fun hc => ?_) | refine cnd_ndec (fun hc => ?_) (fun hc => ?_) | refine cnd_dec' (fun hc => ?_) (fun hc => ?_) | refine fin_nsplit (fun hc => ?_) (fun hc => ?_) | refine fin_split (fun hc => ?_) (fun hc => ?_) | refine cnd_nsplit (fun hc => ?_) (fun hc => ?_) | refine cnd_split (fun hc => ?_) (fun hc => ?_) | refine blk_exit_id ?_)
    all_goals simp_all [DV.b]
  have hT : isT t = true := isT_iff.2 (by omega)
  have hU : isT (t + 604800) = true := isT_iff.2 (by omega)
  have w1 := wI (n := t + 604800) (by omega) (by omega)
  have d1 : t.tdiv 86400 = t / 86400 := Int.tdiv_eq_ediv_of_nonneg (by omega)
  have d2 : (t + 604800).tdiv 86400 = t / 86400 + 7 := by rw [Int.tdiv_eq_ediv_of_nonneg (by omega)]; omega
  have f1 : dayF t = t / 86400 := by simp only [dayF, hT, if_true, d1]; exact wI (by omega) (by omega)
  have f2 : dayF (t + 604800) = t / 86400 + 7 := by simp only [dayF, hU, if_true, d2]; exact wI (by omega) (by omega)
  have w2 := wI (n := t / 86400 + 7) (by omega) (by omega)
  have m1 : (t / 86400).tmod 7 = (t / 86400) % 7 := Int.tmod_eq_emod_of_nonneg (by omega)
  have m2 : (t / 86400 + 7).tmod 7 = (t / 86400) % 7 := by rw [Int.tmod_eq_emod_of_nonneg (by omega)]; omega
  have f3 : wdF (t / 86400 + 7) = wdF (t / 86400) := by
    have x1 : isD (t / 86400) = true := isD_iff.2 (by omega)
    have x2 : isD (t / 86400 + 7) = true := isD_iff.2 (by omega)
    simp only [wdF, x1, x2, if_true, m1, m2]
  have r1 : t.tmod 86400 = t % 86400 := Int.tmod_eq_emod_of_nonneg (by omega)
  have r2 : (t + 604800).tmod 86400 = t % 86400 := by rw [Int.tmod_eq_emod_of_nonneg (by omega)]; omega
  have f4 : minF (t + 604800) = minF t := by simp only [minF, hT, hU, if_true, r1, r2]
  have f5 : inB a b c (t + 604800) = inB a b c t := by simp only [inB, hT, hU, d1, d2, m1, m2, f4]
  have hc := Nat.zero_add 0
  repeat' (first | (simp only [hc, Tryd.f10, h1, h2, aw, cday_m, cwd_m, cmin_m, cin_m, mEq, mwi_eq, w1, f1, f2, w2, f3, f4, f5, AB, PL, RG, LP, TY, Nat.reduceEqDiff, Nat.reduceAdd, Nat.reduceSub, Nat.reduceMul, Nat.reduceLT, Nat.reduceLeDiff, Nat.reduceMod, Nat.reduceDiv, reduceCtorEq, Int.reduceEq, Int.reduceNe, Int.reduceLT, Int.reduceLE, Int.reduceNeg, Int.reduceToNat, Int.reduceAdd, Int.reduceSub, Int.reduceMul, ↓reduceIte, forall_const, eq_self, ne_eq, Option.some.injEq, beq_self_eq_true]) | refine fin_ndec (fun hc => ?_) (fun hc => ?_) | refine fin_dec (fun hc => ?_) (fun hc => ?_) | refine cnd_ndec (fun hc => ?_) (fun hc => ?_) | refine cnd_dec' (fun hc => ?_) (fun hc => ?_) | refine fin_nsplit (fun hc => ?_) (fun hc => ?_) | refine fin_split (fun hc => ?_) (fun hc => ?_) | refine cnd_nsplit (fun hc => ?_) (fun hc => ?_) | refine cnd_split (fun hc => ?_) (fun hc => ?_) | refine blk_exit_id ?_)
  all_goals simp_all [DV.b]

def lateR : Option Int → List PA
  | some x => [.c (.int .i64 x), .c (.int .i64 0)]
  | none => [.c (.int .i64 0), .c (.int .i64 12)]
theorem later_eq {l : List Int} {d n : Int} (hD : isD d = true) (h1 : 0 ≤ n) (h2 : n ≤ 4096) : laterOf l d n = lateR (lateF l (795364 - d).toNat d n.toNat) := by
  unfold laterOf
  rw [if_pos hD, if_neg (by omega)]
  cases lateF l (795364 - d).toNat d n.toNat <;> rfl

theorem late_mono (l : List Int) : ∀ (k : Nat) (d : Int) (n : Nat), lateF l k d n = none → lateF l k d (n + 1) = none
  | 0, d, 0, h => by simp [lateF] at h
  | 0, d, n + 1, h => rfl
  | k + 1, d, 0, h => by simp [lateF] at h
  | k + 1, d, n + 1, h => by
    simp only [lateF] at h ⊢
    split
    · rename_i hd
      rw [if_pos hd] at h
      split
      · rename_i hb
        rw [if_pos hb] at h
        exact late_mono l k (d + 1) n h
      · rename_i hb
        rw [if_neg hb] at h
        exact late_mono l k (d + 1) (n + 1) h
    · rfl

theorem late_step (l : List Int) : ∀ (k : Nat) (d : Int) (n : Nat) (a : Int), d + k = 795364 → lateF l k d n = some a → d ≤ a ∧ (d < 795364 → a < 795364) ∧ lateF l k d (n + 1) = lateF l (795364 - a).toNat a 1
  | k, d, 0, a, hk, h => by
    rw [late_zero] at h
    cases h
    exact ⟨Int.le_refl _, fun h => h, by rw [show (795364 - d).toNat = k by omega]⟩
  | 0, d, n + 1, a, hk, h => by simp [lateF] at h
  | k + 1, d, n + 1, a, hk, h => by
    rw [lateF] at h
    rw [lateF]
    split at h
    · rename_i hd
      rw [if_pos hd]
      have hd' := isD_iff.1 hd
      split at h
      · rename_i hb
        rw [if_pos hb]
        obtain ⟨h1, h2, h3⟩ := late_step l k (d + 1) n a (by omega) h
        exact ⟨by omega, fun _ => h2 (by omega), h3⟩
      · rename_i hb
        rw [if_neg hb]
        obtain ⟨h1, h2, h3⟩ := late_step l k (d + 1) (n + 1) a (by omega) h
        exact ⟨by omega, fun _ => h2 (by omega), h3⟩
    · cases h

theorem late_one (l : List Int) : ∀ (k : Nat) (d b : Int), lateF l k d 1 = some b → d < b ∧ busB l b = true
  | 0, d, b, h => by simp [lateF] at h
  | k + 1, d, b, h => by
    rw [lateF] at h
    split at h
    · split at h
      · rename_i hb
        rw [late_zero] at h
        cases h
        exact ⟨by omega, hb⟩
      · obtain ⟨h1, h2⟩ := late_one l k (d + 1) b h
        exact ⟨by omega, h2⟩
    · cases h

theorem lSteps_ok : PureC Tryd.prog Gt 12 lSteps_m := by
  refine pure_of_awp (X := ctx Tryd.prog Gt [(29, clater_m), (31, bus_m), (19, awake_m)]) Tryd.func12 rfl rfl (by kernel_rfl) (by kernel_rfl) (AllOk.cons clater_ok (AllOk.cons bus_ok (AllOk.cons awake_ok AllOk.nil))).kok ?_
  intro args r h0
  obtain ⟨f, l, d, n, rfl, h⟩ := mlii_inv h0
  refine ⟨Nat.le_of_ble_eq_true rfl, ?_⟩
  cases h
  have q1 : ((l.map rowN).length : Int) = l.length := by simp
  by_cases hl : (60 : Int) < l.length
  · skip
    have hc := Nat.zero_add 0
    repeat' (first | (simp only [hc, Tryd.f12, q1, hl, aw, AB, PL, RG, LP, TY, Nat.reduceEqDiff, Nat.reduceAdd, Nat.reduceSub, Nat.reduceMul, Nat.reduceLT, Nat.reduceLeDiff, Nat.reduceMod, Nat.reduceDiv, reduceCtorEq, Int.reduceEq, Int.reduceNe, Int.reduceLT, Int.reduceLE, Int.reduceNeg, Int.reduceToNat, Int.reduceAdd, Int.reduceSub, Int.reduceMul, ↓reduceIte, forall_const, eq_self, ne_eq, Option.some.injEq, beq_self_eq_true]) | refine fin_ndec (fun hc => ?_) (fun hc => ?_) | refine fin_dec (fun hc => ?_) (fun hc => ?_) | refine cnd_ndec (fun hc => ?_) (fun hc => ?_) | refine cnd_dec' (fun hc => ?_) (fun hc => ?_) | refine fin_nsplit (fun hc => ?_) (fun hc => ?_) | refine fin_split (fun hc => ?_) (fun hc => ?_) | refine cnd_nsplit (fun hc => ?_) (fun hc => ?_) | refine cnd_split (fun hc => ?_) (fun hc => ?_) | refine blk_exit_id ?_)
    all_goals simp_all [DV.b]
  by_cases hn1 : n < 0
  · skip
    have hc := Nat.zero_add 0
    repeat' (first | (simp only [hc, Tryd.f12, q1, hl, hn1, aw, AB, PL, RG, LP, TY, Nat.reduceEqDiff, Nat.reduceAdd, Nat.reduceSub, Nat.reduceMul, Nat.reduceLT, Nat.reduceLeDiff, Nat.reduceMod, Nat.reduceDiv, reduceCtorEq, Int.reduceEq, Int.reduceNe, Int.reduceLT, Int.reduceLE, Int.reduceNeg, Int.reduceToNat, Int.reduceAdd, Int.reduceSub, Int.reduceMul, ↓reduceIte, forall_const, eq_self, ne_eq, Option.some.injEq, beq_self_eq_true]) | refine fin_ndec (fun hc => ?_) (fun hc => ?_) | refine fin_dec (fun hc => ?_) (fun hc => ?_) | refine cnd_ndec (fun hc => ?_) (fun hc => ?_) | refine cnd_dec' (fun hc => ?_) (fun hc => ?_) | refine fin_nsplit (fun hc => ?_) (fun hc => ?_) | refine fin_split (fun hc => ?_) (fun hc => ?_) | refine cnd_nsplit (fun hc => ?_) (fun hc => ?_) | refine cnd_split (fun hc => ?_) (fun hc => ?_) | refine blk_exit_id ?_)
    all_goals simp_all [DV.b]
  by_cases hn2 : 4096 ≤ n
  · skip
    have hc := Nat.zero_add 0
    repeat' (first | (simp only [hc, Tryd.f12, q1, hl, hn1, hn2, aw, AB, PL, RG, LP, TY, Nat.reduceEqDiff, Nat.reduceAdd, Nat.reduceSub, Nat.reduceMul, Nat.reduceLT, Nat.reduceLeDiff, Nat.reduceMod, Nat.reduceDiv, reduceCtorEq, Int.reduceEq, Int.reduceNe, Int.reduceLT, Int.reduceLE, Int.reduceNeg, Int.reduceToNat, Int.reduceAdd, Int.reduceSub, Int.reduceMul, ↓reduceIte, forall_const, eq_self, ne_eq, Option.some.injEq, beq_self_eq_true]) | refine fin_ndec (fun hc => ?_) (fun hc => ?_) | refine fin_dec (fun hc => ?_) (fun hc => ?_) | refine cnd_ndec (fun hc => ?_) (fun hc => ?_) | refine cnd_dec' (fun hc => ?_) (fun hc => ?_) | refine fin_nsplit (fun hc => ?_) (fun hc => ?_) | refine fin_split (fun hc => ?_) (fun hc => ?_) | refine cnd_nsplit (fun hc => ?_) (fun hc => ?_) | refine cnd_split (fun hc => ?_) (fun hc => ?_) | refine blk_exit_id ?_)
    all_goals simp_all [DV.b]
  have hl2 : l.length ≤ 1000 := by omega
  have hl3 : l.length ≤ 1000000000000 := by omega
  have w1 := wI (n := n + 1) (by omega) (by omega)
  have cl : ∀ (x y : Int) (p q : Int), laterOf l x y = [.c (.int .i64 p), .c (.int .i64 q)] → clater_m [.c (.sl f (l.map rowN)), .c (.int .i64 x), .c (.int .i64 y)] = some [.c (.int .i64 p), .c (.int .i64 q)] := fun x y p q hpq => by
    simp only [clater_m, mlii_eq, if_pos hl2, hpq]
  have err : laterOf l d n = [.c (.int .i64 0), .c (.int .i64 12)] → laterOf l d (n + 1) = [.c (.int .i64 0), .c (.int .i64 12)] → awp (ctx Tryd.prog Gt [(29, clater_m), (31, bus_m), (19, awake_m)]) (Tryd.f12.body.getD .skip) ⟨argSlots 0 [.c (.sl f (l.map rowN)), .c (.int .i64 d), .c (.int .i64 n)], []⟩ (Rets (ctx Tryd.prog Gt [(29, clater_m), (31, bus_m), (19, awake_m)]) Tryd.f12.results.toList [.c (.bool true)]) := fun e1 e2 => by
    have c1 := cl _ _ _ _ e1
    have c2 := cl _ _ _ _ e2
    have hc := Nat.zero_add 0
    repeat' (first | (simp only [hc, Tryd.f12, Option.getD_some, q1, hl, hn1, hn2, c1, c2, w1, aw, AB, PL, RG, LP, TY, Nat.reduceEqDiff, Nat.reduceAdd, Nat.reduceSub, Nat.reduceMul, Nat.reduceLT, Nat.reduceLeDiff, Nat.reduceMod, Nat.reduceDiv, reduceCtorEq, Int.reduceEq, Int.reduceNe, Int.reduceLT, Int.reduceLE, Int.reduceNeg, Int.reduceToNat, Int.reduceAdd, Int.reduceSub, Int.reduceMul, ↓reduceIte, forall_const, eq_self, ne_eq, Option.some.injEq, beq_self_eq_true]) | refine fin_ndec (fun hc => ?_) (fun hc => ?_) | refine fin_dec (fun hc => ?_) (fun hc => ?_) | refine cnd_ndec (fun hc => ?_) (fun hc => ?_) | refine cnd_dec' (fun hc => ?_) (fun hc => ?_) | refine fin_nsplit (fun hc => ?_) (fun hc => ?_) | refine fin_split (fun hc => ?_) (fun hc => ?_) | refine cnd_nsplit (fun hc => ?_) (fun hc => ?_) | refine cnd_split (fun hc => ?_) (fun hc => ?_) | refine blk_exit_id ?_)
    all_goals simp_all [DV.b]
  by_cases hD : isD d = true
  · have hd := isD_iff.1 hD
    have a1 := later_eq (l := l) hD (n := n) (by omega) (by omega)
    have a2 := later_eq (l := l) hD (n := n + 1) (by omega) (by omega)
    rw [show (n + 1).toNat = n.toNat + 1 by omega] at a2
    cases hA : lateF l (795364 - d).toNat d n.toNat with
    | none =>
      rw [hA] at a1
      rw [late_mono l _ _ _ hA] at a2
      exact err a1 a2
    | some a =>
      obtain ⟨s1, s2, s3⟩ := late_step l _ _ _ _ (by omega) hA
      have hDa : isD a = true := isD_iff.2 (by omega)
      rw [hA] at a1
      rw [s3] at a2
      have a3 := later_eq (l := l) hDa (n := 1) (by omega) (by omega)
      have c1 := cl _ _ _ _ a1
      rw [show (1 : Int).toNat = 1 from rfl] at a3
      cases hB : lateF l (795364 - a).toNat a 1 with
      | none =>
        rw [hB] at a2 a3
        have c2 := cl _ _ _ _ a2
        have c3 := cl _ _ _ _ a3
        have hc := Nat.zero_add 0
        repeat' (first | (simp only [hc, Tryd.f12, q1, hl, hn1, hn2, c1, c2, c3, w1, aw, AB, PL, RG, LP, TY, Nat.reduceEqDiff, Nat.reduceAdd, Nat.reduceSub, Nat.reduceMul, Nat.reduceLT, Nat.reduceLeDiff, Nat.reduceMod, Nat.reduceDiv, reduceCtorEq, Int.reduceEq, Int.reduceNe, Int.reduceLT, Int.reduceLE, Int.reduceNeg, Int.reduceToNat, Int.reduceAdd, Int.reduceSub, Int.reduceMul, ↓reduceIte, forall_const, eq_self, ne_eq, Option.some.injEq, beq_self_eq_true]) | refine fin_ndec (fun hc => ?_) (fun hc => ?_) | refine fin_dec (fun hc => ?_) (fun hc => ?_) | refine cnd_ndec (fun hc => ?_) (fun hc => ?_) | refine cnd_dec' (fun hc => ?_) (fun hc => ?_) | refine fin_nsplit (fun hc => ?_) (fun hc => ?_) | refine fin_split (fun hc => ?_) (fun hc => ?_) | refine cnd_nsplit (fun hc => ?_) (fun hc => ?_) | refine cnd_split (fun hc => ?_) (fun hc => ?_) | refine blk_exit_id ?_)
        all_goals simp_all [DV.b]
      | some b =>
        obtain ⟨t1, t2⟩ := late_one l _ _ _ hB
        rw [hB] at a2 a3
        have c2 := cl _ _ _ _ a2
        have c3 := cl _ _ _ _ a3
        have hc := Nat.zero_add 0
        repeat' (first | (simp only [hc, Tryd.f12, q1, hl, hn1, hn2, c1, c2, c3, w1, aw, bus_m, mli_eq, hl3, t1, t2, AB, PL, RG, LP, TY, Nat.reduceEqDiff, Nat.reduceAdd, Nat.reduceSub, Nat.reduceMul, Nat.reduceLT, Nat.reduceLeDiff, Nat.reduceMod, Nat.reduceDiv, reduceCtorEq, Int.reduceEq, Int.reduceNe, Int.reduceLT, Int.reduceLE, Int.reduceNeg, Int.reduceToNat, Int.reduceAdd, Int.reduceSub, Int.reduceMul, ↓reduceIte, forall_const, eq_self, ne_eq, Option.some.injEq, beq_self_eq_true]) | refine fin_ndec (fun hc => ?_) (fun hc => ?_) | refine fin_dec (fun hc => ?_) (fun hc => ?_) | refine cnd_ndec (fun hc => ?_) (fun hc => ?_) | refine cnd_dec' (fun hc => ?_) (fun hc => ?_) | refine fin_nsplit (fun hc => ?_) (fun hc => ?_) | refine fin_split (fun hc => ?_) (fun hc => ?_) | refine cnd_nsplit (fun hc => ?_) (fun hc => ?_) | refine cnd_split (fun hc => ?_) (fun hc => ?_) | refine blk_exit_id ?_)
        all_goals simp_all [DV.b]
  · have a1 : laterOf l d n = [.i 0, .i 12] := by unfold laterOf; rw [if_neg hD]
    have a2 : laterOf l d (n + 1) = [.i 0, .i 12] := by unfold laterOf; rw [if_neg hD]
    exact err a1 a2

end Go.Ab
