/-
  What the small functions of the calendar compute.
-/
import Derived.Test.YtabfdaekbhccnaaDoorAbT
set_option linter.unusedSimpArgs false
set_option linter.unusedVariables false
namespace Go.Ab
open Go.RowKit Go.Proofs

abbrev DV.i (n : Int) : PA := .c (.int .i64 n)
abbrev DV.b (b : Bool) : PA := .c (.bool b)
abbrev W (n : Int) : Int := IntKind.i64.wrap n

def m1 (g : Int → Option (List PA)) : List PA → Option (List PA)
  | [.c (.int .i64 a)] => g a
  | _ => none
theorem m1_inv {g : Int → Option (List PA)} {args r : List PA} (h : m1 g args = some r) : ∃ a, args = [.c (.int .i64 a)] ∧ g a = some r := by
  unfold m1 at h
  split at h
  · exact ⟨_, rfl, h⟩
  · cases h
theorem m1_eq {g : Int → Option (List PA)} {a : Int} : m1 g [.c (.int .i64 a)] = g a := rfl
def m2 (g : Int → Int → Option (List PA)) : List PA → Option (List PA)
  | [.c (.int .i64 a), .c (.int .i64 b)] => g a b
  | _ => none
theorem m2_inv {g : Int → Int → Option (List PA)} {args r : List PA} (h : m2 g args = some r) : ∃ a b, args = [.c (.int .i64 a), .c (.int .i64 b)] ∧ g a b = some r := by
  unfold m2 at h
  split at h
  · exact ⟨_, _, rfl, h⟩
  · cases h
theorem m2_eq {g : Int → Int → Option (List PA)} {a b : Int} : m2 g [.c (.int .i64 a), .c (.int .i64 b)] = g a b := rfl
def m3 (g : Int → Int → Int → Option (List PA)) : List PA → Option (List PA)
  | [.c (.int .i64 a), .c (.int .i64 b), .c (.int .i64 c)] => g a b c
  | _ => none
theorem m3_inv {g : Int → Int → Int → Option (List PA)} {args r : List PA} (h : m3 g args = some r) : ∃ a b c, args = [.c (.int .i64 a), .c (.int .i64 b), .c (.int .i64 c)] ∧ g a b c = some r := by
  unfold m3 at h
  split at h
  · exact ⟨_, _, _, rfl, h⟩
  · cases h
theorem m3_eq {g : Int → Int → Int → Option (List PA)} {a b c : Int} : m3 g [.c (.int .i64 a), .c (.int .i64 b), .c (.int .i64 c)] = g a b c := rfl
def m0 (v : Option (List PA)) : List PA → Option (List PA)
  | [] => v
  | _ => none
theorem m0_inv {v : Option (List PA)} {args r : List PA} (h : m0 v args = some r) : args = [] ∧ v = some r := by
  unfold m0 at h
  split at h
  · exact ⟨rfl, h⟩
  · cases h
theorem m0_eq {v : Option (List PA)} : m0 v [] = v := rfl

theorem mEq : (∀ (g : Int → Option (List PA)) (a : Int), m1 g [.c (.int .i64 a)] = g a) ∧ (∀ (g : Int → Int → Option (List PA)) (a b : Int), m2 g [.c (.int .i64 a), .c (.int .i64 b)] = g a b) ∧
    (∀ (g : Int → Int → Int → Option (List PA)) (a b c : Int), m3 g [.c (.int .i64 a), .c (.int .i64 b), .c (.int .i64 c)] = g a b c) ∧ ∀ (v : Option (List PA)), m0 v [] = v := ⟨fun _ _ => rfl, fun _ _ _ => rfl, fun _ _ _ _ => rfl, fun _ => rfl⟩

def isT (t : Int) : Bool := decide (0 ≤ t) && decide (t < 68719476736)
def isD (t : Int) : Bool := decide (0 ≤ t) && decide (t < 795364)
def leapB (y : Int) : Bool := (decide (y.tmod 4 = 0) && decide (y.tmod 100 ≠ 0)) || decide (y.tmod 400 = 0)
def dayF (t : Int) : Int := if isT t = true then W (t.tdiv 86400) else -1
def minF (t : Int) : Int := if isT t = true then W ((t.tmod 86400).tdiv 60) else -1
def wdF (t : Int) : Int := if isD t = true then t.tmod 7 else -1

def isTime_m : List PA → Option (List PA) := m1 fun t => some [.b (isT t)]
def risTime_m : List PA → Option (List PA) := m1 fun t => some [.b (isT t)]
def isDay_m : List PA → Option (List PA) := m1 fun t => some [.b (isD t)]
def risDay_m : List PA → Option (List PA) := m1 fun t => some [.b (isD t)]
def leap_m : List PA → Option (List PA) := m1 fun t => some [.b (leapB t)]
def rleap_m : List PA → Option (List PA) := m1 fun t => some [.b (leapB t)]
def cday_m : List PA → Option (List PA) := m1 fun t => some [.i (dayF t)]
def rday_m : List PA → Option (List PA) := m1 fun t => some [.i (dayF t)]
def cmin_m : List PA → Option (List PA) := m1 fun t => some [.i (minF t)]
def rmin_m : List PA → Option (List PA) := m1 fun t => some [.i (minF t)]
def cwd_m : List PA → Option (List PA) := m1 fun t => some [.i (wdF t)]
def rwd_m : List PA → Option (List PA) := m1 fun t => some [.i (wdF t)]
def ryear_m : List PA → Option (List PA) := m1 fun y => some [.i (if leapB y = true then 366 else 365)]

theorem isTime_ok : PureC Tryd.prog Gt 32 isTime_m := by
  refine pure_of_awp (X := ctx Tryd.prog Gt []) Tryd.func32 rfl rfl (by kernel_rfl) (by kernel_rfl) AllOk.nil.kok ?_
  intro args r h0
  obtain ⟨y, rfl, h⟩ := m1_inv h0
  refine ⟨Nat.le_of_ble_eq_true rfl, ?_⟩
  cases h
  have hc := Nat.zero_add 0
  repeat' (first | (simp only [hc, Tryd.f32, AB, PL, RG, LP, TY, Nat.reduceEqDiff, Nat.reduceAdd, Nat.reduceSub, Nat.reduceMul, Nat.reduceLT, Nat.reduceLeDiff, Nat.reduceMod, Nat.reduceDiv, reduceCtorEq, Int.reduceEq, Int.reduceNe, Int.reduceLT, Int.reduceLE, Int.reduceNeg, Int.reduceToNat, Int.reduceAdd, Int.reduceSub, Int.reduceMul, ↓reduceIte, forall_const, eq_self, ne_eq, Option.some.injEq, beq_self_eq_true]) | refine fin_ndec (fun hc => ?_) (fun hc => ?_) | refine fin_dec (fun hc => ?_) (fun hc => ?_) | refine cnd_ndec (fun hc => ?_) (fun hc => ?_) | refine cnd_dec' (fun hc => ?_) (fun hc => ?_) | refine fin_nsplit (fun hc => ?_) (fun hc => ?_) | refine fin_split (fun hc => ?_) (fun hc => ?_) | refine cnd_nsplit (fun hc => ?_) (fun hc => ?_) | refine cnd_split (fun hc => ?_) (fun hc => ?_) | refine blk_exit_id ?_)
  all_goals (simp_all [isT, DV.b]; try omega)

theorem risTime_ok : PureC Tryd.prog Gt 33 risTime_m := by
  refine pure_of_awp (X := ctx Tryd.prog Gt []) Tryd.func33 rfl rfl (by kernel_rfl) (by kernel_rfl) AllOk.nil.kok ?_
  intro args r h0
  obtain ⟨y, rfl, h⟩ := m1_inv h0
  refine ⟨Nat.le_of_ble_eq_true rfl, ?_⟩
  cases h
  have hc := Nat.zero_add 0
  repeat' (first | (simp only [hc, Tryd.f33, AB, PL, RG, LP, TY, Nat.reduceEqDiff, Nat.reduceAdd, Nat.reduceSub, Nat.reduceMul, Nat.reduceLT, Nat.reduceLeDiff, Nat.reduceMod, Nat.reduceDiv, reduceCtorEq, Int.reduceEq, Int.reduceNe, Int.reduceLT, Int.reduceLE, Int.reduceNeg, Int.reduceToNat, Int.reduceAdd, Int.reduceSub, Int.reduceMul, ↓reduceIte, forall_const, eq_self, ne_eq, Option.some.injEq, beq_self_eq_true]) | refine fin_ndec (fun hc => ?_) (fun hc => ?_) | refine fin_dec (fun hc => ?_) (fun hc => ?_) | refine cnd_ndec (fun hc => ?_) (fun hc => ?_) | refine cnd_dec' (fun hc => ?_) (fun hc => ?_) | refine fin_nsplit (fun hc => ?_) (fun hc => ?_) | refine fin_split (fun hc => ?_) (fun hc => ?_) | refine cnd_nsplit (fun hc => ?_) (fun hc => ?_) | refine cnd_split (fun hc => ?_) (fun hc => ?_) | refine blk_exit_id ?_)
  all_goals (simp_all [isT, DV.b]; try omega)

theorem isDay_ok : PureC Tryd.prog Gt 34 isDay_m := by
  refine pure_of_awp (X := ctx Tryd.prog Gt []) Tryd.func34 rfl rfl (by kernel_rfl) (by kernel_rfl) AllOk.nil.kok ?_
  intro args r h0
  obtain ⟨y, rfl, h⟩ := m1_inv h0
  refine ⟨Nat.le_of_ble_eq_true rfl, ?_⟩
  cases h
  have hc := Nat.zero_add 0
  repeat' (first | (simp only [hc, Tryd.f34, AB, PL, RG, LP, TY, Nat.reduceEqDiff, Nat.reduceAdd, Nat.reduceSub, Nat.reduceMul, Nat.reduceLT, Nat.reduceLeDiff, Nat.reduceMod, Nat.reduceDiv, reduceCtorEq, Int.reduceEq, Int.reduceNe, Int.reduceLT, Int.reduceLE, Int.reduceNeg, Int.reduceToNat, Int.reduceAdd, Int.reduceSub, Int.reduceMul, ↓reduceIte, forall_const, eq_self, ne_eq, Option.some.injEq, beq_self_eq_true]) | refine fin_ndec (fun hc => ?_) (fun hc => ?_) | refine fin_dec (fun hc => ?_) (fun hc => ?_) | refine cnd_ndec (fun hc => ?_) (fun hc => ?_) | refine cnd_dec' (fun hc => ?_) (fun hc => ?_) | refine fin_nsplit (fun hc => ?_) (fun hc => ?_) | refine fin_split (fun hc => ?_) (fun hc => ?_) | refine cnd_nsplit (fun hc => ?_) (fun hc => ?_) | refine cnd_split (fun hc => ?_) (fun hc => ?_) | refine blk_exit_id ?_)
  all_goals (simp_all [isD, DV.b]; try omega)

theorem risDay_ok : PureC Tryd.prog Gt 35 risDay_m := by
  refine pure_of_awp (X := ctx Tryd.prog Gt []) Tryd.func35 rfl rfl (by kernel_rfl) (by kernel_rfl) AllOk.nil.kok ?_
  intro args r h0
  obtain ⟨y, rfl, h⟩ := m1_inv h0
  refine ⟨Nat.le_of_ble_eq_true rfl, ?_⟩
  cases h
  have hc := Nat.zero_add 0
  repeat' (first | (simp only [hc, Tryd.f35, AB, PL, RG, LP, TY, Nat.reduceEqDiff, Nat.reduceAdd, Nat.reduceSub, Nat.reduceMul, Nat.reduceLT, Nat.reduceLeDiff, Nat.reduceMod, Nat.reduceDiv, reduceCtorEq, Int.reduceEq, Int.reduceNe, Int.reduceLT, Int.reduceLE, Int.reduceNeg, Int.reduceToNat, Int.reduceAdd, Int.reduceSub, Int.reduceMul, ↓reduceIte, forall_const, eq_self, ne_eq, Option.some.injEq, beq_self_eq_true]) | refine fin_ndec (fun hc => ?_) (fun hc => ?_) | refine fin_dec (fun hc => ?_) (fun hc => ?_) | refine cnd_ndec (fun hc => ?_) (fun hc => ?_) | refine cnd_dec' (fun hc => ?_) (fun hc => ?_) | refine fin_nsplit (fun hc => ?_) (fun hc => ?_) | refine fin_split (fun hc => ?_) (fun hc => ?_) | refine cnd_nsplit (fun hc => ?_) (fun hc => ?_) | refine cnd_split (fun hc => ?_) (fun hc => ?_) | refine blk_exit_id ?_)
  all_goals (simp_all [isD, DV.b]; try omega)

theorem leap_ok : PureC Tryd.prog Gt 36 leap_m := by
  refine pure_of_awp (X := ctx Tryd.prog Gt []) Tryd.func36 rfl rfl (by kernel_rfl) (by kernel_rfl) AllOk.nil.kok ?_
  intro args r h0
  obtain ⟨y, rfl, h⟩ := m1_inv h0
  refine ⟨Nat.le_of_ble_eq_true rfl, ?_⟩
  cases h
  have hc := Nat.zero_add 0
  repeat' (first | (simp only [hc, Tryd.f36, AB, PL, RG, LP, TY, Nat.reduceEqDiff, Nat.reduceAdd, Nat.reduceSub, Nat.reduceMul, Nat.reduceLT, Nat.reduceLeDiff, Nat.reduceMod, Nat.reduceDiv, reduceCtorEq, Int.reduceEq, Int.reduceNe, Int.reduceLT, Int.reduceLE, Int.reduceNeg, Int.reduceToNat, Int.reduceAdd, Int.reduceSub, Int.reduceMul, ↓reduceIte, forall_const, eq_self, ne_eq, Option.some.injEq, beq_self_eq_true]) | refine fin_ndec (fun hc => ?_) (fun hc => ?_) | refine fin_dec (fun hc => ?_) (fun hc => ?_) | refine cnd_ndec (fun hc => ?_) (fun hc => ?_) | refine cnd_dec' (fun hc => ?_) (fun hc => ?_) | refine fin_nsplit (fun hc => ?_) (fun hc => ?_) | refine fin_split (fun hc => ?_) (fun hc => ?_) | refine cnd_nsplit (fun hc => ?_) (fun hc => ?_) | refine cnd_split (fun hc => ?_) (fun hc => ?_) | refine blk_exit_id ?_)
  all_goals simp_all [leapB, DV.b]

theorem rleap_ok : PureC Tryd.prog Gt 45 rleap_m := by
  refine pure_of_awp (X := ctx Tryd.prog Gt []) Tryd.func45 rfl rfl (by kernel_rfl) (by kernel_rfl) AllOk.nil.kok ?_
  intro args r h0
  obtain ⟨y, rfl, h⟩ := m1_inv h0
  refine ⟨Nat.le_of_ble_eq_true rfl, ?_⟩
  cases h
  have hc := Nat.zero_add 0
  repeat' (first | (simp only [hc, Tryd.f45, AB, PL, RG, LP, TY, Nat.reduceEqDiff, Nat.reduceAdd, Nat.reduceSub, Nat.reduceMul, Nat.reduceLT, Nat.reduceLeDiff, Nat.reduceMod, Nat.reduceDiv, reduceCtorEq, Int.reduceEq, Int.reduceNe, Int.reduceLT, Int.reduceLE, Int.reduceNeg, Int.reduceToNat, Int.reduceAdd, Int.reduceSub, Int.reduceMul, ↓reduceIte, forall_const, eq_self, ne_eq, Option.some.injEq, beq_self_eq_true]) | refine fin_ndec (fun hc => ?_) (fun hc => ?_) | refine fin_dec (fun hc => ?_) (fun hc => ?_) | refine cnd_ndec (fun hc => ?_) (fun hc => ?_) | refine cnd_dec' (fun hc => ?_) (fun hc => ?_) | refine fin_nsplit (fun hc => ?_) (fun hc => ?_) | refine fin_split (fun hc => ?_) (fun hc => ?_) | refine cnd_nsplit (fun hc => ?_) (fun hc => ?_) | refine cnd_split (fun hc => ?_) (fun hc => ?_) | refine blk_exit_id ?_)
  all_goals simp_all [leapB, DV.b]

theorem cday_ok : PureC Tryd.prog Gt 13 cday_m := by
  refine pure_of_awp (X := ctx Tryd.prog Gt [(32, isTime_m)]) Tryd.func13 rfl rfl (by kernel_rfl) (by kernel_rfl) (AllOk.cons isTime_ok AllOk.nil).kok ?_
  intro args r h0
  obtain ⟨y, rfl, h⟩ := m1_inv h0
  refine ⟨Nat.le_of_ble_eq_true rfl, ?_⟩
  cases h
  have hc := Nat.zero_add 0
  repeat' (first | (simp only [hc, Tryd.f13, isTime_m, mEq, AB, PL, RG, LP, TY, Nat.reduceEqDiff, Nat.reduceAdd, Nat.reduceSub, Nat.reduceMul, Nat.reduceLT, Nat.reduceLeDiff, Nat.reduceMod, Nat.reduceDiv, reduceCtorEq, Int.reduceEq, Int.reduceNe, Int.reduceLT, Int.reduceLE, Int.reduceNeg, Int.reduceToNat, Int.reduceAdd, Int.reduceSub, Int.reduceMul, ↓reduceIte, forall_const, eq_self, ne_eq, Option.some.injEq, beq_self_eq_true]) | refine fin_ndec (fun hc => ?_) (fun hc => ?_) | refine fin_dec (fun hc => ?_) (fun hc => ?_) | refine cnd_ndec (fun hc => ?_) (fun hc => ?_) | refine cnd_dec' (fun hc => ?_) (fun hc => ?_) | refine fin_nsplit (fun hc => ?_) (fun hc => ?_) | refine fin_split (fun hc => ?_) (fun hc => ?_) | refine cnd_nsplit (fun hc => ?_) (fun hc => ?_) | refine cnd_split (fun hc => ?_) (fun hc => ?_) | refine blk_exit_id ?_)
  all_goals simp_all [dayF, DV.i]

theorem rday_ok : PureC Tryd.prog Gt 14 rday_m := by
  refine pure_of_awp (X := ctx Tryd.prog Gt [(33, risTime_m)]) Tryd.func14 rfl rfl (by kernel_rfl) (by kernel_rfl) (AllOk.cons risTime_ok AllOk.nil).kok ?_
  intro args r h0
  obtain ⟨y, rfl, h⟩ := m1_inv h0
  refine ⟨Nat.le_of_ble_eq_true rfl, ?_⟩
  cases h
  have hc := Nat.zero_add 0
  repeat' (first | (simp only [hc, Tryd.f14, risTime_m, mEq, AB, PL, RG, LP, TY, Nat.reduceEqDiff, Nat.reduceAdd, Nat.reduceSub, Nat.reduceMul, Nat.reduceLT, Nat.reduceLeDiff, Nat.reduceMod, Nat.reduceDiv, reduceCtorEq, Int.reduceEq, Int.reduceNe, Int.reduceLT, Int.reduceLE, Int.reduceNeg, Int.reduceToNat, Int.reduceAdd, Int.reduceSub, Int.reduceMul, ↓reduceIte, forall_const, eq_self, ne_eq, Option.some.injEq, beq_self_eq_true]) | refine fin_ndec (fun hc => ?_) (fun hc => ?_) | refine fin_dec (fun hc => ?_) (fun hc => ?_) | refine cnd_ndec (fun hc => ?_) (fun hc => ?_) | refine cnd_dec' (fun hc => ?_) (fun hc => ?_) | refine fin_nsplit (fun hc => ?_) (fun hc => ?_) | refine fin_split (fun hc => ?_) (fun hc => ?_) | refine cnd_nsplit (fun hc => ?_) (fun hc => ?_) | refine cnd_split (fun hc => ?_) (fun hc => ?_) | refine blk_exit_id ?_)
  all_goals simp_all [dayF, DV.i]

theorem cmin_ok : PureC Tryd.prog Gt 15 cmin_m := by
  refine pure_of_awp (X := ctx Tryd.prog Gt [(32, isTime_m)]) Tryd.func15 rfl rfl (by kernel_rfl) (by kernel_rfl) (AllOk.cons isTime_ok AllOk.nil).kok ?_
  intro args r h0
  obtain ⟨y, rfl, h⟩ := m1_inv h0
  refine ⟨Nat.le_of_ble_eq_true rfl, ?_⟩
  cases h
  have hc := Nat.zero_add 0
  repeat' (first | (simp only [hc, Tryd.f15, isTime_m, mEq, AB, PL, RG, LP, TY, Nat.reduceEqDiff, Nat.reduceAdd, Nat.reduceSub, Nat.reduceMul, Nat.reduceLT, Nat.reduceLeDiff, Nat.reduceMod, Nat.reduceDiv, reduceCtorEq, Int.reduceEq, Int.reduceNe, Int.reduceLT, Int.reduceLE, Int.reduceNeg, Int.reduceToNat, Int.reduceAdd, Int.reduceSub, Int.reduceMul, ↓reduceIte, forall_const, eq_self, ne_eq, Option.some.injEq, beq_self_eq_true]) | refine fin_ndec (fun hc => ?_) (fun hc => ?_) | refine fin_dec (fun hc => ?_) (fun hc => ?_) | refine cnd_ndec (fun hc => ?_) (fun hc => ?_) | refine cnd_dec' (fun hc => ?_) (fun hc => ?_) | refine fin_nsplit (fun hc => ?_) (fun hc => ?_) | refine fin_split (fun hc => ?_) (fun hc => ?_) | refine cnd_nsplit (fun hc => ?_) (fun hc => ?_) | refine cnd_split (fun hc => ?_) (fun hc => ?_) | refine blk_exit_id ?_)
  all_goals simp_all [minF, DV.i]

theorem rmin_ok : PureC Tryd.prog Gt 16 rmin_m := by
  refine pure_of_awp (X := ctx Tryd.prog Gt [(33, risTime_m)]) Tryd.func16 rfl rfl (by kernel_rfl) (by kernel_rfl) (AllOk.cons risTime_ok AllOk.nil).kok ?_
  intro args r h0
  obtain ⟨y, rfl, h⟩ := m1_inv h0
  refine ⟨Nat.le_of_ble_eq_true rfl, ?_⟩
  cases h
  have hc := Nat.zero_add 0
  repeat' (first | (simp only [hc, Tryd.f16, risTime_m, mEq, AB, PL, RG, LP, TY, Nat.reduceEqDiff, Nat.reduceAdd, Nat.reduceSub, Nat.reduceMul, Nat.reduceLT, Nat.reduceLeDiff, Nat.reduceMod, Nat.reduceDiv, reduceCtorEq, Int.reduceEq, Int.reduceNe, Int.reduceLT, Int.reduceLE, Int.reduceNeg, Int.reduceToNat, Int.reduceAdd, Int.reduceSub, Int.reduceMul, ↓reduceIte, forall_const, eq_self, ne_eq, Option.some.injEq, beq_self_eq_true]) | refine fin_ndec (fun hc => ?_) (fun hc => ?_) | refine fin_dec (fun hc => ?_) (fun hc => ?_) | refine cnd_ndec (fun hc => ?_) (fun hc => ?_) | refine cnd_dec' (fun hc => ?_) (fun hc => ?_) | refine fin_nsplit (fun hc => ?_) (fun hc => ?_) | refine fin_split (fun hc => ?_) (fun hc => ?_) | refine cnd_nsplit (fun hc => ?_) (fun hc => ?_) | refine cnd_split (fun hc => ?_) (fun hc => ?_) | refine blk_exit_id ?_)
  all_goals simp_all [minF, DV.i]

theorem cwd_ok : PureC Tryd.prog Gt 17 cwd_m := by
  refine pure_of_awp (X := ctx Tryd.prog Gt [(34, isDay_m)]) Tryd.func17 rfl rfl (by kernel_rfl) (by kernel_rfl) (AllOk.cons isDay_ok AllOk.nil).kok ?_
  intro args r h0
  obtain ⟨y, rfl, h⟩ := m1_inv h0
  refine ⟨Nat.le_of_ble_eq_true rfl, ?_⟩
  cases h
  have hc := Nat.zero_add 0
  repeat' (first | (simp only [hc, Tryd.f17, isDay_m, mEq, AB, PL, RG, LP, TY, Nat.reduceEqDiff, Nat.reduceAdd, Nat.reduceSub, Nat.reduceMul, Nat.reduceLT, Nat.reduceLeDiff, Nat.reduceMod, Nat.reduceDiv, reduceCtorEq, Int.reduceEq, Int.reduceNe, Int.reduceLT, Int.reduceLE, Int.reduceNeg, Int.reduceToNat, Int.reduceAdd, Int.reduceSub, Int.reduceMul, ↓reduceIte, forall_const, eq_self, ne_eq, Option.some.injEq, beq_self_eq_true]) | refine fin_ndec (fun hc => ?_) (fun hc => ?_) | refine fin_dec (fun hc => ?_) (fun hc => ?_) | refine cnd_ndec (fun hc => ?_) (fun hc => ?_) | refine cnd_dec' (fun hc => ?_) (fun hc => ?_) | refine fin_nsplit (fun hc => ?_) (fun hc => ?_) | refine fin_split (fun hc => ?_) (fun hc => ?_) | refine cnd_nsplit (fun hc => ?_) (fun hc => ?_) | refine cnd_split (fun hc => ?_) (fun hc => ?_) | refine blk_exit_id ?_)
  all_goals simp_all [wdF, DV.i]

theorem rwd_ok : PureC Tryd.prog Gt 18 rwd_m := by
  refine pure_of_awp (X := ctx Tryd.prog Gt [(35, risDay_m)]) Tryd.func18 rfl rfl (by kernel_rfl) (by kernel_rfl) (AllOk.cons risDay_ok AllOk.nil).kok ?_
  intro args r h0
  obtain ⟨y, rfl, h⟩ := m1_inv h0
  refine ⟨Nat.le_of_ble_eq_true rfl, ?_⟩
  cases h
  have hc := Nat.zero_add 0
  repeat' (first | (simp only [hc, Tryd.f18, risDay_m, mEq, AB, PL, RG, LP, TY, Nat.reduceEqDiff, Nat.reduceAdd, Nat.reduceSub, Nat.reduceMul, Nat.reduceLT, Nat.reduceLeDiff, Nat.reduceMod, Nat.reduceDiv, reduceCtorEq, Int.reduceEq, Int.reduceNe, Int.reduceLT, Int.reduceLE, Int.reduceNeg, Int.reduceToNat, Int.reduceAdd, Int.reduceSub, Int.reduceMul, ↓reduceIte, forall_const, eq_self, ne_eq, Option.some.injEq, beq_self_eq_true]) | refine fin_ndec (fun hc => ?_) (fun hc => ?_) | refine fin_dec (fun hc => ?_) (fun hc => ?_) | refine cnd_ndec (fun hc => ?_) (fun hc => ?_) | refine cnd_dec' (fun hc => ?_) (fun hc => ?_) | refine fin_nsplit (fun hc => ?_) (fun hc => ?_) | refine fin_split (fun hc => ?_) (fun hc => ?_) | refine cnd_nsplit (fun hc => ?_) (fun hc => ?_) | refine cnd_split (fun hc => ?_) (fun hc => ?_) | refine blk_exit_id ?_)
  all_goals simp_all [wdF, DV.i]

theorem ryear_ok : PureC Tryd.prog Gt 38 ryear_m := by
  refine pure_of_awp (X := ctx Tryd.prog Gt [(45, rleap_m)]) Tryd.func38 rfl rfl (by kernel_rfl) (by kernel_rfl) (AllOk.cons rleap_ok AllOk.nil).kok ?_
  intro args r h0
  obtain ⟨y, rfl, h⟩ := m1_inv h0
  refine ⟨Nat.le_of_ble_eq_true rfl, ?_⟩
  cases h
  have hc := Nat.zero_add 0
  repeat' (first | (simp only [hc, Tryd.f38, rleap_m, mEq, AB, PL, RG, LP, TY, Nat.reduceEqDiff, Nat.reduceAdd, Nat.reduceSub, Nat.reduceMul, Nat.reduceLT, Nat.reduceLeDiff, Nat.reduceMod, Nat.reduceDiv, reduceCtorEq, Int.reduceEq, Int.reduceNe, Int.reduceLT, Int.reduceLE, Int.reduceNeg, Int.reduceToNat, Int.reduceAdd, Int.reduceSub, Int.reduceMul, ↓reduceIte, forall_const, eq_self, ne_eq, Option.some.injEq, beq_self_eq_true]) | refine fin_ndec (fun hc => ?_) (fun hc => ?_) | refine fin_dec (fun hc => ?_) (fun hc => ?_) | refine cnd_ndec (fun hc => ?_) (fun hc => ?_) | refine cnd_dec' (fun hc => ?_) (fun hc => ?_) | refine fin_nsplit (fun hc => ?_) (fun hc => ?_) | refine fin_split (fun hc => ?_) (fun hc => ?_) | refine cnd_nsplit (fun hc => ?_) (fun hc => ?_) | refine cnd_split (fun hc => ?_) (fun hc => ?_) | refine blk_exit_id ?_)
  all_goals simp_all [DV.i]

end Go.Ab
