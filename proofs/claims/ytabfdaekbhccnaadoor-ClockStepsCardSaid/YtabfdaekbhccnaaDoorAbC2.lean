/-
  What the functions of the calendar compute: months, windows.
-/
import Derived.Test.YtabfdaekbhccnaaDoorAbC1
set_option linter.unusedSimpArgs false
set_option linter.unusedVariables false
namespace Go.Ab
open Go.RowKit Go.Proofs

def lenF (y m : Int) : Int := if m = 2 then (if leapB y = true then 29 else 28) else if m = 4 ∨ m = 6 ∨ m = 9 ∨ m = 11 then 30 else 31

def setB (d : Int) : Nat → Bool
  | 0 => decide (d.tmod 2 = 1)
  | n + 1 => setB (W (d.tdiv 2)) n

def clength_m : List PA → Option (List PA) := m2 fun y m => if 1 ≤ m ∧ m ≤ 12 then some [.i (lenF y m)] else none
def rlength_m : List PA → Option (List PA) := m2 fun y m => some [.i (lenF y m)]
def rset_m : List PA → Option (List PA) := m2 fun d k => if 0 ≤ k ∧ k ≤ 1000000 then some [.b (setB d k.toNat)] else none

theorem clength_ok : PureC Tryd.prog Gt 37 clength_m := by
  refine pure_of_awp (X := ctx Tryd.prog Gt [(36, leap_m)]) Tryd.func37 rfl rfl (by kernel_rfl) (by kernel_rfl) (AllOk.cons leap_ok AllOk.nil).kok ?_
  intro args r h0
  obtain ⟨y, m, rfl, h⟩ := m2_inv h0
  refine ⟨Nat.le_of_ble_eq_true rfl, ?_⟩
  split at h
  · rename_i hm
    cases h
    have hm2 : m = 1 ∨ m = 2 ∨ m = 3 ∨ m = 4 ∨ m = 5 ∨ m = 6 ∨ m = 7 ∨ m = 8 ∨ m = 9 ∨ m = 10 ∨ m = 11 ∨ m = 12 := by omega
    rcases hm2 with rfl | rfl | rfl | rfl | rfl | rfl | rfl | rfl | rfl | rfl | rfl | rfl
    all_goals
      have hw1 := wI (n := 0) (by omega) (by omega)
      have hc := Nat.zero_add 0
      repeat' (first | (simp only [hc, Tryd.f37, leap_m, mEq, wI, gloMonths, AB, PL, RG, LP, TY, Nat.reduceEqDiff, Nat.reduceAdd, Nat.reduceSub, Nat.reduceMul, Nat.reduceLT, Nat.reduceLeDiff, Nat.reduceMod, Nat.reduceDiv, reduceCtorEq, Int.reduceEq, Int.reduceNe, Int.reduceLT, Int.reduceLE, Int.reduceNeg, Int.reduceToNat, Int.reduceAdd, Int.reduceSub, Int.reduceMul, ↓reduceIte, forall_const, eq_self, ne_eq, Option.some.injEq, beq_self_eq_true]) | refine fin_ndec (fun hc => ?_) (fun hc => ?_) | refine fin_dec (fun hc => ?_) (fun hc => ?_) | refine cnd_ndec (fun hc => ?_) (fun hc => ?_) | refine cnd_dec' (fun hc => ?_) (fun hc => ?_) | refine fin_nsplit (fun hc => ?_) (fun hc => ?_) | refine fin_split (fun hc => ?_) (fun hc => ?_) | refine cnd_nsplit (fun hc => ?_) (fun hc => ?_) | refine cnd_split (fun hc => ?_) (fun hc => ?_) | refine blk_exit_id ?_)

    all_goals simp_all [lenF, DV.i]
  · cases h

theorem rlength_ok : PureC Tryd.prog Gt 39 rlength_m := by
  refine pure_of_awp (X := ctx Tryd.prog Gt [(45, rleap_m)]) Tryd.func39 rfl rfl (by kernel_rfl) (by kernel_rfl) (AllOk.cons rleap_ok AllOk.nil).kok ?_
  intro args r h0
  obtain ⟨y, m, rfl, h⟩ := m2_inv h0
  refine ⟨Nat.le_of_ble_eq_true rfl, ?_⟩
  cases h
  have hc := Nat.zero_add 0
  repeat' (first | (simp only [hc, Tryd.f39, rleap_m, mEq, AB, PL, RG, LP, TY, Nat.reduceEqDiff, Nat.reduceAdd, Nat.reduceSub, Nat.reduceMul, Nat.reduceLT, Nat.reduceLeDiff, Nat.reduceMod, Nat.reduceDiv, reduceCtorEq, Int.reduceEq, Int.reduceNe, Int.reduceLT, Int.reduceLE, Int.reduceNeg, Int.reduceToNat, Int.reduceAdd, Int.reduceSub, Int.reduceMul, ↓reduceIte, forall_const, eq_self, ne_eq, Option.some.injEq, beq_self_eq_true]) | refine fin_ndec (fun hc => ?_) (fun hc => ?_) | refine fin_dec (fun hc => ?_) (fun hc => ?_) | refine cnd_ndec (fun hc => ?_) (fun hc => ?_) | refine cnd_dec' (fun hc => ?_) (fun hc => ?_) | refine fin_nsplit (fun hc => ?_) (fun hc => ?_) | refine fin_split (fun hc => ?_) (fun hc => ?_) | refine cnd_nsplit (fun hc => ?_) (fun hc => ?_) | refine cnd_split (fun hc => ?_) (fun hc => ?_) | refine blk_exit_id ?_)
  all_goals simp_all [lenF, DV.i]

theorem rset_ok : PureC Tryd.prog Gt 43 rset_m := by
  refine pure_of_awp (X := ctx Tryd.prog Gt []) Tryd.func43 rfl rfl (by kernel_rfl) (by kernel_rfl) AllOk.nil.kok ?_
  intro args r h0
  obtain ⟨d, k, rfl, h⟩ := m2_inv h0
  refine ⟨Nat.le_of_ble_eq_true rfl, ?_⟩
  split at h
  · rename_i hk
    cases h
    have hc := Nat.zero_add 0
    repeat' (first | (simp only [hc, Tryd.f43, AB, PL, RG, LP, TY, Nat.reduceEqDiff, Nat.reduceAdd, Nat.reduceSub, Nat.reduceMul, Nat.reduceLT, Nat.reduceLeDiff, Nat.reduceMod, Nat.reduceDiv, reduceCtorEq, Int.reduceEq, Int.reduceNe, Int.reduceLT, Int.reduceLE, Int.reduceNeg, Int.reduceToNat, Int.reduceAdd, Int.reduceSub, Int.reduceMul, ↓reduceIte, forall_const, eq_self, ne_eq, Option.some.injEq, beq_self_eq_true]) | refine fin_ndec (fun hc => ?_) (fun hc => ?_) | refine fin_dec (fun hc => ?_) (fun hc => ?_) | refine cnd_ndec (fun hc => ?_) (fun hc => ?_) | refine cnd_dec' (fun hc => ?_) (fun hc => ?_) | refine fin_nsplit (fun hc => ?_) (fun hc => ?_) | refine fin_split (fun hc => ?_) (fun hc => ?_) | refine cnd_nsplit (fun hc => ?_) (fun hc => ?_) | refine cnd_split (fun hc => ?_) (fun hc => ?_) | refine blk_exit_id ?_)
    refine awp_loop (σ := Int × Nat) (fun p => (p.2 : Int) ≤ k ∧ setB p.1 (k.toNat - p.2) = setB d k.toNat) (fun p => ⟨[(5, AV.i p.2), (1, AV.i k), (0, AV.i p.1)], []⟩) (fun p => k.toNat - p.2) (d, 0) (Wk.sub (by simp [subT, look])) (by simp; omega) ?_
    rintro ⟨d', i⟩ ⟨hi, hd⟩
    dsimp only at hi hd ⊢
    have hc := Nat.zero_add 0
    repeat' (first | (simp only [hc, AB, PL, RG, LP, TY, Nat.reduceEqDiff, Nat.reduceAdd, Nat.reduceSub, Nat.reduceMul, Nat.reduceLT, Nat.reduceLeDiff, Nat.reduceMod, Nat.reduceDiv, reduceCtorEq, Int.reduceEq, Int.reduceNe, Int.reduceLT, Int.reduceLE, Int.reduceNeg, Int.reduceToNat, Int.reduceAdd, Int.reduceSub, Int.reduceMul, ↓reduceIte, forall_const, eq_self, ne_eq, Option.some.injEq, beq_self_eq_true]) | refine fin_ndec (fun hc => ?_) (fun hc => ?_) | refine fin_dec (fun hc => ?_) (fun hc => ?_) | refine cnd_ndec (fun hc => ?_) (fun hc => ?_) | refine cnd_dec' (fun hc => ?_) (fun hc => ?_) | refine fin_nsplit (fun hc => ?_) (fun hc => ?_) | refine fin_split (fun hc => ?_) (fun hc => ?_) | refine cnd_nsplit (fun hc => ?_) (fun hc => ?_) | refine cnd_split (fun hc => ?_) (fun hc => ?_) | refine blk_exit_id ?_)
    · have hw := wI (n := (i : Int) + 1) (by omega) (by omega)
      refine lp_next (W (d'.tdiv 2), i + 1) (Wk.sub (by simp [subT, look, hw])) ⟨by simp only []; omega, ?_⟩ (by simp only []; omega)
      rw [← hd, show k.toNat - i = (k.toNat - (i + 1)) + 1 by omega]
      rfl
    · have hik : k.toNat - i = 0 := by omega
      rw [hik] at hd
      simp [← hd, setB, DV.b]
  · cases h

/-! Windows -/

def mw (g : Int → Int → Int → Option (List PA)) : List PA → Option (List PA)
  | [.agg [.int .i64 a, .int .i64 b, .int .i64 c]] => g a b c
  | _ => none
theorem mw_inv {g : Int → Int → Int → Option (List PA)} {args r : List PA} (h : mw g args = some r) : ∃ a b c, args = [.agg [.int .i64 a, .int .i64 b, .int .i64 c]] ∧ g a b c = some r := by
  unfold mw at h
  split at h
  · exact ⟨_, _, _, rfl, h⟩
  · cases h
theorem mw_eq {g : Int → Int → Int → Option (List PA)} {a b c : Int} : mw g [.agg [.int .i64 a, .int .i64 b, .int .i64 c]] = g a b c := rfl
def mwi (g : Int → Int → Int → Int → Option (List PA)) : List PA → Option (List PA)
  | [.agg [.int .i64 a, .int .i64 b, .int .i64 c], .c (.int .i64 d)] => g a b c d
  | _ => none
theorem mwi_inv {g : Int → Int → Int → Int → Option (List PA)} {args r : List PA} (h : mwi g args = some r) : ∃ a b c d, args = [.agg [.int .i64 a, .int .i64 b, .int .i64 c], .c (.int .i64 d)] ∧ g a b c d = some r := by
  unfold mwi at h
  split at h
  · exact ⟨_, _, _, _, rfl, h⟩
  · cases h
theorem mwi_eq {g : Int → Int → Int → Int → Option (List PA)} {a b c d : Int} : mwi g [.agg [.int .i64 a, .int .i64 b, .int .i64 c], .c (.int .i64 d)] = g a b c d := rfl
def mv (g : Int → Int → Option (List PA)) : List PA → Option (List PA)
  | [.agg [.int .i64 a, .int .i64 b]] => g a b
  | _ => none
theorem mv_inv {g : Int → Int → Option (List PA)} {args r : List PA} (h : mv g args = some r) : ∃ a b, args = [.agg [.int .i64 a, .int .i64 b]] ∧ g a b = some r := by
  unfold mv at h
  split at h
  · exact ⟨_, _, rfl, h⟩
  · cases h
theorem mv_eq {g : Int → Int → Option (List PA)} {a b : Int} : mv g [.agg [.int .i64 a, .int .i64 b]] = g a b := rfl

def validB (d f t : Int) : Bool := decide (1 ≤ d) && decide (d ≤ 127) && decide (0 ≤ f) && decide (f < t) && decide (t ≤ 1440)
def ivalB (f t : Int) : Bool := decide (0 ≤ f) && decide (f < t) && decide (t ≤ 68719476736)

def cvalid_m : List PA → Option (List PA) := mw fun a b c => some [.b (validB a b c)]
def rvalid_m : List PA → Option (List PA) := mw fun a b c => some [.b (validB a b c)]
def rival_m : List PA → Option (List PA) := mv fun a b => some [.b (ivalB a b)]

theorem cvalid_ok : PureC Tryd.prog Gt 40 cvalid_m := by
  refine pure_of_awp (X := ctx Tryd.prog Gt []) Tryd.func40 rfl rfl (by kernel_rfl) (by kernel_rfl) AllOk.nil.kok ?_
  intro args r h0
  obtain ⟨a, b, c, rfl, h⟩ := mw_inv h0
  refine ⟨Nat.le_of_ble_eq_true rfl, ?_⟩
  cases h
  have hc := Nat.zero_add 0
  repeat' (first | (simp only [hc, Tryd.f40, AB, PL, RG, LP, TY, Nat.reduceEqDiff, Nat.reduceAdd, Nat.reduceSub, Nat.reduceMul, Nat.reduceLT, Nat.reduceLeDiff, Nat.reduceMod, Nat.reduceDiv, reduceCtorEq, Int.reduceEq, Int.reduceNe, Int.reduceLT, Int.reduceLE, Int.reduceNeg, Int.reduceToNat, Int.reduceAdd, Int.reduceSub, Int.reduceMul, ↓reduceIte, forall_const, eq_self, ne_eq, Option.some.injEq, beq_self_eq_true]) | refine fin_ndec (fun hc => ?_) (fun hc => ?_) | refine fin_dec (fun hc => ?_) (fun hc => ?_) | refine cnd_ndec (fun hc => ?_) (fun hc => ?_) | refine cnd_dec' (fun hc => ?_) (fun hc => ?_) | refine fin_nsplit (fun hc => ?_) (fun hc => ?_) | refine fin_split (fun hc => ?_) (fun hc => ?_) | refine cnd_nsplit (fun hc => ?_) (fun hc => ?_) | refine cnd_split (fun hc => ?_) (fun hc => ?_) | refine blk_exit_id ?_)
  all_goals (simp_all [validB, DV.b]; try omega)

theorem rvalid_ok : PureC Tryd.prog Gt 42 rvalid_m := by
  refine pure_of_awp (X := ctx Tryd.prog Gt []) Tryd.func42 rfl rfl (by kernel_rfl) (by kernel_rfl) AllOk.nil.kok ?_
  intro args r h0
  obtain ⟨a, b, c, rfl, h⟩ := mw_inv h0
  refine ⟨Nat.le_of_ble_eq_true rfl, ?_⟩
  cases h
  have hc := Nat.zero_add 0
  repeat' (first | (simp only [hc, Tryd.f42, AB, PL, RG, LP, TY, Nat.reduceEqDiff, Nat.reduceAdd, Nat.reduceSub, Nat.reduceMul, Nat.reduceLT, Nat.reduceLeDiff, Nat.reduceMod, Nat.reduceDiv, reduceCtorEq, Int.reduceEq, Int.reduceNe, Int.reduceLT, Int.reduceLE, Int.reduceNeg, Int.reduceToNat, Int.reduceAdd, Int.reduceSub, Int.reduceMul, ↓reduceIte, forall_const, eq_self, ne_eq, Option.some.injEq, beq_self_eq_true]) | refine fin_ndec (fun hc => ?_) (fun hc => ?_) | refine fin_dec (fun hc => ?_) (fun hc => ?_) | refine cnd_ndec (fun hc => ?_) (fun hc => ?_) | refine cnd_dec' (fun hc => ?_) (fun hc => ?_) | refine fin_nsplit (fun hc => ?_) (fun hc => ?_) | refine fin_split (fun hc => ?_) (fun hc => ?_) | refine cnd_nsplit (fun hc => ?_) (fun hc => ?_) | refine cnd_split (fun hc => ?_) (fun hc => ?_) | refine blk_exit_id ?_)
  all_goals (simp_all [validB, DV.b]; try omega)

theorem rival_ok : PureC Tryd.prog Gt 44 rival_m := by
  refine pure_of_awp (X := ctx Tryd.prog Gt []) Tryd.func44 rfl rfl (by kernel_rfl) (by kernel_rfl) AllOk.nil.kok ?_
  intro args r h0
  obtain ⟨a, b, rfl, h⟩ := mv_inv h0
  refine ⟨Nat.le_of_ble_eq_true rfl, ?_⟩
  cases h
  have hc := Nat.zero_add 0
  repeat' (first | (simp only [hc, Tryd.f44, AB, PL, RG, LP, TY, Nat.reduceEqDiff, Nat.reduceAdd, Nat.reduceSub, Nat.reduceMul, Nat.reduceLT, Nat.reduceLeDiff, Nat.reduceMod, Nat.reduceDiv, reduceCtorEq, Int.reduceEq, Int.reduceNe, Int.reduceLT, Int.reduceLE, Int.reduceNeg, Int.reduceToNat, Int.reduceAdd, Int.reduceSub, Int.reduceMul, ↓reduceIte, forall_const, eq_self, ne_eq, Option.some.injEq, beq_self_eq_true]) | refine fin_ndec (fun hc => ?_) (fun hc => ?_) | refine fin_dec (fun hc => ?_) (fun hc => ?_) | refine cnd_ndec (fun hc => ?_) (fun hc => ?_) | refine cnd_dec' (fun hc => ?_) (fun hc => ?_) | refine fin_nsplit (fun hc => ?_) (fun hc => ?_) | refine fin_split (fun hc => ?_) (fun hc => ?_) | refine cnd_nsplit (fun hc => ?_) (fun hc => ?_) | refine cnd_split (fun hc => ?_) (fun hc => ?_) | refine blk_exit_id ?_)
  all_goals (simp_all [ivalB, DV.b]; try omega)

end Go.Ab
