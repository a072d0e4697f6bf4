/-
  What the functions of the calendar compute: whether a time lies in a window.
-/
import Derived.Test.YtabfdaekbhccnaaDoorAbC2
set_option linter.unusedSimpArgs false
set_option linter.unusedVariables false
namespace Go.Ab
open Go.RowKit Go.Proofs

theorem on_all : ((List.range 128).all fun a => (List.range 7).all fun k => (decide (bits .and .i64 ((a : Int).fdiv (2 ^ (min k 64))) 1 = 1)) == setB (a : Int) k) = true := by kernel_rfl

theorem on_eq {a : Int} {k : Nat} (h1 : 0 ≤ a) (h2 : a ≤ 127) (hk : k < 7) : decide (bits .and .i64 (a.fdiv (2 ^ (min k 64))) 1 = 1) = setB a k := by
  have h := on_all
  rw [List.all_eq_true] at h
  have h3 := h a.toNat (List.mem_range.2 (by omega))
  rw [List.all_eq_true] at h3
  have h4 := h3 k (List.mem_range.2 hk)
  rw [show ((a.toNat : Nat) : Int) = a by omega] at h4
  exact eq_of_beq h4

def inB (a b c t : Int) : Bool := isT t && validB a b c && setB a ((t.tdiv 86400).tmod 7).toNat && decide (b ≤ minF t) && decide (minF t < c)

def con_m : List PA → Option (List PA) := mwi fun a _ _ d => if 0 ≤ a ∧ a ≤ 127 ∧ 0 ≤ d then some [.b (setB a (d.tmod 7).toNat)] else none
def cin_m : List PA → Option (List PA) := mwi fun a b c t => some [.b (inB a b c t)]
def rin_m : List PA → Option (List PA) := mwi fun a b c t => some [.b (inB a b c t)]

theorem validB_iff {a b c : Int} : validB a b c = true ↔ 1 ≤ a ∧ a ≤ 127 ∧ 0 ≤ b ∧ b < c ∧ c ≤ 1440 := by
  simp only [validB, Bool.and_eq_true, decide_eq_true_eq]
  omega
theorem isT_iff {t : Int} : isT t = true ↔ 0 ≤ t ∧ t < 68719476736 := by
  simp only [isT, Bool.and_eq_true, decide_eq_true_eq]
theorem isD_iff {t : Int} : isD t = true ↔ 0 ≤ t ∧ t < 795364 := by
  simp only [isD, Bool.and_eq_true, decide_eq_true_eq]

theorem con_ok : PureC Tryd.prog Gt 41 con_m := by
  refine pure_of_awp (X := ctx Tryd.prog Gt []) Tryd.func41 rfl rfl (by kernel_rfl) (by kernel_rfl) AllOk.nil.kok ?_
  intro args r h0
  obtain ⟨a, b, c, d, rfl, h⟩ := mwi_inv h0
  refine ⟨Nat.le_of_ble_eq_true rfl, ?_⟩
  split at h
  · rename_i hd
    cases h
    have h7 : d.tmod 7 = d % 7 := Int.tmod_eq_emod_of_nonneg (by omega)
    have hneg : (d.tmod 7 < 0) = False := by rw [h7]; simp; omega
    have hon := on_eq (a := a) (k := (d.tmod 7).toNat) (by omega) (by omega) (by rw [h7]; omega)
    have hc := Nat.zero_add 0
    repeat' (first | (simp only [hc, Tryd.f41, hneg, AB, PL, RG, LP, TY, Nat.reduceEqDiff, Nat.reduceAdd, Nat.reduceSub, Nat.reduceMul, Nat.reduceLT, Nat.reduceLeDiff, Nat.reduceMod, Nat.reduceDiv, reduceCtorEq, Int.reduceEq, Int.reduceNe, Int.reduceLT, Int.reduceLE, Int.reduceNeg, Int.reduceToNat, Int.reduceAdd, Int.reduceSub, Int.reduceMul, ↓reduceIte, forall_const, eq_self, ne_eq, Option.some.injEq, beq_self_eq_true]) | refine fin_ndec (fun hc => ?_) (fun hc => ?_) | refine fin_dec (fun hc => ?_) (fun hc => ?_) | refine cnd_ndec (fun hc => ?_) (fun hc => ?_) | refine cnd_dec' (fun hc => ?_) (fun hc => ?_) | refine fin_nsplit (fun hc => ?_) (fun hc => ?_) | refine fin_split (fun hc => ?_) (fun hc => ?_) | refine cnd_nsplit (fun hc => ?_) (fun hc => ?_) | refine cnd_split (fun hc => ?_) (fun hc => ?_) | refine blk_exit_id ?_)
    all_goals simp_all [DV.b]
  · cases h

theorem cin_ok : PureC Tryd.prog Gt 24 cin_m := by
  refine pure_of_awp (X := ctx Tryd.prog Gt [(32, isTime_m), (40, cvalid_m), (41, con_m), (15, cmin_m)]) Tryd.func24 rfl rfl (by kernel_rfl) (by kernel_rfl) (AllOk.cons isTime_ok (AllOk.cons cvalid_ok (AllOk.cons con_ok (AllOk.cons cmin_ok AllOk.nil)))).kok ?_
  intro args r h0
  obtain ⟨a, b, c, t, rfl, h⟩ := mwi_inv h0
  refine ⟨Nat.le_of_ble_eq_true rfl, ?_⟩
  cases h
  by_cases hT : isT t = true
  · by_cases hV : validB a b c = true
    · have h1 := validB_iff.1 hV
      have h2 := isT_iff.1 hT
      have hd : t.tdiv 86400 = t / 86400 := Int.tdiv_eq_ediv_of_nonneg (by omega)
      have hw := wI (n := t.tdiv 86400) (by omega) (by omega)
      have hcc : (0 ≤ a ∧ a ≤ 127 ∧ 0 ≤ t.tdiv 86400) = True := by simp; omega
      have hc := Nat.zero_add 0
      repeat' (first | (simp only [hc, Tryd.f24, isTime_m, cvalid_m, con_m, cmin_m, mEq, mw_eq, mwi_eq, hT, hV, hw, hcc, AB, PL, RG, LP, TY, Nat.reduceEqDiff, Nat.reduceAdd, Nat.reduceSub, Nat.reduceMul, Nat.reduceLT, Nat.reduceLeDiff, Nat.reduceMod, Nat.reduceDiv, reduceCtorEq, Int.reduceEq, Int.reduceNe, Int.reduceLT, Int.reduceLE, Int.reduceNeg, Int.reduceToNat, Int.reduceAdd, Int.reduceSub, Int.reduceMul, ↓reduceIte, forall_const, eq_self, ne_eq, Option.some.injEq, beq_self_eq_true]) | refine fin_ndec (fun hc => ?_) (fun hc => ?_) | refine fin_dec (fun hc => ?_) (fun hc => ?_) | refine cnd_ndec (fun hc => ?_) (fun hc => ?_) | refine cnd_dec' (fun hc => ?_) (fun hc => ?_) | refine fin_nsplit (fun hc => ?_) (fun hc => ?_) | refine fin_split (fun hc => ?_) (fun hc => ?_) | refine cnd_nsplit (fun hc => ?_) (fun hc => ?_) | refine cnd_split (fun hc => ?_) (fun hc => ?_) | refine blk_exit_id ?_)
      all_goals (simp_all [inB, DV.b]; try omega)
    · skip
      have hc := Nat.zero_add 0
      repeat' (first | (simp only [hc, Tryd.f24, isTime_m, cvalid_m, con_m, cmin_m, mEq, mw_eq, mwi_eq, hT, hV, AB, PL, RG, LP, TY, Nat.reduceEqDiff, Nat.reduceAdd, Nat.reduceSub, Nat.reduceMul, Nat.reduceLT, Nat.reduceLeDiff, Nat.reduceMod, Nat.reduceDiv, reduceCtorEq, Int.reduceEq, Int.reduceNe, Int.reduceLT, Int.reduceLE, Int.reduceNeg, Int.reduceToNat, Int.reduceAdd, Int.reduceSub, Int.reduceMul, ↓reduceIte, forall_const, eq_self, ne_eq, Option.some.injEq, beq_self_eq_true]) | refine fin_ndec (fun hc => ?_) (fun hc => ?_) | refine fin_dec (fun hc => ?_) (fun hc => ?_) | refine cnd_ndec (fun hc => ?_) (fun hc => ?_) | refine cnd_dec' (fun hc => ?_) (fun hc => ?_) | refine fin_nsplit (fun hc => ?_) (fun hc => ?_) | refine fin_split (fun hc => ?_) (fun hc => ?_) | refine cnd_nsplit (fun hc => ?_) (fun hc => ?_) | refine cnd_split (fun hc => ?_) (fun hc => ?_) | refine blk_exit_id ?_)
      all_goals (simp_all [inB, DV.b]; try omega)
  · skip
    have hc := Nat.zero_add 0
    repeat' (first | (simp only [hc, Tryd.f24, isTime_m, cvalid_m, con_m, cmin_m, mEq, mw_eq, mwi_eq, hT, AB, PL, RG, LP, TY, Nat.reduceEqDiff, Nat.reduceAdd, Nat.reduceSub, Nat.reduceMul, Nat.reduceLT, Nat.reduceLeDiff, Nat.reduceMod, Nat.reduceDiv, reduceCtorEq, Int.reduceEq, Int.reduceNe, Int.reduceLT, Int.reduceLE, Int.reduceNeg, Int.reduceToNat, Int.reduceAdd, Int.reduceSub, Int.reduceMul, ↓reduceIte, forall_const, eq_self, ne_eq, Option.some.injEq, beq_self_eq_true]) | refine fin_ndec (fun hc => ?_) (fun hc => ?_) | refine fin_dec (fun hc => ?_) (fun hc => ?_) | refine cnd_ndec (fun hc => ?_) (fun hc => ?_) | refine cnd_dec' (fun hc => ?_) (fun hc => ?_) | refine fin_nsplit (fun hc => ?_) (fun hc => ?_) | refine fin_split (fun hc => ?_) (fun hc => ?_) | refine cnd_nsplit (fun hc => ?_) (fun hc => ?_) | refine cnd_split (fun hc => ?_) (fun hc => ?_) | refine blk_exit_id ?_)
    all_goals (simp_all [inB, DV.b]; try omega)

theorem rin_ok : PureC Tryd.prog Gt 25 rin_m := by
  refine pure_of_awp (X := ctx Tryd.prog Gt [(33, risTime_m), (42, rvalid_m), (43, rset_m), (16, rmin_m)]) Tryd.func25 rfl rfl (by kernel_rfl) (by kernel_rfl) (AllOk.cons risTime_ok (AllOk.cons rvalid_ok (AllOk.cons rset_ok (AllOk.cons rmin_ok AllOk.nil)))).kok ?_
  intro args r h0
  obtain ⟨a, b, c, t, rfl, h⟩ := mwi_inv h0
  refine ⟨Nat.le_of_ble_eq_true rfl, ?_⟩
  cases h
  by_cases hV : validB a b c = true
  · by_cases hT : isT t = true
    · have h1 := validB_iff.1 hV
      have h2 := isT_iff.1 hT
      have hd : t.tdiv 86400 = t / 86400 := Int.tdiv_eq_ediv_of_nonneg (by omega)
      have hm : (t.tdiv 86400).tmod 7 = (t / 86400) % 7 := by rw [hd]; exact Int.tmod_eq_emod_of_nonneg (by omega)
      have hw := wI (n := t.tdiv 86400) (by omega) (by omega)
      have hcc : (0 ≤ (t.tdiv 86400).tmod 7 ∧ (t.tdiv 86400).tmod 7 ≤ 1000000) = True := by rw [hm]; simp; omega
      have hc := Nat.zero_add 0
      repeat' (first | (simp only [hc, Tryd.f25, risTime_m, rvalid_m, rset_m, rmin_m, mEq, mw_eq, mwi_eq, hT, hV, hw, hcc, AB, PL, RG, LP, TY, Nat.reduceEqDiff, Nat.reduceAdd, Nat.reduceSub, Nat.reduceMul, Nat.reduceLT, Nat.reduceLeDiff, Nat.reduceMod, Nat.reduceDiv, reduceCtorEq, Int.reduceEq, Int.reduceNe, Int.reduceLT, Int.reduceLE, Int.reduceNeg, Int.reduceToNat, Int.reduceAdd, Int.reduceSub, Int.reduceMul, ↓reduceIte, forall_const, eq_self, ne_eq, Option.some.injEq, beq_self_eq_true]) | refine fin_ndec (fun hc => ?_) (fun hc => ?_) | refine fin_dec (fun hc => ?_) (fun hc => ?_) | refine cnd_ndec (fun hc => ?_) (fun hc => ?_) | refine cnd_dec' (fun hc => ?_) (fun hc => ?_) | refine fin_nsplit (fun hc => ?_) (fun hc => ?_) | refine fin_split (fun hc => ?_) (fun hc => ?_) | refine cnd_nsplit (fun hc => ?_) (fun hc => ?_) | refine cnd_split (fun hc => ?_) (fun hc => ?_) | refine blk_exit_id ?_)
      all_goals (simp_all [inB, DV.b]; try omega)
    · skip
      have hc := Nat.zero_add 0
      repeat' (first | (simp only [hc, Tryd.f25, risTime_m, rvalid_m, rset_m, rmin_m, mEq, mw_eq, mwi_eq, hT, hV, AB, PL, RG, LP, TY, Nat.reduceEqDiff, Nat.reduceAdd, Nat.reduceSub, Nat.reduceMul, Nat.reduceLT, Nat.reduceLeDiff, Nat.reduceMod, Nat.reduceDiv, reduceCtorEq, Int.reduceEq, Int.reduceNe, Int.reduceLT, Int.reduceLE, Int.reduceNeg, Int.reduceToNat, Int.reduceAdd, Int.reduceSub, Int.reduceMul, ↓reduceIte, forall_const, eq_self, ne_eq, Option.some.injEq, beq_self_eq_true]) | refine fin_ndec (fun hc => ?_) (fun hc => ?_) | refine fin_dec (fun hc => ?_) (fun hc => ?_) | refine cnd_ndec (fun hc => ?_) (fun hc => ?_) | refine cnd_dec' (fun hc => ?_) (fun hc => ?_) | refine fin_nsplit (fun hc => ?_) (fun hc => ?_) | refine fin_split (fun hc => ?_) (fun hc => ?_) | refine cnd_nsplit (fun hc => ?_) (fun hc => ?_) | refine cnd_split (fun hc => ?_) (fun hc => ?_) | refine blk_exit_id ?_)
      all_goals (simp_all [inB, DV.b]; try omega)
  · skip
    have hc := Nat.zero_add 0
    repeat' (first | (simp only [hc, Tryd.f25, risTime_m, rvalid_m, rset_m, rmin_m, mEq, mw_eq, mwi_eq, hV, AB, PL, RG, LP, TY, Nat.reduceEqDiff, Nat.reduceAdd, Nat.reduceSub, Nat.reduceMul, Nat.reduceLT, Nat.reduceLeDiff, Nat.reduceMod, Nat.reduceDiv, reduceCtorEq, Int.reduceEq, Int.reduceNe, Int.reduceLT, Int.reduceLE, Int.reduceNeg, Int.reduceToNat, Int.reduceAdd, Int.reduceSub, Int.reduceMul, ↓reduceIte, forall_const, eq_self, ne_eq, Option.some.injEq, beq_self_eq_true]) | refine fin_ndec (fun hc => ?_) (fun hc => ?_) | refine fin_dec (fun hc => ?_) (fun hc => ?_) | refine cnd_ndec (fun hc => ?_) (fun hc => ?_) | refine cnd_dec' (fun hc => ?_) (fun hc => ?_) | refine fin_nsplit (fun hc => ?_) (fun hc => ?_) | refine fin_split (fun hc => ?_) (fun hc => ?_) | refine cnd_nsplit (fun hc => ?_) (fun hc => ?_) | refine cnd_split (fun hc => ?_) (fun hc => ?_) | refine blk_exit_id ?_)
    all_goals (simp_all [inB, DV.b]; try omega)

end Go.Ab
