/-
  Texts: the reference's Lines; the laws on lines.
-/
import Derived.Test.YteeffcglpljdpaaDoorAbY10
set_option linter.unusedSimpArgs false
set_option linter.unusedVariables false
namespace Go.Ab
open Go.RowKit Go.Proofs

def slL (s : List UInt8) : D := if 65536 < s.length then .sl true [] else .sl false (((linesF s).1.getD []).map rowS)

def rlines_m : List PA → Option (List PA) := ms fun s => some [.c (slL s), .i (linesF s).2]
def lLines_m : List PA → Option (List PA) := ms fun _ => some [.b true]
def lLinesBack_m : List PA → Option (List PA) := ms fun _ => some [.b true]

theorem lines_out {s : List UInt8} (h : ¬ 65536 < s.length) : (linesF s).2 = 0 ∧ (linesF s).1.getD [] = lastCut (spl 10 s) := by
  unfold linesF
  rw [if_neg h]
  split
  · rename_i hs; subst hs; exact ⟨rfl, rfl⟩
  · rename_i hs; exact ⟨rfl, (lines_eq s hs).symm⟩

theorem rlines_ok : PureC Tryd.prog Gt 24 rlines_m := by
  refine pure_of_awp (X := ctx Tryd.prog Gt []) Tryd.func24 rfl rfl (by kernel_rfl) (by kernel_rfl) AllOk.nil.kok ?_
  intro args r h0
  obtain ⟨s, rfl, h⟩ := ms_inv h0
  refine ⟨Nat.le_of_ble_eq_true rfl, ?_⟩
  cases h
  by_cases hl : (65536 : Int) < s.length
  · have hE : linesF s = (none, 4) := by unfold linesF; rw [if_pos (by omega)]
    have hE2 : slL s = .sl true [] := by unfold slL; rw [if_pos (by omega)]
    have hc := Nat.zero_add 0
    repeat' (first | (simp only [hc, Tryd.f24, SX, hl, AB, PL, RG, LP, TY, Nat.reduceEqDiff, Nat.reduceAdd, Nat.reduceSub, Nat.reduceMul, Nat.reduceLT, Nat.reduceLeDiff, Nat.reduceMod, Nat.reduceDiv, reduceCtorEq, Int.reduceEq, Int.reduceNe, Int.reduceLT, Int.reduceLE, Int.reduceNeg, Int.reduceToNat, Int.reduceAdd, Int.reduceSub, Int.reduceMul, ↓reduceIte, forall_const, eq_self, ne_eq, Option.some.injEq, beq_self_eq_true]) | refine fin_ndec (fun hc => ?_) (fun hc => ?_) | refine fin_dec (fun hc => ?_) (fun hc => ?_) | refine cnd_ndec (fun hc => ?_) (fun hc => ?_) | refine cnd_dec' (fun hc => ?_) (fun hc => ?_) | refine fin_nsplit (fun hc => ?_) (fun hc => ?_) | refine fin_split (fun hc => ?_) (fun hc => ?_) | refine cnd_nsplit (fun hc => ?_) (fun hc => ?_) | refine cnd_split (fun hc => ?_) (fun hc => ?_) | refine blk_exit_id ?_)
    all_goals simp [hE, hE2, DV.i]
  have hE2 : slL s = .sl false (((linesF s).1.getD []).map rowS) := by unfold slL; rw [if_neg (by omega)]
  obtain ⟨hz, hcut⟩ := lines_out (s := s) (by omega)
  rw [hE2, hz, hcut]
  have hc := Nat.zero_add 0
  repeat' (first | (simp only [hc, Tryd.f24, SX, hl, AB, PL, RG, LP, TY, Nat.reduceEqDiff, Nat.reduceAdd, Nat.reduceSub, Nat.reduceMul, Nat.reduceLT, Nat.reduceLeDiff, Nat.reduceMod, Nat.reduceDiv, reduceCtorEq, Int.reduceEq, Int.reduceNe, Int.reduceLT, Int.reduceLE, Int.reduceNeg, Int.reduceToNat, Int.reduceAdd, Int.reduceSub, Int.reduceMul, ↓reduceIte, forall_const, eq_self, ne_eq, Option.some.injEq, beq_self_eq_true]) | refine fin_ndec (fun hc => ?_) (fun hc => ?_) | refine fin_dec (fun hc => ?_) (fun hc => ?_) | refine cnd_ndec (fun hc => ?_) (fun hc => ?_) | refine cnd_dec' (fun hc => ?_) (fun hc => ?_) | refine fin_nsplit (fun hc => ?_) (fun hc => ?_) | refine fin_split (fun hc => ?_) (fun hc => ?_) | refine cnd_nsplit (fun hc => ?_) (fun hc => ?_) | refine cnd_split (fun hc => ?_) (fun hc => ?_) | refine blk_exit_id ?_)
  refine awp_loop (σ := Nat × Nat × List (List UInt8)) (fun p => p.2.2.length ≤ p.1 ∧ p.1 ≤ s.length ∧ p.2.1 ≤ p.1 ∧ (10 : UInt8) ∉ List.take (p.1 - p.2.1) (List.drop p.2.1 s) ∧ spl 10 s = p.2.2 ++ spl 10 (s.drop p.2.1))
    (fun p => ⟨[(6, AV.i p.1), (5, AV.i p.2.1), (4, .v (.c (.own 0 (p.2.2.map rowS)))), (0, AV.s s)], [.tok p.2.2.length 1 none]⟩) (fun p => s.length - p.1) (0, 0, []) (Wk.trans (Wk.own 4 1 (by omega) (by simp [look])) (Wk.sub' (by simp [subT, look]) rfl)) (by simp) ?_
  rintro ⟨i, st, out⟩ ⟨hol, hi, hst, hcur, hsp⟩
  dsimp only at hol hi hst hcur hsp ⊢
  have l1 : (out.map rowS).length = out.length := by simp
  have k3 : ((out.length + 1) * 16 ≤ 140737488355328) = True := eq_true (by omega)
  have k4 : (out.length + 1 ≤ 4611686018427387904) = True := eq_true (by omega)
  have hsi : ((st : Int) ≤ (i : Int)) = True := eq_true (by omega)
  have hle : ((i : Int) ≤ (s.length : Int)) = True := eq_true (by omega)
  by_cases hil : i < s.length
  · have e1 : s[i]? = some s[i] := by simp [hil]
    have hlt : ((i : Int) < (s.length : Int)) = True := eq_true (by omega)
    have hw := wI (n := (i : Int) + 1) (by omega) (by omega)
    generalize s[i] = c at *
    by_cases h10 : c.toNat = 10
    · have c10 : c = 10 := UInt8.toNat_inj.1 h10
      have b3 : ((c.toNat : Int) = 10) = True := eq_true (by omega)
      have hcs := cut_step e1 hst c10 hcur hsp
      have hc := Nat.zero_add 0
      repeat' (first | (simp only [hc, SX, e1, hlt, nn, hw, b3, hsi, hle, l1, k3, k4, AB, PL, RG, LP, TY, Nat.reduceEqDiff, Nat.reduceAdd, Nat.reduceSub, Nat.reduceMul, Nat.reduceLT, Nat.reduceLeDiff, Nat.reduceMod, Nat.reduceDiv, reduceCtorEq, Int.reduceEq, Int.reduceNe, Int.reduceLT, Int.reduceLE, Int.reduceNeg, Int.reduceToNat, Int.reduceAdd, Int.reduceSub, Int.reduceMul, ↓reduceIte, forall_const, eq_self, ne_eq, Option.some.injEq, beq_self_eq_true]) | refine fin_ndec (fun hc => ?_) (fun hc => ?_) | refine fin_dec (fun hc => ?_) (fun hc => ?_) | refine cnd_ndec (fun hc => ?_) (fun hc => ?_) | refine cnd_dec' (fun hc => ?_) (fun hc => ?_) | refine fin_nsplit (fun hc => ?_) (fun hc => ?_) | refine fin_split (fun hc => ?_) (fun hc => ?_) | refine cnd_nsplit (fun hc => ?_) (fun hc => ?_) | refine cnd_split (fun hc => ?_) (fun hc => ?_) | refine blk_exit_id ?_)
      exact lp_next (i + 1, i + 1, out ++ [List.take (i - st) (List.drop st s)]) (Wk.sub' (by simp [subT, look, rowS]) (by simp)) ⟨by simp only [List.length_append, List.length_singleton]; omega, by simp only []; omega, Nat.le_refl _, by simp only [cur_nil]; simp, hcs⟩ (by simp only []; omega)
    · have b3 : ((c.toNat : Int) = 10) = False := eq_false (by omega)
      have hc := Nat.zero_add 0
      repeat' (first | (simp only [hc, SX, e1, hlt, nn, hw, b3, AB, PL, RG, LP, TY, Nat.reduceEqDiff, Nat.reduceAdd, Nat.reduceSub, Nat.reduceMul, Nat.reduceLT, Nat.reduceLeDiff, Nat.reduceMod, Nat.reduceDiv, reduceCtorEq, Int.reduceEq, Int.reduceNe, Int.reduceLT, Int.reduceLE, Int.reduceNeg, Int.reduceToNat, Int.reduceAdd, Int.reduceSub, Int.reduceMul, ↓reduceIte, forall_const, eq_self, ne_eq, Option.some.injEq, beq_self_eq_true]) | refine fin_ndec (fun hc => ?_) (fun hc => ?_) | refine fin_dec (fun hc => ?_) (fun hc => ?_) | refine cnd_ndec (fun hc => ?_) (fun hc => ?_) | refine cnd_dec' (fun hc => ?_) (fun hc => ?_) | refine fin_nsplit (fun hc => ?_) (fun hc => ?_) | refine fin_split (fun hc => ?_) (fun hc => ?_) | refine cnd_nsplit (fun hc => ?_) (fun hc => ?_) | refine cnd_split (fun hc => ?_) (fun hc => ?_) | refine blk_exit_id ?_)
      refine lp_next (i + 1, st, out) (Wk.sub' (by simp [subT, look]) rfl) ⟨by simp only []; omega, by simp only []; omega, by simp only []; omega, ?_, hsp⟩ (by simp only []; omega)
      dsimp only
      rw [cur_snoc e1 hst, List.mem_append]
      rintro (h | h)
      · exact hcur h
      · simp only [List.mem_singleton] at h; subst h; exact h10 rfl
  · obtain rfl : i = s.length := by omega
    have hcs := cut_end hcur hsp
    by_cases hse : st < s.length
    · have hse2 : ((st : Int) < (s.length : Int)) = True := eq_true (by omega)
      have hne : List.take (s.length - st) (List.drop st s) ≠ [] := fun h => by
        have := congrArg List.length h
        simp only [List.length_take, List.length_drop, List.length_nil] at this
        omega
      have hE : lastCut (spl 10 s) = out ++ [List.take (s.length - st) (List.drop st s)] := by
        rw [hcs, lastCut, if_neg (by simp [hne])]
      have hc := Nat.zero_add 0
      repeat' (first | (simp only [hc, SX, Int.lt_irrefl, Int.le_refl, nn, hse2, hsi, l1, k3, k4, AB, PL, RG, LP, TY, Nat.reduceEqDiff, Nat.reduceAdd, Nat.reduceSub, Nat.reduceMul, Nat.reduceLT, Nat.reduceLeDiff, Nat.reduceMod, Nat.reduceDiv, reduceCtorEq, Int.reduceEq, Int.reduceNe, Int.reduceLT, Int.reduceLE, Int.reduceNeg, Int.reduceToNat, Int.reduceAdd, Int.reduceSub, Int.reduceMul, ↓reduceIte, forall_const, eq_self, ne_eq, Option.some.injEq, beq_self_eq_true]) | refine fin_ndec (fun hc => ?_) (fun hc => ?_) | refine fin_dec (fun hc => ?_) (fun hc => ?_) | refine cnd_ndec (fun hc => ?_) (fun hc => ?_) | refine cnd_dec' (fun hc => ?_) (fun hc => ?_) | refine fin_nsplit (fun hc => ?_) (fun hc => ?_) | refine fin_split (fun hc => ?_) (fun hc => ?_) | refine cnd_nsplit (fun hc => ?_) (fun hc => ?_) | refine cnd_split (fun hc => ?_) (fun hc => ?_) | refine blk_exit_id ?_)
      all_goals simp [hE, DV.i, rowS]
    · have hse2 : ((st : Int) < (s.length : Int)) = False := eq_false (by omega)
      have hem : List.take (s.length - st) (List.drop st s) = [] := by rw [show s.length - st = 0 by omega]; rfl
      have hE : lastCut (spl 10 s) = out := by
        rw [hcs, hem, lastCut, if_pos (by simp)]; simp
      have hc := Nat.zero_add 0
      repeat' (first | (simp only [hc, SX, Int.lt_irrefl, hse2, AB, PL, RG, LP, TY, Nat.reduceEqDiff, Nat.reduceAdd, Nat.reduceSub, Nat.reduceMul, Nat.reduceLT, Nat.reduceLeDiff, Nat.reduceMod, Nat.reduceDiv, reduceCtorEq, Int.reduceEq, Int.reduceNe, Int.reduceLT, Int.reduceLE, Int.reduceNeg, Int.reduceToNat, Int.reduceAdd, Int.reduceSub, Int.reduceMul, ↓reduceIte, forall_const, eq_self, ne_eq, Option.some.injEq, beq_self_eq_true]) | refine fin_ndec (fun hc => ?_) (fun hc => ?_) | refine fin_dec (fun hc => ?_) (fun hc => ?_) | refine cnd_ndec (fun hc => ?_) (fun hc => ?_) | refine cnd_dec' (fun hc => ?_) (fun hc => ?_) | refine fin_nsplit (fun hc => ?_) (fun hc => ?_) | refine fin_split (fun hc => ?_) (fun hc => ?_) | refine cnd_nsplit (fun hc => ?_) (fun hc => ?_) | refine cnd_split (fun hc => ?_) (fun hc => ?_) | refine blk_exit_id ?_)
      all_goals simp [hE, DV.i]

theorem lines_len {s : List UInt8} : ∀ l, (linesF s).1 = some l → l.length ≤ 70000 := fun l h => by
  unfold linesF at h
  split at h
  · cases h
  split at h
  · cases h
  · cases h
    have h1 := spl_len 10 (Lib.trimSuffix s [10])
    have h2 := trim_le s
    omega
theorem same_L (s : List UInt8) : same_m [.c (slT true (linesF s).1), .c (slL s)] = some [.c (.bool true)] := by
  unfold slL
  have hl := lines_len (s := s)
  split
  · rename_i h
    have hE : linesF s = (none, 4) := by unfold linesF; rw [if_pos h]
    rw [hE]
    exact same_T none true true (fun l hl => by cases hl)
  · cases hq : (linesF s).1 with
    | none =>
      show mll _ [.c (.sl true (([] : List (List UInt8)).map rowS)), .c (.sl false (([] : List (List UInt8)).map rowS))] = _
      rw [mll_eq]; simp [DV.b]
    | some l => exact same_T (some l) true false (fun k hk => by cases hk; have := hl l hq; omega)

theorem lLines_ok : PureC Tryd.prog Gt 6 lLines_m := by
  refine pure_of_awp (X := ctx Tryd.prog Gt [(23, tlines_m), (24, rlines_m), (18, same_m), (13, awake_m)]) Tryd.func6 rfl rfl (by kernel_rfl) (by kernel_rfl) (AllOk.cons tlines_ok (AllOk.cons rlines_ok (AllOk.cons same_ok (AllOk.cons awake_ok AllOk.nil)))).kok ?_
  intro args r h0
  obtain ⟨s, rfl, h⟩ := ms_inv h0
  refine ⟨Nat.le_of_ble_eq_true rfl, ?_⟩
  cases h
  by_cases hl : (70000 : Int) < s.length
  · skip
    have hc := Nat.zero_add 0
    repeat' (first | (simp only [hc, Tryd.f6, SX, hl, aw, AB, PL, RG, LP, TY, Nat.reduceEqDiff, Nat.reduceAdd, Nat.reduceSub, Nat.reduceMul, Nat.reduceLT, Nat.reduceLeDiff, Nat.reduceMod, Nat.reduceDiv, reduceCtorEq, Int.reduceEq, Int.reduceNe, Int.reduceLT, Int.reduceLE, Int.reduceNeg, Int.reduceToNat, Int.reduceAdd, Int.reduceSub, Int.reduceMul, ↓reduceIte, forall_const, eq_self, ne_eq, Option.some.injEq, beq_self_eq_true]) | refine fin_ndec (fun hc => ?_) (fun hc => ?_) | refine fin_dec (fun hc => ?_) (fun hc => ?_) | refine cnd_ndec (fun hc => ?_) (fun hc => ?_) | refine cnd_dec' (fun hc => ?_) (fun hc => ?_) | refine fin_nsplit (fun hc => ?_) (fun hc => ?_) | refine fin_split (fun hc => ?_) (fun hc => ?_) | refine cnd_nsplit (fun hc => ?_) (fun hc => ?_) | refine cnd_split (fun hc => ?_) (fun hc => ?_) | refine blk_exit_id ?_)
    all_goals simp_all [DV.b]
  have f1 : tlines_m [.c (.str s)] = some [.c (slT true (linesF s).1), .c (.int .i64 (linesF s).2)] := rfl
  have f2 : rlines_m [.c (.str s)] = some [.c (slL s), .c (.int .i64 (linesF s).2)] := rfl
  have f3 := same_L s
  generalize (linesF s).2 = q2 at *
  generalize slT true (linesF s).1 = d1 at *
  generalize slL s = d2 at *
  have hc := Nat.zero_add 0
  repeat' (first | (simp only [hc, Tryd.f6, SX, hl, f1, f2, f3, aw, AB, PL, RG, LP, TY, Nat.reduceEqDiff, Nat.reduceAdd, Nat.reduceSub, Nat.reduceMul, Nat.reduceLT, Nat.reduceLeDiff, Nat.reduceMod, Nat.reduceDiv, reduceCtorEq, Int.reduceEq, Int.reduceNe, Int.reduceLT, Int.reduceLE, Int.reduceNeg, Int.reduceToNat, Int.reduceAdd, Int.reduceSub, Int.reduceMul, ↓reduceIte, forall_const, eq_self, ne_eq, Option.some.injEq, beq_self_eq_true]) | refine fin_ndec (fun hc => ?_) (fun hc => ?_) | refine fin_dec (fun hc => ?_) (fun hc => ?_) | refine cnd_ndec (fun hc => ?_) (fun hc => ?_) | refine cnd_dec' (fun hc => ?_) (fun hc => ?_) | refine fin_nsplit (fun hc => ?_) (fun hc => ?_) | refine fin_split (fun hc => ?_) (fun hc => ?_) | refine cnd_nsplit (fun hc => ?_) (fun hc => ?_) | refine cnd_split (fun hc => ?_) (fun hc => ?_) | refine blk_exit_id ?_)
  all_goals simp_all [DV.b]

/-- What the law lays together again. -/
theorem lines_back {s : List UInt8} (h : ¬ 65536 < s.length) : ∃ K, linesF s = (if s = [] then none else some K, 0) ∧ slT true (linesF s).1 = .sl true (K.map rowS) ∧ (∀ p ∈ K, (10 : UInt8) ∉ p) ∧ K.length ≤ s.length + 1 ∧
    ((s = [] ∧ K.flatMap (· ++ [10]) = s) ∨ (∃ a x, s = a ++ [x] ∧ x.toNat = 10 ∧ K.flatMap (· ++ [10]) = s) ∨ (∃ a x, s = a ++ [x] ∧ x.toNat ≠ 10 ∧ K.flatMap (· ++ [10]) = s ++ [10])) := by
  by_cases hs : s = []
  · subst hs
    exact ⟨[], rfl, rfl, by simp, by simp, .inl ⟨rfl, rfl⟩⟩
  · have e : linesF s = (some (spl 10 (Lib.trimSuffix s [10])), 0) := by unfold linesF; rw [if_neg h, if_neg hs]
    have h1 := spl_len 10 (Lib.trimSuffix s [10])
    have h2 := trim_le s
    refine ⟨spl 10 (Lib.trimSuffix s [10]), by rw [e, if_neg hs], by rw [e]; rfl, fun p hp => (spl_mem 10 _ p hp).1, by omega, .inr ?_⟩
    rw [flat_join 10 _ (spl_ne 10 _), spl_join]
    rcases trim_end s 10 with ⟨a, e1, e2⟩ | ⟨e1, e2⟩
    · left; exact ⟨a, 10, e1, rfl, by rw [e2, e1]⟩
    · right
      rcases List.eq_nil_or_concat s with h | ⟨a, x, h⟩
      · exact absurd h hs
      · rw [List.concat_eq_append] at h
        refine ⟨a, x, h, fun hx => ?_, by rw [e2]⟩
        have : x = 10 := UInt8.toNat_inj.1 hx
        exact e1 a (by rw [h, this])

theorem lLinesBack_ok : PureC Tryd.prog Gt 12 lLinesBack_m := by
  refine pure_of_awp (X := ctx Tryd.prog Gt [(23, tlines_m), (13, awake_m)]) Tryd.func12 rfl rfl (by kernel_rfl) (by kernel_rfl) (AllOk.cons tlines_ok (AllOk.cons awake_ok AllOk.nil)).kok ?_
  intro args r h0
  obtain ⟨s, rfl, h⟩ := ms_inv h0
  refine ⟨Nat.le_of_ble_eq_true rfl, ?_⟩
  cases h
  by_cases hl : (2000 : Int) < s.length
  · skip
    have hc := Nat.zero_add 0
    repeat' (first | (simp only [hc, Tryd.f12, SX, hl, aw, AB, PL, RG, LP, TY, Nat.reduceEqDiff, Nat.reduceAdd, Nat.reduceSub, Nat.reduceMul, Nat.reduceLT, Nat.reduceLeDiff, Nat.reduceMod, Nat.reduceDiv, reduceCtorEq, Int.reduceEq, Int.reduceNe, Int.reduceLT, Int.reduceLE, Int.reduceNeg, Int.reduceToNat, Int.reduceAdd, Int.reduceSub, Int.reduceMul, ↓reduceIte, forall_const, eq_self, ne_eq, Option.some.injEq, beq_self_eq_true]) | refine fin_ndec (fun hc => ?_) (fun hc => ?_) | refine fin_dec (fun hc => ?_) (fun hc => ?_) | refine cnd_ndec (fun hc => ?_) (fun hc => ?_) | refine cnd_dec' (fun hc => ?_) (fun hc => ?_) | refine fin_nsplit (fun hc => ?_) (fun hc => ?_) | refine fin_split (fun hc => ?_) (fun hc => ?_) | refine cnd_nsplit (fun hc => ?_) (fun hc => ?_) | refine cnd_split (fun hc => ?_) (fun hc => ?_) | refine blk_exit_id ?_)
    all_goals simp_all [DV.b]
  obtain ⟨K, hE, hK, hno, hKl, hF⟩ := lines_back (s := s) (by omega)
  have f1 : tlines_m [.c (.str s)] = some [.c (slT true (linesF s).1), .c (.int .i64 (linesF s).2)] := rfl
  rw [hK] at f1
  have hE2 : (linesF s).2 = 0 := by rw [hE]
  rw [hE2] at f1
  have l1 : ((K.map rowS).length : Int) = K.length := by simp
  obtain ⟨F, hFd⟩ : ∃ F, F = K.flatMap (· ++ [10]) := ⟨_, rfl⟩
  rw [← hFd] at hF
  have hFl : F.length ≤ 2001 := by
    rcases hF with ⟨_, e⟩ | ⟨_, _, _, _, e⟩ | ⟨_, _, _, _, e⟩
    · rw [e]; omega
    · rw [e]; omega
    · rw [e, List.length_append, List.length_singleton]; omega
  have hc := Nat.zero_add 0
  repeat' (first | (simp only [hc, Tryd.f12, SX, hl, f1, l1, aw, AB, PL, RG, LP, TY, Nat.reduceEqDiff, Nat.reduceAdd, Nat.reduceSub, Nat.reduceMul, Nat.reduceLT, Nat.reduceLeDiff, Nat.reduceMod, Nat.reduceDiv, reduceCtorEq, Int.reduceEq, Int.reduceNe, Int.reduceLT, Int.reduceLE, Int.reduceNeg, Int.reduceToNat, Int.reduceAdd, Int.reduceSub, Int.reduceMul, ↓reduceIte, forall_const, eq_self, ne_eq, Option.some.injEq, beq_self_eq_true]) | refine fin_ndec (fun hc => ?_) (fun hc => ?_) | refine fin_dec (fun hc => ?_) (fun hc => ?_) | refine cnd_ndec (fun hc => ?_) (fun hc => ?_) | refine cnd_dec' (fun hc => ?_) (fun hc => ?_) | refine fin_nsplit (fun hc => ?_) (fun hc => ?_) | refine fin_split (fun hc => ?_) (fun hc => ?_) | refine cnd_nsplit (fun hc => ?_) (fun hc => ?_) | refine cnd_split (fun hc => ?_) (fun hc => ?_) | refine blk_exit_id ?_)
  refine awp_loop (σ := Nat × List UInt8) (fun p => p.1 ≤ K.length ∧ p.2 ++ (K.drop p.1).flatMap (· ++ [10]) = F) (fun p => ⟨[(6, AV.i p.1), (5, AV.s p.2), (3, AV.d (.sl true (K.map rowS))), (0, AV.s s)], []⟩) (fun p => K.length - p.1) (0, []) (Wk.sub' (by simp [subT, look]) rfl) ⟨by simp only []; omega, by rw [hFd]; rfl⟩ ?_
  rintro ⟨j, b⟩ ⟨hj, hb⟩
  dsimp only at hj hb ⊢
  by_cases hjl : j < K.length
  · have e2 : (K.map rowS)[j]? = some [.str K[j]] := by simp [hjl, rowS]
    have hlt : ((j : Int) < (K.length : Int)) = True := eq_true (by omega)
    have hw := wI (n := (j : Int) + 1) (by omega) (by omega)
    have hnp := hno K[j] (List.getElem_mem hjl)
    rw [dropL hjl, List.flatMap_cons] at hb
    generalize K[j] = p at *
    have hle := congrArg List.length hb
    simp only [List.length_append, List.length_singleton] at hle
    have m1 : (b ++ p).length = b.length + p.length := by simp
    have k1 : (b.length + p.length ≤ 4611686018427387904) = True := eq_true (by omega)
    have k2 : (b.length + p.length + 1 ≤ 4611686018427387904) = True := eq_true (by omega)
    have hc := Nat.zero_add 0
    repeat' (first | (simp only [hc, SX, l1, hlt, AB, PL, RG, LP, TY, Nat.reduceEqDiff, Nat.reduceAdd, Nat.reduceSub, Nat.reduceMul, Nat.reduceLT, Nat.reduceLeDiff, Nat.reduceMod, Nat.reduceDiv, reduceCtorEq, Int.reduceEq, Int.reduceNe, Int.reduceLT, Int.reduceLE, Int.reduceNeg, Int.reduceToNat, Int.reduceAdd, Int.reduceSub, Int.reduceMul, ↓reduceIte, forall_const, eq_self, ne_eq, Option.some.injEq, beq_self_eq_true]) | refine fin_ndec (fun hc => ?_) (fun hc => ?_) | refine fin_dec (fun hc => ?_) (fun hc => ?_) | refine cnd_ndec (fun hc => ?_) (fun hc => ?_) | refine cnd_dec' (fun hc => ?_) (fun hc => ?_) | refine fin_nsplit (fun hc => ?_) (fun hc => ?_) | refine fin_split (fun hc => ?_) (fun hc => ?_) | refine cnd_nsplit (fun hc => ?_) (fun hc => ?_) | refine cnd_split (fun hc => ?_) (fun hc => ?_) | refine blk_exit_id ?_)
    refine awp_loop (σ := Nat) (fun k => k ≤ p.length) (fun k => ⟨[(7, AV.i k), (6, AV.i j), (5, AV.s b), (3, AV.d (.sl true (K.map rowS))), (0, AV.s s)], []⟩) (fun k => p.length - k) 0 (Wk.sub' (by simp [subT, look]) rfl) (by simp) ?_
    rintro k hk
    by_cases hkl : k < p.length
    · have e3 : p[k]? = some p[k] := by simp [hkl]
      have hlt2 : ((k : Int) < (p.length : Int)) = True := eq_true (by omega)
      have hw2 := wI (n := (k : Int) + 1) (by omega) (by omega)
      have b3 : ((p[k].toNat : Int) = 10) = False := eq_false fun h => by
        have : p[k] = 10 := UInt8.toNat_inj.1 (by show p[k].toNat = 10; omega)
        exact hnp (this ▸ List.getElem_mem hkl)
      have hc := Nat.zero_add 0
      repeat' (first | (simp only [hc, SX, l1, e2, e3, hlt2, nn, hw2, b3, AB, PL, RG, LP, TY, Nat.reduceEqDiff, Nat.reduceAdd, Nat.reduceSub, Nat.reduceMul, Nat.reduceLT, Nat.reduceLeDiff, Nat.reduceMod, Nat.reduceDiv, reduceCtorEq, Int.reduceEq, Int.reduceNe, Int.reduceLT, Int.reduceLE, Int.reduceNeg, Int.reduceToNat, Int.reduceAdd, Int.reduceSub, Int.reduceMul, ↓reduceIte, forall_const, eq_self, ne_eq, Option.some.injEq, beq_self_eq_true]) | refine fin_ndec (fun hc => ?_) (fun hc => ?_) | refine fin_dec (fun hc => ?_) (fun hc => ?_) | refine cnd_ndec (fun hc => ?_) (fun hc => ?_) | refine cnd_dec' (fun hc => ?_) (fun hc => ?_) | refine fin_nsplit (fun hc => ?_) (fun hc => ?_) | refine fin_split (fun hc => ?_) (fun hc => ?_) | refine cnd_nsplit (fun hc => ?_) (fun hc => ?_) | refine cnd_split (fun hc => ?_) (fun hc => ?_) | refine blk_exit_id ?_)
      exact lp_next (k + 1) (Wk.sub' (by simp [subT, look]) rfl) (by omega) (by omega)
    · have hlt2 : ((k : Int) < (p.length : Int)) = False := eq_false (by omega)
      have hc := Nat.zero_add 0
      repeat' (first | (simp only [hc, SX, l1, e2, hlt2, nn, hw, m1, k1, k2, AB, PL, RG, LP, TY, Nat.reduceEqDiff, Nat.reduceAdd, Nat.reduceSub, Nat.reduceMul, Nat.reduceLT, Nat.reduceLeDiff, Nat.reduceMod, Nat.reduceDiv, reduceCtorEq, Int.reduceEq, Int.reduceNe, Int.reduceLT, Int.reduceLE, Int.reduceNeg, Int.reduceToNat, Int.reduceAdd, Int.reduceSub, Int.reduceMul, ↓reduceIte, forall_const, eq_self, ne_eq, Option.some.injEq, beq_self_eq_true]) | refine fin_ndec (fun hc => ?_) (fun hc => ?_) | refine fin_dec (fun hc => ?_) (fun hc => ?_) | refine cnd_ndec (fun hc => ?_) (fun hc => ?_) | refine cnd_dec' (fun hc => ?_) (fun hc => ?_) | refine fin_nsplit (fun hc => ?_) (fun hc => ?_) | refine fin_split (fun hc => ?_) (fun hc => ?_) | refine cnd_nsplit (fun hc => ?_) (fun hc => ?_) | refine cnd_split (fun hc => ?_) (fun hc => ?_) | refine blk_exit_id ?_)
      exact lp_next (j + 1, b ++ p ++ [10]) (Wk.sub' (by simp [subT, look]) rfl) ⟨by simp only []; omega, by rw [← hb]; simp⟩ (by simp only []; omega)
  · have hlt : ((j : Int) < (K.length : Int)) = False := eq_false (by omega)
    rw [List.drop_of_length_le (by omega)] at hb
    have hb : b = F := by simpa using hb
    rcases hF with ⟨h, e⟩ | ⟨a, x, h, hx, e⟩ | ⟨a, x, h, hx, e⟩
    · have b0 : (s == []) = true := by simp [h]
      have b1 : (b == s) = true := by simp [hb, e]
      have hc := Nat.zero_add 0
      repeat' (first | (simp only [hc, SX, l1, hlt, b0, b1, Bool.not_true, aw, AB, PL, RG, LP, TY, Nat.reduceEqDiff, Nat.reduceAdd, Nat.reduceSub, Nat.reduceMul, Nat.reduceLT, Nat.reduceLeDiff, Nat.reduceMod, Nat.reduceDiv, reduceCtorEq, Int.reduceEq, Int.reduceNe, Int.reduceLT, Int.reduceLE, Int.reduceNeg, Int.reduceToNat, Int.reduceAdd, Int.reduceSub, Int.reduceMul, ↓reduceIte, forall_const, eq_self, ne_eq, Option.some.injEq, beq_self_eq_true]) | refine fin_ndec (fun hc => ?_) (fun hc => ?_) | refine fin_dec (fun hc => ?_) (fun hc => ?_) | refine cnd_ndec (fun hc => ?_) (fun hc => ?_) | refine cnd_dec' (fun hc => ?_) (fun hc => ?_) | refine fin_nsplit (fun hc => ?_) (fun hc => ?_) | refine fin_split (fun hc => ?_) (fun hc => ?_) | refine cnd_nsplit (fun hc => ?_) (fun hc => ?_) | refine cnd_split (fun hc => ?_) (fun hc => ?_) | refine blk_exit_id ?_)
      all_goals simp_all [DV.b]
    · have hsl : s.length = a.length + 1 := by rw [h]; simp
      have b0 : (s == []) = false := by simp [h]
      have b1 : (b == s) = true := by simp [hb, e]
      have w1 : IntKind.i64.wrap ((s.length : Int) - 1) = (a.length : Int) := by rw [wI (by omega) (by omega)]; omega
      have e3 : s[a.length]? = some x := by rw [h]; exact mid_get a [] x
      have b3 : ((x.toNat : Int) = 10) = True := eq_true (by omega)
      clear h e
      have hc := Nat.zero_add 0
      repeat' (first | (simp only [hc, SX, l1, hlt, b0, b1, w1, e3, b3, nn, Bool.not_false, not_true_eq_false, decide_false, aw, AB, PL, RG, LP, TY, Nat.reduceEqDiff, Nat.reduceAdd, Nat.reduceSub, Nat.reduceMul, Nat.reduceLT, Nat.reduceLeDiff, Nat.reduceMod, Nat.reduceDiv, reduceCtorEq, Int.reduceEq, Int.reduceNe, Int.reduceLT, Int.reduceLE, Int.reduceNeg, Int.reduceToNat, Int.reduceAdd, Int.reduceSub, Int.reduceMul, ↓reduceIte, forall_const, eq_self, ne_eq, Option.some.injEq, beq_self_eq_true]) | refine fin_ndec (fun hc => ?_) (fun hc => ?_) | refine fin_dec (fun hc => ?_) (fun hc => ?_) | refine cnd_ndec (fun hc => ?_) (fun hc => ?_) | refine cnd_dec' (fun hc => ?_) (fun hc => ?_) | refine fin_nsplit (fun hc => ?_) (fun hc => ?_) | refine fin_split (fun hc => ?_) (fun hc => ?_) | refine cnd_nsplit (fun hc => ?_) (fun hc => ?_) | refine cnd_split (fun hc => ?_) (fun hc => ?_) | refine blk_exit_id ?_)
      all_goals simp_all [DV.b]
    · have hsl : s.length = a.length + 1 := by rw [h]; simp
      have b0 : (s == []) = false := by simp [h]
      have b1 : (b == s ++ [10]) = true := by simp [hb, e]
      have w1 : IntKind.i64.wrap ((s.length : Int) - 1) = (a.length : Int) := by rw [wI (by omega) (by omega)]; omega
      have e3 : s[a.length]? = some x := by rw [h]; exact mid_get a [] x
      have b3 : ((x.toNat : Int) = 10) = False := eq_false (by omega)
      have k1 : (s.length + 1 ≤ 4611686018427387904) = True := eq_true (by omega)
      clear h e
      have hc := Nat.zero_add 0
      repeat' (first | (simp only [hc, SX, l1, hlt, b0, b1, w1, e3, b3, k1, nn, Bool.not_false, not_false_eq_true, decide_true, aw, AB, PL, RG, LP, TY, Nat.reduceEqDiff, Nat.reduceAdd, Nat.reduceSub, Nat.reduceMul, Nat.reduceLT, Nat.reduceLeDiff, Nat.reduceMod, Nat.reduceDiv, reduceCtorEq, Int.reduceEq, Int.reduceNe, Int.reduceLT, Int.reduceLE, Int.reduceNeg, Int.reduceToNat, Int.reduceAdd, Int.reduceSub, Int.reduceMul, ↓reduceIte, forall_const, eq_self, ne_eq, Option.some.injEq, beq_self_eq_true]) | refine fin_ndec (fun hc => ?_) (fun hc => ?_) | refine fin_dec (fun hc => ?_) (fun hc => ?_) | refine cnd_ndec (fun hc => ?_) (fun hc => ?_) | refine cnd_dec' (fun hc => ?_) (fun hc => ?_) | refine fin_nsplit (fun hc => ?_) (fun hc => ?_) | refine fin_split (fun hc => ?_) (fun hc => ?_) | refine cnd_nsplit (fun hc => ?_) (fun hc => ?_) | refine cnd_split (fun hc => ?_) (fun hc => ?_) | refine blk_exit_id ?_)
      all_goals simp_all [DV.b]

end Go.Ab
