/-
  The laws on texts: names, numerals, escapes; numerals, escapes and fields back.
-/
import Derived.Test.YteeffcglpljdpaaDoorAbY7
set_option linter.unusedSimpArgs false
set_option linter.unusedVariables false
namespace Go.Ab
open Go.RowKit Go.Proofs

def mis (g : Int → List UInt8 → Option (List PA)) : List PA → Option (List PA)
  | [.c (.int .i64 a), .c (.str b)] => g a b
  | _ => none
theorem mis_inv {g : Int → List UInt8 → Option (List PA)} {args r : List PA} (h : mis g args = some r) : ∃ a b, args = [.c (.int .i64 a), .c (.str b)] ∧ g a b = some r := by
  unfold mis at h
  split at h
  · exact ⟨_, _, rfl, h⟩
  · cases h
theorem mis_eq {g : Int → List UInt8 → Option (List PA)} {a : Int} {b : List UInt8} : mis g [.c (.int .i64 a), .c (.str b)] = g a b := rfl
def msi (g : List UInt8 → Int → Option (List PA)) : List PA → Option (List PA)
  | [.c (.str b), .c (.int .i64 a)] => g b a
  | _ => none
theorem msi_inv {g : List UInt8 → Int → Option (List PA)} {args r : List PA} (h : msi g args = some r) : ∃ b a, args = [.c (.str b), .c (.int .i64 a)] ∧ g b a = some r := by
  unfold msi at h
  split at h
  · exact ⟨_, _, rfl, h⟩
  · cases h
theorem msi_eq {g : List UInt8 → Int → Option (List PA)} {a : Int} {b : List UInt8} : msi g [.c (.str b), .c (.int .i64 a)] = g b a := rfl

def lNames_m : List PA → Option (List PA) := ms fun _ => some [.b true]
def lNumbers_m : List PA → Option (List PA) := msi fun _ n => if decide (-9223372036854775808 ≤ n ∧ n ≤ 9223372036854775807) = true then some [.b true] else none
def lEscapes_m : List PA → Option (List PA) := ms fun _ => some [.b true]
def lNumberBack_m : List PA → Option (List PA) := mis fun n _ => if decide (-9223372036854775808 ≤ n ∧ n ≤ 9223372036854775807) = true then some [.b true] else none
def lEscapeBack_m : List PA → Option (List PA) := ms fun _ => some [.b true]

theorem lNames_ok : PureC Tryd.prog Gt 3 lNames_m := by
  refine pure_of_awp (X := ctx Tryd.prog Gt [(14, tname_m), (15, rname_m), (13, awake_m)]) Tryd.func3 rfl rfl (by kernel_rfl) (by kernel_rfl) (AllOk.cons tname_ok (AllOk.cons rname_ok (AllOk.cons awake_ok AllOk.nil))).kok ?_
  intro args r h0
  obtain ⟨s, rfl, h⟩ := ms_inv h0
  refine ⟨Nat.le_of_ble_eq_true rfl, ?_⟩
  cases h
  have hc := Nat.zero_add 0
  repeat' (first | (simp only [hc, Tryd.f3, SX, tname_m, rname_m, ms_eq, aw, AB, PL, RG, LP, TY, Nat.reduceEqDiff, Nat.reduceAdd, Nat.reduceSub, Nat.reduceMul, Nat.reduceLT, Nat.reduceLeDiff, Nat.reduceMod, Nat.reduceDiv, reduceCtorEq, Int.reduceEq, Int.reduceNe, Int.reduceLT, Int.reduceLE, Int.reduceNeg, Int.reduceToNat, Int.reduceAdd, Int.reduceSub, Int.reduceMul, ↓reduceIte, forall_const, eq_self, ne_eq, Option.some.injEq, beq_self_eq_true]) | refine fin_ndec (fun hc => ?_) (fun hc => ?_) | refine fin_dec (fun hc => ?_) (fun hc => ?_) | refine cnd_ndec (fun hc => ?_) (fun hc => ?_) | refine cnd_dec' (fun hc => ?_) (fun hc => ?_) | refine fin_nsplit (fun hc => ?_) (fun hc => ?_) | refine fin_split (fun hc => ?_) (fun hc => ?_) | refine cnd_nsplit (fun hc => ?_) (fun hc => ?_) | refine cnd_split (fun hc => ?_) (fun hc => ?_) | refine blk_exit_id ?_)
  all_goals simp_all [DV.b]

theorem lNumbers_ok : PureC Tryd.prog Gt 5 lNumbers_m := by
  refine pure_of_awp (X := ctx Tryd.prog Gt [(19, tnum_m), (20, rnum_m), (21, tfmt_m), (22, rfmt_m), (13, awake_m)]) Tryd.func5 rfl rfl (by kernel_rfl) (by kernel_rfl) (AllOk.cons tnum_ok (AllOk.cons rnum_ok (AllOk.cons tfmt_ok (AllOk.cons rfmt_ok (AllOk.cons awake_ok AllOk.nil))))).kok ?_
  intro args r h0
  obtain ⟨s, n, rfl, h⟩ := msi_inv h0
  refine ⟨Nat.le_of_ble_eq_true rfl, ?_⟩
  split at h
  · rename_i hn
    cases h
    by_cases hl : (2000 : Int) < s.length
    · skip
      have hc := Nat.zero_add 0
      repeat' (first | (simp only [hc, Tryd.f5, SX, hl, aw, AB, PL, RG, LP, TY, Nat.reduceEqDiff, Nat.reduceAdd, Nat.reduceSub, Nat.reduceMul, Nat.reduceLT, Nat.reduceLeDiff, Nat.reduceMod, Nat.reduceDiv, reduceCtorEq, Int.reduceEq, Int.reduceNe, Int.reduceLT, Int.reduceLE, Int.reduceNeg, Int.reduceToNat, Int.reduceAdd, Int.reduceSub, Int.reduceMul, ↓reduceIte, forall_const, eq_self, ne_eq, Option.some.injEq, beq_self_eq_true]) | refine fin_ndec (fun hc => ?_) (fun hc => ?_) | refine fin_dec (fun hc => ?_) (fun hc => ?_) | refine cnd_ndec (fun hc => ?_) (fun hc => ?_) | refine cnd_dec' (fun hc => ?_) (fun hc => ?_) | refine fin_nsplit (fun hc => ?_) (fun hc => ?_) | refine fin_split (fun hc => ?_) (fun hc => ?_) | refine cnd_nsplit (fun hc => ?_) (fun hc => ?_) | refine cnd_split (fun hc => ?_) (fun hc => ?_) | refine blk_exit_id ?_)
      all_goals simp_all [DV.b]
    · have hc1 : decide (s.length ≤ 100000) = true := decide_eq_true (by omega)
      have hc := Nat.zero_add 0
      repeat' (first | (simp only [hc, Tryd.f5, SX, hl, tnum_m, rnum_m, tfmt_m, rfmt_m, ms_eq, m1_eq, hc1, hn, aw, AB, PL, RG, LP, TY, Nat.reduceEqDiff, Nat.reduceAdd, Nat.reduceSub, Nat.reduceMul, Nat.reduceLT, Nat.reduceLeDiff, Nat.reduceMod, Nat.reduceDiv, reduceCtorEq, Int.reduceEq, Int.reduceNe, Int.reduceLT, Int.reduceLE, Int.reduceNeg, Int.reduceToNat, Int.reduceAdd, Int.reduceSub, Int.reduceMul, ↓reduceIte, forall_const, eq_self, ne_eq, Option.some.injEq, beq_self_eq_true]) | refine fin_ndec (fun hc => ?_) (fun hc => ?_) | refine fin_dec (fun hc => ?_) (fun hc => ?_) | refine cnd_ndec (fun hc => ?_) (fun hc => ?_) | refine cnd_dec' (fun hc => ?_) (fun hc => ?_) | refine fin_nsplit (fun hc => ?_) (fun hc => ?_) | refine fin_split (fun hc => ?_) (fun hc => ?_) | refine cnd_nsplit (fun hc => ?_) (fun hc => ?_) | refine cnd_split (fun hc => ?_) (fun hc => ?_) | refine blk_exit_id ?_)
      all_goals simp_all [DV.b]
  · cases h

theorem lEscapes_ok : PureC Tryd.prog Gt 7 lEscapes_m := by
  refine pure_of_awp (X := ctx Tryd.prog Gt [(25, tunesc_m), (26, runesc_m), (27, tesc_m), (28, resc_m), (13, awake_m)]) Tryd.func7 rfl rfl (by kernel_rfl) (by kernel_rfl) (AllOk.cons tunesc_ok (AllOk.cons runesc_ok (AllOk.cons tesc_ok (AllOk.cons resc_ok (AllOk.cons awake_ok AllOk.nil))))).kok ?_
  intro args r h0
  obtain ⟨s, rfl, h⟩ := ms_inv h0
  refine ⟨Nat.le_of_ble_eq_true rfl, ?_⟩
  cases h
  by_cases hl : (2000 : Int) < s.length
  · skip
    have hc := Nat.zero_add 0
    repeat' (first | (simp only [hc, Tryd.f7, SX, hl, aw, AB, PL, RG, LP, TY, Nat.reduceEqDiff, Nat.reduceAdd, Nat.reduceSub, Nat.reduceMul, Nat.reduceLT, Nat.reduceLeDiff, Nat.reduceMod, Nat.reduceDiv, reduceCtorEq, Int.reduceEq, Int.reduceNe, Int.reduceLT, Int.reduceLE, Int.reduceNeg, Int.reduceToNat, Int.reduceAdd, Int.reduceSub, Int.reduceMul, ↓reduceIte, forall_const, eq_self, ne_eq, Option.some.injEq, beq_self_eq_true]) | refine fin_ndec (fun hc => ?_) (fun hc => ?_) | refine fin_dec (fun hc => ?_) (fun hc => ?_) | refine cnd_ndec (fun hc => ?_) (fun hc => ?_) | refine cnd_dec' (fun hc => ?_) (fun hc => ?_) | refine fin_nsplit (fun hc => ?_) (fun hc => ?_) | refine fin_split (fun hc => ?_) (fun hc => ?_) | refine cnd_nsplit (fun hc => ?_) (fun hc => ?_) | refine cnd_split (fun hc => ?_) (fun hc => ?_) | refine blk_exit_id ?_)
    all_goals simp_all [DV.b]
  · have hc1 : decide (s.length ≤ 100000) = true := decide_eq_true (by omega)
    have hc := Nat.zero_add 0
    repeat' (first | (simp only [hc, Tryd.f7, SX, hl, tunesc_m, runesc_m, tesc_m, resc_m, ms_eq, hc1, aw, AB, PL, RG, LP, TY, Nat.reduceEqDiff, Nat.reduceAdd, Nat.reduceSub, Nat.reduceMul, Nat.reduceLT, Nat.reduceLeDiff, Nat.reduceMod, Nat.reduceDiv, reduceCtorEq, Int.reduceEq, Int.reduceNe, Int.reduceLT, Int.reduceLE, Int.reduceNeg, Int.reduceToNat, Int.reduceAdd, Int.reduceSub, Int.reduceMul, ↓reduceIte, forall_const, eq_self, ne_eq, Option.some.injEq, beq_self_eq_true]) | refine fin_ndec (fun hc => ?_) (fun hc => ?_) | refine fin_dec (fun hc => ?_) (fun hc => ?_) | refine cnd_ndec (fun hc => ?_) (fun hc => ?_) | refine cnd_dec' (fun hc => ?_) (fun hc => ?_) | refine fin_nsplit (fun hc => ?_) (fun hc => ?_) | refine fin_split (fun hc => ?_) (fun hc => ?_) | refine cnd_nsplit (fun hc => ?_) (fun hc => ?_) | refine cnd_split (fun hc => ?_) (fun hc => ?_) | refine blk_exit_id ?_)
    all_goals simp_all [DV.b]

theorem itoa_len {n : Int} (h1 : -9223372036854775808 ≤ n) (h2 : n ≤ 9223372036854775807) : (Lib.itoa n).length ≤ 100000 := by
  have key : ∀ (k u : Nat), u < 10 ^ k → 0 < k → (Lib.decDigits u).length ≤ k := fun k => by
    induction k with
    | zero => intro u _ h; omega
    | succ k ih =>
      intro u hu _
      by_cases hs : u < 10
      · rw [dec_small hs]; simp
      · rw [dec_big hs, List.length_append, List.length_singleton]
        have hk : 0 < k := by
          rcases Nat.eq_zero_or_pos k with rfl | h
          · simp at hu; omega
          · exact h
        have := ih (u / 10) (by rw [Nat.pow_succ] at hu; omega) hk
        omega
  rw [itoa_spec]
  split
  · have := key 20 n.natAbs (by have : (10 : Nat) ^ 20 = 100000000000000000000 := by decide
                                omega) (by omega)
    simp only [List.length_cons]; omega
  · have := key 20 n.toNat (by have : (10 : Nat) ^ 20 = 100000000000000000000 := by decide
                               omega) (by omega)
    omega

theorem num_cases (s : List UInt8) : (numF s).2 = 0 → -2147483648 ≤ (numF s).1 ∧ (numF s).1 ≤ 2147483648 := by
  unfold numF
  split
  · simp
  split
  · split
    · simp
    · intro _
      dsimp only
      split <;> omega
  · simp

theorem lNumberBack_ok : PureC Tryd.prog Gt 9 lNumberBack_m := by
  refine pure_of_awp (X := ctx Tryd.prog Gt [(19, tnum_m), (21, tfmt_m), (13, awake_m)]) Tryd.func9 rfl rfl (by kernel_rfl) (by kernel_rfl) (AllOk.cons tnum_ok (AllOk.cons tfmt_ok (AllOk.cons awake_ok AllOk.nil))).kok ?_
  intro args r h0
  obtain ⟨n, s, rfl, h⟩ := mis_inv h0
  refine ⟨Nat.le_of_ble_eq_true rfl, ?_⟩
  split at h
  · rename_i hn
    obtain ⟨hn1, hn2⟩ := of_decide_eq_true hn
    cases h
    by_cases hl : (2000 : Int) < s.length
    · skip
      have hc := Nat.zero_add 0
      repeat' (first | (simp only [hc, Tryd.f9, SX, hl, aw, AB, PL, RG, LP, TY, Nat.reduceEqDiff, Nat.reduceAdd, Nat.reduceSub, Nat.reduceMul, Nat.reduceLT, Nat.reduceLeDiff, Nat.reduceMod, Nat.reduceDiv, reduceCtorEq, Int.reduceEq, Int.reduceNe, Int.reduceLT, Int.reduceLE, Int.reduceNeg, Int.reduceToNat, Int.reduceAdd, Int.reduceSub, Int.reduceMul, ↓reduceIte, forall_const, eq_self, ne_eq, Option.some.injEq, beq_self_eq_true]) | refine fin_ndec (fun hc => ?_) (fun hc => ?_) | refine fin_dec (fun hc => ?_) (fun hc => ?_) | refine cnd_ndec (fun hc => ?_) (fun hc => ?_) | refine cnd_dec' (fun hc => ?_) (fun hc => ?_) | refine fin_nsplit (fun hc => ?_) (fun hc => ?_) | refine fin_split (fun hc => ?_) (fun hc => ?_) | refine cnd_nsplit (fun hc => ?_) (fun hc => ?_) | refine cnd_split (fun hc => ?_) (fun hc => ?_) | refine blk_exit_id ?_)
      all_goals simp_all [DV.b]
    have hc1 : decide (s.length ≤ 100000) = true := decide_eq_true (by omega)
    have f1 : tfmt_m [.c (.int .i64 n)] = some [.c (.str (Lib.itoa n))] := by rw [tfmt_m, m1_eq, if_pos hn]
    have f2 : tnum_m [.c (.str (Lib.itoa n))] = some [.i (numF (Lib.itoa n)).1, .i (numF (Lib.itoa n)).2] := by
      rw [tnum_m, ms_eq, if_pos (decide_eq_true (itoa_len hn1 hn2))]
    rw [num_itoa n] at f2
    have f3 : tnum_m [.c (.str s)] = some [.c (.int .i64 (numF s).1), .c (.int .i64 (numF s).2)] := by rw [tnum_m, ms_eq, if_pos hc1]
    have g1 := num_cases s
    have g2 := @itoa_num s
    generalize numF s = q at *
    obtain ⟨q1, q2⟩ := q
    dsimp only at f3 g1 g2
    by_cases hr : -2147483648 ≤ n ∧ n ≤ 2147483648
    · rw [if_pos hr] at f2
      have r1 : (-2147483648 ≤ n) = True := eq_true hr.1
      have r2 : (n ≤ 2147483648) = True := eq_true hr.2
      by_cases hq : q2 = 0
      · subst hq
        have b := g1 rfl
        have f4 : tfmt_m [.c (.int .i64 q1)] = some [.c (.str s)] := by
          rw [tfmt_m, m1_eq, if_pos (decide_eq_true (by omega)), g2 rfl]
        have hc := Nat.zero_add 0
        repeat' (first | (simp only [hc, Tryd.f9, SX, hl, f1, f2, f3, f4, r1, r2, aw, AB, PL, RG, LP, TY, Nat.reduceEqDiff, Nat.reduceAdd, Nat.reduceSub, Nat.reduceMul, Nat.reduceLT, Nat.reduceLeDiff, Nat.reduceMod, Nat.reduceDiv, reduceCtorEq, Int.reduceEq, Int.reduceNe, Int.reduceLT, Int.reduceLE, Int.reduceNeg, Int.reduceToNat, Int.reduceAdd, Int.reduceSub, Int.reduceMul, ↓reduceIte, forall_const, eq_self, ne_eq, Option.some.injEq, beq_self_eq_true]) | refine fin_ndec (fun hc => ?_) (fun hc => ?_) | refine fin_dec (fun hc => ?_) (fun hc => ?_) | refine cnd_ndec (fun hc => ?_) (fun hc => ?_) | refine cnd_dec' (fun hc => ?_) (fun hc => ?_) | refine fin_nsplit (fun hc => ?_) (fun hc => ?_) | refine fin_split (fun hc => ?_) (fun hc => ?_) | refine cnd_nsplit (fun hc => ?_) (fun hc => ?_) | refine cnd_split (fun hc => ?_) (fun hc => ?_) | refine blk_exit_id ?_)
        all_goals simp_all [DV.b]
      · skip
        have hc := Nat.zero_add 0
        repeat' (first | (simp only [hc, Tryd.f9, SX, hl, f1, f2, f3, r1, r2, hq, aw, not_false_eq_true, decide_true, decide_false, AB, PL, RG, LP, TY, Nat.reduceEqDiff, Nat.reduceAdd, Nat.reduceSub, Nat.reduceMul, Nat.reduceLT, Nat.reduceLeDiff, Nat.reduceMod, Nat.reduceDiv, reduceCtorEq, Int.reduceEq, Int.reduceNe, Int.reduceLT, Int.reduceLE, Int.reduceNeg, Int.reduceToNat, Int.reduceAdd, Int.reduceSub, Int.reduceMul, ↓reduceIte, forall_const, eq_self, ne_eq, Option.some.injEq, beq_self_eq_true]) | refine fin_ndec (fun hc => ?_) (fun hc => ?_) | refine fin_dec (fun hc => ?_) (fun hc => ?_) | refine cnd_ndec (fun hc => ?_) (fun hc => ?_) | refine cnd_dec' (fun hc => ?_) (fun hc => ?_) | refine fin_nsplit (fun hc => ?_) (fun hc => ?_) | refine fin_split (fun hc => ?_) (fun hc => ?_) | refine cnd_nsplit (fun hc => ?_) (fun hc => ?_) | refine cnd_split (fun hc => ?_) (fun hc => ?_) | refine blk_exit_id ?_)
        all_goals simp_all [DV.b]
    · rw [if_neg hr] at f2
      by_cases hq : q2 = 0
      · subst hq
        have b := g1 rfl
        have f4 : tfmt_m [.c (.int .i64 q1)] = some [.c (.str s)] := by
          rw [tfmt_m, m1_eq, if_pos (decide_eq_true (by omega)), g2 rfl]
        have hc := Nat.zero_add 0
        repeat' (first | (simp only [hc, Tryd.f9, SX, hl, f1, f2, f3, f4, aw, AB, PL, RG, LP, TY, Nat.reduceEqDiff, Nat.reduceAdd, Nat.reduceSub, Nat.reduceMul, Nat.reduceLT, Nat.reduceLeDiff, Nat.reduceMod, Nat.reduceDiv, reduceCtorEq, Int.reduceEq, Int.reduceNe, Int.reduceLT, Int.reduceLE, Int.reduceNeg, Int.reduceToNat, Int.reduceAdd, Int.reduceSub, Int.reduceMul, ↓reduceIte, forall_const, eq_self, ne_eq, Option.some.injEq, beq_self_eq_true]) | refine fin_ndec (fun hc => ?_) (fun hc => ?_) | refine fin_dec (fun hc => ?_) (fun hc => ?_) | refine cnd_ndec (fun hc => ?_) (fun hc => ?_) | refine cnd_dec' (fun hc => ?_) (fun hc => ?_) | refine fin_nsplit (fun hc => ?_) (fun hc => ?_) | refine fin_split (fun hc => ?_) (fun hc => ?_) | refine cnd_nsplit (fun hc => ?_) (fun hc => ?_) | refine cnd_split (fun hc => ?_) (fun hc => ?_) | refine blk_exit_id ?_)
        all_goals first
          | (exfalso; omega)
          | simp_all [DV.b]
      · skip
        have hc := Nat.zero_add 0
        repeat' (first | (simp only [hc, Tryd.f9, SX, hl, f1, f2, f3, hq, aw, not_false_eq_true, decide_true, decide_false, AB, PL, RG, LP, TY, Nat.reduceEqDiff, Nat.reduceAdd, Nat.reduceSub, Nat.reduceMul, Nat.reduceLT, Nat.reduceLeDiff, Nat.reduceMod, Nat.reduceDiv, reduceCtorEq, Int.reduceEq, Int.reduceNe, Int.reduceLT, Int.reduceLE, Int.reduceNeg, Int.reduceToNat, Int.reduceAdd, Int.reduceSub, Int.reduceMul, ↓reduceIte, forall_const, eq_self, ne_eq, Option.some.injEq, beq_self_eq_true]) | refine fin_ndec (fun hc => ?_) (fun hc => ?_) | refine fin_dec (fun hc => ?_) (fun hc => ?_) | refine cnd_ndec (fun hc => ?_) (fun hc => ?_) | refine cnd_dec' (fun hc => ?_) (fun hc => ?_) | refine fin_nsplit (fun hc => ?_) (fun hc => ?_) | refine fin_split (fun hc => ?_) (fun hc => ?_) | refine cnd_nsplit (fun hc => ?_) (fun hc => ?_) | refine cnd_split (fun hc => ?_) (fun hc => ?_) | refine blk_exit_id ?_)
        all_goals first
          | (exfalso; omega)
          | simp_all [DV.b]
  · cases h

theorem flat_len (s : List UInt8) : (s.flatMap esc1).length ≤ 3 * s.length ∧ s.length ≤ (s.flatMap esc1).length := by
  induction s with
  | nil => simp
  | cons c s ih =>
    have h1 := esc1_len c
    have h2 : 1 ≤ (esc1 c).length := by unfold esc1; split <;> simp
    simp only [List.flatMap_cons, List.length_append, List.length_cons]
    omega
theorem esc_len (s : List UInt8) : (escF s).length ≤ 3 * s.length + 1 ∧ s.length ≤ (escF s).length := by
  have := flat_len s
  unfold escF
  split
  · rename_i h; subst h; simp
  · omega

theorem lEscapeBack_ok : PureC Tryd.prog Gt 10 lEscapeBack_m := by
  refine pure_of_awp (X := ctx Tryd.prog Gt [(27, tesc_m), (25, tunesc_m), (16, tfields_m), (18, same_m), (13, awake_m)]) Tryd.func10 rfl rfl (by kernel_rfl) (by kernel_rfl) (AllOk.cons tesc_ok (AllOk.cons tunesc_ok (AllOk.cons tfields_ok (AllOk.cons same_ok (AllOk.cons awake_ok AllOk.nil))))).kok ?_
  intro args r h0
  obtain ⟨s, rfl, h⟩ := ms_inv h0
  refine ⟨Nat.le_of_ble_eq_true rfl, ?_⟩
  cases h
  by_cases hl : (2000 : Int) < s.length
  · skip
    have hc := Nat.zero_add 0
    repeat' (first | (simp only [hc, Tryd.f10, SX, hl, aw, AB, PL, RG, LP, TY, Nat.reduceEqDiff, Nat.reduceAdd, Nat.reduceSub, Nat.reduceMul, Nat.reduceLT, Nat.reduceLeDiff, Nat.reduceMod, Nat.reduceDiv, reduceCtorEq, Int.reduceEq, Int.reduceNe, Int.reduceLT, Int.reduceLE, Int.reduceNeg, Int.reduceToNat, Int.reduceAdd, Int.reduceSub, Int.reduceMul, ↓reduceIte, forall_const, eq_self, ne_eq, Option.some.injEq, beq_self_eq_true]) | refine fin_ndec (fun hc => ?_) (fun hc => ?_) | refine fin_dec (fun hc => ?_) (fun hc => ?_) | refine cnd_ndec (fun hc => ?_) (fun hc => ?_) | refine cnd_dec' (fun hc => ?_) (fun hc => ?_) | refine fin_nsplit (fun hc => ?_) (fun hc => ?_) | refine fin_split (fun hc => ?_) (fun hc => ?_) | refine cnd_nsplit (fun hc => ?_) (fun hc => ?_) | refine cnd_split (fun hc => ?_) (fun hc => ?_) | refine blk_exit_id ?_)
    all_goals simp_all [DV.b]
  have hle := esc_len s
  have f1 : tesc_m [.c (.str s)] = some [.c (.str (escF s))] := by rw [tesc_m, ms_eq, if_pos (decide_eq_true (by omega))]
  have f2 : tunesc_m [.c (.str (escF s))] = some [.c (.str s), .c (.int .i64 0)] := by rw [tunesc_m, ms_eq, if_pos (decide_eq_true (by omega)), unesc_esc]
  have f3 : tunesc_m [.c (.str s)] = some [.c (.str (unescF s).1), .c (.int .i64 (unescF s).2)] := by rw [tunesc_m, ms_eq, if_pos (decide_eq_true (by omega))]
  have f4 : (unescF s).2 = 0 → tesc_m [.c (.str (unescF s).1)] = some [.c (.str s)] := fun h => by
    have e := esc_unesc h
    have := esc_len (unescF s).1
    rw [e] at this
    rw [tesc_m, ms_eq, if_pos (decide_eq_true (by omega)), e]
  have f5 : (escF s).length ≤ 512 → tfields_m [.c (.str (escF s))] = some [.c (.sl true [[.str (escF s)]]), .c (.int .i64 0)] := fun h => by
    rw [tfields_m, ms_eq, fields_esc h]; rfl
  have f6 : same_m [.c (.sl true [[.str (escF s)]]), .c (.sl true [[.str (escF s)]])] = some [.c (.bool true)] := by
    show mll _ [.c (.sl true ([escF s].map rowS)), .c (.sl true ([escF s].map rowS))] = _
    rw [mll_eq]
    simp [DV.b]
  generalize escF s = E at *
  generalize unescF s = U at *
  obtain ⟨u1, u2⟩ := U
  dsimp only at f3 f4
  by_cases hE : (E.length : Int) ≤ 512
  · have f5' := f5 (by omega)
    by_cases hu : u2 = 0
    · subst hu
      have f4' := f4 rfl
      have hc := Nat.zero_add 0
      repeat' (first | (simp only [hc, Tryd.f10, SX, hl, f1, f2, f3, f4', f5', f6, hE, aw, Bool.not_true, Bool.not_false, AB, PL, RG, LP, TY, Nat.reduceEqDiff, Nat.reduceAdd, Nat.reduceSub, Nat.reduceMul, Nat.reduceLT, Nat.reduceLeDiff, Nat.reduceMod, Nat.reduceDiv, reduceCtorEq, Int.reduceEq, Int.reduceNe, Int.reduceLT, Int.reduceLE, Int.reduceNeg, Int.reduceToNat, Int.reduceAdd, Int.reduceSub, Int.reduceMul, ↓reduceIte, forall_const, eq_self, ne_eq, Option.some.injEq, beq_self_eq_true]) | refine fin_ndec (fun hc => ?_) (fun hc => ?_) | refine fin_dec (fun hc => ?_) (fun hc => ?_) | refine cnd_ndec (fun hc => ?_) (fun hc => ?_) | refine cnd_dec' (fun hc => ?_) (fun hc => ?_) | refine fin_nsplit (fun hc => ?_) (fun hc => ?_) | refine fin_split (fun hc => ?_) (fun hc => ?_) | refine cnd_nsplit (fun hc => ?_) (fun hc => ?_) | refine cnd_split (fun hc => ?_) (fun hc => ?_) | refine blk_exit_id ?_)
      all_goals simp_all [DV.b]
    · skip
      have hc := Nat.zero_add 0
      repeat' (first | (simp only [hc, Tryd.f10, SX, hl, f1, f2, f3, f5', f6, hE, hu, aw, Bool.not_true, Bool.not_false, not_false_eq_true, decide_true, decide_false, AB, PL, RG, LP, TY, Nat.reduceEqDiff, Nat.reduceAdd, Nat.reduceSub, Nat.reduceMul, Nat.reduceLT, Nat.reduceLeDiff, Nat.reduceMod, Nat.reduceDiv, reduceCtorEq, Int.reduceEq, Int.reduceNe, Int.reduceLT, Int.reduceLE, Int.reduceNeg, Int.reduceToNat, Int.reduceAdd, Int.reduceSub, Int.reduceMul, ↓reduceIte, forall_const, eq_self, ne_eq, Option.some.injEq, beq_self_eq_true]) | refine fin_ndec (fun hc => ?_) (fun hc => ?_) | refine fin_dec (fun hc => ?_) (fun hc => ?_) | refine cnd_ndec (fun hc => ?_) (fun hc => ?_) | refine cnd_dec' (fun hc => ?_) (fun hc => ?_) | refine fin_nsplit (fun hc => ?_) (fun hc => ?_) | refine fin_split (fun hc => ?_) (fun hc => ?_) | refine cnd_nsplit (fun hc => ?_) (fun hc => ?_) | refine cnd_split (fun hc => ?_) (fun hc => ?_) | refine blk_exit_id ?_)
      all_goals simp_all [DV.b]
  · by_cases hu : u2 = 0
    · subst hu
      have f4' := f4 rfl
      have hc := Nat.zero_add 0
      repeat' (first | (simp only [hc, Tryd.f10, SX, hl, f1, f2, f3, f4', hE, aw, Bool.not_true, Bool.not_false, AB, PL, RG, LP, TY, Nat.reduceEqDiff, Nat.reduceAdd, Nat.reduceSub, Nat.reduceMul, Nat.reduceLT, Nat.reduceLeDiff, Nat.reduceMod, Nat.reduceDiv, reduceCtorEq, Int.reduceEq, Int.reduceNe, Int.reduceLT, Int.reduceLE, Int.reduceNeg, Int.reduceToNat, Int.reduceAdd, Int.reduceSub, Int.reduceMul, ↓reduceIte, forall_const, eq_self, ne_eq, Option.some.injEq, beq_self_eq_true]) | refine fin_ndec (fun hc => ?_) (fun hc => ?_) | refine fin_dec (fun hc => ?_) (fun hc => ?_) | refine cnd_ndec (fun hc => ?_) (fun hc => ?_) | refine cnd_dec' (fun hc => ?_) (fun hc => ?_) | refine fin_nsplit (fun hc => ?_) (fun hc => ?_) | refine fin_split (fun hc => ?_) (fun hc => ?_) | refine cnd_nsplit (fun hc => ?_) (fun hc => ?_) | refine cnd_split (fun hc => ?_) (fun hc => ?_) | refine blk_exit_id ?_)
      all_goals simp_all [DV.b]
    · skip
      have hc := Nat.zero_add 0
      repeat' (first | (simp only [hc, Tryd.f10, SX, hl, f1, f2, f3, hE, hu, aw, Bool.not_true, Bool.not_false, not_false_eq_true, decide_true, decide_false, AB, PL, RG, LP, TY, Nat.reduceEqDiff, Nat.reduceAdd, Nat.reduceSub, Nat.reduceMul, Nat.reduceLT, Nat.reduceLeDiff, Nat.reduceMod, Nat.reduceDiv, reduceCtorEq, Int.reduceEq, Int.reduceNe, Int.reduceLT, Int.reduceLE, Int.reduceNeg, Int.reduceToNat, Int.reduceAdd, Int.reduceSub, Int.reduceMul, ↓reduceIte, forall_const, eq_self, ne_eq, Option.some.injEq, beq_self_eq_true]) | refine fin_ndec (fun hc => ?_) (fun hc => ?_) | refine fin_dec (fun hc => ?_) (fun hc => ?_) | refine cnd_ndec (fun hc => ?_) (fun hc => ?_) | refine cnd_dec' (fun hc => ?_) (fun hc => ?_) | refine fin_nsplit (fun hc => ?_) (fun hc => ?_) | refine fin_split (fun hc => ?_) (fun hc => ?_) | refine cnd_nsplit (fun hc => ?_) (fun hc => ?_) | refine cnd_split (fun hc => ?_) (fun hc => ?_) | refine blk_exit_id ?_)
      all_goals simp_all [DV.b]

end Go.Ab
