/-
  What the functions of the texts compute: numerals read.
-/
import Derived.Test.YteeffcglpljdpaaDoorAbY4
set_option linter.unusedSimpArgs false
set_option linter.unusedVariables false
namespace Go.Ab
open Go.RowKit Go.Proofs

def tnum_m : List PA → Option (List PA) := ms fun s => if decide (s.length ≤ 100000) = true then some [.i (numF s).1, .i (numF s).2] else none
def rnum_m : List PA → Option (List PA) := ms fun s => if decide (s.length ≤ 100000) = true then some [.i (numF s).1, .i (numF s).2] else none

theorem num_bad {s : List UInt8} (h1 : Lib.trimPrefix s [45] ≠ []) (h : ¬ (Lib.trimPrefix s [45]).all isDig = true) : numF s = (0, 5) := by
  unfold numF
  split <;> first | rfl | rw [if_neg h]
theorem num_first {s : List UInt8} (h : Lib.trimPrefix s [45] = [] ∨ ((Lib.trimPrefix s [45]).head? = some 48 ∧ s ≠ [48])) : numF s = (0, 5) := by
  unfold numF; rw [if_pos h]
theorem num_big {s : List UInt8} (h : ¬ (Lib.trimPrefix s [45] = [] ∨ ((Lib.trimPrefix s [45]).head? = some 48 ∧ s ≠ [48]))) (h2 : (Lib.trimPrefix s [45]).all isDig = true) (h3 : 2147483648 < val (Lib.trimPrefix s [45])) : numF s = (0, 2) := by
  unfold numF; rw [if_neg h, if_pos h2, if_pos h3]
theorem num_pos {s : List UInt8} (h : ¬ (Lib.trimPrefix s [45] = [] ∨ ((Lib.trimPrefix s [45]).head? = some 48 ∧ s ≠ [48]))) (h2 : (Lib.trimPrefix s [45]).all isDig = true) (h3 : ¬ 2147483648 < val (Lib.trimPrefix s [45])) (h4 : Lib.trimPrefix s [45] = s) : numF s = ((val (Lib.trimPrefix s [45]) : Int), 0) := by
  unfold numF; rw [if_neg h, if_pos h2, if_neg h3, if_pos h4]
theorem num_neg {s : List UInt8} (h : ¬ (Lib.trimPrefix s [45] = [] ∨ ((Lib.trimPrefix s [45]).head? = some 48 ∧ s ≠ [48]))) (h2 : (Lib.trimPrefix s [45]).all isDig = true) (h3 : ¬ 2147483648 < val (Lib.trimPrefix s [45])) (h4 : Lib.trimPrefix s [45] ≠ s) : numF s = (-(val (Lib.trimPrefix s [45]) : Int), 0) := by
  unfold numF; rw [if_neg h, if_pos h2, if_neg h3, if_neg h4]
theorem dig_iff {c : UInt8} : isDig c = true ↔ 48 ≤ c.toNat ∧ c.toNat ≤ 57 := by simp [isDig]
theorem take_snoc {s : List UInt8} {j : Nat} {c : UInt8} (h : s[j]? = some c) : s.take (j + 1) = s.take j ++ [c] := by
  obtain ⟨hj, rfl⟩ := List.getElem?_eq_some_iff.1 h
  exact List.take_succ_eq_append_getElem hj
theorem bad_mem {d : List UInt8} {j : Nat} {c : UInt8} (h : d[j]? = some c) (hc : ¬ isDig c = true) : ¬ d.all isDig = true := fun h2 => by
  rw [List.all_eq_true] at h2
  exact hc (h2 c (List.mem_of_getElem? h))

@[irreducible] def capN (v : Nat) : Nat := if v ≤ 2147483648 then v else 2147483649
theorem capN_lo {v : Nat} (h : v ≤ 2147483648) : capN v = v := by unfold capN; rw [if_pos h]
theorem capN_hi {v : Nat} (h : ¬ v ≤ 2147483648) : capN v = 2147483649 := by unfold capN; rw [if_neg h]
theorem capN_le (v : Nat) : capN v ≤ 2147483649 := by
  by_cases h : v ≤ 2147483648
  · rw [capN_lo h]; omega
  · rw [capN_hi h]; omega
theorem capN_step (v k : Nat) (hk : k ≤ 9) : (if (2147483649 : Int) < 10 * (capN v : Int) + (k : Int) then (2147483649 : Int) else 10 * (capN v : Int) + (k : Int)) = ((capN (10 * v + k) : Nat) : Int) := by
  by_cases h : v ≤ 2147483648
  · rw [capN_lo h]
    by_cases h2 : 10 * v + k ≤ 2147483648
    · rw [capN_lo h2, if_neg (by omega)]; omega
    · rw [capN_hi h2]; split <;> omega
  · rw [capN_hi h, capN_hi (by omega), if_pos (by omega)]; rfl

def preK (k : Nat) (l : List UInt8) : List UInt8 := l.drop k
theorem preK_snoc {k : Nat} {l : List UInt8} {c : UInt8} (h : k ≤ l.length) : preK k (l ++ [c]) = preK k l ++ [c] := List.drop_append_of_le_length h
theorem capN_z : capN (valF 0 []) = 0 := capN_lo (Nat.zero_le _)

theorem tnum_ok : PureC Tryd.prog Gt 19 tnum_m := by
  refine pure_of_awp (X := ctx Tryd.prog Gt [(32, trimP_m)]) Tryd.func19 rfl rfl (by kernel_rfl) (by kernel_rfl) (AllOk.cons trimP_ok AllOk.nil).kok ?_
  intro args r h0
  obtain ⟨s, rfl, h⟩ := ms_inv h0
  refine ⟨Nat.le_of_ble_eq_true rfl, ?_⟩
  split at h
  · rename_i hlen
    have hlen := of_decide_eq_true hlen
    cases h
    have tp : trimP_m [.c (.str s), .c (.str [45])] = some [.c (.str (Lib.trimPrefix s [45]))] := rfl
    have hdl : (Lib.trimPrefix s [45]).length ≤ s.length := by
      rcases trim_minus s with ⟨r, e1, e2⟩ | ⟨_, e2⟩
      · rw [e2, e1]; simp
      · rw [e2]; exact Nat.le_refl _
    have n1 := @num_bad s
    have n2 := @num_first s
    have n3 := @num_big s
    have n4 := @num_pos s
    have n5 := @num_neg s
    generalize Lib.trimPrefix s [45] = d at *
    by_cases hd0 : d = []
    · subst hd0
      have hE := n2 (.inl rfl)
      have hc := Nat.zero_add 0
      repeat' (first | (simp only [hc, Tryd.f19, SX, tp, AB, PL, RG, LP, TY, Nat.reduceEqDiff, Nat.reduceAdd, Nat.reduceSub, Nat.reduceMul, Nat.reduceLT, Nat.reduceLeDiff, Nat.reduceMod, Nat.reduceDiv, reduceCtorEq, Int.reduceEq, Int.reduceNe, Int.reduceLT, Int.reduceLE, Int.reduceNeg, Int.reduceToNat, Int.reduceAdd, Int.reduceSub, Int.reduceMul, ↓reduceIte, forall_const, eq_self, ne_eq, Option.some.injEq, beq_self_eq_true]) | refine fin_ndec (fun hc => ?_) (fun hc => ?_) | refine fin_dec (fun hc => ?_) (fun hc => ?_) | refine cnd_ndec (fun hc => ?_) (fun hc => ?_) | refine cnd_dec' (fun hc => ?_) (fun hc => ?_) | refine fin_nsplit (fun hc => ?_) (fun hc => ?_) | refine fin_split (fun hc => ?_) (fun hc => ?_) | refine cnd_nsplit (fun hc => ?_) (fun hc => ?_) | refine cnd_split (fun hc => ?_) (fun hc => ?_) | refine blk_exit_id ?_)
      all_goals simp [hE, DV.i]
    have hd0b : (d == []) = false := by simp [hd0]
    have hdp := List.length_pos_iff.2 hd0
    obtain ⟨c0, hc0⟩ : ∃ c, d[0]? = some c := ⟨d[0], List.getElem?_eq_getElem hdp⟩
    have hhd : d.head? = some c0 := by rw [← hc0, List.head?_eq_getElem?]
    by_cases hz : c0.toNat = 48 ∧ s ≠ [48]
    · have c48 : c0 = 48 := UInt8.toNat_inj.1 hz.1
      have hE := n2 (.inr ⟨by rw [hhd, c48], hz.2⟩)
      have a1 : ((c0.toNat : Int) = 48) = True := eq_true (by omega)
      have a2 : (s == [48]) = false := by simp [hz.2]
      have hc := Nat.zero_add 0
      repeat' (first | (simp only [hc, Tryd.f19, SX, tp, hd0b, hc0, a1, a2, Bool.not_false, AB, PL, RG, LP, TY, Nat.reduceEqDiff, Nat.reduceAdd, Nat.reduceSub, Nat.reduceMul, Nat.reduceLT, Nat.reduceLeDiff, Nat.reduceMod, Nat.reduceDiv, reduceCtorEq, Int.reduceEq, Int.reduceNe, Int.reduceLT, Int.reduceLE, Int.reduceNeg, Int.reduceToNat, Int.reduceAdd, Int.reduceSub, Int.reduceMul, ↓reduceIte, forall_const, eq_self, ne_eq, Option.some.injEq, beq_self_eq_true]) | refine fin_ndec (fun hc => ?_) (fun hc => ?_) | refine fin_dec (fun hc => ?_) (fun hc => ?_) | refine cnd_ndec (fun hc => ?_) (fun hc => ?_) | refine cnd_dec' (fun hc => ?_) (fun hc => ?_) | refine fin_nsplit (fun hc => ?_) (fun hc => ?_) | refine fin_split (fun hc => ?_) (fun hc => ?_) | refine cnd_nsplit (fun hc => ?_) (fun hc => ?_) | refine cnd_split (fun hc => ?_) (fun hc => ?_) | refine blk_exit_id ?_)
      all_goals simp [hE, DV.i]
    have hok : ¬ (d = [] ∨ (d.head? = some 48 ∧ s ≠ [48])) := by
      rintro (h | ⟨h1, h2⟩)
      · exact hd0 h
      · rw [hhd] at h1; cases h1; exact hz ⟨rfl, h2⟩
    have head : (c0.toNat = 48 ∧ (s == [48]) = true) ∨ c0.toNat ≠ 48 := by
      by_cases h : c0.toNat = 48
      · left; refine ⟨h, ?_⟩
        have : s = [48] := Classical.not_not.1 fun hn => hz ⟨h, hn⟩
        simp [this]
      · exact .inr h
    rcases head with ⟨h1, h2⟩ | h1
    · have a1 : ((c0.toNat : Int) = 48) = True := eq_true (by omega)
      have hc := Nat.zero_add 0
      repeat' (first | (simp only [hc, Tryd.f19, SX, tp, hd0b, hc0, a1, h2, Bool.not_true, AB, PL, RG, LP, TY, Nat.reduceEqDiff, Nat.reduceAdd, Nat.reduceSub, Nat.reduceMul, Nat.reduceLT, Nat.reduceLeDiff, Nat.reduceMod, Nat.reduceDiv, reduceCtorEq, Int.reduceEq, Int.reduceNe, Int.reduceLT, Int.reduceLE, Int.reduceNeg, Int.reduceToNat, Int.reduceAdd, Int.reduceSub, Int.reduceMul, ↓reduceIte, forall_const, eq_self, ne_eq, Option.some.injEq, beq_self_eq_true]) | refine fin_ndec (fun hc => ?_) (fun hc => ?_) | refine fin_dec (fun hc => ?_) (fun hc => ?_) | refine cnd_ndec (fun hc => ?_) (fun hc => ?_) | refine cnd_dec' (fun hc => ?_) (fun hc => ?_) | refine fin_nsplit (fun hc => ?_) (fun hc => ?_) | refine fin_split (fun hc => ?_) (fun hc => ?_) | refine cnd_nsplit (fun hc => ?_) (fun hc => ?_) | refine cnd_split (fun hc => ?_) (fun hc => ?_) | refine blk_exit_id ?_)
      refine awp_loop (σ := Nat) (fun j => j ≤ d.length ∧ (d.take j).all isDig = true) (fun j => ⟨[(22, .v (.c (.it 0))), (5, AV.i (capN (val (d.take j)))), (4, AV.s d), (0, AV.s s)], [.siter d j]⟩) (fun j => d.length - j) 0 (Wk.sub' (by simp [subT, look, capN_z]) rfl) (by simp) ?_
      rintro j ⟨hj, hout⟩
      by_cases hjl : j < d.length
      · have e1 : d[j]? = some d[j] := by simp [hjl]
        have hlt : (j < d.length) = True := eq_true hjl
        generalize d[j] = c at *
        obtain ⟨d1, d2⟩ := dec_at e1
        by_cases hdg : isDig c = true
        · have hdg' := dig_iff.1 hdg
          have d3 := d1 (by omega)
          have hv : val (d.take (j + 1)) = 10 * val (d.take j) + (c.toNat - 48) := by rw [take_snoc e1, val_snoc]
          have hal : (d.take (j + 1)).all isDig = true := by rw [take_snoc e1, List.all_append, hout]; simp [hdg]
          have hcl := capN_le (val (d.take j))
          have hs := capN_step (val (d.take j)) (c.toNat - 48) (by omega)
          rw [← hv] at hs
          generalize capN (val (d.take j)) = n at *
          have b1 : ((c.toNat : Int) < 48) = False := eq_false (by omega)
          have b2 : ((57 : Int) < (c.toNat : Int)) = False := eq_false (by omega)
          have w1 := wI (n := 10 * (n : Int)) (by omega) (by omega)
          have w2 := wI32 (n := (c.toNat : Int) - 48) (by omega) (by omega)
          have w3 := wI (n := (c.toNat : Int) - 48) (by omega) (by omega)
          have w4 := wI (n := 10 * (n : Int) + ((c.toNat : Int) - 48)) (by omega) (by omega)
          have mn : (if (2147483649 : Int) < 10 * (n : Int) + ((c.toNat : Int) - 48) then (2147483649 : Int) else 10 * (n : Int) + ((c.toNat : Int) - 48)) = (capN (val (d.take (j + 1))) : Int) := by
            rw [show (c.toNat : Int) - 48 = ((c.toNat - 48 : Nat) : Int) by omega]; exact hs
          have hc := Nat.zero_add 0
          repeat' (first | (simp only [hc, SX, hlt, d3, b1, b2, w1, w2, w3, w4, mn, AB, PL, RG, LP, TY, Nat.reduceEqDiff, Nat.reduceAdd, Nat.reduceSub, Nat.reduceMul, Nat.reduceLT, Nat.reduceLeDiff, Nat.reduceMod, Nat.reduceDiv, reduceCtorEq, Int.reduceEq, Int.reduceNe, Int.reduceLT, Int.reduceLE, Int.reduceNeg, Int.reduceToNat, Int.reduceAdd, Int.reduceSub, Int.reduceMul, ↓reduceIte, forall_const, eq_self, ne_eq, Option.some.injEq, beq_self_eq_true]) | refine fin_ndec (fun hc => ?_) (fun hc => ?_) | refine fin_dec (fun hc => ?_) (fun hc => ?_) | refine cnd_ndec (fun hc => ?_) (fun hc => ?_) | refine cnd_dec' (fun hc => ?_) (fun hc => ?_) | refine fin_nsplit (fun hc => ?_) (fun hc => ?_) | refine fin_split (fun hc => ?_) (fun hc => ?_) | refine cnd_nsplit (fun hc => ?_) (fun hc => ?_) | refine cnd_split (fun hc => ?_) (fun hc => ?_) | refine blk_exit_id ?_)
          exact lp_next (j + 1) (Wk.sub' (by simp [subT, look]) rfl) ⟨by omega, hal⟩ (by omega)
        · have hE := n1 hd0 (bad_mem e1 hdg)
          by_cases ha : c.toNat < 128
          · have d3 := d1 ha
            have hdg' : ¬ (48 ≤ c.toNat ∧ c.toNat ≤ 57) := fun h => hdg (dig_iff.2 h)
            by_cases b0 : (c.toNat : Int) < 48
            · skip
              have hc := Nat.zero_add 0
              repeat' (first | (simp only [hc, SX, hlt, d3, b0, AB, PL, RG, LP, TY, Nat.reduceEqDiff, Nat.reduceAdd, Nat.reduceSub, Nat.reduceMul, Nat.reduceLT, Nat.reduceLeDiff, Nat.reduceMod, Nat.reduceDiv, reduceCtorEq, Int.reduceEq, Int.reduceNe, Int.reduceLT, Int.reduceLE, Int.reduceNeg, Int.reduceToNat, Int.reduceAdd, Int.reduceSub, Int.reduceMul, ↓reduceIte, forall_const, eq_self, ne_eq, Option.some.injEq, beq_self_eq_true]) | refine fin_ndec (fun hc => ?_) (fun hc => ?_) | refine fin_dec (fun hc => ?_) (fun hc => ?_) | refine cnd_ndec (fun hc => ?_) (fun hc => ?_) | refine cnd_dec' (fun hc => ?_) (fun hc => ?_) | refine fin_nsplit (fun hc => ?_) (fun hc => ?_) | refine fin_split (fun hc => ?_) (fun hc => ?_) | refine cnd_nsplit (fun hc => ?_) (fun hc => ?_) | refine cnd_split (fun hc => ?_) (fun hc => ?_) | refine blk_exit_id ?_)
              all_goals simp [hE, DV.i]
            · have b2 : ((57 : Int) < (c.toNat : Int)) = True := eq_true (by omega)
              have hc := Nat.zero_add 0
              repeat' (first | (simp only [hc, SX, hlt, d3, b0, b2, AB, PL, RG, LP, TY, Nat.reduceEqDiff, Nat.reduceAdd, Nat.reduceSub, Nat.reduceMul, Nat.reduceLT, Nat.reduceLeDiff, Nat.reduceMod, Nat.reduceDiv, reduceCtorEq, Int.reduceEq, Int.reduceNe, Int.reduceLT, Int.reduceLE, Int.reduceNeg, Int.reduceToNat, Int.reduceAdd, Int.reduceSub, Int.reduceMul, ↓reduceIte, forall_const, eq_self, ne_eq, Option.some.injEq, beq_self_eq_true]) | refine fin_ndec (fun hc => ?_) (fun hc => ?_) | refine fin_dec (fun hc => ?_) (fun hc => ?_) | refine cnd_ndec (fun hc => ?_) (fun hc => ?_) | refine cnd_dec' (fun hc => ?_) (fun hc => ?_) | refine fin_nsplit (fun hc => ?_) (fun hc => ?_) | refine fin_split (fun hc => ?_) (fun hc => ?_) | refine cnd_nsplit (fun hc => ?_) (fun hc => ?_) | refine cnd_split (fun hc => ?_) (fun hc => ?_) | refine blk_exit_id ?_)
              all_goals simp [hE, DV.i]
          · have d3 := (d2 ha).1
            have b1 : (((Utf8.decode ⟨d.toArray⟩ j).1 : Int) < 48) = False := eq_false (by omega)
            have b2 : ((57 : Int) < ((Utf8.decode ⟨d.toArray⟩ j).1 : Int)) = True := eq_true (by omega)
            have hc := Nat.zero_add 0
            repeat' (first | (simp only [hc, SX, hlt, b1, b2, AB, PL, RG, LP, TY, Nat.reduceEqDiff, Nat.reduceAdd, Nat.reduceSub, Nat.reduceMul, Nat.reduceLT, Nat.reduceLeDiff, Nat.reduceMod, Nat.reduceDiv, reduceCtorEq, Int.reduceEq, Int.reduceNe, Int.reduceLT, Int.reduceLE, Int.reduceNeg, Int.reduceToNat, Int.reduceAdd, Int.reduceSub, Int.reduceMul, ↓reduceIte, forall_const, eq_self, ne_eq, Option.some.injEq, beq_self_eq_true]) | refine fin_ndec (fun hc => ?_) (fun hc => ?_) | refine fin_dec (fun hc => ?_) (fun hc => ?_) | refine cnd_ndec (fun hc => ?_) (fun hc => ?_) | refine cnd_dec' (fun hc => ?_) (fun hc => ?_) | refine fin_nsplit (fun hc => ?_) (fun hc => ?_) | refine fin_split (fun hc => ?_) (fun hc => ?_) | refine cnd_nsplit (fun hc => ?_) (fun hc => ?_) | refine cnd_split (fun hc => ?_) (fun hc => ?_) | refine blk_exit_id ?_)
            all_goals simp [hE, DV.i]
      · have hlt : (j < d.length) = False := eq_false hjl
        rw [List.take_of_length_le (by omega)] at hout
        rw [List.take_of_length_le (by omega)]
        by_cases hbig : 2147483648 < val d
        · have hE := n3 hok hout hbig
          have b1 : ((2147483648 : Int) < (capN (val d) : Int)) = True := eq_true (by rw [capN_hi (by omega)]; omega)
          have hc := Nat.zero_add 0
          repeat' (first | (simp only [hc, SX, hlt, b1, AB, PL, RG, LP, TY, Nat.reduceEqDiff, Nat.reduceAdd, Nat.reduceSub, Nat.reduceMul, Nat.reduceLT, Nat.reduceLeDiff, Nat.reduceMod, Nat.reduceDiv, reduceCtorEq, Int.reduceEq, Int.reduceNe, Int.reduceLT, Int.reduceLE, Int.reduceNeg, Int.reduceToNat, Int.reduceAdd, Int.reduceSub, Int.reduceMul, ↓reduceIte, forall_const, eq_self, ne_eq, Option.some.injEq, beq_self_eq_true]) | refine fin_ndec (fun hc => ?_) (fun hc => ?_) | refine fin_dec (fun hc => ?_) (fun hc => ?_) | refine cnd_ndec (fun hc => ?_) (fun hc => ?_) | refine cnd_dec' (fun hc => ?_) (fun hc => ?_) | refine fin_nsplit (fun hc => ?_) (fun hc => ?_) | refine fin_split (fun hc => ?_) (fun hc => ?_) | refine cnd_nsplit (fun hc => ?_) (fun hc => ?_) | refine cnd_split (fun hc => ?_) (fun hc => ?_) | refine blk_exit_id ?_)
          all_goals simp [hE, DV.i]
        · have em : capN (val d) = val d := capN_lo (by omega)
          have b1 : ((2147483648 : Int) < (val d : Int)) = False := eq_false (by omega)
          by_cases hds : d = s
          · have hE := n4 hok hout hbig hds
            have b2 : (d == s) = true := by simp [hds]
            have hc := Nat.zero_add 0
            repeat' (first | (simp only [hc, SX, hlt, em, b1, b2, Bool.not_true, AB, PL, RG, LP, TY, Nat.reduceEqDiff, Nat.reduceAdd, Nat.reduceSub, Nat.reduceMul, Nat.reduceLT, Nat.reduceLeDiff, Nat.reduceMod, Nat.reduceDiv, reduceCtorEq, Int.reduceEq, Int.reduceNe, Int.reduceLT, Int.reduceLE, Int.reduceNeg, Int.reduceToNat, Int.reduceAdd, Int.reduceSub, Int.reduceMul, ↓reduceIte, forall_const, eq_self, ne_eq, Option.some.injEq, beq_self_eq_true]) | refine fin_ndec (fun hc => ?_) (fun hc => ?_) | refine fin_dec (fun hc => ?_) (fun hc => ?_) | refine cnd_ndec (fun hc => ?_) (fun hc => ?_) | refine cnd_dec' (fun hc => ?_) (fun hc => ?_) | refine fin_nsplit (fun hc => ?_) (fun hc => ?_) | refine fin_split (fun hc => ?_) (fun hc => ?_) | refine cnd_nsplit (fun hc => ?_) (fun hc => ?_) | refine cnd_split (fun hc => ?_) (fun hc => ?_) | refine blk_exit_id ?_)
            all_goals simp [hE, DV.i]
          · have hE := n5 hok hout hbig hds
            have b2 : (d == s) = false := by simp [hds]
            have w1 := wI (n := 0 - (val d : Int)) (by omega) (by omega)
            have hc := Nat.zero_add 0
            repeat' (first | (simp only [hc, SX, hlt, em, b1, b2, w1, Bool.not_false, AB, PL, RG, LP, TY, Nat.reduceEqDiff, Nat.reduceAdd, Nat.reduceSub, Nat.reduceMul, Nat.reduceLT, Nat.reduceLeDiff, Nat.reduceMod, Nat.reduceDiv, reduceCtorEq, Int.reduceEq, Int.reduceNe, Int.reduceLT, Int.reduceLE, Int.reduceNeg, Int.reduceToNat, Int.reduceAdd, Int.reduceSub, Int.reduceMul, ↓reduceIte, forall_const, eq_self, ne_eq, Option.some.injEq, beq_self_eq_true]) | refine fin_ndec (fun hc => ?_) (fun hc => ?_) | refine fin_dec (fun hc => ?_) (fun hc => ?_) | refine cnd_ndec (fun hc => ?_) (fun hc => ?_) | refine cnd_dec' (fun hc => ?_) (fun hc => ?_) | refine fin_nsplit (fun hc => ?_) (fun hc => ?_) | refine fin_split (fun hc => ?_) (fun hc => ?_) | refine cnd_nsplit (fun hc => ?_) (fun hc => ?_) | refine cnd_split (fun hc => ?_) (fun hc => ?_) | refine blk_exit_id ?_)
            all_goals simp [hE, DV.i]
    · have a1 : ((c0.toNat : Int) = 48) = False := eq_false (by omega)
      have hc := Nat.zero_add 0
      repeat' (first | (simp only [hc, Tryd.f19, SX, tp, hd0b, hc0, a1, AB, PL, RG, LP, TY, Nat.reduceEqDiff, Nat.reduceAdd, Nat.reduceSub, Nat.reduceMul, Nat.reduceLT, Nat.reduceLeDiff, Nat.reduceMod, Nat.reduceDiv, reduceCtorEq, Int.reduceEq, Int.reduceNe, Int.reduceLT, Int.reduceLE, Int.reduceNeg, Int.reduceToNat, Int.reduceAdd, Int.reduceSub, Int.reduceMul, ↓reduceIte, forall_const, eq_self, ne_eq, Option.some.injEq, beq_self_eq_true]) | refine fin_ndec (fun hc => ?_) (fun hc => ?_) | refine fin_dec (fun hc => ?_) (fun hc => ?_) | refine cnd_ndec (fun hc => ?_) (fun hc => ?_) | refine cnd_dec' (fun hc => ?_) (fun hc => ?_) | refine fin_nsplit (fun hc => ?_) (fun hc => ?_) | refine fin_split (fun hc => ?_) (fun hc => ?_) | refine cnd_nsplit (fun hc => ?_) (fun hc => ?_) | refine cnd_split (fun hc => ?_) (fun hc => ?_) | refine blk_exit_id ?_)
      refine awp_loop (σ := Nat) (fun j => j ≤ d.length ∧ (d.take j).all isDig = true) (fun j => ⟨[(22, .v (.c (.it 0))), (5, AV.i (capN (val (d.take j)))), (4, AV.s d), (0, AV.s s)], [.siter d j]⟩) (fun j => d.length - j) 0 (Wk.sub' (by simp [subT, look, capN_z]) rfl) (by simp) ?_
      rintro j ⟨hj, hout⟩
      by_cases hjl : j < d.length
      · have e1 : d[j]? = some d[j] := by simp [hjl]
        have hlt : (j < d.length) = True := eq_true hjl
        generalize d[j] = c at *
        obtain ⟨d1, d2⟩ := dec_at e1
        by_cases hdg : isDig c = true
        · have hdg' := dig_iff.1 hdg
          have d3 := d1 (by omega)
          have hv : val (d.take (j + 1)) = 10 * val (d.take j) + (c.toNat - 48) := by rw [take_snoc e1, val_snoc]
          have hal : (d.take (j + 1)).all isDig = true := by rw [take_snoc e1, List.all_append, hout]; simp [hdg]
          have hcl := capN_le (val (d.take j))
          have hs := capN_step (val (d.take j)) (c.toNat - 48) (by omega)
          rw [← hv] at hs
          generalize capN (val (d.take j)) = n at *
          have b1 : ((c.toNat : Int) < 48) = False := eq_false (by omega)
          have b2 : ((57 : Int) < (c.toNat : Int)) = False := eq_false (by omega)
          have w1 := wI (n := 10 * (n : Int)) (by omega) (by omega)
          have w2 := wI32 (n := (c.toNat : Int) - 48) (by omega) (by omega)
          have w3 := wI (n := (c.toNat : Int) - 48) (by omega) (by omega)
          have w4 := wI (n := 10 * (n : Int) + ((c.toNat : Int) - 48)) (by omega) (by omega)
          have mn : (if (2147483649 : Int) < 10 * (n : Int) + ((c.toNat : Int) - 48) then (2147483649 : Int) else 10 * (n : Int) + ((c.toNat : Int) - 48)) = (capN (val (d.take (j + 1))) : Int) := by
            rw [show (c.toNat : Int) - 48 = ((c.toNat - 48 : Nat) : Int) by omega]; exact hs
          have hc := Nat.zero_add 0
          repeat' (first | (simp only [hc, SX, hlt, d3, b1, b2, w1, w2, w3, w4, mn, AB, PL, RG, LP, TY, Nat.reduceEqDiff, Nat.reduceAdd, Nat.reduceSub, Nat.reduceMul, Nat.reduceLT, Nat.reduceLeDiff, Nat.reduceMod, Nat.reduceDiv, reduceCtorEq, Int.reduceEq, Int.reduceNe, Int.reduceLT, Int.reduceLE, Int.reduceNeg, Int.reduceToNat, Int.reduceAdd, Int.reduceSub, Int.reduceMul, ↓reduceIte, forall_const, eq_self, ne_eq, Option.some.injEq, beq_self_eq_true]) | refine fin_ndec (fun hc => ?_) (fun hc => ?_) | refine fin_dec (fun hc => ?_) (fun hc => ?_) | refine cnd_ndec (fun hc => ?_) (fun hc => ?_) | refine cnd_dec' (fun hc => ?_) (fun hc => ?_) | refine fin_nsplit (fun hc => ?_) (fun hc => ?_) | refine fin_split (fun hc => ?_) (fun hc => ?_) | refine cnd_nsplit (fun hc => ?_) (fun hc => ?_) | refine cnd_split (fun hc => ?_) (fun hc => ?_) | refine blk_exit_id ?_)
          exact lp_next (j + 1) (Wk.sub' (by simp [subT, look]) rfl) ⟨by omega, hal⟩ (by omega)
        · have hE := n1 hd0 (bad_mem e1 hdg)
          by_cases ha : c.toNat < 128
          · have d3 := d1 ha
            have hdg' : ¬ (48 ≤ c.toNat ∧ c.toNat ≤ 57) := fun h => hdg (dig_iff.2 h)
            by_cases b0 : (c.toNat : Int) < 48
            · skip
              have hc := Nat.zero_add 0
              repeat' (first | (simp only [hc, SX, hlt, d3, b0, AB, PL, RG, LP, TY, Nat.reduceEqDiff, Nat.reduceAdd, Nat.reduceSub, Nat.reduceMul, Nat.reduceLT, Nat.reduceLeDiff, Nat.reduceMod, Nat.reduceDiv, reduceCtorEq, Int.reduceEq, Int.reduceNe, Int.reduceLT, Int.reduceLE, Int.reduceNeg, Int.reduceToNat, Int.reduceAdd, Int.reduceSub, Int.reduceMul, ↓reduceIte, forall_const, eq_self, ne_eq, Option.some.injEq, beq_self_eq_true]) | refine fin_ndec (fun hc => ?_) (fun hc => ?_) | refine fin_dec (fun hc => ?_) (fun hc => ?_) | refine cnd_ndec (fun hc => ?_) (fun hc => ?_) | refine cnd_dec' (fun hc => ?_) (fun hc => ?_) | refine fin_nsplit (fun hc => ?_) (fun hc => ?_) | refine fin_split (fun hc => ?_) (fun hc => ?_) | refine cnd_nsplit (fun hc => ?_) (fun hc => ?_) | refine cnd_split (fun hc => ?_) (fun hc => ?_) | refine blk_exit_id ?_)
              all_goals simp [hE, DV.i]
            · have b2 : ((57 : Int) < (c.toNat : Int)) = True := eq_true (by omega)
              have hc := Nat.zero_add 0
              repeat' (first | (simp only [hc, SX, hlt, d3, b0, b2, AB, PL, RG, LP, TY, Nat.reduceEqDiff, Nat.reduceAdd, Nat.reduceSub, Nat.reduceMul, Nat.reduceLT, Nat.reduceLeDiff, Nat.reduceMod, Nat.reduceDiv, reduceCtorEq, Int.reduceEq, Int.reduceNe, Int.reduceLT, Int.reduceLE, Int.reduceNeg, Int.reduceToNat, Int.reduceAdd, Int.reduceSub, Int.reduceMul, ↓reduceIte, forall_const, eq_self, ne_eq, Option.some.injEq, beq_self_eq_true]) | refine fin_ndec (fun hc => ?_) (fun hc => ?_) | refine fin_dec (fun hc => ?_) (fun hc => ?_) | refine cnd_ndec (fun hc => ?_) (fun hc => ?_) | refine cnd_dec' (fun hc => ?_) (fun hc => ?_) | refine fin_nsplit (fun hc => ?_) (fun hc => ?_) | refine fin_split (fun hc => ?_) (fun hc => ?_) | refine cnd_nsplit (fun hc => ?_) (fun hc => ?_) | refine cnd_split (fun hc => ?_) (fun hc => ?_) | refine blk_exit_id ?_)
              all_goals simp [hE, DV.i]
          · have d3 := (d2 ha).1
            have b1 : (((Utf8.decode ⟨d.toArray⟩ j).1 : Int) < 48) = False := eq_false (by omega)
            have b2 : ((57 : Int) < ((Utf8.decode ⟨d.toArray⟩ j).1 : Int)) = True := eq_true (by omega)
            have hc := Nat.zero_add 0
            repeat' (first | (simp only [hc, SX, hlt, b1, b2, AB, PL, RG, LP, TY, Nat.reduceEqDiff, Nat.reduceAdd, Nat.reduceSub, Nat.reduceMul, Nat.reduceLT, Nat.reduceLeDiff, Nat.reduceMod, Nat.reduceDiv, reduceCtorEq, Int.reduceEq, Int.reduceNe, Int.reduceLT, Int.reduceLE, Int.reduceNeg, Int.reduceToNat, Int.reduceAdd, Int.reduceSub, Int.reduceMul, ↓reduceIte, forall_const, eq_self, ne_eq, Option.some.injEq, beq_self_eq_true]) | refine fin_ndec (fun hc => ?_) (fun hc => ?_) | refine fin_dec (fun hc => ?_) (fun hc => ?_) | refine cnd_ndec (fun hc => ?_) (fun hc => ?_) | refine cnd_dec' (fun hc => ?_) (fun hc => ?_) | refine fin_nsplit (fun hc => ?_) (fun hc => ?_) | refine fin_split (fun hc => ?_) (fun hc => ?_) | refine cnd_nsplit (fun hc => ?_) (fun hc => ?_) | refine cnd_split (fun hc => ?_) (fun hc => ?_) | refine blk_exit_id ?_)
            all_goals simp [hE, DV.i]
      · have hlt : (j < d.length) = False := eq_false hjl
        rw [List.take_of_length_le (by omega)] at hout
        rw [List.take_of_length_le (by omega)]
        by_cases hbig : 2147483648 < val d
        · have hE := n3 hok hout hbig
          have b1 : ((2147483648 : Int) < (capN (val d) : Int)) = True := eq_true (by rw [capN_hi (by omega)]; omega)
          have hc := Nat.zero_add 0
          repeat' (first | (simp only [hc, SX, hlt, b1, AB, PL, RG, LP, TY, Nat.reduceEqDiff, Nat.reduceAdd, Nat.reduceSub, Nat.reduceMul, Nat.reduceLT, Nat.reduceLeDiff, Nat.reduceMod, Nat.reduceDiv, reduceCtorEq, Int.reduceEq, Int.reduceNe, Int.reduceLT, Int.reduceLE, Int.reduceNeg, Int.reduceToNat, Int.reduceAdd, Int.reduceSub, Int.reduceMul, ↓reduceIte, forall_const, eq_self, ne_eq, Option.some.injEq, beq_self_eq_true]) | refine fin_ndec (fun hc => ?_) (fun hc => ?_) | refine fin_dec (fun hc => ?_) (fun hc => ?_) | refine cnd_ndec (fun hc => ?_) (fun hc => ?_) | refine cnd_dec' (fun hc => ?_) (fun hc => ?_) | refine fin_nsplit (fun hc => ?_) (fun hc => ?_) | refine fin_split (fun hc => ?_) (fun hc => ?_) | refine cnd_nsplit (fun hc => ?_) (fun hc => ?_) | refine cnd_split (fun hc => ?_) (fun hc => ?_) | refine blk_exit_id ?_)
          all_goals simp [hE, DV.i]
        · have em : capN (val d) = val d := capN_lo (by omega)
          have b1 : ((2147483648 : Int) < (val d : Int)) = False := eq_false (by omega)
          by_cases hds : d = s
          · have hE := n4 hok hout hbig hds
            have b2 : (d == s) = true := by simp [hds]
            have hc := Nat.zero_add 0
            repeat' (first | (simp only [hc, SX, hlt, em, b1, b2, Bool.not_true, AB, PL, RG, LP, TY, Nat.reduceEqDiff, Nat.reduceAdd, Nat.reduceSub, Nat.reduceMul, Nat.reduceLT, Nat.reduceLeDiff, Nat.reduceMod, Nat.reduceDiv, reduceCtorEq, Int.reduceEq, Int.reduceNe, Int.reduceLT, Int.reduceLE, Int.reduceNeg, Int.reduceToNat, Int.reduceAdd, Int.reduceSub, Int.reduceMul, ↓reduceIte, forall_const, eq_self, ne_eq, Option.some.injEq, beq_self_eq_true]) | refine fin_ndec (fun hc => ?_) (fun hc => ?_) | refine fin_dec (fun hc => ?_) (fun hc => ?_) | refine cnd_ndec (fun hc => ?_) (fun hc => ?_) | refine cnd_dec' (fun hc => ?_) (fun hc => ?_) | refine fin_nsplit (fun hc => ?_) (fun hc => ?_) | refine fin_split (fun hc => ?_) (fun hc => ?_) | refine cnd_nsplit (fun hc => ?_) (fun hc => ?_) | refine cnd_split (fun hc => ?_) (fun hc => ?_) | refine blk_exit_id ?_)
            all_goals simp [hE, DV.i]
          · have hE := n5 hok hout hbig hds
            have b2 : (d == s) = false := by simp [hds]
            have w1 := wI (n := 0 - (val d : Int)) (by omega) (by omega)
            have hc := Nat.zero_add 0
            repeat' (first | (simp only [hc, SX, hlt, em, b1, b2, w1, Bool.not_false, AB, PL, RG, LP, TY, Nat.reduceEqDiff, Nat.reduceAdd, Nat.reduceSub, Nat.reduceMul, Nat.reduceLT, Nat.reduceLeDiff, Nat.reduceMod, Nat.reduceDiv, reduceCtorEq, Int.reduceEq, Int.reduceNe, Int.reduceLT, Int.reduceLE, Int.reduceNeg, Int.reduceToNat, Int.reduceAdd, Int.reduceSub, Int.reduceMul, ↓reduceIte, forall_const, eq_self, ne_eq, Option.some.injEq, beq_self_eq_true]) | refine fin_ndec (fun hc => ?_) (fun hc => ?_) | refine fin_dec (fun hc => ?_) (fun hc => ?_) | refine cnd_ndec (fun hc => ?_) (fun hc => ?_) | refine cnd_dec' (fun hc => ?_) (fun hc => ?_) | refine fin_nsplit (fun hc => ?_) (fun hc => ?_) | refine fin_split (fun hc => ?_) (fun hc => ?_) | refine cnd_nsplit (fun hc => ?_) (fun hc => ?_) | refine cnd_split (fun hc => ?_) (fun hc => ?_) | refine blk_exit_id ?_)
            all_goals simp [hE, DV.i]
  · cases h

theorem rnum_ok : PureC Tryd.prog Gt 20 rnum_m := by
  refine pure_of_awp (X := ctx Tryd.prog Gt []) Tryd.func20 rfl rfl (by kernel_rfl) (by kernel_rfl) AllOk.nil.kok ?_
  intro args r h0
  obtain ⟨s, rfl, h⟩ := ms_inv h0
  refine ⟨Nat.le_of_ble_eq_true rfl, ?_⟩
  split at h
  · rename_i hlen
    have hlen := of_decide_eq_true hlen
    cases h
    have n1 := @num_bad s
    have n2 := @num_first s
    have n3 := @num_big s
    have n4 := @num_pos s
    have n5 := @num_neg s
    rcases trim_minus s with ⟨r, es, ed⟩ | ⟨hns, ed⟩
    · rw [ed] at n1 n2 n3 n4 n5
      have p0 : ((0 : Int) < (s.length : Int)) = True := eq_true (by rw [es, List.length_cons]; omega)
      have i0 : s[0]? = some 45 := by rw [es]; rfl
      have c45 : (((45 : UInt8).toNat : Int) = 45) = True := by simp
      have edr : r = preK 1 s := by rw [es]; rfl
      have hrl : s.length = r.length + 1 := by rw [es]; rfl
      have hrs : r ≠ s := fun h => by rw [h] at hrl; omega
      by_cases hd0 : r = []
      · have hE := n2 (.inl hd0)
        have q1 : ((1 : Int) = (s.length : Int)) = True := eq_true (by rw [hrl, hd0]; rfl)
        have hc := Nat.zero_add 0
        repeat' (first | (simp only [hc, Tryd.f20, SX, p0, i0, c45, q1, AB, PL, RG, LP, TY, Nat.reduceEqDiff, Nat.reduceAdd, Nat.reduceSub, Nat.reduceMul, Nat.reduceLT, Nat.reduceLeDiff, Nat.reduceMod, Nat.reduceDiv, reduceCtorEq, Int.reduceEq, Int.reduceNe, Int.reduceLT, Int.reduceLE, Int.reduceNeg, Int.reduceToNat, Int.reduceAdd, Int.reduceSub, Int.reduceMul, ↓reduceIte, forall_const, eq_self, ne_eq, Option.some.injEq, beq_self_eq_true]) | refine fin_ndec (fun hc => ?_) (fun hc => ?_) | refine fin_dec (fun hc => ?_) (fun hc => ?_) | refine cnd_ndec (fun hc => ?_) (fun hc => ?_) | refine cnd_dec' (fun hc => ?_) (fun hc => ?_) | refine fin_nsplit (fun hc => ?_) (fun hc => ?_) | refine fin_split (fun hc => ?_) (fun hc => ?_) | refine cnd_nsplit (fun hc => ?_) (fun hc => ?_) | refine cnd_split (fun hc => ?_) (fun hc => ?_) | refine blk_exit_id ?_)
        all_goals simp [hE, DV.i]
      have hdp := List.length_pos_iff.2 hd0
      have q1 : ((1 : Int) = (s.length : Int)) = False := eq_false (by omega)
      obtain ⟨c0, hc0⟩ : ∃ c, s[1]? = some c := ⟨s[1], List.getElem?_eq_getElem (by omega)⟩
      have hhd : r.head? = some c0 := by rw [← hc0, es, List.head?_eq_getElem?]; rfl
      by_cases hz : c0.toNat = 48
      · have c48 : c0 = 48 := UInt8.toNat_inj.1 hz
        have hE := n2 (.inr ⟨by rw [hhd, c48], fun h => by rw [h] at hrl; simp at hrl; exact hd0 hrl⟩)
        have a1 : ((c0.toNat : Int) = 48) = True := eq_true (by omega)
        have hc := Nat.zero_add 0
        repeat' (first | (simp only [hc, Tryd.f20, SX, p0, i0, c45, q1, hc0, a1, AB, PL, RG, LP, TY, Nat.reduceEqDiff, Nat.reduceAdd, Nat.reduceSub, Nat.reduceMul, Nat.reduceLT, Nat.reduceLeDiff, Nat.reduceMod, Nat.reduceDiv, reduceCtorEq, Int.reduceEq, Int.reduceNe, Int.reduceLT, Int.reduceLE, Int.reduceNeg, Int.reduceToNat, Int.reduceAdd, Int.reduceSub, Int.reduceMul, ↓reduceIte, forall_const, eq_self, ne_eq, Option.some.injEq, beq_self_eq_true]) | refine fin_ndec (fun hc => ?_) (fun hc => ?_) | refine fin_dec (fun hc => ?_) (fun hc => ?_) | refine cnd_ndec (fun hc => ?_) (fun hc => ?_) | refine cnd_dec' (fun hc => ?_) (fun hc => ?_) | refine fin_nsplit (fun hc => ?_) (fun hc => ?_) | refine fin_split (fun hc => ?_) (fun hc => ?_) | refine cnd_nsplit (fun hc => ?_) (fun hc => ?_) | refine cnd_split (fun hc => ?_) (fun hc => ?_) | refine blk_exit_id ?_)
        all_goals simp [hE, DV.i]
      have hok : ¬ (r = [] ∨ (r.head? = some 48 ∧ s ≠ [48])) := by
        rintro (h | ⟨h1, h2⟩)
        · exact hd0 h
        · rw [hhd] at h1; cases h1; exact hz rfl
      have a1 : ((c0.toNat : Int) = 48) = False := eq_false (by omega)
      have hc := Nat.zero_add 0
      repeat' (first | (simp only [hc, Tryd.f20, SX, p0, i0, c45, q1, hc0, a1, AB, PL, RG, LP, TY, Nat.reduceEqDiff, Nat.reduceAdd, Nat.reduceSub, Nat.reduceMul, Nat.reduceLT, Nat.reduceLeDiff, Nat.reduceMod, Nat.reduceDiv, reduceCtorEq, Int.reduceEq, Int.reduceNe, Int.reduceLT, Int.reduceLE, Int.reduceNeg, Int.reduceToNat, Int.reduceAdd, Int.reduceSub, Int.reduceMul, ↓reduceIte, forall_const, eq_self, ne_eq, Option.some.injEq, beq_self_eq_true]) | refine fin_ndec (fun hc => ?_) (fun hc => ?_) | refine fin_dec (fun hc => ?_) (fun hc => ?_) | refine cnd_ndec (fun hc => ?_) (fun hc => ?_) | refine cnd_dec' (fun hc => ?_) (fun hc => ?_) | refine fin_nsplit (fun hc => ?_) (fun hc => ?_) | refine fin_split (fun hc => ?_) (fun hc => ?_) | refine cnd_nsplit (fun hc => ?_) (fun hc => ?_) | refine cnd_split (fun hc => ?_) (fun hc => ?_) | refine blk_exit_id ?_)
      have e0 : preK 1 (s.take 1) = [] := List.drop_eq_nil_of_le (by rw [List.length_take]; omega)
      refine awp_loop (σ := Nat × Nat) (fun p => 1 ≤ p.1 ∧ p.1 ≤ s.length ∧ (preK 1 (s.take p.1)).all isDig = true ∧ p.2 ≤ 30000000000 ∧ (p.2 ≤ 2147483648 → p.2 = val (preK 1 (s.take p.1))) ∧ (2147483648 < p.2 → 2147483648 < val (preK 1 (s.take p.1)))) (fun p => ⟨[(6, AV.i p.1), (5, AV.i p.2), (4, AV.i 1), (0, AV.s s)], []⟩) (fun p => s.length - p.1) (1, 0) (Wk.sub' (by simp [subT, look]) rfl) ⟨Nat.le_refl _, by simp only []; omega, by rw [e0]; rfl, by simp only []; omega, fun _ => by rw [e0]; rfl, fun h => absurd h (by simp only []; omega)⟩ ?_
      rintro ⟨j, n⟩ ⟨hk, hj, hout, hn1, hn2, hn3⟩
      dsimp only at hk hj hout hn1 hn2 hn3 ⊢
      by_cases hjl : j < s.length
      · have e1 : s[j]? = some s[j] := by simp [hjl]
        have hlt : ((j : Int) < (s.length : Int)) = True := eq_true (by omega)
        have hw := wI (n := (j : Int) + 1) (by omega) (by omega)
        generalize s[j] = c at *
        by_cases hdg : isDig c = true
        · have hdg' := dig_iff.1 hdg
          have hsn : preK 1 (s.take (j + 1)) = preK 1 (s.take j) ++ [c] := by
            rw [take_snoc e1, preK_snoc (by rw [List.length_take]; omega)]
          have hv : val (preK 1 (s.take (j + 1))) = 10 * val (preK 1 (s.take j)) + (c.toNat - 48) := by rw [hsn, val_snoc]
          have hal : (preK 1 (s.take (j + 1))).all isDig = true := by rw [hsn, List.all_append, hout]; simp [hdg]
          generalize val (preK 1 (s.take j)) = v at *
          have b1 : ((c.toNat : Int) < 48) = False := eq_false (by omega)
          have b2 : ((57 : Int) < (c.toNat : Int)) = False := eq_false (by omega)
          by_cases hcap : (n : Int) ≤ 2147483648
          · have w1 := wI (n := (n : Int) * 10) (by omega) (by omega)
            have w2 := wU8 (n := (c.toNat : Int) - 48) (by omega) (by omega)
            have w3 := wI (n := (c.toNat : Int) - 48) (by omega) (by omega)
            have w4 : IntKind.i64.wrap ((n : Int) * 10 + ((c.toNat : Int) - 48)) = ((10 * n + (c.toNat - 48) : Nat) : Int) := by rw [wI (by omega) (by omega)]; omega
            have hc := Nat.zero_add 0
            repeat' (first | (simp only [hc, SX, e1, hlt, nn, hw, b1, b2, hcap, w1, w2, w3, w4, AB, PL, RG, LP, TY, Nat.reduceEqDiff, Nat.reduceAdd, Nat.reduceSub, Nat.reduceMul, Nat.reduceLT, Nat.reduceLeDiff, Nat.reduceMod, Nat.reduceDiv, reduceCtorEq, Int.reduceEq, Int.reduceNe, Int.reduceLT, Int.reduceLE, Int.reduceNeg, Int.reduceToNat, Int.reduceAdd, Int.reduceSub, Int.reduceMul, ↓reduceIte, forall_const, eq_self, ne_eq, Option.some.injEq, beq_self_eq_true]) | refine fin_ndec (fun hc => ?_) (fun hc => ?_) | refine fin_dec (fun hc => ?_) (fun hc => ?_) | refine cnd_ndec (fun hc => ?_) (fun hc => ?_) | refine cnd_dec' (fun hc => ?_) (fun hc => ?_) | refine fin_nsplit (fun hc => ?_) (fun hc => ?_) | refine fin_split (fun hc => ?_) (fun hc => ?_) | refine cnd_nsplit (fun hc => ?_) (fun hc => ?_) | refine cnd_split (fun hc => ?_) (fun hc => ?_) | refine blk_exit_id ?_)
            exact lp_next (j + 1, 10 * n + (c.toNat - 48)) (Wk.sub' (by simp [subT, look]) rfl) ⟨by simp only []; omega, by simp only []; omega, hal, by simp only []; omega, fun _ => by rw [hv]; have := hn2 (by omega); simp only []; omega, fun h => by rw [hv]; have := hn2 (by omega); simp only [] at h; omega⟩ (by simp only []; omega)
          · skip
            have hc := Nat.zero_add 0
            repeat' (first | (simp only [hc, SX, e1, hlt, nn, hw, b1, b2, hcap, AB, PL, RG, LP, TY, Nat.reduceEqDiff, Nat.reduceAdd, Nat.reduceSub, Nat.reduceMul, Nat.reduceLT, Nat.reduceLeDiff, Nat.reduceMod, Nat.reduceDiv, reduceCtorEq, Int.reduceEq, Int.reduceNe, Int.reduceLT, Int.reduceLE, Int.reduceNeg, Int.reduceToNat, Int.reduceAdd, Int.reduceSub, Int.reduceMul, ↓reduceIte, forall_const, eq_self, ne_eq, Option.some.injEq, beq_self_eq_true]) | refine fin_ndec (fun hc => ?_) (fun hc => ?_) | refine fin_dec (fun hc => ?_) (fun hc => ?_) | refine cnd_ndec (fun hc => ?_) (fun hc => ?_) | refine cnd_dec' (fun hc => ?_) (fun hc => ?_) | refine fin_nsplit (fun hc => ?_) (fun hc => ?_) | refine fin_split (fun hc => ?_) (fun hc => ?_) | refine cnd_nsplit (fun hc => ?_) (fun hc => ?_) | refine cnd_split (fun hc => ?_) (fun hc => ?_) | refine blk_exit_id ?_)
            exact lp_next (j + 1, n) (Wk.sub' (by simp [subT, look]) rfl) ⟨by simp only []; omega, by simp only []; omega, hal, by simp only []; omega, fun h => by simp only [] at h; omega, fun h => by rw [hv]; have := hn3 (by omega); omega⟩ (by simp only []; omega)
        · have hE := n1 hd0 (bad_mem (j := j - 1) (by rw [edr, preK, List.getElem?_drop, show 1 + (j - 1) = j by omega]; exact e1) hdg)
          have hdg' : ¬ (48 ≤ c.toNat ∧ c.toNat ≤ 57) := fun h => hdg (dig_iff.2 h)
          by_cases b0 : (c.toNat : Int) < 48
          · skip
            have hc := Nat.zero_add 0
            repeat' (first | (simp only [hc, SX, e1, hlt, nn, b0, AB, PL, RG, LP, TY, Nat.reduceEqDiff, Nat.reduceAdd, Nat.reduceSub, Nat.reduceMul, Nat.reduceLT, Nat.reduceLeDiff, Nat.reduceMod, Nat.reduceDiv, reduceCtorEq, Int.reduceEq, Int.reduceNe, Int.reduceLT, Int.reduceLE, Int.reduceNeg, Int.reduceToNat, Int.reduceAdd, Int.reduceSub, Int.reduceMul, ↓reduceIte, forall_const, eq_self, ne_eq, Option.some.injEq, beq_self_eq_true]) | refine fin_ndec (fun hc => ?_) (fun hc => ?_) | refine fin_dec (fun hc => ?_) (fun hc => ?_) | refine cnd_ndec (fun hc => ?_) (fun hc => ?_) | refine cnd_dec' (fun hc => ?_) (fun hc => ?_) | refine fin_nsplit (fun hc => ?_) (fun hc => ?_) | refine fin_split (fun hc => ?_) (fun hc => ?_) | refine cnd_nsplit (fun hc => ?_) (fun hc => ?_) | refine cnd_split (fun hc => ?_) (fun hc => ?_) | refine blk_exit_id ?_)
            all_goals simp [hE, DV.i]
          · have b2 : ((57 : Int) < (c.toNat : Int)) = True := eq_true (by omega)
            have hc := Nat.zero_add 0
            repeat' (first | (simp only [hc, SX, e1, hlt, nn, b0, b2, AB, PL, RG, LP, TY, Nat.reduceEqDiff, Nat.reduceAdd, Nat.reduceSub, Nat.reduceMul, Nat.reduceLT, Nat.reduceLeDiff, Nat.reduceMod, Nat.reduceDiv, reduceCtorEq, Int.reduceEq, Int.reduceNe, Int.reduceLT, Int.reduceLE, Int.reduceNeg, Int.reduceToNat, Int.reduceAdd, Int.reduceSub, Int.reduceMul, ↓reduceIte, forall_const, eq_self, ne_eq, Option.some.injEq, beq_self_eq_true]) | refine fin_ndec (fun hc => ?_) (fun hc => ?_) | refine fin_dec (fun hc => ?_) (fun hc => ?_) | refine cnd_ndec (fun hc => ?_) (fun hc => ?_) | refine cnd_dec' (fun hc => ?_) (fun hc => ?_) | refine fin_nsplit (fun hc => ?_) (fun hc => ?_) | refine fin_split (fun hc => ?_) (fun hc => ?_) | refine cnd_nsplit (fun hc => ?_) (fun hc => ?_) | refine cnd_split (fun hc => ?_) (fun hc => ?_) | refine blk_exit_id ?_)
            all_goals simp [hE, DV.i]
      · have hlt : ((j : Int) < (s.length : Int)) = False := eq_false (by omega)
        rw [List.take_of_length_le (by omega), ← edr] at hout hn2 hn3
        by_cases hbig : 2147483648 < n
        · have hE := n3 hok hout (hn3 hbig)
          have b1 : ((2147483648 : Int) < (n : Int)) = True := eq_true (by omega)
          have hc := Nat.zero_add 0
          repeat' (first | (simp only [hc, SX, hlt, b1, AB, PL, RG, LP, TY, Nat.reduceEqDiff, Nat.reduceAdd, Nat.reduceSub, Nat.reduceMul, Nat.reduceLT, Nat.reduceLeDiff, Nat.reduceMod, Nat.reduceDiv, reduceCtorEq, Int.reduceEq, Int.reduceNe, Int.reduceLT, Int.reduceLE, Int.reduceNeg, Int.reduceToNat, Int.reduceAdd, Int.reduceSub, Int.reduceMul, ↓reduceIte, forall_const, eq_self, ne_eq, Option.some.injEq, beq_self_eq_true]) | refine fin_ndec (fun hc => ?_) (fun hc => ?_) | refine fin_dec (fun hc => ?_) (fun hc => ?_) | refine cnd_ndec (fun hc => ?_) (fun hc => ?_) | refine cnd_dec' (fun hc => ?_) (fun hc => ?_) | refine fin_nsplit (fun hc => ?_) (fun hc => ?_) | refine fin_split (fun hc => ?_) (fun hc => ?_) | refine cnd_nsplit (fun hc => ?_) (fun hc => ?_) | refine cnd_split (fun hc => ?_) (fun hc => ?_) | refine blk_exit_id ?_)
          all_goals simp [hE, DV.i]
        · have hnv := hn2 (by omega)
          have b1 : ((2147483648 : Int) < (n : Int)) = False := eq_false (by omega)
          have hE := n5 hok hout (by omega) hrs
          have w1 := wI (n := 0 - (n : Int)) (by omega) (by omega)
          have hc := Nat.zero_add 0
          repeat' (first | (simp only [hc, SX, hlt, b1, w1, AB, PL, RG, LP, TY, Nat.reduceEqDiff, Nat.reduceAdd, Nat.reduceSub, Nat.reduceMul, Nat.reduceLT, Nat.reduceLeDiff, Nat.reduceMod, Nat.reduceDiv, reduceCtorEq, Int.reduceEq, Int.reduceNe, Int.reduceLT, Int.reduceLE, Int.reduceNeg, Int.reduceToNat, Int.reduceAdd, Int.reduceSub, Int.reduceMul, ↓reduceIte, forall_const, eq_self, ne_eq, Option.some.injEq, beq_self_eq_true]) | refine fin_ndec (fun hc => ?_) (fun hc => ?_) | refine fin_dec (fun hc => ?_) (fun hc => ?_) | refine cnd_ndec (fun hc => ?_) (fun hc => ?_) | refine cnd_dec' (fun hc => ?_) (fun hc => ?_) | refine fin_nsplit (fun hc => ?_) (fun hc => ?_) | refine fin_split (fun hc => ?_) (fun hc => ?_) | refine cnd_nsplit (fun hc => ?_) (fun hc => ?_) | refine cnd_split (fun hc => ?_) (fun hc => ?_) | refine blk_exit_id ?_)
          all_goals simp [hE, DV.i, ← hnv]
    · rw [ed] at n1 n2 n3 n4 n5
      by_cases hd0 : s = []
      · have hE := n2 (.inl hd0)
        subst hd0
        have hc := Nat.zero_add 0
        repeat' (first | (simp only [hc, Tryd.f20, SX, List.length_nil, Int.ofNat_zero, Int.natCast_zero, AB, PL, RG, LP, TY, Nat.reduceEqDiff, Nat.reduceAdd, Nat.reduceSub, Nat.reduceMul, Nat.reduceLT, Nat.reduceLeDiff, Nat.reduceMod, Nat.reduceDiv, reduceCtorEq, Int.reduceEq, Int.reduceNe, Int.reduceLT, Int.reduceLE, Int.reduceNeg, Int.reduceToNat, Int.reduceAdd, Int.reduceSub, Int.reduceMul, ↓reduceIte, forall_const, eq_self, ne_eq, Option.some.injEq, beq_self_eq_true]) | refine fin_ndec (fun hc => ?_) (fun hc => ?_) | refine fin_dec (fun hc => ?_) (fun hc => ?_) | refine cnd_ndec (fun hc => ?_) (fun hc => ?_) | refine cnd_dec' (fun hc => ?_) (fun hc => ?_) | refine fin_nsplit (fun hc => ?_) (fun hc => ?_) | refine fin_split (fun hc => ?_) (fun hc => ?_) | refine cnd_nsplit (fun hc => ?_) (fun hc => ?_) | refine cnd_split (fun hc => ?_) (fun hc => ?_) | refine blk_exit_id ?_)
        all_goals simp [hE, DV.i]
      have hdp := List.length_pos_iff.2 hd0
      have p0 : ((0 : Int) < (s.length : Int)) = True := eq_true (by omega)
      have q1 : ((0 : Int) = (s.length : Int)) = False := eq_false (by omega)
      obtain ⟨c0, hc0⟩ : ∃ c, s[0]? = some c := ⟨s[0], List.getElem?_eq_getElem hdp⟩
      have hhd : s.head? = some c0 := by rw [← hc0, List.head?_eq_getElem?]
      have n45 : ((c0.toNat : Int) = 45) = False := eq_false fun h => by
        have : c0 = 45 := UInt8.toNat_inj.1 (by simpa using (by omega : c0.toNat = 45))
        subst this
        cases s with
        | nil => cases hhd
        | cons x y => simp at hhd; exact hns y (by rw [hhd])
      by_cases hz : c0.toNat = 48 ∧ s ≠ [48]
      · have c48 : c0 = 48 := UInt8.toNat_inj.1 hz.1
        have hE := n2 (.inr ⟨by rw [hhd, c48], hz.2⟩)
        have a1 : ((c0.toNat : Int) = 48) = True := eq_true (by omega)
        have a2 : ((1 : Int) < (s.length : Int)) = True := eq_true (by
          have : s.length ≠ 1 := fun h1 => hz.2 (by
            obtain ⟨x, rfl⟩ := List.length_eq_one_iff.1 h1
            simp at hhd; rw [hhd, c48])
          omega)
        have hc := Nat.zero_add 0
        repeat' (first | (simp only [hc, Tryd.f20, SX, p0, q1, hc0, n45, a1, a2, AB, PL, RG, LP, TY, Nat.reduceEqDiff, Nat.reduceAdd, Nat.reduceSub, Nat.reduceMul, Nat.reduceLT, Nat.reduceLeDiff, Nat.reduceMod, Nat.reduceDiv, reduceCtorEq, Int.reduceEq, Int.reduceNe, Int.reduceLT, Int.reduceLE, Int.reduceNeg, Int.reduceToNat, Int.reduceAdd, Int.reduceSub, Int.reduceMul, ↓reduceIte, forall_const, eq_self, ne_eq, Option.some.injEq, beq_self_eq_true]) | refine fin_ndec (fun hc => ?_) (fun hc => ?_) | refine fin_dec (fun hc => ?_) (fun hc => ?_) | refine cnd_ndec (fun hc => ?_) (fun hc => ?_) | refine cnd_dec' (fun hc => ?_) (fun hc => ?_) | refine fin_nsplit (fun hc => ?_) (fun hc => ?_) | refine fin_split (fun hc => ?_) (fun hc => ?_) | refine cnd_nsplit (fun hc => ?_) (fun hc => ?_) | refine cnd_split (fun hc => ?_) (fun hc => ?_) | refine blk_exit_id ?_)
        all_goals simp [hE, DV.i]
      have hok : ¬ (s = [] ∨ (s.head? = some 48 ∧ s ≠ [48])) := by
        rintro (h | ⟨h1, h2⟩)
        · exact hd0 h
        · rw [hhd] at h1; cases h1; exact hz ⟨rfl, h2⟩
      have edr : s = preK 0 s := rfl
      by_cases h48 : c0.toNat = 48
      · have a1 : ((c0.toNat : Int) = 48) = True := eq_true (by omega)
        have e48 : s = [48] := Classical.not_not.1 fun hn => hz ⟨h48, hn⟩
        have a2 : ((1 : Int) < (s.length : Int)) = False := eq_false (by rw [e48]; simp)
        have hc := Nat.zero_add 0
        repeat' (first | (simp only [hc, Tryd.f20, SX, p0, q1, hc0, n45, a1, a2, AB, PL, RG, LP, TY, Nat.reduceEqDiff, Nat.reduceAdd, Nat.reduceSub, Nat.reduceMul, Nat.reduceLT, Nat.reduceLeDiff, Nat.reduceMod, Nat.reduceDiv, reduceCtorEq, Int.reduceEq, Int.reduceNe, Int.reduceLT, Int.reduceLE, Int.reduceNeg, Int.reduceToNat, Int.reduceAdd, Int.reduceSub, Int.reduceMul, ↓reduceIte, forall_const, eq_self, ne_eq, Option.some.injEq, beq_self_eq_true]) | refine fin_ndec (fun hc => ?_) (fun hc => ?_) | refine fin_dec (fun hc => ?_) (fun hc => ?_) | refine cnd_ndec (fun hc => ?_) (fun hc => ?_) | refine cnd_dec' (fun hc => ?_) (fun hc => ?_) | refine fin_nsplit (fun hc => ?_) (fun hc => ?_) | refine fin_split (fun hc => ?_) (fun hc => ?_) | refine cnd_nsplit (fun hc => ?_) (fun hc => ?_) | refine cnd_split (fun hc => ?_) (fun hc => ?_) | refine blk_exit_id ?_)
        have e0 : preK 0 (s.take 0) = [] := List.drop_eq_nil_of_le (by rw [List.length_take]; omega)
        refine awp_loop (σ := Nat × Nat) (fun p => 0 ≤ p.1 ∧ p.1 ≤ s.length ∧ (preK 0 (s.take p.1)).all isDig = true ∧ p.2 ≤ 30000000000 ∧ (p.2 ≤ 2147483648 → p.2 = val (preK 0 (s.take p.1))) ∧ (2147483648 < p.2 → 2147483648 < val (preK 0 (s.take p.1)))) (fun p => ⟨[(6, AV.i p.1), (5, AV.i p.2), (4, AV.i 0), (0, AV.s s)], []⟩) (fun p => s.length - p.1) (0, 0) (Wk.sub' (by simp [subT, look]) rfl) ⟨Nat.le_refl _, by simp only []; omega, by rw [e0]; rfl, by simp only []; omega, fun _ => by rw [e0]; rfl, fun h => absurd h (by simp only []; omega)⟩ ?_
        rintro ⟨j, n⟩ ⟨hk, hj, hout, hn1, hn2, hn3⟩
        dsimp only at hk hj hout hn1 hn2 hn3 ⊢
        by_cases hjl : j < s.length
        · have e1 : s[j]? = some s[j] := by simp [hjl]
          have hlt : ((j : Int) < (s.length : Int)) = True := eq_true (by omega)
          have hw := wI (n := (j : Int) + 1) (by omega) (by omega)
          generalize s[j] = c at *
          by_cases hdg : isDig c = true
          · have hdg' := dig_iff.1 hdg
            have hsn : preK 0 (s.take (j + 1)) = preK 0 (s.take j) ++ [c] := by
              rw [take_snoc e1, preK_snoc (by rw [List.length_take]; omega)]
            have hv : val (preK 0 (s.take (j + 1))) = 10 * val (preK 0 (s.take j)) + (c.toNat - 48) := by rw [hsn, val_snoc]
            have hal : (preK 0 (s.take (j + 1))).all isDig = true := by rw [hsn, List.all_append, hout]; simp [hdg]
            generalize val (preK 0 (s.take j)) = v at *
            have b1 : ((c.toNat : Int) < 48) = False := eq_false (by omega)
            have b2 : ((57 : Int) < (c.toNat : Int)) = False := eq_false (by omega)
            by_cases hcap : (n : Int) ≤ 2147483648
            · have w1 := wI (n := (n : Int) * 10) (by omega) (by omega)
              have w2 := wU8 (n := (c.toNat : Int) - 48) (by omega) (by omega)
              have w3 := wI (n := (c.toNat : Int) - 48) (by omega) (by omega)
              have w4 : IntKind.i64.wrap ((n : Int) * 10 + ((c.toNat : Int) - 48)) = ((10 * n + (c.toNat - 48) : Nat) : Int) := by rw [wI (by omega) (by omega)]; omega
              have hc := Nat.zero_add 0
              repeat' (first | (simp only [hc, SX, e1, hlt, nn, hw, b1, b2, hcap, w1, w2, w3, w4, AB, PL, RG, LP, TY, Nat.reduceEqDiff, Nat.reduceAdd, Nat.reduceSub, Nat.reduceMul, Nat.reduceLT, Nat.reduceLeDiff, Nat.reduceMod, Nat.reduceDiv, reduceCtorEq, Int.reduceEq, Int.reduceNe, Int.reduceLT, Int.reduceLE, Int.reduceNeg, Int.reduceToNat, Int.reduceAdd, Int.reduceSub, Int.reduceMul, ↓reduceIte, forall_const, eq_self, ne_eq, Option.some.injEq, beq_self_eq_true]) | refine fin_ndec (fun hc => ?_) (fun hc => ?_) | refine fin_dec (fun hc => ?_) (fun hc => ?_) | refine cnd_ndec (fun hc => ?_) (fun hc => ?_) | refine cnd_dec' (fun hc => ?_) (fun hc => ?_) | refine fin_nsplit (fun hc => ?_) (fun hc => ?_) | refine fin_split (fun hc => ?_) (fun hc => ?_) | refine cnd_nsplit (fun hc => ?_) (fun hc => ?_) | refine cnd_split (fun hc => ?_) (fun hc => ?_) | refine blk_exit_id ?_)
              exact lp_next (j + 1, 10 * n + (c.toNat - 48)) (Wk.sub' (by simp [subT, look]) rfl) ⟨by simp only []; omega, by simp only []; omega, hal, by simp only []; omega, fun _ => by rw [hv]; have := hn2 (by omega); simp only []; omega, fun h => by rw [hv]; have := hn2 (by omega); simp only [] at h; omega⟩ (by simp only []; omega)
            · skip
              have hc := Nat.zero_add 0
              repeat' (first | (simp only [hc, SX, e1, hlt, nn, hw, b1, b2, hcap, AB, PL, RG, LP, TY, Nat.reduceEqDiff, Nat.reduceAdd, Nat.reduceSub, Nat.reduceMul, Nat.reduceLT, Nat.reduceLeDiff, Nat.reduceMod, Nat.reduceDiv, reduceCtorEq, Int.reduceEq, Int.reduceNe, Int.reduceLT, Int.reduceLE, Int.reduceNeg, Int.reduceToNat, Int.reduceAdd, Int.reduceSub, Int.reduceMul, ↓reduceIte, forall_const, eq_self, ne_eq, Option.some.injEq, beq_self_eq_true]) | refine fin_ndec (fun hc => ?_) (fun hc => ?_) | refine fin_dec (fun hc => ?_) (fun hc => ?_) | refine cnd_ndec (fun hc => ?_) (fun hc => ?_) | refine cnd_dec' (fun hc => ?_) (fun hc => ?_) | refine fin_nsplit (fun hc => ?_) (fun hc => ?_) | refine fin_split (fun hc => ?_) (fun hc => ?_) | refine cnd_nsplit (fun hc => ?_) (fun hc => ?_) | refine cnd_split (fun hc => ?_) (fun hc => ?_) | refine blk_exit_id ?_)
              exact lp_next (j + 1, n) (Wk.sub' (by simp [subT, look]) rfl) ⟨by simp only []; omega, by simp only []; omega, hal, by simp only []; omega, fun h => by simp only [] at h; omega, fun h => by rw [hv]; have := hn3 (by omega); omega⟩ (by simp only []; omega)
          · have hE := n1 hd0 (bad_mem (j := j - 0) (by rw [edr, preK, List.getElem?_drop, show 0 + (j - 0) = j by omega]; exact e1) hdg)
            have hdg' : ¬ (48 ≤ c.toNat ∧ c.toNat ≤ 57) := fun h => hdg (dig_iff.2 h)
            by_cases b0 : (c.toNat : Int) < 48
            · skip
              have hc := Nat.zero_add 0
              repeat' (first | (simp only [hc, SX, e1, hlt, nn, b0, AB, PL, RG, LP, TY, Nat.reduceEqDiff, Nat.reduceAdd, Nat.reduceSub, Nat.reduceMul, Nat.reduceLT, Nat.reduceLeDiff, Nat.reduceMod, Nat.reduceDiv, reduceCtorEq, Int.reduceEq, Int.reduceNe, Int.reduceLT, Int.reduceLE, Int.reduceNeg, Int.reduceToNat, Int.reduceAdd, Int.reduceSub, Int.reduceMul, ↓reduceIte, forall_const, eq_self, ne_eq, Option.some.injEq, beq_self_eq_true]) | refine fin_ndec (fun hc => ?_) (fun hc => ?_) | refine fin_dec (fun hc => ?_) (fun hc => ?_) | refine cnd_ndec (fun hc => ?_) (fun hc => ?_) | refine cnd_dec' (fun hc => ?_) (fun hc => ?_) | refine fin_nsplit (fun hc => ?_) (fun hc => ?_) | refine fin_split (fun hc => ?_) (fun hc => ?_) | refine cnd_nsplit (fun hc => ?_) (fun hc => ?_) | refine cnd_split (fun hc => ?_) (fun hc => ?_) | refine blk_exit_id ?_)
              all_goals simp [hE, DV.i]
            · have b2 : ((57 : Int) < (c.toNat : Int)) = True := eq_true (by omega)
              have hc := Nat.zero_add 0
              repeat' (first | (simp only [hc, SX, e1, hlt, nn, b0, b2, AB, PL, RG, LP, TY, Nat.reduceEqDiff, Nat.reduceAdd, Nat.reduceSub, Nat.reduceMul, Nat.reduceLT, Nat.reduceLeDiff, Nat.reduceMod, Nat.reduceDiv, reduceCtorEq, Int.reduceEq, Int.reduceNe, Int.reduceLT, Int.reduceLE, Int.reduceNeg, Int.reduceToNat, Int.reduceAdd, Int.reduceSub, Int.reduceMul, ↓reduceIte, forall_const, eq_self, ne_eq, Option.some.injEq, beq_self_eq_true]) | refine fin_ndec (fun hc => ?_) (fun hc => ?_) | refine fin_dec (fun hc => ?_) (fun hc => ?_) | refine cnd_ndec (fun hc => ?_) (fun hc => ?_) | refine cnd_dec' (fun hc => ?_) (fun hc => ?_) | refine fin_nsplit (fun hc => ?_) (fun hc => ?_) | refine fin_split (fun hc => ?_) (fun hc => ?_) | refine cnd_nsplit (fun hc => ?_) (fun hc => ?_) | refine cnd_split (fun hc => ?_) (fun hc => ?_) | refine blk_exit_id ?_)
              all_goals simp [hE, DV.i]
        · have hlt : ((j : Int) < (s.length : Int)) = False := eq_false (by omega)
          rw [List.take_of_length_le (by omega), ← edr] at hout hn2 hn3
          by_cases hbig : 2147483648 < n
          · have hE := n3 hok hout (hn3 hbig)
            have b1 : ((2147483648 : Int) < (n : Int)) = True := eq_true (by omega)
            have hc := Nat.zero_add 0
            repeat' (first | (simp only [hc, SX, hlt, b1, AB, PL, RG, LP, TY, Nat.reduceEqDiff, Nat.reduceAdd, Nat.reduceSub, Nat.reduceMul, Nat.reduceLT, Nat.reduceLeDiff, Nat.reduceMod, Nat.reduceDiv, reduceCtorEq, Int.reduceEq, Int.reduceNe, Int.reduceLT, Int.reduceLE, Int.reduceNeg, Int.reduceToNat, Int.reduceAdd, Int.reduceSub, Int.reduceMul, ↓reduceIte, forall_const, eq_self, ne_eq, Option.some.injEq, beq_self_eq_true]) | refine fin_ndec (fun hc => ?_) (fun hc => ?_) | refine fin_dec (fun hc => ?_) (fun hc => ?_) | refine cnd_ndec (fun hc => ?_) (fun hc => ?_) | refine cnd_dec' (fun hc => ?_) (fun hc => ?_) | refine fin_nsplit (fun hc => ?_) (fun hc => ?_) | refine fin_split (fun hc => ?_) (fun hc => ?_) | refine cnd_nsplit (fun hc => ?_) (fun hc => ?_) | refine cnd_split (fun hc => ?_) (fun hc => ?_) | refine blk_exit_id ?_)
            all_goals simp [hE, DV.i]
          · have hnv := hn2 (by omega)
            have b1 : ((2147483648 : Int) < (n : Int)) = False := eq_false (by omega)
            have hE := n4 hok hout (by omega) rfl
            have hc := Nat.zero_add 0
            repeat' (first | (simp only [hc, SX, hlt, b1, AB, PL, RG, LP, TY, Nat.reduceEqDiff, Nat.reduceAdd, Nat.reduceSub, Nat.reduceMul, Nat.reduceLT, Nat.reduceLeDiff, Nat.reduceMod, Nat.reduceDiv, reduceCtorEq, Int.reduceEq, Int.reduceNe, Int.reduceLT, Int.reduceLE, Int.reduceNeg, Int.reduceToNat, Int.reduceAdd, Int.reduceSub, Int.reduceMul, ↓reduceIte, forall_const, eq_self, ne_eq, Option.some.injEq, beq_self_eq_true]) | refine fin_ndec (fun hc => ?_) (fun hc => ?_) | refine fin_dec (fun hc => ?_) (fun hc => ?_) | refine cnd_ndec (fun hc => ?_) (fun hc => ?_) | refine cnd_dec' (fun hc => ?_) (fun hc => ?_) | refine fin_nsplit (fun hc => ?_) (fun hc => ?_) | refine fin_split (fun hc => ?_) (fun hc => ?_) | refine cnd_nsplit (fun hc => ?_) (fun hc => ?_) | refine cnd_split (fun hc => ?_) (fun hc => ?_) | refine blk_exit_id ?_)
            all_goals simp [hE, DV.i, ← hnv]
      · have a1 : ((c0.toNat : Int) = 48) = False := eq_false (by omega)
        have hc := Nat.zero_add 0
        repeat' (first | (simp only [hc, Tryd.f20, SX, p0, q1, hc0, n45, a1, AB, PL, RG, LP, TY, Nat.reduceEqDiff, Nat.reduceAdd, Nat.reduceSub, Nat.reduceMul, Nat.reduceLT, Nat.reduceLeDiff, Nat.reduceMod, Nat.reduceDiv, reduceCtorEq, Int.reduceEq, Int.reduceNe, Int.reduceLT, Int.reduceLE, Int.reduceNeg, Int.reduceToNat, Int.reduceAdd, Int.reduceSub, Int.reduceMul, ↓reduceIte, forall_const, eq_self, ne_eq, Option.some.injEq, beq_self_eq_true]) | refine fin_ndec (fun hc => ?_) (fun hc => ?_) | refine fin_dec (fun hc => ?_) (fun hc => ?_) | refine cnd_ndec (fun hc => ?_) (fun hc => ?_) | refine cnd_dec' (fun hc => ?_) (fun hc => ?_) | refine fin_nsplit (fun hc => ?_) (fun hc => ?_) | refine fin_split (fun hc => ?_) (fun hc => ?_) | refine cnd_nsplit (fun hc => ?_) (fun hc => ?_) | refine cnd_split (fun hc => ?_) (fun hc => ?_) | refine blk_exit_id ?_)
        have e0 : preK 0 (s.take 0) = [] := List.drop_eq_nil_of_le (by rw [List.length_take]; omega)
        refine awp_loop (σ := Nat × Nat) (fun p => 0 ≤ p.1 ∧ p.1 ≤ s.length ∧ (preK 0 (s.take p.1)).all isDig = true ∧ p.2 ≤ 30000000000 ∧ (p.2 ≤ 2147483648 → p.2 = val (preK 0 (s.take p.1))) ∧ (2147483648 < p.2 → 2147483648 < val (preK 0 (s.take p.1)))) (fun p => ⟨[(6, AV.i p.1), (5, AV.i p.2), (4, AV.i 0), (0, AV.s s)], []⟩) (fun p => s.length - p.1) (0, 0) (Wk.sub' (by simp [subT, look]) rfl) ⟨Nat.le_refl _, by simp only []; omega, by rw [e0]; rfl, by simp only []; omega, fun _ => by rw [e0]; rfl, fun h => absurd h (by simp only []; omega)⟩ ?_
        rintro ⟨j, n⟩ ⟨hk, hj, hout, hn1, hn2, hn3⟩
        dsimp only at hk hj hout hn1 hn2 hn3 ⊢
        by_cases hjl : j < s.length
        · have e1 : s[j]? = some s[j] := by simp [hjl]
          have hlt : ((j : Int) < (s.length : Int)) = True := eq_true (by omega)
          have hw := wI (n := (j : Int) + 1) (by omega) (by omega)
          generalize s[j] = c at *
          by_cases hdg : isDig c = true
          · have hdg' := dig_iff.1 hdg
            have hsn : preK 0 (s.take (j + 1)) = preK 0 (s.take j) ++ [c] := by
              rw [take_snoc e1, preK_snoc (by rw [List.length_take]; omega)]
            have hv : val (preK 0 (s.take (j + 1))) = 10 * val (preK 0 (s.take j)) + (c.toNat - 48) := by rw [hsn, val_snoc]
            have hal : (preK 0 (s.take (j + 1))).all isDig = true := by rw [hsn, List.all_append, hout]; simp [hdg]
            generalize val (preK 0 (s.take j)) = v at *
            have b1 : ((c.toNat : Int) < 48) = False := eq_false (by omega)
            have b2 : ((57 : Int) < (c.toNat : Int)) = False := eq_false (by omega)
            by_cases hcap : (n : Int) ≤ 2147483648
            · have w1 := wI (n := (n : Int) * 10) (by omega) (by omega)
              have w2 := wU8 (n := (c.toNat : Int) - 48) (by omega) (by omega)
              have w3 := wI (n := (c.toNat : Int) - 48) (by omega) (by omega)
              have w4 : IntKind.i64.wrap ((n : Int) * 10 + ((c.toNat : Int) - 48)) = ((10 * n + (c.toNat - 48) : Nat) : Int) := by rw [wI (by omega) (by omega)]; omega
              have hc := Nat.zero_add 0
              repeat' (first | (simp only [hc, SX, e1, hlt, nn, hw, b1, b2, hcap, w1, w2, w3, w4, AB, PL, RG, LP, TY, Nat.reduceEqDiff, Nat.reduceAdd, Nat.reduceSub, Nat.reduceMul, Nat.reduceLT, Nat.reduceLeDiff, Nat.reduceMod, Nat.reduceDiv, reduceCtorEq, Int.reduceEq, Int.reduceNe, Int.reduceLT, Int.reduceLE, Int.reduceNeg, Int.reduceToNat, Int.reduceAdd, Int.reduceSub, Int.reduceMul, ↓reduceIte, forall_const, eq_self, ne_eq, Option.some.injEq, beq_self_eq_true]) | refine fin_ndec (fun hc => ?_) (fun hc => ?_) | refine fin_dec (fun hc => ?_) (fun hc => ?_) | refine cnd_ndec (fun hc => ?_) (fun hc => ?_) | refine cnd_dec' (fun hc => ?_) (fun hc => ?_) | refine fin_nsplit (fun hc => ?_) (fun hc => ?_) | refine fin_split (fun hc => ?_) (fun hc => ?_) | refine cnd_nsplit (fun hc => ?_) (fun hc => ?_) | refine cnd_split (fun hc => ?_) (fun hc => ?_) | refine blk_exit_id ?_)
              exact lp_next (j + 1, 10 * n + (c.toNat - 48)) (Wk.sub' (by simp [subT, look]) rfl) ⟨by simp only []; omega, by simp only []; omega, hal, by simp only []; omega, fun _ => by rw [hv]; have := hn2 (by omega); simp only []; omega, fun h => by rw [hv]; have := hn2 (by omega); simp only [] at h; omega⟩ (by simp only []; omega)
            · skip
              have hc := Nat.zero_add 0
              repeat' (first | (simp only [hc, SX, e1, hlt, nn, hw, b1, b2, hcap, AB, PL, RG, LP, TY, Nat.reduceEqDiff, Nat.reduceAdd, Nat.reduceSub, Nat.reduceMul, Nat.reduceLT, Nat.reduceLeDiff, Nat.reduceMod, Nat.reduceDiv, reduceCtorEq, Int.reduceEq, Int.reduceNe, Int.reduceLT, Int.reduceLE, Int.reduceNeg, Int.reduceToNat, Int.reduceAdd, Int.reduceSub, Int.reduceMul, ↓reduceIte, forall_const, eq_self, ne_eq, Option.some.injEq, beq_self_eq_true]) | refine fin_ndec (fun hc => ?_) (fun hc => ?_) | refine fin_dec (fun hc => ?_) (fun hc => ?_) | refine cnd_ndec (fun hc => ?_) (fun hc => ?_) | refine cnd_dec' (fun hc => ?_) (fun hc => ?_) | refine fin_nsplit (fun hc => ?_) (fun hc => ?_) | refine fin_split (fun hc => ?_) (fun hc => ?_) | refine cnd_nsplit (fun hc => ?_) (fun hc => ?_) | refine cnd_split (fun hc => ?_) (fun hc => ?_) | refine blk_exit_id ?_)
              exact lp_next (j + 1, n) (Wk.sub' (by simp [subT, look]) rfl) ⟨by simp only []; omega, by simp only []; omega, hal, by simp only []; omega, fun h => by simp only [] at h; omega, fun h => by rw [hv]; have := hn3 (by omega); omega⟩ (by simp only []; omega)
          · have hE := n1 hd0 (bad_mem (j := j - 0) (by rw [edr, preK, List.getElem?_drop, show 0 + (j - 0) = j by omega]; exact e1) hdg)
            have hdg' : ¬ (48 ≤ c.toNat ∧ c.toNat ≤ 57) := fun h => hdg (dig_iff.2 h)
            by_cases b0 : (c.toNat : Int) < 48
            · skip
              have hc := Nat.zero_add 0
              repeat' (first | (simp only [hc, SX, e1, hlt, nn, b0, AB, PL, RG, LP, TY, Nat.reduceEqDiff, Nat.reduceAdd, Nat.reduceSub, Nat.reduceMul, Nat.reduceLT, Nat.reduceLeDiff, Nat.reduceMod, Nat.reduceDiv, reduceCtorEq, Int.reduceEq, Int.reduceNe, Int.reduceLT, Int.reduceLE, Int.reduceNeg, Int.reduceToNat, Int.reduceAdd, Int.reduceSub, Int.reduceMul, ↓reduceIte, forall_const, eq_self, ne_eq, Option.some.injEq, beq_self_eq_true]) | refine fin_ndec (fun hc => ?_) (fun hc => ?_) | refine fin_dec (fun hc => ?_) (fun hc => ?_) | refine cnd_ndec (fun hc => ?_) (fun hc => ?_) | refine cnd_dec' (fun hc => ?_) (fun hc => ?_) | refine fin_nsplit (fun hc => ?_) (fun hc => ?_) | refine fin_split (fun hc => ?_) (fun hc => ?_) | refine cnd_nsplit (fun hc => ?_) (fun hc => ?_) | refine cnd_split (fun hc => ?_) (fun hc => ?_) | refine blk_exit_id ?_)
              all_goals simp [hE, DV.i]
            · have b2 : ((57 : Int) < (c.toNat : Int)) = True := eq_true (by omega)
              have hc := Nat.zero_add 0
              repeat' (first | (simp only [hc, SX, e1, hlt, nn, b0, b2, AB, PL, RG, LP, TY, Nat.reduceEqDiff, Nat.reduceAdd, Nat.reduceSub, Nat.reduceMul, Nat.reduceLT, Nat.reduceLeDiff, Nat.reduceMod, Nat.reduceDiv, reduceCtorEq, Int.reduceEq, Int.reduceNe, Int.reduceLT, Int.reduceLE, Int.reduceNeg, Int.reduceToNat, Int.reduceAdd, Int.reduceSub, Int.reduceMul, ↓reduceIte, forall_const, eq_self, ne_eq, Option.some.injEq, beq_self_eq_true]) | refine fin_ndec (fun hc => ?_) (fun hc => ?_) | refine fin_dec (fun hc => ?_) (fun hc => ?_) | refine cnd_ndec (fun hc => ?_) (fun hc => ?_) | refine cnd_dec' (fun hc => ?_) (fun hc => ?_) | refine fin_nsplit (fun hc => ?_) (fun hc => ?_) | refine fin_split (fun hc => ?_) (fun hc => ?_) | refine cnd_nsplit (fun hc => ?_) (fun hc => ?_) | refine cnd_split (fun hc => ?_) (fun hc => ?_) | refine blk_exit_id ?_)
              all_goals simp [hE, DV.i]
        · have hlt : ((j : Int) < (s.length : Int)) = False := eq_false (by omega)
          rw [List.take_of_length_le (by omega), ← edr] at hout hn2 hn3
          by_cases hbig : 2147483648 < n
          · have hE := n3 hok hout (hn3 hbig)
            have b1 : ((2147483648 : Int) < (n : Int)) = True := eq_true (by omega)
            have hc := Nat.zero_add 0
            repeat' (first | (simp only [hc, SX, hlt, b1, AB, PL, RG, LP, TY, Nat.reduceEqDiff, Nat.reduceAdd, Nat.reduceSub, Nat.reduceMul, Nat.reduceLT, Nat.reduceLeDiff, Nat.reduceMod, Nat.reduceDiv, reduceCtorEq, Int.reduceEq, Int.reduceNe, Int.reduceLT, Int.reduceLE, Int.reduceNeg, Int.reduceToNat, Int.reduceAdd, Int.reduceSub, Int.reduceMul, ↓reduceIte, forall_const, eq_self, ne_eq, Option.some.injEq, beq_self_eq_true]) | refine fin_ndec (fun hc => ?_) (fun hc => ?_) | refine fin_dec (fun hc => ?_) (fun hc => ?_) | refine cnd_ndec (fun hc => ?_) (fun hc => ?_) | refine cnd_dec' (fun hc => ?_) (fun hc => ?_) | refine fin_nsplit (fun hc => ?_) (fun hc => ?_) | refine fin_split (fun hc => ?_) (fun hc => ?_) | refine cnd_nsplit (fun hc => ?_) (fun hc => ?_) | refine cnd_split (fun hc => ?_) (fun hc => ?_) | refine blk_exit_id ?_)
            all_goals simp [hE, DV.i]
          · have hnv := hn2 (by omega)
            have b1 : ((2147483648 : Int) < (n : Int)) = False := eq_false (by omega)
            have hE := n4 hok hout (by omega) rfl
            have hc := Nat.zero_add 0
            repeat' (first | (simp only [hc, SX, hlt, b1, AB, PL, RG, LP, TY, Nat.reduceEqDiff, Nat.reduceAdd, Nat.reduceSub, Nat.reduceMul, Nat.reduceLT, Nat.reduceLeDiff, Nat.reduceMod, Nat.reduceDiv, reduceCtorEq, Int.reduceEq, Int.reduceNe, Int.reduceLT, Int.reduceLE, Int.reduceNeg, Int.reduceToNat, Int.reduceAdd, Int.reduceSub, Int.reduceMul, ↓reduceIte, forall_const, eq_self, ne_eq, Option.some.injEq, beq_self_eq_true]) | refine fin_ndec (fun hc => ?_) (fun hc => ?_) | refine fin_dec (fun hc => ?_) (fun hc => ?_) | refine cnd_ndec (fun hc => ?_) (fun hc => ?_) | refine cnd_dec' (fun hc => ?_) (fun hc => ?_) | refine fin_nsplit (fun hc => ?_) (fun hc => ?_) | refine fin_split (fun hc => ?_) (fun hc => ?_) | refine cnd_nsplit (fun hc => ?_) (fun hc => ?_) | refine cnd_split (fun hc => ?_) (fun hc => ?_) | refine blk_exit_id ?_)
            all_goals simp [hE, DV.i, ← hnv]
  · cases h

end Go.Ab
