/-
  Texts of the layer and of the laws, put together: AbY4, AbY5. No law is stated here.
-/
import Derived.Test.YteeepgnhkfmnaaaDoorAbVol24
set_option linter.unusedSimpArgs false
set_option linter.unusedVariables false
set_option maxRecDepth 100000

/-
  What the functions of the texts compute: names, numerals written.
-/
namespace Go.Ab
open Go.RowKit Go.Proofs



def tfmt_m : List PA → Option (List PA) := m1 fun n => if decide (-9223372036854775808 ≤ n ∧ n ≤ 9223372036854775807) = true then some [.c (.str (Lib.itoa n))] else none
def rfmt_m : List PA → Option (List PA) := m1 fun n => if decide (-9223372036854775808 ≤ n ∧ n ≤ 9223372036854775807) = true then some [.c (.str (Lib.itoa n))] else none

def okN (j : Int) (c : Int) : Prop := (97 ≤ c ∧ c ≤ 122) ∨ (j ≠ 0 ∧ ((48 ≤ c ∧ c ≤ 57) ∨ c = 45))
theorem nm_ok {j : Nat} {c : UInt8} {r : List UInt8} (h : okN j c.toNat) : nmAll (decide (j = 0)) (c :: r) = nmAll false r := by
  have : (letB c || (!decide (j = 0) && digB c)) = true := by
    simp only [letB, digB, isDig, Bool.or_eq_true, Bool.and_eq_true, decide_eq_true_eq, Bool.not_eq_true', decide_eq_false_iff_not]
    unfold okN at h
    omega
  rw [nmAll, this, Bool.true_and]
theorem nm_no {j : Nat} {c : UInt8} {r : List UInt8} (h : ¬ okN j c.toNat) : nmAll (decide (j = 0)) (c :: r) = false := by
  have : (letB c || (!decide (j = 0) && digB c)) = false := by
    rw [Bool.eq_false_iff]
    intro hc
    simp only [letB, digB, isDig, Bool.or_eq_true, Bool.and_eq_true, decide_eq_true_eq, Bool.not_eq_true', decide_eq_false_iff_not] at hc
    unfold okN at h
    omega
  rw [nmAll, this, Bool.false_and]
theorem dec_at {s : List UInt8} {j : Nat} {c : UInt8} (h : s[j]? = some c) : (c.toNat < 128 → Utf8.decode ⟨s.toArray⟩ j = (c.toNat, 1)) ∧ (¬ c.toNat < 128 → 128 ≤ (Utf8.decode ⟨s.toArray⟩ j).1 ∧ 1 ≤ (Utf8.decode ⟨s.toArray⟩ j).2) := by
  obtain ⟨hj, rfl⟩ := List.getElem?_eq_some_iff.1 h
  have e : s = s.take j ++ s[j] :: s.drop (j + 1) := by rw [← List.drop_eq_getElem_cons hj, List.take_append_drop]
  have hl : (s.take j).length = j := by rw [List.length_take]; omega
  have k1 := @dec_asc (s.take j) (s.drop (j + 1)) s[j]
  have k2 := @dec_high (s.take j) (s.drop (j + 1)) s[j]
  rw [hl, ← e] at k1 k2
  exact ⟨k1, k2⟩

theorem tfmt_ok : PureC Tryd.prog Gt 27 tfmt_m := by
  refine pure_of_awp (X := ctx Tryd.prog Gt [(52, itoa_m)]) Tryd.func27 rfl rfl (by kernel_rfl) (by kernel_rfl) (AllOk.cons itoa_ok AllOk.nil).kok ?_
  intro args r h0
  obtain ⟨n, rfl, h⟩ := m1_inv h0
  refine ⟨Nat.le_of_ble_eq_true rfl, ?_⟩
  split at h
  · rename_i hn
    cases h
    have hc := Nat.zero_add 0
    repeat' (first | simp only [hc, Tryd.f27, SX, itoa_m, m1_eq, hn, AB, PL, RG, LP, TY, simprocAttr, ↓reduceIte, forall_const, eq_self, ne_eq, Option.some.injEq, beq_self_eq_true] | ((first | apply fin_ndec | apply fin_dec | apply cnd_ndec | apply cnd_dec' | apply fin_nsplit | apply fin_split | apply cnd_nsplit | apply cnd_split) <;> intro hc) | refine blk_exit_id ?_)
    try simp
  · cases h

theorem dec_len : ∀ (n u : Nat), u < n → (Lib.decDigits u).length ≤ u / 10 + 1
  | 0, u, h => by omega
  | n + 1, u, h => by
    by_cases hu : u < 10
    · rw [dec_small hu]; simp
    · rw [dec_big hu]
      have := dec_len n (u / 10) (by omega)
      simp only [List.length_append, List.length_singleton]
      omega
def dd (u : Nat) : List UInt8 := if u = 0 then [] else Lib.decDigits u
theorem dig10 : ∀ n : Nat, n < 10 → ([48, 49, 50, 51, 52, 53, 54, 55, 56, 57] : List UInt8)[n]? = some (UInt8.ofNat (48 + n)) := by decide +kernel
theorem tq {m : Int} : (m.tdiv 10).natAbs = m.natAbs / 10 ∧ (-9223372036854775808 ≤ m → m ≤ 9223372036854775807 → -9223372036854775808 ≤ m.tdiv 10 ∧ m.tdiv 10 ≤ 9223372036854775807) := by
  by_cases h : 0 ≤ m
  · rw [Int.tdiv_eq_ediv_of_nonneg h]; omega
  · have e : m.tdiv 10 = -((-m) / 10) := by
      rw [← Int.tdiv_eq_ediv_of_nonneg (by omega), Int.neg_tdiv, Int.neg_neg]
    rw [e]; omega
theorem tr {m : Int} : (0 ≤ m.tmod 10 ∧ m.tmod 10 = ((m.natAbs % 10 : Nat) : Int)) ∨ (m.tmod 10 < 0 ∧ 0 - m.tmod 10 = ((m.natAbs % 10 : Nat) : Int)) := by
  by_cases h : 0 ≤ m
  · rw [Int.tmod_eq_emod_of_nonneg h]; omega
  · have e : m.tmod 10 = -((-m) % 10) := by
      rw [← Int.tmod_eq_emod_of_nonneg (by omega), Int.neg_tmod, Int.neg_neg]
    rw [e]; omega

theorem rfmt_ok : PureC Tryd.prog Gt 53 rfmt_m := by
  refine pure_of_awp (X := ctx Tryd.prog Gt []) Tryd.func53 rfl rfl (by kernel_rfl) (by kernel_rfl) AllOk.nil.kok ?_
  intro args r h0
  obtain ⟨n, rfl, h⟩ := m1_inv h0
  refine ⟨Nat.le_of_ble_eq_true rfl, ?_⟩
  split at h
  · rename_i hn
    obtain ⟨hn1, hn2⟩ := of_decide_eq_true hn
    cases h
    by_cases hz : n = 0
    · subst hz
      have hc := Nat.zero_add 0
      repeat' (first | simp only [hc, Tryd.f53, SX, AB, PL, RG, LP, TY, simprocAttr, ↓reduceIte, forall_const, eq_self, ne_eq, Option.some.injEq, beq_self_eq_true] | ((first | apply fin_ndec | apply fin_dec | apply cnd_ndec | apply cnd_dec' | apply fin_nsplit | apply fin_split | apply cnd_nsplit | apply cnd_split) <;> intro hc) | refine blk_exit_id ?_)
      all_goals simp [itoa_spec, dec_small]
    have hc := Nat.zero_add 0
    repeat' (first | simp only [hc, Tryd.f53, SX, hz, AB, PL, RG, LP, TY, simprocAttr, ↓reduceIte, forall_const, eq_self, ne_eq, Option.some.injEq, beq_self_eq_true] | ((first | apply fin_ndec | apply fin_dec | apply cnd_ndec | apply cnd_dec' | apply fin_nsplit | apply fin_split | apply cnd_nsplit | apply cnd_split) <;> intro hc) | refine blk_exit_id ?_)
    have hlen := dec_len (n.natAbs + 1) n.natAbs (by omega)
    refine awp_loop (σ := Int × List UInt8) (fun p => -9223372036854775808 ≤ p.1 ∧ p.1 ≤ 9223372036854775807 ∧ dd p.1.natAbs ++ p.2 = Lib.decDigits n.natAbs) (fun p => ⟨[(4, AV.i p.1), (3, AV.s p.2), (0, AV.i n)], []⟩) (fun p => p.1.natAbs) (n, []) (Wk.sub' (by simp [subT, look]) rfl) ⟨hn1, hn2, by rw [dd, if_neg (by omega), List.append_nil]⟩ ?_
    rintro ⟨m, out⟩ ⟨hm1, hm2, hout⟩
    dsimp only at hm1 hm2 hout ⊢
    have hol : out.length ≤ n.natAbs / 10 + 1 := by
      have := congrArg List.length hout
      rw [List.length_append] at this
      omega
    by_cases hm0 : m = 0
    · subst hm0
      have hout' : out = Lib.decDigits n.natAbs := by simpa [dd] using hout
      by_cases hneg : n < 0
      · have k1 : (1 + out.length ≤ 4611686018427387904) = True := eq_true (by omega)
        have hc := Nat.zero_add 0
        repeat' (first | simp only [hc, SX, hneg, k1, AB, PL, RG, LP, TY, simprocAttr, ↓reduceIte, forall_const, eq_self, ne_eq, Option.some.injEq, beq_self_eq_true] | ((first | apply fin_ndec | apply fin_dec | apply cnd_ndec | apply cnd_dec' | apply fin_nsplit | apply fin_split | apply cnd_nsplit | apply cnd_split) <;> intro hc) | refine blk_exit_id ?_)
        all_goals simp [itoa_spec, hneg, hout']
      · have e : n.natAbs = n.toNat := by omega
        have hc := Nat.zero_add 0
        repeat' (first | simp only [hc, SX, hneg, AB, PL, RG, LP, TY, simprocAttr, ↓reduceIte, forall_const, eq_self, ne_eq, Option.some.injEq, beq_self_eq_true] | ((first | apply fin_ndec | apply fin_dec | apply cnd_ndec | apply cnd_dec' | apply fin_nsplit | apply fin_split | apply cnd_nsplit | apply cnd_split) <;> intro hc) | refine blk_exit_id ?_)
        all_goals simp [itoa_spec, hneg, hout', e]
    · have hma : m.natAbs ≠ 0 := by omega
      obtain ⟨q1, q2⟩ := @tq m
      obtain ⟨q3, q4⟩ := q2 hm1 hm2
      have w1 := wI (n := m.tdiv 10) q3 q4
      have hstep : dd (m.natAbs / 10) ++ (UInt8.ofNat (48 + m.natAbs % 10) :: out) = Lib.decDigits n.natAbs := by
        rw [← hout]
        conv => rhs; rw [dd, if_neg hma, dec_rec _ hma]
        simp [dd]
      have z1 : (((m.natAbs % 10 : Nat) : Int) + 1 ≤ (10 : Int)) = True := eq_true (by omega)
      have g1 := cut1 (dig10 (m.natAbs % 10) (by omega))
      have w2 := wI (n := ((m.natAbs % 10 : Nat) : Int) + 1) (by omega) (by omega)
      have w3 := wI (n := ((m.natAbs % 10 : Nat) : Int)) (by omega) (by omega)
      have k1 : (1 + out.length ≤ 4611686018427387904) = True := eq_true (by omega)
      generalize hd : m.natAbs % 10 = dg at *
      rcases @tr m with ⟨r1, r2⟩ | ⟨r1, r2⟩
      · rw [hd] at r2
        have r3 : ((dg : Int) < 0) = False := eq_false (by omega)
        have hc := Nat.zero_add 0
        repeat' (first | simp only [hc, SX, hm0, r2, r3, w1, w2, w3, z1, g1, tn1, le1, nn, k1, Int.cast_ofNat_Int, AB, PL, RG, LP, TY, simprocAttr, ↓reduceIte, forall_const, eq_self, ne_eq, Option.some.injEq, beq_self_eq_true] | ((first | apply fin_ndec | apply fin_dec | apply cnd_ndec | apply cnd_dec' | apply fin_nsplit | apply fin_split | apply cnd_nsplit | apply cnd_split) <;> intro hc) | refine blk_exit_id ?_)
        exact lp_next (m.tdiv 10, UInt8.ofNat (48 + dg) :: out) (Wk.sub' (by simp [subT, look]) rfl) ⟨q3, q4, by rw [q1]; exact hstep⟩ (by simp only [q1]; omega)
      · rw [hd] at r2
        have hc := Nat.zero_add 0
        repeat' (first | simp only [hc, SX, hm0, r1, r2, w1, w2, w3, z1, g1, tn1, le1, nn, k1, Int.cast_ofNat_Int, AB, PL, RG, LP, TY, simprocAttr, ↓reduceIte, forall_const, eq_self, ne_eq, Option.some.injEq, beq_self_eq_true] | ((first | apply fin_ndec | apply fin_dec | apply cnd_ndec | apply cnd_dec' | apply fin_nsplit | apply fin_split | apply cnd_nsplit | apply cnd_split) <;> intro hc) | refine blk_exit_id ?_)
        exact lp_next (m.tdiv 10, UInt8.ofNat (48 + dg) :: out) (Wk.sub' (by simp [subT, look]) rfl) ⟨q3, q4, by rw [q1]; exact hstep⟩ (by simp only [q1]; omega)
  · cases h

end Go.Ab

/-
  What the functions of the texts compute: numerals read.
-/
namespace Go.Ab
open Go.RowKit Go.Proofs


def rnum_m : List PA → Option (List PA) := ms fun s => if decide (s.length ≤ 100000) = true then some [.i (numF s).1, .i (numF s).2] else none

theorem num_bad {s : List UInt8} (h1 : Lib.trimPrefix s [45] ≠ []) (h : ¬ (Lib.trimPrefix s [45]).all isDig = true) : numF s = (0, 5) := by
  unfold numF
  split <;> first | rfl | rw [if_neg h]
theorem num_first {s : List UInt8} (h : Lib.trimPrefix s [45] = [] ∨ ((Lib.trimPrefix s [45]).head? = some 48 ∧ s ≠ [48])) : numF s = (0, 5) := by
  unfold numF; rw [if_pos h]
theorem num_big {s : List UInt8} (h : ¬ (Lib.trimPrefix s [45] = [] ∨ ((Lib.trimPrefix s [45]).head? = some 48 ∧ s ≠ [48]))) (h2 : (Lib.trimPrefix s [45]).all isDig = true) (h3 : 2147483648 < val (Lib.trimPrefix s [45])) : numF s = (0, 2) := by
  unfold numF; rw [if_neg h, if_pos h2, if_pos h3]
theorem num_pos {s : List UInt8} (h : ¬ (Lib.trimPrefix s [45] = [] ∨ ((Lib.trimPrefix s [45]).head? = some 48 ∧ s ≠ [48]))) (h2 : (Lib.trimPrefix s [45]).all isDig = true) (h3 : ¬ 2147483648 < val (Lib.trimPrefix s [45])) (h4 : Lib.trimPrefix s [45] = s) : numF s = ((val (Lib.trimPrefix s [45]) : Int), 0) := by
  unfold numF; rw [if_neg h, if_pos h2, if_neg h3, if_pos h4]
theorem num_neg {s : List UInt8} (h : ¬ (Lib.trimPrefix s [45] = [] ∨ ((Lib.trimPrefix s [45]).head? = some 48 ∧ s ≠ [48]))) (h2 : (Lib.trimPrefix s [45]).all isDig = true) (h3 : ¬ 2147483648 < val (Lib.trimPrefix s [45])) (h4 : Lib.trimPrefix s [45] ≠ s) : numF s = (-(val (Lib.trimPrefix s [45]) : Int), 0) := by
  unfold numF; rw [if_neg h, if_pos h2, if_neg h3, if_neg h4]
theorem dig_iff {c : UInt8} : isDig c = true ↔ 48 ≤ c.toNat ∧ c.toNat ≤ 57 := by simp [isDig]
theorem take_snoc {s : List UInt8} {j : Nat} {c : UInt8} (h : s[j]? = some c) : s.take (j + 1) = s.take j ++ [c] := by
  obtain ⟨hj, rfl⟩ := List.getElem?_eq_some_iff.1 h
  exact List.take_succ_eq_append_getElem hj
theorem bad_mem {d : List UInt8} {j : Nat} {c : UInt8} (h : d[j]? = some c) (hc : ¬ isDig c = true) : ¬ d.all isDig = true := fun h2 => by
  rw [List.all_eq_true] at h2
  exact hc (h2 c (List.mem_of_getElem? h))

@[irreducible] def capN (v : Nat) : Nat := if v ≤ 2147483648 then v else 2147483649
theorem capN_lo {v : Nat} (h : v ≤ 2147483648) : capN v = v := by unfold capN; rw [if_pos h]
theorem capN_hi {v : Nat} (h : ¬ v ≤ 2147483648) : capN v = 2147483649 := by unfold capN; rw [if_neg h]
theorem capN_le (v : Nat) : capN v ≤ 2147483649 := by
  by_cases h : v ≤ 2147483648
  · rw [capN_lo h]; omega
  · rw [capN_hi h]; omega
theorem capN_step (v k : Nat) (hk : k ≤ 9) : (if (2147483649 : Int) < 10 * (capN v : Int) + (k : Int) then (2147483649 : Int) else 10 * (capN v : Int) + (k : Int)) = ((capN (10 * v + k) : Nat) : Int) := by
  by_cases h : v ≤ 2147483648
  · rw [capN_lo h]
    by_cases h2 : 10 * v + k ≤ 2147483648
    · rw [capN_lo h2, if_neg (by omega)]; omega
    · rw [capN_hi h2]; split <;> omega
  · rw [capN_hi h, capN_hi (by omega), if_pos (by omega)]; rfl

def preK (k : Nat) (l : List UInt8) : List UInt8 := l.drop k
theorem preK_snoc {k : Nat} {l : List UInt8} {c : UInt8} (h : k ≤ l.length) : preK k (l ++ [c]) = preK k l ++ [c] := List.drop_append_of_le_length h
theorem capN_z : capN (valF 0 []) = 0 := capN_lo (Nat.zero_le _)

theorem rnum_ok : PureC Tryd.prog Gt 59 rnum_m := by
  refine pure_of_awp (X := ctx Tryd.prog Gt []) Tryd.func59 rfl rfl (by kernel_rfl) (by kernel_rfl) AllOk.nil.kok ?_
  intro args r h0
  obtain ⟨s, rfl, h⟩ := ms_inv h0
  refine ⟨Nat.le_of_ble_eq_true rfl, ?_⟩
  split at h
  · rename_i hlen
    have hlen := of_decide_eq_true hlen
    cases h
    have n1 := @num_bad s
    have n2 := @num_first s
    have n3 := @num_big s
    have n4 := @num_pos s
    have n5 := @num_neg s
    rcases trim_minus s with ⟨r, es, ed⟩ | ⟨hns, ed⟩
    · rw [ed] at n1 n2 n3 n4 n5
      have p0 : ((0 : Int) < (s.length : Int)) = True := eq_true (by rw [es, List.length_cons]; omega)
      have i0 : s[0]? = some 45 := by rw [es]; rfl
      have c45 : (((45 : UInt8).toNat : Int) = 45) = True := by simp
      have edr : r = preK 1 s := by rw [es]; rfl
      have hrl : s.length = r.length + 1 := by rw [es]; rfl
      have hrs : r ≠ s := fun h => by rw [h] at hrl; omega
      by_cases hd0 : r = []
      · have hE := n2 (.inl hd0)
        have q1 : ((1 : Int) = (s.length : Int)) = True := eq_true (by rw [hrl, hd0]; rfl)
        have hc := Nat.zero_add 0
        repeat' (first | simp only [hc, Tryd.f59, SX, p0, i0, c45, q1, AB, PL, RG, LP, TY, simprocAttr, ↓reduceIte, forall_const, eq_self, ne_eq, Option.some.injEq, beq_self_eq_true] | ((first | apply fin_ndec | apply fin_dec | apply cnd_ndec | apply cnd_dec' | apply fin_nsplit | apply fin_split | apply cnd_nsplit | apply cnd_split) <;> intro hc) | refine blk_exit_id ?_)
        all_goals simp [hE, DV.i]
      have hdp := List.length_pos_iff.2 hd0
      have q1 : ((1 : Int) = (s.length : Int)) = False := eq_false (by omega)
      obtain ⟨c0, hc0⟩ : ∃ c, s[1]? = some c := ⟨s[1], List.getElem?_eq_getElem (by omega)⟩
      have hhd : r.head? = some c0 := by rw [← hc0, es, List.head?_eq_getElem?]; rfl
      by_cases hz : c0.toNat = 48
      · have c48 : c0 = 48 := UInt8.toNat_inj.1 hz
        have hE := n2 (.inr ⟨by rw [hhd, c48], fun h => by rw [h] at hrl; simp at hrl; exact hd0 hrl⟩)
        have a1 : ((c0.toNat : Int) = 48) = True := eq_true (by omega)
        have hc := Nat.zero_add 0
        repeat' (first | simp only [hc, Tryd.f59, SX, p0, i0, c45, q1, hc0, a1, AB, PL, RG, LP, TY, simprocAttr, ↓reduceIte, forall_const, eq_self, ne_eq, Option.some.injEq, beq_self_eq_true] | ((first | apply fin_ndec | apply fin_dec | apply cnd_ndec | apply cnd_dec' | apply fin_nsplit | apply fin_split | apply cnd_nsplit | apply cnd_split) <;> intro hc) | refine blk_exit_id ?_)
        all_goals simp [hE, DV.i]
      have hok : ¬ (r = [] ∨ (r.head? = some 48 ∧ s ≠ [48])) := by
        rintro (h | ⟨h1, h2⟩)
        · exact hd0 h
        · rw [hhd] at h1; cases h1; exact hz rfl
      have a1 : ((c0.toNat : Int) = 48) = False := eq_false (by omega)
      have hc := Nat.zero_add 0
      repeat' (first | simp only [hc, Tryd.f59, SX, p0, i0, c45, q1, hc0, a1, AB, PL, RG, LP, TY, simprocAttr, ↓reduceIte, forall_const, eq_self, ne_eq, Option.some.injEq, beq_self_eq_true] | ((first | apply fin_ndec | apply fin_dec | apply cnd_ndec | apply cnd_dec' | apply fin_nsplit | apply fin_split | apply cnd_nsplit | apply cnd_split) <;> intro hc) | refine blk_exit_id ?_)
      have e0 : preK 1 (s.take 1) = [] := List.drop_eq_nil_of_le (by rw [List.length_take]; omega)
      refine awp_loop (σ := Nat × Nat) (fun p => 1 ≤ p.1 ∧ p.1 ≤ s.length ∧ (preK 1 (s.take p.1)).all isDig = true ∧ p.2 ≤ 30000000000 ∧ (p.2 ≤ 2147483648 → p.2 = val (preK 1 (s.take p.1))) ∧ (2147483648 < p.2 → 2147483648 < val (preK 1 (s.take p.1)))) (fun p => ⟨[(6, AV.i p.1), (5, AV.i p.2), (4, AV.i 1), (0, AV.s s)], []⟩) (fun p => s.length - p.1) (1, 0) (Wk.sub' (by simp [subT, look]) rfl) ⟨Nat.le_refl _, by simp only []; omega, by rw [e0]; rfl, by simp only []; omega, fun _ => by rw [e0]; rfl, fun h => absurd h (by simp only []; omega)⟩ ?_
      rintro ⟨j, n⟩ ⟨hk, hj, hout, hn1, hn2, hn3⟩
      dsimp only at hk hj hout hn1 hn2 hn3 ⊢
      by_cases hjl : j < s.length
      · have e1 : s[j]? = some s[j] := by simp [hjl]
        have hlt : ((j : Int) < (s.length : Int)) = True := eq_true (by omega)
        have hw := wI (n := (j : Int) + 1) (by omega) (by omega)
        generalize s[j] = c at *
        by_cases hdg : isDig c = true
        · have hdg' := dig_iff.1 hdg
          have hsn : preK 1 (s.take (j + 1)) = preK 1 (s.take j) ++ [c] := by
            rw [take_snoc e1, preK_snoc (by rw [List.length_take]; omega)]
          have hv : val (preK 1 (s.take (j + 1))) = 10 * val (preK 1 (s.take j)) + (c.toNat - 48) := by rw [hsn, val_snoc]
          have hal : (preK 1 (s.take (j + 1))).all isDig = true := by rw [hsn, List.all_append, hout]; simp [hdg]
          generalize val (preK 1 (s.take j)) = v at *
          have b1 : ((c.toNat : Int) < 48) = False := eq_false (by omega)
          have b2 : ((57 : Int) < (c.toNat : Int)) = False := eq_false (by omega)
          by_cases hcap : (n : Int) ≤ 2147483648
          · have w1 := wI (n := (n : Int) * 10) (by omega) (by omega)
            have w2 := wU8 (n := (c.toNat : Int) - 48) (by omega) (by omega)
            have w3 := wI (n := (c.toNat : Int) - 48) (by omega) (by omega)
            have w4 : IntKind.i64.wrap ((n : Int) * 10 + ((c.toNat : Int) - 48)) = ((10 * n + (c.toNat - 48) : Nat) : Int) := by rw [wI (by omega) (by omega)]; omega
            have hc := Nat.zero_add 0
            repeat' (first | simp only [hc, SX, e1, hlt, nn, hw, b1, b2, hcap, w1, w2, w3, w4, AB, PL, RG, LP, TY, simprocAttr, ↓reduceIte, forall_const, eq_self, ne_eq, Option.some.injEq, beq_self_eq_true] | ((first | apply fin_ndec | apply fin_dec | apply cnd_ndec | apply cnd_dec' | apply fin_nsplit | apply fin_split | apply cnd_nsplit | apply cnd_split) <;> intro hc) | refine blk_exit_id ?_)
            exact lp_next (j + 1, 10 * n + (c.toNat - 48)) (Wk.sub' (by simp [subT, look]) rfl) ⟨by simp only []; omega, by simp only []; omega, hal, by simp only []; omega, fun _ => by rw [hv]; have := hn2 (by omega); simp only []; omega, fun h => by rw [hv]; have := hn2 (by omega); simp only [] at h; omega⟩ (by simp only []; omega)
          · skip
            have hc := Nat.zero_add 0
            repeat' (first | simp only [hc, SX, e1, hlt, nn, hw, b1, b2, hcap, AB, PL, RG, LP, TY, simprocAttr, ↓reduceIte, forall_const, eq_self, ne_eq, Option.some.injEq, beq_self_eq_true] | ((first | apply fin_ndec | apply fin_dec | apply cnd_ndec | apply cnd_dec' | apply fin_nsplit | apply fin_split | apply cnd_nsplit | apply cnd_split) <;> intro hc) | refine blk_exit_id ?_)
            exact lp_next (j + 1, n) (Wk.sub' (by simp [subT, look]) rfl) ⟨by simp only []; omega, by simp only []; omega, hal, by simp only []; omega, fun h => by simp only [] at h; omega, fun h => by rw [hv]; have := hn3 (by omega); omega⟩ (by simp only []; omega)
        · have hE := n1 hd0 (bad_mem (j := j - 1) (by rw [edr, preK, List.getElem?_drop, show 1 + (j - 1) = j by omega]; exact e1) hdg)
          have hdg' : ¬ (48 ≤ c.toNat ∧ c.toNat ≤ 57) := fun h => hdg (dig_iff.2 h)
          by_cases b0 : (c.toNat : Int) < 48
          · skip
            have hc := Nat.zero_add 0
            repeat' (first | simp only [hc, SX, e1, hlt, nn, b0, AB, PL, RG, LP, TY, simprocAttr, ↓reduceIte, forall_const, eq_self, ne_eq, Option.some.injEq, beq_self_eq_true] | ((first | apply fin_ndec | apply fin_dec | apply cnd_ndec | apply cnd_dec' | apply fin_nsplit | apply fin_split | apply cnd_nsplit | apply cnd_split) <;> intro hc) | refine blk_exit_id ?_)
            all_goals simp [hE, DV.i]
          · have b2 : ((57 : Int) < (c.toNat : Int)) = True := eq_true (by omega)
            have hc := Nat.zero_add 0
            repeat' (first | simp only [hc, SX, e1, hlt, nn, b0, b2, AB, PL, RG, LP, TY, simprocAttr, ↓reduceIte, forall_const, eq_self, ne_eq, Option.some.injEq, beq_self_eq_true] | ((first | apply fin_ndec | apply fin_dec | apply cnd_ndec | apply cnd_dec' | apply fin_nsplit | apply fin_split | apply cnd_nsplit | apply cnd_split) <;> intro hc) | refine blk_exit_id ?_)
            all_goals simp [hE, DV.i]
      · have hlt : ((j : Int) < (s.length : Int)) = False := eq_false (by omega)
        rw [List.take_of_length_le (by omega), ← edr] at hout hn2 hn3
        by_cases hbig : 2147483648 < n
        · have hE := n3 hok hout (hn3 hbig)
          have b1 : ((2147483648 : Int) < (n : Int)) = True := eq_true (by omega)
          have hc := Nat.zero_add 0
          repeat' (first | simp only [hc, SX, hlt, b1, AB, PL, RG, LP, TY, simprocAttr, ↓reduceIte, forall_const, eq_self, ne_eq, Option.some.injEq, beq_self_eq_true] | ((first | apply fin_ndec | apply fin_dec | apply cnd_ndec | apply cnd_dec' | apply fin_nsplit | apply fin_split | apply cnd_nsplit | apply cnd_split) <;> intro hc) | refine blk_exit_id ?_)
          all_goals simp [hE, DV.i]
        · have hnv := hn2 (by omega)
          have b1 : ((2147483648 : Int) < (n : Int)) = False := eq_false (by omega)
          have hE := n5 hok hout (by omega) hrs
          have w1 := wI (n := 0 - (n : Int)) (by omega) (by omega)
          have hc := Nat.zero_add 0
          repeat' (first | simp only [hc, SX, hlt, b1, w1, AB, PL, RG, LP, TY, simprocAttr, ↓reduceIte, forall_const, eq_self, ne_eq, Option.some.injEq, beq_self_eq_true] | ((first | apply fin_ndec | apply fin_dec | apply cnd_ndec | apply cnd_dec' | apply fin_nsplit | apply fin_split | apply cnd_nsplit | apply cnd_split) <;> intro hc) | refine blk_exit_id ?_)
          all_goals simp [hE, DV.i, ← hnv]
    · rw [ed] at n1 n2 n3 n4 n5
      by_cases hd0 : s = []
      · have hE := n2 (.inl hd0)
        subst hd0
        have hc := Nat.zero_add 0
        repeat' (first | simp only [hc, Tryd.f59, SX, List.length_nil, Int.ofNat_zero, Int.natCast_zero, AB, PL, RG, LP, TY, simprocAttr, ↓reduceIte, forall_const, eq_self, ne_eq, Option.some.injEq, beq_self_eq_true] | ((first | apply fin_ndec | apply fin_dec | apply cnd_ndec | apply cnd_dec' | apply fin_nsplit | apply fin_split | apply cnd_nsplit | apply cnd_split) <;> intro hc) | refine blk_exit_id ?_)
        all_goals simp [hE, DV.i]
      have hdp := List.length_pos_iff.2 hd0
      have p0 : ((0 : Int) < (s.length : Int)) = True := eq_true (by omega)
      have q1 : ((0 : Int) = (s.length : Int)) = False := eq_false (by omega)
      obtain ⟨c0, hc0⟩ : ∃ c, s[0]? = some c := ⟨s[0], List.getElem?_eq_getElem hdp⟩
      have hhd : s.head? = some c0 := by rw [← hc0, List.head?_eq_getElem?]
      have n45 : ((c0.toNat : Int) = 45) = False := eq_false fun h => by
        have : c0 = 45 := UInt8.toNat_inj.1 (by simpa using (by omega : c0.toNat = 45))
        subst this
        cases s with
        | nil => cases hhd
        | cons x y => simp at hhd; exact hns y (by rw [hhd])
      by_cases hz : c0.toNat = 48 ∧ s ≠ [48]
      · have c48 : c0 = 48 := UInt8.toNat_inj.1 hz.1
        have hE := n2 (.inr ⟨by rw [hhd, c48], hz.2⟩)
        have a1 : ((c0.toNat : Int) = 48) = True := eq_true (by omega)
        have a2 : ((1 : Int) < (s.length : Int)) = True := eq_true (by
          have : s.length ≠ 1 := fun h1 => hz.2 (by
            obtain ⟨x, rfl⟩ := List.length_eq_one_iff.1 h1
            simp at hhd; rw [hhd, c48])
          omega)
        have hc := Nat.zero_add 0
        repeat' (first | simp only [hc, Tryd.f59, SX, p0, q1, hc0, n45, a1, a2, AB, PL, RG, LP, TY, simprocAttr, ↓reduceIte, forall_const, eq_self, ne_eq, Option.some.injEq, beq_self_eq_true] | ((first | apply fin_ndec | apply fin_dec | apply cnd_ndec | apply cnd_dec' | apply fin_nsplit | apply fin_split | apply cnd_nsplit | apply cnd_split) <;> intro hc) | refine blk_exit_id ?_)
        all_goals simp [hE, DV.i]
      have hok : ¬ (s = [] ∨ (s.head? = some 48 ∧ s ≠ [48])) := by
        rintro (h | ⟨h1, h2⟩)
        · exact hd0 h
        · rw [hhd] at h1; cases h1; exact hz ⟨rfl, h2⟩
      have edr : s = preK 0 s := rfl
      by_cases h48 : c0.toNat = 48
      · have a1 : ((c0.toNat : Int) = 48) = True := eq_true (by omega)
        have e48 : s = [48] := Classical.not_not.1 fun hn => hz ⟨h48, hn⟩
        have a2 : ((1 : Int) < (s.length : Int)) = False := eq_false (by rw [e48]; simp)
        have hc := Nat.zero_add 0
        repeat' (first | simp only [hc, Tryd.f59, SX, p0, q1, hc0, n45, a1, a2, AB, PL, RG, LP, TY, simprocAttr, ↓reduceIte, forall_const, eq_self, ne_eq, Option.some.injEq, beq_self_eq_true] | ((first | apply fin_ndec | apply fin_dec | apply cnd_ndec | apply cnd_dec' | apply fin_nsplit | apply fin_split | apply cnd_nsplit | apply cnd_split) <;> intro hc) | refine blk_exit_id ?_)
        have e0 : preK 0 (s.take 0) = [] := List.drop_eq_nil_of_le (by rw [List.length_take]; omega)
        refine awp_loop (σ := Nat × Nat) (fun p => 0 ≤ p.1 ∧ p.1 ≤ s.length ∧ (preK 0 (s.take p.1)).all isDig = true ∧ p.2 ≤ 30000000000 ∧ (p.2 ≤ 2147483648 → p.2 = val (preK 0 (s.take p.1))) ∧ (2147483648 < p.2 → 2147483648 < val (preK 0 (s.take p.1)))) (fun p => ⟨[(6, AV.i p.1), (5, AV.i p.2), (4, AV.i 0), (0, AV.s s)], []⟩) (fun p => s.length - p.1) (0, 0) (Wk.sub' (by simp [subT, look]) rfl) ⟨Nat.le_refl _, by simp only []; omega, by rw [e0]; rfl, by simp only []; omega, fun _ => by rw [e0]; rfl, fun h => absurd h (by simp only []; omega)⟩ ?_
        rintro ⟨j, n⟩ ⟨hk, hj, hout, hn1, hn2, hn3⟩
        dsimp only at hk hj hout hn1 hn2 hn3 ⊢
        by_cases hjl : j < s.length
        · have e1 : s[j]? = some s[j] := by simp [hjl]
          have hlt : ((j : Int) < (s.length : Int)) = True := eq_true (by omega)
          have hw := wI (n := (j : Int) + 1) (by omega) (by omega)
          generalize s[j] = c at *
          by_cases hdg : isDig c = true
          · have hdg' := dig_iff.1 hdg
            have hsn : preK 0 (s.take (j + 1)) = preK 0 (s.take j) ++ [c] := by
              rw [take_snoc e1, preK_snoc (by rw [List.length_take]; omega)]
            have hv : val (preK 0 (s.take (j + 1))) = 10 * val (preK 0 (s.take j)) + (c.toNat - 48) := by rw [hsn, val_snoc]
            have hal : (preK 0 (s.take (j + 1))).all isDig = true := by rw [hsn, List.all_append, hout]; simp [hdg]
            generalize val (preK 0 (s.take j)) = v at *
            have b1 : ((c.toNat : Int) < 48) = False := eq_false (by omega)
            have b2 : ((57 : Int) < (c.toNat : Int)) = False := eq_false (by omega)
            by_cases hcap : (n : Int) ≤ 2147483648
            · have w1 := wI (n := (n : Int) * 10) (by omega) (by omega)
              have w2 := wU8 (n := (c.toNat : Int) - 48) (by omega) (by omega)
              have w3 := wI (n := (c.toNat : Int) - 48) (by omega) (by omega)
              have w4 : IntKind.i64.wrap ((n : Int) * 10 + ((c.toNat : Int) - 48)) = ((10 * n + (c.toNat - 48) : Nat) : Int) := by rw [wI (by omega) (by omega)]; omega
              have hc := Nat.zero_add 0
              repeat' (first | simp only [hc, SX, e1, hlt, nn, hw, b1, b2, hcap, w1, w2, w3, w4, AB, PL, RG, LP, TY, simprocAttr, ↓reduceIte, forall_const, eq_self, ne_eq, Option.some.injEq, beq_self_eq_true] | ((first | apply fin_ndec | apply fin_dec | apply cnd_ndec | apply cnd_dec' | apply fin_nsplit | apply fin_split | apply cnd_nsplit | apply cnd_split) <;> intro hc) | refine blk_exit_id ?_)
              exact lp_next (j + 1, 10 * n + (c.toNat - 48)) (Wk.sub' (by simp [subT, look]) rfl) ⟨by simp only []; omega, by simp only []; omega, hal, by simp only []; omega, fun _ => by rw [hv]; have := hn2 (by omega); simp only []; omega, fun h => by rw [hv]; have := hn2 (by omega); simp only [] at h; omega⟩ (by simp only []; omega)
            · skip
              have hc := Nat.zero_add 0
              repeat' (first | simp only [hc, SX, e1, hlt, nn, hw, b1, b2, hcap, AB, PL, RG, LP, TY, simprocAttr, ↓reduceIte, forall_const, eq_self, ne_eq, Option.some.injEq, beq_self_eq_true] | ((first | apply fin_ndec | apply fin_dec | apply cnd_ndec | apply cnd_dec' | apply fin_nsplit | apply fin_split | apply cnd_nsplit | apply cnd_split) <;> intro hc) | refine blk_exit_id ?_)
              exact lp_next (j + 1, n) (Wk.sub' (by simp [subT, look]) rfl) ⟨by simp only []; omega, by simp only []; omega, hal, by simp only []; omega, fun h => by simp only [] at h; omega, fun h => by rw [hv]; have := hn3 (by omega); omega⟩ (by simp only []; omega)
          · have hE := n1 hd0 (bad_mem (j := j - 0) (by rw [edr, preK, List.getElem?_drop, show 0 + (j - 0) = j by omega]; exact e1) hdg)
            have hdg' : ¬ (48 ≤ c.toNat ∧ c.toNat ≤ 57) := fun h => hdg (dig_iff.2 h)
            by_cases b0 : (c.toNat : Int) < 48
            · skip
              have hc := Nat.zero_add 0
              repeat' (first | simp only [hc, SX, e1, hlt, nn, b0, AB, PL, RG, LP, TY, simprocAttr, ↓reduceIte, forall_const, eq_self, ne_eq, Option.some.injEq, beq_self_eq_true] | ((first | apply fin_ndec | apply fin_dec | apply cnd_ndec | apply cnd_dec' | apply fin_nsplit | apply fin_split | apply cnd_nsplit | apply cnd_split) <;> intro hc) | refine blk_exit_id ?_)
              all_goals simp [hE, DV.i]
            · have b2 : ((57 : Int) < (c.toNat : Int)) = True := eq_true (by omega)
              have hc := Nat.zero_add 0
              repeat' (first | simp only [hc, SX, e1, hlt, nn, b0, b2, AB, PL, RG, LP, TY, simprocAttr, ↓reduceIte, forall_const, eq_self, ne_eq, Option.some.injEq, beq_self_eq_true] | ((first | apply fin_ndec | apply fin_dec | apply cnd_ndec | apply cnd_dec' | apply fin_nsplit | apply fin_split | apply cnd_nsplit | apply cnd_split) <;> intro hc) | refine blk_exit_id ?_)
              all_goals simp [hE, DV.i]
        · have hlt : ((j : Int) < (s.length : Int)) = False := eq_false (by omega)
          rw [List.take_of_length_le (by omega), ← edr] at hout hn2 hn3
          by_cases hbig : 2147483648 < n
          · have hE := n3 hok hout (hn3 hbig)
            have b1 : ((2147483648 : Int) < (n : Int)) = True := eq_true (by omega)
            have hc := Nat.zero_add 0
            repeat' (first | simp only [hc, SX, hlt, b1, AB, PL, RG, LP, TY, simprocAttr, ↓reduceIte, forall_const, eq_self, ne_eq, Option.some.injEq, beq_self_eq_true] | ((first | apply fin_ndec | apply fin_dec | apply cnd_ndec | apply cnd_dec' | apply fin_nsplit | apply fin_split | apply cnd_nsplit | apply cnd_split) <;> intro hc) | refine blk_exit_id ?_)
            all_goals simp [hE, DV.i]
          · have hnv := hn2 (by omega)
            have b1 : ((2147483648 : Int) < (n : Int)) = False := eq_false (by omega)
            have hE := n4 hok hout (by omega) rfl
            have hc := Nat.zero_add 0
            repeat' (first | simp only [hc, SX, hlt, b1, AB, PL, RG, LP, TY, simprocAttr, ↓reduceIte, forall_const, eq_self, ne_eq, Option.some.injEq, beq_self_eq_true] | ((first | apply fin_ndec | apply fin_dec | apply cnd_ndec | apply cnd_dec' | apply fin_nsplit | apply fin_split | apply cnd_nsplit | apply cnd_split) <;> intro hc) | refine blk_exit_id ?_)
            all_goals simp [hE, DV.i, ← hnv]
      · have a1 : ((c0.toNat : Int) = 48) = False := eq_false (by omega)
        have hc := Nat.zero_add 0
        repeat' (first | simp only [hc, Tryd.f59, SX, p0, q1, hc0, n45, a1, AB, PL, RG, LP, TY, simprocAttr, ↓reduceIte, forall_const, eq_self, ne_eq, Option.some.injEq, beq_self_eq_true] | ((first | apply fin_ndec | apply fin_dec | apply cnd_ndec | apply cnd_dec' | apply fin_nsplit | apply fin_split | apply cnd_nsplit | apply cnd_split) <;> intro hc) | refine blk_exit_id ?_)
        have e0 : preK 0 (s.take 0) = [] := List.drop_eq_nil_of_le (by rw [List.length_take]; omega)
        refine awp_loop (σ := Nat × Nat) (fun p => 0 ≤ p.1 ∧ p.1 ≤ s.length ∧ (preK 0 (s.take p.1)).all isDig = true ∧ p.2 ≤ 30000000000 ∧ (p.2 ≤ 2147483648 → p.2 = val (preK 0 (s.take p.1))) ∧ (2147483648 < p.2 → 2147483648 < val (preK 0 (s.take p.1)))) (fun p => ⟨[(6, AV.i p.1), (5, AV.i p.2), (4, AV.i 0), (0, AV.s s)], []⟩) (fun p => s.length - p.1) (0, 0) (Wk.sub' (by simp [subT, look]) rfl) ⟨Nat.le_refl _, by simp only []; omega, by rw [e0]; rfl, by simp only []; omega, fun _ => by rw [e0]; rfl, fun h => absurd h (by simp only []; omega)⟩ ?_
        rintro ⟨j, n⟩ ⟨hk, hj, hout, hn1, hn2, hn3⟩
        dsimp only at hk hj hout hn1 hn2 hn3 ⊢
        by_cases hjl : j < s.length
        · have e1 : s[j]? = some s[j] := by simp [hjl]
          have hlt : ((j : Int) < (s.length : Int)) = True := eq_true (by omega)
          have hw := wI (n := (j : Int) + 1) (by omega) (by omega)
          generalize s[j] = c at *
          by_cases hdg : isDig c = true
          · have hdg' := dig_iff.1 hdg
            have hsn : preK 0 (s.take (j + 1)) = preK 0 (s.take j) ++ [c] := by
              rw [take_snoc e1, preK_snoc (by rw [List.length_take]; omega)]
            have hv : val (preK 0 (s.take (j + 1))) = 10 * val (preK 0 (s.take j)) + (c.toNat - 48) := by rw [hsn, val_snoc]
            have hal : (preK 0 (s.take (j + 1))).all isDig = true := by rw [hsn, List.all_append, hout]; simp [hdg]
            generalize val (preK 0 (s.take j)) = v at *
            have b1 : ((c.toNat : Int) < 48) = False := eq_false (by omega)
            have b2 : ((57 : Int) < (c.toNat : Int)) = False := eq_false (by omega)
            by_cases hcap : (n : Int) ≤ 2147483648
            · have w1 := wI (n := (n : Int) * 10) (by omega) (by omega)
              have w2 := wU8 (n := (c.toNat : Int) - 48) (by omega) (by omega)
              have w3 := wI (n := (c.toNat : Int) - 48) (by omega) (by omega)
              have w4 : IntKind.i64.wrap ((n : Int) * 10 + ((c.toNat : Int) - 48)) = ((10 * n + (c.toNat - 48) : Nat) : Int) := by rw [wI (by omega) (by omega)]; omega
              have hc := Nat.zero_add 0
              repeat' (first | simp only [hc, SX, e1, hlt, nn, hw, b1, b2, hcap, w1, w2, w3, w4, AB, PL, RG, LP, TY, simprocAttr, ↓reduceIte, forall_const, eq_self, ne_eq, Option.some.injEq, beq_self_eq_true] | ((first | apply fin_ndec | apply fin_dec | apply cnd_ndec | apply cnd_dec' | apply fin_nsplit | apply fin_split | apply cnd_nsplit | apply cnd_split) <;> intro hc) | refine blk_exit_id ?_)
              exact lp_next (j + 1, 10 * n + (c.toNat - 48)) (Wk.sub' (by simp [subT, look]) rfl) ⟨by simp only []; omega, by simp only []; omega, hal, by simp only []; omega, fun _ => by rw [hv]; have := hn2 (by omega); simp only []; omega, fun h => by rw [hv]; have := hn2 (by omega); simp only [] at h; omega⟩ (by simp only []; omega)
            · skip
              have hc := Nat.zero_add 0
              repeat' (first | simp only [hc, SX, e1, hlt, nn, hw, b1, b2, hcap, AB, PL, RG, LP, TY, simprocAttr, ↓reduceIte, forall_const, eq_self, ne_eq, Option.some.injEq, beq_self_eq_true] | ((first | apply fin_ndec | apply fin_dec | apply cnd_ndec | apply cnd_dec' | apply fin_nsplit | apply fin_split | apply cnd_nsplit | apply cnd_split) <;> intro hc) | refine blk_exit_id ?_)
              exact lp_next (j + 1, n) (Wk.sub' (by simp [subT, look]) rfl) ⟨by simp only []; omega, by simp only []; omega, hal, by simp only []; omega, fun h => by simp only [] at h; omega, fun h => by rw [hv]; have := hn3 (by omega); omega⟩ (by simp only []; omega)
          · have hE := n1 hd0 (bad_mem (j := j - 0) (by rw [edr, preK, List.getElem?_drop, show 0 + (j - 0) = j by omega]; exact e1) hdg)
            have hdg' : ¬ (48 ≤ c.toNat ∧ c.toNat ≤ 57) := fun h => hdg (dig_iff.2 h)
            by_cases b0 : (c.toNat : Int) < 48
            · skip
              have hc := Nat.zero_add 0
              repeat' (first | simp only [hc, SX, e1, hlt, nn, b0, AB, PL, RG, LP, TY, simprocAttr, ↓reduceIte, forall_const, eq_self, ne_eq, Option.some.injEq, beq_self_eq_true] | ((first | apply fin_ndec | apply fin_dec | apply cnd_ndec | apply cnd_dec' | apply fin_nsplit | apply fin_split | apply cnd_nsplit | apply cnd_split) <;> intro hc) | refine blk_exit_id ?_)
              all_goals simp [hE, DV.i]
            · have b2 : ((57 : Int) < (c.toNat : Int)) = True := eq_true (by omega)
              have hc := Nat.zero_add 0
              repeat' (first | simp only [hc, SX, e1, hlt, nn, b0, b2, AB, PL, RG, LP, TY, simprocAttr, ↓reduceIte, forall_const, eq_self, ne_eq, Option.some.injEq, beq_self_eq_true] | ((first | apply fin_ndec | apply fin_dec | apply cnd_ndec | apply cnd_dec' | apply fin_nsplit | apply fin_split | apply cnd_nsplit | apply cnd_split) <;> intro hc) | refine blk_exit_id ?_)
              all_goals simp [hE, DV.i]
        · have hlt : ((j : Int) < (s.length : Int)) = False := eq_false (by omega)
          rw [List.take_of_length_le (by omega), ← edr] at hout hn2 hn3
          by_cases hbig : 2147483648 < n
          · have hE := n3 hok hout (hn3 hbig)
            have b1 : ((2147483648 : Int) < (n : Int)) = True := eq_true (by omega)
            have hc := Nat.zero_add 0
            repeat' (first | simp only [hc, SX, hlt, b1, AB, PL, RG, LP, TY, simprocAttr, ↓reduceIte, forall_const, eq_self, ne_eq, Option.some.injEq, beq_self_eq_true] | ((first | apply fin_ndec | apply fin_dec | apply cnd_ndec | apply cnd_dec' | apply fin_nsplit | apply fin_split | apply cnd_nsplit | apply cnd_split) <;> intro hc) | refine blk_exit_id ?_)
            all_goals simp [hE, DV.i]
          · have hnv := hn2 (by omega)
            have b1 : ((2147483648 : Int) < (n : Int)) = False := eq_false (by omega)
            have hE := n4 hok hout (by omega) rfl
            have hc := Nat.zero_add 0
            repeat' (first | simp only [hc, SX, hlt, b1, AB, PL, RG, LP, TY, simprocAttr, ↓reduceIte, forall_const, eq_self, ne_eq, Option.some.injEq, beq_self_eq_true] | ((first | apply fin_ndec | apply fin_dec | apply cnd_ndec | apply cnd_dec' | apply fin_nsplit | apply fin_split | apply cnd_nsplit | apply cnd_split) <;> intro hc) | refine blk_exit_id ?_)
            all_goals simp [hE, DV.i, ← hnv]
  · cases h

end Go.Ab
