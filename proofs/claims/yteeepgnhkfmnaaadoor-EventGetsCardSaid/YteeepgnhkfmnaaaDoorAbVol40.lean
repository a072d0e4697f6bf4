/-
  Texts of the layer and of the laws, put together: AbF28, AbF29, AbF30. No law is stated here.
-/
import Derived.Test.YteeepgnhkfmnaaaDoorAbVol39
set_option linter.unusedSimpArgs false
set_option linter.unusedVariables false
set_option maxRecDepth 100000

/-
  The reference's decoder of numbers: plain.
-/
namespace Go.Ab
open Go.RowKit Go.Proofs

/-- How many bytes a number takes, from the i-th on. -/
def grpG (i : Nat) : List UInt8 → Nat
  | [] => 0
  | c :: r => if 10 ≤ i then 0 else if c.toNat < 128 then i + 1 else grpG (i + 1) r
def hornr : List UInt8 → Nat
  | [] => 0
  | c :: r => 128 * hornr r + c.toNat % 128
theorem grpG_bd : ∀ {l : List UInt8} {i : Nat}, grpG i l ≠ 0 → i < grpG i l ∧ grpG i l ≤ i + l.length ∧ (i < 10 → grpG i l ≤ 10)
  | [], i, h => absurd rfl h
  | c :: r, i, h => by
    rw [grpG] at h ⊢
    split at h
    · exact absurd rfl h
    · rename_i h1
      rw [if_neg h1]
      split at h
      · rename_i h2
        rw [if_pos h2, List.length_cons]
        omega
      · rename_i h2
        rw [if_neg h2, List.length_cons]
        have := grpG_bd h
        have h3 : 10 ≤ i + 1 → grpG (i + 1) r = 0 := fun h3 => by
          cases r with
          | nil => rfl
          | cons d r => rw [grpG, if_pos h3]
        by_cases h4 : 10 ≤ i + 1
        · exact absurd (h3 h4) h
        · omega
theorem hornr_lt : ∀ l : List UInt8, hornr l < 128 ^ l.length
  | [] => by simp [hornr]
  | c :: r => by
    have := hornr_lt r
    rw [hornr, List.length_cons, Nat.pow_succ]
    omega
theorem hornr_app : ∀ (a b : List UInt8), hornr (a ++ b) = hornr a + 128 ^ a.length * hornr b
  | [], b => by simp [hornr]
  | c :: a, b => by
    rw [List.cons_append, hornr, hornr, hornr_app a b, List.length_cons, Nat.pow_succ, Nat.mul_add, Nat.mul_comm (128 ^ a.length) 128, Nat.mul_assoc]
    omega
theorem hornr_drop : ∀ (l : List UInt8) (m : Nat), hornr (l.drop m) ≤ hornr l
  | l, 0 => Nat.le_refl _
  | [], m + 1 => Nat.le_refl _
  | c :: r, m + 1 => by
    rw [List.drop_succ_cons, hornr]
    have := hornr_drop r m
    omega
/-- A number decoded: by the number of its bytes. -/
def bytG (k : Nat) (c : Nat) : Bool := (decide (k = 10) && decide (1 < c)) || (decide (1 < k) && decide (c = 0))
theorem numG_grp : ∀ {l : List UInt8} {i acc : Nat}, i ≤ 9 → numG i acc l = if grpG i l = 0 then .error (if l.length < 10 - i then 7 else 5)
    else if bytG (grpG i l) (l.getD (grpG i l - 1 - i) 0).toNat = true then .error 5 else .ok (acc + 2 ^ (7 * i) * hornr (l.take (grpG i l - i)), grpG i l)
  | [], i, acc, hi => by
    rw [numG, grpG, if_pos rfl, if_pos (by simp; omega)]
  | c :: r, i, acc, hi => by
    rw [numG, grpG, if_neg (by omega : ¬ 10 ≤ i)]
    have hc := c.toNat_lt
    by_cases hlo : c.toNat < 128
    · rw [if_pos hlo, if_neg (by omega : ¬ i + 1 = 0), show i + 1 - 1 - i = 0 by omega, List.getD_cons_zero, show i + 1 - i = 0 + 1 by omega, List.take_succ_cons, List.take_zero]
      rw [hornr, hornr, if_neg (by omega : ¬ 128 ≤ c.toNat)]
      unfold bytG
      by_cases h9 : i = 9 ∧ 1 < c.toNat
      · rw [if_pos h9, if_pos (by simp; omega)]
      · rw [if_neg h9]
        by_cases h0 : 0 < i ∧ c.toNat = 0
        · rw [if_pos h0, if_pos (by simp; omega)]
        · rw [if_neg h0, if_neg (by simp; omega), Nat.mul_zero, Nat.zero_add, Nat.mul_comm]
    · rw [if_neg hlo]
      by_cases h9 : i = 9
      · subst h9
        have hg : grpG (9 + 1) r = 0 := by
          cases r with
          | nil => rfl
          | cons d r => rw [grpG, if_pos (by omega)]
        rw [if_pos ⟨rfl, by omega⟩, hg, if_pos rfl, if_neg (by rw [List.length_cons]; omega)]
      · rw [if_neg (by omega), if_pos (by omega), numG_grp (by omega)]
        by_cases hg : grpG (i + 1) r = 0
        · rw [if_pos hg, if_pos hg]
          congr 2
          rw [List.length_cons]
          simp only [eq_iff_iff]
          omega
        · rw [if_neg hg, if_neg hg]
          have hb := grpG_bd hg
          rw [show grpG (i + 1) r - 1 - i = (grpG (i + 1) r - 1 - (i + 1)) + 1 by omega, List.getD_cons_succ, show grpG (i + 1) r - i = (grpG (i + 1) r - (i + 1)) + 1 by omega, List.take_succ_cons, hornr]
          congr 3
          rw [show 7 * (i + 1) = 7 * i + 7 by omega, Nat.pow_add, show (2 : Nat) ^ 7 = 128 by decide, Nat.mul_add, ← Nat.mul_assoc, Nat.mul_comm (c.toNat % 128), Nat.add_assoc, Nat.add_comm (2 ^ (7 * i) * (c.toNat % 128))]
theorem decI_grp {b : List UInt8} {p : Int} (h0 : 0 ≤ p) (h1 : p ≤ b.length) : decI b p = if grpG 0 (b.drop p.toNat) = 0 then ((0, 0, if (b.length : Int) - p < 10 then 7 else 5) : Int × Int × Int)
    else if bytG (grpG 0 (b.drop p.toNat)) ((b.drop p.toNat).getD (grpG 0 (b.drop p.toNat) - 1) 0).toNat = true then (0, 0, 5)
    else (valI (hornr ((b.drop p.toNat).take (grpG 0 (b.drop p.toNat)))), (p.toNat + grpG 0 (b.drop p.toNat) : Nat), 0) := by
  unfold decI
  rw [if_neg (by omega), numG_grp (by omega)]
  simp only [Nat.sub_zero, Nat.mul_zero, Nat.pow_zero, Nat.one_mul, Nat.zero_add, List.length_drop]
  split
  · rename_i e h
    split at h
    · rename_i hg
      rw [if_pos hg]
      cases h
      congr 3
      simp only [eq_iff_iff]
      omega
    · rename_i hg
      rw [if_neg hg]
      split at h
      · rename_i hb
        rw [if_pos hb]
        cases h
        rfl
      · cases h
  · rename_i u k h
    split at h
    · cases h
    · rename_i hg
      rw [if_neg hg]
      split at h
      · cases h
      · rename_i hb
        rw [if_neg hb]
        cases h
        rfl
/-- A number that has its bytes is no longer than 64 bits. -/
theorem hornr_64 {l : List UInt8} {k : Nat} (h1 : l.length = k) (h2 : k ≠ 0) (h3 : k ≤ 10) (h4 : bytG k (l.getD (k - 1) 0).toNat = false) : hornr l ≤ 18446744073709551615 := by
  by_cases hk : k = 10
  · subst hk
    obtain ⟨a, c, rfl⟩ : ∃ a c, l = a ++ [c] := by
      have hne : l ≠ [] := by intro e; rw [e] at h1; cases h1
      exact ⟨l.dropLast, l.getLast hne, (List.dropLast_concat_getLast hne).symm⟩
    have ha : a.length = 9 := by rw [List.length_append, List.length_singleton] at h1; omega
    rw [show (10 : Nat) - 1 = a.length by omega, List.getD_eq_getElem?_getD, List.getElem?_append_right (Nat.le_refl _), Nat.sub_self, List.getElem?_cons_zero, Option.getD_some] at h4
    have hc : c.toNat ≤ 1 := by
      unfold bytG at h4
      simp at h4
      omega
    have h5 := hornr_lt a
    rw [ha] at h5
    rw [hornr_app, ha, hornr, hornr]
    have e9 : (128 : Nat) ^ 9 = 9223372036854775808 := by decide
    rw [e9] at h5 ⊢
    have : c.toNat % 128 ≤ 1 := by omega
    have : 9223372036854775808 * (128 * 0 + c.toNat % 128) ≤ 9223372036854775808 := by omega
    omega
  · have h5 := hornr_lt l
    have h6 : 128 ^ l.length ≤ 128 ^ 9 := Nat.pow_le_pow_right (by decide) (by omega)
    have e9 : (128 : Nat) ^ 9 = 9223372036854775808 := by decide
    omega

end Go.Ab

/-
  The reference's decoder of numbers: groups, Int.
-/
namespace Go.Ab
open Go.RowKit Go.Proofs

theorem grpG_step {l : List UInt8} {i : Nat} (h : i < 10) : grpG i l = match l with | [] => 0 | c :: r => if c.toNat < 128 then i + 1 else grpG (i + 1) r := by
  cases l with
  | nil => rfl
  | cons c r => rw [grpG, if_neg (by omega)]

noncomputable section
open Classical

def r2grp_m : List PA → Option (List PA) := mE encBI fun p => if p.1.2.length ≤ 1000000 ∧ 0 ≤ p.2 ∧ p.2 ≤ p.1.2.length then some [.i (grpG 0 (p.1.2.drop p.2.toNat))] else none
theorem r2grp_ok : PureC Tryd.prog Gt 74 r2grp_m := by
  refine pure_of_awpS (X := ctx Tryd.prog Gt []) Tryd.func74 rfl rfl (by kernel_rfl) (by kernel_rfl) AllOk.nil.kok ?_
  intro args r h0
  obtain ⟨⟨⟨f, b⟩, p⟩, rfl, h⟩ := mE_inv h0
  refine ⟨Nat.le_of_ble_eq_true rfl, ?_⟩
  split at h
  · rename_i hn
    obtain ⟨h1, h2, h3⟩ := hn
    dsimp only at h1 h2 h3
    obtain ⟨n, rfl⟩ : ∃ n : Nat, p = (n : Int) := ⟨p.toNat, by omega⟩
    simp only [Option.some.injEq, Int.toNat_natCast] at h
    have l1 := @lenB b
    generalize hG : grpG 0 (b.drop n) = G at *
    subst h
    have hc := Nat.zero_add 0
    repeat' (first | simp only [hc, AS, Tryd.f74, encBI, SX, AB, PL, RG, LP, TY, simprocAttr, ↓reduceIte, forall_const, eq_self, ne_eq, Option.some.injEq, beq_self_eq_true] | ((first | apply fin_ndec | apply fin_dec | apply cnd_ndec | apply cnd_dec' | apply fin_nsplit | apply fin_split | apply cnd_nsplit | apply cnd_split) <;> intro hc) | refine seqS_id ?_ | refine blk_exit_id ?_)
    refine awpS_loop (σ := Nat) (fun i => i ≤ 10 ∧ n + i ≤ b.length ∧ grpG i (b.drop (n + i)) = G) (fun i => ⟨[(5, AV.i i), (1, AV.i n), (0, .v (.c (.d (.sl f (b.map rowB)))))], []⟩) (fun i => 10 - i) 0 (Wk.sub' (by simp [subT, look]) rfl) ⟨by omega, by omega, by simpa using hG⟩ ?_
    rintro i ⟨hi, hni, hg⟩
    by_cases c1 : i < 10
    · have c1' : ((i : Int) < 10) = True := eq_true (by omega)
      have w1 : IntKind.i64.wrap ((n : Int) + i) = ((n + i : Nat) : Int) := by rw [wI (by omega) (by omega)]; omega
      rw [grpG_step c1] at hg
      by_cases c2 : n + i < b.length
      · have c2' : (((n + i : Nat) : Int) < (b.length : Int)) = True := eq_true (by omega)
        have w2 : IntKind.i64.wrap ((i : Int) + 1) = ((i + 1 : Nat) : Int) := by rw [wI (by omega) (by omega)]; omega
        have e1 := b_at c2
        rw [List.drop_eq_getElem_cons c2] at hg
        dsimp only at hg
        generalize b[n + i] = c at *
        by_cases c3 : c.toNat < 128
        · have c3' : ((c.toNat : Int) < 128) = True := eq_true (by omega)
          rw [if_pos c3] at hg
          subst hg
          have hc := Nat.zero_add 0
          repeat' (first | simp only [hc, AS, SX, l1, c1', c2', c3', w1, w2, e1, nn, Int.toNat_natCast, AB, PL, RG, LP, TY, simprocAttr, ↓reduceIte, forall_const, eq_self, ne_eq, Option.some.injEq, beq_self_eq_true] | ((first | apply fin_ndec | apply fin_dec | apply cnd_ndec | apply cnd_dec' | apply fin_nsplit | apply fin_split | apply cnd_nsplit | apply cnd_split) <;> intro hc) | refine seqS_id ?_ | refine blk_exit_id ?_)
          all_goals rfl
        · have c3' : ((c.toNat : Int) < 128) = False := eq_false (by omega)
          rw [if_neg c3] at hg
          have hc := Nat.zero_add 0
          repeat' (first | simp only [hc, AS, SX, l1, c1', c2', c3', w1, w2, e1, nn, Int.toNat_natCast, AB, PL, RG, LP, TY, simprocAttr, ↓reduceIte, forall_const, eq_self, ne_eq, Option.some.injEq, beq_self_eq_true] | ((first | apply fin_ndec | apply fin_dec | apply cnd_ndec | apply cnd_dec' | apply fin_nsplit | apply fin_split | apply cnd_nsplit | apply cnd_split) <;> intro hc) | refine seqS_id ?_ | refine blk_exit_id ?_)
          exact lp_next (i + 1) (Wk.sub' (by simp [subT, look]) rfl) ⟨by omega, by omega, hg⟩ (by omega)
      · have c2' : (((n + i : Nat) : Int) < (b.length : Int)) = False := eq_false (by omega)
        rw [List.drop_eq_nil_of_le (by omega)] at hg
        subst hg
        have hc := Nat.zero_add 0
        repeat' (first | simp only [hc, AS, SX, l1, c1', c2', w1, AB, PL, RG, LP, TY, simprocAttr, ↓reduceIte, forall_const, eq_self, ne_eq, Option.some.injEq, beq_self_eq_true] | ((first | apply fin_ndec | apply fin_dec | apply cnd_ndec | apply cnd_dec' | apply fin_nsplit | apply fin_split | apply cnd_nsplit | apply cnd_split) <;> intro hc) | refine seqS_id ?_ | refine blk_exit_id ?_)
        all_goals rfl
    · have c1' : ((i : Int) < 10) = False := eq_false (by omega)
      have hz : grpG i (b.drop (n + i)) = 0 := by
        cases b.drop (n + i) with
        | nil => rfl
        | cons c r => rw [grpG, if_pos (by omega)]
      rw [hz] at hg
      subst hg
      have hc := Nat.zero_add 0
      repeat' (first | simp only [hc, AS, SX, l1, c1', AB, PL, RG, LP, TY, simprocAttr, ↓reduceIte, forall_const, eq_self, ne_eq, Option.some.injEq, beq_self_eq_true] | ((first | apply fin_ndec | apply fin_dec | apply cnd_ndec | apply cnd_dec' | apply fin_nsplit | apply fin_split | apply cnd_nsplit | apply cnd_split) <;> intro hc) | refine seqS_id ?_ | refine blk_exit_id ?_)
      all_goals rfl
  · cases h
theorem r2grp_at {f : Bool} {b : List UInt8} {n : Int} (h1 : b.length ≤ 1000000) (h2 : 0 ≤ n) (h3 : n ≤ b.length) : r2grp_m [.c (.sl f (b.map rowB)), .c (.int .i64 n)] = some [.i (grpG 0 (b.drop n.toNat))] := by
  have := mE_eq encBI_inj (g := fun p => if p.1.2.length ≤ 1000000 ∧ 0 ≤ p.2 ∧ p.2 ≤ p.1.2.length then some [DV.i (grpG 0 (p.1.2.drop p.2.toNat))] else none) (a := ((f, b), n))
  exact this.trans (if_pos ⟨h1, h2, h3⟩)

end
end Go.Ab

/-
  The reference's decoder: Int, Text.
-/
namespace Go.Ab
open Go.RowKit Go.Proofs

noncomputable section
open Classical

def r2int_m : List PA → Option (List PA) := mE encBI fun p => if p.1.2.length ≤ 1000000 then some [.i (decI p.1.2 p.2).1, .i (decI p.1.2 p.2).2.1, .i (decI p.1.2 p.2).2.2] else none
def r2txt_m : List PA → Option (List PA) := mE encBI fun p => if p.1.2.length ≤ 1000000 then some [.s (decT p.1.2 p.2).1, .i (decT p.1.2 p.2).2.1, .i (decT p.1.2 p.2).2.2] else none

set_option maxHeartbeats 1000000 in
theorem r2int_ok : PureC Tryd.prog Gt 63 r2int_m := by
  refine pure_of_awpS (X := ctx Tryd.prog Gt [(74, r2grp_m)]) Tryd.func63 rfl rfl (by kernel_rfl) (by kernel_rfl) (AllOk.cons r2grp_ok AllOk.nil).kok ?_
  intro args r h0
  obtain ⟨⟨⟨f, b⟩, p⟩, rfl, h⟩ := mE_inv h0
  refine ⟨Nat.le_of_ble_eq_true rfl, ?_⟩
  split at h
  · rename_i hb
    dsimp only at hb
    simp only [Option.some.injEq] at h
    have l1 := @lenB b
    by_cases c1 : p < 0
    · have c1' := eq_true c1
      have hD : decI b p = (0, 0, 2) := if_pos (.inl c1)
      rw [hD] at h
      subst h
      have hc := Nat.zero_add 0
      repeat' (first | simp only [hc, AS, Tryd.f63, encBI, SX, l1, c1', AB, PL, RG, LP, TY, simprocAttr, ↓reduceIte, forall_const, eq_self, ne_eq, Option.some.injEq, beq_self_eq_true] | ((first | apply fin_ndec | apply fin_dec | apply cnd_ndec | apply cnd_dec' | apply fin_nsplit | apply fin_split | apply cnd_nsplit | apply cnd_split) <;> intro hc) | refine seqS_id ?_ | refine blk_exit_id ?_)
      all_goals rfl
    have c1' := eq_false c1
    by_cases c2 : p > (b.length : Int)
    · have c2' := eq_true c2
      have hD : decI b p = (0, 0, 2) := if_pos (.inr c2)
      rw [hD] at h
      subst h
      have hc := Nat.zero_add 0
      repeat' (first | simp only [hc, AS, Tryd.f63, encBI, SX, l1, c1', c2', AB, PL, RG, LP, TY, simprocAttr, ↓reduceIte, forall_const, eq_self, ne_eq, Option.some.injEq, beq_self_eq_true] | ((first | apply fin_ndec | apply fin_dec | apply cnd_ndec | apply cnd_dec' | apply fin_nsplit | apply fin_split | apply cnd_nsplit | apply cnd_split) <;> intro hc) | refine seqS_id ?_ | refine blk_exit_id ?_)
      all_goals rfl
    have c2' := eq_false c2
    have hD := decI_grp (b := b) (p := p) (by omega) (by omega)
    have g1 := r2grp_at (f := f) (b := b) (n := p) hb (by omega) (by omega)
    obtain ⟨n, rfl⟩ : ∃ n : Nat, p = (n : Int) := ⟨p.toNat, by omega⟩
    rw [Int.toNat_natCast] at hD g1
    have hgb := @grpG_bd (b.drop n) 0
    rw [List.length_drop] at hgb
    have w1 := wI (n := (b.length : Int) - n) (by omega) (by omega)
    generalize hG : grpG 0 (b.drop n) = G at *
    by_cases hg0 : G = 0
    · subst hg0
      rw [if_pos rfl] at hD
      by_cases c3 : (b.length : Int) - n < 10
      · have c3' := eq_true c3
        rw [if_pos c3] at hD
        rw [hD] at h
        subst h
        have hc := Nat.zero_add 0
        repeat' (first | simp only [hc, AS, Tryd.f63, encBI, SX, l1, c1', c2', g1, w1, c3', AB, PL, RG, LP, TY, simprocAttr, ↓reduceIte, forall_const, eq_self, ne_eq, Option.some.injEq, beq_self_eq_true] | ((first | apply fin_ndec | apply fin_dec | apply cnd_ndec | apply cnd_dec' | apply fin_nsplit | apply fin_split | apply cnd_nsplit | apply cnd_split) <;> intro hc) | refine seqS_id ?_ | refine blk_exit_id ?_)
        all_goals rfl
      · have c3' := eq_false c3
        rw [if_neg c3] at hD
        rw [hD] at h
        subst h
        have hc := Nat.zero_add 0
        repeat' (first | simp only [hc, AS, Tryd.f63, encBI, SX, l1, c1', c2', g1, w1, c3', AB, PL, RG, LP, TY, simprocAttr, ↓reduceIte, forall_const, eq_self, ne_eq, Option.some.injEq, beq_self_eq_true] | ((first | apply fin_ndec | apply fin_dec | apply cnd_ndec | apply cnd_dec' | apply fin_nsplit | apply fin_split | apply cnd_nsplit | apply cnd_split) <;> intro hc) | refine seqS_id ?_ | refine blk_exit_id ?_)
        all_goals rfl
    rw [if_neg hg0] at hD
    obtain ⟨_, hg1, hg2⟩ := hgb hg0
    have hg2 := hg2 (by omega)
    have z0 : ((G : Int) = 0) = False := eq_false (by omega)
    have hlast : (b.drop n).getD (G - 1) 0 = b.getD (n + (G - 1)) 0 := by simp only [List.getD_eq_getElem?_getD, List.getElem?_drop]
    have hbl : n + (G - 1) < b.length := by omega
    have e1 := b_at hbl
    have hgd : b.getD (n + (G - 1)) 0 = b[n + (G - 1)] := by rw [List.getD_eq_getElem?_getD, List.getElem?_eq_getElem hbl]; rfl
    have h64 := @hornr_64 ((b.drop n).take G) G (by rw [List.length_take, List.length_drop]; omega) hg0 hg2
    have hlt : ((b.drop n).take G).getD (G - 1) 0 = (b.drop n).getD (G - 1) 0 := by simp only [List.getD_eq_getElem?_getD]; rw [List.getElem?_take_of_lt (by omega)]
    rw [hlt, hlast, hgd] at h64
    rw [hlast, hgd] at hD
    have w2 : IntKind.i64.wrap ((n : Int) + 9) = (n : Int) + 9 := wI (by omega) (by omega)
    have w3 : IntKind.i64.wrap ((n : Int) + G) = ((n + G : Nat) : Int) := by rw [wI (by omega) (by omega)]; omega
    have w4 : IntKind.i64.wrap (((n + G : Nat) : Int) - 1) = ((n + (G - 1) : Nat) : Int) := by rw [wI (by omega) (by omega)]; omega
    have w5 : IntKind.i64.wrap ((G : Int) - 1) = (G : Int) - 1 := wI (by omega) (by omega)
    generalize hc : b[n + (G - 1)] = c at *
    have hcl := c.toNat_lt
    have e9 : G = 10 → (n : Int) + 9 = ((n + (G - 1) : Nat) : Int) := fun e => by omega
    by_cases hbad : bytG G c.toNat = true
    · rw [if_pos hbad] at hD
      rw [hD] at h
      subst h
      unfold bytG at hbad
      simp only [Bool.or_eq_true, Bool.and_eq_true, decide_eq_true_eq] at hbad
      by_cases d1 : G = 10
      · have d1' : ((G : Int) = 10) = True := eq_true (by omega)
        have w2 := w2.trans (e9 d1)
        have d0 : ((G : Int) > 1) = True := eq_true (by omega)
        by_cases d2 : 1 < c.toNat
        · have d2' : ((c.toNat : Int) > 1) = True := eq_true (by omega)
          have hc := Nat.zero_add 0
          repeat' (first | simp only [hc, AS, Tryd.f63, encBI, SX, l1, c1', c2', g1, z0, d1', w2, e1, d2', nn, Int.toNat_natCast, AB, PL, RG, LP, TY, simprocAttr, ↓reduceIte, forall_const, eq_self, ne_eq, Option.some.injEq, beq_self_eq_true] | ((first | apply fin_ndec | apply fin_dec | apply cnd_ndec | apply cnd_dec' | apply fin_nsplit | apply fin_split | apply cnd_nsplit | apply cnd_split) <;> intro hc) | refine seqS_id ?_ | refine blk_exit_id ?_)
          all_goals rfl
        · have d2' : ((c.toNat : Int) > 1) = False := eq_false (by omega)
          have d3' : ((c.toNat : Int) = 0) = True := eq_true (by omega)
          have hc := Nat.zero_add 0
          repeat' (first | simp only [hc, AS, Tryd.f63, encBI, SX, l1, c1', c2', g1, z0, d1', w2, e1, d2', d0, w3, w4, d3', nn, Int.toNat_natCast, AB, PL, RG, LP, TY, simprocAttr, ↓reduceIte, forall_const, eq_self, ne_eq, Option.some.injEq, beq_self_eq_true] | ((first | apply fin_ndec | apply fin_dec | apply cnd_ndec | apply cnd_dec' | apply fin_nsplit | apply fin_split | apply cnd_nsplit | apply cnd_split) <;> intro hc) | refine seqS_id ?_ | refine blk_exit_id ?_)
          all_goals rfl
      · have d1' : ((G : Int) = 10) = False := eq_false (by omega)
        have d0 : ((G : Int) > 1) = True := eq_true (by omega)
        have d3' : ((c.toNat : Int) = 0) = True := eq_true (by omega)
        have hc := Nat.zero_add 0
        repeat' (first | simp only [hc, AS, Tryd.f63, encBI, SX, l1, c1', c2', g1, z0, d1', e1, d0, w3, w4, d3', nn, Int.toNat_natCast, AB, PL, RG, LP, TY, simprocAttr, ↓reduceIte, forall_const, eq_self, ne_eq, Option.some.injEq, beq_self_eq_true] | ((first | apply fin_ndec | apply fin_dec | apply cnd_ndec | apply cnd_dec' | apply fin_nsplit | apply fin_split | apply cnd_nsplit | apply cnd_split) <;> intro hc) | refine seqS_id ?_ | refine blk_exit_id ?_)
        all_goals rfl
    · rw [if_neg hbad] at hD
      rw [Bool.not_eq_true] at hbad
      have h64 := h64 hbad
      rw [hD] at h
      clear hD
      unfold bytG at hbad
      simp only [Bool.or_eq_false_iff, Bool.and_eq_false_iff, decide_eq_false_iff_not] at hbad
      have hL : ∀ i, i < G → ((b.drop n).take G)[i]? = b[n + i]? := fun i hi => by rw [List.getElem?_take_of_lt hi, List.getElem?_drop]
      have hLl : ((b.drop n).take G).length = G := by rw [List.length_take, List.length_drop]; omega
      generalize (b.drop n).take G = L at *
      have hLz : L.drop G = [] := List.drop_eq_nil_of_le (by omega)
      have hLz : hornr (L.drop G) = 0 := by rw [hLz]; rfl
      by_cases d1 : G = 10
      · have d1' : ((G : Int) = 10) = True := eq_true (by omega)
        have w2 := w2.trans (e9 d1)
        have d0 : ((G : Int) > 1) = True := eq_true (by omega)
        have d2' : ((c.toNat : Int) > 1) = False := eq_false (by omega)
        have d3' : ((c.toNat : Int) = 0) = False := eq_false (by omega)
        have hc := Nat.zero_add 0
        repeat' (first | simp only [hc, AS, Tryd.f63, encBI, SX, l1, c1', c2', g1, z0, d1', w2, e1, d2', d0, w3, w4, w5, d3', nn, Int.toNat_natCast, AB, PL, RG, LP, TY, simprocAttr, ↓reduceIte, forall_const, eq_self, ne_eq, Option.some.injEq, beq_self_eq_true] | ((first | apply fin_ndec | apply fin_dec | apply cnd_ndec | apply cnd_dec' | apply fin_nsplit | apply fin_split | apply cnd_nsplit | apply cnd_split) <;> intro hc) | refine seqS_id ?_ | refine blk_exit_id ?_)
        refine awpS_loop (σ := Nat) (fun m => m ≤ G) (fun m => ⟨[(9, AV.i ((m : Int) - 1)), (8, .v (.c (.d (.int .u64 (hornr (L.drop m)))))), (7, AV.i G), (1, AV.i n), (0, .v (.c (.d (.sl f (b.map rowB)))))], []⟩) (fun m => m) G (Wk.sub' (by simp [subT, look, hLz]) rfl) (Nat.le_refl _) ?_
        intro m hm
        by_cases hm0 : m = 0
        · subst hm0
          have k1 : (((0 : Nat) : Int) - 1 ≥ 0) = False := eq_false (by omega)
          rw [List.drop_zero]
          generalize hornr L = u at *
          have k2 := tm2 u
          have k3 := td2 u
          have k3' := eU64 (n := ((u / 2 : Nat) : Int)) (by omega) (by omega)
          have k2' := eU64 (n := ((u % 2 : Nat) : Int)) (by omega) (by omega)
          have k4 := wI (n := ((u / 2 : Nat) : Int)) (by omega) (by omega)
          by_cases ho : u % 2 = 1
          · have ho' : (((u % 2 : Nat) : Int) = 1) = True := eq_true (by omega)
            have hv : valI u = -((u / 2 : Nat) : Int) - 1 := if_pos ho
            rw [hv] at h
            have k5 : IntKind.i64.wrap (-((u / 2 : Nat) : Int)) = -((u / 2 : Nat) : Int) := wI (by omega) (by omega)
            have k5' : IntKind.i64.wrap (0 - ((u / 2 : Nat) : Int)) = -((u / 2 : Nat) : Int) := by rw [wI (by omega) (by omega)]; omega
            have k6 : IntKind.i64.wrap (-((u / 2 : Nat) : Int) - 1) = -((u / 2 : Nat) : Int) - 1 := wI (by omega) (by omega)
            have hc := Nat.zero_add 0
            repeat' (first | simp only [hc, AS, SX, k1, k2, k2', k3, k3', k4, k5, k5', k6, ho', w3, AB, PL, RG, LP, TY, simprocAttr, ↓reduceIte, forall_const, eq_self, ne_eq, Option.some.injEq, beq_self_eq_true] | ((first | apply fin_ndec | apply fin_dec | apply cnd_ndec | apply cnd_dec' | apply fin_nsplit | apply fin_split | apply cnd_nsplit | apply cnd_split) <;> intro hc) | refine seqS_id ?_ | refine blk_exit_id ?_)
            all_goals (rw [← h]; try rfl)
          · have ho' : (((u % 2 : Nat) : Int) = 1) = False := eq_false (by omega)
            have hv : valI u = ((u / 2 : Nat) : Int) := if_neg ho
            rw [hv] at h
            have hc := Nat.zero_add 0
            repeat' (first | simp only [hc, AS, SX, k1, k2, k2', k3, k3', k4, ho', w3, AB, PL, RG, LP, TY, simprocAttr, ↓reduceIte, forall_const, eq_self, ne_eq, Option.some.injEq, beq_self_eq_true] | ((first | apply fin_ndec | apply fin_dec | apply cnd_ndec | apply cnd_dec' | apply fin_nsplit | apply fin_split | apply cnd_nsplit | apply cnd_split) <;> intro hc) | refine seqS_id ?_ | refine blk_exit_id ?_)
            all_goals (rw [← h]; try rfl)
        · obtain ⟨q, rfl⟩ : ∃ q, m = q + 1 := ⟨m - 1, by omega⟩
          have hq : L[q]? = some b[n + q] := by rw [hL q (by omega), List.getElem?_eq_getElem (by omega)]
          have hdr : hornr (L.drop q) = 128 * hornr (L.drop (q + 1)) + b[n + q].toNat % 128 := by
            have hql : q < L.length := by omega
            rw [List.getElem?_eq_getElem hql, Option.some.injEq] at hq
            rw [List.drop_eq_getElem_cons hql, hornr, hq]
          have hle := hornr_drop L q
          have e2 := b_at (s := b) (j := n + q) (by omega)
          generalize b[n + q] = x at *
          have hx := x.toNat_lt
          generalize hornr (L.drop (q + 1)) = u at *
          have k1 : (((q + 1 : Nat) : Int) - 1 ≥ 0) = True := eq_true (by omega)
          have k2 : IntKind.i64.wrap ((n : Int) + (((q + 1 : Nat) : Int) - 1)) = ((n + q : Nat) : Int) := by rw [wI (by omega) (by omega)]; omega
          have k3 : IntKind.i64.wrap (((q + 1 : Nat) : Int) - 1 - 1) = (q : Int) - 1 := by rw [wI (by omega) (by omega)]; omega
          have k4 := tm128 x.toNat
          have k5 : IntKind.u64.wrap (128 * (u : Int)) = ((128 * u : Nat) : Int) := by rw [eU64 (by omega) (by omega)]; omega
          have k6 : IntKind.u64.wrap (((128 * u : Nat) : Int) + ((x.toNat % 128 : Nat) : Int)) = ((hornr (L.drop q) : Nat) : Int) := by rw [hdr, eU64 (by omega) (by omega)]; omega
          have k7 := eU8 (n := ((x.toNat % 128 : Nat) : Int)) (by omega) (by omega)
          have k8 := eU64 (n := ((x.toNat % 128 : Nat) : Int)) (by omega) (by omega)
          have hc := Nat.zero_add 0
          repeat' (first | simp only [hc, AS, SX, k1, k2, k3, k4, k5, k6, k7, k8, e2, nn, Int.toNat_natCast, AB, PL, RG, LP, TY, simprocAttr, ↓reduceIte, forall_const, eq_self, ne_eq, Option.some.injEq, beq_self_eq_true] | ((first | apply fin_ndec | apply fin_dec | apply cnd_ndec | apply cnd_dec' | apply fin_nsplit | apply fin_split | apply cnd_nsplit | apply cnd_split) <;> intro hc) | refine seqS_id ?_ | refine blk_exit_id ?_)
          exact lp_next q (Wk.sub' (by simp [subT, look]) rfl) (by omega) (by omega)
      · have d1' : ((G : Int) = 10) = False := eq_false (by omega)
        by_cases d4 : G = 1
        · have d0 : ((G : Int) > 1) = False := eq_false (by omega)
          have hc := Nat.zero_add 0
          repeat' (first | simp only [hc, AS, Tryd.f63, encBI, SX, l1, c1', c2', g1, z0, d1', e1, d0, w3, w4, w5, nn, Int.toNat_natCast, AB, PL, RG, LP, TY, simprocAttr, ↓reduceIte, forall_const, eq_self, ne_eq, Option.some.injEq, beq_self_eq_true] | ((first | apply fin_ndec | apply fin_dec | apply cnd_ndec | apply cnd_dec' | apply fin_nsplit | apply fin_split | apply cnd_nsplit | apply cnd_split) <;> intro hc) | refine seqS_id ?_ | refine blk_exit_id ?_)
          refine awpS_loop (σ := Nat) (fun m => m ≤ G) (fun m => ⟨[(9, AV.i ((m : Int) - 1)), (8, .v (.c (.d (.int .u64 (hornr (L.drop m)))))), (7, AV.i G), (1, AV.i n), (0, .v (.c (.d (.sl f (b.map rowB)))))], []⟩) (fun m => m) G (Wk.sub' (by simp [subT, look, hLz]) rfl) (Nat.le_refl _) ?_
          intro m hm
          by_cases hm0 : m = 0
          · subst hm0
            have k1 : (((0 : Nat) : Int) - 1 ≥ 0) = False := eq_false (by omega)
            rw [List.drop_zero]
            generalize hornr L = u at *
            have k2 := tm2 u
            have k3 := td2 u
            have k3' := eU64 (n := ((u / 2 : Nat) : Int)) (by omega) (by omega)
            have k2' := eU64 (n := ((u % 2 : Nat) : Int)) (by omega) (by omega)
            have k4 := wI (n := ((u / 2 : Nat) : Int)) (by omega) (by omega)
            by_cases ho : u % 2 = 1
            · have ho' : (((u % 2 : Nat) : Int) = 1) = True := eq_true (by omega)
              have hv : valI u = -((u / 2 : Nat) : Int) - 1 := if_pos ho
              rw [hv] at h
              have k5 : IntKind.i64.wrap (-((u / 2 : Nat) : Int)) = -((u / 2 : Nat) : Int) := wI (by omega) (by omega)
              have k5' : IntKind.i64.wrap (0 - ((u / 2 : Nat) : Int)) = -((u / 2 : Nat) : Int) := by rw [wI (by omega) (by omega)]; omega
              have k6 : IntKind.i64.wrap (-((u / 2 : Nat) : Int) - 1) = -((u / 2 : Nat) : Int) - 1 := wI (by omega) (by omega)
              have hc := Nat.zero_add 0
              repeat' (first | simp only [hc, AS, SX, k1, k2, k2', k3, k3', k4, k5, k5', k6, ho', w3, AB, PL, RG, LP, TY, simprocAttr, ↓reduceIte, forall_const, eq_self, ne_eq, Option.some.injEq, beq_self_eq_true] | ((first | apply fin_ndec | apply fin_dec | apply cnd_ndec | apply cnd_dec' | apply fin_nsplit | apply fin_split | apply cnd_nsplit | apply cnd_split) <;> intro hc) | refine seqS_id ?_ | refine blk_exit_id ?_)
              all_goals (rw [← h]; try rfl)
            · have ho' : (((u % 2 : Nat) : Int) = 1) = False := eq_false (by omega)
              have hv : valI u = ((u / 2 : Nat) : Int) := if_neg ho
              rw [hv] at h
              have hc := Nat.zero_add 0
              repeat' (first | simp only [hc, AS, SX, k1, k2, k2', k3, k3', k4, ho', w3, AB, PL, RG, LP, TY, simprocAttr, ↓reduceIte, forall_const, eq_self, ne_eq, Option.some.injEq, beq_self_eq_true] | ((first | apply fin_ndec | apply fin_dec | apply cnd_ndec | apply cnd_dec' | apply fin_nsplit | apply fin_split | apply cnd_nsplit | apply cnd_split) <;> intro hc) | refine seqS_id ?_ | refine blk_exit_id ?_)
              all_goals (rw [← h]; try rfl)
          · obtain ⟨q, rfl⟩ : ∃ q, m = q + 1 := ⟨m - 1, by omega⟩
            have hq : L[q]? = some b[n + q] := by rw [hL q (by omega), List.getElem?_eq_getElem (by omega)]
            have hdr : hornr (L.drop q) = 128 * hornr (L.drop (q + 1)) + b[n + q].toNat % 128 := by
              have hql : q < L.length := by omega
              rw [List.getElem?_eq_getElem hql, Option.some.injEq] at hq
              rw [List.drop_eq_getElem_cons hql, hornr, hq]
            have hle := hornr_drop L q
            have e2 := b_at (s := b) (j := n + q) (by omega)
            generalize b[n + q] = x at *
            have hx := x.toNat_lt
            generalize hornr (L.drop (q + 1)) = u at *
            have k1 : (((q + 1 : Nat) : Int) - 1 ≥ 0) = True := eq_true (by omega)
            have k2 : IntKind.i64.wrap ((n : Int) + (((q + 1 : Nat) : Int) - 1)) = ((n + q : Nat) : Int) := by rw [wI (by omega) (by omega)]; omega
            have k3 : IntKind.i64.wrap (((q + 1 : Nat) : Int) - 1 - 1) = (q : Int) - 1 := by rw [wI (by omega) (by omega)]; omega
            have k4 := tm128 x.toNat
            have k5 : IntKind.u64.wrap (128 * (u : Int)) = ((128 * u : Nat) : Int) := by rw [eU64 (by omega) (by omega)]; omega
            have k6 : IntKind.u64.wrap (((128 * u : Nat) : Int) + ((x.toNat % 128 : Nat) : Int)) = ((hornr (L.drop q) : Nat) : Int) := by rw [hdr, eU64 (by omega) (by omega)]; omega
            have k7 := eU8 (n := ((x.toNat % 128 : Nat) : Int)) (by omega) (by omega)
            have k8 := eU64 (n := ((x.toNat % 128 : Nat) : Int)) (by omega) (by omega)
            have hc := Nat.zero_add 0
            repeat' (first | simp only [hc, AS, SX, k1, k2, k3, k4, k5, k6, k7, k8, e2, nn, Int.toNat_natCast, AB, PL, RG, LP, TY, simprocAttr, ↓reduceIte, forall_const, eq_self, ne_eq, Option.some.injEq, beq_self_eq_true] | ((first | apply fin_ndec | apply fin_dec | apply cnd_ndec | apply cnd_dec' | apply fin_nsplit | apply fin_split | apply cnd_nsplit | apply cnd_split) <;> intro hc) | refine seqS_id ?_ | refine blk_exit_id ?_)
            exact lp_next q (Wk.sub' (by simp [subT, look]) rfl) (by omega) (by omega)
        · have d0 : ((G : Int) > 1) = True := eq_true (by omega)
          have d3' : ((c.toNat : Int) = 0) = False := eq_false (by omega)
          have hc := Nat.zero_add 0
          repeat' (first | simp only [hc, AS, Tryd.f63, encBI, SX, l1, c1', c2', g1, z0, d1', e1, d0, w3, w4, w5, d3', nn, Int.toNat_natCast, AB, PL, RG, LP, TY, simprocAttr, ↓reduceIte, forall_const, eq_self, ne_eq, Option.some.injEq, beq_self_eq_true] | ((first | apply fin_ndec | apply fin_dec | apply cnd_ndec | apply cnd_dec' | apply fin_nsplit | apply fin_split | apply cnd_nsplit | apply cnd_split) <;> intro hc) | refine seqS_id ?_ | refine blk_exit_id ?_)
          refine awpS_loop (σ := Nat) (fun m => m ≤ G) (fun m => ⟨[(9, AV.i ((m : Int) - 1)), (8, .v (.c (.d (.int .u64 (hornr (L.drop m)))))), (7, AV.i G), (1, AV.i n), (0, .v (.c (.d (.sl f (b.map rowB)))))], []⟩) (fun m => m) G (Wk.sub' (by simp [subT, look, hLz]) rfl) (Nat.le_refl _) ?_
          intro m hm
          by_cases hm0 : m = 0
          · subst hm0
            have k1 : (((0 : Nat) : Int) - 1 ≥ 0) = False := eq_false (by omega)
            rw [List.drop_zero]
            generalize hornr L = u at *
            have k2 := tm2 u
            have k3 := td2 u
            have k3' := eU64 (n := ((u / 2 : Nat) : Int)) (by omega) (by omega)
            have k2' := eU64 (n := ((u % 2 : Nat) : Int)) (by omega) (by omega)
            have k4 := wI (n := ((u / 2 : Nat) : Int)) (by omega) (by omega)
            by_cases ho : u % 2 = 1
            · have ho' : (((u % 2 : Nat) : Int) = 1) = True := eq_true (by omega)
              have hv : valI u = -((u / 2 : Nat) : Int) - 1 := if_pos ho
              rw [hv] at h
              have k5 : IntKind.i64.wrap (-((u / 2 : Nat) : Int)) = -((u / 2 : Nat) : Int) := wI (by omega) (by omega)
              have k5' : IntKind.i64.wrap (0 - ((u / 2 : Nat) : Int)) = -((u / 2 : Nat) : Int) := by rw [wI (by omega) (by omega)]; omega
              have k6 : IntKind.i64.wrap (-((u / 2 : Nat) : Int) - 1) = -((u / 2 : Nat) : Int) - 1 := wI (by omega) (by omega)
              have hc := Nat.zero_add 0
              repeat' (first | simp only [hc, AS, SX, k1, k2, k2', k3, k3', k4, k5, k5', k6, ho', w3, AB, PL, RG, LP, TY, simprocAttr, ↓reduceIte, forall_const, eq_self, ne_eq, Option.some.injEq, beq_self_eq_true] | ((first | apply fin_ndec | apply fin_dec | apply cnd_ndec | apply cnd_dec' | apply fin_nsplit | apply fin_split | apply cnd_nsplit | apply cnd_split) <;> intro hc) | refine seqS_id ?_ | refine blk_exit_id ?_)
              all_goals (rw [← h]; try rfl)
            · have ho' : (((u % 2 : Nat) : Int) = 1) = False := eq_false (by omega)
              have hv : valI u = ((u / 2 : Nat) : Int) := if_neg ho
              rw [hv] at h
              have hc := Nat.zero_add 0
              repeat' (first | simp only [hc, AS, SX, k1, k2, k2', k3, k3', k4, ho', w3, AB, PL, RG, LP, TY, simprocAttr, ↓reduceIte, forall_const, eq_self, ne_eq, Option.some.injEq, beq_self_eq_true] | ((first | apply fin_ndec | apply fin_dec | apply cnd_ndec | apply cnd_dec' | apply fin_nsplit | apply fin_split | apply cnd_nsplit | apply cnd_split) <;> intro hc) | refine seqS_id ?_ | refine blk_exit_id ?_)
              all_goals (rw [← h]; try rfl)
          · obtain ⟨q, rfl⟩ : ∃ q, m = q + 1 := ⟨m - 1, by omega⟩
            have hq : L[q]? = some b[n + q] := by rw [hL q (by omega), List.getElem?_eq_getElem (by omega)]
            have hdr : hornr (L.drop q) = 128 * hornr (L.drop (q + 1)) + b[n + q].toNat % 128 := by
              have hql : q < L.length := by omega
              rw [List.getElem?_eq_getElem hql, Option.some.injEq] at hq
              rw [List.drop_eq_getElem_cons hql, hornr, hq]
            have hle := hornr_drop L q
            have e2 := b_at (s := b) (j := n + q) (by omega)
            generalize b[n + q] = x at *
            have hx := x.toNat_lt
            generalize hornr (L.drop (q + 1)) = u at *
            have k1 : (((q + 1 : Nat) : Int) - 1 ≥ 0) = True := eq_true (by omega)
            have k2 : IntKind.i64.wrap ((n : Int) + (((q + 1 : Nat) : Int) - 1)) = ((n + q : Nat) : Int) := by rw [wI (by omega) (by omega)]; omega
            have k3 : IntKind.i64.wrap (((q + 1 : Nat) : Int) - 1 - 1) = (q : Int) - 1 := by rw [wI (by omega) (by omega)]; omega
            have k4 := tm128 x.toNat
            have k5 : IntKind.u64.wrap (128 * (u : Int)) = ((128 * u : Nat) : Int) := by rw [eU64 (by omega) (by omega)]; omega
            have k6 : IntKind.u64.wrap (((128 * u : Nat) : Int) + ((x.toNat % 128 : Nat) : Int)) = ((hornr (L.drop q) : Nat) : Int) := by rw [hdr, eU64 (by omega) (by omega)]; omega
            have k7 := eU8 (n := ((x.toNat % 128 : Nat) : Int)) (by omega) (by omega)
            have k8 := eU64 (n := ((x.toNat % 128 : Nat) : Int)) (by omega) (by omega)
            have hc := Nat.zero_add 0
            repeat' (first | simp only [hc, AS, SX, k1, k2, k3, k4, k5, k6, k7, k8, e2, nn, Int.toNat_natCast, AB, PL, RG, LP, TY, simprocAttr, ↓reduceIte, forall_const, eq_self, ne_eq, Option.some.injEq, beq_self_eq_true] | ((first | apply fin_ndec | apply fin_dec | apply cnd_ndec | apply cnd_dec' | apply fin_nsplit | apply fin_split | apply cnd_nsplit | apply cnd_split) <;> intro hc) | refine seqS_id ?_ | refine blk_exit_id ?_)
            exact lp_next q (Wk.sub' (by simp [subT, look]) rfl) (by omega) (by omega)
  · cases h
theorem r2int_at {f : Bool} {b : List UInt8} {p : Int} (h : b.length ≤ 1000000) : r2int_m [.c (.sl f (b.map rowB)), .c (.int .i64 p)] = some [.i (decI b p).1, .i (decI b p).2.1, .i (decI b p).2.2] := by
  have := mE_eq encBI_inj (g := fun p => if p.1.2.length ≤ 1000000 then some [DV.i (decI p.1.2 p.2).1, .i (decI p.1.2 p.2).2.1, .i (decI p.1.2 p.2).2.2] else none) (a := ((f, b), p))
  exact this.trans (if_pos h)

set_option maxHeartbeats 1000000 in
theorem r2txt_ok : PureC Tryd.prog Gt 64 r2txt_m := by
  refine pure_of_awpS (X := ctx Tryd.prog Gt [(63, r2int_m)]) Tryd.func64 rfl rfl (by kernel_rfl) (by kernel_rfl) (AllOk.cons r2int_ok AllOk.nil).kok ?_
  intro args r h0
  obtain ⟨⟨⟨f, b⟩, p⟩, rfl, h⟩ := mE_inv h0
  refine ⟨Nat.le_of_ble_eq_true rfl, ?_⟩
  split at h
  · rename_i hb
    dsimp only at hb
    simp only [Option.some.injEq] at h
    have l1 := @lenB b
    have g1 := r2int_at (f := f) (b := b) (p := p) hb
    have hD : decI b p = decI b p := rfl
    conv at hD => rhs; unfold decI
    have hT : decT b p = decT b p := rfl
    conv at hT => rhs; unfold decT
    by_cases c1 : p < 0 ∨ (b.length : Int) < p
    · rw [if_pos c1] at hD hT
      rw [hT] at h
      rw [hD] at g1
      subst h
      have hc := Nat.zero_add 0
      repeat' (first | simp only [hc, AS, Tryd.f64, encBI, SX, l1, g1, AB, PL, RG, LP, TY, simprocAttr, ↓reduceIte, forall_const, eq_self, ne_eq, Option.some.injEq, beq_self_eq_true] | ((first | apply fin_ndec | apply fin_dec | apply cnd_ndec | apply cnd_dec' | apply fin_nsplit | apply fin_split | apply cnd_nsplit | apply cnd_split) <;> intro hc) | refine seqS_id ?_ | refine blk_exit_id ?_)
      all_goals rfl
    · rw [if_neg c1] at hD hT
      obtain ⟨n, rfl⟩ : ∃ n : Nat, p = (n : Int) := ⟨p.toNat, by omega⟩
      rw [Int.toNat_natCast] at hD hT
      have hX : txtG b n = txtG b n := rfl
      conv at hX => rhs; unfold txtG
      cases hN : numG 0 0 (b.drop n) with
      | error e =>
        have he := numG_err hN
        have he' : (e = 0) = False := eq_false he
        rw [hN] at hD hX
        dsimp only at hD hX
        rw [hX] at hT
        dsimp only at hT
        rw [hT] at h
        rw [hD] at g1
        subst h
        have hc := Nat.zero_add 0
        repeat' (first | simp only [hc, AS, Tryd.f64, encBI, SX, l1, g1, he', AB, PL, RG, LP, TY, simprocAttr, ↓reduceIte, forall_const, eq_self, ne_eq, Option.some.injEq, beq_self_eq_true] | ((first | apply fin_ndec | apply fin_dec | apply cnd_ndec | apply cnd_dec' | apply fin_nsplit | apply fin_split | apply cnd_nsplit | apply cnd_split) <;> intro hc) | refine seqS_id ?_ | refine blk_exit_id ?_)
        all_goals rfl
      | ok q =>
        obtain ⟨u, k⟩ := q
        obtain ⟨hk1, hk2⟩ := numG_bd hN
        rw [List.length_drop] at hk2
        rw [hN] at hD hX
        dsimp only at hD hX
        rw [hD] at g1
        generalize hv : valI u = v at *
        by_cases d1 : v < 0
        · have d1' := eq_true d1
          rw [if_pos d1] at hX
          rw [hX] at hT
          dsimp only at hT
          rw [hT] at h
          subst h
          have hc := Nat.zero_add 0
          repeat' (first | simp only [hc, AS, Tryd.f64, encBI, SX, l1, g1, d1', AB, PL, RG, LP, TY, simprocAttr, ↓reduceIte, forall_const, eq_self, ne_eq, Option.some.injEq, beq_self_eq_true] | ((first | apply fin_ndec | apply fin_dec | apply cnd_ndec | apply cnd_dec' | apply fin_nsplit | apply fin_split | apply cnd_nsplit | apply cnd_split) <;> intro hc) | refine seqS_id ?_ | refine blk_exit_id ?_)
          all_goals rfl
        have d1' := eq_false d1
        rw [if_neg d1] at hX
        by_cases d2 : 65536 < v
        · have d2' : (v > 65536) = True := eq_true d2
          rw [if_pos d2] at hX
          rw [hX] at hT
          dsimp only at hT
          rw [hT] at h
          subst h
          have hc := Nat.zero_add 0
          repeat' (first | simp only [hc, AS, Tryd.f64, encBI, SX, l1, g1, d1', d2', AB, PL, RG, LP, TY, simprocAttr, ↓reduceIte, forall_const, eq_self, ne_eq, Option.some.injEq, beq_self_eq_true] | ((first | apply fin_ndec | apply fin_dec | apply cnd_ndec | apply cnd_dec' | apply fin_nsplit | apply fin_split | apply cnd_nsplit | apply cnd_split) <;> intro hc) | refine seqS_id ?_ | refine blk_exit_id ?_)
          all_goals rfl
        have d2' : (v > 65536) = False := eq_false d2
        rw [if_neg d2] at hX
        have w1 := wI (n := (b.length : Int) - ((n + k : Nat) : Int)) (by omega) (by omega)
        by_cases d3 : (b.length : Int) - ((n + k : Nat) : Int) < v
        · have d3' : (v > (b.length : Int) - ((n + k : Nat) : Int)) = True := eq_true d3
          rw [if_pos d3] at hX
          rw [hX] at hT
          dsimp only at hT
          rw [hT] at h
          subst h
          have hc := Nat.zero_add 0
          repeat' (first | simp only [hc, AS, Tryd.f64, encBI, SX, l1, g1, d1', d2', w1, d3', AB, PL, RG, LP, TY, simprocAttr, ↓reduceIte, forall_const, eq_self, ne_eq, Option.some.injEq, beq_self_eq_true] | ((first | apply fin_ndec | apply fin_dec | apply cnd_ndec | apply cnd_dec' | apply fin_nsplit | apply fin_split | apply cnd_nsplit | apply cnd_split) <;> intro hc) | refine seqS_id ?_ | refine blk_exit_id ?_)
          all_goals rfl
        have d3' : (v > (b.length : Int) - ((n + k : Nat) : Int)) = False := eq_false d3
        rw [if_neg d3] at hX
        rw [hX] at hT
        dsimp only at hT
        rw [hT] at h
        subst h
        obtain ⟨m, rfl⟩ : ∃ m : Nat, v = (m : Int) := ⟨v.toNat, by omega⟩
        rw [Int.toNat_natCast]
        have w2 : IntKind.i64.wrap (((n + k : Nat) : Int) + (m : Int)) = ((n + k + m : Nat) : Int) := by rw [wI (by omega) (by omega)]; omega
        have q1 : ∀ ful : Bool, slX ful 1 (b.map rowB) ((n + k : Nat) : Int) ((n + k + m : Nat) : Int) = some (.sl ful (((b.drop (n + k)).take m).map rowB)) := fun ful => by
          rw [slX_ok (eq_true (allB b)) (eq_true (by omega)) (eq_true (by omega)) (eq_true (by simp; omega)), Int.toNat_natCast, Int.toNat_natCast, show n + k + m - (n + k) = m by omega, ← List.map_drop, ← List.map_take]
        generalize (b.drop (n + k)).take m = x at *
        have q2 : cvU true (x.map rowB) = some (.str x) := cvU_ok
        have hc := Nat.zero_add 0
        repeat' (first | simp only [hc, AS, Tryd.f64, encBI, SX, l1, g1, d1', d2', w1, d3', w2, sla_eq, slT_sl, slZ_some, q1, q2, cv_sl, Option.getD_some, AB, PL, RG, LP, TY, simprocAttr, ↓reduceIte, forall_const, eq_self, ne_eq, Option.some.injEq, beq_self_eq_true] | ((first | apply fin_ndec | apply fin_dec | apply cnd_ndec | apply cnd_dec' | apply fin_nsplit | apply fin_split | apply cnd_nsplit | apply cnd_split) <;> intro hc) | refine seqS_id ?_ | refine blk_exit_id ?_)
        all_goals rfl
  · cases h
theorem r2txt_at {f : Bool} {b : List UInt8} {p : Int} (h : b.length ≤ 1000000) : r2txt_m [.c (.sl f (b.map rowB)), .c (.int .i64 p)] = some [.s (decT b p).1, .i (decT b p).2.1, .i (decT b p).2.2] := by
  have := mE_eq encBI_inj (g := fun p => if p.1.2.length ≤ 1000000 then some [DV.s (decT p.1.2 p.2).1, .i (decT p.1.2 p.2).2.1, .i (decT p.1.2 p.2).2.2] else none) (a := ((f, b), p))
  exact this.trans (if_pos h)

end
end Go.Ab
