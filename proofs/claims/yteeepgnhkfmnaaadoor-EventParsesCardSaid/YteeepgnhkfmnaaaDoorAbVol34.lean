/-
  Texts of the layer and of the laws, put together: AbF13, AbF14. No law is stated here.
-/
import Derived.Test.YteeepgnhkfmnaaaDoorAbVol33
set_option linter.unusedSimpArgs false
set_option linter.unusedVariables false
set_option maxRecDepth 100000

/-
  event.digits, field.set.
-/
namespace Go.Ab
open Go.RowKit Go.Proofs

/-- A numeral: its digits behind a sign. -/
def signB (s : List UInt8) : Bool := decide (1 < s.length) && decide (s.headD 0 = 45)
def digD (s : List UInt8) : List UInt8 := if signB s = true then s.tail else s
def nmlB (s : List UInt8) : Bool := !(signB s && (digD s == [48])) && (digD s).all isDig && !(digD s).isEmpty && ((digD s == [48]) || !((digD s).headD 0 == 48))
/-- What the program reckons: it stops behind MaxMoney. -/
def accS (n : Int) : List UInt8 → Int
  | [] => n
  | c :: r => accS (if c ≠ 45 ∧ n ≤ mMon then 10 * n + ((c.toNat : Int) - 48) else n) r
def numS (s : List UInt8) : Int := if s.headD 0 = 45 then -(accS 0 s) else accS 0 s
theorem accS_snoc {c : UInt8} : ∀ {l : List UInt8} {n : Int}, accS n (l ++ [c]) = if c ≠ 45 ∧ accS n l ≤ mMon then 10 * accS n l + ((c.toNat : Int) - 48) else accS n l
  | [], n => rfl
  | d :: l, n => by
    rw [List.cons_append, accS, accS_snoc, accS]
theorem accS_bd : ∀ {l : List UInt8} {n : Int}, 0 ≤ n → n ≤ 11258999068426249 → (∀ c ∈ l, c = 45 ∨ isDig c = true) → 0 ≤ accS n l ∧ accS n l ≤ 11258999068426249
  | [], n, h1, h2, _ => ⟨h1, h2⟩
  | c :: l, n, h1, h2, hl => by
    rw [accS]
    refine accS_bd ?_ ?_ fun d hd => hl d (List.mem_cons_of_mem _ hd)
    all_goals
      split
      · rename_i hc
        rcases hl c List.mem_cons_self with h | h
        · exact absurd h hc.1
        · have := dig_iff.1 h
          simp only [mMon] at hc
          omega
      · omega
theorem nmlB_mem {s : List UInt8} (h : nmlB s = true) : s ≠ [] ∧ ∀ c ∈ s, c = 45 ∨ isDig c = true := by
  unfold nmlB at h
  simp only [Bool.and_eq_true, Bool.not_eq_true', List.isEmpty_eq_false_iff] at h
  obtain ⟨⟨⟨_, h2⟩, h3⟩, _⟩ := h
  rw [List.all_eq_true] at h2
  cases hs : signB s with
  | true =>
    have hd : digD s = s.tail := if_pos hs
    unfold signB at hs
    simp only [Bool.and_eq_true, decide_eq_true_eq] at hs
    cases s with
    | nil => simp at hs
    | cons c r =>
      refine ⟨by simp, fun x hx => ?_⟩
      rcases List.mem_cons.1 hx with rfl | hx
      · exact .inl hs.2
      · exact .inr (h2 x (by rw [hd]; exact hx))
  | false =>
    have hd : digD s = s := if_neg (by rw [hs]; simp)
    rw [hd] at h2 h3
    exact ⟨h3, fun c hc => .inr (h2 c hc)⟩

noncomputable section
open Classical

def edig_m : List PA → Option (List PA) := ms fun s => if s.length ≤ 100000 then some [.b (nmlB s)] else none

set_option maxHeartbeats 1000000 in
theorem edig_ok : PureC Tryd.prog Gt 57 edig_m := by
  refine pure_of_awp (X := ctx Tryd.prog Gt []) Tryd.func57 rfl rfl (by kernel_rfl) (by kernel_rfl) AllOk.nil.kok ?_
  intro args r h0
  obtain ⟨s, rfl, h⟩ := ms_inv h0
  refine ⟨Nat.le_of_ble_eq_true rfl, ?_⟩
  split at h
  · rename_i hlen
    simp only [Option.some.injEq] at h
    have hdef : nmlB s = (!(signB s && (digD s == [48])) && (digD s).all isDig && !(digD s).isEmpty && ((digD s == [48]) || !((digD s).headD 0 == 48))) := rfl
    rw [hdef] at h
    by_cases hs : signB s = true
    · have hd : digD s = s.tail := if_pos hs
      rw [hs, hd] at h
      unfold signB at hs
      simp only [Bool.and_eq_true, decide_eq_true_eq] at hs
      obtain ⟨hs1, hs2⟩ := hs
      obtain ⟨d, rfl⟩ : ∃ d, s = 45 :: d := by
        cases s with
        | nil => simp at hs1
        | cons c r => exact ⟨r, by simp at hs2; rw [hs2]⟩
      simp only [List.length_cons, List.tail_cons] at hs1 h hlen
      have g1 : (((d.length + 1 : Nat) : Int) > 1) = True := eq_true (by omega)
      have hsl : slS (45 :: d) 1 ((d.length + 1 : Nat) : Int) = some (.str d) := by
        unfold slS
        rw [if_pos (by simp; omega)]
        simp
      simp only [Bool.true_and] at h
      by_cases h48 : d = [48]
      · subst h48
        have hc := Nat.zero_add 0
        repeat' (first | simp only [hc, Tryd.f57, SX, g1, hsl, AB, PL, RG, LP, TY, simprocAttr, ↓reduceIte, forall_const, eq_self, ne_eq, Option.some.injEq, beq_self_eq_true] | ((first | apply fin_ndec | apply fin_dec | apply cnd_ndec | apply cnd_dec' | apply fin_nsplit | apply fin_split | apply cnd_nsplit | apply cnd_split) <;> intro hc) | refine blk_exit_id ?_)
        all_goals (rw [← h]; all_goals rfl)
      · have h48b : (d == [48]) = false := by simp [h48]
        have h48c : (!(d == [48])) = true := by rw [h48b]; rfl
        rw [h48c, Bool.true_and] at h
        have hc := Nat.zero_add 0
        repeat' (first | simp only [hc, Tryd.f57, SX, g1, hsl, h48b, AB, PL, RG, LP, TY, simprocAttr, ↓reduceIte, forall_const, eq_self, ne_eq, Option.some.injEq, beq_self_eq_true] | ((first | apply fin_ndec | apply fin_dec | apply cnd_ndec | apply cnd_dec' | apply fin_nsplit | apply fin_split | apply cnd_nsplit | apply cnd_split) <;> intro hc) | refine blk_exit_id ?_)
        refine awp_loop (σ := Nat) (fun j => j ≤ d.length ∧ (d.take j).all isDig = true) (fun j => ⟨[(18, AV.i j), (17, AV.i d.length), (0, AV.s d)], []⟩) (fun j => d.length - j) 0 (Wk.sub' (by simp [subT, look]) rfl) ⟨Nat.zero_le _, rfl⟩ ?_
        rintro j ⟨hj, hall⟩
        by_cases hjl : j < d.length
        · have hlt : ((j : Int) < (d.length : Int)) = True := eq_true (by omega)
          have hw := wI (n := (j : Int) + 1) (by omega) (by omega)
          have e1 : d[j]? = some d[j] := by simp [hjl]
          have htk : d.take (j + 1) = d.take j ++ [d[j]] := List.take_succ_eq_append_getElem hjl
          generalize d[j] = c at *
          by_cases hc1 : isDig c = true
          · have hb := dig_iff.1 hc1
            have b1 : ((c.toNat : Int) < 48) = False := eq_false (by omega)
            have b2 : ((c.toNat : Int) > 57) = False := eq_false (by omega)
            have hc := Nat.zero_add 0
            repeat' (first | simp only [hc, SX, hlt, nn, hw, e1, b1, b2, AB, PL, RG, LP, TY, simprocAttr, ↓reduceIte, forall_const, eq_self, ne_eq, Option.some.injEq, beq_self_eq_true] | ((first | apply fin_ndec | apply fin_dec | apply cnd_ndec | apply cnd_dec' | apply fin_nsplit | apply fin_split | apply cnd_nsplit | apply cnd_split) <;> intro hc) | refine blk_exit_id ?_)
            exact lp_next (j + 1) (Wk.sub' (by simp [subT, look]) rfl) ⟨by omega, by rw [htk, List.all_append, hall]; simp [hc1]⟩ (by omega)
          · have hbad : d.all isDig = false := Bool.eq_false_iff.2 (bad_mem e1 hc1)
            rw [hbad] at h
            simp only [Bool.false_and, Bool.and_false] at h
            have hb : ¬ (48 ≤ c.toNat ∧ c.toNat ≤ 57) := fun h => hc1 (dig_iff.2 h)
            by_cases hlo : c.toNat < 48
            · have b1 : ((c.toNat : Int) < 48) = True := eq_true (by omega)
              have hc := Nat.zero_add 0
              repeat' (first | simp only [hc, SX, hlt, nn, e1, b1, AB, PL, RG, LP, TY, simprocAttr, ↓reduceIte, forall_const, eq_self, ne_eq, Option.some.injEq, beq_self_eq_true] | ((first | apply fin_ndec | apply fin_dec | apply cnd_ndec | apply cnd_dec' | apply fin_nsplit | apply fin_split | apply cnd_nsplit | apply cnd_split) <;> intro hc) | refine blk_exit_id ?_)
              all_goals exact h
            · have b1 : ((c.toNat : Int) < 48) = False := eq_false (by omega)
              have b2 : ((c.toNat : Int) > 57) = True := eq_true (by omega)
              have hc := Nat.zero_add 0
              repeat' (first | simp only [hc, SX, hlt, nn, e1, b1, b2, AB, PL, RG, LP, TY, simprocAttr, ↓reduceIte, forall_const, eq_self, ne_eq, Option.some.injEq, beq_self_eq_true] | ((first | apply fin_ndec | apply fin_dec | apply cnd_ndec | apply cnd_dec' | apply fin_nsplit | apply fin_split | apply cnd_nsplit | apply cnd_split) <;> intro hc) | refine blk_exit_id ?_)
              all_goals exact h
        · have hlt : ((j : Int) < (d.length : Int)) = False := eq_false (by omega)
          rw [List.take_of_length_le (by omega)] at hall
          rw [hall] at h
          by_cases hd0 : d = []
          · have z1 : (d == []) = true := by simp [hd0]
            have z3 : d.isEmpty = true := by simp [hd0]
            rw [z3] at h
            have hc := Nat.zero_add 0
            repeat' (first | simp only [hc, SX, hlt, z1, AB, PL, RG, LP, TY, simprocAttr, ↓reduceIte, forall_const, eq_self, ne_eq, Option.some.injEq, beq_self_eq_true] | ((first | apply fin_ndec | apply fin_dec | apply cnd_ndec | apply cnd_dec' | apply fin_nsplit | apply fin_split | apply cnd_nsplit | apply cnd_split) <;> intro hc) | refine blk_exit_id ?_)
            all_goals (rw [← h]; all_goals rfl)
          · have z1 : (d == []) = false := by simp [hd0]
            have z3 : d.isEmpty = false := by simp [hd0]
            rw [z3] at h
            cases z2 : (d == [48]) with
            | true =>
              rw [z2] at h
              have hc := Nat.zero_add 0
              repeat' (first | simp only [hc, SX, hlt, z1, z2, AB, PL, RG, LP, TY, simprocAttr, ↓reduceIte, forall_const, eq_self, ne_eq, Option.some.injEq, beq_self_eq_true] | ((first | apply fin_ndec | apply fin_dec | apply cnd_ndec | apply cnd_dec' | apply fin_nsplit | apply fin_split | apply cnd_nsplit | apply cnd_split) <;> intro hc) | refine blk_exit_id ?_)
              all_goals (rw [← h]; all_goals rfl)
            | false =>
              rw [z2] at h
              have e0 : d[0]? = some (d.headD 0) := by
                cases d with
                | nil => exact absurd rfl hd0
                | cons c r => rfl
              generalize d.headD 0 = c0 at *
              cases z4 : (c0 == 48) with
              | true =>
                have hz : c0 = 48 := by simpa using z4
                have hz' : ((c0.toNat : Int) = 48) = True := eq_true (by rw [hz]; rfl)
                rw [z4] at h
                have hc := Nat.zero_add 0
                repeat' (first | simp only [hc, SX, hlt, z1, z2, e0, hz', AB, PL, RG, LP, TY, simprocAttr, ↓reduceIte, forall_const, eq_self, ne_eq, Option.some.injEq, beq_self_eq_true] | ((first | apply fin_ndec | apply fin_dec | apply cnd_ndec | apply cnd_dec' | apply fin_nsplit | apply fin_split | apply cnd_nsplit | apply cnd_split) <;> intro hc) | refine blk_exit_id ?_)
                all_goals (rw [← h]; all_goals rfl)
              | false =>
                have hz : ¬ c0 = 48 := by simpa using z4
                have hz' : ((c0.toNat : Int) = 48) = False := eq_false fun e => hz (UInt8.toNat_inj.1 (by rw [show (48 : UInt8).toNat = 48 from rfl]; omega))
                rw [z4] at h
                have hc := Nat.zero_add 0
                repeat' (first | simp only [hc, SX, hlt, z1, z2, e0, hz', AB, PL, RG, LP, TY, simprocAttr, ↓reduceIte, forall_const, eq_self, ne_eq, Option.some.injEq, beq_self_eq_true] | ((first | apply fin_ndec | apply fin_dec | apply cnd_ndec | apply cnd_dec' | apply fin_nsplit | apply fin_split | apply cnd_nsplit | apply cnd_split) <;> intro hc) | refine blk_exit_id ?_)
                all_goals (rw [← h]; all_goals rfl)
    · have hd : digD s = s := if_neg hs
      rw [Bool.not_eq_true] at hs
      rw [hs, hd] at h
      simp only [Bool.false_and, Bool.not_false, Bool.true_and] at h
      unfold signB at hs
      generalize hsd : s = d at *
      by_cases h1l : 1 < d.length
      · rw [decide_eq_true h1l, Bool.true_and] at hs
        have hs := of_decide_eq_false hs
        have g1 : ((d.length : Int) > 1) = True := eq_true (by omega)
        have e0 : d[0]? = some (d.headD 0) := by
          cases d with
          | nil => simp at h1l
          | cons c r => rfl
        have g2 : (((d.headD 0).toNat : Int) = 45) = False := eq_false fun e => hs (UInt8.toNat_inj.1 (by rw [show (45 : UInt8).toNat = 45 from rfl]; omega))
        generalize hc45 : d.headD 0 = c45 at e0 g2
        have hc := Nat.zero_add 0
        repeat' (first | simp only [hc, Tryd.f57, SX, g1, e0, g2, AB, PL, RG, LP, TY, simprocAttr, ↓reduceIte, forall_const, eq_self, ne_eq, Option.some.injEq, beq_self_eq_true] | ((first | apply fin_ndec | apply fin_dec | apply cnd_ndec | apply cnd_dec' | apply fin_nsplit | apply fin_split | apply cnd_nsplit | apply cnd_split) <;> intro hc) | refine blk_exit_id ?_)
        refine awp_loop (σ := Nat) (fun j => j ≤ d.length ∧ (d.take j).all isDig = true) (fun j => ⟨[(18, AV.i j), (17, AV.i d.length), (0, AV.s d)], []⟩) (fun j => d.length - j) 0 (Wk.sub' (by simp [subT, look]) rfl) ⟨Nat.zero_le _, rfl⟩ ?_
        rintro j ⟨hj, hall⟩
        by_cases hjl : j < d.length
        · have hlt : ((j : Int) < (d.length : Int)) = True := eq_true (by omega)
          have hw := wI (n := (j : Int) + 1) (by omega) (by omega)
          have e1 : d[j]? = some d[j] := by simp [hjl]
          have htk : d.take (j + 1) = d.take j ++ [d[j]] := List.take_succ_eq_append_getElem hjl
          generalize d[j] = c at *
          by_cases hc1 : isDig c = true
          · have hb := dig_iff.1 hc1
            have b1 : ((c.toNat : Int) < 48) = False := eq_false (by omega)
            have b2 : ((c.toNat : Int) > 57) = False := eq_false (by omega)
            have hc := Nat.zero_add 0
            repeat' (first | simp only [hc, SX, hlt, nn, hw, e1, b1, b2, AB, PL, RG, LP, TY, simprocAttr, ↓reduceIte, forall_const, eq_self, ne_eq, Option.some.injEq, beq_self_eq_true] | ((first | apply fin_ndec | apply fin_dec | apply cnd_ndec | apply cnd_dec' | apply fin_nsplit | apply fin_split | apply cnd_nsplit | apply cnd_split) <;> intro hc) | refine blk_exit_id ?_)
            exact lp_next (j + 1) (Wk.sub' (by simp [subT, look]) rfl) ⟨by omega, by rw [htk, List.all_append, hall]; simp [hc1]⟩ (by omega)
          · have hbad : d.all isDig = false := Bool.eq_false_iff.2 (bad_mem e1 hc1)
            rw [hbad] at h
            simp only [Bool.false_and, Bool.and_false] at h
            have hb : ¬ (48 ≤ c.toNat ∧ c.toNat ≤ 57) := fun h => hc1 (dig_iff.2 h)
            by_cases hlo : c.toNat < 48
            · have b1 : ((c.toNat : Int) < 48) = True := eq_true (by omega)
              have hc := Nat.zero_add 0
              repeat' (first | simp only [hc, SX, hlt, nn, e1, b1, AB, PL, RG, LP, TY, simprocAttr, ↓reduceIte, forall_const, eq_self, ne_eq, Option.some.injEq, beq_self_eq_true] | ((first | apply fin_ndec | apply fin_dec | apply cnd_ndec | apply cnd_dec' | apply fin_nsplit | apply fin_split | apply cnd_nsplit | apply cnd_split) <;> intro hc) | refine blk_exit_id ?_)
              all_goals exact h
            · have b1 : ((c.toNat : Int) < 48) = False := eq_false (by omega)
              have b2 : ((c.toNat : Int) > 57) = True := eq_true (by omega)
              have hc := Nat.zero_add 0
              repeat' (first | simp only [hc, SX, hlt, nn, e1, b1, b2, AB, PL, RG, LP, TY, simprocAttr, ↓reduceIte, forall_const, eq_self, ne_eq, Option.some.injEq, beq_self_eq_true] | ((first | apply fin_ndec | apply fin_dec | apply cnd_ndec | apply cnd_dec' | apply fin_nsplit | apply fin_split | apply cnd_nsplit | apply cnd_split) <;> intro hc) | refine blk_exit_id ?_)
              all_goals exact h
        · have hlt : ((j : Int) < (d.length : Int)) = False := eq_false (by omega)
          rw [List.take_of_length_le (by omega)] at hall
          rw [hall] at h
          by_cases hd0 : d = []
          · have z1 : (d == []) = true := by simp [hd0]
            have z3 : d.isEmpty = true := by simp [hd0]
            rw [z3] at h
            have hc := Nat.zero_add 0
            repeat' (first | simp only [hc, SX, hlt, z1, AB, PL, RG, LP, TY, simprocAttr, ↓reduceIte, forall_const, eq_self, ne_eq, Option.some.injEq, beq_self_eq_true] | ((first | apply fin_ndec | apply fin_dec | apply cnd_ndec | apply cnd_dec' | apply fin_nsplit | apply fin_split | apply cnd_nsplit | apply cnd_split) <;> intro hc) | refine blk_exit_id ?_)
            all_goals (rw [← h]; all_goals rfl)
          · have z1 : (d == []) = false := by simp [hd0]
            have z3 : d.isEmpty = false := by simp [hd0]
            rw [z3] at h
            cases z2 : (d == [48]) with
            | true =>
              rw [z2] at h
              have hc := Nat.zero_add 0
              repeat' (first | simp only [hc, SX, hlt, z1, z2, AB, PL, RG, LP, TY, simprocAttr, ↓reduceIte, forall_const, eq_self, ne_eq, Option.some.injEq, beq_self_eq_true] | ((first | apply fin_ndec | apply fin_dec | apply cnd_ndec | apply cnd_dec' | apply fin_nsplit | apply fin_split | apply cnd_nsplit | apply cnd_split) <;> intro hc) | refine blk_exit_id ?_)
              all_goals (rw [← h]; all_goals rfl)
            | false =>
              rw [z2] at h
              have e0 : d[0]? = some (d.headD 0) := by
                cases d with
                | nil => exact absurd rfl hd0
                | cons c r => rfl
              generalize d.headD 0 = c0 at *
              cases z4 : (c0 == 48) with
              | true =>
                have hz : c0 = 48 := by simpa using z4
                have hz' : ((c0.toNat : Int) = 48) = True := eq_true (by rw [hz]; rfl)
                rw [z4] at h
                have hc := Nat.zero_add 0
                repeat' (first | simp only [hc, SX, hlt, z1, z2, e0, hz', AB, PL, RG, LP, TY, simprocAttr, ↓reduceIte, forall_const, eq_self, ne_eq, Option.some.injEq, beq_self_eq_true] | ((first | apply fin_ndec | apply fin_dec | apply cnd_ndec | apply cnd_dec' | apply fin_nsplit | apply fin_split | apply cnd_nsplit | apply cnd_split) <;> intro hc) | refine blk_exit_id ?_)
                all_goals (rw [← h]; all_goals rfl)
              | false =>
                have hz : ¬ c0 = 48 := by simpa using z4
                have hz' : ((c0.toNat : Int) = 48) = False := eq_false fun e => hz (UInt8.toNat_inj.1 (by rw [show (48 : UInt8).toNat = 48 from rfl]; omega))
                rw [z4] at h
                have hc := Nat.zero_add 0
                repeat' (first | simp only [hc, SX, hlt, z1, z2, e0, hz', AB, PL, RG, LP, TY, simprocAttr, ↓reduceIte, forall_const, eq_self, ne_eq, Option.some.injEq, beq_self_eq_true] | ((first | apply fin_ndec | apply fin_dec | apply cnd_ndec | apply cnd_dec' | apply fin_nsplit | apply fin_split | apply cnd_nsplit | apply cnd_split) <;> intro hc) | refine blk_exit_id ?_)
                all_goals (rw [← h]; all_goals rfl)
      · have g1 : ((d.length : Int) > 1) = False := eq_false (by omega)
        have hc := Nat.zero_add 0
        repeat' (first | simp only [hc, Tryd.f57, SX, g1, AB, PL, RG, LP, TY, simprocAttr, ↓reduceIte, forall_const, eq_self, ne_eq, Option.some.injEq, beq_self_eq_true] | ((first | apply fin_ndec | apply fin_dec | apply cnd_ndec | apply cnd_dec' | apply fin_nsplit | apply fin_split | apply cnd_nsplit | apply cnd_split) <;> intro hc) | refine blk_exit_id ?_)
        refine awp_loop (σ := Nat) (fun j => j ≤ d.length ∧ (d.take j).all isDig = true) (fun j => ⟨[(18, AV.i j), (17, AV.i d.length), (0, AV.s d)], []⟩) (fun j => d.length - j) 0 (Wk.sub' (by simp [subT, look]) rfl) ⟨Nat.zero_le _, rfl⟩ ?_
        rintro j ⟨hj, hall⟩
        by_cases hjl : j < d.length
        · have hlt : ((j : Int) < (d.length : Int)) = True := eq_true (by omega)
          have hw := wI (n := (j : Int) + 1) (by omega) (by omega)
          have e1 : d[j]? = some d[j] := by simp [hjl]
          have htk : d.take (j + 1) = d.take j ++ [d[j]] := List.take_succ_eq_append_getElem hjl
          generalize d[j] = c at *
          by_cases hc1 : isDig c = true
          · have hb := dig_iff.1 hc1
            have b1 : ((c.toNat : Int) < 48) = False := eq_false (by omega)
            have b2 : ((c.toNat : Int) > 57) = False := eq_false (by omega)
            have hc := Nat.zero_add 0
            repeat' (first | simp only [hc, SX, hlt, nn, hw, e1, b1, b2, AB, PL, RG, LP, TY, simprocAttr, ↓reduceIte, forall_const, eq_self, ne_eq, Option.some.injEq, beq_self_eq_true] | ((first | apply fin_ndec | apply fin_dec | apply cnd_ndec | apply cnd_dec' | apply fin_nsplit | apply fin_split | apply cnd_nsplit | apply cnd_split) <;> intro hc) | refine blk_exit_id ?_)
            exact lp_next (j + 1) (Wk.sub' (by simp [subT, look]) rfl) ⟨by omega, by rw [htk, List.all_append, hall]; simp [hc1]⟩ (by omega)
          · have hbad : d.all isDig = false := Bool.eq_false_iff.2 (bad_mem e1 hc1)
            rw [hbad] at h
            simp only [Bool.false_and, Bool.and_false] at h
            have hb : ¬ (48 ≤ c.toNat ∧ c.toNat ≤ 57) := fun h => hc1 (dig_iff.2 h)
            by_cases hlo : c.toNat < 48
            · have b1 : ((c.toNat : Int) < 48) = True := eq_true (by omega)
              have hc := Nat.zero_add 0
              repeat' (first | simp only [hc, SX, hlt, nn, e1, b1, AB, PL, RG, LP, TY, simprocAttr, ↓reduceIte, forall_const, eq_self, ne_eq, Option.some.injEq, beq_self_eq_true] | ((first | apply fin_ndec | apply fin_dec | apply cnd_ndec | apply cnd_dec' | apply fin_nsplit | apply fin_split | apply cnd_nsplit | apply cnd_split) <;> intro hc) | refine blk_exit_id ?_)
              all_goals exact h
            · have b1 : ((c.toNat : Int) < 48) = False := eq_false (by omega)
              have b2 : ((c.toNat : Int) > 57) = True := eq_true (by omega)
              have hc := Nat.zero_add 0
              repeat' (first | simp only [hc, SX, hlt, nn, e1, b1, b2, AB, PL, RG, LP, TY, simprocAttr, ↓reduceIte, forall_const, eq_self, ne_eq, Option.some.injEq, beq_self_eq_true] | ((first | apply fin_ndec | apply fin_dec | apply cnd_ndec | apply cnd_dec' | apply fin_nsplit | apply fin_split | apply cnd_nsplit | apply cnd_split) <;> intro hc) | refine blk_exit_id ?_)
              all_goals exact h
        · have hlt : ((j : Int) < (d.length : Int)) = False := eq_false (by omega)
          rw [List.take_of_length_le (by omega)] at hall
          rw [hall] at h
          by_cases hd0 : d = []
          · have z1 : (d == []) = true := by simp [hd0]
            have z3 : d.isEmpty = true := by simp [hd0]
            rw [z3] at h
            have hc := Nat.zero_add 0
            repeat' (first | simp only [hc, SX, hlt, z1, AB, PL, RG, LP, TY, simprocAttr, ↓reduceIte, forall_const, eq_self, ne_eq, Option.some.injEq, beq_self_eq_true] | ((first | apply fin_ndec | apply fin_dec | apply cnd_ndec | apply cnd_dec' | apply fin_nsplit | apply fin_split | apply cnd_nsplit | apply cnd_split) <;> intro hc) | refine blk_exit_id ?_)
            all_goals (rw [← h]; all_goals rfl)
          · have z1 : (d == []) = false := by simp [hd0]
            have z3 : d.isEmpty = false := by simp [hd0]
            rw [z3] at h
            cases z2 : (d == [48]) with
            | true =>
              rw [z2] at h
              have hc := Nat.zero_add 0
              repeat' (first | simp only [hc, SX, hlt, z1, z2, AB, PL, RG, LP, TY, simprocAttr, ↓reduceIte, forall_const, eq_self, ne_eq, Option.some.injEq, beq_self_eq_true] | ((first | apply fin_ndec | apply fin_dec | apply cnd_ndec | apply cnd_dec' | apply fin_nsplit | apply fin_split | apply cnd_nsplit | apply cnd_split) <;> intro hc) | refine blk_exit_id ?_)
              all_goals (rw [← h]; all_goals rfl)
            | false =>
              rw [z2] at h
              have e0 : d[0]? = some (d.headD 0) := by
                cases d with
                | nil => exact absurd rfl hd0
                | cons c r => rfl
              generalize d.headD 0 = c0 at *
              cases z4 : (c0 == 48) with
              | true =>
                have hz : c0 = 48 := by simpa using z4
                have hz' : ((c0.toNat : Int) = 48) = True := eq_true (by rw [hz]; rfl)
                rw [z4] at h
                have hc := Nat.zero_add 0
                repeat' (first | simp only [hc, SX, hlt, z1, z2, e0, hz', AB, PL, RG, LP, TY, simprocAttr, ↓reduceIte, forall_const, eq_self, ne_eq, Option.some.injEq, beq_self_eq_true] | ((first | apply fin_ndec | apply fin_dec | apply cnd_ndec | apply cnd_dec' | apply fin_nsplit | apply fin_split | apply cnd_nsplit | apply cnd_split) <;> intro hc) | refine blk_exit_id ?_)
                all_goals (rw [← h]; all_goals rfl)
              | false =>
                have hz : ¬ c0 = 48 := by simpa using z4
                have hz' : ((c0.toNat : Int) = 48) = False := eq_false fun e => hz (UInt8.toNat_inj.1 (by rw [show (48 : UInt8).toNat = 48 from rfl]; omega))
                rw [z4] at h
                have hc := Nat.zero_add 0
                repeat' (first | simp only [hc, SX, hlt, z1, z2, e0, hz', AB, PL, RG, LP, TY, simprocAttr, ↓reduceIte, forall_const, eq_self, ne_eq, Option.some.injEq, beq_self_eq_true] | ((first | apply fin_ndec | apply fin_dec | apply cnd_ndec | apply cnd_dec' | apply fin_nsplit | apply fin_split | apply cnd_nsplit | apply cnd_split) <;> intro hc) | refine blk_exit_id ?_)
                all_goals (rw [← h]; all_goals rfl)
  · cases h

end
end Go.Ab

/-
  field.set.
-/
namespace Go.Ab
open Go.RowKit Go.Proofs

theorem accS_take {s : List UInt8} {j : Nat} {c : UInt8} (h : s[j]? = some c) : accS 0 (s.take (j + 1)) = if c ≠ 45 ∧ accS 0 (s.take j) ≤ mMon then 10 * accS 0 (s.take j) + ((c.toNat : Int) - 48) else accS 0 (s.take j) := by
  rw [take_snoc h, accS_snoc]

noncomputable section
open Classical

def setK (args : List AV) (h : Hp) : Option COut := match args with
  | [.v (.agg [.nilp, .ptr id o]), .v (.c (.d (.str s)))] => (match h[id]? with
    | some (.box cs) => if o < cs.length ∧ LowH h ∧ s.length ≤ 100000 then some (if (unescF s).2 = 0 then .ret (AV.i 0) (h.set id (.box (cs.set o (.d (.str (unescF s).1))))) else .ret (AV.i 5) h) else none
    | _ => none)
  | [.v (.agg [.ptr id o, .nilp]), .v (.c (.d (.str s)))] => (match h[id]? with
    | some (.box cs) => if o < cs.length ∧ LowH h ∧ s.length ≤ 100000 then some (if nmlB s = true then .ret (AV.i 0) (h.set id (.box (cs.set o (.d (.int .i64 (numS s)))))) else .ret (AV.i 5) h) else none
    | _ => none)
  | _ => none
theorem setK_inv {args : List AV} {h : Hp} {out : COut} (hm : setK args h = some out) : ∃ id o s cs, h[id]? = some (.box cs) ∧ o < cs.length ∧ LowH h ∧ s.length ≤ 100000 ∧
    ((args = [.v (.agg [.nilp, .ptr id o]), .v (.c (.d (.str s)))] ∧ out = if (unescF s).2 = 0 then .ret (AV.i 0) (h.set id (.box (cs.set o (.d (.str (unescF s).1))))) else .ret (AV.i 5) h) ∨
     (args = [.v (.agg [.ptr id o, .nilp]), .v (.c (.d (.str s)))] ∧ out = if nmlB s = true then .ret (AV.i 0) (h.set id (.box (cs.set o (.d (.int .i64 (numS s)))))) else .ret (AV.i 5) h)) := by
  unfold setK at hm
  split at hm
  · split at hm
    · rename_i id o s _ cs hid
      split at hm
      · rename_i hc
        cases hm
        exact ⟨id, o, s, cs, hid, hc.1, hc.2.1, hc.2.2, .inl ⟨rfl, rfl⟩⟩
      · cases hm
    · cases hm
  · split at hm
    · rename_i id o s _ cs hid
      split at hm
      · rename_i hc
        cases hm
        exact ⟨id, o, s, cs, hid, hc.1, hc.2.1, hc.2.2, .inr ⟨rfl, rfl⟩⟩
      · cases hm
    · cases hm
  · cases hm
theorem stO_cell {h : Hp} {id o : Nat} {cs : List C1} {v : C1} (ho : o < cs.length) : stO h id o cs (some [v]) (some 1) = some (h.set id (.box (cs.set o v))) := by
  rw [stO_ok (xs := [v]) (n := 1) (eq_true rfl) (eq_true (by omega))]
  congr 3
  unfold setAt
  rw [List.set_eq_take_append_cons_drop, if_pos ho]
  rfl
theorem low_cells {h : Hp} (hh : LowH h) {id : Nat} {cs : List C1} (hid : h[id]? = some (.box cs)) : (cs.all (C1.low h.length)) = true :=
  List.all_eq_true.1 hh _ (List.mem_of_getElem? hid)
theorem low_set {h : Hp} (hh : LowH h) {id o : Nat} {cs : List C1} (hid : h[id]? = some (.box cs)) {d : D} : LowH (h.set id (.box (cs.set o (.d d)))) := by
  refine LowH.set hh ?_
  have := low_cells hh hid
  rw [List.all_eq_true] at this
  show ((cs.set o (.d d)).all (C1.low h.length)) = true
  rw [List.all_eq_true]
  intro c hc
  rcases List.mem_or_eq_of_mem_set hc with h1 | rfl
  · exact this c h1
  · rfl

theorem edig_at {s : List UInt8} (h : s.length ≤ 100000) : edig_m [.c (.str s)] = some [.b (nmlB s)] := by rw [edig_m, ms_eq]; exact if_pos h
theorem tunesc_at {s : List UInt8} (h : s.length ≤ 100000) : tunesc_m [.c (.str s)] = some [.c (.str (unescF s).1), .i (unescF s).2] := by rw [tunesc_m, ms_eq]; exact if_pos (decide_eq_true h)

def eset_k : List AV → Hp → Option COut := setK

set_option maxHeartbeats 1000000 in
theorem eset_kok : ImpC Tryd.prog Gt 36 eset_k := by
  intro args h out h0
  refine fok_of_awpSW (X := ctxN Tryd.prog Gt [(57, edig_m), (56, tunesc_m)] [] [] none) Tryd.func36 rfl rfl (by kernel_rfl) (by kernel_rfl) (kok_n (AllOk.cons edig_ok (AllOk.cons tunesc_ok AllOk.nil)) AllK.nil AllN.nil) ?_ ?_
  · obtain ⟨id, o, s, cs, _, _, _, _, h | h⟩ := setK_inv h0
    · rw [h.1]; exact Nat.le_of_ble_eq_true rfl
    · rw [h.1]; exact Nat.le_of_ble_eq_true rfl
  obtain ⟨id, o, s, cs, hid, ho, hh, hs, hcase⟩ := setK_inv h0
  have hidl := lt_of_get hid
  have hrow : ∀ r : Hp, (h ++ r)[id]? = some (.box cs) := fun r => get_ext hid
  have hset : ∀ (r : Hp) (x : Ob), (h ++ r).set id x = h.set id x ++ r := fun r x => List.set_append_left _ _ hidl
  have hst := fun (g : Hp) (v : C1) => stO_cell (h := g) (id := id) (v := v) ho
  rcases hcase with ⟨rfl, rfl⟩ | ⟨rfl, rfl⟩
  · have f1 := tunesc_at hs
    by_cases hu : (unescF s).2 = 0
    · rw [if_pos hu]
      rw [hu] at f1
      generalize (unescF s).1 = u at *
      have hc := Nat.zero_add 0
      repeat' (first | simp only [hc, AS, Tryd.f36, NX, NPV, SX, NW, HX, hrow, hset, hst, f1, AB, PL, RG, LP, TY, simprocAttr, ↓reduceIte, forall_const, eq_self, ne_eq, Option.some.injEq, beq_self_eq_true] | ((first | apply fin_ndec | apply fin_dec | apply cnd_ndec | apply cnd_dec' | apply fin_nsplit | apply fin_split | apply cnd_nsplit | apply cnd_split) <;> intro hc) | refine seqS_id ?_ | refine blk_exit_id ?_)
      refine ⟨⟨[(4, AV.i 0)], h.set id (.box (cs.set o (.d (.str u))))⟩, Wk.back' (g := [.box [.nilp, .ptr id o]]) (low_set hh hid) ?_ ?_ ?_ ?_, [.c (.d (.int .i64 0))], by simp [resAllV, resOneV, S.get, look, AV.one], by simp [resVV]⟩
      · rfl
      · simp
      · simp [subT, look]
      · rfl
    · rw [if_neg hu]
      have hu' : ((unescF s).2 = 0) = False := eq_false hu
      generalize (unescF s).1 = u at *
      generalize (unescF s).2 = ue at *
      have hc := Nat.zero_add 0
      repeat' (first | simp only [hc, AS, Tryd.f36, NX, NPV, SX, NW, HX, hrow, hset, hst, f1, hu', AB, PL, RG, LP, TY, simprocAttr, ↓reduceIte, forall_const, eq_self, ne_eq, Option.some.injEq, beq_self_eq_true] | ((first | apply fin_ndec | apply fin_dec | apply cnd_ndec | apply cnd_dec' | apply fin_nsplit | apply fin_split | apply cnd_nsplit | apply cnd_split) <;> intro hc) | refine seqS_id ?_ | refine blk_exit_id ?_)
      refine ⟨⟨[(4, AV.i 5)], h⟩, Wk.back' (g := [.box [.nilp, .ptr id o]]) hh ?_ ?_ ?_ ?_, [.c (.d (.int .i64 5))], by simp [resAllV, resOneV, S.get, look, AV.one], by simp [resVV]⟩
      · rfl
      · simp
      · simp [subT, look]
      · rfl
  · have f1 := edig_at hs
    by_cases hu : nmlB s = true
    · rw [if_pos hu]
      rw [hu] at f1
      obtain ⟨hs0, hmem⟩ := nmlB_mem hu
      have e0 : s[0]? = some (s.headD 0) := by
        cases s with
        | nil => exact absurd rfl hs0
        | cons c r => rfl
      have hbd := fun (j : Nat) => accS_bd (l := s.take j) (n := 0) (by omega) (by omega) fun c hc => hmem c (List.mem_of_mem_take hc)
      have hc := Nat.zero_add 0
      repeat' (first | simp only [hc, AS, Tryd.f36, NX, NPV, SX, NW, HX, hrow, hset, hst, f1, AB, PL, RG, LP, TY, simprocAttr, ↓reduceIte, forall_const, eq_self, ne_eq, Option.some.injEq, beq_self_eq_true] | ((first | apply fin_ndec | apply fin_dec | apply cnd_ndec | apply cnd_dec' | apply fin_nsplit | apply fin_split | apply cnd_nsplit | apply cnd_split) <;> intro hc) | refine seqS_id ?_ | refine blk_exit_id ?_)
      refine awpS_loop (σ := Nat) (fun j => j ≤ s.length) (fun j => ⟨[(28, AV.i j), (27, AV.i s.length), (7, AV.i (accS 0 (s.take j))), (2, .v (.c (.ptr h.length 0))), (1, AV.s s)], h ++ [.box [.ptr id o, .nilp]]⟩) (fun j => s.length - j) 0 (Wk.sub' (by simp [subT, look, accS]) rfl) (Nat.zero_le _) ?_
      intro j hj
      by_cases hjl : j < s.length
      · have hlt : ((j : Int) < (s.length : Int)) = True := eq_true (by omega)
        have hw := wI (n := (j : Int) + 1) (by omega) (by omega)
        have e1 : s[j]? = some s[j] := by simp [hjl]
        have hcm := hmem s[j] (List.getElem_mem hjl)
        have hnx := accS_take e1
        obtain ⟨b1, b2⟩ := hbd j
        generalize s[j] = c at *
        generalize accS 0 (s.take j) = n at *
        by_cases hc : c = 45
        · have hc' : ((c.toNat : Int) = 45) = True := eq_true (by rw [hc]; rfl)
          rw [if_neg (fun h => h.1 hc)] at hnx
          have hc := Nat.zero_add 0
          repeat' (first | simp only [hc, AS, NX, NPV, SX, HX, hlt, nn, hw, e1, hc', AB, PL, RG, LP, TY, simprocAttr, ↓reduceIte, forall_const, eq_self, ne_eq, Option.some.injEq, beq_self_eq_true] | ((first | apply fin_ndec | apply fin_dec | apply cnd_ndec | apply cnd_dec' | apply fin_nsplit | apply fin_split | apply cnd_nsplit | apply cnd_split) <;> intro hc) | refine seqS_id ?_ | refine blk_exit_id ?_)
          refine lp_next (j + 1) ?_ (by omega) (by omega)
          rw [hnx]
          exact Wk.sub' (by simp [subT, look]) rfl
        · have hd := dig_iff.1 (hcm.resolve_left hc)
          have hc' : ((c.toNat : Int) = 45) = False := eq_false fun e => hc (UInt8.toNat_inj.1 (by rw [show (45 : UInt8).toNat = 45 from rfl]; omega))
          by_cases hm : n ≤ 1125899906842624
          · have hm' : (n ≤ 1125899906842624) = True := eq_true hm
            rw [if_pos ⟨hc, hm⟩] at hnx
            have w1 := wI (n := 10 * n) (by omega) (by omega)
            have w2 := eU8 (n := (c.toNat : Int) - 48) (by omega) (by omega)
            have w3 := wI (n := (c.toNat : Int) - 48) (by omega) (by omega)
            have w4 := wI (n := 10 * n + ((c.toNat : Int) - 48)) (by omega) (by omega)
            have hc := Nat.zero_add 0
            repeat' (first | simp only [hc, AS, NX, NPV, SX, HX, hlt, nn, hw, e1, hc', hm', w1, w2, w3, w4, AB, PL, RG, LP, TY, simprocAttr, ↓reduceIte, forall_const, eq_self, ne_eq, Option.some.injEq, beq_self_eq_true] | ((first | apply fin_ndec | apply fin_dec | apply cnd_ndec | apply cnd_dec' | apply fin_nsplit | apply fin_split | apply cnd_nsplit | apply cnd_split) <;> intro hc) | refine seqS_id ?_ | refine blk_exit_id ?_)
            refine lp_next (j + 1) ?_ (by omega) (by omega)
            rw [hnx]
            exact Wk.sub' (by simp [subT, look]) rfl
          · have hm' : (n ≤ 1125899906842624) = False := eq_false hm
            rw [if_neg (fun h => hm h.2)] at hnx
            have hc := Nat.zero_add 0
            repeat' (first | simp only [hc, AS, NX, NPV, SX, HX, hlt, nn, hw, e1, hc', hm', AB, PL, RG, LP, TY, simprocAttr, ↓reduceIte, forall_const, eq_self, ne_eq, Option.some.injEq, beq_self_eq_true] | ((first | apply fin_ndec | apply fin_dec | apply cnd_ndec | apply cnd_dec' | apply fin_nsplit | apply fin_split | apply cnd_nsplit | apply cnd_split) <;> intro hc) | refine seqS_id ?_ | refine blk_exit_id ?_)
            refine lp_next (j + 1) ?_ (by omega) (by omega)
            rw [hnx]
            exact Wk.sub' (by simp [subT, look]) rfl
      · have hlt : ((j : Int) < (s.length : Int)) = False := eq_false (by omega)
        rw [List.take_of_length_le (by omega)]
        obtain ⟨b1, b2⟩ := hbd s.length
        rw [List.take_length] at b1 b2
        have hN : numS s = if s.headD 0 = 45 then -(accS 0 s) else accS 0 s := rfl
        generalize numS s = N at *
        generalize accS 0 s = n at *
        generalize s.headD 0 = c0 at *
        by_cases hc : c0 = 45
        · rw [if_pos hc] at hN
          subst hN
          have hc' : ((c0.toNat : Int) = 45) = True := eq_true (by rw [hc]; rfl)
          have w1 : IntKind.i64.wrap (0 - n) = -n := by rw [wI (by omega) (by omega)]; omega
          have hc := Nat.zero_add 0
          repeat' (first | simp only [hc, AS, NX, NPV, SX, NW, HX, hlt, hrow, hset, hst, e0, hc', w1, AB, PL, RG, LP, TY, simprocAttr, ↓reduceIte, forall_const, eq_self, ne_eq, Option.some.injEq, beq_self_eq_true] | ((first | apply fin_ndec | apply fin_dec | apply cnd_ndec | apply cnd_dec' | apply fin_nsplit | apply fin_split | apply cnd_nsplit | apply cnd_split) <;> intro hc) | refine seqS_id ?_ | refine blk_exit_id ?_)
          refine ⟨⟨[(4, AV.i 0)], h.set id (.box (cs.set o (.d (.int .i64 (-n)))))⟩, Wk.back' (g := [.box [.ptr id o, .nilp]]) (low_set hh hid) ?_ ?_ ?_ ?_, [.c (.d (.int .i64 0))], by simp [resAllV, resOneV, S.get, look, AV.one], by simp [resVV]⟩
          · rfl
          · simp
          · simp [subT, look]
          · rfl
        · rw [if_neg hc] at hN
          subst hN
          have hc' : ((c0.toNat : Int) = 45) = False := eq_false fun e => hc (UInt8.toNat_inj.1 (by rw [show (45 : UInt8).toNat = 45 from rfl]; omega))
          have hc := Nat.zero_add 0
          repeat' (first | simp only [hc, AS, NX, NPV, SX, NW, HX, hlt, hrow, hset, hst, e0, hc', AB, PL, RG, LP, TY, simprocAttr, ↓reduceIte, forall_const, eq_self, ne_eq, Option.some.injEq, beq_self_eq_true] | ((first | apply fin_ndec | apply fin_dec | apply cnd_ndec | apply cnd_dec' | apply fin_nsplit | apply fin_split | apply cnd_nsplit | apply cnd_split) <;> intro hc) | refine seqS_id ?_ | refine blk_exit_id ?_)
          refine ⟨⟨[(4, AV.i 0)], h.set id (.box (cs.set o (.d (.int .i64 N))))⟩, Wk.back' (g := [.box [.ptr id o, .nilp]]) (low_set hh hid) ?_ ?_ ?_ ?_, [.c (.d (.int .i64 0))], by simp [resAllV, resOneV, S.get, look, AV.one], by simp [resVV]⟩
          · rfl
          · simp
          · simp [subT, look]
          · rfl
    · rw [if_neg hu]
      rw [Bool.not_eq_true] at hu
      rw [hu] at f1
      have hc := Nat.zero_add 0
      repeat' (first | simp only [hc, AS, Tryd.f36, NX, NPV, SX, NW, HX, hrow, hset, hst, f1, AB, PL, RG, LP, TY, simprocAttr, ↓reduceIte, forall_const, eq_self, ne_eq, Option.some.injEq, beq_self_eq_true] | ((first | apply fin_ndec | apply fin_dec | apply cnd_ndec | apply cnd_dec' | apply fin_nsplit | apply fin_split | apply cnd_nsplit | apply cnd_split) <;> intro hc) | refine seqS_id ?_ | refine blk_exit_id ?_)
      refine ⟨⟨[(4, AV.i 5)], h⟩, Wk.back' (g := [.box [.ptr id o, .nilp]]) hh ?_ ?_ ?_ ?_, [.c (.d (.int .i64 5))], by simp [resAllV, resOneV, S.get, look, AV.one], by simp [resVV]⟩
      · rfl
      · simp
      · simp [subT, look]
      · rfl

end
end Go.Ab
