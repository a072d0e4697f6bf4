/-
  Texts of the layer and of the laws, put together: AbP1, AbQ1. No law is stated here.
-/
import Derived.Test.YtckjmdppjealdaaGreatDoorAbVol16
import Derived.Test.YtckjmdppjealdaaGreatDoorAbVol25
import Derived.Test.YtckjmdppjealdaaGreatDoorAbVol28
import Derived.Test.YtckjmdppjealdaaGreatDoorAbVol18
import Derived.Test.YtckjmdppjealdaaGreatDoorAbVol26
set_option linter.unusedSimpArgs false
set_option linter.unusedVariables false
set_option maxRecDepth 100000

/-
  What the functions of money compute: amounts written down (plain part).
-/
namespace Go.Ab
open Go.RowKit Go.Proofs

theorem td100 (a : Nat) : ((a : Int).tdiv 100) = ((a / 100 : Nat) : Int) := by rw [Int.tdiv_eq_ediv_of_nonneg (by omega)]; omega
theorem tm100 (a : Nat) : ((a : Int).tmod 100) = ((a % 100 : Nat) : Int) := by rw [Int.tmod_eq_emod_of_nonneg (by omega)]; omega
theorem td10 (a : Nat) : ((a : Int).tdiv 10) = ((a / 10 : Nat) : Int) := by rw [Int.tdiv_eq_ediv_of_nonneg (by omega)]; omega
theorem tm10 (a : Nat) : ((a : Int).tmod 10) = ((a % 10 : Nat) : Int) := by rw [Int.tmod_eq_emod_of_nonneg (by omega)]; omega
theorem wU64 {n : Int} (h1 : 0 ≤ n) (h2 : n ≤ 18446744073709551615) : IntKind.u64.wrap n = n := by rw [IntKind.wrap_u64]; omega

/-- A digit's byte. -/
def digU (n : Nat) : UInt8 := UInt8.ofNat (48 + n % 10)
theorem byte_dig (n : Nat) (h : n < 10) : byteOf [.int .u8 (48 + (n : Int))] = some (digU n) := by
  simp only [byteOf]
  rw [if_pos ⟨by omega, by omega⟩, digU, show (48 + (n : Int)).toNat = 48 + n by omega, Nat.mod_eq_of_lt h]

/-- An amount: its sign, units, a point, two digits. -/
def showF (n : Int) : List UInt8 :=
  (if n < 0 then [45] else []) ++ (Lib.decDigits (n.natAbs / 100) ++ 46 :: [digU (n.natAbs / 10), digU n.natAbs])

def mu (g : Nat → Option (List PA)) : List PA → Option (List PA)
  | [.c (.int .u64 a)] => if 0 ≤ a ∧ a ≤ 18446744073709551615 then g a.toNat else none
  | _ => none
theorem mu_inv {g : Nat → Option (List PA)} {args r : List PA} (h : mu g args = some r) : ∃ a : Nat, args = [.c (.int .u64 (a : Int))] ∧ a ≤ 18446744073709551615 ∧ g a = some r := by
  unfold mu at h
  split at h
  · rename_i a
    split at h
    · rename_i ha
      exact ⟨a.toNat, by rw [Int.toNat_of_nonneg ha.1], by omega, h⟩
    · cases h
  · cases h
theorem mu_eq {g : Nat → Option (List PA)} {a : Nat} (h : a ≤ 18446744073709551615) : mu g [.c (.int .u64 (a : Int))] = g a := by
  simp only [mu]
  rw [if_pos ⟨by omega, by omega⟩, Int.toNat_natCast]

end Go.Ab

/-
  Reports as plain texts.
-/
namespace Go.Ab
open Go.RowKit Go.Proofs

/-- A line of fields. -/
def lineF (l : List (List UInt8)) : List UInt8 := Lib.join l [32] ++ [10]
def twoF (n : Int) : List UInt8 := if (Lib.itoa n).length < 2 then 48 :: Lib.itoa n else Lib.itoa n
def dateF (d : Int) : List UInt8 := if isD d = true then (match dateOf 2001 d with
  | [.c (.int _ y), .c (.int _ m), .c (.int _ q)] => Lib.itoa y ++ [45] ++ twoF m ++ [45] ++ twoF q
  | _ => []) else [45]

theorem dec_short {u : Nat} : (Lib.decDigits u).length < 2 ↔ u < 10 := by
  by_cases h : u < 10
  · rw [dec_small h]; simp [h]
  · rw [dec_big h]
    have h2 : Lib.decDigits (u / 10) ≠ [] := (dec_spec _ (u / 10) (Nat.lt_succ_self _)).2.2.1
    have := List.length_pos_iff.2 h2
    simp only [List.length_append, List.length_singleton]
    omega
theorem itoa_short {n : Int} (h0 : 0 ≤ n) : (Lib.itoa n).length < 2 ↔ n < 10 := by
  rw [itoa_spec, if_neg (by omega), dec_short]
  omega

theorem dec_le : ∀ (k u : Nat), u < 10 ^ k → 0 < k → (Lib.decDigits u).length ≤ k
  | 0, u, _, h => by omega
  | k + 1, u, hu, _ => by
    by_cases hs : u < 10
    · rw [dec_small hs]; simp
    · rw [dec_big hs, List.length_append, List.length_singleton]
      have hk : 0 < k := by
        rcases Nat.eq_zero_or_pos k with rfl | h
        · simp at hu; omega
        · exact h
      have := dec_le k (u / 10) (by rw [Nat.pow_succ] at hu; omega) hk
      omega
theorem p20 : (10 : Nat) ^ 20 = 100000000000000000000 := by decide
theorem itoa_le {n : Int} (h : inI n = true) : (Lib.itoa n).length ≤ 30 := by
  have h := inI_iff.1 h
  rw [itoa_spec]
  split
  · have := dec_le 20 n.natAbs (by rw [p20]; omega) (by omega)
    simp only [List.length_cons]; omega
  · have := dec_le 20 n.toNat (by rw [p20]; omega) (by omega)
    omega
theorem show_le {n : Int} (h : inI n = true) : (showF n).length ≤ 30 := by
  have h := inI_iff.1 h
  have := dec_le 20 (n.natAbs / 100) (by rw [p20]; omega) (by omega)
  unfold showF
  split <;> (simp only [List.length_append, List.length_cons, List.length_nil]; omega)
theorem two_le {n : Int} (h : inI n = true) : (twoF n).length ≤ 31 := by
  have := itoa_le h
  unfold twoF
  split <;> (try simp only [List.length_cons]) <;> omega

theorem date_vals {d : Int} (h : isD d = true) : ∃ y m q, dateOf 2001 d = [.i y, .i m, .i q] ∧ dateF d = Lib.itoa y ++ [45] ++ twoF m ++ [45] ++ twoF q ∧ 2001 ≤ y ∧ y ≤ 9999 ∧ 1 ≤ m ∧ m ≤ 12 ∧ 1 ≤ q ∧ q ≤ 31 := by
  obtain ⟨y, m, q, e, hd, h1, h2⟩ := date_spec h
  obtain ⟨_, g1, g2, g3, g4, _⟩ := hd
  refine ⟨y, m, q + 1, e, ?_, h1, h2, g1, g2, by omega, ?_⟩
  · unfold dateF
    rw [if_pos h, e]
  · have : lenF y m ≤ 31 := by unfold lenF; split <;> (try split) <;> omega
    omega
theorem date_le (d : Int) : (dateF d).length ≤ 100 := by
  by_cases h : isD d = true
  · obtain ⟨y, m, q, _, e, h1, h2, h3, h4, h5, h6⟩ := date_vals h
    rw [e]
    have a := itoa_le (n := y) (inI_iff.2 (by omega))
    have b := two_le (n := m) (inI_iff.2 (by omega))
    have c := two_le (n := q) (inI_iff.2 (by omega))
    simp only [List.length_append, List.length_cons, List.length_nil]
    omega
  · unfold dateF
    rw [if_neg h]; simp

theorem jt_le (m : Nat) : ∀ l : List (List UInt8), (∀ p ∈ l, p.length ≤ m) → (Lib.joinTail [32] l).length ≤ (m + 1) * l.length
  | [], _ => by simp [Lib.joinTail]
  | p :: l, h => by
    rw [jt_cons']
    have := jt_le m l (fun q hq => h q (List.mem_cons_of_mem _ hq))
    have hp := h p List.mem_cons_self
    simp only [List.length_append, List.length_cons, Nat.mul_add, Nat.mul_one]
    omega
where jt_cons' {p : List UInt8} {r : List (List UInt8)} : Lib.joinTail [32] (p :: r) = 32 :: p ++ Lib.joinTail [32] r := by simp [Lib.joinTail]
theorem join_le (m : Nat) (l : List (List UInt8)) (h : ∀ p ∈ l, p.length ≤ m) : (Lib.join l [32]).length ≤ (m + 1) * l.length := by
  cases l with
  | nil => simp [Lib.join, List.intercalate]
  | cons p l =>
    rw [Lib.join_cons]
    have := jt_le m l (fun q hq => h q (List.mem_cons_of_mem _ hq))
    have hp := h p List.mem_cons_self
    simp only [List.length_append, List.length_cons, Nat.mul_add, Nat.mul_one]
    omega

end Go.Ab
