/-
  Texts of the layer and of the laws, put together: AbC4, AbC5, AbC8.
-/
import Derived.Test.YtbcklcmhmbfgnaaGreatDoorAbF20
import Derived.Test.YtbcklcmhmbfgnaaGreatDoorAbF14
set_option linter.unusedSimpArgs false
set_option linter.unusedVariables false
set_option maxRecDepth 100000
namespace Go.Ab
open Go.RowKit Go.Proofs
def ylen (y : Int) : Int := if leapB y = true then 366 else 365
end Go.Ab
namespace Go.Ab
open Go.RowKit Go.Proofs
def msum (y : Int) : Nat → Int
  | 0 => 0
  | n + 1 => msum y n + lenF y (n + 1)
theorem lenF_b (y m : Int) : 28 ≤ lenF y m ∧ lenF y m ≤ 31 := by unfold lenF; split <;> (try split) <;> omega
theorem msum_b (y : Int) : ∀ n : Nat, 0 ≤ msum y n ∧ msum y n ≤ 31 * n
  | 0 => by simp [msum]
  | n + 1 => by have := msum_b y n; have := lenF_b y (n + 1); simp only [msum]; omega
end Go.Ab
namespace Go.Ab
open Go.RowKit Go.Proofs
def cumD (y : Int) : Int := 365 * (y - 2001) + (y - 1) / 4 - 500 - ((y - 1) / 100 - 20) + (y - 1) / 400 - 5
theorem msum_succ (y : Int) (k : Nat) : msum y (k + 1) = msum y k + lenF y (k + 1) := rfl
theorem msum_mono (y : Int) : ∀ (n k : Nat), msum y k ≤ msum y (k + n)
  | 0, k => by simp
  | n + 1, k => by
    have := msum_mono y n k
    have h2 := lenF_b y ((k + n : Nat) + 1)
    rw [show k + (n + 1) = (k + n) + 1 by omega, msum_succ]
    omega
theorem msum_12 (y : Int) : msum y 12 = ylen y := by
  simp [msum, lenF, ylen]
  split <;> rfl
def IsDate (d y m q : Int) : Prop := 0 ≤ y ∧ 1 ≤ m ∧ m ≤ 12 ∧ 0 ≤ q ∧ q < lenF y m ∧ cumD y + msum y (m.toNat - 1) + q = d
theorem IsDate.rest {d y m q : Int} (h : IsDate d y m q) : 0 ≤ msum y (m.toNat - 1) + q ∧ msum y (m.toNat - 1) + q < ylen y := by
  obtain ⟨h0, h1, h2, h3, h4, h5⟩ := h
  have hb := msum_b y (m.toNat - 1)
  refine ⟨by omega, ?_⟩
  have e := msum_succ y (m.toNat - 1)
  rw [show ((m.toNat - 1 : Nat) : Int) + 1 = m by omega] at e
  have hm := msum_mono y (12 - m.toNat) (m.toNat - 1 + 1)
  rw [show m.toNat - 1 + 1 + (12 - m.toNat) = 12 by omega, msum_12] at hm
  omega
end Go.Ab
