/-
  Texts of the layer and of the laws, put together: AbP1, AbC1, AbC2.
-/
import Derived.Test.YtbcklcmhmbfgnaaGreatDoorAbF17
import Derived.Test.YtbcklcmhmbfgnaaGreatDoorAbF18
import Derived.Test.YtbcklcmhmbfgnaaGreatDoorAbF13
import Derived.Test.YtbcklcmhmbfgnaaGreatDoorAbF12
set_option linter.unusedSimpArgs false
set_option linter.unusedVariables false
set_option maxRecDepth 100000
namespace Go.Ab
open Go.RowKit Go.Proofs
theorem td100 (a : Nat) : ((a : Int).tdiv 100) = ((a / 100 : Nat) : Int) := by rw [Int.tdiv_eq_ediv_of_nonneg (by omega)]; omega
theorem tm100 (a : Nat) : ((a : Int).tmod 100) = ((a % 100 : Nat) : Int) := by rw [Int.tmod_eq_emod_of_nonneg (by omega)]; omega
theorem td10 (a : Nat) : ((a : Int).tdiv 10) = ((a / 10 : Nat) : Int) := by rw [Int.tdiv_eq_ediv_of_nonneg (by omega)]; omega
theorem tm10 (a : Nat) : ((a : Int).tmod 10) = ((a % 10 : Nat) : Int) := by rw [Int.tmod_eq_emod_of_nonneg (by omega)]; omega
theorem wU64 {n : Int} (h1 : 0 ≤ n) (h2 : n ≤ 18446744073709551615) : IntKind.u64.wrap n = n := by rw [IntKind.wrap_u64]; omega
def digU (n : Nat) : UInt8 := UInt8.ofNat (48 + n % 10)
theorem byte_dig (n : Nat) (h : n < 10) : byteOf [.int .u8 (48 + (n : Int))] = some (digU n) := by
  simp only [byteOf]
  rw [if_pos ⟨by omega, by omega⟩, digU, show (48 + (n : Int)).toNat = 48 + n by omega, Nat.mod_eq_of_lt h]
def showF (n : Int) : List UInt8 :=
  (if n < 0 then [45] else []) ++ (Lib.decDigits (n.natAbs / 100) ++ 46 :: [digU (n.natAbs / 10), digU n.natAbs])
end Go.Ab
namespace Go.Ab
open Go.RowKit Go.Proofs
def leapB (y : Int) : Bool := (decide (y.tmod 4 = 0) && decide (y.tmod 100 ≠ 0)) || decide (y.tmod 400 = 0)
end Go.Ab
namespace Go.Ab
open Go.RowKit Go.Proofs
def lenF (y m : Int) : Int := if m = 2 then (if leapB y = true then 29 else 28) else if m = 4 ∨ m = 6 ∨ m = 9 ∨ m = 11 then 30 else 31
def setB (d : Int) : Nat → Bool
  | 0 => decide (d.tmod 2 = 1)
  | n + 1 => setB (W (d.tdiv 2)) n
def mw (g : Int → Int → Int → Option (List PA)) : List PA → Option (List PA)
  | [.agg [.int .i64 a, .int .i64 b, .int .i64 c]] => g a b c
  | _ => none
end Go.Ab
