/-
  Texts of the layer and of the laws, put together: AbY1, AbY2, AbY3. No law is stated here.
-/
import Derived.Test.YtckjmdppjealdaaGreatDoorAbVol24
import Derived.Test.YtckjmdppjealdaaGreatDoorAbVol17
set_option linter.unusedSimpArgs false
set_option linter.unusedVariables false
set_option maxRecDepth 100000

/-
  What the functions of the texts compute: bytes, escapes.
-/
namespace Go.Ab
open Go.RowKit Go.Proofs

theorem SX : type_of% @si_eq ∧ type_of% @ss_eq ∧ type_of% @u8_of ∧ type_of% ST := ⟨@si_eq, @ss_eq, @u8_of, ST⟩

def plainI (n : Int) : Bool := decide (33 ≤ n) && decide (n ≤ 126) && !decide (n = 37)
theorem plainI_eq (c : UInt8) : plainI (c.toNat : Int) = plainB c := by
  unfold plainI plainB
  have e1 : decide ((33 : Int) ≤ (c.toNat : Int)) = decide (33 ≤ c.toNat) := decide_eq_decide.2 (by omega)
  have e2 : decide ((c.toNat : Int) ≤ 126) = decide (c.toNat ≤ 126) := decide_eq_decide.2 (by omega)
  have e3 : decide ((c.toNat : Int) = 37) = decide (c.toNat = 37) := decide_eq_decide.2 (by omega)
  rw [e1, e2, e3]





end Go.Ab

/-
  What the functions of the texts compute: Escape.
-/
namespace Go.Ab
open Go.RowKit Go.Proofs




theorem hex16 : ∀ n : Nat, n < 16 → ([48, 49, 50, 51, 52, 53, 54, 55, 56, 57, 65, 66, 67, 68, 69, 70] : List UInt8)[n]? = some (hexD n) := by decide +kernel
theorem q16 (c : UInt8) : ((c.toNat : Int).tdiv 16) = ((c.toNat / 16 : Nat) : Int) := by
  rw [Int.tdiv_eq_ediv_of_nonneg (by omega)]; omega
theorem r16 (c : UInt8) : ((c.toNat : Int).tmod 16) = ((c.toNat % 16 : Nat) : Int) := by
  rw [Int.tmod_eq_emod_of_nonneg (by omega)]; omega
theorem esc1_len (c : UInt8) : (esc1 c).length ≤ 3 := by unfold esc1; split <;> simp
theorem nn (n : Nat) : ((0 : Int) ≤ (n : Int)) = True := eq_true (by omega)

theorem tn1 (n : Nat) : ((n : Int) + 1).toNat = n + 1 := by omega
theorem le1 (n : Nat) : ((n : Int) ≤ (n : Int) + 1) = True := eq_true (by omega)
theorem cut1 {s : List UInt8} {j : Nat} {c : UInt8} (h : s[j]? = some c) : List.take (j + 1 - j) (List.drop j s) = [c] := by
  obtain ⟨hj, rfl⟩ := List.getElem?_eq_some_iff.1 h
  rw [show j + 1 - j = 1 by omega, List.drop_eq_getElem_cons hj]
  rfl

end Go.Ab

/-
  What the functions of the texts compute: Unescape.
-/
namespace Go.Ab
open Go.RowKit Go.Proofs

def hexI (n : Int) : Int := if 48 ≤ n ∧ n ≤ 57 then n - 48 else if 65 ≤ n ∧ n ≤ 70 then n - 55 else -1
theorem hexI_eq (c : UInt8) : hexI (c.toNat : Int) = hexV c := by
  unfold hexI hexV
  have e1 : ((48 : Int) ≤ (c.toNat : Int) ∧ (c.toNat : Int) ≤ 57) ↔ (48 ≤ c.toNat ∧ c.toNat ≤ 57) := by omega
  have e2 : ((65 : Int) ≤ (c.toNat : Int) ∧ (c.toNat : Int) ≤ 70) ↔ (65 ≤ c.toNat ∧ c.toNat ≤ 70) := by omega
  simp only [e1, e2]
theorem hexV_lt (c : UInt8) : hexV c < 16 := by unfold hexV; split <;> (try split) <;> omega
theorem ixh_all : ∀ n : Nat, n < 256 → Lib.indexByte [48, 49, 50, 51, 52, 53, 54, 55, 56, 57, 65, 66, 67, 68, 69, 70] n.toUInt8 = hexV (UInt8.ofNat n) := by decide +kernel
theorem ixh (c : UInt8) : Lib.indexByte [48, 49, 50, 51, 52, 53, 54, 55, 56, 57, 65, 66, 67, 68, 69, 70] c.toNat.toUInt8 = hexV c := by
  have := ixh_all c.toNat c.toNat_lt
  rwa [UInt8.ofNat_toNat] at this





theorem un_c {c : UInt8} (h : plainB c = false) (h37 : c.toNat ≠ 37) (r : List UInt8) : un (c :: r) = none := by
  match r with
  | [] => exact un_short h (by simp)
  | [_] => exact un_short h (by simp)
  | a :: b :: r => rw [un_hex h]; simp [okHex, h37]

theorem drop_of {s : List UInt8} {j : Nat} {c : UInt8} (h : s[j]? = some c) : s.drop j = c :: s.drop (j + 1) := by
  obtain ⟨hj, rfl⟩ := List.getElem?_eq_some_iff.1 h
  exact List.drop_eq_getElem_cons hj

theorem unesc_of {s : List UInt8} (h1 : s ≠ [37]) (h2 : s ≠ []) : unescF s = match un s with | some v => (v, 0) | none => ([], 5) := by
  unfold unescF
  rw [if_neg h1, if_neg h2]
  try rfl

theorem byte2_eq {a b : UInt8} (ha : 0 ≤ hexV a) (hb : 0 ≤ hexV b) : 16 * hexV a + hexV b = ((byte2 a b).toNat : Int) := by
  have h1 := hexV_lt a
  have h2 := hexV_lt b
  unfold byte2
  rw [ofNat_toNat (by omega)]
  omega

end Go.Ab
