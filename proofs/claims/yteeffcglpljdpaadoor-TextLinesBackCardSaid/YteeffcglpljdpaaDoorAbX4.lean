/-
  Plain laws on texts: runes, names, what the loops carry.
-/
import Derived.Test.YteeffcglpljdpaaDoorAbX3
import Derived.Laws.RangeAny
import Derived.Laws.BitsLemmas
set_option linter.unusedSimpArgs false
set_option linter.unusedVariables false
namespace Go.Ab

theorem wU8 {n : Int} (h1 : 0 ≤ n) (h2 : n ≤ 255) : IntKind.u8.wrap n = n := by rw [IntKind.wrap_u8]; omega
theorem wI32 {n : Int} (h1 : -2147483648 ≤ n) (h2 : n ≤ 2147483647) : IntKind.i32.wrap n = n := by rw [IntKind.wrap_i32]; omega

theorem mid_get {α : Type} (u v : List α) (c : α) : (u ++ c :: v)[u.length]? = some c := by simp

theorem dec_asc {u v : List UInt8} {c : UInt8} (h : c.toNat < 128) : Utf8.decode ⟨(u ++ c :: v).toArray⟩ u.length = (c.toNat, 1) := by
  have hlt : u.length < (⟨(u ++ c :: v).toArray⟩ : ByteArray).size := by show u.length < (u ++ c :: v).toArray.size; simp
  have he : (⟨(u ++ c :: v).toArray⟩ : ByteArray)[u.length]'hlt = c := by
    show ((u ++ c :: v).toArray)[u.length]'_ = c
    simp
  rw [decode_ascii _ _ hlt (by rw [he]; exact h), he]
theorem dec_high {u v : List UInt8} {c : UInt8} (h : ¬ c.toNat < 128) : 128 ≤ (Utf8.decode ⟨(u ++ c :: v).toArray⟩ u.length).1 ∧ 1 ≤ (Utf8.decode ⟨(u ++ c :: v).toArray⟩ u.length).2 := by
  have hlt : u.length < (⟨(u ++ c :: v).toArray⟩ : ByteArray).size := by show u.length < (u ++ c :: v).toArray.size; simp
  have he : (⟨(u ++ c :: v).toArray⟩ : ByteArray)[u.length]'hlt = c := by
    show ((u ++ c :: v).toArray)[u.length]'_ = c
    simp
  exact decode_high _ _ hlt (by rw [he]; omega)

/-! ### Names -/

def letB (c : UInt8) : Bool := decide (97 ≤ c.toNat) && decide (c.toNat ≤ 122)
def digB (c : UInt8) : Bool := isDig c || decide (c.toNat = 45)
def nmAll : Bool → List UInt8 → Bool
  | _, [] => true
  | f, c :: r => (letB c || (!f && digB c)) && nmAll false r
def nameB (s : List UInt8) : Bool := decide (1 ≤ s.length) && decide (s.length ≤ 12) && nmAll true s

/-! ### Numerals, digit by digit from the right -/

/-- What a loop lays in front, from the lowest digit on. -/
theorem dec_rec (u : Nat) (h : u ≠ 0) : Lib.decDigits u = (if u / 10 = 0 then [] else Lib.decDigits (u / 10)) ++ [UInt8.ofNat (48 + u % 10)] := by
  by_cases hu : u < 10
  · rw [dec_small hu, if_pos (by omega), show u % 10 = u by omega]; rfl
  · rw [dec_big hu, if_neg (by omega)]

end Go.Ab
