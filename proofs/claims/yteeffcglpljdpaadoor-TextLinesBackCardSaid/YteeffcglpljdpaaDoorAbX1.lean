/-
  Plain laws on texts: cutting at a byte, numerals, fields, escapes. No program in sight.
-/
import Derived.Lib.SplitLaws
import Derived.Lib.IndexBytes
import Derived.Lib.ItoaNum
import Derived.Lib.Strings
import Derived.Lib.Join
set_option linter.unusedSimpArgs false
set_option linter.unusedVariables false
namespace Go.Ab

/-! ### Cutting at a byte -/

def spl (c : UInt8) : List UInt8 → List (List UInt8)
  | [] => [[]]
  | x :: r => if x = c then [] :: spl c r else match spl c r with
    | h :: t => (x :: h) :: t
    | [] => [[x]]

theorem spl_ne (c : UInt8) : ∀ l, spl c l ≠ []
  | [] => by simp [spl]
  | x :: r => by
    simp only [spl]
    split
    · simp
    · split <;> simp

theorem splitK_eq (c : UInt8) : ∀ l : List UInt8, Lib.splitK [c] 0 (l.count c) l = spl c l
  | [] => rfl
  | x :: r => by
    have ih := splitK_eq c r
    by_cases hx : x = c
    · subst hx
      rw [List.count_cons_self]
      simp only [Lib.splitK, Lib.index_one, Lib.indexByte, beq_self_eq_true, if_true, spl]
      rw [← ih]
      rfl
    · have hxc : (x == c) = false := by simpa using hx
      rw [List.count_cons_of_ne hx]
      simp only [spl, if_neg hx]
      by_cases hi : Lib.indexByte r c = -1
      · have hi' : Lib.indexByte (x :: r) c = -1 := by simp [Lib.indexByte, hxc, hi]
        have e1 : Lib.splitK [c] 0 (r.count c) r = [r] := by
          cases r.count c with
          | zero => rfl
          | succ k => simp [Lib.splitK, Lib.index_one, hi]
        have e2 : Lib.splitK [c] 0 (r.count c) (x :: r) = [x :: r] := by
          cases r.count c with
          | zero => rfl
          | succ k => simp [Lib.splitK, Lib.index_one, hi']
        rw [e2, ← ih, e1]
      · have hge := Lib.indexByte_ge r c
        have hi' : Lib.indexByte (x :: r) c = Lib.indexByte r c + 1 := by simp [Lib.indexByte, hxc, hi]
        cases hk : r.count c with
        | zero =>
          exfalso
          rw [hk] at ih
          have hmem : c ∉ r := by rw [← List.count_eq_zero]; exact hk
          have : ∀ r : List UInt8, c ∉ r → Lib.indexByte r c = -1 := fun r => by
            induction r with
            | nil => intro _; rfl
            | cons y r ihr =>
              intro hm
              have hy : (y == c) = false := by
                simp only [List.mem_cons, not_or] at hm
                simpa using fun h : y = c => hm.1 h.symm
              simp [Lib.indexByte, hy, ihr (fun h => hm (List.mem_cons_of_mem _ h))]
          exact hi (this r hmem)
        | succ k =>
          rw [hk] at ih
          have b1 : (Lib.indexByte r c == -1) = false := by simpa using hi
          have b2 : (Lib.indexByte r c + 1 == -1) = false := by simp; omega
          simp only [Lib.splitK, Lib.index_one, hi', b1, b2, Bool.false_eq_true, if_false, List.length_singleton, Nat.add_zero] at ih ⊢
          rw [← ih, show (Lib.indexByte r c + 1).toNat = (Lib.indexByte r c).toNat + 1 by omega]
          rfl

/-- One piece at the end, then the rest. -/
theorem spl_append (c : UInt8) : ∀ (a b : List UInt8), c ∉ a → spl c (a ++ c :: b) = a :: spl c b
  | [], b, _ => by simp [spl]
  | x :: a, b, h => by
    have hx : x ≠ c := fun h1 => h (by rw [h1]; exact List.mem_cons_self)
    have ih := spl_append c a b (fun h1 => h (List.mem_cons_of_mem _ h1))
    simp only [List.cons_append, spl, if_neg hx, ih]

theorem spl_none (c : UInt8) : ∀ (a : List UInt8), c ∉ a → spl c a = [a]
  | [], _ => rfl
  | x :: a, h => by
    have hx : x ≠ c := fun h1 => h (by rw [h1]; exact List.mem_cons_self)
    have ih := spl_none c a (fun h1 => h (List.mem_cons_of_mem _ h1))
    simp only [spl, if_neg hx, ih]

theorem spl_join (c : UInt8) : ∀ l, List.intercalate [c] (spl c l) = l
  | [] => by simp [spl, List.intercalate]
  | x :: r => by
    have ih := spl_join c r
    simp only [spl]
    split
    · rename_i h
      subst h
      cases hs : spl x r with
      | nil => exact absurd hs (spl_ne x r)
      | cons h t => rw [hs] at ih; simpa [List.intercalate] using ih
    · cases hs : spl c r with
      | nil => exact absurd hs (spl_ne c r)
      | cons h t =>
        rw [hs] at ih
        simp only
        rw [← ih]
        cases t <;> simp [List.intercalate]

theorem spl_mem (c : UInt8) : ∀ (l : List UInt8) (p : List UInt8), p ∈ spl c l → c ∉ p ∧ ∀ x ∈ p, x ∈ l
  | [], p, h => by simp [spl] at h; subst h; simp
  | x :: r, p, h => by
    simp only [spl] at h
    split at h
    · rcases List.mem_cons.1 h with rfl | h
      · simp
      · obtain ⟨h1, h2⟩ := spl_mem c r p h
        exact ⟨h1, fun y hy => List.mem_cons_of_mem _ (h2 y hy)⟩
    · rename_i hx
      cases hs : spl c r with
      | nil => exact absurd hs (spl_ne c r)
      | cons q t =>
        rw [hs] at h
        rcases List.mem_cons.1 h with rfl | h
        · obtain ⟨h1, h2⟩ := spl_mem c r q (by rw [hs]; exact List.mem_cons_self)
          refine ⟨fun hm => ?_, fun y hy => ?_⟩
          · rcases List.mem_cons.1 hm with h3 | h3
            · exact hx h3.symm
            · exact h1 h3
          · rcases List.mem_cons.1 hy with h3 | h3
            · subst h3; exact List.mem_cons_self
            · exact List.mem_cons_of_mem _ (h2 y h3)
        · obtain ⟨h1, h2⟩ := spl_mem c r p (by rw [hs]; exact List.mem_cons_of_mem _ h)
          exact ⟨h1, fun y hy => List.mem_cons_of_mem _ (h2 y hy)⟩

theorem spl_len (c : UInt8) : ∀ l, (spl c l).length ≤ l.length + 1
  | [] => by simp [spl]
  | x :: r => by
    have ih := spl_len c r
    simp only [spl]
    split
    · simp; exact ih
    · cases hs : spl c r with
      | nil => simp
      | cons q t => rw [hs] at ih; simp at ih ⊢; omega

/-- Cutting from the left, as a loop does: what has been cut, and the piece begun. -/
theorem spl_step (c : UInt8) (done : List (List UInt8)) (cur rest : List UInt8) (hc : c ∉ cur) : ∀ x, (x = c → done ++ spl c (cur ++ x :: rest) = (done ++ [cur]) ++ spl c rest) := fun x hx => by
  subst hx
  rw [spl_append x cur rest hc]
  simp

/-! ### Bytes -/

theorem u8_eq (a b : UInt8) : (a.toNat : Int) = b.toNat ↔ a = b := by
  constructor
  · intro h; exact UInt8.toNat_inj.1 (by omega)
  · rintro rfl; rfl
theorem u8_lt (a : UInt8) : (a.toNat : Int) < 256 := by have := a.toNat_lt; omega

end Go.Ab
