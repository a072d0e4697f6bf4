/-
  Texts of the layer and of the laws, put together: AbA23. No law is stated here.
-/
import Derived.Test.YtkneajcbgoaadaaGreatDoorAbV38
set_option linter.unusedSimpArgs false
set_option linter.unusedVariables false
set_option maxRecDepth 100000

/-
  Agencies' files: what is printed is parsed, and not if its end is missing: lines.
-/
namespace Go.Ab
open Go.RowKit Go.Proofs

theorem cut_none {s : List UInt8} (h : (10 : UInt8) ∉ s) : (Lib.cut s [10]).2.2 = false := by
  have hi : Lib.index s [10] = -1 := by
    rcases Lib.index_spec s [10] with ⟨h1, _⟩ | ⟨i, h1, h2, h3, _⟩
    · exact h1
    · exfalso
      unfold Lib.occAt at h3
      cases hq : s.drop i with
      | nil => rw [hq] at h3; simp at h3
      | cons a t =>
        rw [hq] at h3
        have : (10 : UInt8) = a := by simpa using h3
        exact h (List.mem_of_mem_drop (i := i) (by rw [hq, ← this]; exact List.mem_cons_self))
  unfold Lib.cut
  rw [if_neg (by omega)]
theorem cut_app {s r : List UInt8} (h : (10 : UInt8) ∉ s) : Lib.cut (s ++ 10 :: r) [10] = (s, r, true) := by
  have hi : Lib.index (s ++ 10 :: r) [10] = s.length := by
    refine Lib.index_first (by simp) (by simp [Lib.occAt, List.isPrefixOf]) fun j hj => ?_
    unfold Lib.occAt
    rw [List.drop_append_of_le_length (by omega)]
    cases hq : s.drop j with
    | nil => exact absurd (congrArg List.length hq) (by simp; omega)
    | cons a t =>
      have ha : a ≠ 10 := fun e => h (List.mem_of_mem_drop (i := j) (by rw [hq, ← e]; exact List.mem_cons_self))
      simp [List.isPrefixOf]
      exact fun e => ha e.symm
  unfold Lib.cut
  rw [hi, if_pos (by omega), Int.toNat_natCast]
  simp

theorem prs_line {k : Nat} {x : Rdr} {n : Int} {s r : List UInt8} (h : (10 : UInt8) ∉ s) : prs (k + 1) x n (s ++ 10 :: r) = match lineE x s with
    | .error e => (zFil, n + 1, e)
    | .ok x' => prs k x' (n + 1) r := by
  rw [prs, if_neg (by simp), cut_app h]
  rfl
theorem prs_part {k : Nat} {x : Rdr} {n : Int} {s : List UInt8} (h : (10 : UInt8) ∉ s) (hs : s ≠ []) : prs (k + 1) x n s = (zFil, n + 1, 7) := by
  rw [prs, if_neg hs, if_pos (cut_none h)]
theorem prs_open {k : Nat} {x : Rdr} {n : Int} (h : x.fin = false) : prs (k + 1) x n [] = (zFil, n + 1, 7) := by
  rw [prs, if_pos rfl, if_neg (by simp [h])]

/-- Lines that are read one after the other. -/
inductive Chain : Rdr → List (List UInt8) → Rdr → Prop where
  | nil (x : Rdr) : Chain x [] x
  | cons {x x' y : Rdr} {s : List UInt8} {L : List (List UInt8)} (hf : x.fin = false) (hn : (10 : UInt8) ∉ s) (hl : lineE x s = .ok x') (h : Chain x' L y) : Chain x (s :: L) y
theorem Chain.append {x y z : Rdr} {L K : List (List UInt8)} (h : Chain x L y) (h2 : Chain y K z) : Chain x (L ++ K) z := by
  induction h with
  | nil x => exact h2
  | cons hf hn hl _ ih => exact .cons hf hn hl (ih h2)
def flatL (L : List (List UInt8)) : List UInt8 := L.flatMap (· ++ [10])

theorem chain_full {x y : Rdr} {L : List (List UInt8)} (h : Chain x L y) (hy : y.fin = true) : ∀ (k : Nat) (n : Int), L.length < k → prs k x n (flatL L) = (y.fil, 0, 0) := by
  induction h with
  | nil x =>
    intro k n hk
    obtain ⟨k, rfl⟩ : ∃ k', k = k' + 1 := ⟨k - 1, by simp at hk; omega⟩
    show prs (k + 1) x n [] = _
    rw [prs, if_pos rfl, if_pos hy]
  | cons hf hn hl _ ih =>
    intro k n hk
    obtain ⟨k, rfl⟩ : ∃ k', k = k' + 1 := ⟨k - 1, by simp at hk; omega⟩
    rename_i x x' y s L h'
    rw [show flatL (s :: L) = s ++ 10 :: flatL L by simp [flatL], prs_line hn, hl]
    exact ih hy k (n + 1) (by simpa using hk)
theorem chain_cut {x y : Rdr} {L : List (List UInt8)} (h : Chain x L y) : ∀ (k m : Nat) (n : Int), m < k → m < (flatL L).length → 0 ≤ n → ∃ j, prs k x n ((flatL L).take m) = (zFil, j, 7) ∧ 0 < j := by
  induction h with
  | nil x =>
    intro k m n hk hm
    exact absurd hm (by simp [flatL])
  | cons hf hn hl _ ih =>
    intro k m n hk hm h0
    obtain ⟨k, rfl⟩ : ∃ k', k = k' + 1 := ⟨k - 1, by omega⟩
    rename_i x x' y s L h'
    have e : flatL (s :: L) = s ++ 10 :: flatL L := by simp [flatL]
    rw [e] at hm ⊢
    rw [List.length_append, List.length_cons] at hm
    by_cases hm0 : m = 0
    · subst hm0
      exact ⟨n + 1, prs_open hf, by omega⟩
    by_cases hms : m ≤ s.length
    · rw [List.take_append_of_le_length hms]
      refine ⟨n + 1, prs_part (fun hm => hn (List.mem_of_mem_take hm)) (fun h => hm0 ?_), by omega⟩
      have := congrArg List.length h
      simp at this
      rcases this with h1 | h1
      · exact h1
      · subst h1; simpa using hms
    · obtain ⟨q, rfl⟩ : ∃ q, m = s.length + (q + 1) := ⟨m - s.length - 1, by omega⟩
      rw [List.take_length_add_append, List.take_succ_cons, prs_line hn, hl]
      exact ih k q (n + 1) (by omega) (by omega) (by omega)

/-- A text of pieces is taken apart again. -/
theorem spl_pieces : ∀ (P : List (List UInt8)), P ≠ [] → (∀ p ∈ P, (32 : UInt8) ∉ p) → spl 32 (List.intercalate [32] P) = P
  | [a], _, h => by
    have : List.intercalate [32] [a] = a := by simp [List.intercalate]
    rw [this]
    exact spl_none 32 a (h a (by simp))
  | a :: b :: r, _, h => by
    have e : List.intercalate [32] (a :: b :: r) = a ++ 32 :: List.intercalate [32] (b :: r) := by simp [List.intercalate, List.intersperse]
    rw [e, spl_append 32 _ _ (h a (by simp)), spl_pieces (b :: r) (by simp) fun p hp => h p (List.mem_cons_of_mem _ hp)]
def goodP (p : List UInt8) : Prop := p ≠ [] ∧ ∀ c ∈ p, 33 ≤ c.toNat ∧ c.toNat ≤ 126
theorem int_bytes : ∀ (P : List (List UInt8)), (∀ p ∈ P, ∀ c ∈ p, 33 ≤ c.toNat ∧ c.toNat ≤ 126) → ∀ c ∈ List.intercalate [32] P, c = 32 ∨ (33 ≤ c.toNat ∧ c.toNat ≤ 126)
  | [], _, c, h => by simp [List.intercalate] at h
  | [a], hP, c, h => by
    have : List.intercalate [32] [a] = a := by simp [List.intercalate]
    rw [this] at h
    exact .inr (hP a (by simp) c h)
  | a :: b :: r, hP, c, h => by
    have e : List.intercalate [32] (a :: b :: r) = a ++ 32 :: List.intercalate [32] (b :: r) := by simp [List.intercalate, List.intersperse]
    rw [e] at h
    rcases List.mem_append.1 h with h | h
    · exact .inr (hP a (by simp) c h)
    · rcases List.mem_cons.1 h with h | h
      · exact .inl h
      · exact int_bytes (b :: r) (fun p hp => hP p (List.mem_cons_of_mem _ hp)) c h
theorem fields_pieces {P : List (List UInt8)} (hne : P ≠ []) (hP : ∀ p ∈ P, goodP p) (hl : (List.intercalate [32] P).length ≤ 512) : fieldsF (List.intercalate [32] P) = (some P, 0) ∧ (10 : UInt8) ∉ List.intercalate [32] P := by
  have hb := int_bytes P fun p hp => (hP p hp).2
  have hs := spl_pieces P hne fun p hp h => by have := (hP p hp).2 32 h; revert this; decide
  refine ⟨?_, fun h => ?_⟩
  · unfold fieldsF
    rw [if_neg (by omega), if_neg (fun h0 => ?_), if_pos ?_, hs]
    · refine ⟨?_, ?_⟩
      · rw [List.all_eq_true]
        intro c hc
        simp only [okF, Bool.and_eq_true, decide_eq_true_eq]
        rcases hb c hc with rfl | h
        · decide
        · omega
      · rw [hs]
        exact fun h => (hP [] h).1 rfl
    · rw [h0] at hs
      have : P = [[]] := hs.symm
      exact (hP [] (by rw [this]; simp)).1 rfl
  · rcases hb 10 h with h | h
    · revert h; decide
    · revert h; decide

end Go.Ab
