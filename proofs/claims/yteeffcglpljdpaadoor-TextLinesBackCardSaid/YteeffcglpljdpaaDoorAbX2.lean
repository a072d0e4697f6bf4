/-
  Plain laws on texts: numerals, escapes, fields, lines.
-/
import Derived.Test.YteeffcglpljdpaaDoorAbX1
set_option linter.unusedSimpArgs false
set_option linter.unusedVariables false
namespace Go.Ab

def isDig (c : UInt8) : Bool := decide (48 ≤ c.toNat) && decide (c.toNat ≤ 57)

/-- The decimal value, from the left. -/
def valF (n : Nat) : List UInt8 → Nat
  | [] => n
  | c :: r => valF (10 * n + (c.toNat - 48)) r
abbrev val (l : List UInt8) : Nat := valF 0 l

theorem valF_append (a b : List UInt8) (n : Nat) : valF n (a ++ b) = valF (valF n a) b := by
  induction a generalizing n with
  | nil => rfl
  | cons c a ih =>
    rw [List.cons_append]
    show valF (10 * n + (c.toNat - 48)) (a ++ b) = valF (valF (10 * n + (c.toNat - 48)) a) b
    exact ih _
theorem val_snoc (a : List UInt8) (c : UInt8) : val (a ++ [c]) = 10 * val a + (c.toNat - 48) := by
  rw [val, valF_append]; rfl
theorem valF_le : ∀ (l : List UInt8) (n : Nat), n ≤ valF n l
  | [], n => Nat.le_refl _
  | c :: l, n => Nat.le_trans (by omega) (valF_le l _)

/-- Number. -/
def numF (s : List UInt8) : Int × Int :=
  if Lib.trimPrefix s [45] = [] ∨ ((Lib.trimPrefix s [45]).head? = some 48 ∧ s ≠ [48]) then (0, 5)
  else if (Lib.trimPrefix s [45]).all isDig = true then
    (if 2147483648 < val (Lib.trimPrefix s [45]) then (0, 2) else (if Lib.trimPrefix s [45] = s then (val (Lib.trimPrefix s [45]) : Int) else -(val (Lib.trimPrefix s [45]) : Int), 0))
  else (0, 5)

theorem trim_minus (s : List UInt8) : (∃ r, s = 45 :: r ∧ Lib.trimPrefix s [45] = r) ∨ ((∀ r, s ≠ 45 :: r) ∧ Lib.trimPrefix s [45] = s) := by
  cases s with
  | nil => right; exact ⟨by simp, rfl⟩
  | cons c r =>
    by_cases hc : c = 45
    · subst hc; left; exact ⟨r, rfl, by simp [Lib.trimPrefix, Lib.hasPrefix, List.isPrefixOf]⟩
    · right
      refine ⟨fun r' h => hc (List.cons.inj h).1, ?_⟩
      have : ((45 : UInt8) == c) = false := by simpa using fun h : (45 : UInt8) = c => hc h.symm
      simp [Lib.trimPrefix, Lib.hasPrefix, List.isPrefixOf, this]

theorem head_app {a b : List UInt8} (h : a ≠ []) : (a ++ b).head? = a.head? := by
  cases a with
  | nil => exact absurd rfl h
  | cons x r => rfl
theorem dec_small {u : Nat} (h : u < 10) : Lib.decDigits u = [UInt8.ofNat (48 + u)] := by rw [Lib.decDigits]; simp [h]
theorem dec_big {u : Nat} (h : ¬ u < 10) : Lib.decDigits u = Lib.decDigits (u / 10) ++ [UInt8.ofNat (48 + u % 10)] := by rw [Lib.decDigits]; simp [h]
theorem ofNat_toNat {n : Nat} (h : n < 256) : (UInt8.ofNat n).toNat = n := by simp [UInt8.toNat_ofNat']; omega

theorem dec_spec : ∀ (n u : Nat), u < n → (Lib.decDigits u).all isDig = true ∧ val (Lib.decDigits u) = u ∧ Lib.decDigits u ≠ [] ∧ ((Lib.decDigits u).head? = some 48 → u = 0)
  | 0, u, h => by omega
  | n + 1, u, h => by
    by_cases hu : u < 10
    · rw [dec_small hu]
      have e := ofNat_toNat (n := 48 + u) (by omega)
      refine ⟨?_, ?_, by simp, fun h0 => ?_⟩
      · simp only [List.all_cons, List.all_nil, isDig, e, Bool.and_true, Bool.and_eq_true, decide_eq_true_eq]; omega
      · have : val [UInt8.ofNat (48 + u)] = 10 * 0 + ((UInt8.ofNat (48 + u)).toNat - 48) := rfl
        rw [this, e]; omega
      · simp only [List.head?_cons, Option.some.injEq] at h0
        have := congrArg UInt8.toNat h0
        rw [e] at this
        have : 48 + u = 48 := this
        omega
    · rw [dec_big hu]
      obtain ⟨h1, h2, h3, h4⟩ := dec_spec n (u / 10) (by omega)
      have e := ofNat_toNat (n := 48 + u % 10) (by omega)
      refine ⟨?_, ?_, by simp, fun h0 => ?_⟩
      · rw [List.all_append, h1]; simp only [List.all_cons, List.all_nil, isDig, e, Bool.true_and, Bool.and_true, Bool.and_eq_true, decide_eq_true_eq]; omega
      · rw [val_snoc, h2, e]; omega
      · rw [head_app h3] at h0
        have := h4 h0
        omega

/-- Digits without a needless zero are the numeral of their value. -/
theorem dec_val : ∀ (l : List UInt8), l ≠ [] → l.all isDig = true → (l.head? = some 48 → l = [48]) → Lib.decDigits (val l) = l := by
  intro l
  induction h : l.length generalizing l with
  | zero => intro hl; exact absurd (List.eq_nil_of_length_eq_zero h) hl
  | succ n ih =>
    intro hl hd h0
    rcases List.eq_nil_or_concat l with rfl | ⟨a, c, rfl⟩
    · exact absurd rfl hl
    rw [List.concat_eq_append] at *
    rw [List.all_append, Bool.and_eq_true] at hd
    obtain ⟨hda, hdc⟩ := hd
    simp only [List.all_cons, List.all_nil, Bool.and_true, isDig, Bool.and_eq_true, decide_eq_true_eq] at hdc
    have hv := val_snoc a c
    by_cases ha : a = []
    · subst ha
      have hv0 : val ([] : List UInt8) = 0 := rfl
      rw [hv, hv0, List.nil_append]
      rw [dec_small (by omega)]
      congr 1
      apply UInt8.toNat_inj.1
      rw [ofNat_toNat (by omega)]; omega
    · have hlen : a.length = n := by simp at h; omega
      have h0a : a.head? = some 48 → a = [48] := fun h1 => by
        have := h0 (by rw [head_app ha]; exact h1)
        have hl2 := congrArg List.length this
        simp at hl2
        exact absurd hl2 ha
      have iha := ih a hlen ha hda h0a
      have hpos : 0 < val a := by
        rcases Nat.eq_zero_or_pos (val a) with h1 | h1
        · exfalso
          rw [h1, dec_small (by omega)] at iha
          have h2 : a = [48] := iha.symm
          have := h0 (by rw [head_app ha, h2]; rfl)
          rw [h2] at this
          simp at this
        · exact h1
      rw [hv, dec_big (by omega), show (10 * val a + (c.toNat - 48)) / 10 = val a by omega, iha]
      congr 1
      congr 1
      apply UInt8.toNat_inj.1
      rw [ofNat_toNat (by omega)]; omega

theorem itoa_spec (n : Int) : Lib.itoa n = if n < 0 then 45 :: Lib.decDigits n.natAbs else Lib.decDigits n.toNat := rfl

theorem dec_head {u : Nat} : (Lib.decDigits u).head? ≠ some 45 := fun h => by
  obtain ⟨h1, _, h3, _⟩ := dec_spec (u + 1) u (by omega)
  cases hd : Lib.decDigits u with
  | nil => exact h3 hd
  | cons c r =>
    rw [hd] at h h1
    simp only [List.head?_cons, Option.some.injEq] at h
    subst h
    simp [isDig] at h1

/-- Number inverts Format. -/
theorem num_itoa (n : Int) : numF (Lib.itoa n) = if -2147483648 ≤ n ∧ n ≤ 2147483648 then (n, 0) else (0, 2) := by
  have key : ∀ (u : Nat), (Lib.decDigits u).all isDig = true ∧ val (Lib.decDigits u) = u ∧ Lib.decDigits u ≠ [] ∧ ((Lib.decDigits u).head? = some 48 → u = 0) := fun u => dec_spec (u + 1) u (by omega)
  rw [itoa_spec]
  by_cases hn : n < 0
  · rw [if_pos hn]
    obtain ⟨h1, h2, h3, h4⟩ := key n.natAbs
    have ht : Lib.trimPrefix (45 :: Lib.decDigits n.natAbs) [45] = Lib.decDigits n.natAbs := by
      rcases trim_minus (45 :: Lib.decDigits n.natAbs) with ⟨r, e1, e2⟩ | ⟨e1, _⟩
      · cases e1; exact e2
      · exact absurd rfl (e1 _)
    have hne : Lib.decDigits n.natAbs ≠ 45 :: Lib.decDigits n.natAbs := fun h => by
      have := congrArg List.length h; simp at this
    unfold numF
    rw [ht, if_neg (by
      rintro (h | ⟨h, _⟩)
      · exact h3 h
      · have := h4 h; omega), if_pos h1, h2]
    by_cases hb : -2147483648 ≤ n
    · rw [if_neg (by omega), if_neg hne, if_pos (by omega)]
      congr 1
      omega
    · rw [if_pos (by omega), if_neg (by omega)]
  · rw [if_neg hn]
    obtain ⟨h1, h2, h3, h4⟩ := key n.toNat
    have ht : Lib.trimPrefix (Lib.decDigits n.toNat) [45] = Lib.decDigits n.toNat := by
      rcases trim_minus (Lib.decDigits n.toNat) with ⟨r, e1, _⟩ | ⟨_, e2⟩
      · exact absurd (by rw [e1]; rfl) (dec_head (u := n.toNat))
      · exact e2
    unfold numF
    rw [ht, if_neg (by
      rintro (h | ⟨h, h'⟩)
      · exact h3 h
      · have := h4 h
        rw [this] at h'
        exact h' (by rw [dec_small (by omega)]; rfl)), if_pos h1, h2]
    by_cases hb : n ≤ 2147483648
    · rw [if_neg (by omega), if_pos rfl, if_pos (by omega)]
      congr 1
      omega
    · rw [if_pos (by omega), if_neg (by omega)]

/-- Format inverts Number. -/
theorem itoa_num {s : List UInt8} (h : (numF s).2 = 0) : Lib.itoa (numF s).1 = s := by
  unfold numF at h ⊢
  split at h
  · cases h
  · rename_i h0
    rw [if_neg h0]
    split at h
    · rename_i hd
      rw [if_pos hd]
      split at h
      · cases h
      · rename_i hv
        rw [if_neg hv]
        simp only [not_or, not_and] at h0
        obtain ⟨hne, hz⟩ := h0
        rcases trim_minus s with ⟨r, rfl, ht⟩ | ⟨hno, ht⟩
        · rw [ht] at hne hz hd hv ⊢
          have hz' : r.head? ≠ some 48 := fun h1 => hz h1 (by simp)
          have hdv := dec_val r hne hd (fun h1 => absurd h1 hz')
          have hpos : 0 < val r := by
            rcases Nat.eq_zero_or_pos (val r) with h1 | h1
            · exfalso
              rw [h1, dec_small (by omega)] at hdv
              exact hz' (by rw [← hdv]; rfl)
            · exact h1
          have hsr : r ≠ 45 :: r := fun h => by have := congrArg List.length h; simp at this
          rw [if_neg hsr, itoa_spec, if_pos (by omega), show (-(val r : Int)).natAbs = val r by omega, hdv]
        · rw [ht] at hne hz hd hv ⊢
          have hdv := dec_val s hne hd (fun h1 => by
            by_cases hs : s = [48]
            · exact hs
            · exact absurd hs (hz h1))
          rw [if_pos rfl, itoa_spec, if_neg (by omega), show ((val s : Nat) : Int).toNat = val s by omega, hdv]
    · cases h

end Go.Ab
