/-
  Plain laws on texts: escapes, fields, lines.
-/
import Derived.Test.YteeffcglpljdpaaDoorAbX2
set_option linter.unusedSimpArgs false
set_option linter.unusedVariables false
namespace Go.Ab

def plainB (c : UInt8) : Bool := decide (33 ≤ c.toNat) && decide (c.toNat ≤ 126) && !decide (c.toNat = 37)
def hexD (n : Nat) : UInt8 := if n < 10 then UInt8.ofNat (48 + n) else UInt8.ofNat (55 + n)
def hexV (c : UInt8) : Int := if 48 ≤ c.toNat ∧ c.toNat ≤ 57 then (c.toNat : Int) - 48 else if 65 ≤ c.toNat ∧ c.toNat ≤ 70 then (c.toNat : Int) - 55 else -1
def esc1 (c : UInt8) : List UInt8 := if plainB c = true then [c] else [37, hexD (c.toNat / 16), hexD (c.toNat % 16)]
def escF (s : List UInt8) : List UInt8 := if s = [] then [37] else s.flatMap esc1

def byte2 (a b : UInt8) : UInt8 := UInt8.ofNat (16 * hexV a + hexV b).toNat
def okHex (c a b : UInt8) : Bool := decide (c.toNat = 37) && decide (0 ≤ hexV a) && decide (0 ≤ hexV b) && !plainB (byte2 a b)

def un : List UInt8 → Option (List UInt8)
  | [] => some []
  | [c] => if plainB c = true then some [c] else none
  | [c, d] => if plainB c = true then (un [d]).map (c :: ·) else none
  | c :: a :: b :: r => if plainB c = true then (un (a :: b :: r)).map (c :: ·) else if okHex c a b = true then (un r).map (byte2 a b :: ·) else none

def unescF (s : List UInt8) : List UInt8 × Int :=
  if s = [37] then ([], 0) else if s = [] then ([], 5) else match un s with
    | some v => (v, 0)
    | none => ([], 5)

theorem un_plain {c : UInt8} (h : plainB c = true) (r : List UInt8) : un (c :: r) = (un r).map (c :: ·) := by
  match r with
  | [] => simp [un, h]
  | [d] => simp [un, h]
  | a :: b :: r => simp [un, h]
theorem un_hex {c a b : UInt8} (h : plainB c = false) (r : List UInt8) : un (c :: a :: b :: r) = if okHex c a b = true then (un r).map (byte2 a b :: ·) else none := by
  rw [un]; simp [h]
theorem un_short {c : UInt8} (h : plainB c = false) {r : List UInt8} (hr : r.length < 2) : un (c :: r) = none := by
  match r, hr with
  | [], _ => simp [un, h]
  | [d], _ => simp [un, h]

theorem hex_all : ∀ n : Nat, n < 256 → hexV (hexD (n / 16)) = (n / 16 : Nat) ∧ hexV (hexD (n % 16)) = (n % 16 : Nat) := by decide +kernel
theorem hex_back : ∀ n : Nat, n < 256 → 0 ≤ hexV (UInt8.ofNat n) → hexV (UInt8.ofNat n) < 16 ∧ hexD (hexV (UInt8.ofNat n)).toNat = UInt8.ofNat n := by decide +kernel

theorem hexV_back (c : UInt8) (h : 0 ≤ hexV c) : hexV c < 16 ∧ hexD (hexV c).toNat = c := by
  have h1 : UInt8.ofNat c.toNat = c := by simp
  have h2 := hex_back c.toNat c.toNat_lt
  rw [h1] at h2
  exact h2 h

theorem plain_37 : plainB 37 = false := by decide
theorem plain_not37 {c : UInt8} (h : c.toNat = 37) : plainB c = false := by simp [plainB, h]

theorem esc_hex (c : UInt8) (h : plainB c = false) : okHex 37 (hexD (c.toNat / 16)) (hexD (c.toNat % 16)) = true ∧ byte2 (hexD (c.toNat / 16)) (hexD (c.toNat % 16)) = c := by
  obtain ⟨h1, h2⟩ := hex_all c.toNat c.toNat_lt
  have e : byte2 (hexD (c.toNat / 16)) (hexD (c.toNat % 16)) = c := by
    unfold byte2
    rw [h1, h2]
    apply UInt8.toNat_inj.1
    have := c.toNat_lt
    rw [show (16 * ((c.toNat / 16 : Nat) : Int) + ((c.toNat % 16 : Nat) : Int)).toNat = c.toNat by omega, ofNat_toNat (by omega)]
  refine ⟨?_, e⟩
  unfold okHex
  rw [e, h, h1, h2]
  have t1 : decide ((37 : UInt8).toNat = 37) = true := by decide
  rw [t1]
  simp
  omega

theorem un_esc : ∀ s : List UInt8, un (s.flatMap esc1) = some s
  | [] => rfl
  | c :: s => by
    have ih := un_esc s
    rw [List.flatMap_cons]
    by_cases h : plainB c = true
    · rw [esc1, if_pos h, List.singleton_append, un_plain h, ih]; rfl
    · have h' : plainB c = false := by simpa using h
      obtain ⟨h1, h2⟩ := esc_hex c h'
      rw [esc1, if_neg h]
      simp only [List.cons_append, List.nil_append]
      rw [un_hex plain_37, if_pos h1, ih, h2]; rfl

theorem esc_un : ∀ (n : Nat) (s v : List UInt8), s.length ≤ n → un s = some v → v.flatMap esc1 = s
  | _, [], v, _, h => by
    rw [un] at h
    cases h
    rfl
  | 0, c :: s, v, hn, _ => by simp at hn
  | n + 1, c :: s, v, hn, h => by
    simp only [List.length_cons] at hn
    by_cases hp : plainB c = true
    · rw [un_plain hp] at h
      cases hu : un s with
      | none => rw [hu] at h; cases h
      | some w =>
        rw [hu] at h
        simp only [Option.map_some, Option.some.injEq] at h
        subst h
        rw [List.flatMap_cons, esc1, if_pos hp, esc_un n s w (by omega) hu]; rfl
    · have hp' : plainB c = false := by simpa using hp
      match s, hn, h with
      | [], _, h => rw [un_short hp' (by simp)] at h; cases h
      | [d], _, h => rw [un_short hp' (by simp)] at h; cases h
      | a :: b :: r, hn, h =>
        rw [un_hex hp'] at h
        split at h
        · rename_i hx
          cases hu : un r with
          | none => rw [hu] at h; cases h
          | some w =>
            rw [hu] at h
            simp only [Option.map_some, Option.some.injEq] at h
            subst h
            simp only [okHex, Bool.and_eq_true, decide_eq_true_eq, Bool.not_eq_true'] at hx
            obtain ⟨⟨⟨x1, x2⟩, x3⟩, x4⟩ := hx
            obtain ⟨a1, a2⟩ := hexV_back a x2
            obtain ⟨b1, b2⟩ := hexV_back b x3
            have hn37 : ¬ plainB (byte2 a b) = true := by rw [x4]; simp
            have hb : (byte2 a b).toNat = (16 * hexV a + hexV b).toNat := by unfold byte2; rw [ofNat_toNat (by omega)]
            have d1 : (byte2 a b).toNat / 16 = (hexV a).toNat := by rw [hb]; omega
            have d2 : (byte2 a b).toNat % 16 = (hexV b).toNat := by rw [hb]; omega
            simp only [List.length_cons] at hn
            rw [List.flatMap_cons, esc1, if_neg hn37, d1, d2, a2, b2, esc_un n r w (by omega) hu]
            have hc : c = 37 := UInt8.toNat_inj.1 x1
            rw [hc]; rfl
        · cases h

theorem unesc_esc (s : List UInt8) : unescF (escF s) = (s, 0) := by
  unfold escF
  by_cases hs : s = []
  · subst hs; rfl
  · rw [if_neg hs]
    have h := un_esc s
    unfold unescF
    have h1 : s.flatMap esc1 ≠ [37] := fun e => by
      rw [e] at h
      have : un [37] = none := un_short plain_37 (by simp)
      rw [this] at h; cases h
    have h2 : s.flatMap esc1 ≠ [] := fun e => by
      rw [e, un] at h
      cases h
      exact hs rfl
    rw [if_neg h1, if_neg h2, h]

theorem esc_unesc {s : List UInt8} (h : (unescF s).2 = 0) : escF (unescF s).1 = s := by
  unfold unescF at h ⊢
  by_cases h1 : s = [37]
  · subst h1; rfl
  · rw [if_neg h1] at h ⊢
    by_cases h2 : s = []
    · rw [if_pos h2] at h; cases h
    · rw [if_neg h2] at h ⊢
      cases hu : un s with
      | none => rw [hu] at h; cases h
      | some v =>
        have := esc_un s.length s v (Nat.le_refl _) hu
        show escF v = s
        unfold escF
        rw [if_neg (fun e => by subst e; exact h2 (by simpa using this.symm))]
        exact this

theorem hexD_mem (n : Nat) (h : n < 16) : 48 ≤ (hexD n).toNat ∧ (hexD n).toNat ≤ 70 := by
  unfold hexD
  split
  · rw [ofNat_toNat (by omega)]; omega
  · rw [ofNat_toNat (by omega)]; omega

theorem esc1_range (c x : UInt8) (h : x ∈ esc1 c) : 33 ≤ x.toNat ∧ x.toNat ≤ 126 := by
  have hc := c.toNat_lt
  unfold esc1 at h
  split at h
  · rename_i hp
    simp only [List.mem_singleton] at h
    subst h
    simp only [plainB, Bool.and_eq_true, decide_eq_true_eq] at hp
    omega
  · simp only [List.mem_cons, List.not_mem_nil, or_false] at h
    rcases h with rfl | rfl | rfl
    · decide
    · have := hexD_mem (c.toNat / 16) (by omega); omega
    · have := hexD_mem (c.toNat % 16) (by omega); omega

theorem escF_range (s : List UInt8) : escF s ≠ [] ∧ ∀ x ∈ escF s, 33 ≤ x.toNat ∧ x.toNat ≤ 126 := by
  refine ⟨fun e => ?_, fun x hx => ?_⟩
  · have := unesc_esc s
    rw [e] at this
    cases this
  · unfold escF at hx
    split at hx
    · simp only [List.mem_singleton] at hx; subst hx; decide
    · obtain ⟨c, _, h⟩ := List.mem_flatMap.1 hx
      exact esc1_range c x h

/-! ### Fields, lines -/

def okF (c : UInt8) : Bool := decide (32 ≤ c.toNat) && decide (c.toNat ≤ 126)
def fieldsF (s : List UInt8) : Option (List (List UInt8)) × Int :=
  if 512 < s.length then (none, 4) else if s = [] then (none, 0) else
    if s.all okF = true ∧ [] ∉ spl 32 s then (some (spl 32 s), 0) else (none, 5)

theorem fields_esc {s : List UInt8} (h : (escF s).length ≤ 512) : fieldsF (escF s) = (some [escF s], 0) := by
  obtain ⟨h1, h2⟩ := escF_range s
  have hn : (32 : UInt8) ∉ escF s := fun hm => by have := h2 32 hm; revert this; decide
  unfold fieldsF
  rw [if_neg (by omega), if_neg h1, spl_none 32 _ hn, if_pos]
  refine ⟨?_, ?_⟩
  · rw [List.all_eq_true]
    intro x hx
    have := h2 x hx
    simp only [okF, Bool.and_eq_true, decide_eq_true_eq]; omega
  · simp only [List.mem_singleton]
    exact fun e => h1 e.symm

theorem fields_join {s : List UInt8} {l : List (List UInt8)} (h : fieldsF s = (some l, 0)) : List.intercalate [32] l = s ∧ [] ∉ l := by
  unfold fieldsF at h
  split at h
  · cases h
  · split at h
    · cases h
    · split at h
      · rename_i h1
        cases h
        exact ⟨spl_join 32 s, h1.2⟩
      · cases h

def linesF (s : List UInt8) : Option (List (List UInt8)) × Int :=
  if 65536 < s.length then (none, 4) else if s = [] then (none, 0) else (some (spl 10 (Lib.trimSuffix s [10])), 0)

theorem spl_end (c : UInt8) : ∀ a : List UInt8, spl c (a ++ [c]) = spl c a ++ [[]]
  | [] => by simp [spl]
  | x :: a => by
    have ih := spl_end c a
    rw [List.cons_append, spl, spl, ih]
    split
    · rfl
    · cases hs : spl c a with
      | nil => exact absurd hs (spl_ne c a)
      | cons q t => rfl

theorem trim_end (s : List UInt8) (c : UInt8) : (∃ a, s = a ++ [c] ∧ Lib.trimSuffix s [c] = a) ∨ ((∀ a, s ≠ a ++ [c]) ∧ Lib.trimSuffix s [c] = s) := by
  by_cases h : ∃ a, s = a ++ [c]
  · left
    obtain ⟨a, rfl⟩ := h
    exact ⟨a, rfl, by simp [Lib.trimSuffix, Lib.hasSuffix, List.isSuffixOf]⟩
  · right
    refine ⟨fun a e => h ⟨a, e⟩, ?_⟩
    unfold Lib.trimSuffix
    rw [if_neg]
    intro hs
    unfold Lib.hasSuffix at hs
    have := List.isSuffixOf_iff_suffix.1 hs
    obtain ⟨a, ha⟩ := this
    exact h ⟨a, ha.symm⟩

/-- The reference's way: the last piece counts if it is not empty. -/
def lastCut (p : List (List UInt8)) : List (List UInt8) := if p.getLast? = some [] then p.dropLast else p

theorem lines_eq (s : List UInt8) (h : s ≠ []) : lastCut (spl 10 s) = spl 10 (Lib.trimSuffix s [10]) := by
  rcases trim_end s 10 with ⟨a, rfl, e⟩ | ⟨hno, e⟩
  · rw [e, spl_end]
    unfold lastCut
    simp
  · rw [e]
    unfold lastCut
    rw [if_neg]
    intro hl
    have hj := spl_join 10 s
    rcases List.eq_nil_or_concat (spl 10 s) with h0 | ⟨p, q, hpq⟩
    · exact spl_ne 10 s h0
    · rw [hpq, List.concat_eq_append] at hl hj
      simp only [List.getLast?_append, List.getLast?_singleton, Option.some_or, Option.some.injEq] at hl
      subst hl
      cases p with
      | nil => simp [List.intercalate] at hj; exact h hj
      | cons x p =>
        have : ∀ (x : List UInt8) (p : List (List UInt8)), List.intercalate [10] (x :: p ++ [[]]) = List.intercalate [10] (x :: p) ++ [10] := fun x p => by
          induction p generalizing x with
          | nil => simp [List.intercalate]
          | cons y p ih =>
            have := ih y
            simp only [List.intercalate, List.cons_append, List.intersperse_cons_cons, List.flatten_cons] at this ⊢
            rw [this]
            simp [List.append_assoc]
        rw [this] at hj
        exact hno _ hj.symm

theorem flat_join (c : UInt8) : ∀ l : List (List UInt8), l ≠ [] → l.flatMap (· ++ [c]) = List.intercalate [c] l ++ [c]
  | [], h => absurd rfl h
  | [x], _ => by simp [List.intercalate]
  | x :: y :: l, _ => by
    have ih := flat_join c (y :: l) (by simp)
    rw [List.flatMap_cons, ih]
    simp [List.intercalate, List.append_assoc]

end Go.Ab
