/-
  Texts of the layer and of the laws, put together: AbX1, AbX2, AbX3, AbX4. No law is stated here.
-/
import Derived.Lib.SplitLaws
import Derived.Lib.IndexBytes
import Derived.Lib.ItoaNum
import Derived.Lib.Strings
import Derived.Lib.Join
import Derived.Laws.RangeAny
import Derived.Laws.BitsLemmas
set_option linter.unusedSimpArgs false
set_option linter.unusedVariables false
set_option maxRecDepth 100000

/-
  Plain laws on texts: cutting at a byte, numerals, fields, escapes. No program in sight.
-/
namespace Go.Ab

/-! ### Cutting at a byte -/

def spl (c : UInt8) : List UInt8 → List (List UInt8)
  | [] => [[]]
  | x :: r => if x = c then [] :: spl c r else match spl c r with
    | h :: t => (x :: h) :: t
    | [] => [[x]]

theorem spl_ne (c : UInt8) : ∀ l, spl c l ≠ []
  | [] => by simp [spl]
  | x :: r => by
    simp only [spl]
    split
    · simp
    · split <;> simp

theorem splitK_eq (c : UInt8) : ∀ l : List UInt8, Lib.splitK [c] 0 (l.count c) l = spl c l
  | [] => rfl
  | x :: r => by
    have ih := splitK_eq c r
    by_cases hx : x = c
    · subst hx
      rw [List.count_cons_self]
      simp only [Lib.splitK, Lib.index_one, Lib.indexByte, beq_self_eq_true, if_true, spl]
      rw [← ih]
      rfl
    · have hxc : (x == c) = false := by simpa using hx
      rw [List.count_cons_of_ne hx]
      simp only [spl, if_neg hx]
      by_cases hi : Lib.indexByte r c = -1
      · have hi' : Lib.indexByte (x :: r) c = -1 := by simp [Lib.indexByte, hxc, hi]
        have e1 : Lib.splitK [c] 0 (r.count c) r = [r] := by
          cases r.count c with
          | zero => rfl
          | succ k => simp [Lib.splitK, Lib.index_one, hi]
        have e2 : Lib.splitK [c] 0 (r.count c) (x :: r) = [x :: r] := by
          cases r.count c with
          | zero => rfl
          | succ k => simp [Lib.splitK, Lib.index_one, hi']
        rw [e2, ← ih, e1]
      · have hge := Lib.indexByte_ge r c
        have hi' : Lib.indexByte (x :: r) c = Lib.indexByte r c + 1 := by simp [Lib.indexByte, hxc, hi]
        cases hk : r.count c with
        | zero =>
          exfalso
          rw [hk] at ih
          have hmem : c ∉ r := by rw [← List.count_eq_zero]; exact hk
          have : ∀ r : List UInt8, c ∉ r → Lib.indexByte r c = -1 := fun r => by
            induction r with
            | nil => intro _; rfl
            | cons y r ihr =>
              intro hm
              have hy : (y == c) = false := by
                simp only [List.mem_cons, not_or] at hm
                simpa using fun h : y = c => hm.1 h.symm
              simp [Lib.indexByte, hy, ihr (fun h => hm (List.mem_cons_of_mem _ h))]
          exact hi (this r hmem)
        | succ k =>
          rw [hk] at ih
          have b1 : (Lib.indexByte r c == -1) = false := by simpa using hi
          have b2 : (Lib.indexByte r c + 1 == -1) = false := by simp; omega
          simp only [Lib.splitK, Lib.index_one, hi', b1, b2, Bool.false_eq_true, if_false, List.length_singleton, Nat.add_zero] at ih ⊢
          rw [← ih, show (Lib.indexByte r c + 1).toNat = (Lib.indexByte r c).toNat + 1 by omega]
          rfl

/-- One piece at the end, then the rest. -/
theorem spl_append (c : UInt8) : ∀ (a b : List UInt8), c ∉ a → spl c (a ++ c :: b) = a :: spl c b
  | [], b, _ => by simp [spl]
  | x :: a, b, h => by
    have hx : x ≠ c := fun h1 => h (by rw [h1]; exact List.mem_cons_self)
    have ih := spl_append c a b (fun h1 => h (List.mem_cons_of_mem _ h1))
    simp only [List.cons_append, spl, if_neg hx, ih]

theorem spl_none (c : UInt8) : ∀ (a : List UInt8), c ∉ a → spl c a = [a]
  | [], _ => rfl
  | x :: a, h => by
    have hx : x ≠ c := fun h1 => h (by rw [h1]; exact List.mem_cons_self)
    have ih := spl_none c a (fun h1 => h (List.mem_cons_of_mem _ h1))
    simp only [spl, if_neg hx, ih]

theorem spl_join (c : UInt8) : ∀ l, List.intercalate [c] (spl c l) = l
  | [] => by simp [spl, List.intercalate]
  | x :: r => by
    have ih := spl_join c r
    simp only [spl]
    split
    · rename_i h
      subst h
      cases hs : spl x r with
      | nil => exact absurd hs (spl_ne x r)
      | cons h t => rw [hs] at ih; simpa [List.intercalate] using ih
    · cases hs : spl c r with
      | nil => exact absurd hs (spl_ne c r)
      | cons h t =>
        rw [hs] at ih
        simp only
        rw [← ih]
        cases t <;> simp [List.intercalate]

theorem spl_mem (c : UInt8) : ∀ (l : List UInt8) (p : List UInt8), p ∈ spl c l → c ∉ p ∧ ∀ x ∈ p, x ∈ l
  | [], p, h => by simp [spl] at h; subst h; simp
  | x :: r, p, h => by
    simp only [spl] at h
    split at h
    · rcases List.mem_cons.1 h with rfl | h
      · simp
      · obtain ⟨h1, h2⟩ := spl_mem c r p h
        exact ⟨h1, fun y hy => List.mem_cons_of_mem _ (h2 y hy)⟩
    · rename_i hx
      cases hs : spl c r with
      | nil => exact absurd hs (spl_ne c r)
      | cons q t =>
        rw [hs] at h
        rcases List.mem_cons.1 h with rfl | h
        · obtain ⟨h1, h2⟩ := spl_mem c r q (by rw [hs]; exact List.mem_cons_self)
          refine ⟨fun hm => ?_, fun y hy => ?_⟩
          · rcases List.mem_cons.1 hm with h3 | h3
            · exact hx h3.symm
            · exact h1 h3
          · rcases List.mem_cons.1 hy with h3 | h3
            · subst h3; exact List.mem_cons_self
            · exact List.mem_cons_of_mem _ (h2 y h3)
        · obtain ⟨h1, h2⟩ := spl_mem c r p (by rw [hs]; exact List.mem_cons_of_mem _ h)
          exact ⟨h1, fun y hy => List.mem_cons_of_mem _ (h2 y hy)⟩

theorem spl_len (c : UInt8) : ∀ l, (spl c l).length ≤ l.length + 1
  | [] => by simp [spl]
  | x :: r => by
    have ih := spl_len c r
    simp only [spl]
    split
    · simp; exact ih
    · cases hs : spl c r with
      | nil => simp
      | cons q t => rw [hs] at ih; simp at ih ⊢; omega

/-- Cutting from the left, as a loop does: what has been cut, and the piece begun. -/
theorem spl_step (c : UInt8) (done : List (List UInt8)) (cur rest : List UInt8) (hc : c ∉ cur) : ∀ x, (x = c → done ++ spl c (cur ++ x :: rest) = (done ++ [cur]) ++ spl c rest) := fun x hx => by
  subst hx
  rw [spl_append x cur rest hc]
  simp

/-! ### Bytes -/

theorem u8_eq (a b : UInt8) : (a.toNat : Int) = b.toNat ↔ a = b := by
  constructor
  · intro h; exact UInt8.toNat_inj.1 (by omega)
  · rintro rfl; rfl
theorem u8_lt (a : UInt8) : (a.toNat : Int) < 256 := by have := a.toNat_lt; omega

end Go.Ab

/-
  Plain laws on texts: numerals, escapes, fields, lines.
-/
namespace Go.Ab

def isDig (c : UInt8) : Bool := decide (48 ≤ c.toNat) && decide (c.toNat ≤ 57)

/-- The decimal value, from the left. -/
def valF (n : Nat) : List UInt8 → Nat
  | [] => n
  | c :: r => valF (10 * n + (c.toNat - 48)) r
abbrev val (l : List UInt8) : Nat := valF 0 l

theorem valF_append (a b : List UInt8) (n : Nat) : valF n (a ++ b) = valF (valF n a) b := by
  induction a generalizing n with
  | nil => rfl
  | cons c a ih =>
    rw [List.cons_append]
    show valF (10 * n + (c.toNat - 48)) (a ++ b) = valF (valF (10 * n + (c.toNat - 48)) a) b
    exact ih _
theorem val_snoc (a : List UInt8) (c : UInt8) : val (a ++ [c]) = 10 * val a + (c.toNat - 48) := by
  rw [val, valF_append]; rfl
theorem valF_le : ∀ (l : List UInt8) (n : Nat), n ≤ valF n l
  | [], n => Nat.le_refl _
  | c :: l, n => Nat.le_trans (by omega) (valF_le l _)

/-- Number. -/
def numF (s : List UInt8) : Int × Int :=
  if Lib.trimPrefix s [45] = [] ∨ ((Lib.trimPrefix s [45]).head? = some 48 ∧ s ≠ [48]) then (0, 5)
  else if (Lib.trimPrefix s [45]).all isDig = true then
    (if 2147483648 < val (Lib.trimPrefix s [45]) then (0, 2) else (if Lib.trimPrefix s [45] = s then (val (Lib.trimPrefix s [45]) : Int) else -(val (Lib.trimPrefix s [45]) : Int), 0))
  else (0, 5)

theorem trim_minus (s : List UInt8) : (∃ r, s = 45 :: r ∧ Lib.trimPrefix s [45] = r) ∨ ((∀ r, s ≠ 45 :: r) ∧ Lib.trimPrefix s [45] = s) := by
  cases s with
  | nil => right; exact ⟨by simp, rfl⟩
  | cons c r =>
    by_cases hc : c = 45
    · subst hc; left; exact ⟨r, rfl, by simp [Lib.trimPrefix, Lib.hasPrefix, List.isPrefixOf]⟩
    · right
      refine ⟨fun r' h => hc (List.cons.inj h).1, ?_⟩
      have : ((45 : UInt8) == c) = false := by simpa using fun h : (45 : UInt8) = c => hc h.symm
      simp [Lib.trimPrefix, Lib.hasPrefix, List.isPrefixOf, this]

theorem head_app {a b : List UInt8} (h : a ≠ []) : (a ++ b).head? = a.head? := by
  cases a with
  | nil => exact absurd rfl h
  | cons x r => rfl
theorem dec_small {u : Nat} (h : u < 10) : Lib.decDigits u = [UInt8.ofNat (48 + u)] := by rw [Lib.decDigits]; simp [h]
theorem dec_big {u : Nat} (h : ¬ u < 10) : Lib.decDigits u = Lib.decDigits (u / 10) ++ [UInt8.ofNat (48 + u % 10)] := by rw [Lib.decDigits]; simp [h]
theorem ofNat_toNat {n : Nat} (h : n < 256) : (UInt8.ofNat n).toNat = n := by simp [UInt8.toNat_ofNat']; omega

theorem dec_spec : ∀ (n u : Nat), u < n → (Lib.decDigits u).all isDig = true ∧ val (Lib.decDigits u) = u ∧ Lib.decDigits u ≠ [] ∧ ((Lib.decDigits u).head? = some 48 → u = 0)
  | 0, u, h => by omega
  | n + 1, u, h => by
    by_cases hu : u < 10
    · rw [dec_small hu]
      have e := ofNat_toNat (n := 48 + u) (by omega)
      refine ⟨?_, ?_, by simp, fun h0 => ?_⟩
      · simp only [List.all_cons, List.all_nil, isDig, e, Bool.and_true, Bool.and_eq_true, decide_eq_true_eq]; omega
      · have : val [UInt8.ofNat (48 + u)] = 10 * 0 + ((UInt8.ofNat (48 + u)).toNat - 48) := rfl
        rw [this, e]; omega
      · simp only [List.head?_cons, Option.some.injEq] at h0
        have := congrArg UInt8.toNat h0
        rw [e] at this
        have : 48 + u = 48 := this
        omega
    · rw [dec_big hu]
      obtain ⟨h1, h2, h3, h4⟩ := dec_spec n (u / 10) (by omega)
      have e := ofNat_toNat (n := 48 + u % 10) (by omega)
      refine ⟨?_, ?_, by simp, fun h0 => ?_⟩
      · rw [List.all_append, h1]; simp only [List.all_cons, List.all_nil, isDig, e, Bool.true_and, Bool.and_true, Bool.and_eq_true, decide_eq_true_eq]; omega
      · rw [val_snoc, h2, e]; omega
      · rw [head_app h3] at h0
        have := h4 h0
        omega

/-- Digits without a needless zero are the numeral of their value. -/
theorem dec_val : ∀ (l : List UInt8), l ≠ [] → l.all isDig = true → (l.head? = some 48 → l = [48]) → Lib.decDigits (val l) = l := by
  intro l
  induction h : l.length generalizing l with
  | zero => intro hl; exact absurd (List.eq_nil_of_length_eq_zero h) hl
  | succ n ih =>
    intro hl hd h0
    rcases List.eq_nil_or_concat l with rfl | ⟨a, c, rfl⟩
    · exact absurd rfl hl
    rw [List.concat_eq_append] at *
    rw [List.all_append, Bool.and_eq_true] at hd
    obtain ⟨hda, hdc⟩ := hd
    simp only [List.all_cons, List.all_nil, Bool.and_true, isDig, Bool.and_eq_true, decide_eq_true_eq] at hdc
    have hv := val_snoc a c
    by_cases ha : a = []
    · subst ha
      have hv0 : val ([] : List UInt8) = 0 := rfl
      rw [hv, hv0, List.nil_append]
      rw [dec_small (by omega)]
      congr 1
      apply UInt8.toNat_inj.1
      rw [ofNat_toNat (by omega)]; omega
    · have hlen : a.length = n := by simp at h; omega
      have h0a : a.head? = some 48 → a = [48] := fun h1 => by
        have := h0 (by rw [head_app ha]; exact h1)
        have hl2 := congrArg List.length this
        simp at hl2
        exact absurd hl2 ha
      have iha := ih a hlen ha hda h0a
      have hpos : 0 < val a := by
        rcases Nat.eq_zero_or_pos (val a) with h1 | h1
        · exfalso
          rw [h1, dec_small (by omega)] at iha
          have h2 : a = [48] := iha.symm
          have := h0 (by rw [head_app ha, h2]; rfl)
          rw [h2] at this
          simp at this
        · exact h1
      rw [hv, dec_big (by omega), show (10 * val a + (c.toNat - 48)) / 10 = val a by omega, iha]
      congr 1
      congr 1
      apply UInt8.toNat_inj.1
      rw [ofNat_toNat (by omega)]; omega

theorem itoa_spec (n : Int) : Lib.itoa n = if n < 0 then 45 :: Lib.decDigits n.natAbs else Lib.decDigits n.toNat := rfl

theorem dec_head {u : Nat} : (Lib.decDigits u).head? ≠ some 45 := fun h => by
  obtain ⟨h1, _, h3, _⟩ := dec_spec (u + 1) u (by omega)
  cases hd : Lib.decDigits u with
  | nil => exact h3 hd
  | cons c r =>
    rw [hd] at h h1
    simp only [List.head?_cons, Option.some.injEq] at h
    subst h
    simp [isDig] at h1

/-- Number inverts Format. -/
theorem num_itoa (n : Int) : numF (Lib.itoa n) = if -2147483648 ≤ n ∧ n ≤ 2147483648 then (n, 0) else (0, 2) := by
  have key : ∀ (u : Nat), (Lib.decDigits u).all isDig = true ∧ val (Lib.decDigits u) = u ∧ Lib.decDigits u ≠ [] ∧ ((Lib.decDigits u).head? = some 48 → u = 0) := fun u => dec_spec (u + 1) u (by omega)
  rw [itoa_spec]
  by_cases hn : n < 0
  · rw [if_pos hn]
    obtain ⟨h1, h2, h3, h4⟩ := key n.natAbs
    have ht : Lib.trimPrefix (45 :: Lib.decDigits n.natAbs) [45] = Lib.decDigits n.natAbs := by
      rcases trim_minus (45 :: Lib.decDigits n.natAbs) with ⟨r, e1, e2⟩ | ⟨e1, _⟩
      · cases e1; exact e2
      · exact absurd rfl (e1 _)
    have hne : Lib.decDigits n.natAbs ≠ 45 :: Lib.decDigits n.natAbs := fun h => by
      have := congrArg List.length h; simp at this
    unfold numF
    rw [ht, if_neg (by
      rintro (h | ⟨h, _⟩)
      · exact h3 h
      · have := h4 h; omega), if_pos h1, h2]
    by_cases hb : -2147483648 ≤ n
    · rw [if_neg (by omega), if_neg hne, if_pos (by omega)]
      congr 1
      omega
    · rw [if_pos (by omega), if_neg (by omega)]
  · rw [if_neg hn]
    obtain ⟨h1, h2, h3, h4⟩ := key n.toNat
    have ht : Lib.trimPrefix (Lib.decDigits n.toNat) [45] = Lib.decDigits n.toNat := by
      rcases trim_minus (Lib.decDigits n.toNat) with ⟨r, e1, _⟩ | ⟨_, e2⟩
      · exact absurd (by rw [e1]; rfl) (dec_head (u := n.toNat))
      · exact e2
    unfold numF
    rw [ht, if_neg (by
      rintro (h | ⟨h, h'⟩)
      · exact h3 h
      · have := h4 h
        rw [this] at h'
        exact h' (by rw [dec_small (by omega)]; rfl)), if_pos h1, h2]
    by_cases hb : n ≤ 2147483648
    · rw [if_neg (by omega), if_pos rfl, if_pos (by omega)]
      congr 1
      omega
    · rw [if_pos (by omega), if_neg (by omega)]

/-- Format inverts Number. -/
theorem itoa_num {s : List UInt8} (h : (numF s).2 = 0) : Lib.itoa (numF s).1 = s := by
  unfold numF at h ⊢
  split at h
  · cases h
  · rename_i h0
    rw [if_neg h0]
    split at h
    · rename_i hd
      rw [if_pos hd]
      split at h
      · cases h
      · rename_i hv
        rw [if_neg hv]
        simp only [not_or, not_and] at h0
        obtain ⟨hne, hz⟩ := h0
        rcases trim_minus s with ⟨r, rfl, ht⟩ | ⟨hno, ht⟩
        · rw [ht] at hne hz hd hv ⊢
          have hz' : r.head? ≠ some 48 := fun h1 => hz h1 (by simp)
          have hdv := dec_val r hne hd (fun h1 => absurd h1 hz')
          have hpos : 0 < val r := by
            rcases Nat.eq_zero_or_pos (val r) with h1 | h1
            · exfalso
              rw [h1, dec_small (by omega)] at hdv
              exact hz' (by rw [← hdv]; rfl)
            · exact h1
          have hsr : r ≠ 45 :: r := fun h => by have := congrArg List.length h; simp at this
          rw [if_neg hsr, itoa_spec, if_pos (by omega), show (-(val r : Int)).natAbs = val r by omega, hdv]
        · rw [ht] at hne hz hd hv ⊢
          have hdv := dec_val s hne hd (fun h1 => by
            by_cases hs : s = [48]
            · exact hs
            · exact absurd hs (hz h1))
          rw [if_pos rfl, itoa_spec, if_neg (by omega), show ((val s : Nat) : Int).toNat = val s by omega, hdv]
    · cases h

end Go.Ab

/-
  Plain laws on texts: escapes, fields, lines.
-/
namespace Go.Ab

def plainB (c : UInt8) : Bool := decide (33 ≤ c.toNat) && decide (c.toNat ≤ 126) && !decide (c.toNat = 37)
def hexD (n : Nat) : UInt8 := if n < 10 then UInt8.ofNat (48 + n) else UInt8.ofNat (55 + n)
def hexV (c : UInt8) : Int := if 48 ≤ c.toNat ∧ c.toNat ≤ 57 then (c.toNat : Int) - 48 else if 65 ≤ c.toNat ∧ c.toNat ≤ 70 then (c.toNat : Int) - 55 else -1
def esc1 (c : UInt8) : List UInt8 := if plainB c = true then [c] else [37, hexD (c.toNat / 16), hexD (c.toNat % 16)]
def escF (s : List UInt8) : List UInt8 := if s = [] then [37] else s.flatMap esc1

def byte2 (a b : UInt8) : UInt8 := UInt8.ofNat (16 * hexV a + hexV b).toNat
def okHex (c a b : UInt8) : Bool := decide (c.toNat = 37) && decide (0 ≤ hexV a) && decide (0 ≤ hexV b) && !plainB (byte2 a b)

def un : List UInt8 → Option (List UInt8)
  | [] => some []
  | [c] => if plainB c = true then some [c] else none
  | [c, d] => if plainB c = true then (un [d]).map (c :: ·) else none
  | c :: a :: b :: r => if plainB c = true then (un (a :: b :: r)).map (c :: ·) else if okHex c a b = true then (un r).map (byte2 a b :: ·) else none

def unescF (s : List UInt8) : List UInt8 × Int :=
  if s = [37] then ([], 0) else if s = [] then ([], 5) else match un s with
    | some v => (v, 0)
    | none => ([], 5)

theorem un_plain {c : UInt8} (h : plainB c = true) (r : List UInt8) : un (c :: r) = (un r).map (c :: ·) := by
  match r with
  | [] => simp [un, h]
  | [d] => simp [un, h]
  | a :: b :: r => simp [un, h]
theorem un_hex {c a b : UInt8} (h : plainB c = false) (r : List UInt8) : un (c :: a :: b :: r) = if okHex c a b = true then (un r).map (byte2 a b :: ·) else none := by
  rw [un]; simp [h]
theorem un_short {c : UInt8} (h : plainB c = false) {r : List UInt8} (hr : r.length < 2) : un (c :: r) = none := by
  match r, hr with
  | [], _ => simp [un, h]
  | [d], _ => simp [un, h]

theorem hex_all : ∀ n : Nat, n < 256 → hexV (hexD (n / 16)) = (n / 16 : Nat) ∧ hexV (hexD (n % 16)) = (n % 16 : Nat) := by decide +kernel
theorem hex_back : ∀ n : Nat, n < 256 → 0 ≤ hexV (UInt8.ofNat n) → hexV (UInt8.ofNat n) < 16 ∧ hexD (hexV (UInt8.ofNat n)).toNat = UInt8.ofNat n := by decide +kernel

theorem hexV_back (c : UInt8) (h : 0 ≤ hexV c) : hexV c < 16 ∧ hexD (hexV c).toNat = c := by
  have h1 : UInt8.ofNat c.toNat = c := by simp
  have h2 := hex_back c.toNat c.toNat_lt
  rw [h1] at h2
  exact h2 h

theorem plain_37 : plainB 37 = false := by decide
theorem plain_not37 {c : UInt8} (h : c.toNat = 37) : plainB c = false := by simp [plainB, h]

theorem esc_hex (c : UInt8) (h : plainB c = false) : okHex 37 (hexD (c.toNat / 16)) (hexD (c.toNat % 16)) = true ∧ byte2 (hexD (c.toNat / 16)) (hexD (c.toNat % 16)) = c := by
  obtain ⟨h1, h2⟩ := hex_all c.toNat c.toNat_lt
  have e : byte2 (hexD (c.toNat / 16)) (hexD (c.toNat % 16)) = c := by
    unfold byte2
    rw [h1, h2]
    apply UInt8.toNat_inj.1
    have := c.toNat_lt
    rw [show (16 * ((c.toNat / 16 : Nat) : Int) + ((c.toNat % 16 : Nat) : Int)).toNat = c.toNat by omega, ofNat_toNat (by omega)]
  refine ⟨?_, e⟩
  unfold okHex
  rw [e, h, h1, h2]
  have t1 : decide ((37 : UInt8).toNat = 37) = true := by decide
  rw [t1]
  simp
  omega

theorem un_esc : ∀ s : List UInt8, un (s.flatMap esc1) = some s
  | [] => rfl
  | c :: s => by
    have ih := un_esc s
    rw [List.flatMap_cons]
    by_cases h : plainB c = true
    · rw [esc1, if_pos h, List.singleton_append, un_plain h, ih]; rfl
    · have h' : plainB c = false := by simpa using h
      obtain ⟨h1, h2⟩ := esc_hex c h'
      rw [esc1, if_neg h]
      simp only [List.cons_append, List.nil_append]
      rw [un_hex plain_37, if_pos h1, ih, h2]; rfl

theorem esc_un : ∀ (n : Nat) (s v : List UInt8), s.length ≤ n → un s = some v → v.flatMap esc1 = s
  | _, [], v, _, h => by
    rw [un] at h
    cases h
    rfl
  | 0, c :: s, v, hn, _ => by simp at hn
  | n + 1, c :: s, v, hn, h => by
    simp only [List.length_cons] at hn
    by_cases hp : plainB c = true
    · rw [un_plain hp] at h
      cases hu : un s with
      | none => rw [hu] at h; cases h
      | some w =>
        rw [hu] at h
        simp only [Option.map_some, Option.some.injEq] at h
        subst h
        rw [List.flatMap_cons, esc1, if_pos hp, esc_un n s w (by omega) hu]; rfl
    · have hp' : plainB c = false := by simpa using hp
      match s, hn, h with
      | [], _, h => rw [un_short hp' (by simp)] at h; cases h
      | [d], _, h => rw [un_short hp' (by simp)] at h; cases h
      | a :: b :: r, hn, h =>
        rw [un_hex hp'] at h
        split at h
        · rename_i hx
          cases hu : un r with
          | none => rw [hu] at h; cases h
          | some w =>
            rw [hu] at h
            simp only [Option.map_some, Option.some.injEq] at h
            subst h
            simp only [okHex, Bool.and_eq_true, decide_eq_true_eq, Bool.not_eq_true'] at hx
            obtain ⟨⟨⟨x1, x2⟩, x3⟩, x4⟩ := hx
            obtain ⟨a1, a2⟩ := hexV_back a x2
            obtain ⟨b1, b2⟩ := hexV_back b x3
            have hn37 : ¬ plainB (byte2 a b) = true := by rw [x4]; simp
            have hb : (byte2 a b).toNat = (16 * hexV a + hexV b).toNat := by unfold byte2; rw [ofNat_toNat (by omega)]
            have d1 : (byte2 a b).toNat / 16 = (hexV a).toNat := by rw [hb]; omega
            have d2 : (byte2 a b).toNat % 16 = (hexV b).toNat := by rw [hb]; omega
            simp only [List.length_cons] at hn
            rw [List.flatMap_cons, esc1, if_neg hn37, d1, d2, a2, b2, esc_un n r w (by omega) hu]
            have hc : c = 37 := UInt8.toNat_inj.1 x1
            rw [hc]; rfl
        · cases h

theorem unesc_esc (s : List UInt8) : unescF (escF s) = (s, 0) := by
  unfold escF
  by_cases hs : s = []
  · subst hs; rfl
  · rw [if_neg hs]
    have h := un_esc s
    unfold unescF
    have h1 : s.flatMap esc1 ≠ [37] := fun e => by
      rw [e] at h
      have : un [37] = none := un_short plain_37 (by simp)
      rw [this] at h; cases h
    have h2 : s.flatMap esc1 ≠ [] := fun e => by
      rw [e, un] at h
      cases h
      exact hs rfl
    rw [if_neg h1, if_neg h2, h]

theorem esc_unesc {s : List UInt8} (h : (unescF s).2 = 0) : escF (unescF s).1 = s := by
  unfold unescF at h ⊢
  by_cases h1 : s = [37]
  · subst h1; rfl
  · rw [if_neg h1] at h ⊢
    by_cases h2 : s = []
    · rw [if_pos h2] at h; cases h
    · rw [if_neg h2] at h ⊢
      cases hu : un s with
      | none => rw [hu] at h; cases h
      | some v =>
        have := esc_un s.length s v (Nat.le_refl _) hu
        show escF v = s
        unfold escF
        rw [if_neg (fun e => by subst e; exact h2 (by simpa using this.symm))]
        exact this

theorem hexD_mem (n : Nat) (h : n < 16) : 48 ≤ (hexD n).toNat ∧ (hexD n).toNat ≤ 70 := by
  unfold hexD
  split
  · rw [ofNat_toNat (by omega)]; omega
  · rw [ofNat_toNat (by omega)]; omega

theorem esc1_range (c x : UInt8) (h : x ∈ esc1 c) : 33 ≤ x.toNat ∧ x.toNat ≤ 126 := by
  have hc := c.toNat_lt
  unfold esc1 at h
  split at h
  · rename_i hp
    simp only [List.mem_singleton] at h
    subst h
    simp only [plainB, Bool.and_eq_true, decide_eq_true_eq] at hp
    omega
  · simp only [List.mem_cons, List.not_mem_nil, or_false] at h
    rcases h with rfl | rfl | rfl
    · decide
    · have := hexD_mem (c.toNat / 16) (by omega); omega
    · have := hexD_mem (c.toNat % 16) (by omega); omega

theorem escF_range (s : List UInt8) : escF s ≠ [] ∧ ∀ x ∈ escF s, 33 ≤ x.toNat ∧ x.toNat ≤ 126 := by
  refine ⟨fun e => ?_, fun x hx => ?_⟩
  · have := unesc_esc s
    rw [e] at this
    cases this
  · unfold escF at hx
    split at hx
    · simp only [List.mem_singleton] at hx; subst hx; decide
    · obtain ⟨c, _, h⟩ := List.mem_flatMap.1 hx
      exact esc1_range c x h

/-! ### Fields, lines -/

def okF (c : UInt8) : Bool := decide (32 ≤ c.toNat) && decide (c.toNat ≤ 126)
def fieldsF (s : List UInt8) : Option (List (List UInt8)) × Int :=
  if 512 < s.length then (none, 4) else if s = [] then (none, 0) else
    if s.all okF = true ∧ [] ∉ spl 32 s then (some (spl 32 s), 0) else (none, 5)

theorem fields_esc {s : List UInt8} (h : (escF s).length ≤ 512) : fieldsF (escF s) = (some [escF s], 0) := by
  obtain ⟨h1, h2⟩ := escF_range s
  have hn : (32 : UInt8) ∉ escF s := fun hm => by have := h2 32 hm; revert this; decide
  unfold fieldsF
  rw [if_neg (by omega), if_neg h1, spl_none 32 _ hn, if_pos]
  refine ⟨?_, ?_⟩
  · rw [List.all_eq_true]
    intro x hx
    have := h2 x hx
    simp only [okF, Bool.and_eq_true, decide_eq_true_eq]; omega
  · simp only [List.mem_singleton]
    exact fun e => h1 e.symm

theorem fields_join {s : List UInt8} {l : List (List UInt8)} (h : fieldsF s = (some l, 0)) : List.intercalate [32] l = s ∧ [] ∉ l := by
  unfold fieldsF at h
  split at h
  · cases h
  · split at h
    · cases h
    · split at h
      · rename_i h1
        cases h
        exact ⟨spl_join 32 s, h1.2⟩
      · cases h

def linesF (s : List UInt8) : Option (List (List UInt8)) × Int :=
  if 65536 < s.length then (none, 4) else if s = [] then (none, 0) else (some (spl 10 (Lib.trimSuffix s [10])), 0)

theorem spl_end (c : UInt8) : ∀ a : List UInt8, spl c (a ++ [c]) = spl c a ++ [[]]
  | [] => by simp [spl]
  | x :: a => by
    have ih := spl_end c a
    rw [List.cons_append, spl, spl, ih]
    split
    · rfl
    · cases hs : spl c a with
      | nil => exact absurd hs (spl_ne c a)
      | cons q t => rfl

theorem trim_end (s : List UInt8) (c : UInt8) : (∃ a, s = a ++ [c] ∧ Lib.trimSuffix s [c] = a) ∨ ((∀ a, s ≠ a ++ [c]) ∧ Lib.trimSuffix s [c] = s) := by
  by_cases h : ∃ a, s = a ++ [c]
  · left
    obtain ⟨a, rfl⟩ := h
    exact ⟨a, rfl, by simp [Lib.trimSuffix, Lib.hasSuffix, List.isSuffixOf]⟩
  · right
    refine ⟨fun a e => h ⟨a, e⟩, ?_⟩
    unfold Lib.trimSuffix
    rw [if_neg]
    intro hs
    unfold Lib.hasSuffix at hs
    have := List.isSuffixOf_iff_suffix.1 hs
    obtain ⟨a, ha⟩ := this
    exact h ⟨a, ha.symm⟩

/-- The reference's way: the last piece counts if it is not empty. -/
def lastCut (p : List (List UInt8)) : List (List UInt8) := if p.getLast? = some [] then p.dropLast else p

theorem lines_eq (s : List UInt8) (h : s ≠ []) : lastCut (spl 10 s) = spl 10 (Lib.trimSuffix s [10]) := by
  rcases trim_end s 10 with ⟨a, rfl, e⟩ | ⟨hno, e⟩
  · rw [e, spl_end]
    unfold lastCut
    simp
  · rw [e]
    unfold lastCut
    rw [if_neg]
    intro hl
    have hj := spl_join 10 s
    rcases List.eq_nil_or_concat (spl 10 s) with h0 | ⟨p, q, hpq⟩
    · exact spl_ne 10 s h0
    · rw [hpq, List.concat_eq_append] at hl hj
      simp only [List.getLast?_append, List.getLast?_singleton, Option.some_or, Option.some.injEq] at hl
      subst hl
      cases p with
      | nil => simp [List.intercalate] at hj; exact h hj
      | cons x p =>
        have : ∀ (x : List UInt8) (p : List (List UInt8)), List.intercalate [10] (x :: p ++ [[]]) = List.intercalate [10] (x :: p) ++ [10] := fun x p => by
          induction p generalizing x with
          | nil => simp [List.intercalate]
          | cons y p ih =>
            have := ih y
            simp only [List.intercalate, List.cons_append, List.intersperse_cons_cons, List.flatten_cons] at this ⊢
            rw [this]
            simp [List.append_assoc]
        rw [this] at hj
        exact hno _ hj.symm

theorem flat_join (c : UInt8) : ∀ l : List (List UInt8), l ≠ [] → l.flatMap (· ++ [c]) = List.intercalate [c] l ++ [c]
  | [], h => absurd rfl h
  | [x], _ => by simp [List.intercalate]
  | x :: y :: l, _ => by
    have ih := flat_join c (y :: l) (by simp)
    rw [List.flatMap_cons, ih]
    simp [List.intercalate, List.append_assoc]

end Go.Ab

/-
  Plain laws on texts: runes, names, what the loops carry.
-/
namespace Go.Ab

theorem wU8 {n : Int} (h1 : 0 ≤ n) (h2 : n ≤ 255) : IntKind.u8.wrap n = n := by rw [IntKind.wrap_u8]; omega
theorem wI32 {n : Int} (h1 : -2147483648 ≤ n) (h2 : n ≤ 2147483647) : IntKind.i32.wrap n = n := by rw [IntKind.wrap_i32]; omega

theorem mid_get {α : Type} (u v : List α) (c : α) : (u ++ c :: v)[u.length]? = some c := by simp

theorem dec_asc {u v : List UInt8} {c : UInt8} (h : c.toNat < 128) : Utf8.decode ⟨(u ++ c :: v).toArray⟩ u.length = (c.toNat, 1) := by
  have hlt : u.length < (⟨(u ++ c :: v).toArray⟩ : ByteArray).size := by show u.length < (u ++ c :: v).toArray.size; simp
  have he : (⟨(u ++ c :: v).toArray⟩ : ByteArray)[u.length]'hlt = c := by
    show ((u ++ c :: v).toArray)[u.length]'_ = c
    simp
  rw [decode_ascii _ _ hlt (by rw [he]; exact h), he]
theorem dec_high {u v : List UInt8} {c : UInt8} (h : ¬ c.toNat < 128) : 128 ≤ (Utf8.decode ⟨(u ++ c :: v).toArray⟩ u.length).1 ∧ 1 ≤ (Utf8.decode ⟨(u ++ c :: v).toArray⟩ u.length).2 := by
  have hlt : u.length < (⟨(u ++ c :: v).toArray⟩ : ByteArray).size := by show u.length < (u ++ c :: v).toArray.size; simp
  have he : (⟨(u ++ c :: v).toArray⟩ : ByteArray)[u.length]'hlt = c := by
    show ((u ++ c :: v).toArray)[u.length]'_ = c
    simp
  exact decode_high _ _ hlt (by rw [he]; omega)

/-! ### Names -/

def letB (c : UInt8) : Bool := decide (97 ≤ c.toNat) && decide (c.toNat ≤ 122)
def digB (c : UInt8) : Bool := isDig c || decide (c.toNat = 45)
def nmAll : Bool → List UInt8 → Bool
  | _, [] => true
  | f, c :: r => (letB c || (!f && digB c)) && nmAll false r
def nameB (s : List UInt8) : Bool := decide (1 ≤ s.length) && decide (s.length ≤ 12) && nmAll true s

/-! ### Numerals, digit by digit from the right -/

/-- What a loop lays in front, from the lowest digit on. -/
theorem dec_rec (u : Nat) (h : u ≠ 0) : Lib.decDigits u = (if u / 10 = 0 then [] else Lib.decDigits (u / 10)) ++ [UInt8.ofNat (48 + u % 10)] := by
  by_cases hu : u < 10
  · rw [dec_small hu, if_pos (by omega), show u % 10 = u by omega]; rfl
  · rw [dec_big hu, if_neg (by omega)]

end Go.Ab
