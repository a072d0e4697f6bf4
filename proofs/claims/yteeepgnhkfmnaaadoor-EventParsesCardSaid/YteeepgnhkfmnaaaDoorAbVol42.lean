/-
  Texts of the layer and of the laws, put together: AbF33, AbF34. No law is stated here.
-/
import Derived.Test.YteeepgnhkfmnaaaDoorAbVol39
set_option linter.unusedSimpArgs false
set_option linter.unusedVariables false
set_option maxRecDepth 100000

/-
  Lines read by the reference: the same events. Plain.
-/
namespace Go.Ab
open Go.RowKit Go.Proofs

/-- What the reference reckons behind 2^31. -/
def satS (n : Int) : List UInt8 → Int
  | [] => n
  | c :: r => satS (min (10 * n + ((c.toNat : Int) - 48)) 2251799813685248) r
def numV (w : List UInt8) : Int × Bool :=
  if (numF w).2 = 0 then ((numF w).1, false) else if (numF w).2 = 5 then (0, true)
  else (if w.headD 0 = 45 then -(satS 0 (w.drop 1)) else satS 0 w, false)
theorem satS_val : ∀ {l : List UInt8} {n : Nat}, (∀ c ∈ l, isDig c = true) → (n : Int) ≤ 2251799813685248 → satS n l = min ((valF n l : Nat) : Int) 2251799813685248
  | [], n, _, h => by
    show (n : Int) = min (n : Int) 2251799813685248
    omega
  | c :: l, n, hl, h => by
    have hd := dig_iff.1 (hl c List.mem_cons_self)
    have hl' : ∀ d ∈ l, isDig d = true := fun d hd => hl d (List.mem_cons_of_mem _ hd)
    rw [satS]
    show _ = min ((valF (10 * n + (c.toNat - 48)) l : Nat) : Int) 2251799813685248
    by_cases hm : ((10 * n + (c.toNat - 48) : Nat) : Int) ≤ 2251799813685248
    · rw [show min (10 * (n : Int) + ((c.toNat : Int) - 48)) 2251799813685248 = ((10 * n + (c.toNat - 48) : Nat) : Int) by omega]
      exact satS_val hl' hm
    · rw [show min (10 * (n : Int) + ((c.toNat : Int) - 48)) 2251799813685248 = ((2251799813685248 : Nat) : Int) by omega, satS_val hl' (by decide)]
      have h1 := valF_le l 2251799813685248
      have h2 := valF_le l (10 * n + (c.toNat - 48))
      omega
theorem accS_val2 : ∀ {l : List UInt8} {n : Nat}, (∀ c ∈ l, isDig c = true) → ((valF n l : Nat) : Int) ≤ mMon → accS n l = ((valF n l : Nat) : Int)
  | [], n, _, _ => rfl
  | c :: l, n, hl, hb => by
    have hd := dig_iff.1 (hl c List.mem_cons_self)
    have hl' : ∀ d ∈ l, isDig d = true := fun d hd => hl d (List.mem_cons_of_mem _ hd)
    have hb : ((valF (10 * n + (c.toNat - 48)) l : Nat) : Int) ≤ mMon := hb
    have hle := valF_le l (10 * n + (c.toNat - 48))
    rw [accS]
    have h45 : c ≠ 45 := fun e => by rw [e] at hd; exact absurd hd.1 (by decide)
    rw [if_pos ⟨h45, by omega⟩, show 10 * (n : Int) + ((c.toNat : Int) - 48) = ((10 * n + (c.toNat - 48) : Nat) : Int) by omega]
    exact accS_val2 hl' hb

/-- A numeral's parts: a sign, digits. -/
theorem nml_parts {w : List UInt8} (h : nmlB w = true) : ∃ d : List UInt8, d ≠ [] ∧ (∀ c ∈ d, isDig c = true) ∧ (d.head? = some 48 → d = [48]) ∧ ((w = 45 :: d ∧ d ≠ [48]) ∨ w = d) := by
  unfold nmlB at h
  simp only [Bool.and_eq_true, Bool.not_eq_true', List.isEmpty_eq_false_iff, Bool.or_eq_true, beq_iff_eq, Bool.and_eq_false_iff, Bool.not_eq_true, beq_eq_false_iff_ne] at h
  obtain ⟨⟨⟨h3, h4⟩, h5⟩, h6⟩ := h
  rw [List.all_eq_true] at h4
  refine ⟨digD w, h5, h4, fun e => ?_, ?_⟩
  · rcases h6 with h6 | h6
    · exact h6
    · exfalso
      cases hd : digD w with
      | nil => exact h5 hd
      | cons c r =>
        rw [hd] at e h6
        simp only [List.head?_cons, Option.some.injEq] at e
        subst e
        simp at h6
  · by_cases hs : signB w = true
    · have hd : digD w = w.tail := if_pos hs
      have hs' := hs
      unfold signB at hs'
      simp only [Bool.and_eq_true, decide_eq_true_eq] at hs'
      left
      constructor
      · rw [hd]
        cases w with
        | nil => simp at hs'
        | cons c r => rw [show c = 45 from hs'.2]; rfl
      · rcases h3 with h3 | h3
        · rw [hs] at h3; cases h3
        · exact h3
    · exact .inr (if_neg hs).symm
theorem nml_iff {w : List UInt8} : nmlB w = true ↔ (numF w).2 ≠ 5 := by
  constructor
  · intro h
    obtain ⟨d, h1, h2, h3, h4⟩ := nml_parts h
    have hall : d.all isDig = true := List.all_eq_true.2 h2
    have ht : Lib.trimPrefix w [45] = d ∧ (d.head? = some 48 → w = [48]) := by
      rcases h4 with ⟨rfl, h5⟩ | rfl
      · constructor
        · rcases trim_minus (45 :: d) with ⟨r, e1, e2⟩ | ⟨e1, _⟩
          · cases e1; exact e2
          · exact absurd rfl (e1 _)
        · exact fun e => absurd (h3 e) h5
      · constructor
        · rcases trim_minus w with ⟨r, e1, _⟩ | ⟨_, e2⟩
          · exfalso
            have := h2 45 (by rw [e1]; exact List.mem_cons_self)
            revert this
            decide
          · exact e2
        · exact h3
    unfold numF
    rw [ht.1, if_neg (by
      rintro (e | ⟨e1, e2⟩)
      · exact h1 e
      · exact e2 (ht.2 e1)), if_pos hall]
    split
    · decide
    · show (0 : Int) ≠ 5
      decide
  · intro h
    unfold numF at h
    split at h
    · exact absurd rfl h
    · rename_i h0
      split at h
      · rename_i hd
        simp only [not_or, not_and, Classical.not_not] at h0
        obtain ⟨hne, hz⟩ := h0
        clear h
        unfold nmlB signB digD
        rcases trim_minus w with ⟨r, rfl, ht⟩ | ⟨hno, ht⟩
        · rw [ht] at hne hz hd
          have hrl : 0 < r.length := List.length_pos_iff.2 hne
          have hsg : (decide (1 < (45 :: r).length) && decide ((45 :: r).headD 0 = 45)) = true := by
            simp
            omega
          unfold signB
          rw [hsg]
          have hz' : r.head? ≠ some 48 := fun e => by have := hz e; simp at this
          cases r with
          | nil => exact absurd rfl hne
          | cons x r =>
            have hx : x ≠ 48 := fun e => hz' (by rw [e]; rfl)
            simp only [if_true, List.tail_cons, hd, Bool.and_true, Bool.true_and]
            simp [hx]
        · rw [ht] at hne hz hd
          have hsg : (decide (1 < w.length) && decide (w.headD 0 = 45)) = false := by
            cases w with
            | nil => exact absurd rfl hne
            | cons x r =>
              have hx : x ≠ 45 := fun e => hno r (by rw [e])
              simp [hx]
          unfold signB
          rw [hsg]
          cases w with
          | nil => exact absurd rfl hne
          | cons x r =>
            simp only [Bool.false_eq_true, if_false, Bool.false_and, Bool.not_false, hd, Bool.true_and, Bool.and_true]
            by_cases hx : x = 48
            · subst hx
              have := hz rfl
              simp at this
              simp [this]
            · simp [hx]
      · exact absurd rfl h
def inM (n : Int) : Prop := -mMon ≤ n ∧ n ≤ mMon
theorem num_both {w : List UInt8} (h : nmlB w = true) : (numV w).2 = false ∧ (numS w = (numV w).1 ∨ (¬ inM (numS w) ∧ ¬ inM (numV w).1)) := by
  obtain ⟨d, h1, h2, h3, h4⟩ := nml_parts h
  have h5 := nml_iff.1 h
  have hall : d.all isDig = true := List.all_eq_true.2 h2
  have hsat := satS_val (l := d) (n := 0) h2 (by decide)
  have hsat : satS 0 d = min ((val d : Nat) : Int) 2251799813685248 := hsat
  have hacc : accS 0 d = (val d : Nat) ∨ (mMon < accS 0 d ∧ mMon < ((val d : Nat) : Int)) := by
    by_cases hv : ((val d : Nat) : Int) ≤ mMon
    · exact .inl (accS_val2 (n := 0) h2 hv)
    · by_cases ha : accS 0 d ≤ mMon
      · exact .inl (accS_val (n := 0) h2 ha)
      · exact .inr ⟨by omega, by omega⟩
  have hV : (numV w).2 = false := by
    unfold numV
    by_cases h6 : (numF w).2 = 0
    · rw [if_pos h6]
    · rw [if_neg h6, if_neg h5]
  have hmm : mMon = 1125899906842624 := rfl
  refine ⟨hV, ?_⟩
  rcases h4 with ⟨rfl, h6⟩ | rfl
  · have hS : numS (45 :: d) = -(accS 0 d) := by
      show (if (45 : UInt8) = 45 then -(accS 0 (45 :: d)) else _) = _
      rw [if_pos rfl, accS, if_neg (by simp)]
    have ht : Lib.trimPrefix (45 :: d) [45] = d := by
      rcases trim_minus (45 :: d) with ⟨r, e1, e2⟩ | ⟨e1, _⟩
      · cases e1; exact e2
      · exact absurd rfl (e1 _)
    have hN : numF (45 :: d) = if 2147483648 < val d then (0, 2) else (-(val d : Int), 0) := by
      unfold numF
      rw [ht, if_neg (by
        rintro (e | ⟨e1, e2⟩)
        · exact h1 e
        · exact h6 (h3 e1)), if_pos hall, if_neg (show ¬ d = 45 :: d from fun e => by have := congrArg List.length e; simp at this)]
    have hV1 : (numV (45 :: d)).1 = if 2147483648 < val d then -(satS 0 d) else -(val d : Int) := by
      unfold numV
      rw [hN]
      by_cases hb : 2147483648 < val d
      · rw [if_pos hb, if_pos hb, if_neg (by decide), if_neg (by decide)]
        exact if_pos (c := (45 :: d).headD 0 = 45) (e := satS 0 (45 :: d)) rfl
      · rw [if_neg hb, if_neg hb, if_pos rfl]
    rw [hS, hV1, hsat]
    unfold inM
    split <;> omega
  · have h45 : ¬ w.headD 0 = 45 := by
      cases w with
      | nil => exact absurd rfl h1
      | cons c r =>
        intro e
        have := dig_iff.1 (h2 c List.mem_cons_self)
        rw [show c = 45 from e] at this
        exact absurd this.1 (by decide)
    have hS : numS w = accS 0 w := if_neg h45
    have ht : Lib.trimPrefix w [45] = w := by
      rcases trim_minus w with ⟨r, e1, _⟩ | ⟨_, e2⟩
      · exfalso
        have := h2 45 (by rw [e1]; exact List.mem_cons_self)
        revert this
        decide
      · exact e2
    have hN : numF w = if 2147483648 < val w then (0, 2) else ((val w : Int), 0) := by
      unfold numF
      rw [ht, if_neg (by
        rintro (e | ⟨e1, e2⟩)
        · exact h1 e
        · exact e2 (h3 e1)), if_pos hall, if_pos (rfl : w = w)]
    have hV1 : (numV w).1 = if 2147483648 < val w then satS 0 w else (val w : Int) := by
      unfold numV
      rw [hN]
      by_cases hb : 2147483648 < val w
      · rw [if_pos hb, if_pos hb, if_neg (by decide), if_neg (by decide), if_neg h45]
      · rw [if_neg hb, if_neg hb, if_pos rfl]
    rw [hS, hV1, hsat]
    unfold inM
    split <;> omega

/-! ### Events read -/

def stepP (e : Evt) (p : Fld) (w : List UInt8) : Evt × Bool :=
  if p.1 = true then (setE e p.2 (unescF w).1 0, decide ((unescF w).2 ≠ 0)) else (setE e p.2 [] (numV w).1, (numV w).2)
def readP (l : List (List UInt8)) : List Fld → Nat → Evt → Bool → Evt × Bool
  | [], _, e, bd => (e, bd)
  | p :: r, j, e, bd => readP l r (j + 1) (stepP e p (l.getD j [])).1 (bd || (stepP e p (l.getD j [])).2)
def endP (x : Evt × Bool) : Evt × Int := if x.2 = true then (zEvt 0, 5) else if rightE x.1 = true then (x.1, 0) else (zEvt 0, 1)
def setL (l : List (List UInt8)) : List Fld → Nat → Evt → Option Evt
  | [], _, e => some e
  | p :: r, j, e => (setOne e p (l.getD j [])).bind fun e' => setL l r (j + 1) e'
theorem setL_none {l : List (List UInt8)} {z : Evt} {F : List Fld} {j : Nat} (hj : j ≤ F.length) (h : setN z F l j = none) : setN z F l F.length = none := by
  have := setN_none h (F.length - j)
  rwa [show j + (F.length - j) = F.length by omega] at this
theorem setN_L {l : List (List UInt8)} {z : Evt} {F : List Fld} : ∀ {d j : Nat} {e : Evt}, j + d = F.length → setN z F l j = some e → setN z F l F.length = setL l (F.drop j) (j + 1) e
  | 0, j, e, hd, h => by
    have : j = F.length := by omega
    subst this
    rw [h, List.drop_length, setL]
  | d + 1, j, e, hd, h => by
    have hjl : j < F.length := by omega
    rw [List.drop_eq_getElem_cons hjl, setL]
    have hn : setN z F l (j + 1) = setOne e F[j] (l.getD (j + 1) []) := by
      show (setN z F l j).bind _ = _
      rw [h, List.getD_eq_getElem?_getD, List.getElem?_eq_getElem hjl]
      rfl
    cases hs : setOne e F[j] (l.getD (j + 1) []) with
    | none =>
      rw [hs] at hn
      exact setL_none (by omega) hn
    | some e' =>
      rw [hs] at hn
      exact setN_L (d := d) (by omega) hn
theorem readP_bad {l : List (List UInt8)} : ∀ {F : List Fld} {j : Nat} {e : Evt}, (readP l F j e true).2 = true
  | [], _, _ => rfl
  | p :: F, j, e => by
    rw [readP, Bool.true_or]
    exact readP_bad
/-- The same but for numbers beyond all limits. -/
def SimE (k : Int) (e e' : Evt) : Prop := ∀ o, rTx e.row o = rTx e'.row o ∧ (rNm e.row o = rNm e'.row o ∨ ((false, o) ∈ fldK k ∧ ¬ inM (rNm e.row o) ∧ ¬ inM (rNm e'.row o)))
theorem SimE.set {k : Int} {e e' : Evt} {p : Fld} {tx : List UInt8} {n n' : Int} (hp : p ∈ fldK k) (h : SimE k e e') (hn : p.1 = false → n = n' ∨ (¬ inM n ∧ ¬ inM n')) : SimE k (setE e p.2 tx n) (setE e' p.2 tx n') := by
  intro o
  have hl := (fld_lt k p hp).1
  rw [← setE_row e k tx n p hp, ← setE_row e' k tx n' p hp]
  obtain ⟨t, q⟩ := p
  by_cases ho : q = o
  · subst ho
    cases t with
    | true =>
      simp only [if_true]
      rw [rTx_set (by rw [row_len]; exact hl), rTx_set (by rw [row_len]; exact hl)]
      refine ⟨rfl, .inl ?_⟩
      unfold rNm
      rw [List.getElem?_set_self (by rw [row_len]; exact hl), List.getElem?_set_self (by rw [row_len]; exact hl)]
    | false =>
      simp only [Bool.false_eq_true, if_false]
      rw [rNm_set (by rw [row_len]; exact hl), rNm_set (by rw [row_len]; exact hl)]
      refine ⟨?_, ?_⟩
      · unfold rTx
        rw [List.getElem?_set_self (by rw [row_len]; exact hl), List.getElem?_set_self (by rw [row_len]; exact hl)]
      · rcases hn rfl with h1 | h1
        · exact .inl h1
        · exact .inr ⟨hp, h1⟩
  · rw [rTx_set_ne ho, rTx_set_ne ho, rNm_set_ne ho, rNm_set_ne ho]
    exact h o
theorem readP_L {k : Int} {l : List (List UInt8)} : ∀ {F : List Fld} {j : Nat} {e e' : Evt}, (∀ p ∈ F, p ∈ fldK k) → SimE k e e' → ((readP l F j e false).2 = true ∧ setL l F j e' = none) ∨ ((readP l F j e false).2 = false ∧ ∃ x, setL l F j e' = some x ∧ SimE k (readP l F j e false).1 x)
  | [], j, e, e', _, h => .inr ⟨rfl, e', rfl, h⟩
  | p :: F, j, e, e', hF, h => by
    have hp := hF p List.mem_cons_self
    have hF' : ∀ q ∈ F, q ∈ fldK k := fun q hq => hF q (List.mem_cons_of_mem _ hq)
    rw [readP, setL, Bool.false_or]
    generalize l.getD j [] = w
    unfold stepP setOne
    by_cases ht : p.1 = true
    · rw [if_pos ht, if_pos ht]
      dsimp only
      by_cases hz : (unescF w).2 = 0
      · rw [if_pos hz, show decide ((unescF w).2 ≠ 0) = false from decide_eq_false (fun hh => hh hz), Option.bind_some]
        exact readP_L hF' (h.set hp fun hf => by rw [hf] at ht; cases ht)
      · rw [if_neg hz, show decide ((unescF w).2 ≠ 0) = true from decide_eq_true hz, Option.bind_none]
        exact .inl ⟨readP_bad, rfl⟩
    · rw [if_neg ht, if_neg ht]
      dsimp only
      by_cases hz : nmlB w = true
      · obtain ⟨h1, h2⟩ := num_both hz
        rw [if_pos hz, h1, Option.bind_some]
        exact readP_L hF' (h.set hp fun _ => h2.elim (fun h2 => .inl h2.symm) (fun h2 => .inr ⟨h2.2, h2.1⟩))
      · have h5 : (numF w).2 = 5 := Classical.not_not.1 fun hh => hz (nml_iff.2 hh)
        have hV : (numV w).2 = true := by
          unfold numV
          rw [if_neg (by rw [h5]; decide), if_pos h5]
        rw [if_neg hz, hV, Option.bind_none]
        exact .inl ⟨readP_bad, rfl⟩
theorem sim_eq {k : Int} {e e' : Evt} (h : SimE k e e') (hk : e.kind = k) : e = e' ∨ (rightE e = false ∧ rightE e' = false) := by
  by_cases hall : ∀ o, rNm e.row o = rNm e'.row o
  · left
    have tx := fun o => (h o).1
    obtain ⟨a0, a1, a2, a3, a4, a5, a6, a7, a8, a9, a10, a11, a12, a13, a14, a15⟩ := e
    obtain ⟨b0, b1, b2, b3, b4, b5, b6, b7, b8, b9, b10, b11, b12, b13, b14, b15⟩ := e'
    have x0 : a0 = b0 := hall 0
    have x1 : a1 = b1 := tx 1
    have x2 : a2 = b2 := hall 2
    have x3 : a3 = b3 := hall 3
    have x4 : a4 = b4 := tx 4
    have x5 : a5 = b5 := tx 5
    have x6 : a6 = b6 := hall 6
    have x7 : a7 = b7 := hall 7
    have x8 : a8 = b8 := hall 8
    have x9 : a9 = b9 := tx 9
    have x10 : a10 = b10 := tx 10
    have x11 : a11 = b11 := hall 11
    have x12 : a12 = b12 := hall 12
    have x13 : a13 = b13 := hall 13
    have x14 : a14 = b14 := tx 14
    have x15 : a15 = b15 := hall 15
    rw [x0, x1, x2, x3, x4, x5, x6, x7, x8, x9, x10, x11, x12, x13, x14, x15]
  · right
    obtain ⟨o, ho⟩ := Classical.not_forall.1 hall
    rcases (h o).2 with h1 | ⟨h1, h2, h3⟩
    · exact absurd h1 ho
    · have hk' : e'.kind = k := by
        rcases (h 0).2 with h4 | ⟨h4, _⟩
        · rw [kind_row, kind_row] at h4
          rw [← h4, hk]
        · exact absurd rfl (fld_lt k _ h4).2
      constructor
      · rw [← Bool.not_eq_true]
        intro hr
        exact h2 (fit_num (right_fit hr (by rw [hk]; exact h1)))
      · rw [← Bool.not_eq_true]
        intro hr
        exact h3 (fit_num (right_fit hr (by rw [hk']; exact h1)))
theorem readP_kind {k : Int} {l : List (List UInt8)} : ∀ {F : List Fld} {j : Nat} {e : Evt} {bd : Bool}, (∀ p ∈ F, p ∈ fldK k) → (readP l F j e bd).1.kind = e.kind
  | [], _, _, _, _ => rfl
  | p :: F, j, e, bd, hF => by
    have hp := hF p List.mem_cons_self
    rw [readP, readP_kind fun q hq => hF q (List.mem_cons_of_mem _ hq)]
    unfold stepP
    split
    · obtain ⟨x, hx⟩ := setE_rowx (e := e) hp (unescF (l.getD j [])).1 0
      show (setE e p.2 _ 0).kind = _
      rw [← kind_row, hx, rNm_set_ne (fld_lt k p hp).2, kind_row]
    · obtain ⟨x, hx⟩ := setE_rowx (e := e) hp [] (numV (l.getD j [])).1
      show (setE e p.2 [] _).kind = _
      rw [← kind_row, hx, rNm_set_ne (fld_lt k p hp).2, kind_row]
theorem readP_end {k : Int} {l : List (List UInt8)} : endE (setN (zEvt k) (fldK k) l (fldK k).length) = endP (readP l (fldK k) 1 (zEvt k) false) := by
  have h0 : SimE k (zEvt k) (zEvt k) := fun o => ⟨rfl, .inl rfl⟩
  rw [setN_L (d := (fldK k).length) (j := 0) (e := zEvt k) (by omega) rfl, List.drop_zero, Nat.zero_add]
  rcases readP_L (l := l) (F := fldK k) (j := 1) (fun _ h => h) h0 with ⟨h1, h2⟩ | ⟨h1, x, h2, h3⟩
  · rw [h2]
    unfold endP
    rw [if_pos h1]
    rfl
  · rw [h2]
    have hk := readP_kind (k := k) (l := l) (F := fldK k) (j := 1) (e := zEvt k) (bd := false) (fun _ h => h)
    unfold endP
    rw [if_neg (by rw [h1]; simp)]
    show (if rightE x = true then (x, 0) else (zEvt 0, 1)) = _
    rcases sim_eq h3 hk with h4 | ⟨h4, h5⟩
    · rw [h4]
    · rw [h4, h5]
      rfl
/-- Which kind a line's word tells. -/
def lastM (l : List (List UInt8)) : Nat → Int
  | 0 => 0
  | i + 1 => if matchK l ((i : Int) + 1) = true then (i : Int) + 1 else lastM l i
theorem match_uni {l : List (List UInt8)} {i j : Int} (hi : kindB i = true) (hj : kindB j = true) (h1 : matchK l i = true) (h2 : matchK l j = true) : i = j := by
  unfold matchK at h1 h2
  simp only [Bool.and_eq_true, decide_eq_true_eq, beq_iff_eq] at h1 h2
  have hw : wrdK i = wrdK j := h1.2.symm.trans h2.2
  rcases kind_cases hi with rfl | rfl | rfl | rfl | rfl <;> rcases kind_cases hj with rfl | rfl | rfl | rfl | rfl <;> revert hw <;> decide
theorem lastM_spec {l : List (List UInt8)} : (lastM l 5 = 0 ∧ tryK l 5 1 = (zEvt 0, 5)) ∨ (kindB (lastM l 5) = true ∧ matchK l (lastM l 5) = true ∧ tryK l 5 1 = endE (setN (zEvt (lastM l 5)) (fldK (lastM l 5)) l (fldK (lastM l 5)).length)) := by
  have u := fun (i j : Int) (hi : kindB i = true) (hj : kindB j = true) (hne : i ≠ j) (h1 : matchK l i = true) => (show matchK l j = false by rw [← Bool.not_eq_true]; exact fun h2 => hne (match_uni hi hj h1 h2))
  have e0 : lastM l 5 = if matchK l 5 = true then 5 else if matchK l 4 = true then 4 else if matchK l 3 = true then 3 else if matchK l 2 = true then 2 else if matchK l 1 = true then 1 else 0 := rfl
  have e1 : tryK l 5 1 = if matchK l 1 = true then endE (setN (zEvt 1) (fldK 1) l (fldK 1).length) else if matchK l 2 = true then endE (setN (zEvt 2) (fldK 2) l (fldK 2).length) else
      if matchK l 3 = true then endE (setN (zEvt 3) (fldK 3) l (fldK 3).length) else if matchK l 4 = true then endE (setN (zEvt 4) (fldK 4) l (fldK 4).length) else if matchK l 5 = true then endE (setN (zEvt 5) (fldK 5) l (fldK 5).length) else (zEvt 0, 5) := rfl
  rw [e0, e1]
  clear e0 e1
  by_cases m1 : matchK l 1 = true
  · rw [if_pos m1, u 1 5 rfl rfl (by decide) m1, u 1 4 rfl rfl (by decide) m1, u 1 3 rfl rfl (by decide) m1, u 1 2 rfl rfl (by decide) m1, if_pos m1]
    exact .inr ⟨rfl, m1, rfl⟩
  rw [Bool.not_eq_true] at m1
  rw [m1]
  by_cases m2 : matchK l 2 = true
  · rw [if_pos m2, u 2 5 rfl rfl (by decide) m2, u 2 4 rfl rfl (by decide) m2, u 2 3 rfl rfl (by decide) m2, if_pos m2]
    exact .inr ⟨rfl, m2, rfl⟩
  rw [Bool.not_eq_true] at m2
  rw [m2]
  by_cases m3 : matchK l 3 = true
  · rw [if_pos m3, u 3 5 rfl rfl (by decide) m3, u 3 4 rfl rfl (by decide) m3, if_pos m3]
    exact .inr ⟨rfl, m3, rfl⟩
  rw [Bool.not_eq_true] at m3
  rw [m3]
  by_cases m4 : matchK l 4 = true
  · rw [if_pos m4, u 4 5 rfl rfl (by decide) m4, if_pos m4]
    exact .inr ⟨rfl, m4, rfl⟩
  rw [Bool.not_eq_true] at m4
  rw [m4]
  by_cases m5 : matchK l 5 = true
  · rw [if_pos m5, if_pos m5]
    exact .inr ⟨rfl, m5, rfl⟩
  rw [Bool.not_eq_true] at m5
  rw [m5]
  exact .inl ⟨rfl, rfl⟩

end Go.Ab

/-
  The reference's Reader.
-/
namespace Go.Ab
open Go.RowKit Go.Proofs

abbrev rdrS (f : Bool) (l : List (List UInt8)) (n : Int) (bd : Bool) : Ob := .box [.d (.sl f (l.map rowS)), .d (.int .i64 n), .d (.bool bd)]

noncomputable section
open Classical

structure RsB where
  h : Hp
  id : Nat
  f : Bool
  l : List (List UInt8)
  n : Nat
  bd : Bool
def rsbR (a : RsB) (args : List AV) (h : Hp) : Prop := args = [.v (.c (.ptr a.id 0))] ∧ h = a.h ∧ a.h[a.id]? = some (rdrS a.f a.l a.n a.bd)
theorem rsbR_inj {a b : RsB} {args : List AV} {h : Hp} (ha : rsbR a args h) (hb : rsbR b args h) : b = a := by
  obtain ⟨a1, a2, a3, a4, a5, a6⟩ := a
  obtain ⟨b1, b2, b3, b4, b5, b6⟩ := b
  obtain ⟨h1, h2, h3⟩ := ha
  obtain ⟨g1, g2, g3⟩ := hb
  dsimp only at *
  subst h2 g2
  rw [h1] at g1
  simp only [List.cons.injEq, AV.v.injEq, V.c.injEq, C1.ptr.injEq, and_true] at g1
  subst g1
  rw [h3] at g3
  simp only [Option.some.injEq, Ob.box.injEq, List.cons.injEq, C1.d.injEq, D.sl.injEq, D.int.injEq, D.bool.injEq, and_true, true_and] at g3
  obtain ⟨⟨g4, g5⟩, g6, g7⟩ := g3
  have hl : a4 = b4 := map_inj (f := rowS) (fun a b h => by simpa [rowS] using h) g5
  rw [g4, hl, show a5 = b5 by omega, g7]
def rsOk (a : RsB) : Prop := a.n < a.l.length ∧ a.l.length ≤ 1000 ∧ (a.l.getD a.n []).length ≤ 100000

def rtext_k : List AV → Hp → Option COut := kR rsbR fun a => if rsOk a then some (.ret (AV.s (unescF (a.l.getD a.n [])).1) (a.h.set a.id (rdrS a.f a.l (a.n + 1 : Nat) (a.bd || decide ((unescF (a.l.getD a.n [])).2 ≠ 0))))) else none
def rnumr_k : List AV → Hp → Option COut := kR rsbR fun a => if rsOk a then some (.ret (AV.i (numV (a.l.getD a.n [])).1) (a.h.set a.id (rdrS a.f a.l (a.n + 1 : Nat) (a.bd || (numV (a.l.getD a.n [])).2)))) else none

theorem runescE_at {s : List UInt8} (h : s.length ≤ 100000) : runesc_m [.c (.str s)] = some [.c (.str (unescF s).1), .i (unescF s).2] := by rw [runesc_m, ms_eq]; exact if_pos (decide_eq_true h)
theorem rnumE_at {s : List UInt8} (h : s.length ≤ 100000) : rnum_m [.c (.str s)] = some [.i (numF s).1, .i (numF s).2] := by rw [rnum_m, ms_eq]; exact if_pos (decide_eq_true h)

theorem rtext_kok : ImpC Tryd.prog Gt 38 rtext_k := by
  intro args h out h0
  refine fok_of_awpSW (X := ctxN Tryd.prog Gt [(58, runesc_m)] [] [] none) Tryd.func38 rfl rfl (by kernel_rfl) (by kernel_rfl) (kok_n (AllOk.cons runesc_ok AllOk.nil) AllK.nil AllN.nil) ?_ ?_
  · obtain ⟨a, ⟨rfl, _⟩, _⟩ := kR_inv h0
    exact Nat.le_of_ble_eq_true rfl
  obtain ⟨⟨h', id, f, l, n, bd⟩, ⟨rfl, rfl, hid⟩, hg⟩ := kR_inv h0
  dsimp only at hid hg ⊢
  split at hg
  · rename_i hok
    obtain ⟨h1, h2, h3⟩ := hok
    dsimp only at h1 h2 h3
    have hidl := lt_of_get hid
    simp only [Option.some.injEq] at hg
    have hrow : ∀ o, (h.set id o)[id]? = some o := fun o => by simp [hidl]
    have hss : ∀ o o', (h.set id o).set id o' = h.set id o' := fun o o' => by rw [List.set_set]
    have e1 := strRow h1
    have f1 := runescE_at h3
    have w1 : IntKind.i64.wrap ((n : Int) + 1) = ((n + 1 : Nat) : Int) := by rw [wI (by omega) (by omega)]; omega
    generalize l.getD n [] = w at *
    generalize unescF w = u at *
    obtain ⟨x, er⟩ := u
    dsimp only at f1 hg
    cases bd with
    | true =>
      rw [Bool.true_or] at hg
      subst hg
      have hc := Nat.zero_add 0
      repeat' (first | simp only [hc, AS, Tryd.f38, NX, NPV, SX, HX, hid, e1, f1, w1, hrow, hss, nn, Int.toNat_natCast, AB, PL, RG, LP, TY, simprocAttr, ↓reduceIte, forall_const, eq_self, ne_eq, Option.some.injEq, beq_self_eq_true] | ((first | apply fin_ndec | apply fin_dec | apply cnd_ndec | apply cnd_dec' | apply fin_nsplit | apply fin_split | apply cnd_nsplit | apply cnd_split) <;> intro hc) | refine seqS_id ?_ | refine blk_exit_id ?_)
      exact ⟨_, Wk.refl, [.c (.d (.str x))], by simp [resAllV, resOneV, S.get, look, AV.one], by simp [resVV]⟩
    | false =>
      by_cases he : er = 0
      · subst he
        rw [Bool.false_or, decide_eq_false (by simp)] at hg
        subst hg
        have hc := Nat.zero_add 0
        repeat' (first | simp only [hc, AS, Tryd.f38, NX, NPV, SX, HX, hid, e1, f1, w1, hrow, hss, nn, Int.toNat_natCast, AB, PL, RG, LP, TY, simprocAttr, ↓reduceIte, forall_const, eq_self, ne_eq, Option.some.injEq, beq_self_eq_true] | ((first | apply fin_ndec | apply fin_dec | apply cnd_ndec | apply cnd_dec' | apply fin_nsplit | apply fin_split | apply cnd_nsplit | apply cnd_split) <;> intro hc) | refine seqS_id ?_ | refine blk_exit_id ?_)
        exact ⟨_, Wk.refl, [.c (.d (.str x))], by simp [resAllV, resOneV, S.get, look, AV.one], by simp [resVV]⟩
      · have he' := eq_false he
        rw [Bool.false_or, decide_eq_true he] at hg
        subst hg
        have hc := Nat.zero_add 0
        repeat' (first | simp only [hc, AS, Tryd.f38, NX, NPV, SX, HX, hid, e1, f1, w1, he', hrow, hss, nn, Int.toNat_natCast, AB, PL, RG, LP, TY, simprocAttr, ↓reduceIte, forall_const, eq_self, ne_eq, Option.some.injEq, beq_self_eq_true] | ((first | apply fin_ndec | apply fin_dec | apply cnd_ndec | apply cnd_dec' | apply fin_nsplit | apply fin_split | apply cnd_nsplit | apply cnd_split) <;> intro hc) | refine seqS_id ?_ | refine blk_exit_id ?_)
        exact ⟨_, Wk.refl, [.c (.d (.str x))], by simp [resAllV, resOneV, S.get, look, AV.one], by simp [resVV]⟩
  · cases hg

theorem satS_snoc {c : UInt8} : ∀ {l : List UInt8} {n : Int}, satS n (l ++ [c]) = min (10 * satS n l + ((c.toNat : Int) - 48)) 2251799813685248
  | [], n => rfl
  | d :: l, n => by rw [List.cons_append, satS, satS_snoc, satS]
theorem satS_bd : ∀ {l : List UInt8} {n : Int}, 0 ≤ n → n ≤ 2251799813685248 → (∀ c ∈ l, isDig c = true) → 0 ≤ satS n l ∧ satS n l ≤ 2251799813685248
  | [], n, h1, h2, _ => ⟨h1, h2⟩
  | c :: l, n, h1, h2, hl => by
    rw [satS]
    have := dig_iff.1 (hl c List.mem_cons_self)
    exact satS_bd (by omega) (by omega) fun d hd => hl d (List.mem_cons_of_mem _ hd)

set_option maxHeartbeats 1000000 in
theorem rnumr_kok : ImpC Tryd.prog Gt 39 rnumr_k := by
  intro args h out h0
  refine fok_of_awpSW (X := ctxN Tryd.prog Gt [(59, rnum_m)] [] [] none) Tryd.func39 rfl rfl (by kernel_rfl) (by kernel_rfl) (kok_n (AllOk.cons rnum_ok AllOk.nil) AllK.nil AllN.nil) ?_ ?_
  · obtain ⟨a, ⟨rfl, _⟩, _⟩ := kR_inv h0
    exact Nat.le_of_ble_eq_true rfl
  obtain ⟨⟨h', id, f, l, n, bd⟩, ⟨rfl, rfl, hid⟩, hg⟩ := kR_inv h0
  dsimp only at hid hg ⊢
  split at hg
  · rename_i hok
    obtain ⟨h1, h2, h3⟩ := hok
    dsimp only at h1 h2 h3
    have hidl := lt_of_get hid
    simp only [Option.some.injEq] at hg
    have hrow : ∀ o, (h.set id o)[id]? = some o := fun o => by simp [hidl]
    have hss : ∀ o o', (h.set id o).set id o' = h.set id o' := fun o o' => by rw [List.set_set]
    have e1 := strRow h1
    have f1 := rnumE_at h3
    have w1 : IntKind.i64.wrap ((n : Int) + 1) = ((n + 1 : Nat) : Int) := by rw [wI (by omega) (by omega)]; omega
    generalize l.getD n [] = w at *
    have hV : numV w = numV w := rfl
    conv at hV => rhs; unfold numV
    have hparts := @nml_parts w
    have hni := @nml_iff w
    have hN2 : (numF w).2 = 2 → (numF w).1 = 0 := by
      unfold numF
      split
      · intro h; cases h
      · split
        · split
          · intro _; rfl
          · intro h; cases h
        · intro h; cases h
    have hN3 : (numF w).2 = 0 ∨ (numF w).2 = 5 ∨ (numF w).2 = 2 := by
      unfold numF
      split
      · exact .inr (.inl rfl)
      · split
        · split
          · exact .inr (.inr rfl)
          · exact .inl rfl
        · exact .inr (.inl rfl)
    generalize numF w = q at *
    obtain ⟨v, er⟩ := q
    dsimp only at f1 hV hN2 hN3 hni
    rcases hN3 with rfl | rfl | rfl
    · rw [if_pos rfl] at hV
      rw [hV] at hg
      dsimp only at hg
      rw [Bool.or_false] at hg
      subst hg
      have hc := Nat.zero_add 0
      repeat' (first | simp only [hc, AS, Tryd.f39, NX, NPV, SX, HX, hid, e1, f1, w1, hrow, hss, nn, Int.toNat_natCast, AB, PL, RG, LP, TY, simprocAttr, ↓reduceIte, forall_const, eq_self, ne_eq, Option.some.injEq, beq_self_eq_true] | ((first | apply fin_ndec | apply fin_dec | apply cnd_ndec | apply cnd_dec' | apply fin_nsplit | apply fin_split | apply cnd_nsplit | apply cnd_split) <;> intro hc) | refine seqS_id ?_ | refine blk_exit_id ?_)
      exact ⟨_, Wk.refl, [.c (.d (.int .i64 v))], by simp [resAllV, resOneV, S.get, look, AV.one], by simp [resVV]⟩
    · rw [if_neg (by decide), if_pos rfl] at hV
      rw [hV] at hg
      dsimp only at hg
      rw [Bool.or_true] at hg
      subst hg
      have hc := Nat.zero_add 0
      repeat' (first | simp only [hc, AS, Tryd.f39, NX, NPV, SX, HX, hid, e1, f1, w1, hrow, hss, nn, Int.toNat_natCast, AB, PL, RG, LP, TY, simprocAttr, ↓reduceIte, forall_const, eq_self, ne_eq, Option.some.injEq, beq_self_eq_true] | ((first | apply fin_ndec | apply fin_dec | apply cnd_ndec | apply cnd_dec' | apply fin_nsplit | apply fin_split | apply cnd_nsplit | apply cnd_split) <;> intro hc) | refine seqS_id ?_ | refine blk_exit_id ?_)
      exact ⟨_, Wk.refl, [.c (.d (.int .i64 0))], by simp [resAllV, resOneV, S.get, look, AV.one], by simp [resVV]⟩
    · rw [if_neg (by decide), if_neg (by decide)] at hV
      have hv0 := hN2 rfl
      subst hv0
      rw [hV] at hg
      dsimp only at hg
      rw [Bool.or_false] at hg
      subst hg
      obtain ⟨d, d1, d2, _, d4⟩ := hparts (hni.2 (by decide))
      have hsb := fun (j : Nat) => satS_bd (l := d.take j) (n := 0) (by decide) (by decide) fun c hc => d2 c (List.mem_of_mem_take hc)
      have hst := fun (j : Nat) (hj : j < d.length) => (show satS 0 (d.take (j + 1)) = min (10 * satS 0 (d.take j) + ((d[j].toNat : Int) - 48)) 2251799813685248 by rw [List.take_succ_eq_append_getElem hj, satS_snoc])
      have hdg := fun (j : Nat) (hj : j < d.length) => dig_iff.1 (d2 d[j] (List.getElem_mem hj))
      have hdl : d.length ≤ 100000 := by rcases d4 with ⟨e, _⟩ | e <;> rw [e] at h3 <;> first | exact h3 | (simp only [List.length_cons] at h3; omega)
      rcases d4 with ⟨rfl, _⟩ | rfl
      · have hh : (if (45 :: d).headD 0 = 45 then -(satS 0 ((45 :: d).drop 1)) else satS 0 (45 :: d)) = -(satS 0 d) := if_pos rfl
        rw [hh]
        have c0 : (((45 : UInt8).toNat : Int) = 45) = True := eq_true rfl
        have e0 : (45 :: d)[0]? = some 45 := rfl
        have hc := Nat.zero_add 0
        repeat' (first | simp only [hc, AS, Tryd.f39, NX, NPV, SX, HX, hid, e1, f1, w1, hrow, hss, e0, c0, nn, Int.toNat_natCast, AB, PL, RG, LP, TY, simprocAttr, ↓reduceIte, forall_const, eq_self, ne_eq, Option.some.injEq, beq_self_eq_true] | ((first | apply fin_ndec | apply fin_dec | apply cnd_ndec | apply cnd_dec' | apply fin_nsplit | apply fin_split | apply cnd_nsplit | apply cnd_split) <;> intro hc) | refine seqS_id ?_ | refine blk_exit_id ?_)
        refine awpS_loop (σ := Nat) (fun j => j ≤ d.length) (fun j => ⟨[(8, AV.i (j + 1 : Nat)), (6, AV.i (-1)), (4, AV.i (satS 0 (d.take j))), (3, AV.s (45 :: d))], h.set id (rdrS f l (n + 1 : Nat) bd)⟩) (fun j => d.length - j) 0 (Wk.sub' (by simp [subT, look, satS]) rfl) (Nat.zero_le _) ?_
        intro j hj
        by_cases hjl : j < d.length
        · have hlt : (((j + 1 : Nat) : Int) < ((d.length + 1 : Nat) : Int)) = True := eq_true (by omega)
          have w2 : IntKind.i64.wrap (((j + 1 : Nat) : Int) + 1) = ((j + 1 + 1 : Nat) : Int) := by rw [wI (by omega) (by omega)]; omega
          have e2 : (45 :: d)[j + 1]? = some d[j] := by rw [List.getElem?_cons_succ, List.getElem?_eq_getElem hjl]
          obtain ⟨b1, b2⟩ := hsb j
          have hs2 := hst j hjl
          have hd2 := hdg j hjl
          generalize d[j] = c at *
          generalize satS 0 (d.take j) = m at *
          have w3 : IntKind.i64.wrap (10 * m) = 10 * m := wI (by omega) (by omega)
          have w4 := eU8 (n := (c.toNat : Int) - 48) (by omega) (by omega)
          have w5 := wI (n := (c.toNat : Int) - 48) (by omega) (by omega)
          have w6 := wI (n := 10 * m + ((c.toNat : Int) - 48)) (by omega) (by omega)
          have w7 : (if 2251799813685248 < 10 * m + ((c.toNat : Int) - 48) then 2251799813685248 else 10 * m + ((c.toNat : Int) - 48)) = satS 0 (d.take (j + 1)) := by rw [hs2]; split <;> omega
          have hc := Nat.zero_add 0
          repeat' (first | simp only [hc, AS, NX, NPV, SX, HX, hlt, w2, e2, w3, w4, w5, w6, fold_cons, fold_nil, min_int, w7, nn, Int.toNat_natCast, AB, PL, RG, LP, TY, simprocAttr, ↓reduceIte, forall_const, eq_self, ne_eq, Option.some.injEq, beq_self_eq_true] | ((first | apply fin_ndec | apply fin_dec | apply cnd_ndec | apply cnd_dec' | apply fin_nsplit | apply fin_split | apply cnd_nsplit | apply cnd_split) <;> intro hc) | refine seqS_id ?_ | refine blk_exit_id ?_)
          exact lp_next (j + 1) (Wk.sub' (by simp [subT, look]) rfl) (by omega) (by omega)
        · have hlt : (((j + 1 : Nat) : Int) < ((d.length + 1 : Nat) : Int)) = False := eq_false (by omega)
          obtain ⟨b1, b2⟩ := hsb j
          rw [List.take_of_length_le (by omega)] at b1 b2 ⊢
          have w8 : IntKind.i64.wrap (-1 * satS 0 d) = -(satS 0 d) := by rw [wI (by omega) (by omega)]; omega
          have hc := Nat.zero_add 0
          repeat' (first | simp only [hc, AS, NX, NPV, SX, HX, hlt, w8, AB, PL, RG, LP, TY, simprocAttr, ↓reduceIte, forall_const, eq_self, ne_eq, Option.some.injEq, beq_self_eq_true] | ((first | apply fin_ndec | apply fin_dec | apply cnd_ndec | apply cnd_dec' | apply fin_nsplit | apply fin_split | apply cnd_nsplit | apply cnd_split) <;> intro hc) | refine seqS_id ?_ | refine blk_exit_id ?_)
          exact ⟨_, Wk.refl, [.c (.d (.int .i64 (-(satS 0 d))))], by simp [resAllV, resOneV, S.get, look, AV.one], by simp [resVV]⟩
      · have hne : w.headD 0 ≠ 45 := by
          cases w with
          | nil => exact absurd rfl d1
          | cons c r =>
            intro e
            have := dig_iff.1 (d2 c List.mem_cons_self)
            rw [show c = 45 from e] at this
            exact absurd this.1 (by decide)
        rw [if_neg hne]
        have e0 : w[0]? = some (w.headD 0) := by
          cases w with
          | nil => exact absurd rfl d1
          | cons c r => rfl
        have c0 : (((w.headD 0).toNat : Int) = 45) = False := eq_false fun e => hne (UInt8.toNat_inj.1 (by rw [show (45 : UInt8).toNat = 45 from rfl]; omega))
        have hc := Nat.zero_add 0
        repeat' (first | simp only [hc, AS, Tryd.f39, NX, NPV, SX, HX, hid, e1, f1, w1, hrow, hss, e0, c0, nn, Int.toNat_natCast, AB, PL, RG, LP, TY, simprocAttr, ↓reduceIte, forall_const, eq_self, ne_eq, Option.some.injEq, beq_self_eq_true] | ((first | apply fin_ndec | apply fin_dec | apply cnd_ndec | apply cnd_dec' | apply fin_nsplit | apply fin_split | apply cnd_nsplit | apply cnd_split) <;> intro hc) | refine seqS_id ?_ | refine blk_exit_id ?_)
        refine awpS_loop (σ := Nat) (fun j => j ≤ w.length) (fun j => ⟨[(8, AV.i (j : Nat)), (6, AV.i 1), (4, AV.i (satS 0 (w.take j))), (3, AV.s w)], h.set id (rdrS f l (n + 1 : Nat) bd)⟩) (fun j => w.length - j) 0 (Wk.sub' (by simp [subT, look, satS]) rfl) (Nat.zero_le _) ?_
        intro j hj
        by_cases hjl : j < w.length
        · have hlt : (((j : Nat) : Int) < ((w).length : Int)) = True := eq_true (by omega)
          have w2 : IntKind.i64.wrap (((j : Nat) : Int) + 1) = ((j + 1 : Nat) : Int) := by rw [wI (by omega) (by omega)]; omega
          have e2 : (w)[j]? = some w[j] := by rw [List.getElem?_eq_getElem hjl]
          obtain ⟨b1, b2⟩ := hsb j
          have hs2 := hst j hjl
          have hd2 := hdg j hjl
          generalize w[j] = c at *
          generalize satS 0 (w.take j) = m at *
          have w3 : IntKind.i64.wrap (10 * m) = 10 * m := wI (by omega) (by omega)
          have w4 := eU8 (n := (c.toNat : Int) - 48) (by omega) (by omega)
          have w5 := wI (n := (c.toNat : Int) - 48) (by omega) (by omega)
          have w6 := wI (n := 10 * m + ((c.toNat : Int) - 48)) (by omega) (by omega)
          have w7 : (if 2251799813685248 < 10 * m + ((c.toNat : Int) - 48) then 2251799813685248 else 10 * m + ((c.toNat : Int) - 48)) = satS 0 (w.take (j + 1)) := by rw [hs2]; split <;> omega
          have hc := Nat.zero_add 0
          repeat' (first | simp only [hc, AS, NX, NPV, SX, HX, hlt, w2, e2, w3, w4, w5, w6, fold_cons, fold_nil, min_int, w7, nn, Int.toNat_natCast, AB, PL, RG, LP, TY, simprocAttr, ↓reduceIte, forall_const, eq_self, ne_eq, Option.some.injEq, beq_self_eq_true] | ((first | apply fin_ndec | apply fin_dec | apply cnd_ndec | apply cnd_dec' | apply fin_nsplit | apply fin_split | apply cnd_nsplit | apply cnd_split) <;> intro hc) | refine seqS_id ?_ | refine blk_exit_id ?_)
          exact lp_next (j + 1) (Wk.sub' (by simp [subT, look]) rfl) (by omega) (by omega)
        · have hlt : (((j : Nat) : Int) < ((w).length : Int)) = False := eq_false (by omega)
          obtain ⟨b1, b2⟩ := hsb j
          rw [List.take_of_length_le (by omega)] at b1 b2 ⊢
          have w8 : IntKind.i64.wrap (1 * satS 0 w) = satS 0 w := by rw [wI (by omega) (by omega)]; omega
          have hc := Nat.zero_add 0
          repeat' (first | simp only [hc, AS, NX, NPV, SX, HX, hlt, w8, AB, PL, RG, LP, TY, simprocAttr, ↓reduceIte, forall_const, eq_self, ne_eq, Option.some.injEq, beq_self_eq_true] | ((first | apply fin_ndec | apply fin_dec | apply cnd_ndec | apply cnd_dec' | apply fin_nsplit | apply fin_split | apply cnd_nsplit | apply cnd_split) <;> intro hc) | refine seqS_id ?_ | refine blk_exit_id ?_)
          exact ⟨_, Wk.refl, [.c (.d (.int .i64 (satS 0 w)))], by simp [resAllV, resOneV, S.get, look, AV.one], by simp [resVV]⟩
  · cases hg

end
end Go.Ab
