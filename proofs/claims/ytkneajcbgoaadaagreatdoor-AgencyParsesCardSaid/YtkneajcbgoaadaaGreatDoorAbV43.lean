/-
  Texts of the layer and of the laws, put together: AbA35. No law is stated here.
-/
import Derived.Test.YtkneajcbgoaadaaGreatDoorAbV42
import Derived.Test.YtkneajcbgoaadaaGreatDoorAbV38
import Derived.Test.YtkneajcbgoaadaaGreatDoorAbV39
set_option linter.unusedSimpArgs false
set_option linter.unusedVariables false
set_option maxRecDepth 100000

/-
  Agencies' files: both readers do the same; law Parses.
-/
namespace Go.Ab
open Go.RowKit Go.Proofs

theorem clZ_eq {n : Int} {m : Int} (h1 : -2147483648 ≤ m) (h2 : m ≤ 2147483648) : clZ n = m ↔ n = m ∨ (m = -1 ∧ n < -2147483648) := by
  unfold clZ
  split
  · constructor
    · intro h; exact .inr ⟨h.symm, by omega⟩
    · rintro (h | h) <;> omega
  · split <;> omega
theorem numR_map {s : List UInt8} : numR s = (numA s).map clZ := rfl

theorem headF_cl {b c : List UInt8} {n : Int} : headF ⟨b, c, clZ n, true, []⟩ = headF ⟨b, c, n, true, []⟩ ∧ (headF ⟨b, c, n, true, []⟩ = 0 → clZ n = n) := by
  have h : (clZ n < 1 ∨ 2147483648 < clZ n) ↔ (n < 1 ∨ 2147483648 < n) := by
    unfold clZ
    split
    · omega
    · split <;> omega
  refine ⟨?_, fun h0 => ?_⟩
  · unfold headF
    dsimp only
    split
    · rfl
    · split
      · rfl
      · by_cases hn : n < 1 ∨ 2147483648 < n
        · rw [if_pos hn, if_pos (h.2 hn)]
        · rw [if_neg hn, if_neg (fun k => hn (h.1 k))]
  · unfold headF at h0
    dsimp only at h0
    split at h0
    · cases h0
    · split at h0
      · cases h0
      · split at h0
        · cases h0
        · rename_i hn
          unfold clZ
          rw [if_neg (by omega), if_neg (by omega)]
theorem rightF_time {k c w t : Int} {b : List UInt8} : rightF ⟨k, b, clZ t, c, w⟩ = rightF ⟨k, b, t, c, w⟩ ∧ (rightF ⟨k, b, t, c, w⟩ = 0 → clZ t = t) := by
  have h : (clZ t < 0 ∨ 68719476736 ≤ clZ t) ↔ (t < 0 ∨ 68719476736 ≤ t) := by
    unfold clZ
    split
    · omega
    · split <;> omega
  refine ⟨?_, fun h0 => ?_⟩
  · unfold rightF
    dsimp only
    split
    · rfl
    · split
      · rfl
      · split
        · rfl
        · by_cases hn : t < 0 ∨ 68719476736 ≤ t
          · rw [if_pos hn, if_pos (h.2 hn)]
          · rw [if_neg hn, if_neg (fun k => hn (h.1 k))]
  · unfold rightF at h0
    dsimp only at h0
    split at h0
    · cases h0
    · split at h0
      · cases h0
      · split at h0
        · cases h0
        · split at h0
          · cases h0
          · rename_i hn
            unfold clZ
            split
            · omega
            · split <;> omega
theorem rightF_why {t w : Int} {b : List UInt8} : rightF ⟨3, b, t, 0, clZ w⟩ = rightF ⟨3, b, t, 0, w⟩ ∧ (rightF ⟨3, b, t, 0, w⟩ = 0 → clZ w = w) := by
  have h : (clZ w < 0 ∨ 99 < clZ w) ↔ (w < 0 ∨ 99 < w) := by
    unfold clZ
    split
    · omega
    · split <;> omega
  refine ⟨?_, fun h0 => ?_⟩
  · unfold rightF
    dsimp only
    split
    · rfl
    · split
      · rfl
      · split
        · rfl
        · split
          · rfl
          · rw [if_pos rfl, if_pos rfl]
            by_cases hn : w < 0 ∨ 99 < w
            · rw [if_pos (.inr (h.2 hn)), if_pos (.inr hn)]
            · rw [if_neg (by rintro (h1 | h1); exact h1 rfl; exact hn (h.1 h1)), if_neg (by rintro (h1 | h1); exact h1 rfl; exact hn h1)]
  · unfold rightF at h0
    dsimp only at h0
    split at h0
    · cases h0
    · split at h0
      · cases h0
      · split at h0
        · cases h0
        · split at h0
          · cases h0
          · rw [if_pos rfl] at h0
            split at h0
            · cases h0
            · rename_i hn
              unfold clZ
              rw [if_neg (by omega), if_neg (by omega)]

theorem kind_idx (a : List UInt8) : (kindF a ≠ 0 ↔ 0 ≤ idxS (wordsL.drop 1) a) ∧ (kindF a ≠ 0 → idxS wordsL a = kindF a) := by
  have w1 : wordF 1 = [99, 104, 97, 114, 103, 101] := rfl
  have w2 : wordF 2 = [99, 111, 114, 114, 101, 99, 116] := rfl
  have w3 : wordF 3 = [114, 101, 106, 101, 99, 116] := rfl
  have w4 : wordF 4 = [112, 97, 121] := rfl
  by_cases h1 : a = [99, 104, 97, 114, 103, 101]
  · subst h1; decide
  by_cases h2 : a = [99, 111, 114, 114, 101, 99, 116]
  · subst h2; decide
  by_cases h3 : a = [114, 101, 106, 101, 99, 116]
  · subst h3; decide
  by_cases h4 : a = [112, 97, 121]
  · subst h4; decide
  have hk : kindF a = 0 := by
    unfold kindF
    rw [w1, w2, w3, w4, if_neg h1, if_neg h2, if_neg h3, if_neg h4]
  refine ⟨⟨fun h => absurd hk h, fun h => ?_⟩, fun h => absurd hk h⟩
  have : idxS (wordsL.drop 1) a = -1 := idxS_none fun i hi => by
    simp [wordsL] at hi
    have : i = 0 ∨ i = 1 ∨ i = 2 ∨ i = 3 := by omega
    rcases this with rfl | rfl | rfl | rfl
    · exact Ne.symm h1
    · exact Ne.symm h2
    · exact Ne.symm h3
    · exact Ne.symm h4
  omega

/-- The first line. -/
theorem first_same (l : List (List UInt8)) : match firE l with
    | .error e => (firR l).2 = e ∧ e ≠ 0
    | .ok (b, c, n) => firR l = (⟨b, c, n, true, []⟩, 0) := by
  have h5 : (5 : Int) ≠ 0 := by decide
  by_cases h4 : l.length ≠ 4
  · rw [firE_len h4, firR_len h4]
    exact ⟨rfl, h5⟩
  have h4 : l.length = 4 := Classical.not_not.1 h4
  obtain ⟨a, b, c, d, rfl⟩ : ∃ a b c d, l = [a, b, c, d] := by
    match l, h4 with
    | [a, b, c, d], _ => exact ⟨a, b, c, d, rfl⟩
  unfold firE firR
  dsimp only
  by_cases h1 : a = [102, 105, 108, 101]
  · rw [if_pos h1, if_pos h1, numR_map]
    cases hn : numA d with
    | none => exact ⟨rfl, h5⟩
    | some n =>
      obtain ⟨g1, g2⟩ := @headF_cl b c n
      dsimp only [Option.map_some]
      by_cases h0 : headF ⟨b, c, n, true, []⟩ = 0
      · rw [if_pos h0]
        dsimp only
        rw [g1, g2 h0, h0]
      · rw [if_neg h0]
        exact ⟨g1, h0⟩
  · rw [if_neg h1, if_neg h1]
    exact ⟨rfl, h5⟩
/-- The last line. -/
theorem last_same {x : Rdr} (hx : x.rs.length ≤ 1024) (l : List (List UInt8)) : match lasE x l with
    | .error e => lasR x.rs l = e ∧ e ≠ 0
    | .ok _ => lasR x.rs l = 0 := by
  have h5 : (5 : Int) ≠ 0 := by decide
  by_cases h3 : l.length ≠ 3
  · rw [lasR_len h3]
    have : lasE x l = .error 5 := by
      unfold lasE
      split
      · simp at h3
      · rfl
    rw [this]
    exact ⟨rfl, h5⟩
  have h3 : l.length = 3 := Classical.not_not.1 h3
  obtain ⟨a, b, c, rfl⟩ : ∃ a b c, l = [a, b, c] := by
    match l, h3 with
    | [a, b, c], _ => exact ⟨a, b, c, rfl⟩
  unfold lasE lasR
  dsimp only
  rw [numR_map]
  cases hn : numA b with
  | none => exact ⟨rfl, h5⟩
  | some n =>
    dsimp only [Option.map_some]
    have hc := @clZ_eq n x.rs.length (by omega) (by omega)
    have hc' : clZ n = x.rs.length ↔ n = x.rs.length := by
      rw [hc]
      constructor
      · rintro (h | h)
        · exact h
        · omega
      · exact fun h => .inl h
    by_cases hp : (parseF c).2 = 0
    · rw [if_pos hp, if_neg (show ¬ (parseF c).2 ≠ 0 from fun h => h hp)]
      by_cases ht : (totF x.rs).2 = 0
      · rw [if_pos ht, if_neg (show ¬ (totF x.rs).2 ≠ 0 from fun h => h ht)]
        by_cases hq : n = x.rs.length ∧ (totF x.rs).1 = (parseF c).1
        · rw [if_pos hq]
          dsimp only
          rw [if_neg]
          rintro (h | h)
          · exact h (hc'.2 hq.1)
          · exact h hq.2.symm
        · rw [if_neg hq]
          refine ⟨?_, by decide⟩
          rw [if_pos]
          by_cases h1 : n = x.rs.length
          · exact .inr fun h => hq ⟨h1, h.symm⟩
          · exact .inl fun h => h1 (hc'.1 h)
      · rw [if_neg ht, if_pos ht]
        exact ⟨rfl, ht⟩
    · rw [if_neg hp, if_pos hp]
      exact ⟨rfl, hp⟩
/-- A record. -/
theorem rec_same {rs : List Rec} {l : List (List UInt8)} : match (if l.length = 4 ∧ 0 ≤ idxS (wordsL.drop 1) (l.headD []) then recE rs l else .error 5) with
    | .error e => (midR (rs.length + 1) l).2 = e ∧ e ≠ 0
    | .ok r => midR (rs.length + 1) l = (r, 0) := by
  have h5 : (5 : Int) ≠ 0 := by decide
  have hC : ∀ {x y : Rec}, rightF x = rightF y → (rightF y = 0 → x = y) → match recC rs y with
      | .error e => (midC (rs.length + 1) x).2 = e ∧ e ≠ 0
      | .ok r => midC (rs.length + 1) x = (r, 0) := fun {x y} h1 h2 => by
    unfold recC midC
    by_cases hn : 1024 ≤ rs.length
    · rw [if_pos hn, if_pos (show 1024 < (rs.length : Int) + 1 by omega)]
      exact ⟨rfl, by decide⟩
    · rw [if_neg hn, if_neg (show ¬ 1024 < (rs.length : Int) + 1 by omega)]
      by_cases h0 : rightF y = 0
      · rw [if_pos h0]
        dsimp only
        rw [h1, h0, h2 h0]
      · rw [if_neg h0]
        exact ⟨h1, h0⟩
  by_cases h4 : l.length ≠ 4
  · rw [if_neg (fun h => h4 h.1), midR_len h4]
    exact ⟨rfl, h5⟩
  have h4 : l.length = 4 := Classical.not_not.1 h4
  obtain ⟨a, b, c, d, rfl⟩ : ∃ a b c d, l = [a, b, c, d] := by
    match l, h4 with
    | [a, b, c, d], _ => exact ⟨a, b, c, d, rfl⟩
  obtain ⟨k1, k2⟩ := kind_idx a
  rw [show ([a, b, c, d] : List (List UInt8)).headD [] = a from rfl]
  have hM : midR (rs.length + 1) [a, b, c, d] = if kindF a = 0 then (zRec, 5) else (match numR c with
    | none => (zRec, 5)
    | some t => if kindF a = 3 then (match numR d with
      | none => (zRec, 5)
      | some w => midC (rs.length + 1) ⟨3, b, t, 0, w⟩) else if (parseF d).2 ≠ 0 then (zRec, (parseF d).2) else midC (rs.length + 1) ⟨kindF a, b, t, (parseF d).1, 0⟩) := rfl
  by_cases hk : kindF a = 0
  · rw [if_neg (fun h => k1.2 h.2 hk), hM, if_pos hk]
    exact ⟨rfl, h5⟩
  rw [if_pos ⟨h4, k1.1 hk⟩, hM, if_neg hk]
  have hR : recE rs [a, b, c, d] = match numA c with
    | none => .error 5
    | some t => if idxS wordsL a = 3 then (match numA d with
      | none => .error 5
      | some w => recC rs ⟨3, b, t, 0, w⟩) else if (parseF d).2 = 0 then recC rs ⟨idxS wordsL a, b, t, (parseF d).1, 0⟩ else .error (parseF d).2 := rfl
  rw [hR, k2 hk, numR_map]
  cases numA c with
  | none => exact ⟨rfl, h5⟩
  | some t =>
    dsimp only [Option.map_some]
    by_cases h3 : kindF a = 3
    · rw [if_pos h3, if_pos h3, numR_map]
      cases numA d with
      | none => exact ⟨rfl, h5⟩
      | some w =>
        dsimp only [Option.map_some]
        obtain ⟨g1, g2⟩ := @rightF_time 3 0 (clZ w) t b
        obtain ⟨g3, g4⟩ := @rightF_why t w b
        refine hC (g1.trans g3) fun h0 => ?_
        rw [g2 (g3.trans h0), g4 h0]
    · rw [if_neg h3, if_neg h3]
      by_cases hp : (parseF d).2 = 0
      · rw [if_pos hp, if_neg (show ¬ (parseF d).2 ≠ 0 from fun h => h hp)]
        obtain ⟨g1, g2⟩ := @rightF_time (kindF a) (parseF d).1 0 t b
        exact hC g1 fun h0 => by rw [g2 h0]
      · rw [if_neg hp, if_pos hp]
        exact ⟨rfl, hp⟩

/-- The same state, as the two readers know it. -/
def twin (x y : Rdr) : Prop := y.beg = false ∧ y.fr = x.fr ∧ y.dst = x.dst ∧ y.seq = x.seq ∧ y.rs = x.rs ∧ y.fin = x.fin
theorem line_same {x y : Rdr} {i : Nat} {s : List UInt8} (h : twin x y) (hx : x.Ok) (hi : i = 0 ↔ x.beg = false) (hf : x.beg = false → x.fin = false) : match lineE x s with
    | .error e => (nxF y i s).err = e
    | .ok x' => (nxF y i s).err = 0 ∧ twin x' (nxS y (nxF y i s)) ∧ x'.beg = true := by
  obtain ⟨h0, h1, h2, h3, h4, h5⟩ := h
  have hxl := hx.1
  unfold lineE nxF
  by_cases he : (fieldsF s).2 = 0
  · rw [if_pos he, if_neg (show ¬ (fieldsF s).2 ≠ 0 from fun h => h he)]
    generalize (fieldsF s).1.getD [] = l
    unfold lineL nxL
    by_cases hb : x.beg = false
    · have hi0 := hi.2 hb
      subst hi0
      have hf0 := hf hb
      rw [if_pos hb]
      have hs := first_same l
      by_cases hl : l = []
      · subst hl
        rw [if_pos (.inr rfl)]
        rfl
      · rw [if_neg (show ¬ (y.fin = true ∨ l = []) by rw [h5, hf0]; simp [hl]), if_pos (show ((0 : Nat) : Int) = 0 from rfl)]
        cases hE : firE l with
        | error e =>
          rw [hE] at hs
          exact hs.1
        | ok p =>
          obtain ⟨b, c, n⟩ := p
          rw [hE] at hs
          dsimp only at hs
          rw [hs]
          refine ⟨rfl, ⟨h0, rfl, rfl, rfl, (hx.2 hb).symm, h5⟩, rfl⟩
    · have hi0 : ¬ i = 0 := fun h => hb (hi.1 h)
      have hi1 : ¬ (i : Int) = 0 := by omega
      rw [if_neg hb]
      by_cases hfin : x.fin = true
      · rw [if_pos hfin, if_pos (show y.fin = true ∨ l = [] from .inl (by rw [h5, hfin]))]
        rfl
      rw [if_neg hfin]
      by_cases hl : l = []
      · subst hl
        rw [if_pos (show y.fin = true ∨ ([] : List (List UInt8)) = [] from .inr rfl), if_neg (show ¬ (([] : List (List UInt8)).length = 3 ∧ ([] : List (List UInt8))[0]? = some [101, 110, 100]) from fun h => absurd h.1 (by decide)), if_neg (show ¬ (([] : List (List UInt8)).length = 4 ∧ 0 ≤ idxS (wordsL.drop 1) (([] : List (List UInt8)).headD [])) from fun h => absurd h.1 (by decide))]
        rfl
      rw [if_neg (show ¬ (y.fin = true ∨ l = []) by rw [h5]; simp [hl, hfin]), if_neg hi1]
      have hs := @last_same x hxl l
      have hr := @rec_same x.rs l
      by_cases hend : l[0]? = some [101, 110, 100]
      · rw [if_pos hend]
        have h4l : ¬ (l.length = 4 ∧ 0 ≤ idxS (wordsL.drop 1) (l.headD [])) := by
          rintro ⟨_, h⟩
          have : l.headD [] = [101, 110, 100] := by
            cases l with
            | nil => cases hend
            | cons a r => simpa using hend
          rw [this] at h
          revert h
          decide
        by_cases h3l : l.length = 3
        · rw [if_pos ⟨h3l, hend⟩, h4]
          cases hE : lasE x l with
          | error e =>
            rw [hE] at hs
            exact hs.1
          | ok u =>
            rw [hE] at hs
            refine ⟨hs, ⟨h0, h1, h2, h3, h4, rfl⟩, by simpa using hb⟩
        · rw [if_neg (fun h => h3l h.1), if_neg h4l]
          show lasR y.rs l = 5
          exact lasR_len h3l
      · rw [if_neg (fun h => hend h.2), if_neg hend, h4]
        split at hr
        · rename_i e hE
          by_cases hc : l.length = 4 ∧ 0 ≤ idxS (wordsL.drop 1) (l.headD [])
          · rw [if_pos hc] at hE ⊢
            rw [hE]
            exact hr.1
          · rw [if_neg hc] at hE ⊢
            cases hE
            exact hr.1
        · rename_i r hE
          by_cases hc : l.length = 4 ∧ 0 ≤ idxS (wordsL.drop 1) (l.headD [])
          · rw [if_pos hc] at hE ⊢
            rw [hE]
            dsimp only
            rw [hr]
            refine ⟨rfl, ⟨h0, h1, h2, h3, ?_, h5⟩, by simpa using hb⟩
            show y.rs ++ [r] = x.rs ++ [r]
            rw [h4]
          · rw [if_neg hc] at hE
            cases hE
  · rw [if_neg he, if_pos he]
    rfl
theorem lineE_fin {x x' : Rdr} {s : List UInt8} (h : lineE x s = .ok x') (hf : x.beg = false → x.fin = false) : x'.beg = true := by
  unfold lineE at h
  split at h
  · unfold lineL at h
    split at h
    · split at h
      · cases h
      · cases h; rfl
    · rename_i hb
      have hb : x.beg = true := by simpa using hb
      split at h
      · cases h
      · split at h
        · split at h
          · cases h
          · cases h; exact hb
        · split at h
          · split at h
            · cases h
            · cases h; exact hb
          · cases h
  · cases h

/-- The lines of a text that ends with a line feed, and what stands behind them. -/
theorem all_same (N : Nat) (t : List UInt8) (ht : (10 : UInt8) ∉ t) : ∀ (L : List (List UInt8)), (∀ p ∈ L, (10 : UInt8) ∉ p) → ∀ (k i : Nat) (x y : Rdr), N = i + L.length + (if t = [] then 0 else 1) → L.length + 1 < k + (if t = [] then 1 else 0) → twin x y → x.Ok → (i = 0 ↔ x.beg = false) → (x.beg = false → x.fin = false) →
    prs k x i (flatL L ++ t) = prR (decide (t ≠ [])) N i y (L ++ (if t = [] then [] else [t]))
  | [], _, k, i, x, y, hN, hk, h, hx, hi, hf => by
    obtain ⟨h0, h1, h2, h3, h4, h5⟩ := h
    obtain ⟨k, rfl⟩ : ∃ k', k = k' + 1 := ⟨k - 1, by simp at hk; split at hk <;> omega⟩
    by_cases ht0 : t = []
    · subst ht0
      simp only [if_true, List.length_nil, Nat.add_zero] at hN
      subst hN
      show prs (k + 1) x N [] = prR _ N N y []
      rw [prs, if_pos rfl, prR, h5]
      have : y.fil = x.fil := by unfold Rdr.fil; rw [h1, h2, h3, h4]
      rw [this]
    · rw [if_neg ht0]
      show prs (k + 1) x i t = prR _ N i y [t]
      rw [prs_part ht ht0, prR, if_pos ⟨rfl, decide_eq_true ht0⟩]
  | p :: L, hL, k, i, x, y, hN, hk, h, hx, hi, hf => by
    have hp := hL p List.mem_cons_self
    have hL' : ∀ p ∈ L, (10 : UInt8) ∉ p := fun q hq => hL q (List.mem_cons_of_mem _ hq)
    obtain ⟨k, rfl⟩ : ∃ k', k = k' + 1 := ⟨k - 1, by simp at hk; split at hk <;> omega⟩
    have hs := line_same (s := p) h hx hi hf
    rw [show flatL (p :: L) ++ t = p ++ 10 :: (flatL L ++ t) by simp [flatL], prs_line hp]
    rw [List.cons_append, prR, if_neg]
    · cases hE : lineE x p with
      | error e =>
        rw [hE] at hs
        dsimp only at hs ⊢
        rw [hs, if_pos (lineE_err hE)]
      | ok x' =>
        rw [hE] at hs
        obtain ⟨g1, g2, g3⟩ := hs
        dsimp only
        rw [g1, if_neg (by simp)]
        have := all_same N t ht L hL' k (i + 1) x' _ (by rw [hN]; simp; omega) (by simp at hk; omega) g2 (lineE_ok hE hx) ⟨fun h => by omega, fun h => by rw [g3] at h; cases h⟩ (fun h => by rw [g3] at h; cases h)
        simpa using this
    · rintro ⟨h1, h2⟩
      have h2 := of_decide_eq_true h2
      rw [if_neg h2] at h1
      simp at h1

theorem flat_last {L : List (List UInt8)} : L ≠ [] → (flatL L).getLast? = some 10 := fun h => by
  rcases List.eq_nil_or_concat L with h0 | ⟨A, a, h0⟩
  · exact absurd h0 h
  · rw [List.concat_eq_append] at h0
    subst h0
    simp [flatL]
theorem flatL_len' : ∀ L : List (List UInt8), L.length ≤ (flatL L).length
  | [] => Nat.zero_le _
  | s :: L => by
    have := flatL_len' L
    rw [show flatL (s :: L) = s ++ 10 :: flatL L by simp [flatL]]
    simp
    omega
theorem text_parts {s : List UInt8} (hs : s ≠ []) (h : ¬ 65536 < s.length) : ∃ L t, (10 : UInt8) ∉ t ∧ (∀ p ∈ L, (10 : UInt8) ∉ p) ∧ s = flatL L ++ t ∧ (linesF s).1.getD [] = L ++ (if t = [] then [] else [t]) := by
  have e : (linesF s).1.getD [] = spl 10 (Lib.trimSuffix s [10]) := by unfold linesF; rw [if_neg h, if_neg hs]; rfl
  rw [e]
  have hm := fun p hp => (spl_mem 10 (Lib.trimSuffix s [10]) p hp).1
  have hne := spl_ne 10 (Lib.trimSuffix s [10])
  have hj := flat_join 10 _ hne
  rw [spl_join] at hj
  rcases trim_end s 10 with ⟨a, e1, e2⟩ | ⟨e1, e2⟩
  · refine ⟨spl 10 (Lib.trimSuffix s [10]), [], by simp, hm, ?_, by simp⟩
    rw [List.append_nil]
    show s = (spl 10 (Lib.trimSuffix s [10])).flatMap (· ++ [10])
    rw [hj, e2, e1]
  · rcases List.eq_nil_or_concat (spl 10 (Lib.trimSuffix s [10])) with h0 | ⟨A, b, h0⟩
    · exact absurd h0 hne
    · rw [List.concat_eq_append] at h0
      have hb := hm b (by rw [h0]; simp)
      rw [h0, e2] at hj
      rw [h0]
      have hsA : s = flatL A ++ b := by
        have : flatL A ++ (b ++ [10]) = s ++ [10] := by rw [← hj]; simp [flatL]
        have := List.append_inj_left' (s₁ := flatL A ++ b) (t₁ := [10]) (s₂ := s) (t₂ := [10]) (by rw [List.append_assoc]; exact this) rfl
        exact this.symm
      have hb0 : b ≠ [] := by
        rintro rfl
        rw [List.append_nil] at hsA
        have hA : A ≠ [] := by
          rintro rfl
          exact hs hsA
        have hl := flat_last hA
        rw [← hsA] at hl
        rcases List.eq_nil_or_concat s with h1 | ⟨a, x, h1⟩
        · exact hs h1
        · rw [List.concat_eq_append] at h1
          rw [h1] at hl
          simp at hl
          exact e1 a (by rw [h1, hl])
      refine ⟨A, b, hb, fun p hp => hm p (by rw [h0]; simp [hp]), hsA, by rw [if_neg hb0]⟩

theorem parse_same (s : List UInt8) : parseR s = parseO s := by
  unfold parseR parseO
  by_cases h : 65536 < s.length
  · rw [if_pos h, if_pos h]
  rw [if_neg h, if_neg h]
  have ok0 : rd0.Ok := ⟨Nat.zero_le _, fun _ => rfl⟩
  have tw : twin rd0 rd0 := ⟨rfl, rfl, rfl, rfl, rfl, rfl⟩
  by_cases hs : s = []
  · subst hs
    rfl
  obtain ⟨L, t, ht, hL, e1, e2⟩ := text_parts hs h
  have hsh : decide (s.getLast? ≠ some 10) = decide (t ≠ []) := by
    by_cases ht0 : t = []
    · subst ht0
      rw [List.append_nil] at e1
      have hL0 : L ≠ [] := by
        rintro rfl
        exact hs e1
      rw [e1, flat_last hL0]
      simp
    · rw [decide_eq_true ht0, decide_eq_true_eq, e1]
      rcases List.eq_nil_or_concat t with h0 | ⟨a, b, h0⟩
      · exact absurd h0 ht0
      · rw [List.concat_eq_append] at h0
        subst h0
        rw [← List.append_assoc, List.getLast?_append]
        intro hh
        simp at hh
        exact ht (by simp [hh])
  have hl := flatL_len' L
  have := all_same ((linesF s).1.getD []).length t ht L hL (s.length + 1) 0 rd0 rd0 (by rw [e2]; split <;> simp) (by
    have : s.length = (flatL L).length + t.length := by rw [e1, List.length_append]
    by_cases ht0 : t = []
    · rw [if_pos ht0]; omega
    · have := List.length_pos_iff.2 ht0
      rw [if_neg ht0]; omega) tw ok0 ⟨fun _ => rfl, fun _ => rfl⟩ (fun _ => rfl)
  rw [← e1, ← e2, ← hsh] at this
  exact this.symm

theorem prs_recs : ∀ (k : Nat) (x : Rdr) (n : Int) (s : List UInt8), x.Ok → (prs k x n s).1.recs.length ≤ 1024
  | 0, _, _, _, _ => Nat.zero_le _
  | k + 1, x, n, s, h => by
    unfold prs
    split
    · split
      · exact h.1
      · exact Nat.zero_le _
    · split
      · exact Nat.zero_le _
      · split
        · exact Nat.zero_le _
        · rename_i x' hx
          exact prs_recs k x' _ _ (lineE_ok hx h)
theorem parse_recs (s : List UInt8) : (parseO s).1.recs.length ≤ 1024 := by
  unfold parseO
  split
  · exact Nat.zero_le _
  · exact prs_recs _ _ _ _ ⟨Nat.zero_le _, fun _ => rfl⟩

noncomputable section
open Classical

def lParses_m : List PA → Option (List PA) := ms fun s => if decide (s.length ≤ 9223372036854775807) = true then some [.b true] else none

theorem lParses_ok : PureC Tryz.prog Gt 3 lParses_m := by
  refine pure_of_awp (X := ctx Tryz.prog Gt [(4, aparse_m), (5, rparse_m), (6, rsame_m), (7, alive_m)]) Tryz.func3 rfl rfl (by kernel_rfl) (by kernel_rfl) (AllOk.cons aparse_ok (AllOk.cons rparse_ok (AllOk.cons rsame_ok (AllOk.cons alive_ok AllOk.nil)))).kok ?_
  intro args r h0
  obtain ⟨s, rfl, h⟩ := ms_inv h0
  refine ⟨Nat.le_of_ble_eq_true rfl, ?_⟩
  split at h
  · cases h
    by_cases hl : (5000 : Int) < s.length
    · skip
      have hc := Nat.zero_add 0
      repeat' (first | simp only [hc, Tryz.f3, SX, hl, AB, PL, RG, LP, TY, simprocAttr, ↓reduceIte, forall_const, eq_self, ne_eq, Option.some.injEq, beq_self_eq_true] | ((first | apply fin_ndec | apply fin_dec | apply cnd_ndec | apply cnd_dec' | apply fin_nsplit | apply fin_split | apply cnd_nsplit | apply cnd_split) <;> intro hc) | refine blk_exit_id ?_)
      all_goals simp [DV.b]
    · have f1 := aparse_at (s := s) (by omega)
      have f2 : rparse_m [.c (.str s)] = some [.agg (parseR s).1.row, .i (parseR s).2.1, .i (parseR s).2.2] := by rw [rparse_m, ms_eq, if_pos (decide_eq_true (by omega))]
      rw [parse_same] at f2
      have hr : (parseO s).1.recs.length ≤ 1000000000 := by
        have := parse_recs s
        omega
      have f3 := @rsame_at (parseO s).1 (parseO s).1 hr
      rw [show sameF (parseO s).1 (parseO s).1 = true by simp [sameF]] at f3
      have f6 := alive_at
      generalize parseO s = R at *
      obtain ⟨⟨y1, y2, y3, y4, y5⟩, n, e⟩ := R
      simp only [Fil.row] at f1 f2 f3
      have hc := Nat.zero_add 0
      repeat' (first | simp only [hc, Tryz.f3, SX, hl, f1, f2, f3, f6, AB, PL, RG, LP, TY, simprocAttr, ↓reduceIte, forall_const, eq_self, ne_eq, Option.some.injEq, beq_self_eq_true] | ((first | apply fin_ndec | apply fin_dec | apply cnd_ndec | apply cnd_dec' | apply fin_nsplit | apply fin_split | apply cnd_nsplit | apply cnd_split) <;> intro hc) | refine blk_exit_id ?_)
      all_goals simp [DV.b]
  · cases h

end
end Go.Ab
