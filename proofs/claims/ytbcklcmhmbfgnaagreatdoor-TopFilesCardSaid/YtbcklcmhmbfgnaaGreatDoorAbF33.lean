/-
  Texts of the layer and of the laws, put together: AbA22, AbA23, AbA24, AbA25.
-/
import Derived.Test.YtbcklcmhmbfgnaaGreatDoorAbF32
import Derived.Test.YtbcklcmhmbfgnaaGreatDoorAbF10
set_option linter.unusedSimpArgs false
set_option linter.unusedVariables false
set_option maxRecDepth 100000
namespace Go.Ab
open Go.RowKit Go.Proofs
theorem lineF_eq (l : List (List UInt8)) : lineF l = List.intercalate [32] l ++ [10] := rfl
structure Rdr.Inv (x : Rdr) : Prop where
  ok : x.Ok
  head : x.beg = true → headF x.fil = 0
  recs : ∀ r ∈ x.rs, rightF r = 0
  tot : x.fin = true → (totF x.rs).2 = 0
  fin : x.fin = true → x.beg = true
noncomputable section
open Classical
end
end Go.Ab
namespace Go.Ab
open Go.RowKit Go.Proofs
theorem cut_app {s r : List UInt8} (h : (10 : UInt8) ∉ s) : Lib.cut (s ++ 10 :: r) [10] = (s, r, true) := by
  have hi : Lib.index (s ++ 10 :: r) [10] = s.length := by
    refine Lib.index_first (by simp) (by simp [Lib.occAt, List.isPrefixOf]) fun j hj => ?_
    unfold Lib.occAt
    rw [List.drop_append_of_le_length (by omega)]
    cases hq : s.drop j with
    | nil => exact absurd (congrArg List.length hq) (by simp; omega)
    | cons a t =>
      have ha : a ≠ 10 := fun e => h (List.mem_of_mem_drop (i := j) (by rw [hq, ← e]; exact List.mem_cons_self))
      simp [List.isPrefixOf]
      exact fun e => ha e.symm
  unfold Lib.cut
  rw [hi, if_pos (by omega), Int.toNat_natCast]
  simp
theorem prs_line {k : Nat} {x : Rdr} {n : Int} {s r : List UInt8} (h : (10 : UInt8) ∉ s) : prs (k + 1) x n (s ++ 10 :: r) = match lineE x s with
    | .error e => (zFil, n + 1, e)
    | .ok x' => prs k x' (n + 1) r := by
  rw [prs, if_neg (by simp), cut_app h]
  rfl
inductive Chain : Rdr → List (List UInt8) → Rdr → Prop where
  | nil (x : Rdr) : Chain x [] x
  | cons {x x' y : Rdr} {s : List UInt8} {L : List (List UInt8)} (hf : x.fin = false) (hn : (10 : UInt8) ∉ s) (hl : lineE x s = .ok x') (h : Chain x' L y) : Chain x (s :: L) y
theorem Chain.append {x y z : Rdr} {L K : List (List UInt8)} (h : Chain x L y) (h2 : Chain y K z) : Chain x (L ++ K) z := by
  induction h with
  | nil x => exact h2
  | cons hf hn hl _ ih => exact .cons hf hn hl (ih h2)
def flatL (L : List (List UInt8)) : List UInt8 := L.flatMap (· ++ [10])
theorem chain_full {x y : Rdr} {L : List (List UInt8)} (h : Chain x L y) (hy : y.fin = true) : ∀ (k : Nat) (n : Int), L.length < k → prs k x n (flatL L) = (y.fil, 0, 0) := by
  induction h with
  | nil x =>
    intro k n hk
    obtain ⟨k, rfl⟩ : ∃ k', k = k' + 1 := ⟨k - 1, by simp at hk; omega⟩
    show prs (k + 1) x n [] = _
    rw [prs, if_pos rfl, if_pos hy]
  | cons hf hn hl _ ih =>
    intro k n hk
    obtain ⟨k, rfl⟩ : ∃ k', k = k' + 1 := ⟨k - 1, by simp at hk; omega⟩
    rename_i x x' y s L h'
    rw [show flatL (s :: L) = s ++ 10 :: flatL L by simp [flatL], prs_line hn, hl]
    exact ih hy k (n + 1) (by simpa using hk)
theorem spl_pieces : ∀ (P : List (List UInt8)), P ≠ [] → (∀ p ∈ P, (32 : UInt8) ∉ p) → spl 32 (List.intercalate [32] P) = P
  | [a], _, h => by
    have : List.intercalate [32] [a] = a := by simp [List.intercalate]
    rw [this]
    exact spl_none 32 a (h a (by simp))
  | a :: b :: r, _, h => by
    have e : List.intercalate [32] (a :: b :: r) = a ++ 32 :: List.intercalate [32] (b :: r) := by simp [List.intercalate, List.intersperse]
    rw [e, spl_append 32 _ _ (h a (by simp)), spl_pieces (b :: r) (by simp) fun p hp => h p (List.mem_cons_of_mem _ hp)]
def goodP (p : List UInt8) : Prop := p ≠ [] ∧ ∀ c ∈ p, 33 ≤ c.toNat ∧ c.toNat ≤ 126
theorem int_bytes : ∀ (P : List (List UInt8)), (∀ p ∈ P, ∀ c ∈ p, 33 ≤ c.toNat ∧ c.toNat ≤ 126) → ∀ c ∈ List.intercalate [32] P, c = 32 ∨ (33 ≤ c.toNat ∧ c.toNat ≤ 126)
  | [], _, c, h => by simp [List.intercalate] at h
  | [a], hP, c, h => by
    have : List.intercalate [32] [a] = a := by simp [List.intercalate]
    rw [this] at h
    exact .inr (hP a (by simp) c h)
  | a :: b :: r, hP, c, h => by
    have e : List.intercalate [32] (a :: b :: r) = a ++ 32 :: List.intercalate [32] (b :: r) := by simp [List.intercalate, List.intersperse]
    rw [e] at h
    rcases List.mem_append.1 h with h | h
    · exact .inr (hP a (by simp) c h)
    rcases List.mem_cons.1 h with h | h
    · exact .inl h
    exact int_bytes (b :: r) (fun p hp => hP p (List.mem_cons_of_mem _ hp)) c h
theorem fields_pieces {P : List (List UInt8)} (hne : P ≠ []) (hP : ∀ p ∈ P, goodP p) (hl : (List.intercalate [32] P).length ≤ 512) : fieldsF (List.intercalate [32] P) = (some P, 0) ∧ (10 : UInt8) ∉ List.intercalate [32] P := by
  have hb := int_bytes P fun p hp => (hP p hp).2
  have hs := spl_pieces P hne fun p hp h => by have := (hP p hp).2 32 h; revert this; decide
  refine ⟨?_, fun h => ?_⟩
  · unfold fieldsF
    rw [if_neg (by omega), if_neg (fun h0 => ?_), if_pos ?_, hs]
    · refine ⟨?_, ?_⟩
      · rw [List.all_eq_true]
        intro c hc
        simp only [okF, Bool.and_eq_true, decide_eq_true_eq]
        rcases hb c hc with rfl | h
        · decide
        omega
      rw [hs]
      exact fun h => (hP [] h).1 rfl
    rw [h0] at hs
    have : P = [[]] := hs.symm
    exact (hP [] (by rw [this]; simp)).1 rfl
  rcases hb 10 h with h | h
  · revert h; decide
  revert h; decide
end Go.Ab
namespace Go.Ab
open Go.RowKit Go.Proofs
theorem numA_itoa {n : Int} (h0 : 0 ≤ n) (h1 : n ≤ 9223372036854775807) : numA (Lib.itoa n) = some n := by
  rw [itoa_spec, if_neg (by omega)]
  obtain ⟨k1, k2, k3, k4⟩ := dec_spec (n.toNat + 1) n.toNat (by omega)
  have ht : Lib.trimPrefix (Lib.decDigits n.toNat) [45] = Lib.decDigits n.toNat := by
    rcases trim_minus (Lib.decDigits n.toNat) with ⟨r, e1, _⟩ | ⟨_, e2⟩
    · exact absurd (by rw [e1]; rfl) (dec_head (u := n.toNat))
    exact e2
  unfold numA
  rw [ht, if_neg (by
    rintro (h | ⟨h, h'⟩)
    · exact k3 h
    · have := k4 h
      rw [this] at h'
      exact h' (by rw [dec_small (by omega)]; rfl)), if_pos k1, if_pos rfl]
  rw [k2, capM_lo (by omega), Int.toNat_of_nonneg h0]
theorem dec_good {u : Nat} : goodP (Lib.decDigits u) := by
  obtain ⟨k1, _, k3, _⟩ := dec_spec (u + 1) u (by omega)
  refine ⟨k3, fun c hc => ?_⟩
  have := dig_iff.1 (List.all_eq_true.1 k1 c hc)
  omega
theorem itoa_good {n : Int} (h0 : 0 ≤ n) : goodP (Lib.itoa n) := by
  rw [itoa_spec, if_neg (by omega)]
  exact dec_good
theorem word_back {k : Int} (h1 : 1 ≤ k) (h2 : k ≤ 4) : idxS wordsL (wordF k) = k ∧ 0 ≤ idxS (wordsL.drop 1) (wordF k) ∧ goodP (wordF k) ∧ (wordF k).length ≤ 7 := by
  have : k = 1 ∨ k = 2 ∨ k = 3 ∨ k = 4 := by omega
  rcases this with rfl | rfl | rfl | rfl
  all_goals
    refine ⟨by decide, by decide, ⟨by decide, by decide⟩, by decide⟩
theorem digU_nat (n : Nat) : (digU n).toNat = 48 + n % 10 := by
  unfold digU
  rw [ofNat_toNat (by omega)]
theorem digU_dig (n : Nat) : isDig (digU n) = true := dig_iff.2 (by rw [digU_nat]; omega)
theorem parse_show {n : Int} (h : afit n = true) : parseF (showF n) = (n, 0) := by
  have hr := afit_iff.1 h
  obtain ⟨u, hu⟩ : ∃ u, u = n.natAbs := ⟨_, rfl⟩
  have key : ∀ ng : Bool, (ng = true → u ≠ 0) → amtP (Lib.decDigits (u / 100) ++ [46, digU (u / 10), digU u]) ng = (if ng = true then -(u : Int) else (u : Int), 0) := by
    intro ng hng
    obtain ⟨k1, k2, k3, k4⟩ := dec_spec (u / 100 + 1) (u / 100) (by omega)
    generalize hw : Lib.decDigits (u / 100) = w at *
    have hlen : (w ++ [46, digU (u / 10), digU u]).length - 3 = w.length := by simp
    have hwl := List.length_pos_iff.2 k3
    have her : (w ++ [46, digU (u / 10), digU u]).eraseIdx w.length = (w ++ [digU (u / 10)]) ++ [digU u] := by
      rw [List.eraseIdx_append_of_length_le (Nat.le_refl _), Nat.sub_self]
      simp
    have hv : val ((w ++ [digU (u / 10)]) ++ [digU u]) = u := by
      rw [val_snoc, val_snoc, k2, digU_nat, digU_nat]
      omega
    have hp : ptOk (w ++ [46, digU (u / 10), digU u]) = true := by
      unfold ptOk
      rw [hlen]
      simp only [Bool.and_eq_true, Bool.or_eq_true, decide_eq_true_eq]
      refine ⟨⟨by simp; omega, by simp⟩, ?_⟩
      rw [head_app k3]
      by_cases h48 : w.head? = some 48
      · right
        have h0 := k4 h48
        rw [h0, dec_small (by omega)] at hw
        rw [← hw]
        rfl
      exact .inl h48
    have hd : ((w ++ [digU (u / 10)]) ++ [digU u]).all isDig = true := by
      rw [List.all_append, List.all_append, k1]
      simp [digU_dig]
    unfold amtP
    rw [hlen, her, hv, if_neg (by simp [hp]), if_neg (by rw [hd]; simp), if_neg (fun hc => hng hc.1 hc.2), if_neg (by omega)]
  unfold parseF showF
  rw [← hu]
  by_cases hn : n < 0
  · rw [if_pos hn]
    have := key true (fun _ => by omega)
    show amtP (Lib.decDigits (u / 100) ++ [46, digU (u / 10), digU u]) true = _
    rw [this, if_pos rfl]
    congr 1
    omega
  rw [if_neg hn, List.nil_append]
  have hd := @dec_head (u / 100)
  have hne := (dec_spec (u / 100 + 1) (u / 100) (by omega)).2.2.1
  have hu2 : unsF (Lib.decDigits (u / 100) ++ 46 :: [digU (u / 10), digU u]) = (Lib.decDigits (u / 100) ++ 46 :: [digU (u / 10), digU u], false) := by
    cases hw : Lib.decDigits (u / 100) with
    | nil => exact absurd hw hne
    | cons c r =>
      rw [hw] at hd
      exact if_neg fun e => hd (by rw [e]; rfl)
  rw [hu2]
  have := key false (fun h => by cases h)
  show amtP (Lib.decDigits (u / 100) ++ [46, digU (u / 10), digU u]) false = _
  rw [this, if_neg (by simp)]
  congr 1
  omega
theorem show_good {n : Int} : goodP (showF n) := by
  unfold showF
  refine ⟨by simp, fun c hc => ?_⟩
  rcases List.mem_append.1 hc with h | h
  · split at h
    · rw [List.mem_singleton] at h
      subst h
      decide
    cases h
  rcases List.mem_append.1 h with h | h
  · exact dec_good.2 c h
  simp only [List.mem_cons, List.not_mem_nil, or_false] at h
  rcases h with rfl | rfl | rfl
  · decide
  · rw [digU_nat]; omega
  rw [digU_nat]; omega
theorem field_good {s : List UInt8} (h : fieldB s = true) : goodP s := by
  unfold fieldB at h
  simp only [Bool.and_eq_true, decide_eq_true_eq, List.all_eq_true] at h
  exact ⟨h.2, fun c hc => h.1 c hc⟩
end Go.Ab
namespace Go.Ab
open Go.RowKit Go.Proofs
theorem show_le24 {n : Int} (h : afit n = true) : (showF n).length ≤ 24 := by
  have hr := afit_iff.1 h
  have hl := dec_le 20 (n.natAbs / 100) (by rw [p20]; omega) (by omega)
  unfold showF
  rw [List.length_append, List.length_append]
  split <;> simp <;> omega
theorem int4_len (a b c d : List UInt8) : (List.intercalate [32] [a, b, c, d]).length = a.length + b.length + c.length + d.length + 3 := by
  simp [List.intercalate, List.intersperse]; omega
theorem int3_len (a b c : List UInt8) : (List.intercalate [32] [a, b, c]).length = a.length + b.length + c.length + 2 := by
  simp [List.intercalate, List.intersperse]; omega
def recText (r : Rec) : List UInt8 := List.intercalate [32] [wordF r.kind, r.key, Lib.itoa r.time, lastF r]
theorem rec_line {x : Rdr} {r : Rec} (hr : rightF r = 0) (hb : x.beg = true) (hf : x.fin = false) (hl : x.rs.length < 1024) : lineE x (recText r) = .ok { x with rs := x.rs ++ [r] } ∧ (10 : UInt8) ∉ recText r := by
  obtain ⟨k1, k2, k3, k4, t1, t2, kr, kc⟩ := right_ok hr
  obtain ⟨w1, w2, w3, w4⟩ := word_back k1 k2
  have hlast : goodP (lastF r) ∧ (lastF r).length ≤ 30 := by
    unfold lastF
    split
    · rename_i h3
      obtain ⟨_, a, b⟩ := kr h3
      exact ⟨itoa_good a, itoa_le (inI_iff.2 (by omega))⟩
    rename_i h3
    have := show_le24 (kc h3).1
    exact ⟨show_good, by omega⟩
  have hti := itoa_le (n := r.time) (inI_iff.2 (by omega))
  obtain ⟨f1, f2⟩ := fields_pieces (P := [wordF r.kind, r.key, Lib.itoa r.time, lastF r]) (by simp) (fun p hp => by
    simp only [List.mem_cons, List.not_mem_nil, or_false] at hp
    rcases hp with rfl | rfl | rfl | rfl
    · exact w3
    · exact field_good k3
    · exact itoa_good t1
    · exact hlast.1) (by rw [int4_len]; omega)
  refine ⟨?_, f2⟩
  have hC : recC x.rs r = .ok r := by
    unfold recC
    rw [if_neg (by omega), if_pos hr]
  have hR : recE x.rs [wordF r.kind, r.key, Lib.itoa r.time, lastF r] = .ok r := by
    unfold recE
    dsimp only
    rw [numA_itoa t1 (by omega), w1]
    dsimp only
    by_cases h3 : r.kind = 3
    · obtain ⟨c0, a, b⟩ := kr h3
      rw [if_pos h3, lastF, if_pos h3, numA_itoa a (by omega)]
      dsimp only
      rw [show (⟨3, r.key, r.time, 0, r.why⟩ : Rec) = r by cases r; simp_all]
      exact hC
    obtain ⟨c0, a⟩ := kc h3
    rw [if_neg h3, lastF, if_neg h3, parse_show c0, if_pos rfl]
    rw [show (⟨r.kind, r.key, r.time, r.cents, 0⟩ : Rec) = r by cases r; simp_all]
    exact hC
  unfold lineE recText
  rw [f1, if_pos rfl]
  unfold lineL
  rw [if_neg (by simp [hb]), if_neg (by simp [hf]), if_neg (by simp), if_pos ⟨rfl, w2⟩, Option.getD_some, hR]
end Go.Ab
