/-
  Texts of the layer and of the laws, put together: AbA21, AbA22. No law is stated here.
-/
import Derived.Test.YtkneajcbgoaadaaDoorAbV41
set_option linter.unusedSimpArgs false
set_option linter.unusedVariables false
set_option maxRecDepth 100000

/-
  Agencies' files: what is read has just one text: numbers, amounts, lines.
-/
namespace Go.Ab
open Go.RowKit Go.Proofs

/-- A number that is not the greatest has one text. -/
theorem itoa_numA {s : List UInt8} {n : Int} (h : numA s = some n) (h0 : 0 ≤ n) (h1 : n < 9223372036854775807) : Lib.itoa n = s := by
  unfold numA at h
  split at h
  · cases h
  rename_i hz
  split at h
  · rename_i hd
    simp only [not_or, not_and, Classical.not_not] at hz
    obtain ⟨hne, hz⟩ := hz
    split at h
    · rename_i he
      cases h
      rw [he] at hne hz hd h0 h1 ⊢
      have hdv := dec_val s hne hd hz
      by_cases hv : val s ≤ 9223372036854775807
      · rw [capM_lo hv] at h1 ⊢
        rw [itoa_spec, if_neg (by omega), Int.toNat_natCast, hdv]
      · rw [capM_hi hv] at h1
        omega
    · rename_i he
      cases h
      exfalso
      generalize hT : Lib.trimPrefix s [45] = d at *
      have hdv := dec_val d hne hd fun h2 => by
        have := hz h2
        subst this
        rw [show Lib.trimPrefix [48] [45] = [48] from rfl] at hT
        exact absurd hT.symm he
      have hv : val d = 0 := by
        by_cases hv : val d ≤ 9223372036854775807
        · rw [capM_lo hv] at h0; omega
        · rw [capM_hi hv] at h0; omega
      rw [hv, dec_small (by omega)] at hdv
      have : d.head? = some 48 := by rw [← hdv]; rfl
      have := hz this
      subst this
      rw [show Lib.trimPrefix [48] [45] = [48] from rfl] at hT
      exact absurd hT.symm he
  · cases h

theorem digU_val {w : Nat} {x y : UInt8} (hx : isDig x = true) (hy : isDig y = true) : digU ((10 * (10 * w + (x.toNat - 48)) + (y.toNat - 48)) / 10) = x ∧ digU (10 * (10 * w + (x.toNat - 48)) + (y.toNat - 48)) = y := by
  have h1 := dig_iff.1 hx
  have h2 := dig_iff.1 hy
  unfold digU
  constructor
  · apply UInt8.toNat_inj.1
    rw [ofNat_toNat (by omega)]
    omega
  · apply UInt8.toNat_inj.1
    rw [ofNat_toNat (by omega)]
    omega

/-- An amount has one text. -/
theorem show_parse {s : List UInt8} (h : (parseF s).2 = 0) : showF (parseF s).1 = s := by
  have key : ∀ (d : List UInt8) (ng : Bool), (amtP d ng).2 = 0 → ∃ (w : List UInt8) (x y : UInt8), d = w ++ [46, x, y] ∧ w ≠ [] ∧ w.all isDig = true ∧ isDig x = true ∧ isDig y = true ∧ (w.head? = some 48 → w = [48]) ∧
      (amtP d ng).1 = (if ng = true then -((10 * (10 * val w + (x.toNat - 48)) + (y.toNat - 48) : Nat) : Int) else ((10 * (10 * val w + (x.toNat - 48)) + (y.toNat - 48) : Nat) : Int)) ∧ (ng = true → 10 * (10 * val w + (x.toNat - 48)) + (y.toNat - 48) ≠ 0) := by
    intro d ng h
    unfold amtP at h ⊢
    split at h
    · cases h
    rename_i hp
    rw [if_neg hp]
    split at h
    · cases h
    rename_i hd
    rw [if_neg hd]
    split at h
    · cases h
    rename_i hz
    rw [if_neg hz]
    split at h
    · cases h
    rename_i hb
    rw [if_neg hb]
    have hp : ptOk d = true := by simpa using hp
    have hd : (d.eraseIdx (d.length - 3)).all isDig = true := by simpa using hd
    unfold ptOk at hp
    simp only [Bool.and_eq_true, Bool.or_eq_true, decide_eq_true_eq] at hp
    obtain ⟨⟨h4, h46⟩, hh⟩ := hp
    obtain ⟨w, x, y, rfl⟩ : ∃ w x y, d = w ++ [46, x, y] := by
      have hsplit : d = d.take (d.length - 3) ++ d.drop (d.length - 3) := (List.take_append_drop _ _).symm
      have hl : (d.drop (d.length - 3)).length = 3 := by rw [List.length_drop]; omega
      match hq : d.drop (d.length - 3), hl with
      | [a, x, y], _ =>
        have ha : d[d.length - 3]? = some a := by
          have : (d.drop (d.length - 3))[0]? = some a := by rw [hq]; rfl
          rw [List.getElem?_drop] at this
          simpa using this
        rw [h46] at ha
        cases ha
        exact ⟨_, x, y, by rw [hq] at hsplit; exact hsplit⟩
    have hlen : (w ++ [46, x, y]).length - 3 = w.length := by simp
    have her : (w ++ [46, x, y]).eraseIdx ((w ++ [46, x, y]).length - 3) = (w ++ [x]) ++ [y] := by
      rw [hlen, List.eraseIdx_append_of_length_le (Nat.le_refl _), Nat.sub_self]
      simp
    rw [her] at hd hz hb ⊢
    rw [val_snoc, val_snoc] at hz hb ⊢
    rw [List.all_append, List.all_append, Bool.and_eq_true, Bool.and_eq_true] at hd
    obtain ⟨⟨hw, hx⟩, hy⟩ := hd
    have hwne : w ≠ [] := by
      rintro rfl
      simp at h4
    refine ⟨w, x, y, rfl, hwne, hw, by simpa using hx, by simpa using hy, fun h48 => ?_, rfl, fun hng h0 => hz ⟨hng, h0⟩⟩
    rcases hh with hh | hh
    · exact absurd (by rw [head_app hwne]; exact h48) hh
    · have : w.length = 1 := by simp at hh; omega
      match w, this, h48 with
      | [a], _, h48 => simpa using h48
  have fin : ∀ (w : List UInt8) (x y : UInt8), w ≠ [] → w.all isDig = true → isDig x = true → isDig y = true → (w.head? = some 48 → w = [48]) → ∀ u : Nat, u = 10 * (10 * val w + (x.toNat - 48)) + (y.toNat - 48) → Lib.decDigits (u / 100) ++ 46 :: [digU (u / 10), digU u] = w ++ [46, x, y] := by
    intro w x y hw hd hx hy h48 u hu
    have h1 := dig_iff.1 hx
    have h2 := dig_iff.1 hy
    obtain ⟨e1, e2⟩ := @digU_val (val w) x y hx hy
    rw [show u / 100 = val w by omega, dec_val w hw hd h48, hu, e1, e2]
  unfold parseF at h ⊢
  obtain ⟨w, x, y, hd, hw, hwd, hx, hy, h48, hv, hnz⟩ := key _ _ h
  rw [hv]
  have hf := fin w x y hw hwd hx hy h48 _ rfl
  generalize 10 * (10 * val w + (x.toNat - 48)) + (y.toNat - 48) = u at *
  rw [← hd] at hf
  unfold showF
  cases s with
  | nil =>
    exfalso
    have := congrArg List.length hd
    simp [unsF] at this
  | cons c r =>
    by_cases hc : c = 45
    · have hu : unsF (c :: r) = (r, true) := if_pos hc
      rw [hu] at hf hnz ⊢
      have hu0 : u ≠ 0 := hnz rfl
      have hup : 0 < u := Nat.pos_of_ne_zero hu0
      have hneg : -(u : Int) < 0 := by omega
      rw [if_pos rfl, if_pos hneg, Int.natAbs_neg, Int.natAbs_natCast, hf, hc]
      rfl
    · have hu : unsF (c :: r) = (c :: r, false) := if_neg hc
      rw [hu] at hf ⊢
      have hnn : ¬ ((u : Int) < 0) := by omega
      simp only [Bool.false_eq_true, if_false, if_neg hnn, Int.natAbs_natCast, hf]
      rfl

/-- A line cut off. -/
theorem cut_line {s : List UInt8} (h : (Lib.cut s [10]).2.2 = true) : s = (Lib.cut s [10]).1 ++ [10] ++ (Lib.cut s [10]).2.1 := by
  unfold Lib.cut at h ⊢
  split
  · rename_i h0
    rcases Lib.index_spec s [10] with ⟨h1, _⟩ | ⟨i, h1, h2, h3, _⟩
    · omega
    · rw [h1, Int.toNat_natCast]
      have h4 : (s.drop i).take 1 = [10] := by
        unfold Lib.occAt at h3
        cases hq : s.drop i with
        | nil => rw [hq] at h3; simp at h3
        | cons a t =>
          rw [hq] at h3
          have : (10 : UInt8) = a := by simpa using h3
          rw [← this]; rfl
      show s = s.take i ++ [10] ++ s.drop (i + 1)
      rw [← h4, List.append_assoc]
      have h5 : (s.drop i).take 1 ++ s.drop (i + 1) = s.drop i := by
        rw [← List.drop_drop]
        exact List.take_append_drop 1 (s.drop i)
      rw [h5]
      exact (List.take_append_drop i s).symm
  · rename_i hn
    rw [if_neg hn] at h
    cases h

end Go.Ab

/-
  Agencies' files: what is parsed has just one text.
-/
namespace Go.Ab
open Go.RowKit Go.Proofs

theorem fields_text {s : List UInt8} (h : (fieldsF s).2 = 0) (hl : (fieldsF s).1.getD [] ≠ []) : List.intercalate [32] ((fieldsF s).1.getD []) = s := by
  cases h1 : (fieldsF s).1 with
  | none => rw [h1] at hl; exact absurd rfl hl
  | some l =>
    have : fieldsF s = (some l, 0) := Prod.ext h1 h
    exact (fields_join this).1
theorem lineF_eq (l : List (List UInt8)) : lineF l = List.intercalate [32] l ++ [10] := rfl
theorem idxS_word {l : List (List UInt8)} {a : List UInt8} (h : 0 ≤ idxS l a) : l.getD (idxS l a).toNat [] = a := by
  unfold idxS at h ⊢
  split
  · rename_i k hk
    obtain ⟨h1, h2, _⟩ := List.findIdx?_eq_some_iff_getElem.1 hk
    rw [Int.toNat_natCast, List.getD_eq_getElem?_getD, List.getElem?_eq_getElem h1]
    simpa using h2
  · rename_i hk
    rw [hk] at h
    exact absurd h (by decide)

/-- What the reader has read. -/
def preF (x : Rdr) : List UInt8 := if x.beg = false then [] else headLn x.fil ++ x.rs.flatMap recLine ++ (if x.fin = true then endLn x.rs else [])
structure Rdr.Inv (x : Rdr) : Prop where
  ok : x.Ok
  head : x.beg = true → headF x.fil = 0
  recs : ∀ r ∈ x.rs, rightF r = 0
  tot : x.fin = true → (totF x.rs).2 = 0
  fin : x.fin = true → x.beg = true

theorem recE_text {rs : List Rec} {l : List (List UInt8)} {r : Rec} (h : recE rs l = .ok r) : recLine r = List.intercalate [32] l ++ [10] := by
  have hr := (recE_len h).2
  obtain ⟨k1, k2, _, _, t1, t2, kr, kc⟩ := right_ok hr
  have hC : ∀ x, recC rs x = .ok r → r = x := fun x hx => by
    unfold recC at hx
    split at hx
    · cases hx
    · split at hx
      · cases hx; rfl
      · cases hx
  unfold recE at h
  split at h
  · rename_i a b c d
    split at h
    · cases h
    · rename_i t ht
      split at h
      · rename_i h3
        split at h
        · cases h
        · rename_i w hw
          have := hC _ h
          subst this
          dsimp only at *
          obtain ⟨_, w0, w1⟩ := kr rfl
          have ha := idxS_word (l := wordsL) (a := a) (by omega)
          rw [h3] at ha
          rw [recLine, lastF, if_pos rfl, itoa_numA ht t1 (by omega), itoa_numA hw w0 (by omega), wordF, ha, lineF_eq]
      · rename_i h3
        split at h
        · rename_i hp
          have := hC _ h
          subst this
          dsimp only at *
          have ha := idxS_word (l := wordsL) (a := a) (by omega)
          rw [recLine, lastF, if_neg h3, itoa_numA ht t1 (by omega), show_parse hp, wordF, ha, lineF_eq]
        · cases h
  · cases h

theorem line_step {x x' : Rdr} {s : List UInt8} (h : lineE x s = .ok x') (hx : x.Inv) : x'.Inv ∧ preF x' = preF x ++ (s ++ [10]) := by
  have hok' := lineE_ok h hx.ok
  unfold lineE at h
  split at h
  · rename_i h0
    have htext := fields_text h0
    generalize (fieldsF s).1.getD [] = l at *
    unfold lineL at h
    split at h
    · rename_i hb
      split at h
      · cases h
      · rename_i b c n hf
        cases h
        have hrs := hx.ok.2 hb
        have hfin : x.fin = false := by
          cases hq : x.fin with
          | false => rfl
          | true => have := hx.fin hq; rw [hb] at this; cases this
        unfold firE at hf
        split at hf
        · rename_i a b' c' d
          split at hf
          · rename_i ha
            split at hf
            · cases hf
            · rename_i n' hn
              split at hf
              · rename_i hh
                cases hf
                obtain ⟨_, _, _, n1, n2⟩ := head_ok hh
                dsimp only at n1 n2
                have hs := htext (by simp)
                refine ⟨⟨hok', fun _ => hh, hx.recs, hx.tot, fun _ => rfl⟩, ?_⟩
                unfold preF
                rw [if_neg (by simp), if_pos hb]
                dsimp only
                rw [hfin, hrs, if_neg (by simp), headLn]
                dsimp only [Rdr.fil]
                rw [itoa_numA hn (by omega) (by omega), lineF_eq, ← ha, hs]
                simp
              · cases hf
          · cases hf
        · cases hf
    · rename_i hb
      have hb : x.beg = true := by simpa using hb
      split at h
      · cases h
      · rename_i hfin
        have hfin : x.fin = false := by simpa using hfin
        split at h
        · rename_i h3
          split at h
          · cases h
          · rename_i hf
            cases h
            unfold lasE at hf
            split at hf
            · rename_i a b c
              obtain ⟨_, he⟩ := h3
              have he : a = [101, 110, 100] := by simpa using he
              split at hf
              · cases hf
              · rename_i n hn
                split at hf
                · rename_i hp
                  split at hf
                  · rename_i ht
                    split at hf
                    · rename_i hc
                      obtain ⟨hc1, hc2⟩ := hc
                      have hs := htext (by simp)
                      have hrl := hx.ok.1
                      refine ⟨⟨hok', hx.head, hx.recs, fun _ => ht, fun _ => hb⟩, ?_⟩
                      unfold preF
                      dsimp only
                      simp only [hb, hfin, if_true, if_false, Bool.true_eq_false, Bool.false_eq_true, List.append_nil]
                      rw [endLn, ← hc1, hc2, itoa_numA hn (by omega) (by omega), show_parse hp, lineF_eq, ← he, hs]
                      rfl
                    · cases hf
                  · cases hf
                · cases hf
            · cases hf
        · split at h
          · split at h
            · cases h
            · rename_i r hr
              cases h
              have hl : l ≠ [] := by
                rintro rfl
                cases hr
              have hs := htext hl
              have hrt := recE_text hr
              have hrr := (recE_len hr).2
              refine ⟨⟨hok', fun _ => hx.head hb, fun q hq => ?_, fun hf => ?_, fun _ => hb⟩, ?_⟩
              · rcases List.mem_append.1 hq with hq | hq
                · exact hx.recs q hq
                · rw [List.mem_singleton] at hq
                  subst hq
                  exact hrr
              · exact absurd hf (by simp [hfin])
              · unfold preF
                dsimp only
                rw [hb, hfin, if_neg (by simp), if_neg (by simp), if_neg (by simp), if_neg (by simp), List.flatMap_append]
                simp [Rdr.fil, headLn, hrt, hs]
          · cases h
  · cases h

theorem prs_only : ∀ (k : Nat) (x : Rdr) (n : Int) (s : List UInt8), x.Inv → 0 ≤ n → ((prs k x n s).2.2 = 0 → ∃ y : Rdr, y.Inv ∧ y.fin = true ∧ prs k x n s = (y.fil, 0, 0) ∧ preF y = preF x ++ s) ∧ ((prs k x n s).2.2 ≠ 0 → 0 < (prs k x n s).2.1 ∨ k = 0)
  | 0, x, n, s, hx, hn => ⟨fun h => absurd (show (7 : Int) = 0 from h) (by decide), fun _ => .inr rfl⟩
  | k + 1, x, n, s, hx, hn => by
    have hE : prs (k + 1) x n s = if s = [] then (if x.fin = true then (x.fil, 0, 0) else (zFil, n + 1, 7))
      else if (Lib.cut s [10]).2.2 = false then (zFil, n + 1, 7)
      else match lineE x (Lib.cut s [10]).1 with
        | .error e => (zFil, n + 1, e)
        | .ok x' => prs k x' (n + 1) (Lib.cut s [10]).2.1 := rfl
    rw [hE]
    clear hE
    have bad : ∀ e : Int, e ≠ 0 → ((zFil, n + 1, e).2.2 = 0 → ∃ y : Rdr, y.Inv ∧ y.fin = true ∧ (zFil, n + 1, e) = (y.fil, 0, 0) ∧ preF y = preF x ++ s) ∧ ((zFil, n + 1, e).2.2 ≠ 0 → 0 < (zFil, n + 1, e).2.1 ∨ k + 1 = 0) := fun e he => ⟨fun h => absurd h he, fun _ => .inl (by dsimp only; omega)⟩
    split
    · rename_i hs
      split
      · rename_i hfin
        exact ⟨fun _ => ⟨x, hx, hfin, rfl, by rw [hs, List.append_nil]⟩, fun h => absurd rfl h⟩
      · exact bad 7 (by decide)
    · split
      · exact bad 7 (by decide)
      · rename_i hs hw
        have hw : (Lib.cut s [10]).2.2 = true := by simpa using hw
        have hcut := cut_line hw
        split
        · rename_i e he
          exact bad e (lineE_err he)
        · rename_i x' hx'
          obtain ⟨h1, h2⟩ := line_step hx' hx
          obtain ⟨i1, i2⟩ := prs_only k x' (n + 1) (Lib.cut s [10]).2.1 h1 (by omega)
          refine ⟨fun h => ?_, fun h => ?_⟩
          · obtain ⟨y, y1, y2, y3, y4⟩ := i1 h
            refine ⟨y, y1, y2, y3, ?_⟩
            rw [y4, h2, List.append_assoc, ← hcut]
          · rcases i2 h with i3 | rfl
            · exact .inl i3
            · exact .inl (show 0 < n + 1 by omega)

theorem rd0_inv : rd0.Inv := ⟨⟨Nat.zero_le _, fun _ => rfl⟩, fun h => (by cases h), fun r h => (by cases h), fun h => (by cases h), fun h => (by cases h)⟩
theorem firstBad_zero : ∀ {l : List Rec}, (∀ r ∈ l, rightF r = 0) → firstBad l = 0
  | [], _ => rfl
  | x :: l, h => by
    unfold firstBad
    rw [if_neg (by simp [h x List.mem_cons_self])]
    exact firstBad_zero fun r hr => h r (List.mem_cons_of_mem _ hr)
theorem inv_check {y : Rdr} (h : y.Inv) (hf : y.fin = true) : checkF y.fil = 0 := by
  have h1 := h.head (h.fin hf)
  unfold checkF
  rw [if_neg (by simp [h1]), if_neg (show ¬ 1024 < y.fil.recs.length from by have := h.ok.1; show ¬ 1024 < y.rs.length; omega), if_neg (show ¬ firstBad y.fil.recs ≠ 0 from by rw [show y.fil.recs = y.rs from rfl, firstBad_zero h.recs]; simp)]
  exact h.tot hf
theorem inv_ok {y : Rdr} (h : y.Inv) : y.fil.Ok := ⟨by have := h.ok.1; show y.rs.length ≤ _; omega, fun x hx => by have := (right_ok (h.recs x hx)).2.2.2.1; omega⟩
theorem parse_only {s : List UInt8} (h : (parseO s).2.2 = 0) : ∃ f : Fil, parseO s = (f, 0, 0) ∧ f.Ok ∧ checkF f = 0 ∧ printF f = (s, 0) := by
  unfold parseO at h ⊢
  split at h
  · cases h
  · rename_i hl
    rw [if_neg hl]
    obtain ⟨y, y1, y2, y3, y4⟩ := (prs_only (s.length + 1) rd0 0 s rd0_inv (Int.le_refl _)).1 h
    have hc := inv_check y1 y2
    refine ⟨y.fil, y3, inv_ok y1, hc, ?_⟩
    have ht : textF y.fil = s := by
      have h5 : preF y = headLn y.fil ++ y.rs.flatMap recLine ++ endLn y.rs := by
        unfold preF
        simp only [y1.fin y2, y2, if_true, Bool.true_eq_false, if_false]
      rw [h5, show preF rd0 = [] from rfl, List.nil_append] at y4
      exact y4
    unfold printF
    rw [if_neg (by simp [hc]), ht, if_neg hl]
theorem parse_pos {s : List UInt8} (hl : s.length ≤ 65536) (h : (parseO s).2.2 ≠ 0) : 0 < (parseO s).2.1 := by
  unfold parseO at h ⊢
  rw [if_neg (by omega)] at h ⊢
  rcases (prs_only (s.length + 1) rd0 0 s rd0_inv (Int.le_refl _)).2 h with h | h
  · exact h
  · omega

noncomputable section
open Classical

def lOnly_m : List PA → Option (List PA) := ms fun s => if decide (s.length ≤ 9223372036854775807) = true then some [.b true] else none

theorem lOnly_ok : PureC Tryd.prog Gt 8 lOnly_m := by
  refine pure_of_awp (X := ctx Tryd.prog Gt [(17, aparse_m), (15, aprint_m), (12, acheck_m), (14, alive_m)]) Tryd.func8 rfl rfl (by kernel_rfl) (by kernel_rfl) (AllOk.cons aparse_ok (AllOk.cons aprint_ok (AllOk.cons acheck_ok (AllOk.cons alive_ok AllOk.nil)))).kok ?_
  intro args r h0
  obtain ⟨s, rfl, h⟩ := ms_inv h0
  refine ⟨Nat.le_of_ble_eq_true rfl, ?_⟩
  split at h
  · rename_i hlen
    have hlen := of_decide_eq_true hlen
    cases h
    by_cases hbig : 5000 < s.length
    · have b1 : ((5000 : Int) < (s.length : Int)) = True := eq_true (by omega)
      have hc := Nat.zero_add 0
      repeat' (first | (simp only [hc, Tryd.f8, SX, b1, AB, PL, RG, LP, TY, Nat.reduceEqDiff, Nat.reduceAdd, Nat.reduceSub, Nat.reduceMul, Nat.reduceLT, Nat.reduceLeDiff, Nat.reduceMod, Nat.reduceDiv, reduceCtorEq, Int.reduceEq, Int.reduceNe, Int.reduceLT, Int.reduceLE, Int.reduceNeg, Int.reduceToNat, Int.reduceAdd, Int.reduceSub, Int.reduceMul, ↓reduceIte, forall_const, eq_self, ne_eq, Option.some.injEq, beq_self_eq_true]) | refine fin_ndec (fun hc => ?_) (fun hc => ?_) | refine fin_dec (fun hc => ?_) (fun hc => ?_) | refine cnd_ndec (fun hc => ?_) (fun hc => ?_) | refine cnd_dec' (fun hc => ?_) (fun hc => ?_) | refine fin_nsplit (fun hc => ?_) (fun hc => ?_) | refine fin_split (fun hc => ?_) (fun hc => ?_) | refine cnd_nsplit (fun hc => ?_) (fun hc => ?_) | refine cnd_split (fun hc => ?_) (fun hc => ?_) | refine blk_exit_id ?_)
      all_goals simp [DV.b]
    · have b1 : ((5000 : Int) < (s.length : Int)) = False := eq_false (by omega)
      have f1 := aparse_at (s := s) (by omega)
      have f6 := alive_at
      by_cases he : (parseO s).2.2 = 0
      · obtain ⟨f, h1, h2, h3, h4⟩ := parse_only he
        rw [h1] at f1
        have f2 := aprint_at h2
        rw [h4] at f2
        have f3 := acheck_at h2
        rw [h3] at f3
        obtain ⟨a, b, n, rf, l⟩ := f
        simp only [Fil.row] at f1 f2 f3
        have ex : (s == s) = true := by simp
        have hc := Nat.zero_add 0
        repeat' (first | (simp only [hc, Tryd.f8, SX, b1, f1, f2, f3, f6, ex, AB, PL, RG, LP, TY, Nat.reduceEqDiff, Nat.reduceAdd, Nat.reduceSub, Nat.reduceMul, Nat.reduceLT, Nat.reduceLeDiff, Nat.reduceMod, Nat.reduceDiv, reduceCtorEq, Int.reduceEq, Int.reduceNe, Int.reduceLT, Int.reduceLE, Int.reduceNeg, Int.reduceToNat, Int.reduceAdd, Int.reduceSub, Int.reduceMul, ↓reduceIte, forall_const, eq_self, ne_eq, Option.some.injEq, beq_self_eq_true]) | refine fin_ndec (fun hc => ?_) (fun hc => ?_) | refine fin_dec (fun hc => ?_) (fun hc => ?_) | refine cnd_ndec (fun hc => ?_) (fun hc => ?_) | refine cnd_dec' (fun hc => ?_) (fun hc => ?_) | refine fin_nsplit (fun hc => ?_) (fun hc => ?_) | refine fin_split (fun hc => ?_) (fun hc => ?_) | refine cnd_nsplit (fun hc => ?_) (fun hc => ?_) | refine cnd_split (fun hc => ?_) (fun hc => ?_) | refine blk_exit_id ?_)
        all_goals simp [DV.b]
      · have hp := parse_pos (by omega) he
        have f7 : ((0 : Int) < (parseO s).2.1) = True := eq_true hp
        generalize parseO s = R at *
        obtain ⟨⟨a, b, n, rf, l⟩, m, e⟩ := R
        simp only [Fil.row] at f1
        dsimp only at f1 f7 he
        have hc := Nat.zero_add 0
        repeat' (first | (simp only [hc, Tryd.f8, SX, b1, f1, f6, f7, he, AB, PL, RG, LP, TY, Nat.reduceEqDiff, Nat.reduceAdd, Nat.reduceSub, Nat.reduceMul, Nat.reduceLT, Nat.reduceLeDiff, Nat.reduceMod, Nat.reduceDiv, reduceCtorEq, Int.reduceEq, Int.reduceNe, Int.reduceLT, Int.reduceLE, Int.reduceNeg, Int.reduceToNat, Int.reduceAdd, Int.reduceSub, Int.reduceMul, ↓reduceIte, forall_const, eq_self, ne_eq, Option.some.injEq, beq_self_eq_true]) | refine fin_ndec (fun hc => ?_) (fun hc => ?_) | refine fin_dec (fun hc => ?_) (fun hc => ?_) | refine cnd_ndec (fun hc => ?_) (fun hc => ?_) | refine cnd_dec' (fun hc => ?_) (fun hc => ?_) | refine fin_nsplit (fun hc => ?_) (fun hc => ?_) | refine fin_split (fun hc => ?_) (fun hc => ?_) | refine cnd_nsplit (fun hc => ?_) (fun hc => ?_) | refine cnd_split (fun hc => ?_) (fun hc => ?_) | refine blk_exit_id ?_)
        all_goals simp [DV.b]
  · cases h

end
end Go.Ab
