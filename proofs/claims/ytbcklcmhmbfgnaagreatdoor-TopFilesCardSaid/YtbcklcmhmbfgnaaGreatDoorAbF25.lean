/-
  Texts of the layer and of the laws, put together: AbA3, AbA4.
-/
import Derived.Test.YtbcklcmhmbfgnaaGreatDoorAbF24
set_option linter.unusedSimpArgs false
set_option linter.unusedVariables false
set_option maxRecDepth 100000
namespace Go.Ab
open Go.RowKit Go.Proofs
noncomputable section
open Classical
theorem lenR {l : List Rec} : ((l.map Rec.row).length : Int) = l.length := by simp
theorem row_at {l : List Rec} {j : Nat} (h : j < l.length) : (l.map Rec.row)[j]? = some [.int .i64 l[j].kind, .str l[j].key, .int .i64 l[j].time, .int .i64 l[j].cents, .int .i64 l[j].why] := by simp [h, Rec.row]
theorem totL_next {l : List Rec} {j : Nat} (h : j < l.length) : totL (l.take (j + 1)) = if isCh l[j] = true then totL (l.take j) ++ [l[j].cents] else totL (l.take j) := by
  unfold totL
  rw [List.take_succ_eq_append_getElem h, List.filter_append, List.map_append]
  by_cases hc : isCh l[j] = true
  · rw [if_pos hc]; simp [hc]
  rw [if_neg hc]; simp [hc]
theorem totL_len (l : List Rec) : (totL l).length ≤ l.length := by
  unfold totL
  rw [List.length_map]
  exact List.length_filter_le _ _
theorem rows1 {l : List Int} : allLen 1 (l.map rowZ) = True := eq_true fun r hr => by
  obtain ⟨x, _, rfl⟩ := List.mem_map.1 hr
  rfl
theorem atotal_ok : PureC Tryz.prog Gt 27 atotal_m := by
  refine pure_of_awp (X := ctx Tryz.prog Gt [(48, msum_m)]) Tryz.func27 rfl rfl (by kernel_rfl) (by kernel_rfl) (AllOk.cons msum_ok AllOk.nil).kok ?_
  intro args r h0
  obtain ⟨⟨a, b, n, rf, l⟩, rfl, h⟩ := mE_inv h0
  refine ⟨Nat.le_of_ble_eq_true rfl, ?_⟩
  split at h
  · rename_i hl
    have hl := of_decide_eq_true hl
    dsimp only at hl h
    cases h
    have l1 := @lenR l
    have f1 := fun fl => msum_at (f := fl) (l := totL l) (by have := totL_len l; omega)
    have hT : totF l = sumF (totL l) := rfl
    rw [hT]
    have hc := Nat.zero_add 0
    repeat' (first | simp only [hc, Tryz.f27, encF, Fil.row, SX, l1, ZZ, simprocAttr, ↓reduceIte] | ((first | apply Za | apply Zb | apply Zc | apply Zd | apply Ze | apply Zf | apply Zg | apply Zh) <;> intro hc) | refine Zj ?_)
    refine awp_loop (σ := Nat) (fun j => j ≤ l.length) (fun j => ⟨[(10, AV.i j), (9, AV.i l.length), (8, AV.d (.sl rf (l.map Rec.row))), (4, .v (.c (.own 1 ((totL (l.take j)).map rowZ))))], [.box [.d (.str a), .d (.str b), .d (.int .i64 n), .d (.sl rf (l.map Rec.row))], .tok (totL (l.take j)).length 1 none]⟩) (fun j => l.length - j) 0 ((Wk.own 4 1 (by omega) (by simp [look])).trans (Wk.sub' (by simp [subT, look, totL]) (by simp [totL]))) (by simp) ?_
    intro j hj
    by_cases hjl : j < l.length
    · have e1 := row_at hjl
      have hlt : ((j : Int) < (l.length : Int)) = True := eq_true (by omega)
      have hw := wI (n := (j : Int) + 1) (by omega) (by omega)
      have hstep := totL_next hjl
      have hlen := totL_len (l.take j)
      rw [List.length_take] at hlen
      generalize l[j] = x at *
      generalize totL (l.take j) = q at *
      have k1 : (q.map rowZ).length = q.length := by simp
      have k2 : (q.length + 1 ≤ 4611686018427387904) = True := eq_true (by omega)
      have k3 : ((q.length + 1) * 8 ≤ 140737488355328) = True := eq_true (by omega)
      have k4 := @rows1 q
      by_cases c1 : x.kind = 1
      · rw [if_pos (by simp [isCh, c1])] at hstep
        have hc := Nat.zero_add 0
        repeat' (first | simp only [hc, SX, l1, e1, hlt, nn, hw, c1, k1, k2, k3, k4, ZZ, simprocAttr, ↓reduceIte] | ((first | apply Za | apply Zb | apply Zc | apply Zd | apply Ze | apply Zf | apply Zg | apply Zh) <;> intro hc) | refine Zj ?_)
        exact lp_next (j + 1) (Wk.cutk (k := 2) (by simp) (by simp) (by simp [hstep]) (by simp [subT, look, hstep, rowZ]) (by simp [AV.low, V.low, C1.low]) (by simp [Ob.low, C1.low])) (by omega) (by omega)
      by_cases c2 : x.kind = 2
      · rw [if_pos (by simp [isCh, c2])] at hstep
        have hc := Nat.zero_add 0
        repeat' (first | simp only [hc, SX, l1, e1, hlt, nn, hw, c1, c2, k1, k2, k3, k4, ZZ, simprocAttr, ↓reduceIte] | ((first | apply Za | apply Zb | apply Zc | apply Zd | apply Ze | apply Zf | apply Zg | apply Zh) <;> intro hc) | refine Zj ?_)
        exact lp_next (j + 1) (Wk.cutk (k := 2) (by simp) (by simp) (by simp [hstep]) (by simp [subT, look, hstep, rowZ]) (by simp [AV.low, V.low, C1.low]) (by simp [Ob.low, C1.low])) (by omega) (by omega)
      rw [if_neg (by simp [isCh, c1, c2])] at hstep
      have hc := Nat.zero_add 0
      repeat' (first | simp only [hc, SX, l1, e1, hlt, nn, hw, c1, c2, ZZ, simprocAttr, ↓reduceIte] | ((first | apply Za | apply Zb | apply Zc | apply Zd | apply Ze | apply Zf | apply Zg | apply Zh) <;> intro hc) | refine Zj ?_)
      exact lp_next (j + 1) (Wk.cutk (k := 2) (by simp) (by simp) (by simp [hstep]) (by simp [subT, look, hstep]) (by simp [AV.low, V.low, C1.low]) (by simp [Ob.low, C1.low])) (by omega) (by omega)
    have hlt : ((j : Int) < (l.length : Int)) = False := eq_false (by omega)
    rw [List.take_of_length_le (by omega)]
    have hc := Nat.zero_add 0
    repeat' (first | simp only [hc, SX, l1, hlt, f1, ZZ, simprocAttr, ↓reduceIte] | ((first | apply Za | apply Zb | apply Zc | apply Zd | apply Ze | apply Zf | apply Zg | apply Zh) <;> intro hc) | refine Zj ?_)
    all_goals simp
  cases h
theorem atotal_at {f : Fil} (h : f.recs.length ≤ 1024) : atotal_m [.agg f.row] = some [.i (totF f.recs).1, .i (totF f.recs).2] := by
  rw [atotal_m, show ([.agg f.row] : List PA) = encF f from rfl, mE_eq encF_inj, if_pos (decide_eq_true h)]
theorem ahead_at {f : Fil} : ahead_m [.agg f.row] = some [.i (headF f)] := by
  rw [ahead_m, show ([.agg f.row] : List PA) = encF f from rfl, mE_eq encF_inj]
theorem aright_at {x : Rec} (h : x.key.length ≤ 100000) : aright_m [.agg x.row] = some [.i (rightF x)] := by
  rw [aright_m, show ([.agg x.row] : List PA) = encR x from rfl, mE_eq encR_inj, if_pos (decide_eq_true h)]
theorem bad_at : ∀ {l : List Rec} {j : Nat} (hj : j < l.length), firstBad (l.take j) = 0 → rightF l[j] ≠ 0 → firstBad l = rightF l[j]
  | [], j, hj, _, _ => by simp at hj
  | x :: l, 0, _, _, h => by
    have h : rightF x ≠ 0 := h
    simp only [firstBad]
    rw [if_pos h]
    rfl
  | x :: l, j + 1, hj, h1, h2 => by
    simp only [List.take_succ_cons, firstBad] at h1
    split at h1
    · rename_i hx; exact absurd h1 hx
    rename_i hx
    simp only [firstBad]
    rw [if_neg hx]
    exact bad_at (l := l) (j := j) (by simpa using hj) h1 h2
theorem bad_next : ∀ {l : List Rec} {j : Nat} (hj : j < l.length), firstBad (l.take j) = 0 → rightF l[j] = 0 → firstBad (l.take (j + 1)) = 0
  | [], j, hj, _, _ => by simp at hj
  | x :: l, 0, _, _, h => by
    have h : rightF x = 0 := h
    simp only [List.take_succ_cons, List.take_zero, firstBad]
    rw [if_neg (by simpa using h)]
  | x :: l, j + 1, hj, h1, h2 => by
    simp only [List.take_succ_cons, firstBad] at h1 ⊢
    split at h1
    · rename_i hx; exact absurd h1 hx
    rename_i hx
    rw [if_neg hx]
    exact bad_next (l := l) (j := j) (by simpa using hj) h1 h2
theorem acheck_ok : PureC Tryz.prog Gt 17 acheck_m := by
  refine pure_of_awp (X := ctx Tryz.prog Gt [(39, ahead_m), (40, aright_m), (27, atotal_m)]) Tryz.func17 rfl rfl (by kernel_rfl) (by kernel_rfl) (AllOk.cons ahead_ok (AllOk.cons aright_ok (AllOk.cons atotal_ok AllOk.nil))).kok ?_
  intro args r h0
  obtain ⟨⟨a, b, n, rf, l⟩, rfl, h⟩ := mE_inv h0
  refine ⟨Nat.le_of_ble_eq_true rfl, ?_⟩
  split at h
  · rename_i hl
    obtain ⟨hl1, hl2⟩ := hl
    dsimp only at hl1 hl2 h
    cases h
    have l1 := @lenR l
    have f1 := @ahead_at ⟨a, b, n, rf, l⟩
    have f2 := @atotal_at ⟨a, b, n, rf, l⟩
    simp only [Fil.row] at f1 f2
    have hC : checkF ⟨a, b, n, rf, l⟩ = if headF ⟨a, b, n, rf, l⟩ ≠ 0 then headF ⟨a, b, n, rf, l⟩ else if 1024 < l.length then 3 else if firstBad l ≠ 0 then firstBad l else (totF l).2 := rfl
    generalize checkF ⟨a, b, n, rf, l⟩ = R at *
    generalize headF ⟨a, b, n, rf, l⟩ = hd at *
    by_cases c1 : hd = 0
    · rw [if_neg (by simpa using c1)] at hC
      rw [c1] at f1
      by_cases c2 : 1024 < l.length
      · rw [if_pos c2] at hC
        have c2' : (1024 : Int) < l.length := by omega
        have hc := Nat.zero_add 0
        repeat' (first | simp only [hc, Tryz.f17, encF, Fil.row, SX, l1, f1, c2', ZZ, simprocAttr, ↓reduceIte] | ((first | apply Za | apply Zb | apply Zc | apply Zd | apply Ze | apply Zf | apply Zg | apply Zh) <;> intro hc) | refine Zj ?_)
        all_goals simp [hC, DV.i]
      rw [if_neg c2] at hC
      have c2' : ¬ ((1024 : Int) < l.length) := by omega
      have hc := Nat.zero_add 0
      repeat' (first | simp only [hc, Tryz.f17, encF, Fil.row, SX, l1, f1, c2', ZZ, simprocAttr, ↓reduceIte] | ((first | apply Za | apply Zb | apply Zc | apply Zd | apply Ze | apply Zf | apply Zg | apply Zh) <;> intro hc) | refine Zj ?_)
      refine awp_loop (σ := Nat) (fun j => j ≤ l.length ∧ firstBad (l.take j) = 0) (fun j => ⟨[(21, AV.i j), (20, AV.i l.length), (19, AV.d (.sl rf (l.map Rec.row))), (1, .v (.c (.ptr 0 0)))], [.box [.d (.str a), .d (.str b), .d (.int .i64 n), .d (.sl rf (l.map Rec.row))]]⟩) (fun j => l.length - j) 0 (Wk.sub' (by simp [subT, look]) rfl) (by simp [firstBad]) ?_
      rintro j ⟨hj, hall⟩
      by_cases hjl : j < l.length
      · have e1 := row_at hjl
        have hlt : ((j : Int) < (l.length : Int)) = True := eq_true (by omega)
        have hw := wI (n := (j : Int) + 1) (by omega) (by omega)
        have f3 := aright_at (hl2 _ (List.getElem_mem hjl))
        have h1 := bad_at hjl hall
        have h2 := bad_next hjl hall
        simp only [Rec.row] at f3
        generalize rightF l[j] = r at *
        generalize l[j] = x at *
        by_cases c3 : r = 0
        · rw [c3] at f3
          have hc := Nat.zero_add 0
          repeat' (first | simp only [hc, SX, l1, e1, hlt, nn, hw, f3, ZZ, simprocAttr, ↓reduceIte] | ((first | apply Za | apply Zb | apply Zc | apply Zd | apply Ze | apply Zf | apply Zg | apply Zh) <;> intro hc) | refine Zj ?_)
          exact lp_next (j + 1) (Wk.cutk (k := 1) (by simp) (by simp) (by simp) (by simp [subT, look]) (by simp [AV.low, V.low, C1.low]) (by simp [Ob.low, C1.low])) ⟨by omega, h2 c3⟩ (by omega)
        rw [h1 c3, if_pos c3] at hC
        have hc := Nat.zero_add 0
        repeat' (first | simp only [hc, SX, l1, e1, hlt, nn, hw, f3, c3, ZZ, simprocAttr, ↓reduceIte] | ((first | apply Za | apply Zb | apply Zc | apply Zd | apply Ze | apply Zf | apply Zg | apply Zh) <;> intro hc) | refine Zj ?_)
        all_goals simp [hC, DV.i]
      have hlt : ((j : Int) < (l.length : Int)) = False := eq_false (by omega)
      rw [List.take_of_length_le (by omega)] at hall
      rw [if_neg (by simpa using hall)] at hC
      have f4 := f2 (by omega)
      have hc := Nat.zero_add 0
      repeat' (first | simp only [hc, SX, l1, hlt, f4, ZZ, simprocAttr, ↓reduceIte] | ((first | apply Za | apply Zb | apply Zc | apply Zd | apply Ze | apply Zf | apply Zg | apply Zh) <;> intro hc) | refine Zj ?_)
      all_goals simp [hC, DV.i]
    rw [if_pos c1] at hC
    have hc := Nat.zero_add 0
    repeat' (first | simp only [hc, Tryz.f17, encF, Fil.row, SX, l1, f1, c1, ZZ, simprocAttr, ↓reduceIte] | ((first | apply Za | apply Zb | apply Zc | apply Zd | apply Ze | apply Zf | apply Zg | apply Zh) <;> intro hc) | refine Zj ?_)
    all_goals simp [hC, DV.i]
  cases h
theorem acheck_at {f : Fil} (h : f.Ok) : acheck_m [.agg f.row] = some [.i (checkF f)] := by
  rw [acheck_m, show ([.agg f.row] : List PA) = encF f from rfl, mE_eq encF_inj, if_pos h]
end
end Go.Ab
namespace Go.Ab
open Go.RowKit Go.Proofs
noncomputable section
open Classical
def wordF (k : Int) : List UInt8 := wordsL.getD k.toNat []
def lastF (x : Rec) : List UInt8 := if x.kind = 3 then Lib.itoa x.why else showF x.cents
def recLine (x : Rec) : List UInt8 := lineF [wordF x.kind, x.key, Lib.itoa x.time, lastF x]
def headLn (f : Fil) : List UInt8 := lineF [[102, 105, 108, 101], f.fr, f.dst, Lib.itoa f.seq]
def endLn (l : List Rec) : List UInt8 := lineF [[101, 110, 100], Lib.itoa l.length, showF (totF l).1]
def textF (f : Fil) : List UInt8 := headLn f ++ f.recs.flatMap recLine ++ endLn f.recs
def printF (f : Fil) : List UInt8 × Int := if checkF f ≠ 0 then ([], checkF f) else if 65536 < (textF f).length then ([], 4) else (textF f, 0)
theorem right_ok {x : Rec} (h : rightF x = 0) : 1 ≤ x.kind ∧ x.kind ≤ 4 ∧ fieldB x.key = true ∧ x.key.length ≤ 256 ∧ 0 ≤ x.time ∧ x.time < 68719476736 ∧ (x.kind = 3 → x.cents = 0 ∧ 0 ≤ x.why ∧ x.why ≤ 99) ∧ (x.kind ≠ 3 → afit x.cents = true ∧ x.why = 0) := by
  unfold rightF at h
  split at h
  · cases h
  split at h
  · cases h
  split at h
  · cases h
  split at h
  · cases h
  rename_i h1 h2 h3 h4
  refine ⟨by omega, by omega, by simpa using h2, by omega, by omega, by omega, fun h5 => ?_, fun h5 => ?_⟩
  · rw [if_pos h5] at h
    split at h
    · cases h
    omega
  rw [if_neg h5] at h
  split at h
  · cases h
  split at h
  · cases h
  rename_i h6 h7
  exact ⟨by simpa using h6, by omega⟩
theorem cents_ok {x : Rec} (h : rightF x = 0) : -1125899906842624 ≤ x.cents ∧ x.cents ≤ 1125899906842624 := by
  obtain ⟨_, _, _, _, _, _, h1, h2⟩ := right_ok h
  by_cases h3 : x.kind = 3
  · have := h1 h3; omega
  exact afit_iff.1 (h2 h3).1
theorem why_ok {x : Rec} (h : rightF x = 0) : 0 ≤ x.why ∧ x.why ≤ 99 := by
  obtain ⟨_, _, _, _, _, _, h1, h2⟩ := right_ok h
  by_cases h3 : x.kind = 3
  · have := h1 h3; omega
  have := (h2 h3).2; omega
theorem aln_le {l : List (List UInt8)} (h : ∀ p ∈ l, p.length ≤ 256) (h4 : l.length ≤ 4) : (lineF l).length ≤ 1029 ∧ (Lib.join l [32]).length ≤ 1028 := by
  have := join_le 256 l h
  have h5 := Nat.mul_le_mul_left 257 h4
  unfold lineF
  simp only [List.length_append, List.length_singleton]
  omega
theorem ale4 {a b c d : List UInt8} (ha : a.length ≤ 256) (hb : b.length ≤ 256) (hc : c.length ≤ 256) (hd : d.length ≤ 256) : ∀ p ∈ [a, b, c, d], p.length ≤ 256 := by
  simp only [List.mem_cons, List.not_mem_nil, or_false]
  rintro p (rfl | rfl | rfl | rfl) <;> assumption
theorem ale3 {a b c : List UInt8} (ha : a.length ≤ 256) (hb : b.length ≤ 256) (hc : c.length ≤ 256) : ∀ p ∈ [a, b, c], p.length ≤ 256 := by
  simp only [List.mem_cons, List.not_mem_nil, or_false]
  rintro p (rfl | rfl | rfl) <;> assumption
theorem word_le (k : Int) : (wordF k).length ≤ 7 := by
  unfold wordF
  generalize k.toNat = n
  match n with
  | 0 => decide
  | 1 => decide
  | 2 => decide
  | 3 => decide
  | 4 => decide
  | n + 5 => simp [wordsL]
theorem last_le {x : Rec} (h : rightF x = 0) : (lastF x).length ≤ 30 := by
  have h1 := cents_ok h
  have h2 := why_ok h
  unfold lastF
  split
  · exact itoa_le (inI_iff.2 (by omega))
  exact show_le (inI_iff.2 (by omega))
theorem rec_pieces {x : Rec} (h : rightF x = 0) : ∀ p ∈ [wordF x.kind, x.key, Lib.itoa x.time, lastF x], p.length ≤ 256 := by
  obtain ⟨_, _, _, h4, h5, h6, _, _⟩ := right_ok h
  have h1 := word_le x.kind
  have h2 := last_le h
  have h3 := itoa_le (n := x.time) (inI_iff.2 (by omega))
  exact ale4 (by omega) h4 (by omega) (by omega)
def aline_m : List PA → Option (List PA) := mE encR fun x => if rightF x = 0 then some [.s (recLine x)] else none
theorem tfmt_at {n : Int} (h : inI n = true) : tfmt_m [.c (.int .i64 n)] = some [.c (.str (Lib.itoa n))] := by rw [tfmt_m, m1_eq]; exact if_pos h
theorem tjoin_at {f : Bool} {l : List (List UInt8)} (h : ∀ p ∈ l, p.length ≤ 256) (h4 : l.length ≤ 4) : tjoin_m [.c (.sl f (l.map rowS))] = some [.c (.str (Lib.join l [32]))] := by
  have := (aln_le h h4).2
  rw [tjoin_m, ml_eq, if_pos (decide_eq_true ⟨by omega, by omega⟩)]
theorem words_at {n : Int} (h1 : 1 ≤ n) (h2 : n ≤ 4) : (wordsL.map fun s => [D.str s])[n.toNat]? = some [.str (wordF n)] := by
  rcases (by omega : n = 1 ∨ n = 2 ∨ n = 3 ∨ n = 4) with rfl | rfl | rfl | rfl <;> rfl
theorem aline_ok : PureC Tryz.prog Gt 26 aline_m := by
  refine pure_of_awp (X := ctx Tryz.prog Gt [(28, mshow_m), (25, tfmt_m), (24, tjoin_m)]) Tryz.func26 rfl rfl (by kernel_rfl) (by kernel_rfl) (AllOk.cons mshow_ok (AllOk.cons tfmt_ok (AllOk.cons tjoin_ok AllOk.nil))).kok ?_
  intro args r h0
  obtain ⟨x, rfl, h⟩ := mE_inv h0
  refine ⟨Nat.le_of_ble_eq_true rfl, ?_⟩
  split at h
  · rename_i hr
    cases h
    have hR : recLine x = Lib.join [wordF x.kind, x.key, Lib.itoa x.time, lastF x] [32] ++ [10] := rfl
    have hL : lastF x = if x.kind = 3 then Lib.itoa x.why else showF x.cents := rfl
    have f1 := tjoin_at (f := true) (rec_pieces hr) (by simp)
    simp only [List.map_cons, List.map_nil, rowS] at f1
    have hl := (aln_le (rec_pieces hr) (by simp)).2
    have hc := cents_ok hr
    have hw := why_ok hr
    obtain ⟨g1, g2, _, _, g3, g4, _, _⟩ := right_ok hr
    have f2 := words_at g1 g2
    have f3 := mshow_at (n := x.cents) (inI_iff.2 (by omega))
    have f4 := tfmt_at (n := x.why) (inI_iff.2 (by omega))
    have f5 := tfmt_at (n := x.time) (inI_iff.2 (by omega))
    have hk0 : (0 ≤ x.kind) = True := eq_true (by omega)
    generalize recLine x = R at *
    generalize wordF x.kind = wd at *
    generalize Lib.join [wd, x.key, Lib.itoa x.time, lastF x] [32] = q at *
    have k1 : (q.length + 1 ≤ 4611686018427387904) = True := eq_true (by omega)
    generalize lastF x = ls at *
    by_cases c1 : x.kind = 3
    · rw [if_pos c1] at hL
      rw [← hL] at f4
      have f2 : (wordsL.map fun s => [D.str s])[3]? = some [.str wd] := by rw [c1] at f2; exact f2
      have hc := Nat.zero_add 0
      repeat' (first | simp only [hc, Tryz.f26, encR, Rec.row, SX, gloWords, c1, f1, f2, f3, f4, f5, k1, hk0, ZZ, simprocAttr, ↓reduceIte] | ((first | apply Za | apply Zb | apply Zc | apply Zd | apply Ze | apply Zf | apply Zg | apply Zh) <;> intro hc) | refine Zj ?_)
      all_goals simp [hR]
    rw [if_neg c1] at hL
    rw [← hL] at f3
    have hc := Nat.zero_add 0
    repeat' (first | simp only [hc, Tryz.f26, encR, Rec.row, SX, gloWords, c1, f1, f2, f3, f4, f5, k1, hk0, ZZ, simprocAttr, ↓reduceIte] | ((first | apply Za | apply Zb | apply Zc | apply Zd | apply Ze | apply Zf | apply Zg | apply Zh) <;> intro hc) | refine Zj ?_)
    all_goals simp [hR]
  cases h
theorem aline_at {x : Rec} (h : rightF x = 0) : aline_m [.agg x.row] = some [.s (recLine x)] := by
  rw [aline_m, show ([.agg x.row] : List PA) = encR x from rfl, mE_eq encR_inj, if_pos h]
end
end Go.Ab
