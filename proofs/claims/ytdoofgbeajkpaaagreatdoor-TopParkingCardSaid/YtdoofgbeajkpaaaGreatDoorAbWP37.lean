/-
  Texts of the layer and of the laws, put together: AbJ9, AbJ10.
-/
import Derived.Test.YtdoofgbeajkpaaaGreatDoorAbWP36
import Derived.Test.YtdoofgbeajkpaaaGreatDoorAbWP34
set_option linter.unusedSimpArgs false
set_option linter.unusedVariables false
set_option maxRecDepth 100000
namespace Go.Ab
open Go.RowKit Go.Proofs
def Pmt.row (p : Pmt) : List D := [.str p.name, .str p.zone, .sl p.pf (p.plates.map rowS), .int .i64 p.v.1, .int .i64 p.v.2, .sl p.hf (p.hrs.map Win.row), .int .i64 p.most]
theorem rowS_inj' (a b : List UInt8) (h : rowS a = rowS b) : a = b := by simpa [rowS] using h
theorem mapTx_inj {l k : List (List UInt8)} : l.map rowS = k.map rowS ↔ l = k := ⟨map_inj rowS_inj', fun h => by rw [h]⟩
theorem Pmt.inj (a b : Pmt) (h : a.row = b.row) : a = b := by
  obtain ⟨a1, a2, a3, a4, ⟨a5, a5'⟩, a6, a7, a8⟩ := a
  obtain ⟨b1, b2, b3, b4, ⟨b5, b5'⟩, b6, b7, b8⟩ := b
  simp only [Pmt.row, List.cons.injEq, D.str.injEq, D.sl.injEq, D.int.injEq, and_true, true_and, mapTx_inj, mapW_inj] at h
  obtain ⟨h1, h2, ⟨h3, h4⟩, h5, h5', ⟨h6, h7⟩, h8⟩ := h
  rw [h1, h2, h3, h4, h5, h5', h6, h7, h8]
theorem mapPm_inj {l k : List Pmt} : l.map Pmt.row = k.map Pmt.row ↔ l = k := ⟨map_inj Pmt.inj, fun h => by rw [h]⟩
def encSn (p : (Bool × List (List UInt8)) × List UInt8) : List PA := [.c (.sl p.1.1 (p.1.2.map rowS)), .c (.str p.2)]
theorem encSn_inj (a b : (Bool × List (List UInt8)) × List UInt8) (h : encSn a = encSn b) : a = b := by
  obtain ⟨⟨a1, a2⟩, a3⟩ := a
  obtain ⟨⟨b1, b2⟩, b3⟩ := b
  simp only [encSn, List.cons.injEq, DV.c.injEq, D.sl.injEq, D.str.injEq, and_true] at h
  rw [h.1.1, mapTx_inj.1 h.1.2, h.2]
def encPs1 (p : Pmt × List UInt8) : List PA := [.agg p.1.row, .c (.str p.2)]
theorem encPs1_inj (a b : Pmt × List UInt8) (h : encPs1 a = encPs1 b) : a = b := by
  simp only [encPs1, List.cons.injEq, DV.c.injEq, DV.agg.injEq, D.str.injEq, and_true] at h
  exact Prod.ext (Pmt.inj _ _ h.1) h.2
def encPst (p : (Pmt × List UInt8) × Int) : List PA := [.agg p.1.1.row, .c (.str p.1.2), .c (.int .i64 p.2)]
theorem encPst_inj (a b : (Pmt × List UInt8) × Int) (h : encPst a = encPst b) : a = b := by
  simp only [encPst, List.cons.injEq, DV.c.injEq, DV.agg.injEq, D.str.injEq, D.int.injEq, and_true, true_and] at h
  exact Prod.ext (Prod.ext (Pmt.inj _ _ h.1) h.2.1) h.2.2
def encPsv (p : (Pmt × List UInt8) × Iv) : List PA := [.agg p.1.1.row, .c (.str p.1.2), .agg (rwI p.2)]
theorem encPsv_inj (a b : (Pmt × List UInt8) × Iv) (h : encPsv a = encPsv b) : a = b := by
  simp only [encPsv, List.cons.injEq, DV.c.injEq, DV.agg.injEq, D.str.injEq, and_true] at h
  exact Prod.ext (Prod.ext (Pmt.inj _ _ h.1) h.2.1) (rwI_inj _ _ h.2.2)
theorem lenTx {l : List (List UInt8)} : ((l.map rowS).length : Int) = l.length := by simp
theorem tx_at {l : List (List UInt8)} {j : Nat} (h : j < l.length) : (l.map rowS)[j]? = some [.str l[j]] := by simp [h, rowS]
theorem anyS_take {l : List (List UInt8)} {x : List UInt8} {i : Nat} (hi : i < l.length) (h : (l.take i).any (· == x) = false) :
    (l[i] = x → l.any (· == x) = true) ∧ (l[i] ≠ x → (l.take (i + 1)).any (· == x) = false) :=
  ⟨fun hx => List.any_eq_true.2 ⟨l[i], List.getElem_mem hi, by simp [hx]⟩, fun hx => by
    rw [List.take_succ_eq_append_getElem hi, List.any_append, h]
    simp [hx]⟩
def hrsP (hs : List Win) (t : Int) : Bool := hs.isEmpty || hs.any fun w => inB w.d w.f w.t t
theorem anyH_take {l : List Win} {t : Int} {i : Nat} (hi : i < l.length) (h : (l.take i).any (fun w => inB w.d w.f w.t t) = false) :
    (inB l[i].d l[i].f l[i].t t = true → (l.any fun w => inB w.d w.f w.t t) = true) ∧ (inB l[i].d l[i].f l[i].t t = false → (l.take (i + 1)).any (fun w => inB w.d w.f w.t t) = false) :=
  ⟨fun hx => List.any_eq_true.2 ⟨l[i], List.getElem_mem hi, hx⟩, fun hx => by
    rw [List.take_succ_eq_append_getElem hi, List.any_append, h]
    simp [hx]⟩
def validP (p : Pmt) (s : List UInt8) (t : Int) : Bool := listB p s && (hasW [p.v] t && hrsP p.hrs t)
noncomputable section
open Classical
def phas_m : List PA → Option (List PA) := mE encSn fun p => if decide (p.1.2.length ≤ 1000000000) = true then some [.b (p.1.2.any (· == p.2))] else none
def r9amg_m : List PA → Option (List PA) := mE encSn fun p => if decide (p.1.2.length ≤ 1000000000) = true then some [.b (p.1.2.any (· == p.2))] else none
def plist_m : List PA → Option (List PA) := mE encPs1 fun p => if decide (p.1.plates.length ≤ 1000000000 ∧ p.2.length ≤ 1000000000) = true then some [.b (listB p.1 p.2)] else none
def pvalid_m : List PA → Option (List PA) := mE encPst fun p => if decide (p.1.1.plates.length ≤ 1000000000 ∧ p.1.1.hrs.length ≤ 1000000000 ∧ p.1.2.length ≤ 1000000000) = true then some [.b (validP p.1.1 p.1.2 p.2)] else none
theorem phas_ok : PureC Tryz.prog Gt 101 phas_m := by
  refine pure_of_awpS (X := ctx Tryz.prog Gt []) Tryz.func101 rfl rfl (by kernel_rfl) (by kernel_rfl) AllOk.nil.kok ?_
  intro args r h0
  obtain ⟨⟨⟨f, l⟩, x⟩, rfl, h⟩ := mE_inv h0
  refine ⟨Nat.le_of_ble_eq_true rfl, ?_⟩
  split at h
  · rename_i hl
    have hl := of_decide_eq_true hl
    dsimp only at hl h
    simp only [Option.some.injEq] at h
    have l1 := @lenTx l
    have hc := Nat.zero_add 0
    repeat' (first | simp only [hc, AS, Tryz.f101, encSn, SX, l1, ZZ, simprocAttr, ↓reduceIte] | ((first | apply Za | apply Zb | apply Zc | apply Zd | apply Ze | apply Zf | apply Zg | apply Zh) <;> intro hc) | refine Zi ?_ | refine Zj ?_)
    refine awpS_loop (σ := Nat) (fun i => i ≤ l.length ∧ (l.take i).any (· == x) = false)
      (fun i => ⟨[(9, AV.i i), (8, AV.i l.length), (7, AV.d (.sl f (l.map rowS))), (1, AV.s x)], []⟩)
      (fun i => l.length - i) 0 (Wk.sub' (by simp [subT, look]) rfl) ⟨Nat.zero_le _, rfl⟩ ?_
    rintro i ⟨hi, hn⟩
    by_cases hil : i < l.length
    · have e1 := tx_at hil
      have c1 : ((i : Int) < (l.length : Int)) = True := eq_true (by omega)
      have w1 := wI (n := (i : Int) + 1) (by omega) (by omega)
      obtain ⟨g1, g2⟩ := anyS_take hil hn
      generalize l[i] = y at *
      by_cases hxy : y = x
      · have b1 : (x == y) = true := by simp [hxy]
        rw [g1 hxy] at h
        have hc := Nat.zero_add 0
        repeat' (first | simp only [hc, AS, SX, l1, e1, c1, nn, w1, b1, ZZ, simprocAttr, ↓reduceIte] | ((first | apply Za | apply Zb | apply Zc | apply Zd | apply Ze | apply Zf | apply Zg | apply Zh) <;> intro hc) | refine Zi ?_ | refine Zj ?_)
        rw [← h]
      have b1 : (x == y) = false := by simpa using fun e => hxy e.symm
      have hc := Nat.zero_add 0
      repeat' (first | simp only [hc, AS, SX, l1, e1, c1, nn, w1, b1, ZZ, simprocAttr, ↓reduceIte] | ((first | apply Za | apply Zb | apply Zc | apply Zd | apply Ze | apply Zf | apply Zg | apply Zh) <;> intro hc) | refine Zi ?_ | refine Zj ?_)
      exact lp_next (i + 1) (Wk.sub' (by simp [subT, look]) rfl) ⟨by omega, g2 hxy⟩ (by omega)
    have c1 : ((i : Int) < (l.length : Int)) = False := eq_false (by omega)
    rw [List.take_of_length_le (by omega : l.length ≤ i)] at hn
    rw [hn] at h
    have hc := Nat.zero_add 0
    repeat' (first | simp only [hc, AS, SX, l1, c1, ZZ, simprocAttr, ↓reduceIte] | ((first | apply Za | apply Zb | apply Zc | apply Zd | apply Ze | apply Zf | apply Zg | apply Zh) <;> intro hc) | refine Zi ?_ | refine Zj ?_)
    rw [← h]
  cases h
theorem phas_at {f : Bool} {l : List (List UInt8)} {x : List UInt8} (h : l.length ≤ 1000000000) : phas_m [.c (.sl f (l.map rowS)), .c (.str x)] = some [.b (l.any (· == x))] := by
  have := mE_eq encSn_inj (g := fun p => if decide (p.1.2.length ≤ 1000000000) = true then some [DV.b (p.1.2.any (· == p.2))] else none) (a := ((f, l), x))
  exact this.trans (if_pos (decide_eq_true h))
theorem r9amg_ok : PureC Tryz.prog Gt 77 r9amg_m := by
  refine pure_of_awpS (X := ctx Tryz.prog Gt []) Tryz.func77 rfl rfl (by kernel_rfl) (by kernel_rfl) AllOk.nil.kok ?_
  intro args r h0
  obtain ⟨⟨⟨f, l⟩, x⟩, rfl, h⟩ := mE_inv h0
  refine ⟨Nat.le_of_ble_eq_true rfl, ?_⟩
  split at h
  · rename_i hl
    have hl := of_decide_eq_true hl
    dsimp only at hl h
    simp only [Option.some.injEq] at h
    have l1 := @lenTx l
    have hc := Nat.zero_add 0
    repeat' (first | simp only [hc, AS, Tryz.f77, encSn, SX, l1, ZZ, simprocAttr, ↓reduceIte] | ((first | apply Za | apply Zb | apply Zc | apply Zd | apply Ze | apply Zf | apply Zg | apply Zh) <;> intro hc) | refine Zi ?_ | refine Zj ?_)
    refine awpS_loop (σ := Nat) (fun i => i ≤ l.length ∧ (l.take i).any (· == x) = false)
      (fun i => ⟨[(5, AV.i i), (0, AV.d (.sl f (l.map rowS))), (1, AV.s x)], []⟩)
      (fun i => l.length - i) 0 (Wk.sub' (by simp [subT, look]) rfl) ⟨Nat.zero_le _, rfl⟩ ?_
    rintro i ⟨hi, hn⟩
    by_cases hil : i < l.length
    · have e1 := tx_at hil
      have c1 : ((i : Int) < (l.length : Int)) = True := eq_true (by omega)
      have w1 := wI (n := (i : Int) + 1) (by omega) (by omega)
      obtain ⟨g1, g2⟩ := anyS_take hil hn
      generalize l[i] = y at *
      by_cases hxy : y = x
      · have b1 : (y == x) = true := by simp [hxy]
        rw [g1 hxy] at h
        have hc := Nat.zero_add 0
        repeat' (first | simp only [hc, AS, SX, l1, e1, c1, nn, w1, b1, ZZ, simprocAttr, ↓reduceIte] | ((first | apply Za | apply Zb | apply Zc | apply Zd | apply Ze | apply Zf | apply Zg | apply Zh) <;> intro hc) | refine Zi ?_ | refine Zj ?_)
        rw [← h]
      have b1 : (y == x) = false := by simpa using hxy
      have hc := Nat.zero_add 0
      repeat' (first | simp only [hc, AS, SX, l1, e1, c1, nn, w1, b1, ZZ, simprocAttr, ↓reduceIte] | ((first | apply Za | apply Zb | apply Zc | apply Zd | apply Ze | apply Zf | apply Zg | apply Zh) <;> intro hc) | refine Zi ?_ | refine Zj ?_)
      exact lp_next (i + 1) (Wk.sub' (by simp [subT, look]) rfl) ⟨by omega, g2 hxy⟩ (by omega)
    have c1 : ((i : Int) < (l.length : Int)) = False := eq_false (by omega)
    rw [List.take_of_length_le (by omega : l.length ≤ i)] at hn
    rw [hn] at h
    have hc := Nat.zero_add 0
    repeat' (first | simp only [hc, AS, SX, l1, c1, ZZ, simprocAttr, ↓reduceIte] | ((first | apply Za | apply Zb | apply Zc | apply Zd | apply Ze | apply Zf | apply Zg | apply Zh) <;> intro hc) | refine Zi ?_ | refine Zj ?_)
    rw [← h]
  cases h
theorem r9amg_at {f : Bool} {l : List (List UInt8)} {x : List UInt8} (h : l.length ≤ 1000000000) : r9amg_m [.c (.sl f (l.map rowS)), .c (.str x)] = some [.b (l.any (· == x))] := by
  have := mE_eq encSn_inj (g := fun p => if decide (p.1.2.length ≤ 1000000000) = true then some [DV.b (p.1.2.any (· == p.2))] else none) (a := ((f, l), x))
  exact this.trans (if_pos (decide_eq_true h))
theorem plist_ok : PureC Tryz.prog Gt 53 plist_m := by
  refine pure_of_awpS (X := ctx Tryz.prog Gt [(66, pnorm_m), (101, phas_m)]) Tryz.func53 rfl rfl (by kernel_rfl) (by kernel_rfl) (AllOk.cons pnorm_ok (AllOk.cons phas_ok AllOk.nil)).kok ?_
  intro args r h0
  obtain ⟨⟨p, s⟩, rfl, h⟩ := mE_inv h0
  refine ⟨Nat.le_of_ble_eq_true rfl, ?_⟩
  split at h
  · rename_i hl
    have hl := of_decide_eq_true hl
    dsimp only at hl h
    simp only [Option.some.injEq] at h
    have f1 := @pnorm_at s hl.2
    have f2 := @phas_at p.pf p.plates (plF s).1 hl.1
    have hL : listB p s = (decide ((plF s).2 = 0) && p.plates.any (· == (plF s).1)) := rfl
    rw [hL] at h
    obtain ⟨p1, p2, p3, p4, ⟨p5, p5'⟩, p6, p7, p8⟩ := p
    dsimp only at f2 h hl
    generalize p4.any (· == (plF s).1) = R at *
    generalize plF s = q at *
    obtain ⟨q1, q2⟩ := q
    dsimp only at f1 f2 h
    by_cases he : q2 = 0
    · have he' := eq_true he
      have hc := Nat.zero_add 0
      repeat' (first | simp only [hc, AS, Tryz.f53, encPs1, Pmt.row, SX, f1, f2, he', ZZ, simprocAttr, ↓reduceIte] | ((first | apply Za | apply Zb | apply Zc | apply Zd | apply Ze | apply Zf | apply Zg | apply Zh) <;> intro hc) | refine Zi ?_ | refine Zj ?_)
      rw [← h]
      simp [he, DV.b]
    have he' := eq_false he
    have hc := Nat.zero_add 0
    repeat' (first | simp only [hc, AS, Tryz.f53, encPs1, Pmt.row, SX, f1, he', ZZ, simprocAttr, ↓reduceIte] | ((first | apply Za | apply Zb | apply Zc | apply Zd | apply Ze | apply Zf | apply Zg | apply Zh) <;> intro hc) | refine Zi ?_ | refine Zj ?_)
    rw [← h]
    simp [he, DV.b]
  cases h
theorem plist_at {p : Pmt} {s : List UInt8} (h1 : p.plates.length ≤ 1000000000) (h2 : s.length ≤ 1000000000) : plist_m [.agg p.row, .c (.str s)] = some [.b (listB p s)] := by
  have := mE_eq encPs1_inj (g := fun p => if decide (p.1.plates.length ≤ 1000000000 ∧ p.2.length ≤ 1000000000) = true then some [DV.b (listB p.1 p.2)] else none) (a := (p, s))
  exact this.trans (if_pos (decide_eq_true ⟨h1, h2⟩))
theorem shas_one {a b t : Int} : shas_m [.c (.sl true [[.int .i64 a, .int .i64 b]]), .c (.int .i64 t)] = some [.b (hasW [(a, b)] t)] := shas_at (f := true) (l := [(a, b)]) (by simp)
theorem pvalid_ok : PureC Tryz.prog Gt 19 pvalid_m := by
  refine pure_of_awpS (X := ctx Tryz.prog Gt [(53, plist_m), (21, shas_m), (52, cin_m)]) Tryz.func19 rfl rfl (by kernel_rfl) (by kernel_rfl) (AllOk.cons plist_ok (AllOk.cons shas_ok (AllOk.cons cin_ok AllOk.nil))).kok ?_
  intro args r h0
  obtain ⟨⟨⟨p, s⟩, t⟩, rfl, h⟩ := mE_inv h0
  refine ⟨Nat.le_of_ble_eq_true rfl, ?_⟩
  split at h
  · rename_i hl
    have hl := of_decide_eq_true hl
    dsimp only at hl h
    simp only [Option.some.injEq] at h
    have f1 := @plist_at p s hl.1 hl.2.2
    have hV : validP p s t = (listB p s && (hasW [p.v] t && hrsP p.hrs t)) := rfl
    rw [hV] at h
    have f2 := @shas_one p.v.1 p.v.2 t
    have f2 : shas_m [.c (.sl true [[.int .i64 p.v.1, .int .i64 p.v.2]]), .c (.int .i64 t)] = some [.b (hasW [p.v] t)] := f2
    obtain ⟨p1, p2, p3, p4, ⟨p5, p5'⟩, p6, l, p8⟩ := p
    dsimp only at f2 h hl
    simp only [Pmt.row] at f1
    generalize listB _ s = L at *
    generalize hasW [(p5, p5')] t = H at *
    have hl2 := hl.2.1
    clear hV
    have l1 := @lenWn l
    cases L
    · skip
      have hc := Nat.zero_add 0
      repeat' (first | simp only [hc, AS, Tryz.f19, encPst, Pmt.row, SX, f1, ZZ, simprocAttr, ↓reduceIte] | ((first | apply Za | apply Zb | apply Zc | apply Zd | apply Ze | apply Zf | apply Zg | apply Zh) <;> intro hc) | refine Zi ?_ | refine Zj ?_)
      rw [← h]
      rfl
    cases H
    · skip
      have hc := Nat.zero_add 0
      repeat' (first | simp only [hc, AS, Tryz.f19, encPst, Pmt.row, SX, f1, f2, ZZ, simprocAttr, ↓reduceIte] | ((first | apply Za | apply Zb | apply Zc | apply Zd | apply Ze | apply Zf | apply Zg | apply Zh) <;> intro hc) | refine Zi ?_ | refine Zj ?_)
      rw [← h]
      rfl
    by_cases hnil : l = []
    · subst hnil
      simp only [List.map_nil] at f1
      have hc := Nat.zero_add 0
      repeat' (first | simp only [hc, AS, Tryz.f19, encPst, Pmt.row, SX, f1, f2, List.map_nil, List.length_nil, ZZ, simprocAttr, ↓reduceIte] | ((first | apply Za | apply Zb | apply Zc | apply Zd | apply Ze | apply Zf | apply Zg | apply Zh) <;> intro hc) | refine Zi ?_ | refine Zj ?_)
      rw [← h]
      rfl
    have hpos : 0 < l.length := List.length_pos_iff.2 hnil
    have c0 : ((l.length : Int) = 0) = False := eq_false (by omega)
    have hP : hrsP l t = l.any fun w => inB w.d w.f w.t t := by
      cases l with
      | nil => exact absurd rfl hnil
      | cons w l => rfl
    rw [hP, Bool.true_and, Bool.true_and] at h
    have hc := Nat.zero_add 0
    repeat' (first | simp only [hc, AS, Tryz.f19, encPst, Pmt.row, SX, f1, f2, l1, c0, ZZ, simprocAttr, ↓reduceIte] | ((first | apply Za | apply Zb | apply Zc | apply Zd | apply Ze | apply Zf | apply Zg | apply Zh) <;> intro hc) | refine Zi ?_ | refine Zj ?_)
    refine awpS_loop (σ := Nat) (fun i => i ≤ l.length ∧ (l.take i).any (fun w => inB w.d w.f w.t t) = false)
      (fun i => ⟨[(28, AV.i i), (27, AV.i l.length), (26, AV.d (.sl p6 (l.map Win.row))), (2, AV.i t)], [.box [.d (.str p1), .d (.str p2), .d (.sl p3 (p4.map rowS)), .d (.int .i64 p5), .d (.int .i64 p5'), .d (.sl p6 (l.map Win.row)), .d (.int .i64 p8)]]⟩)
      (fun i => l.length - i) 0 (Wk.sub' (by simp [subT, look]) rfl) ⟨Nat.zero_le _, rfl⟩ ?_
    rintro i ⟨hi, hn⟩
    by_cases hil : i < l.length
    · have d1 := wn_at hil
      have c1 : ((i : Int) < (l.length : Int)) = True := eq_true (by omega)
      have w1 := wI (n := (i : Int) + 1) (by omega) (by omega)
      obtain ⟨g1, g2⟩ := anyH_take hil hn
      generalize l[i] = y at *
      obtain ⟨a, b, c⟩ := y
      dsimp only at d1 g1 g2
      have f3 : cin_m [.agg [.int .i64 a, .int .i64 b, .int .i64 c], .c (.int .i64 t)] = some [.b (inB a b c t)] := rfl
      cases hin : inB a b c t
      · rw [hin] at f3
        have hc := Nat.zero_add 0
        repeat' (first | simp only [hc, AS, SX, l1, d1, c1, nn, w1, f3, ZZ, simprocAttr, ↓reduceIte] | ((first | apply Za | apply Zb | apply Zc | apply Zd | apply Ze | apply Zf | apply Zg | apply Zh) <;> intro hc) | refine Zi ?_ | refine Zj ?_)
        exact lp_next (i + 1) (Wk.cutk (k := 1) (by simp) (by simp) (by simp) (by simp [subT, look]) (by simp [AV.low, V.low, C1.low]) (by simp [Ob.low, C1.low])) ⟨by omega, g2 hin⟩ (by omega)
      rw [hin] at f3
      rw [g1 hin] at h
      have hc := Nat.zero_add 0
      repeat' (first | simp only [hc, AS, SX, l1, d1, c1, nn, w1, f3, ZZ, simprocAttr, ↓reduceIte] | ((first | apply Za | apply Zb | apply Zc | apply Zd | apply Ze | apply Zf | apply Zg | apply Zh) <;> intro hc) | refine Zi ?_ | refine Zj ?_)
      rw [← h]
    have c1 : ((i : Int) < (l.length : Int)) = False := eq_false (by omega)
    rw [List.take_of_length_le (by omega : l.length ≤ i)] at hn
    rw [hn] at h
    have hc := Nat.zero_add 0
    repeat' (first | simp only [hc, AS, SX, l1, c1, ZZ, simprocAttr, ↓reduceIte] | ((first | apply Za | apply Zb | apply Zc | apply Zd | apply Ze | apply Zf | apply Zg | apply Zh) <;> intro hc) | refine Zi ?_ | refine Zj ?_)
    rw [← h]
  cases h
theorem pvalid_at {p : Pmt} {s : List UInt8} {t : Int} (h1 : p.plates.length ≤ 1000000000) (h2 : p.hrs.length ≤ 1000000000) (h3 : s.length ≤ 1000000000) : pvalid_m [.agg p.row, .c (.str s), .c (.int .i64 t)] = some [.b (validP p s t)] := by
  have := mE_eq encPst_inj (g := fun p => if decide (p.1.1.plates.length ≤ 1000000000 ∧ p.1.1.hrs.length ≤ 1000000000 ∧ p.1.2.length ≤ 1000000000) = true then some [DV.b (validP p.1.1 p.1.2 p.2)] else none) (a := ((p, s), t))
  exact this.trans (if_pos (decide_eq_true ⟨h1, h2, h3⟩))
end
end Go.Ab
namespace Go.Ab
open Go.RowKit Go.Proofs
theorem slI_eq (o : Option (List Iv)) : slI o = .sl o.isNone ((o.getD []).map rwI) := by cases o <;> rfl
abbrev spO (w : Win) (i : Iv) : Option (List Iv) := (spansOf w.d w.f w.t i.1 i.2).1
def stepU (i : Iv) (o : Option (List Iv)) (w : Win) : Option (List Iv) := some (joinF (o.getD [] ++ (spO w i).getD []))
def hrsU (i : Iv) (hs : List Win) : Option (List Iv) := hs.foldl (stepU i) none
def allowF (p : Pmt) (s : List UInt8) (i : Iv) : Option (List Iv) × Int :=
  if daysErr i ≠ 0 then (none, daysErr i) else if listB p s = false then (none, 0) else if p.hrs = [] then (some (meetJ [i] [p.v]), 0)
  else (some (meetJ (meetJ [i] [p.v]) ((hrsU i p.hrs).getD [])), 0)
def stepC (s n : List UInt8) (i : Iv) (o : Option (List Iv)) (p : Pmt) : Option (List Iv) := if p.zone = n then some (joinF (o.getD [] ++ (allowF p s i).1.getD [])) else o
def covF (l : List Pmt) (s n : List UInt8) (i : Iv) : Option (List Iv) × Int := if daysErr i ≠ 0 then (none, daysErr i) else (l.foldl (stepC s n i) none, 0)
theorem spO_len {w : Win} {i : Iv} : ((spO w i).getD []).length ≤ 366 := by
  cases h : spO w i with
  | none => simp
  | some l => exact spans_len h
theorem hrsU_len {i : Iv} : ∀ {hs : List Win} {o : Option (List Iv)}, ((hs.foldl (stepU i) o).getD []).length ≤ (o.getD []).length + 366 * hs.length
  | [], o => by simp
  | w :: hs, o => by
    have h1 := @hrsU_len i hs (stepU i o w)
    have h2 : ((stepU i o w).getD []).length ≤ (o.getD []).length + 366 := by
      have h3 := @joinF_len (o.getD [] ++ (spO w i).getD [])
      have h4 := @spO_len w i
      rw [List.length_append] at h3
      show (joinF _).length ≤ _
      omega
    rw [List.foldl_cons, List.length_cons]
    omega
theorem meetJ_len {a b : List Iv} : (meetJ a b).length ≤ a.length + b.length := by
  have h1 := @meetF_len (joinF a) (joinF b)
  have h2 := @joinF_len a
  have h3 := @joinF_len b
  rw [meetJ]
  omega
theorem allowF_len {p : Pmt} {s : List UInt8} {i : Iv} : ((allowF p s i).1.getD []).length ≤ 2 + 366 * p.hrs.length := by
  unfold allowF
  split
  · simp
  split
  · simp
  split
  · have := @meetJ_len [i] [p.v]
    simp only [Option.getD_some, List.length_cons, List.length_nil] at this ⊢
    omega
  have h1 := @meetJ_len [i] [p.v]
  have h2 := @meetJ_len (meetJ [i] [p.v]) ((hrsU i p.hrs).getD [])
  have h3 := @hrsU_len i p.hrs none
  simp only [Option.getD_some, Option.getD_none, List.length_cons, List.length_nil, hrsU] at h1 h2 h3 ⊢
  omega
theorem covF_len {s n : List UInt8} {i : Iv} {m : Nat} : ∀ {l : List Pmt} {o : Option (List Iv)}, (∀ p ∈ l, p.hrs.length ≤ m) → ((l.foldl (stepC s n i) o).getD []).length ≤ (o.getD []).length + (2 + 366 * m) * l.length
  | [], o, _ => by simp
  | p :: l, o, h => by
    have h1 := @covF_len s n i m l (stepC s n i o p) fun q hq => h q (List.mem_cons_of_mem _ hq)
    have h2 : ((stepC s n i o p).getD []).length ≤ (o.getD []).length + (2 + 366 * m) := by
      unfold stepC
      split
      · have h3 := @joinF_len (o.getD [] ++ (allowF p s i).1.getD [])
        have h4 := @allowF_len p s i
        have h5 := h p List.mem_cons_self
        rw [List.length_append] at h3
        simp only [Option.getD_some]
        omega
      omega
    rw [List.foldl_cons, List.length_cons, Nat.mul_succ]
    omega
def encPmC (p : ((Bool × List Pmt) × List UInt8 × List UInt8) × Iv) : List PA := [.c (.sl p.1.1.1 (p.1.1.2.map Pmt.row)), .c (.str p.1.2.1), .c (.str p.1.2.2), .agg (rwI p.2)]
theorem encPmC_inj (a b : ((Bool × List Pmt) × List UInt8 × List UInt8) × Iv) (h : encPmC a = encPmC b) : a = b := by
  obtain ⟨⟨⟨a1, a2⟩, a3, a4⟩, a5⟩ := a
  obtain ⟨⟨⟨b1, b2⟩, b3, b4⟩, b5⟩ := b
  simp only [encPmC, List.cons.injEq, DV.c.injEq, DV.agg.injEq, D.sl.injEq, D.str.injEq, and_true] at h
  obtain ⟨⟨h1, h2⟩, h3, h4, h5⟩ := h
  rw [h1, mapPm_inj.1 h2, h3, h4, rwI_inj _ _ h5]
def pmtsOk (l : List Pmt) : Prop := l.length ≤ 100 ∧ ∀ p ∈ l, p.plates.length ≤ 1000000000 ∧ p.hrs.length ≤ 10
theorem cspans_at {w : Win} {i : Iv} : cspans_m [.agg w.row, .agg (rwI i)] = some [.c (.sl (spO w i).isNone (((spO w i).getD []).map rwI)), .i (daysErr i)] := by
  have : cspans_m [.agg w.row, .agg (rwI i)] = some [.c (slI (spO w i)), .i (spansOf w.d w.f w.t i.1 i.2).2] := rfl
  rw [this, slI_eq, spans_e]
noncomputable section
open Classical
def pallow_m : List PA → Option (List PA) := mE encPsv fun p => if p.1.1.plates.length ≤ 1000000000 ∧ p.1.1.hrs.length ≤ 1000 ∧ p.1.2.length ≤ 1000000000 then some [.c (.sl (allowF p.1.1 p.1.2 p.2).1.isNone (((allowF p.1.1 p.1.2 p.2).1.getD []).map rwI)), .i (allowF p.1.1 p.1.2 p.2).2] else none
def pcover_m : List PA → Option (List PA) := mE encPmC fun p => if pmtsOk p.1.1.2 ∧ p.1.2.1.length ≤ 1000000000 then some [.c (.sl (covF p.1.1.2 p.1.2.1 p.1.2.2 p.2).1.isNone (((covF p.1.1.2 p.1.2.1 p.1.2.2 p.2).1.getD []).map rwI)), .i (covF p.1.1.2 p.1.2.1 p.1.2.2 p.2).2] else none
set_option maxHeartbeats 1000000 in
theorem pallow_ok : PureC Tryz.prog Gt 104 pallow_m := by
  refine pure_of_awpS (X := ctx Tryz.prog Gt [(102, cspans_m), (53, plist_m), (106, smeet_m), (103, sunion_m)]) Tryz.func104 rfl rfl (by kernel_rfl) (by kernel_rfl) (AllOk.cons cspans_ok (AllOk.cons plist_ok (AllOk.cons smeet_ok (AllOk.cons sunion_ok AllOk.nil)))).kok ?_
  intro args r h0
  obtain ⟨⟨⟨p, s⟩, i⟩, rfl, h⟩ := mE_inv h0
  refine ⟨Nat.le_of_ble_eq_true rfl, ?_⟩
  split at h
  · rename_i hl
    dsimp only at hl h
    simp only [Option.some.injEq] at h
    have f1 := @cspans_at ⟨0, 0, 0⟩ i
    have f2 := @plist_at p s hl.1 hl.2.2
    have f3 := @smeet_at true true [i] [p.v] (by simp) (by simp)
    have n3 := @meetJ_len [i] [p.v]
    simp only [List.length_cons, List.length_nil] at n3
    have hA : allowF p s i = if daysErr i ≠ 0 then (none, daysErr i) else if listB p s = false then (none, 0) else if p.hrs = [] then (some (meetJ [i] [p.v]), 0) else (some (meetJ (meetJ [i] [p.v]) ((hrsU i p.hrs).getD [])), 0) := rfl
    rw [hA] at h
    clear hA
    have hcs := fun w : Win => @cspans_at w i
    generalize (spO ⟨0, 0, 0⟩ i).isNone = g0 at *
    generalize ((spO ⟨0, 0, 0⟩ i).getD []).map rwI = l0 at *
    obtain ⟨p1, p2, p3, p4, ⟨p5, p5'⟩, p6, l, p8⟩ := p
    obtain ⟨a, b⟩ := i
    dsimp only at h hl n3
    simp only [Pmt.row, rwI, Win.row, List.map_cons, List.map_nil] at f1 f2 f3
    have hl2 := hl.2.1
    generalize listB _ s = L at *
    generalize meetJ [(a, b)] [(p5, p5')] = T at *
    by_cases he : daysErr (a, b) = 0
    · rw [he] at f1
      rw [if_neg (by rw [he]; exact fun h => h rfl)] at h
      cases hL : L
      · subst hL
        rw [if_pos rfl] at h
        have hc := Nat.zero_add 0
        repeat' (first | simp only [hc, AS, Tryz.f104, encPsv, Pmt.row, rwI, SX, f1, f2, ZZ, simprocAttr, ↓reduceIte] | ((first | apply Za | apply Zb | apply Zc | apply Zd | apply Ze | apply Zf | apply Zg | apply Zh) <;> intro hc) | refine Zi ?_ | refine Zj ?_)
        rw [← h]
        rfl
      subst hL
      rw [if_neg (by decide)] at h
      have l1 := @lenWn l
      by_cases hnil : l = []
      · subst hnil
        rw [if_pos rfl] at h
        simp only [List.map_nil] at f2
        have hc := Nat.zero_add 0
        repeat' (first | simp only [hc, AS, Tryz.f104, encPsv, Pmt.row, rwI, SX, f1, f2, f3, List.map_nil, List.length_nil, ZZ, simprocAttr, ↓reduceIte] | ((first | apply Za | apply Zb | apply Zc | apply Zd | apply Ze | apply Zf | apply Zg | apply Zh) <;> intro hc) | refine Zi ?_ | refine Zj ?_)
        rw [← h]
        rfl
      have hpos : 0 < l.length := List.length_pos_iff.2 hnil
      have c0 : ((l.length : Int) = 0) = False := eq_false (by omega)
      rw [if_neg hnil] at h
      have hc := Nat.zero_add 0
      repeat' (first | simp only [hc, AS, Tryz.f104, encPsv, Pmt.row, rwI, SX, f1, f2, f3, l1, c0, ZZ, simprocAttr, ↓reduceIte] | ((first | apply Za | apply Zb | apply Zc | apply Zd | apply Ze | apply Zf | apply Zg | apply Zh) <;> intro hc) | refine Zi ?_ | refine Zj ?_)
      refine awpS_loop (σ := Nat) (fun k => k ≤ l.length)
        (fun k => ⟨[(43, AV.i k), (42, AV.i l.length), (41, AV.d (.sl p6 (l.map Win.row))), (11, AV.d (.sl ((l.take k).foldl (stepU (a, b)) none).isNone ((((l.take k).foldl (stepU (a, b)) none).getD []).map rwI))), (10, AV.d (.sl false (T.map rwI))), (5, .v (.c (.ptr 1 0)))], [.box [.d (.str p1), .d (.str p2), .d (.sl p3 (p4.map rowS)), .d (.int .i64 p5), .d (.int .i64 p5'), .d (.sl p6 (l.map Win.row)), .d (.int .i64 p8)], .box [.d (.int .i64 a), .d (.int .i64 b)]]⟩)
        (fun k => l.length - k) 0 (Wk.sub' (by simp [subT, look]) rfl) (Nat.zero_le _) ?_
      intro k hk
      have hlen := @hrsU_len (a, b) (l.take k) none
      simp only [List.length_take, Option.getD_none, List.length_nil] at hlen
      by_cases hkl : k < l.length
      · have d1 := wn_at hkl
        have c1 : ((k : Int) < (l.length : Int)) = True := eq_true (by omega)
        have w1 := wI (n := (k : Int) + 1) (by omega) (by omega)
        have hst : (l.take (k + 1)).foldl (stepU (a, b)) none = stepU (a, b) ((l.take k).foldl (stepU (a, b)) none) l[k] := foldl_take hkl
        have f4 := hcs l[k]
        rw [he] at f4
        have hsl := @spO_len l[k] (a, b)
        have f5 := @sunion_at ((l.take k).foldl (stepU (a, b)) none).isNone (spO l[k] (a, b)).isNone (((l.take k).foldl (stepU (a, b)) none).getD []) ((spO l[k] (a, b)).getD []) (by omega) (by omega)
        have hst2 : stepU (a, b) ((l.take k).foldl (stepU (a, b)) none) l[k] = some (joinF (((l.take k).foldl (stepU (a, b)) none).getD [] ++ (spO l[k] (a, b)).getD [])) := rfl
        rw [hst2] at hst
        clear hst2
        generalize (l.take k).foldl (stepU (a, b)) none = O at *
        generalize l[k] = w at *
        generalize spO w (a, b) = S at *
        obtain ⟨x, y, z⟩ := w
        dsimp only at d1
        simp only [Win.row, rwI] at f4
        have hc := Nat.zero_add 0
        repeat' (first | simp only [hc, AS, SX, l1, d1, c1, nn, w1, f4, f5, ZZ, simprocAttr, ↓reduceIte] | ((first | apply Za | apply Zb | apply Zc | apply Zd | apply Ze | apply Zf | apply Zg | apply Zh) <;> intro hc) | refine Zi ?_ | refine Zj ?_)
        refine lp_next (k + 1) ?_ (by omega) (by omega)
        rw [hst]
        exact Wk.cutk (k := 2) (by simp) (by simp) (by simp) (by simp [subT, look]) (by simp [AV.low, V.low, C1.low]) (by simp [Ob.low, C1.low])
      have c1 : ((k : Int) < (l.length : Int)) = False := eq_false (by omega)
      rw [List.take_of_length_le (by omega : l.length ≤ k)] at hlen ⊢
      have hU : l.foldl (stepU (a, b)) none = hrsU (a, b) l := rfl
      rw [hU] at hlen ⊢
      generalize hrsU (a, b) l = O at *
      have f4 := @smeet_at false O.isNone T (O.getD []) (by omega) (by omega)
      have hc := Nat.zero_add 0
      repeat' (first | simp only [hc, AS, SX, l1, c1, f4, ZZ, simprocAttr, ↓reduceIte] | ((first | apply Za | apply Zb | apply Zc | apply Zd | apply Ze | apply Zf | apply Zg | apply Zh) <;> intro hc) | refine Zi ?_ | refine Zj ?_)
      rw [← h]
      rfl
    have he' := eq_false he
    rw [if_pos he] at h
    have hc := Nat.zero_add 0
    repeat' (first | simp only [hc, AS, Tryz.f104, encPsv, Pmt.row, rwI, SX, f1, he', ZZ, simprocAttr, ↓reduceIte] | ((first | apply Za | apply Zb | apply Zc | apply Zd | apply Ze | apply Zf | apply Zg | apply Zh) <;> intro hc) | refine Zi ?_ | refine Zj ?_)
    rw [← h]
    rfl
  cases h
theorem pallow_at {p : Pmt} {s : List UInt8} {i : Iv} (h1 : p.plates.length ≤ 1000000000) (h2 : p.hrs.length ≤ 1000) (h3 : s.length ≤ 1000000000) :
    pallow_m [.agg p.row, .c (.str s), .agg (rwI i)] = some [.c (.sl (allowF p s i).1.isNone (((allowF p s i).1.getD []).map rwI)), .i (allowF p s i).2] := by
  have := mE_eq encPsv_inj (g := fun p => if p.1.1.plates.length ≤ 1000000000 ∧ p.1.1.hrs.length ≤ 1000 ∧ p.1.2.length ≤ 1000000000 then some [DV.c (.sl (allowF p.1.1 p.1.2 p.2).1.isNone (((allowF p.1.1 p.1.2 p.2).1.getD []).map rwI)), .i (allowF p.1.1 p.1.2 p.2).2] else none) (a := ((p, s), i))
  exact this.trans (if_pos ⟨h1, h2, h3⟩)
theorem allowF_e {p : Pmt} {s : List UInt8} {i : Iv} (h : daysErr i = 0) : (allowF p s i).2 = 0 := by
  unfold allowF
  rw [if_neg (fun e => e h)]
  split
  · rfl
  split <;> rfl
theorem lenPm {l : List Pmt} : ((l.map Pmt.row).length : Int) = l.length := by simp
theorem pm_at {l : List Pmt} {j : Nat} (h : j < l.length) : (l.map Pmt.row)[j]? = some [.str l[j].name, .str l[j].zone, .sl l[j].pf (l[j].plates.map rowS), .int .i64 l[j].v.1, .int .i64 l[j].v.2, .sl l[j].hf (l[j].hrs.map Win.row), .int .i64 l[j].most] := by simp [h, Pmt.row]
set_option maxHeartbeats 1000000 in
theorem pcover_ok : PureC Tryz.prog Gt 55 pcover_m := by
  refine pure_of_awpS (X := ctx Tryz.prog Gt [(102, cspans_m), (104, pallow_m), (103, sunion_m)]) Tryz.func55 rfl rfl (by kernel_rfl) (by kernel_rfl) (AllOk.cons cspans_ok (AllOk.cons pallow_ok (AllOk.cons sunion_ok AllOk.nil))).kok ?_
  intro args r h0
  obtain ⟨⟨⟨⟨f, l⟩, s, n⟩, i⟩, rfl, h⟩ := mE_inv h0
  refine ⟨Nat.le_of_ble_eq_true rfl, ?_⟩
  split at h
  · rename_i hl
    obtain ⟨⟨hl, hp⟩, hs⟩ := hl
    dsimp only at hl hp hs h
    simp only [Option.some.injEq] at h
    have f1 := @cspans_at ⟨0, 0, 0⟩ i
    generalize (spO ⟨0, 0, 0⟩ i).isNone = g0 at *
    generalize ((spO ⟨0, 0, 0⟩ i).getD []).map rwI = l0 at *
    have hA : covF l s n i = if daysErr i ≠ 0 then (none, daysErr i) else (l.foldl (stepC s n i) none, 0) := rfl
    rw [hA] at h
    clear hA
    obtain ⟨a, b⟩ := i
    simp only [rwI, Win.row] at f1
    have l1 := @lenPm l
    by_cases he : daysErr (a, b) = 0
    · rw [he] at f1
      rw [if_neg (by rw [he]; exact fun h => h rfl)] at h
      have hc := Nat.zero_add 0
      repeat' (first | simp only [hc, AS, Tryz.f55, encPmC, rwI, SX, f1, l1, ZZ, simprocAttr, ↓reduceIte] | ((first | apply Za | apply Zb | apply Zc | apply Zd | apply Ze | apply Zf | apply Zg | apply Zh) <;> intro hc) | refine Zi ?_ | refine Zj ?_)
      refine awpS_loop (σ := Nat) (fun k => k ≤ l.length)
        (fun k => ⟨[(28, AV.i k), (27, AV.i l.length), (26, AV.d (.sl f (l.map Pmt.row))), (12, AV.d (.sl ((l.take k).foldl (stepC s n (a, b)) none).isNone ((((l.take k).foldl (stepC s n (a, b)) none).getD []).map rwI))), (1, AV.s s), (2, AV.s n), (7, .v (.c (.ptr 0 0)))], [.box [.d (.int .i64 a), .d (.int .i64 b)]]⟩)
        (fun k => l.length - k) 0 (Wk.sub' (by simp [subT, look]) rfl) (Nat.zero_le _) ?_
      intro k hk
      have hlen := @covF_len s n (a, b) 10 (l.take k) none fun p hp' => (hp p (List.mem_of_mem_take hp')).2
      simp only [List.length_take, Option.getD_none, List.length_nil] at hlen
      by_cases hkl : k < l.length
      · have d1 := pm_at hkl
        have c1 : ((k : Int) < (l.length : Int)) = True := eq_true (by omega)
        have w1 := wI (n := (k : Int) + 1) (by omega) (by omega)
        have hst : (l.take (k + 1)).foldl (stepC s n (a, b)) none = stepC s n (a, b) ((l.take k).foldl (stepC s n (a, b)) none) l[k] := foldl_take hkl
        have hpk := hp l[k] (List.getElem_mem hkl)
        have f4 := @pallow_at l[k] s (a, b) hpk.1 (by omega) hs
        rw [allowF_e he] at f4
        have hal := @allowF_len l[k] s (a, b)
        have f5 := @sunion_at ((l.take k).foldl (stepC s n (a, b)) none).isNone (allowF l[k] s (a, b)).1.isNone (((l.take k).foldl (stepC s n (a, b)) none).getD []) ((allowF l[k] s (a, b)).1.getD []) (by omega) (by omega)
        have hst2 : stepC s n (a, b) ((l.take k).foldl (stepC s n (a, b)) none) l[k] = if l[k].zone = n then some (joinF (((l.take k).foldl (stepC s n (a, b)) none).getD [] ++ (allowF l[k] s (a, b)).1.getD [])) else (l.take k).foldl (stepC s n (a, b)) none := rfl
        rw [hst2] at hst
        clear hst2
        generalize (l.take k).foldl (stepC s n (a, b)) none = O at *
        generalize l[k] = p at *
        generalize (allowF p s (a, b)).1 = S at *
        obtain ⟨p1, p2, p3, p4, ⟨p5, p5'⟩, p6, hs', p8⟩ := p
        dsimp only at d1 hst
        simp only [Pmt.row, rwI] at f4
        by_cases hz : p2 = n
        · have b1 : (p2 == n) = true := by simp [hz]
          rw [if_pos hz] at hst
          have hc := Nat.zero_add 0
          repeat' (first | simp only [hc, AS, SX, l1, d1, c1, nn, w1, f4, f5, b1, ZZ, simprocAttr, ↓reduceIte] | ((first | apply Za | apply Zb | apply Zc | apply Zd | apply Ze | apply Zf | apply Zg | apply Zh) <;> intro hc) | refine Zi ?_ | refine Zj ?_)
          refine lp_next (k + 1) ?_ (by omega) (by omega)
          rw [hst]
          exact Wk.cutk (k := 1) (by simp) (by simp) (by simp) (by simp [subT, look]) (by simp [AV.low, V.low, C1.low]) (by simp [Ob.low, C1.low])
        have b1 : (p2 == n) = false := by simpa using hz
        rw [if_neg hz] at hst
        have hc := Nat.zero_add 0
        repeat' (first | simp only [hc, AS, SX, l1, d1, c1, nn, w1, b1, ZZ, simprocAttr, ↓reduceIte] | ((first | apply Za | apply Zb | apply Zc | apply Zd | apply Ze | apply Zf | apply Zg | apply Zh) <;> intro hc) | refine Zi ?_ | refine Zj ?_)
        refine lp_next (k + 1) ?_ (by omega) (by omega)
        rw [hst]
        exact Wk.cutk (k := 1) (by simp) (by simp) (by simp) (by simp [subT, look]) (by simp [AV.low, V.low, C1.low]) (by simp [Ob.low, C1.low])
      have c1 : ((k : Int) < (l.length : Int)) = False := eq_false (by omega)
      rw [List.take_of_length_le (by omega : l.length ≤ k)]
      have hc := Nat.zero_add 0
      repeat' (first | simp only [hc, AS, SX, l1, c1, ZZ, simprocAttr, ↓reduceIte] | ((first | apply Za | apply Zb | apply Zc | apply Zd | apply Ze | apply Zf | apply Zg | apply Zh) <;> intro hc) | refine Zi ?_ | refine Zj ?_)
      rw [← h]
    have he' := eq_false he
    rw [if_pos he] at h
    have hc := Nat.zero_add 0
    repeat' (first | simp only [hc, AS, Tryz.f55, encPmC, rwI, SX, f1, he', ZZ, simprocAttr, ↓reduceIte] | ((first | apply Za | apply Zb | apply Zc | apply Zd | apply Ze | apply Zf | apply Zg | apply Zh) <;> intro hc) | refine Zi ?_ | refine Zj ?_)
    rw [← h]
    rfl
  cases h
theorem pcover_at {f : Bool} {l : List Pmt} {s n : List UInt8} {i : Iv} (h1 : pmtsOk l) (h2 : s.length ≤ 1000000000) :
    pcover_m [.c (.sl f (l.map Pmt.row)), .c (.str s), .c (.str n), .agg (rwI i)] = some [.c (.sl (covF l s n i).1.isNone (((covF l s n i).1.getD []).map rwI)), .i (covF l s n i).2] := by
  have := mE_eq encPmC_inj (g := fun p => if pmtsOk p.1.1.2 ∧ p.1.2.1.length ≤ 1000000000 then some [DV.c (.sl (covF p.1.1.2 p.1.2.1 p.1.2.2 p.2).1.isNone (((covF p.1.1.2 p.1.2.1 p.1.2.2 p.2).1.getD []).map rwI)), .i (covF p.1.1.2 p.1.2.1 p.1.2.2 p.2).2] else none) (a := (((f, l), s, n), i))
  exact this.trans (if_pos ⟨h1, h2⟩)
end
end Go.Ab
