/-
  Texts of the layer and of the laws, put together: AbJ28, AbJ40, AbJ41.
-/
import Derived.Test.YtdoofgbeajkpaaaGreatDoorAbWP40
import Derived.Test.YtdoofgbeajkpaaaGreatDoorAbWP28
import Derived.Test.YtdoofgbeajkpaaaGreatDoorAbWP37
import Derived.Test.YtdoofgbeajkpaaaGreatDoorAbWP22
set_option linter.unusedSimpArgs false
set_option linter.unusedVariables false
set_option maxRecDepth 100000
namespace Go.Ab
open Go.RowKit Go.Proofs
def ckA : List Zon → List Zon → Int
  | _, [] => 0
  | d, z :: r => if z.err ≠ 0 then z.err else if d.any (fun y => y.name == z.name) = true then 9 else ckA (d ++ [z]) r
def ckAllF (l : List Zon) : Int := if (l.length : Int) > 1024 then 3 else ckA [] l
def encZl (p : Bool × List Zon) : List PA := [.c (.sl p.1 (p.2.map Zon.row))]
theorem encZl_inj (a b : Bool × List Zon) (h : encZl a = encZl b) : a = b := by
  obtain ⟨a1, a2⟩ := a
  obtain ⟨b1, b2⟩ := b
  simp only [encZl, List.cons.injEq, DV.c.injEq, D.sl.injEq, and_true] at h
  rw [h.1, mapZn_inj.1 h.2]
noncomputable section
open Classical
def r6all_m : List PA → Option (List PA) := mE encZl fun p => if zonesOkW p.2 then some [.i (ckAllF p.2)] else none
set_option maxHeartbeats 1000000 in
theorem r6all_ok : PureC Tryz.prog Gt 41 r6all_m := by
  refine pure_of_awpS (X := ctx Tryz.prog Gt [(68, zrcheck_m)]) Tryz.func41 rfl rfl (by kernel_rfl) (by kernel_rfl) (AllOk.cons zrcheck_ok AllOk.nil).kok ?_
  intro args r h0
  obtain ⟨⟨f, l⟩, rfl, h⟩ := mE_inv h0
  refine ⟨Nat.le_of_ble_eq_true rfl, ?_⟩
  split at h
  · rename_i hok
    dsimp only at hok h
    simp only [Option.some.injEq] at h
    have l1 := @lenZn l
    have hl := hok.1
    unfold ckAllF at h
    by_cases c0 : (l.length : Int) > 1024
    · have c0' := eq_true c0
      rw [if_pos c0] at h
      have hc := Nat.zero_add 0
      repeat' (first | simp only [hc, AS, Tryz.f41, encZl, SX, l1, c0', ZZ, simprocAttr, ↓reduceIte] | ((first | apply Za | apply Zb | apply Zc | apply Zd | apply Ze | apply Zf | apply Zg | apply Zh) <;> intro hc) | refine Zi ?_ | refine Zj ?_)
      rw [← h]
    have c0' := eq_false c0
    rw [if_neg c0] at h
    generalize hR : ckA [] l = R at *
    have hc := Nat.zero_add 0
    repeat' (first | simp only [hc, AS, Tryz.f41, encZl, SX, l1, c0', ZZ, simprocAttr, ↓reduceIte] | ((first | apply Za | apply Zb | apply Zc | apply Zd | apply Ze | apply Zf | apply Zg | apply Zh) <;> intro hc) | refine Zi ?_ | refine Zj ?_)
    refine awpS_loop (σ := Nat) (fun k => k ≤ l.length ∧ R = ckA (l.take k) (l.drop k))
      (fun k => ⟨[(3, AV.i k), (0, AV.d (.sl f (l.map Zon.row)))], []⟩)
      (fun k => l.length - k) 0 (Wk.sub' (by simp [subT, look]) rfl) ⟨Nat.zero_le _, hR.symm⟩ ?_
    rintro k ⟨hk, hRk⟩
    by_cases hkl : k < l.length
    · have e1 := zn_at hkl
      have c1 : ((k : Int) < (l.length : Int)) = True := eq_true (by omega)
      have w1 := wI (n := (k : Int) + 1) (by omega) (by omega)
      have hzo := hok.2 l[k] (List.getElem_mem hkl)
      have f1 := @zrcheck_at l[k] hzo.2
      simp only [Zon.row] at f1
      rw [List.drop_eq_getElem_cons hkl, ckA, ← List.take_succ_eq_append_getElem hkl] at hRk
      by_cases d1 : l[k].err = 0
      · have d1' := eq_true d1
        rw [if_neg (by simp [d1])] at hRk
        have hc := Nat.zero_add 0
        repeat' (first | simp only [hc, AS, SX, l1, e1, c1, nn, f1, d1', bne, ZZ, simprocAttr, ↓reduceIte] | ((first | apply Za | apply Zb | apply Zc | apply Zd | apply Ze | apply Zf | apply Zg | apply Zh) <;> intro hc) | refine Zi ?_ | refine Zj ?_)
        refine awpS_loop (σ := Nat) (fun j => j ≤ k ∧ (l.take j).any (fun y => y.name == l[k].name) = false)
          (fun j => ⟨[(5, AV.i j), (3, AV.i k), (0, AV.d (.sl f (l.map Zon.row)))], []⟩)
          (fun j => k - j) 0 (Wk.sub' (by simp [subT, look]) rfl) ⟨Nat.zero_le _, rfl⟩ ?_
        rintro j ⟨hj, hjn⟩
        by_cases hjk : j < k
        · have hjl : j < l.length := by omega
          have e2 := zn_at hjl
          have c2 : ((j : Int) < (k : Int)) = True := eq_true (by omega)
          have w2 := wI (n := (j : Int) + 1) (by omega) (by omega)
          have hnx : (l.take (j + 1)).any (fun y => y.name == l[k].name) = (l[j].name == l[k].name) := by
            rw [List.take_succ_eq_append_getElem hjl, List.any_append, hjn]
            simp
          by_cases d2 : (l[j].name == l[k].name) = true
          · have hany : (l.take k).any (fun y => y.name == l[k].name) = true := by
              rw [d2] at hnx
              obtain ⟨y, hy, hy2⟩ := List.any_eq_true.1 hnx
              exact List.any_eq_true.2 ⟨y, (List.take_subset_take_left l (by omega : j + 1 ≤ k)) hy, hy2⟩
            rw [if_pos hany] at hRk
            have hc := Nat.zero_add 0
            repeat' (first | simp only [hc, AS, SX, l1, e1, e2, c2, nn, w2, d2, ZZ, simprocAttr, ↓reduceIte] | ((first | apply Za | apply Zb | apply Zc | apply Zd | apply Ze | apply Zf | apply Zg | apply Zh) <;> intro hc) | refine Zi ?_ | refine Zj ?_)
            rw [← h, hRk]
          have d2 : (l[j].name == l[k].name) = false := by simpa using d2
          have hc := Nat.zero_add 0
          repeat' (first | simp only [hc, AS, SX, l1, e1, e2, c2, nn, w2, d2, ZZ, simprocAttr, ↓reduceIte] | ((first | apply Za | apply Zb | apply Zc | apply Zd | apply Ze | apply Zf | apply Zg | apply Zh) <;> intro hc) | refine Zi ?_ | refine Zj ?_)
          exact lp_next (j + 1) (Wk.sub' (by simp [subT, look]) rfl) ⟨by omega, by rw [hnx]; exact d2⟩ (by omega)
        have hjk' : j = k := by omega
        subst hjk'
        have c2 : ((j : Int) < (j : Int)) = False := eq_false (by omega)
        rw [if_neg (by rw [hjn]; decide)] at hRk
        have hc := Nat.zero_add 0
        repeat' (first | simp only [hc, AS, SX, l1, c2, w1, ZZ, simprocAttr, ↓reduceIte] | ((first | apply Za | apply Zb | apply Zc | apply Zd | apply Ze | apply Zf | apply Zg | apply Zh) <;> intro hc) | refine Zi ?_ | refine Zj ?_)
        exact lp_next (j + 1) (Wk.sub' (by simp [subT, look]) rfl) ⟨by omega, hRk⟩ (by omega)
      have d1' := eq_false d1
      rw [if_pos d1] at hRk
      have hc := Nat.zero_add 0
      repeat' (first | simp only [hc, AS, SX, l1, e1, c1, nn, f1, d1', bne, ZZ, simprocAttr, ↓reduceIte] | ((first | apply Za | apply Zb | apply Zc | apply Zd | apply Ze | apply Zf | apply Zg | apply Zh) <;> intro hc) | refine Zi ?_ | refine Zj ?_)
      rw [← h, hRk]
    have c1 : ((k : Int) < (l.length : Int)) = False := eq_false (by omega)
    rw [List.drop_eq_nil_of_le (by omega), ckA] at hRk
    have hc := Nat.zero_add 0
    repeat' (first | simp only [hc, AS, SX, l1, c1, ZZ, simprocAttr, ↓reduceIte] | ((first | apply Za | apply Zb | apply Zc | apply Zd | apply Ze | apply Zf | apply Zg | apply Zh) <;> intro hc) | refine Zi ?_ | refine Zj ?_)
    rw [← h, hRk]
  cases h
end
end Go.Ab
namespace Go.Ab
open Go.RowKit Go.Proofs
def plsA : List (List UInt8) → List (List UInt8) → Int
  | _, [] => 0
  | d, x :: r => if plateB x = false then 19 else if d.any (· == x) = true then 9 else plsA (d ++ [x]) r
def pchkF (zs : List Zon) (p : Pmt) : Int :=
  if nameB p.name = false then 6 else match findZ zs p.zone with
  | none => 23
  | some _ => if (p.plates.length : Int) > 1024 then 3 else if plsA [] p.plates ≠ 0 then plsA [] p.plates else if ivOk p.v = false then 12
    else if (p.hrs.length : Int) > 32 then 3 else if p.hrs.all Win.ok = false then 12 else if p.most < 1 ∨ p.most > 2147483648 then 1 else 0
def encPmZ (p : Pmt × (Bool × List Zon)) : List PA := [.agg p.1.row, .c (.sl p.2.1 (p.2.2.map Zon.row))]
theorem encPmZ_inj (a b : Pmt × (Bool × List Zon)) (h : encPmZ a = encPmZ b) : a = b := by
  obtain ⟨a1, a2, a3⟩ := a
  obtain ⟨b1, b2, b3⟩ := b
  simp only [encPmZ, List.cons.injEq, DV.c.injEq, DV.agg.injEq, D.sl.injEq, and_true] at h
  rw [Pmt.inj _ _ h.1, h.2.1, mapZn_inj.1 h.2.2]
def pchkOk (p : Pmt × (Bool × List Zon)) : Prop := zonesOkW p.2.2 ∧ ∀ x ∈ p.1.plates, x.length ≤ 140737488351232
theorem allOk_take {l : List Win} {i : Nat} (hi : i < l.length) (h : (l.take i).all Win.ok = true) : (Win.ok l[i] = false → l.all Win.ok = false) ∧ (Win.ok l[i] = true → (l.take (i + 1)).all Win.ok = true) :=
  ⟨fun hx => by
    rw [List.all_eq_false]
    exact ⟨l[i], List.getElem_mem hi, by simp [hx]⟩, fun hx => by
    rw [List.take_succ_eq_append_getElem hi, List.all_append, h]
    simp [hx]⟩
noncomputable section
open Classical
def r9chk_m : List PA → Option (List PA) := mE encPmZ fun p => if pchkOk p then some [.i (pchkF p.2.2 p.1)] else none
set_option maxHeartbeats 4000000 in
theorem r9chk_ok : PureC Tryz.prog Gt 42 r9chk_m := by
  refine pure_of_awpS (X := ctx Tryz.prog Gt [(76, zrname_m), (67, zrfindW_m), (69, rpnormW_m), (77, r9amg_m), (78, r6span_m), (79, zrwin_m)]) Tryz.func42 rfl rfl (by kernel_rfl) (by kernel_rfl) (AllOk.cons zrname_ok (AllOk.cons zrfindW_ok (AllOk.cons rpnormW_ok (AllOk.cons r9amg_ok (AllOk.cons r6span_ok (AllOk.cons zrwin_ok AllOk.nil)))))).kok ?_
  intro args r h0
  obtain ⟨⟨⟨nm, zn, pf, P, ⟨a, b⟩, hf, H, most⟩, f, zs⟩, rfl, h⟩ := mE_inv h0
  refine ⟨Nat.le_of_ble_eq_true rfl, ?_⟩
  split at h
  · rename_i hok
    obtain ⟨hzs, hPx⟩ := hok
    dsimp only at hzs hPx h
    simp only [Option.some.injEq] at h
    have f1 := @zrname_at nm
    have f2 := @zrfindW_at f zs zn hzs
    have f3 := @r6span_at (a, b)
    simp only [rwI] at f3
    have l1 := @lenTx P
    have l2 := @lenWn H
    have hR : pchkF zs ⟨nm, zn, pf, P, (a, b), hf, H, most⟩ = if nameB nm = false then 6 else match findZ zs zn with
      | none => 23
      | some _ => if (P.length : Int) > 1024 then 3 else if plsA [] P ≠ 0 then plsA [] P else if ivOk (a, b) = false then 12
        else if (H.length : Int) > 32 then 3 else if H.all Win.ok = false then 12 else if most < 1 ∨ most > 2147483648 then 1 else 0 := rfl
    generalize pchkF _ _ = R at *
    cases c1 : nameB nm
    · rw [c1] at f1 hR
      rw [if_pos rfl] at hR
      subst hR
      have hc := Nat.zero_add 0
      repeat' (first | simp only [hc, AS, Tryz.f42, encPmZ, Pmt.row, SX, f1, ZZ, simprocAttr, ↓reduceIte] | ((first | apply Za | apply Zb | apply Zc | apply Zd | apply Ze | apply Zf | apply Zg | apply Zh) <;> intro hc) | refine Zi ?_ | refine Zj ?_)
      rw [← h]
    rw [c1] at f1 hR
    rw [if_neg (by decide)] at hR
    cases hfz : findZ zs zn with
    | none =>
      rw [hfz] at hR
      dsimp only at hR
      subst hR
      simp only [findR, hfz, Zon.row, Zon.nil, List.map_nil] at f2
      have hc := Nat.zero_add 0
      repeat' (first | simp only [hc, AS, Tryz.f42, encPmZ, Pmt.row, SX, f1, f2, ZZ, simprocAttr, ↓reduceIte] | ((first | apply Za | apply Zb | apply Zc | apply Zd | apply Ze | apply Zf | apply Zg | apply Zh) <;> intro hc) | refine Zi ?_ | refine Zj ?_)
      rw [← h]
    | some z =>
    rw [hfz] at hR
    dsimp only at hR
    simp only [findR, hfz, Zon.row, id] at f2
    by_cases c2 : (P.length : Int) > 1024
    · have c2' := eq_true c2
      rw [if_pos c2] at hR
      subst hR
      have hc := Nat.zero_add 0
      repeat' (first | simp only [hc, AS, Tryz.f42, encPmZ, Pmt.row, SX, f1, f2, l1, c2', ZZ, simprocAttr, ↓reduceIte] | ((first | apply Za | apply Zb | apply Zc | apply Zd | apply Ze | apply Zf | apply Zg | apply Zh) <;> intro hc) | refine Zi ?_ | refine Zj ?_)
      rw [← h]
    have c2' := eq_false c2
    rw [if_neg c2] at hR
    generalize hA : plsA [] P = A at *
    have hc := Nat.zero_add 0
    repeat' (first | simp only [hc, AS, Tryz.f42, encPmZ, Pmt.row, SX, f1, f2, l1, c2', ZZ, simprocAttr, ↓reduceIte] | ((first | apply Za | apply Zb | apply Zc | apply Zd | apply Ze | apply Zf | apply Zg | apply Zh) <;> intro hc) | refine Zi ?_ | refine Zj ?_)
    refine awpS_loop (σ := Nat) (fun i => i ≤ P.length ∧ A = plsA (P.take i) (P.drop i))
      (fun i => ⟨[(7, AV.i i), (2, .v (.c (.ptr 0 0)))], [.box [.d (.str nm), .d (.str zn), .d (.sl pf (P.map rowS)), .d (.int .i64 a), .d (.int .i64 b), .d (.sl hf (H.map Win.row)), .d (.int .i64 most)], .box [.d (.str z.name), .d (.sl z.hf (z.hrs.map Win.row)), .d (.sl z.sf (z.sts.map Stf.row)), .d (.int .i64 z.grace), .d (.int .i64 z.free), .d (.int .i64 z.dmax), .d (.int .i64 z.stay)]]⟩)
      (fun i => P.length - i) 0 (Wk.sub' (by simp [subT, look]) rfl) ⟨Nat.zero_le _, hA.symm⟩ ?_
    rintro i ⟨hi, hAi⟩
    by_cases hil : i < P.length
    · have e1 := tx_at hil
      have c3 : ((i : Int) < (P.length : Int)) = True := eq_true (by omega)
      have w1 := wI (n := (i : Int) + 1) (by omega) (by omega)
      have f4 := @rpnormW_at P[i] (hPx _ (List.getElem_mem hil))
      obtain ⟨F, q1⟩ : ∃ F, slX (pf && decide ((i : Int) = P.length)) 1 (P.map rowS) 0 (i : Int) = some (.sl F ((P.take i).map rowS)) := by
        rw [slX_ok (eq_true (by simp [allLen, rowS])) (eq_true (by omega)) (eq_true (by omega)) (eq_true (by simp; omega))]
        exact ⟨_, by simp [List.map_take]; rfl⟩
      have f5 := @r9amg_at F (P.take i) P[i] (by simp; omega)
      have hpl : plateB P[i] = decide ((plF P[i]).2 = 0 ∧ (plF P[i]).1 = P[i]) := rfl
      rw [List.drop_eq_getElem_cons hil, plsA, ← List.take_succ_eq_append_getElem hil] at hAi
      generalize (plF P[i]).1 = q1' at *
      generalize (plF P[i]).2 = q2 at *
      generalize (P.take i).any (· == P[i]) = B at *
      generalize P[i] = x at *
      by_cases d1 : q2 = 0
      · subst d1
        by_cases d2 : q1' = x
        · subst d2
          have d2' : (q1' == q1') = true := by simp
          rw [if_neg (by rw [hpl]; simp)] at hAi
          cases B
          · rw [if_neg (by decide)] at hAi
            have hc := Nat.zero_add 0
            repeat' (first | simp only [hc, AS, SX, l1, e1, c3, nn, w1, f4, d2', bne, sla_eq, slT_sl, slZ_some, q1, f5, ZZ, simprocAttr, ↓reduceIte] | ((first | apply Za | apply Zb | apply Zc | apply Zd | apply Ze | apply Zf | apply Zg | apply Zh) <;> intro hc) | refine Zi ?_ | refine Zj ?_)
            exact lp_next (i + 1) (Wk.sub' (by simp [subT, look]) rfl) ⟨by omega, hAi⟩ (by omega)
          rw [if_pos rfl] at hAi
          subst hAi
          rw [if_pos (by decide)] at hR
          subst hR
          have hc := Nat.zero_add 0
          repeat' (first | simp only [hc, AS, SX, l1, e1, c3, nn, w1, f4, d2', bne, sla_eq, slT_sl, slZ_some, q1, f5, ZZ, simprocAttr, ↓reduceIte] | ((first | apply Za | apply Zb | apply Zc | apply Zd | apply Ze | apply Zf | apply Zg | apply Zh) <;> intro hc) | refine Zi ?_ | refine Zj ?_)
          rw [← h]
        have d2' : (q1' == x) = false := by simpa using d2
        rw [if_pos (by rw [hpl]; simp [d2])] at hAi
        subst hAi
        rw [if_pos (by decide)] at hR
        subst hR
        have hc := Nat.zero_add 0
        repeat' (first | simp only [hc, AS, SX, l1, e1, c3, nn, w1, f4, d2', bne, ZZ, simprocAttr, ↓reduceIte] | ((first | apply Za | apply Zb | apply Zc | apply Zd | apply Ze | apply Zf | apply Zg | apply Zh) <;> intro hc) | refine Zi ?_ | refine Zj ?_)
        rw [← h]
      have d1' := eq_false d1
      rw [if_pos (by rw [hpl]; simp [d1])] at hAi
      subst hAi
      rw [if_pos (by decide)] at hR
      subst hR
      have hc := Nat.zero_add 0
      repeat' (first | simp only [hc, AS, SX, l1, e1, c3, nn, w1, f4, d1', bne, ZZ, simprocAttr, ↓reduceIte] | ((first | apply Za | apply Zb | apply Zc | apply Zd | apply Ze | apply Zf | apply Zg | apply Zh) <;> intro hc) | refine Zi ?_ | refine Zj ?_)
      rw [← h]
    have c3 : ((i : Int) < (P.length : Int)) = False := eq_false (by omega)
    rw [List.drop_eq_nil_of_le (by omega : P.length ≤ i), plsA] at hAi
    subst hAi
    rw [if_neg (by decide)] at hR
    generalize ivOk (a, b) = v at *
    cases v
    · rw [if_pos rfl] at hR
      subst hR
      have hc := Nat.zero_add 0
      repeat' (first | simp only [hc, AS, SX, l1, c3, f3, ZZ, simprocAttr, ↓reduceIte] | ((first | apply Za | apply Zb | apply Zc | apply Zd | apply Ze | apply Zf | apply Zg | apply Zh) <;> intro hc) | refine Zi ?_ | refine Zj ?_)
      rw [← h]
    rw [if_neg (by decide)] at hR
    by_cases c4 : (H.length : Int) > 32
    · have c4' := eq_true c4
      rw [if_pos c4] at hR
      subst hR
      have hc := Nat.zero_add 0
      repeat' (first | simp only [hc, AS, SX, l1, c3, f3, l2, c4', ZZ, simprocAttr, ↓reduceIte] | ((first | apply Za | apply Zb | apply Zc | apply Zd | apply Ze | apply Zf | apply Zg | apply Zh) <;> intro hc) | refine Zi ?_ | refine Zj ?_)
      rw [← h]
    have c4' := eq_false c4
    rw [if_neg c4] at hR
    have hc := Nat.zero_add 0
    repeat' (first | simp only [hc, AS, SX, l1, c3, f3, l2, c4', ZZ, simprocAttr, ↓reduceIte] | ((first | apply Za | apply Zb | apply Zc | apply Zd | apply Ze | apply Zf | apply Zg | apply Zh) <;> intro hc) | refine Zi ?_ | refine Zj ?_)
    refine awpS_loop (σ := Nat) (fun i => i ≤ H.length ∧ (H.take i).all Win.ok = true)
      (fun i => ⟨[(10, AV.i i), (2, .v (.c (.ptr 0 0)))], [.box [.d (.str nm), .d (.str zn), .d (.sl pf (P.map rowS)), .d (.int .i64 a), .d (.int .i64 b), .d (.sl hf (H.map Win.row)), .d (.int .i64 most)], .box [.d (.str z.name), .d (.sl z.hf (z.hrs.map Win.row)), .d (.sl z.sf (z.sts.map Stf.row)), .d (.int .i64 z.grace), .d (.int .i64 z.free), .d (.int .i64 z.dmax), .d (.int .i64 z.stay)]]⟩)
      (fun i => H.length - i) 0 (Wk.sub' (by simp [subT, look]) rfl) ⟨Nat.zero_le _, rfl⟩ ?_
    rintro j ⟨hj, hn⟩
    by_cases hjl : j < H.length
    · have d1 := wn_at hjl
      have c5 : ((j : Int) < (H.length : Int)) = True := eq_true (by omega)
      have w1 := wI (n := (j : Int) + 1) (by omega) (by omega)
      obtain ⟨g1, g2⟩ := allOk_take hjl hn
      have hWk : Win.ok H[j] = validB H[j].d H[j].f H[j].t := rfl
      have f6 := @zrwin_at H[j].d H[j].f H[j].t
      generalize H[j] = y at *
      obtain ⟨ya, yb, yc⟩ := y
      dsimp only at d1 f6 hWk
      rw [hWk] at g1 g2
      cases hin : validB ya yb yc
      · rw [hin] at f6
        rw [if_pos (g1 hin)] at hR
        subst hR
        have hc := Nat.zero_add 0
        repeat' (first | simp only [hc, AS, SX, l2, d1, c5, nn, w1, f6, ZZ, simprocAttr, ↓reduceIte] | ((first | apply Za | apply Zb | apply Zc | apply Zd | apply Ze | apply Zf | apply Zg | apply Zh) <;> intro hc) | refine Zi ?_ | refine Zj ?_)
        rw [← h]
      rw [hin] at f6
      have hc := Nat.zero_add 0
      repeat' (first | simp only [hc, AS, SX, l2, d1, c5, nn, w1, f6, ZZ, simprocAttr, ↓reduceIte] | ((first | apply Za | apply Zb | apply Zc | apply Zd | apply Ze | apply Zf | apply Zg | apply Zh) <;> intro hc) | refine Zi ?_ | refine Zj ?_)
      exact lp_next (j + 1) (Wk.cutk (k := 2) (by simp) (by simp) (by simp) (by simp [subT, look]) (by simp [AV.low, V.low, C1.low]) (by simp [Ob.low, C1.low])) ⟨by omega, g2 hin⟩ (by omega)
    have c5 : ((j : Int) < (H.length : Int)) = False := eq_false (by omega)
    rw [List.take_of_length_le (by omega : H.length ≤ j)] at hn
    rw [if_neg (by rw [hn]; decide)] at hR
    by_cases m1 : most < 1
    · have m1' := eq_true m1
      rw [if_pos (.inl m1)] at hR
      subst hR
      have hc := Nat.zero_add 0
      repeat' (first | simp only [hc, AS, SX, l2, c5, m1', ZZ, simprocAttr, ↓reduceIte] | ((first | apply Za | apply Zb | apply Zc | apply Zd | apply Ze | apply Zf | apply Zg | apply Zh) <;> intro hc) | refine Zi ?_ | refine Zj ?_)
      rw [← h]
    by_cases m2 : most > 2147483648
    · have m1' := eq_false m1
      have m2' := eq_true m2
      rw [if_pos (.inr m2)] at hR
      subst hR
      have hc := Nat.zero_add 0
      repeat' (first | simp only [hc, AS, SX, l2, c5, m1', m2', ZZ, simprocAttr, ↓reduceIte] | ((first | apply Za | apply Zb | apply Zc | apply Zd | apply Ze | apply Zf | apply Zg | apply Zh) <;> intro hc) | refine Zi ?_ | refine Zj ?_)
      rw [← h]
    have m1' := eq_false m1
    have m2' := eq_false m2
    rw [if_neg (by omega)] at hR
    subst hR
    have hc := Nat.zero_add 0
    repeat' (first | simp only [hc, AS, SX, l2, c5, m1', m2', ZZ, simprocAttr, ↓reduceIte] | ((first | apply Za | apply Zb | apply Zc | apply Zd | apply Ze | apply Zf | apply Zg | apply Zh) <;> intro hc) | refine Zi ?_ | refine Zj ?_)
    rw [← h]
  cases h
theorem r9chk_at {f : Bool} {p : Pmt} {zs : List Zon} (h : pchkOk (p, f, zs)) : r9chk_m [.agg p.row, .c (.sl f (zs.map Zon.row))] = some [.i (pchkF zs p)] := by
  have := mE_eq encPmZ_inj (g := fun p => if pchkOk p then some [DV.i (pchkF p.2.2 p.1)] else none) (a := (p, f, zs))
  exact this.trans (if_pos h)
end
end Go.Ab
namespace Go.Ab
open Go.RowKit Go.Proofs
def fewZn (z : Zon) : Bool := decide (z.hrs.length ≤ 4) && decide (z.sts.length ≤ 4)
def fewPm (zs : List Zon) (p : Pmt) : Bool := decide (p.plates.length ≤ 4) && (decide (p.hrs.length ≤ 4) && decide (pchkF zs p = 0))
def fewPr (zs : List Zon) (p : Par) : Bool := decide (p.time ≤ 5184000) && (decide (p.til ≤ 5184000) && decide (errP zs p = 0))
def parkV (zs : List Zon) (ps : List Pmt) (es : List Par) : Bool :=
  if zs.length > 3 ∨ ps.length > 4 ∨ es.length > 14 ∨ ckAllF zs ≠ 0 then false else zs.all fewZn && (ps.all (fewPm zs) && es.all (fewPr zs))
def encPk (p : (Bool × List Zon) × (Bool × List Pmt) × (Bool × List Par)) : List PA := [.c (.sl p.1.1 (p.1.2.map Zon.row)), .c (.sl p.2.1.1 (p.2.1.2.map Pmt.row)), .c (.sl p.2.2.1 (p.2.2.2.map Par.row))]
theorem encPk_inj (a b : (Bool × List Zon) × (Bool × List Pmt) × (Bool × List Par)) (h : encPk a = encPk b) : a = b := by
  obtain ⟨⟨a1, a2⟩, ⟨a3, a4⟩, a5, a6⟩ := a
  obtain ⟨⟨b1, b2⟩, ⟨b3, b4⟩, b5, b6⟩ := b
  simp only [encPk, List.cons.injEq, DV.c.injEq, D.sl.injEq, and_true] at h
  obtain ⟨⟨h1, h2⟩, ⟨h3, h4⟩, h5, h6⟩ := h
  rw [h1, mapZn_inj.1 h2, h3, mapPm_inj.1 h4, h5, mapP_inj.1 h6]
def parkOk (p : (Bool × List Zon) × (Bool × List Pmt) × (Bool × List Par)) : Prop :=
  zonesOkW p.1.2 ∧ (∀ x ∈ p.2.1.2, ∀ y ∈ x.plates, y.length ≤ 140737488351232) ∧ ∀ x ∈ p.2.2.2, x.OkW
theorem all_take {α : Type} {q : α → Bool} {l : List α} {i : Nat} (hi : i < l.length) (h : (l.take i).all q = true) : (q l[i] = false → l.all q = false) ∧ (q l[i] = true → (l.take (i + 1)).all q = true) :=
  ⟨fun hx => by
    rw [List.all_eq_false]
    exact ⟨l[i], List.getElem_mem hi, by simp [hx]⟩, fun hx => by
    rw [List.take_succ_eq_append_getElem hi, List.all_append, h]
    simp [hx]⟩
theorem park_small {zs : List Zon} {ps : List Pmt} {es : List Par} (hes : ∀ x ∈ es, x.OkW) (h : parkV zs ps es = true) : zonesOk zs ∧ ∀ x ∈ es, x.Ok := by
  unfold parkV at h
  split at h
  · cases h
  rename_i hn
  simp only [Bool.and_eq_true, List.all_eq_true] at h
  obtain ⟨h1, _, h3⟩ := h
  refine ⟨⟨by omega, fun z hz => ?_⟩, fun x hx => ?_⟩
  · have := h1 z hz
    simp only [fewZn, Bool.and_eq_true, decide_eq_true_eq] at this
    exact ⟨by omega, by omega⟩
  have := h3 x hx
  simp only [fewPr, Bool.and_eq_true, decide_eq_true_eq] at this
  exact errP_small (hes x hx) this.2.2
noncomputable section
open Classical
theorem r6all_at {f : Bool} {l : List Zon} (h : zonesOkW l) : r6all_m [.c (.sl f (l.map Zon.row))] = some [.i (ckAllF l)] := by
  have := mE_eq encZl_inj (g := fun p => if zonesOkW p.2 then some [DV.i (ckAllF p.2)] else none) (a := (f, l))
  exact this.trans (if_pos h)
theorem r7chk_at {p : Par} {f : Bool} {l : List Zon} (h : zonesOkW l) (hp : p.OkW) : r7checkW_m [.agg p.row, .c (.sl f (l.map Zon.row))] = some [.i (errP l p)] := by
  have := mE_eq encPZs_inj (g := fun p => if zonesOkW p.2.2 ∧ p.1.OkW then some [DV.i (errP p.2.2 p.1)] else none) (a := (p, f, l))
  exact this.trans (if_pos ⟨h, hp⟩)
def parkin_m : List PA → Option (List PA) := mE encPk fun p => if parkOk p then some [.b (parkV p.1.2 p.2.1.2 p.2.2.2)] else none
set_option maxHeartbeats 4000000 in
theorem parkin_ok : PureC Tryz.prog Gt 12 parkin_m := by
  refine pure_of_awpS (X := ctx Tryz.prog Gt [(41, r6all_m), (42, r9chk_m), (43, r7checkW_m)]) Tryz.func12 rfl rfl (by kernel_rfl) (by kernel_rfl) (AllOk.cons r6all_ok (AllOk.cons r9chk_ok (AllOk.cons r7checkW_ok AllOk.nil))).kok ?_
  intro args r h0
  obtain ⟨⟨⟨f, zs⟩, ⟨g, ps⟩, k, es⟩, rfl, h⟩ := mE_inv h0
  refine ⟨Nat.le_of_ble_eq_true rfl, ?_⟩
  split at h
  · rename_i hok
    obtain ⟨hzs, hps, hes⟩ := hok
    dsimp only at hzs hps hes h
    simp only [Option.some.injEq] at h
    have l1 := @lenZn zs
    have l2 := @lenPm ps
    have l3 := @lenPr es
    have f1 := @r6all_at f zs hzs
    have hR : parkV zs ps es = if zs.length > 3 ∨ ps.length > 4 ∨ es.length > 14 ∨ ckAllF zs ≠ 0 then false else zs.all fewZn && (ps.all (fewPm zs) && es.all (fewPr zs)) := rfl
    generalize parkV zs ps es = R at *
    by_cases c1 : zs.length > 3
    · have c1' : ((zs.length : Int) > 3) = True := eq_true (by omega)
      rw [if_pos (.inl c1)] at hR
      subst hR
      have hc := Nat.zero_add 0
      repeat' (first | simp only [hc, AS, Tryz.f12, encPk, SX, l1, c1', ZZ, simprocAttr, ↓reduceIte] | ((first | apply Za | apply Zb | apply Zc | apply Zd | apply Ze | apply Zf | apply Zg | apply Zh) <;> intro hc) | refine Zi ?_ | refine Zj ?_)
      rw [← h]
    have c1' : ((zs.length : Int) > 3) = False := eq_false (by omega)
    by_cases c2 : ps.length > 4
    · have c2' : ((ps.length : Int) > 4) = True := eq_true (by omega)
      rw [if_pos (.inr (.inl c2))] at hR
      subst hR
      have hc := Nat.zero_add 0
      repeat' (first | simp only [hc, AS, Tryz.f12, encPk, SX, l1, l2, c1', c2', ZZ, simprocAttr, ↓reduceIte] | ((first | apply Za | apply Zb | apply Zc | apply Zd | apply Ze | apply Zf | apply Zg | apply Zh) <;> intro hc) | refine Zi ?_ | refine Zj ?_)
      rw [← h]
    have c2' : ((ps.length : Int) > 4) = False := eq_false (by omega)
    by_cases c3 : es.length > 14
    · have c3' : ((es.length : Int) > 14) = True := eq_true (by omega)
      rw [if_pos (.inr (.inr (.inl c3)))] at hR
      subst hR
      have hc := Nat.zero_add 0
      repeat' (first | simp only [hc, AS, Tryz.f12, encPk, SX, l1, l2, l3, c1', c2', c3', ZZ, simprocAttr, ↓reduceIte] | ((first | apply Za | apply Zb | apply Zc | apply Zd | apply Ze | apply Zf | apply Zg | apply Zh) <;> intro hc) | refine Zi ?_ | refine Zj ?_)
      rw [← h]
    have c3' : ((es.length : Int) > 14) = False := eq_false (by omega)
    generalize ckAllF zs = C at *
    by_cases c4 : C = 0
    · subst c4
      rw [if_neg (by simp [c1, c2, c3])] at hR
      have hc := Nat.zero_add 0
      repeat' (first | simp only [hc, AS, Tryz.f12, encPk, SX, l1, l2, l3, c1', c2', c3', f1, ZZ, simprocAttr, ↓reduceIte] | ((first | apply Za | apply Zb | apply Zc | apply Zd | apply Ze | apply Zf | apply Zg | apply Zh) <;> intro hc) | refine Zi ?_ | refine Zj ?_)
      refine awpS_loop (σ := Nat) (fun i => i ≤ zs.length ∧ (zs.take i).all fewZn = true)
        (fun i => ⟨[(7, AV.i i), (0, AV.d (.sl f (zs.map Zon.row))), (1, AV.d (.sl g (ps.map Pmt.row))), (2, AV.d (.sl k (es.map Par.row)))], []⟩)
        (fun i => zs.length - i) 0 (Wk.sub' (by simp [subT, look]) rfl) ⟨Nat.zero_le _, rfl⟩ ?_
      rintro i ⟨hi, hn⟩
      by_cases hil : i < zs.length
      · have e1 := zn_at hil
        have d1 : ((i : Int) < (zs.length : Int)) = True := eq_true (by omega)
        have w1 := wI (n := (i : Int) + 1) (by omega) (by omega)
        obtain ⟨g1, g2⟩ := all_take hil hn
        have m1 := @lenWn zs[i].hrs
        have m2 : ((zs[i].sts.map Stf.row).length : Int) = zs[i].sts.length := by simp
        have hfz : fewZn zs[i] = (decide (zs[i].hrs.length ≤ 4) && decide (zs[i].sts.length ≤ 4)) := rfl
        generalize zs[i] = z at *
        by_cases b1 : z.hrs.length ≤ 4
        · have b1' : ((z.hrs.length : Int) > 4) = False := eq_false (by omega)
          by_cases b2 : z.sts.length ≤ 4
          · have b2' : ((z.sts.length : Int) > 4) = False := eq_false (by omega)
            have hc := Nat.zero_add 0
            repeat' (first | simp only [hc, AS, SX, l1, e1, d1, nn, w1, m1, m2, b1', b2', ZZ, simprocAttr, ↓reduceIte] | ((first | apply Za | apply Zb | apply Zc | apply Zd | apply Ze | apply Zf | apply Zg | apply Zh) <;> intro hc) | refine Zi ?_ | refine Zj ?_)
            exact lp_next (i + 1) (Wk.sub' (by simp [subT, look]) rfl) ⟨by omega, g2 (by rw [hfz]; simp [b1, b2])⟩ (by omega)
          have b2' : ((z.sts.length : Int) > 4) = True := eq_true (by omega)
          rw [g1 (by rw [hfz]; simp [b2]), Bool.false_and] at hR
          subst hR
          have hc := Nat.zero_add 0
          repeat' (first | simp only [hc, AS, SX, l1, e1, d1, nn, w1, m1, m2, b1', b2', ZZ, simprocAttr, ↓reduceIte] | ((first | apply Za | apply Zb | apply Zc | apply Zd | apply Ze | apply Zf | apply Zg | apply Zh) <;> intro hc) | refine Zi ?_ | refine Zj ?_)
          rw [← h]
        have b1' : ((z.hrs.length : Int) > 4) = True := eq_true (by omega)
        rw [g1 (by rw [hfz]; simp [b1]), Bool.false_and] at hR
        subst hR
        have hc := Nat.zero_add 0
        repeat' (first | simp only [hc, AS, SX, l1, e1, d1, nn, w1, m1, b1', ZZ, simprocAttr, ↓reduceIte] | ((first | apply Za | apply Zb | apply Zc | apply Zd | apply Ze | apply Zf | apply Zg | apply Zh) <;> intro hc) | refine Zi ?_ | refine Zj ?_)
        rw [← h]
      have d1 : ((i : Int) < (zs.length : Int)) = False := eq_false (by omega)
      rw [List.take_of_length_le (by omega : zs.length ≤ i)] at hn
      rw [hn, Bool.true_and] at hR
      have hc := Nat.zero_add 0
      repeat' (first | simp only [hc, AS, SX, l1, d1, ZZ, simprocAttr, ↓reduceIte] | ((first | apply Za | apply Zb | apply Zc | apply Zd | apply Ze | apply Zf | apply Zg | apply Zh) <;> intro hc) | refine Zi ?_ | refine Zj ?_)
      refine awpS_loop (σ := Nat) (fun i => i ≤ ps.length ∧ (ps.take i).all (fewPm zs) = true)
        (fun i => ⟨[(8, AV.i i), (0, AV.d (.sl f (zs.map Zon.row))), (1, AV.d (.sl g (ps.map Pmt.row))), (2, AV.d (.sl k (es.map Par.row)))], []⟩)
        (fun i => ps.length - i) 0 (Wk.sub' (by simp [subT, look]) rfl) ⟨Nat.zero_le _, rfl⟩ ?_
      rintro i ⟨hi, hn⟩
      by_cases hil : i < ps.length
      · have e1 := pm_at hil
        have d1 : ((i : Int) < (ps.length : Int)) = True := eq_true (by omega)
        have w1 := wI (n := (i : Int) + 1) (by omega) (by omega)
        obtain ⟨g1, g2⟩ := all_take hil hn
        have hpx := hps ps[i] (List.getElem_mem hil)
        have m1 := @lenTx ps[i].plates
        have m2 := @lenWn ps[i].hrs
        have f2 := @r9chk_at f ps[i] zs ⟨hzs, hpx⟩
        simp only [Pmt.row] at f2
        have hfz : fewPm zs ps[i] = (decide (ps[i].plates.length ≤ 4) && (decide (ps[i].hrs.length ≤ 4) && decide (pchkF zs ps[i] = 0))) := rfl
        generalize pchkF zs ps[i] = E at *
        generalize ps[i] = p at *
        by_cases b1 : p.plates.length ≤ 4
        · have b1' : ((p.plates.length : Int) > 4) = False := eq_false (by omega)
          by_cases b2 : p.hrs.length ≤ 4
          · have b2' : ((p.hrs.length : Int) > 4) = False := eq_false (by omega)
            by_cases b3 : E = 0
            · subst b3
              have hc := Nat.zero_add 0
              repeat' (first | simp only [hc, AS, SX, l2, e1, d1, nn, w1, m1, m2, b1', b2', f2, bne, ZZ, simprocAttr, ↓reduceIte] | ((first | apply Za | apply Zb | apply Zc | apply Zd | apply Ze | apply Zf | apply Zg | apply Zh) <;> intro hc) | refine Zi ?_ | refine Zj ?_)
              exact lp_next (i + 1) (Wk.sub' (by simp [subT, look]) rfl) ⟨by omega, g2 (by rw [hfz]; simp [b1, b2])⟩ (by omega)
            have b3' := eq_false b3
            rw [g1 (by rw [hfz]; simp [b3]), Bool.false_and] at hR
            subst hR
            have hc := Nat.zero_add 0
            repeat' (first | simp only [hc, AS, SX, l2, e1, d1, nn, w1, m1, m2, b1', b2', f2, b3', bne, ZZ, simprocAttr, ↓reduceIte] | ((first | apply Za | apply Zb | apply Zc | apply Zd | apply Ze | apply Zf | apply Zg | apply Zh) <;> intro hc) | refine Zi ?_ | refine Zj ?_)
            rw [← h]
          have b2' : ((p.hrs.length : Int) > 4) = True := eq_true (by omega)
          rw [g1 (by rw [hfz]; simp [b2]), Bool.false_and] at hR
          subst hR
          have hc := Nat.zero_add 0
          repeat' (first | simp only [hc, AS, SX, l2, e1, d1, nn, w1, m1, m2, b1', b2', ZZ, simprocAttr, ↓reduceIte] | ((first | apply Za | apply Zb | apply Zc | apply Zd | apply Ze | apply Zf | apply Zg | apply Zh) <;> intro hc) | refine Zi ?_ | refine Zj ?_)
          rw [← h]
        have b1' : ((p.plates.length : Int) > 4) = True := eq_true (by omega)
        rw [g1 (by rw [hfz]; simp [b1]), Bool.false_and] at hR
        subst hR
        have hc := Nat.zero_add 0
        repeat' (first | simp only [hc, AS, SX, l2, e1, d1, nn, w1, m1, b1', ZZ, simprocAttr, ↓reduceIte] | ((first | apply Za | apply Zb | apply Zc | apply Zd | apply Ze | apply Zf | apply Zg | apply Zh) <;> intro hc) | refine Zi ?_ | refine Zj ?_)
        rw [← h]
      have d1 : ((i : Int) < (ps.length : Int)) = False := eq_false (by omega)
      rw [List.take_of_length_le (by omega : ps.length ≤ i)] at hn
      rw [hn, Bool.true_and] at hR
      have hc := Nat.zero_add 0
      repeat' (first | simp only [hc, AS, SX, l2, d1, ZZ, simprocAttr, ↓reduceIte] | ((first | apply Za | apply Zb | apply Zc | apply Zd | apply Ze | apply Zf | apply Zg | apply Zh) <;> intro hc) | refine Zi ?_ | refine Zj ?_)
      refine awpS_loop (σ := Nat) (fun i => i ≤ es.length ∧ (es.take i).all (fewPr zs) = true)
        (fun i => ⟨[(9, AV.i i), (0, AV.d (.sl f (zs.map Zon.row))), (2, AV.d (.sl k (es.map Par.row)))], []⟩)
        (fun i => es.length - i) 0 (Wk.sub' (by simp [subT, look]) rfl) ⟨Nat.zero_le _, rfl⟩ ?_
      rintro i ⟨hi, hn⟩
      by_cases hil : i < es.length
      · have e1 := pr_at hil
        have d1 : ((i : Int) < (es.length : Int)) = True := eq_true (by omega)
        have w1 := wI (n := (i : Int) + 1) (by omega) (by omega)
        obtain ⟨g1, g2⟩ := all_take hil hn
        have hpx := hes es[i] (List.getElem_mem hil)
        have f2 := @r7chk_at es[i] f zs hzs hpx
        simp only [Par.row] at f2
        have hfz : fewPr zs es[i] = (decide (es[i].time ≤ 5184000) && (decide (es[i].til ≤ 5184000) && decide (errP zs es[i] = 0))) := rfl
        generalize errP zs es[i] = E at *
        generalize es[i] = p at *
        by_cases b1 : p.time ≤ 5184000
        · have b1' : (p.time > 5184000) = False := eq_false (by omega)
          by_cases b2 : p.til ≤ 5184000
          · have b2' : (p.til > 5184000) = False := eq_false (by omega)
            by_cases b3 : E = 0
            · subst b3
              have hc := Nat.zero_add 0
              repeat' (first | simp only [hc, AS, SX, l3, e1, d1, nn, w1, b1', b2', f2, bne, ZZ, simprocAttr, ↓reduceIte] | ((first | apply Za | apply Zb | apply Zc | apply Zd | apply Ze | apply Zf | apply Zg | apply Zh) <;> intro hc) | refine Zi ?_ | refine Zj ?_)
              exact lp_next (i + 1) (Wk.sub' (by simp [subT, look]) rfl) ⟨by omega, g2 (by rw [hfz]; simp [b1, b2])⟩ (by omega)
            have b3' := eq_false b3
            rw [g1 (by rw [hfz]; simp [b3])] at hR
            subst hR
            have hc := Nat.zero_add 0
            repeat' (first | simp only [hc, AS, SX, l3, e1, d1, nn, w1, b1', b2', f2, b3', bne, ZZ, simprocAttr, ↓reduceIte] | ((first | apply Za | apply Zb | apply Zc | apply Zd | apply Ze | apply Zf | apply Zg | apply Zh) <;> intro hc) | refine Zi ?_ | refine Zj ?_)
            rw [← h]
          have b2' : (p.til > 5184000) = True := eq_true (by omega)
          rw [g1 (by rw [hfz]; simp [b2])] at hR
          subst hR
          have hc := Nat.zero_add 0
          repeat' (first | simp only [hc, AS, SX, l3, e1, d1, nn, w1, b1', b2', ZZ, simprocAttr, ↓reduceIte] | ((first | apply Za | apply Zb | apply Zc | apply Zd | apply Ze | apply Zf | apply Zg | apply Zh) <;> intro hc) | refine Zi ?_ | refine Zj ?_)
          rw [← h]
        have b1' : (p.time > 5184000) = True := eq_true (by omega)
        rw [g1 (by rw [hfz]; simp [b1])] at hR
        subst hR
        have hc := Nat.zero_add 0
        repeat' (first | simp only [hc, AS, SX, l3, e1, d1, nn, w1, b1', ZZ, simprocAttr, ↓reduceIte] | ((first | apply Za | apply Zb | apply Zc | apply Zd | apply Ze | apply Zf | apply Zg | apply Zh) <;> intro hc) | refine Zi ?_ | refine Zj ?_)
        rw [← h]
      have d1 : ((i : Int) < (es.length : Int)) = False := eq_false (by omega)
      rw [List.take_of_length_le (by omega : es.length ≤ i)] at hn
      rw [hn] at hR
      subst hR
      have hc := Nat.zero_add 0
      repeat' (first | simp only [hc, AS, SX, l3, d1, ZZ, simprocAttr, ↓reduceIte] | ((first | apply Za | apply Zb | apply Zc | apply Zd | apply Ze | apply Zf | apply Zg | apply Zh) <;> intro hc) | refine Zi ?_ | refine Zj ?_)
      rw [← h]
    have c4' := eq_false c4
    rw [if_pos (.inr (.inr (.inr c4)))] at hR
    subst hR
    have hc := Nat.zero_add 0
    repeat' (first | simp only [hc, AS, Tryz.f12, encPk, SX, l1, l2, l3, c1', c2', c3', f1, c4', bne, ZZ, simprocAttr, ↓reduceIte] | ((first | apply Za | apply Zb | apply Zc | apply Zd | apply Ze | apply Zf | apply Zg | apply Zh) <;> intro hc) | refine Zi ?_ | refine Zj ?_)
    rw [← h]
  cases h
theorem parkin_at {f g k : Bool} {zs : List Zon} {ps : List Pmt} {es : List Par} (h : parkOk ((f, zs), (g, ps), k, es)) : parkin_m [.c (.sl f (zs.map Zon.row)), .c (.sl g (ps.map Pmt.row)), .c (.sl k (es.map Par.row))] = some [.b (parkV zs ps es)] := by
  have := mE_eq encPk_inj (g := fun p => if parkOk p then some [DV.b (parkV p.1.2 p.2.1.2 p.2.2.2)] else none) (a := ((f, zs), (g, ps), k, es))
  exact this.trans (if_pos h)
end
end Go.Ab
