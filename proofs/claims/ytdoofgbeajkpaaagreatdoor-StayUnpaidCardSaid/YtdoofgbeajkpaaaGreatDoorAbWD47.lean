/-
  Texts of the layer and of the laws, put together: AbJ25, AbJ26, AbJ34.
-/
import Derived.Test.YtdoofgbeajkpaaaGreatDoorAbWD45
import Derived.Test.YtdoofgbeajkpaaaGreatDoorAbWD38
import Derived.Test.YtdoofgbeajkpaaaGreatDoorAbWD46
import Derived.Test.YtdoofgbeajkpaaaGreatDoorAbWD44
import Derived.Test.YtdoofgbeajkpaaaGreatDoorAbWD42
set_option linter.unusedSimpArgs false
set_option linter.unusedVariables false
set_option maxRecDepth 100000
namespace Go.Ab
open Go.RowKit Go.Proofs
def shortY (s : Sty) : Bool := decide ((s.id.length : Int) ≤ 200) && decide ((s.zone.length : Int) ≤ 40) && decide ((s.plate.length : Int) ≤ 40)
noncomputable section
open Classical
def short30_m : List PA → Option (List PA) := mE encSy fun s => some [.b (shortY s)]
theorem short30_ok : PureC Tryz.prog Gt 27 short30_m := by
  refine pure_of_awpS (X := ctx Tryz.prog Gt []) Tryz.func27 rfl rfl (by kernel_rfl) (by kernel_rfl) AllOk.nil.kok ?_
  intro args r h0
  obtain ⟨⟨id, zn, pl, a, b⟩, rfl, h⟩ := mE_inv h0
  refine ⟨Nat.le_of_ble_eq_true rfl, ?_⟩
  simp only [Option.some.injEq, shortY] at h
  by_cases c1 : (id.length : Int) ≤ 200
  · have c1' := eq_true c1
    rw [decide_eq_true c1, Bool.true_and] at h
    by_cases c2 : (zn.length : Int) ≤ 40
    · have c2' := eq_true c2
      rw [decide_eq_true c2, Bool.true_and] at h
      by_cases c3 : (pl.length : Int) ≤ 40
      · have c3' := eq_true c3
        rw [decide_eq_true c3] at h
        have hc := Nat.zero_add 0
        repeat' (first | simp only [hc, AS, Tryz.f27, encSy, Sty.row, SX, c1', c2', c3', ZZ, simprocAttr, ↓reduceIte] | ((first | apply Za | apply Zb | apply Zc | apply Zd | apply Ze | apply Zf | apply Zg | apply Zh) <;> intro hc) | refine Zi ?_ | refine Zj ?_)
        rw [← h]
      have c3' := eq_false c3
      rw [decide_eq_false c3] at h
      have hc := Nat.zero_add 0
      repeat' (first | simp only [hc, AS, Tryz.f27, encSy, Sty.row, SX, c1', c2', c3', ZZ, simprocAttr, ↓reduceIte] | ((first | apply Za | apply Zb | apply Zc | apply Zd | apply Ze | apply Zf | apply Zg | apply Zh) <;> intro hc) | refine Zi ?_ | refine Zj ?_)
      rw [← h]
    have c2' := eq_false c2
    rw [decide_eq_false c2, Bool.false_and] at h
    have hc := Nat.zero_add 0
    repeat' (first | simp only [hc, AS, Tryz.f27, encSy, Sty.row, SX, c1', c2', ZZ, simprocAttr, ↓reduceIte] | ((first | apply Za | apply Zb | apply Zc | apply Zd | apply Ze | apply Zf | apply Zg | apply Zh) <;> intro hc) | refine Zi ?_ | refine Zj ?_)
    rw [← h]
  have c1' := eq_false c1
  rw [decide_eq_false c1, Bool.false_and, Bool.false_and] at h
  have hc := Nat.zero_add 0
  repeat' (first | simp only [hc, AS, Tryz.f27, encSy, Sty.row, SX, c1', ZZ, simprocAttr, ↓reduceIte] | ((first | apply Za | apply Zb | apply Zc | apply Zd | apply Ze | apply Zf | apply Zg | apply Zh) <;> intro hc) | refine Zi ?_ | refine Zj ?_)
  rw [← h]
end
end Go.Ab
namespace Go.Ab
open Go.RowKit Go.Proofs
structure Clm where
  zf : Bool
  zs : List Zon
  sf : Bool
  ss : List Ses
  pf : Bool
  ps : List Pmt
def Clm.row (c : Clm) : List D := [.sl c.zf (c.zs.map Zon.row), .sl c.sf (c.ss.map Ses.row), .sl c.pf (c.ps.map Pmt.row)]
theorem Clm.inj (a b : Clm) (h : a.row = b.row) : a = b := by
  obtain ⟨a1, a2, a3, a4, a5, a6⟩ := a
  obtain ⟨b1, b2, b3, b4, b5, b6⟩ := b
  simp only [Clm.row, List.cons.injEq, D.sl.injEq, and_true] at h
  obtain ⟨⟨h1, h2⟩, ⟨h3, h4⟩, h5, h6⟩ := h
  rw [h1, mapZn_inj.1 h2, h3, map_inj Ses.inj h4, h5, map_inj Pmt.inj h6]
def encC (c : Clm) : List PA := [.agg c.row]
theorem encC_inj (a b : Clm) (h : encC a = encC b) : a = b := Clm.inj a b (by simpa [encC] using h)
def smZ (z : Zon) : Bool := decide ((z.name.length : Int) ≤ 40) && (decide ((z.hrs.length : Int) ≤ 8) && decide ((z.sts.length : Int) ≤ 8))
def smS (x : Ses) : Bool := decide ((x.zone.length : Int) ≤ 40) && decide ((x.plate.length : Int) ≤ 40)
def smP (p : Pmt) : Bool := decide ((p.zone.length : Int) ≤ 40) && (decide ((p.hrs.length : Int) ≤ 8) && (decide ((p.plates.length : Int) ≤ 8) && p.plates.all fun s => decide ((s.length : Int) ≤ 40)))
def smN (c : Clm) : Bool := decide ((c.zs.length : Int) ≤ 8) && (decide ((c.ss.length : Int) ≤ 20) && decide ((c.ps.length : Int) ≤ 8))
def someV (c : Clm) : Bool := c.zs.all smZ && (c.ss.all smS && (c.ps.all smP && smN c))
noncomputable section
open Classical
def some30_m : List PA → Option (List PA) := mE encC fun c => if decide (c.zs.length ≤ 9223372036854775807 ∧ c.ss.length ≤ 9223372036854775807 ∧ c.ps.length ≤ 9223372036854775807) = true then some [.b (someV c)] else none
set_option maxHeartbeats 2000000 in
theorem some30_ok : PureC Tryz.prog Gt 28 some30_m := by
  refine pure_of_awpS (X := ctx Tryz.prog Gt []) Tryz.func28 rfl rfl (by kernel_rfl) (by kernel_rfl) AllOk.nil.kok ?_
  intro args r h0
  obtain ⟨⟨zf, zs, sf, ss, pf, ps⟩, rfl, h⟩ := mE_inv h0
  refine ⟨Nat.le_of_ble_eq_true rfl, ?_⟩
  split at h
  · rename_i hl
    obtain ⟨hl1, hl2, hl3⟩ := of_decide_eq_true hl
    dsimp only at hl1 hl2 hl3 h
    simp only [Option.some.injEq] at h
    have l1 : ((zs.map Zon.row).length : Int) = zs.length := by simp
    have l2 := @lenSs ss
    have l3 : ((ps.map Pmt.row).length : Int) = ps.length := by simp
    generalize hR : someV ⟨zf, zs, sf, ss, pf, ps⟩ = R at *
    have hc := Nat.zero_add 0
    repeat' (first | simp only [hc, AS, Tryz.f28, encC, Clm.row, SX, ZZ, simprocAttr, ↓reduceIte] | refine Zi ?_ )
    refine awpS_loop (σ := Nat) (fun k => k ≤ zs.length ∧ R = ((zs.drop k).all smZ && (ss.all smS && (ps.all smP && smN ⟨zf, zs, sf, ss, pf, ps⟩))))
      (fun k => ⟨[(3, AV.i k), (1, .v (.c (.ptr 0 0)))], [.box [.d (.sl zf (zs.map Zon.row)), .d (.sl sf (ss.map Ses.row)), .d (.sl pf (ps.map Pmt.row))]]⟩)
      (fun k => zs.length - k) 0 (Wk.sub' (by simp [subT, look]) rfl) ⟨Nat.zero_le _, hR.symm⟩ ?_
    rintro k ⟨hk, hRk⟩
    by_cases hkl : k < zs.length
    · have e1 : (zs.map Zon.row)[k]? = some zs[k].row := by simp [hkl]
      have c1 : ((k : Int) < (zs.length : Int)) = True := eq_true (by omega)
      have w1 := wI (n := (k : Int) + 1) (by omega) (by omega)
      rw [List.drop_eq_getElem_cons hkl, List.all_cons, Bool.and_assoc] at hRk
      have lh := @lenWn zs[k].hrs
      have lt : ((zs[k].sts.map Stf.row).length : Int) = zs[k].sts.length := by simp
      generalize zs[k] = x at *
      obtain ⟨x1, x2, x3, x4, x5, x6, x7, x8, x9⟩ := x
      simp only [Zon.row] at e1
      rw [smZ] at hRk
      dsimp only at hRk lh lt
      by_cases d1 : (x1.length : Int) ≤ 40
      · have d1' : ((x1.length : Int) > 40) = False := eq_false (by omega)
        rw [decide_eq_true d1, Bool.true_and] at hRk
        by_cases d2 : (x3.length : Int) ≤ 8
        · have d2' : ((x3.length : Int) > 8) = False := eq_false (by omega)
          rw [decide_eq_true d2, Bool.true_and] at hRk
          by_cases d3 : (x5.length : Int) ≤ 8
          · have d3' : ((x5.length : Int) > 8) = False := eq_false (by omega)
            rw [decide_eq_true d3, Bool.true_and] at hRk
            have hc := Nat.zero_add 0
            repeat' (first | simp only [hc, AS, SX, l1, lh, lt, e1, c1, nn, w1, d1', d2', d3', ZZ, simprocAttr, ↓reduceIte] | refine Zi ?_ )
            exact lp_next (k + 1) (Wk.sub' (by simp [subT, look]) rfl) ⟨by omega, hRk⟩ (by omega)
          have d3' : ((x5.length : Int) > 8) = True := eq_true (by omega)
          rw [decide_eq_false d3, Bool.false_and] at hRk
          have hc := Nat.zero_add 0
          repeat' (first | simp only [hc, AS, SX, l1, lh, lt, e1, c1, nn, w1, d1', d2', d3', ZZ, simprocAttr, ↓reduceIte] | refine Zi ?_ )
          rw [← h, hRk]
        have d2' : ((x3.length : Int) > 8) = True := eq_true (by omega)
        rw [decide_eq_false d2, Bool.false_and, Bool.false_and] at hRk
        have hc := Nat.zero_add 0
        repeat' (first | simp only [hc, AS, SX, l1, lh, lt, e1, c1, nn, w1, d1', d2', ZZ, simprocAttr, ↓reduceIte] | refine Zi ?_ )
        rw [← h, hRk]
      have d1' : ((x1.length : Int) > 40) = True := eq_true (by omega)
      rw [decide_eq_false d1, Bool.false_and, Bool.false_and] at hRk
      have hc := Nat.zero_add 0
      repeat' (first | simp only [hc, AS, SX, l1, e1, c1, nn, w1, d1', ZZ, simprocAttr, ↓reduceIte] | refine Zi ?_ )
      rw [← h, hRk]
    have c1 : ((k : Int) < (zs.length : Int)) = False := eq_false (by omega)
    rw [List.drop_eq_nil_of_le (by omega), List.all_nil, Bool.true_and] at hRk
    clear hR
    have hc := Nat.zero_add 0
    repeat' (first | simp only [hc, AS, SX, l1, c1, ZZ, simprocAttr, ↓reduceIte] | refine Zi ?_ | refine Zj ?_)
    refine awpS_loop (σ := Nat) (fun k => k ≤ ss.length ∧ R = ((ss.drop k).all smS && (ps.all smP && smN ⟨zf, zs, sf, ss, pf, ps⟩)))
      (fun k => ⟨[(4, AV.i k), (1, .v (.c (.ptr 0 0)))], [.box [.d (.sl zf (zs.map Zon.row)), .d (.sl sf (ss.map Ses.row)), .d (.sl pf (ps.map Pmt.row))]]⟩)
      (fun k => ss.length - k) 0 (Wk.sub' (by simp [subT, look]) rfl) ⟨Nat.zero_le _, hRk⟩ ?_
    clear hRk hkl hk c1 k
    rintro k ⟨hk, hRk⟩
    by_cases hkl : k < ss.length
    · have e1 := ss_at hkl
      have c1 : ((k : Int) < (ss.length : Int)) = True := eq_true (by omega)
      have w1 := wI (n := (k : Int) + 1) (by omega) (by omega)
      rw [List.drop_eq_getElem_cons hkl, List.all_cons, Bool.and_assoc] at hRk
      generalize ss[k] = x at *
      obtain ⟨x1, x2, x3, x4, x5, x6, x7, x8⟩ := x
      rw [smS] at hRk
      dsimp only at hRk e1
      by_cases d1 : (x2.length : Int) ≤ 40
      · have d1' : ((x2.length : Int) > 40) = False := eq_false (by omega)
        rw [decide_eq_true d1, Bool.true_and] at hRk
        by_cases d2 : (x3.length : Int) ≤ 40
        · have d2' : ((x3.length : Int) > 40) = False := eq_false (by omega)
          rw [decide_eq_true d2, Bool.true_and] at hRk
          have hc := Nat.zero_add 0
          repeat' (first | simp only [hc, AS, SX, l2, e1, c1, nn, w1, d1', d2', ZZ, simprocAttr, ↓reduceIte] | refine Zi ?_ )
          exact lp_next (k + 1) (Wk.sub' (by simp [subT, look]) rfl) ⟨by omega, hRk⟩ (by omega)
        have d2' : ((x3.length : Int) > 40) = True := eq_true (by omega)
        rw [decide_eq_false d2, Bool.false_and] at hRk
        have hc := Nat.zero_add 0
        repeat' (first | simp only [hc, AS, SX, l2, e1, c1, nn, w1, d1', d2', ZZ, simprocAttr, ↓reduceIte] | refine Zi ?_ )
        rw [← h, hRk]
      have d1' : ((x2.length : Int) > 40) = True := eq_true (by omega)
      rw [decide_eq_false d1, Bool.false_and, Bool.false_and] at hRk
      have hc := Nat.zero_add 0
      repeat' (first | simp only [hc, AS, SX, l2, e1, c1, nn, w1, d1', ZZ, simprocAttr, ↓reduceIte] | refine Zi ?_ )
      rw [← h, hRk]
    have c1 : ((k : Int) < (ss.length : Int)) = False := eq_false (by omega)
    rw [List.drop_eq_nil_of_le (by omega), List.all_nil, Bool.true_and] at hRk
    have hc := Nat.zero_add 0
    repeat' (first | simp only [hc, AS, SX, l2, c1, ZZ, simprocAttr, ↓reduceIte] | refine Zi ?_ | refine Zj ?_)
    refine awpS_loop (σ := Nat) (fun k => k ≤ ps.length ∧ R = ((ps.drop k).all smP && smN ⟨zf, zs, sf, ss, pf, ps⟩))
      (fun k => ⟨[(5, AV.i k), (1, .v (.c (.ptr 0 0)))], [.box [.d (.sl zf (zs.map Zon.row)), .d (.sl sf (ss.map Ses.row)), .d (.sl pf (ps.map Pmt.row))]]⟩)
      (fun k => ps.length - k) 0 (Wk.sub' (by simp [subT, look]) rfl) ⟨Nat.zero_le _, hRk⟩ ?_
    clear hRk hkl hk c1 k
    rintro k ⟨hk, hRk⟩
    by_cases hkl : k < ps.length
    · have e1 := pm_at hkl
      have c1 : ((k : Int) < (ps.length : Int)) = True := eq_true (by omega)
      have w1 := wI (n := (k : Int) + 1) (by omega) (by omega)
      rw [List.drop_eq_getElem_cons hkl, List.all_cons, Bool.and_assoc] at hRk
      have lh := @lenWn ps[k].hrs
      have lp : ((ps[k].plates.map rowS).length : Int) = ps[k].plates.length := by simp
      generalize ps[k] = x at *
      obtain ⟨x1, x2, x3, x4, x5, x6, x7, x8⟩ := x
      rw [smP] at hRk
      dsimp only at hRk e1 lh lp
      by_cases d1 : (x2.length : Int) ≤ 40
      · have d1' : ((x2.length : Int) > 40) = False := eq_false (by omega)
        rw [decide_eq_true d1, Bool.true_and] at hRk
        by_cases d2 : (x7.length : Int) ≤ 8
        · have d2' : ((x7.length : Int) > 8) = False := eq_false (by omega)
          rw [decide_eq_true d2, Bool.true_and] at hRk
          by_cases d3 : (x4.length : Int) ≤ 8
          · have d3' : ((x4.length : Int) > 8) = False := eq_false (by omega)
            rw [decide_eq_true d3, Bool.true_and] at hRk
            have hc := Nat.zero_add 0
            repeat' (first | simp only [hc, AS, SX, l3, lh, lp, e1, c1, nn, d1', d2', d3', ZZ, simprocAttr, ↓reduceIte] | refine Zi ?_ )
            refine awpS_loop (σ := Nat) (fun j => j ≤ x4.length ∧ R = (((x4.drop j).all fun s => decide ((s.length : Int) ≤ 40)) && ((ps.drop (k + 1)).all smP && smN ⟨zf, zs, sf, ss, pf, ps⟩)))
              (fun j => ⟨[(6, AV.i j), (5, AV.i k), (1, .v (.c (.ptr 0 0)))], [.box [.d (.sl zf (zs.map Zon.row)), .d (.sl sf (ss.map Ses.row)), .d (.sl pf (ps.map Pmt.row))]]⟩)
              (fun j => x4.length - j) 0 (Wk.sub' (by simp [subT, look]) rfl) ⟨Nat.zero_le _, hRk⟩ ?_
            clear hRk
            rintro j ⟨hj, hRj⟩
            by_cases hjl : j < x4.length
            · have e2 : (x4.map rowS)[j]? = some [.str x4[j]] := by simp [hjl, rowS]
              have c2 : ((j : Int) < (x4.length : Int)) = True := eq_true (by omega)
              have w2 := wI (n := (j : Int) + 1) (by omega) (by omega)
              rw [List.drop_eq_getElem_cons hjl, List.all_cons, Bool.and_assoc] at hRj
              generalize x4[j] = y at *
              by_cases d4 : (y.length : Int) ≤ 40
              · have d4' : ((y.length : Int) > 40) = False := eq_false (by omega)
                rw [decide_eq_true d4, Bool.true_and] at hRj
                have hc := Nat.zero_add 0
                repeat' (first | simp only [hc, AS, SX, l3, lp, e1, e2, c2, nn, w2, d4', ZZ, simprocAttr, ↓reduceIte] | refine Zi ?_ )
                exact lp_next (j + 1) (Wk.sub' (by simp [subT, look]) rfl) ⟨by omega, hRj⟩ (by omega)
              have d4' : ((y.length : Int) > 40) = True := eq_true (by omega)
              rw [decide_eq_false d4, Bool.false_and] at hRj
              have hc := Nat.zero_add 0
              repeat' (first | simp only [hc, AS, SX, l3, lp, e1, e2, c2, nn, w2, d4', ZZ, simprocAttr, ↓reduceIte] | refine Zi ?_ )
              rw [← h, hRj]
            have c2 : ((j : Int) < (x4.length : Int)) = False := eq_false (by omega)
            rw [List.drop_eq_nil_of_le (by omega), List.all_nil, Bool.true_and] at hRj
            have hc := Nat.zero_add 0
            repeat' (first | simp only [hc, AS, SX, l3, lp, e1, c2, nn, w1, ZZ, simprocAttr, ↓reduceIte] | refine Zi ?_ | refine Zj ?_)
            exact lp_next (k + 1) (Wk.sub' (by simp [subT, look]) rfl) ⟨by omega, hRj⟩ (by omega)
          have d3' : ((x4.length : Int) > 8) = True := eq_true (by omega)
          rw [decide_eq_false d3, Bool.false_and, Bool.false_and] at hRk
          have hc := Nat.zero_add 0
          repeat' (first | simp only [hc, AS, SX, l3, lh, lp, e1, c1, nn, d1', d2', d3', ZZ, simprocAttr, ↓reduceIte] | refine Zi ?_ )
          rw [← h, hRk]
        have d2' : ((x7.length : Int) > 8) = True := eq_true (by omega)
        rw [decide_eq_false d2, Bool.false_and, Bool.false_and] at hRk
        have hc := Nat.zero_add 0
        repeat' (first | simp only [hc, AS, SX, l3, lh, lp, e1, c1, nn, d1', d2', ZZ, simprocAttr, ↓reduceIte] | refine Zi ?_ )
        rw [← h, hRk]
      have d1' : ((x2.length : Int) > 40) = True := eq_true (by omega)
      rw [decide_eq_false d1, Bool.false_and, Bool.false_and] at hRk
      have hc := Nat.zero_add 0
      repeat' (first | simp only [hc, AS, SX, l3, e1, c1, nn, d1', ZZ, simprocAttr, ↓reduceIte] | refine Zi ?_ )
      rw [← h, hRk]
    have c1 : ((k : Int) < (ps.length : Int)) = False := eq_false (by omega)
    rw [List.drop_eq_nil_of_le (by omega), List.all_nil, Bool.true_and, smN] at hRk
    dsimp only at hRk
    by_cases d1 : (zs.length : Int) ≤ 8
    · have d1' := eq_true d1
      rw [decide_eq_true d1, Bool.true_and] at hRk
      by_cases d2 : (ss.length : Int) ≤ 20
      · have d2' := eq_true d2
        rw [decide_eq_true d2, Bool.true_and] at hRk
        by_cases d3 : (ps.length : Int) ≤ 8
        · have d3' := eq_true d3
          rw [decide_eq_true d3] at hRk
          have hc := Nat.zero_add 0
          repeat' (first | simp only [hc, AS, SX, l1, l2, l3, c1, d1', d2', d3', ZZ, simprocAttr, ↓reduceIte] | refine Zi ?_ | refine Zj ?_)
          rw [← h, hRk]
        have d3' := eq_false d3
        rw [decide_eq_false d3] at hRk
        have hc := Nat.zero_add 0
        repeat' (first | simp only [hc, AS, SX, l1, l2, l3, c1, d1', d2', d3', ZZ, simprocAttr, ↓reduceIte] | refine Zi ?_ | refine Zj ?_)
        rw [← h, hRk]
      have d2' := eq_false d2
      rw [decide_eq_false d2, Bool.false_and] at hRk
      have hc := Nat.zero_add 0
      repeat' (first | simp only [hc, AS, SX, l1, l2, l3, c1, d1', d2', ZZ, simprocAttr, ↓reduceIte] | refine Zi ?_ | refine Zj ?_)
      rw [← h, hRk]
    have d1' := eq_false d1
    rw [decide_eq_false d1, Bool.false_and] at hRk
    have hc := Nat.zero_add 0
    repeat' (first | simp only [hc, AS, SX, l1, l2, l3, c1, d1', ZZ, simprocAttr, ↓reduceIte] | refine Zi ?_ | refine Zj ?_)
    rw [← h, hRk]
  cases h
end
end Go.Ab
namespace Go.Ab
open Go.RowKit Go.Proofs
theorem sameL_self {α : Type} {p : α → α → Bool} (hp : ∀ a, p a a = true) : ∀ l, sameL p l l = true
  | [] => rfl
  | x :: l => by rw [sameL, hp x, sameL_self hp l]; rfl
theorem sySame_self (a : Sty) : sySame a a = true := by simp [sySame]
theorem exSame_self (a : Exc) : Exc.same a a = true := by simp [Exc.same]
abbrev zA3 : Zon := ⟨[122], true, [], true, [⟨0, 60, 1⟩], 0, 60, 0, 0⟩
abbrev pIn3 : Par := ⟨5, [122], [65, 66, 49], 100, 0⟩
abbrev pOut3 : Par := ⟨6, [122], [65, 66, 49], 500, 0⟩
abbrev pEar3 : Par := ⟨6, [122], [65, 66, 49], 50, 0⟩
abbrev sA3 : Sty := ⟨[53, 46, 122, 46, 65, 66, 49, 46, 49, 48, 48, 46, 48], [122], [65, 66, 49], (100, 500)⟩
abbrev xA3 : Exc := ⟨[54, 46, 122, 46, 65, 66, 49, 46, 53, 48, 46, 48], 10⟩
abbrev sB3 : Sty := ⟨[], [122], [], (200, 300)⟩
abbrev sC3 : Sty := ⟨[], [122], [], (300, 400)⟩
abbrev wA3 : Ses := ⟨[], [122], [65, 66, 49], 150, 300, 0, true, []⟩
theorem key_in3 : keyF pIn3 = [53, 46, 122, 46, 65, 66, 49, 46, 49, 48, 48, 46, 48] := by
  have e1 : Lib.itoa 5 = [53] := by simp [itoa_spec, dec_small]
  have e2 : Lib.itoa 100 = [49, 48, 48] := by simp [itoa_spec, dec_big, dec_small]
  have e3 : Lib.itoa 0 = [48] := by simp [itoa_spec, dec_small]
  simp [keyF, e1, e2, e3]
theorem key_ear3 : keyF pEar3 = [54, 46, 122, 46, 65, 66, 49, 46, 53, 48, 46, 48] := by
  have e1 : Lib.itoa 6 = [54] := by simp [itoa_spec, dec_small]
  have e2 : Lib.itoa 50 = [53, 48] := by simp [itoa_spec, dec_big, dec_small]
  have e3 : Lib.itoa 0 = [48] := by simp [itoa_spec, dec_small]
  simp [keyF, e1, e2, e3]
theorem gates_A : gatesF [pOut3, pEar3, pIn3] = [pEar3, pIn3, pOut3] := by kernel_rfl
theorem stays_A : rstays [pEar3, pIn3, pOut3] = [⟨keyF pIn3, [122], [65, 66, 49], (100, 500)⟩] := by kernel_rfl
theorem excl_A : rexcl [pEar3, pIn3, pOut3] = [⟨keyF pEar3, 10⟩] := by kernel_rfl
theorem ok_3 : parsOk [pOut3, pEar3, pIn3] := ⟨by decide, by
  intro x hx
  simp only [List.mem_cons, List.not_mem_nil, or_false] at hx
  rcases hx with rfl | rfl | rfl <;> exact ⟨rfl, rfl, rfl, by decide, by decide⟩⟩
theorem ok_z3 : zonesOk [zA3] := ⟨by decide, fun z hz => by rw [List.mem_singleton.1 hz]; exact ⟨by decide, by decide⟩⟩
theorem ok_z0 : zonesOk [] := ⟨by decide, fun z hz => by cases hz⟩
theorem ok_s3 : sA3.Ok := ⟨rfl, rfl, by decide, by decide⟩
theorem find_A : findZ [zA3] sA3.zone = some zA3 := by kernel_rfl
theorem err_A : zA3.err = 0 := by kernel_rfl
theorem chk_A : chkF [zA3] sA3 = 0 := by
  have e3 : plateB sA3.plate = true := by kernel_rfl
  have e4 : ivOk sA3.v = true := by kernel_rfl
  have e5 : sA3.id = keyF sA3.ev := key_in3.symm
  rw [chkF, find_A]
  dsimp only
  rw [if_neg (by rw [err_A]; simp), if_neg (by rw [e3]; decide), if_neg (by rw [e4]; decide), if_pos e5]
theorem chk_A0 : chkF [] sA3 = 23 := rfl
theorem days_A : daysErr sA3.v = 0 := by kernel_rfl
theorem nf_one {a b : Int} (h : a < b) : NF [(a, b)] := ⟨List.pairwise_singleton _ _, fun i hi => by rw [List.mem_singleton.1 hi]; exact h⟩
theorem inV_one {a b t : Int} : inV [(a, b)] t ↔ a ≤ t ∧ t < b := by
  rw [inV_cons]
  exact ⟨fun h => h.elim id fun h => absurd h inV_nil, .inl⟩
theorem unp_A1 : unpF [zA3] [] [] sA3 = (some [(160, 500)], 0) := by
  unfold unpF
  rw [chk_A, if_neg (by simp), find_A]
  dsimp only
  rw [enf_e, days_A, if_neg (by simp)]
  congr 2
  refine nf_ext minusJ_nf (nf_one (by decide)) fun t => ?_
  rw [minusJ_in, hasV_append, enf_in days_A, cov_in days_A, inV_one]
  have hh : hrsP zA3.hrs t = true := rfl
  rw [hh]
  constructor
  · rintro ⟨⟨h1, _⟩, h2⟩
    have h3 := paidL_in (ss := []) (s := sA3) (z := zA3) (t := t) (by kernel_rfl) (by decide) h1
    have : ¬ (t - 100 < 60) := fun h => h2 (.inl (h3.2 (.inl h)))
    dsimp only at h1
    omega
  rintro ⟨h1, h2⟩
  have h0 : sA3.v.1 ≤ t ∧ t < sA3.v.2 := ⟨by show (100 : Int) ≤ t; omega, h2⟩
  have h3 := paidL_in (ss := []) (s := sA3) (z := zA3) (t := t) (by kernel_rfl) (by decide) h0
  refine ⟨⟨h0, rfl⟩, ?_⟩
  rintro (h | ⟨_, h⟩)
  · rcases h3.1 h with h | ⟨x, hx, _⟩
    · have h : t - 100 < 60 := h
      omega
    cases hx
  cases h
theorem unp_A2 : unpF [zA3] [wA3] [] sA3 = (some [(300, 500)], 0) := by
  unfold unpF
  rw [chk_A, if_neg (by simp), find_A]
  dsimp only
  rw [enf_e, days_A, if_neg (by simp)]
  congr 2
  refine nf_ext minusJ_nf (nf_one (by decide)) fun t => ?_
  rw [minusJ_in, hasV_append, enf_in days_A, cov_in days_A, inV_one]
  have hh : hrsP zA3.hrs t = true := rfl
  have hp : paidF wA3 = (150, 300) := by kernel_rfl
  rw [hh]
  constructor
  · rintro ⟨⟨h1, _⟩, h2⟩
    have h3 := paidL_in (ss := [wA3]) (s := sA3) (z := zA3) (t := t) (by kernel_rfl) (by decide) h1
    have a1 : ¬ (t - 100 < 60) := fun h => h2 (.inl (h3.2 (.inl h)))
    have a2 : ¬ (150 ≤ t ∧ t < 300) := fun h => h2 (.inl (h3.2 (.inr ⟨wA3, by simp, rfl, rfl, by rw [hp]; exact h.1, by rw [hp]; exact h.2⟩)))
    dsimp only at h1
    omega
  rintro ⟨h1, h2⟩
  have h0 : sA3.v.1 ≤ t ∧ t < sA3.v.2 := ⟨by show (100 : Int) ≤ t; omega, h2⟩
  have h3 := paidL_in (ss := [wA3]) (s := sA3) (z := zA3) (t := t) (by kernel_rfl) (by decide) h0
  refine ⟨⟨h0, rfl⟩, ?_⟩
  rintro (h | ⟨_, h⟩)
  · rcases h3.1 h with h | ⟨x, hx, _, _, g1, g2⟩
    · have h : t - 100 < 60 := h
      omega
    rw [List.mem_singleton.1 hx, hp] at g2
    have g2 : t < 300 := g2
    omega
  cases h
theorem peak_A : pkF [sA3, sB3, sC3] [122] = (2, 200) := by kernel_rfl
theorem pres_A1 : presF [sA3] [122] 499 = 1 := by kernel_rfl
theorem pres_A2 : presF [sA3] [122] 500 = 0 := by kernel_rfl
theorem encUnp_inj (a b : (Sty × (Bool × List Zon)) × ((Bool × List Ses) × (Bool × List Pmt))) (h : encUnp a = encUnp b) : a = b := by
  obtain ⟨⟨a1, a2, a3⟩, ⟨a4, a5⟩, a6, a7⟩ := a
  obtain ⟨⟨b1, b2, b3⟩, ⟨b4, b5⟩, b6, b7⟩ := b
  simp only [encUnp, List.cons.injEq, DV.agg.injEq, DV.c.injEq, D.sl.injEq, and_true] at h
  obtain ⟨h1, ⟨h2, h3⟩, ⟨h4, h5⟩, h6, h7⟩ := h
  rw [Sty.inj _ _ h1, h2, mapZn_inj.1 h3, h4, mapS_inj.1 h5, h6, mapPm_inj.1 h7]
noncomputable section
open Classical
theorem stpair_at {f : Bool} {l : List Par} (h : parsOk l) : stpair_m [.c (.sl f (l.map Par.row))] = some [.c (.sl false ((rstays (gatesF l)).map Sty.row)), .c (.sl false ((rexcl (gatesF l)).map Exc.row))] := by
  have := mE_eq encPs_inj (g := fun p => if parsOk p.2 then some [DV.c (.sl false ((rstays (gatesF p.2)).map Sty.row)), .c (.sl false ((rexcl (gatesF p.2)).map Exc.row))] else none) (a := (f, l))
  exact this.trans (if_pos h)
theorem r0sss_at {f g : Bool} {a b : List Sty} (h : a.length ≤ 1000000000) : r0sss_m [.c (.sl f (a.map Sty.row)), .c (.sl g (b.map Sty.row))] = some [.b (sameL sySame a b)] := by
  have := mE_eq encSys2_inj (g := fun p => if decide (p.1.2.length ≤ 1000000000) = true then some [DV.b (sameL sySame p.1.2 p.2.2)] else none) (a := ((f, a), g, b))
  exact this.trans (if_pos (decide_eq_true h))
theorem sameEx_at3 {f g : Bool} {a b : List Exc} (h1 : a.length ≤ 1000000000) : sameEx_m [.c (.sl f (a.map Exc.row)), .c (.sl g (b.map Exc.row))] = some [.b (sameL Exc.same a b)] := by
  have := mE_eq encEs2_inj (g := fun p => if decide (p.1.2.length ≤ 1000000000) = true then some [DV.b (sameL Exc.same p.1.2 p.2.2)] else none) (a := ((f, a), g, b))
  exact this.trans (if_pos (decide_eq_true h1))
theorem stunp_at {f g k : Bool} {zs : List Zon} {ss : List Ses} {ps : List Pmt} {s : Sty} (h : unpOk ((s, f, zs), (g, ss), k, ps)) : stunp_m [.agg s.row, .c (.sl f (zs.map Zon.row)), .c (.sl g (ss.map Ses.row)), .c (.sl k (ps.map Pmt.row))] = some [.c (.sl (unpF zs ss ps s).1.isNone (((unpF zs ss ps s).1.getD []).map rwI)), .i (unpF zs ss ps s).2] := by
  have := mE_eq encUnp_inj (g := fun p => if unpOk p then some [DV.c (.sl (unpF p.1.2.2 p.2.1.2 p.2.2.2 p.1.1).1.isNone (((unpF p.1.2.2 p.2.1.2 p.2.2.2 p.1.1).1.getD []).map rwI)), .i (unpF p.1.2.2 p.2.1.2 p.2.2.2 p.1.1).2] else none) (a := ((s, f, zs), (g, ss), k, ps))
  exact this.trans (if_pos h)
theorem stpeak_at {f : Bool} {l : List Sty} {n : List UInt8} (h : l.length ≤ 1000000000) : stpeak_m [.c (.sl f (l.map Sty.row)), .c (.str n)] = some [.i (pkF l n).1, .i (pkF l n).2] := by
  have := mE_eq encSysN_inj (g := fun p => if decide (p.1.2.length ≤ 1000000000) = true then some [DV.i (pkF p.1.2 p.2).1, .i (pkF p.1.2 p.2).2] else none) (a := ((f, l), n))
  exact this.trans (if_pos (decide_eq_true h))
theorem wz1 : stpair_m [.c (.sl true [[.int .i64 6, .str [122], .str [65, 66, 49], .int .i64 500, .int .i64 0], [.int .i64 6, .str [122], .str [65, 66, 49], .int .i64 50, .int .i64 0], [.int .i64 5, .str [122], .str [65, 66, 49], .int .i64 100, .int .i64 0]])] = some [.c (.sl false [[.str [53, 46, 122, 46, 65, 66, 49, 46, 49, 48, 48, 46, 48], .str [122], .str [65, 66, 49], .int .i64 100, .int .i64 500]]), .c (.sl false [[.str [54, 46, 122, 46, 65, 66, 49, 46, 53, 48, 46, 48], .int .i64 10]])] := by
  have g := stpair_at (f := true) ok_3
  rw [gates_A, stays_A, excl_A, key_in3, key_ear3] at g
  exact g
theorem wz2 : r0sss_m [.c (.sl false [[.str [53, 46, 122, 46, 65, 66, 49, 46, 49, 48, 48, 46, 48], .str [122], .str [65, 66, 49], .int .i64 100, .int .i64 500]]), .c (.sl true [[.str [53, 46, 122, 46, 65, 66, 49, 46, 49, 48, 48, 46, 48], .str [122], .str [65, 66, 49], .int .i64 100, .int .i64 500]])] = some [.b true] := by
  have g := r0sss_at (f := false) (g := true) (a := [sA3]) (b := [sA3]) (by decide)
  rw [sameL_self sySame_self] at g
  exact g
theorem wz3 : sameEx_m [.c (.sl false [[.str [54, 46, 122, 46, 65, 66, 49, 46, 53, 48, 46, 48], .int .i64 10]]), .c (.sl true [[.str [54, 46, 122, 46, 65, 66, 49, 46, 53, 48, 46, 48], .int .i64 10]])] = some [.b true] := by
  have g := sameEx_at3 (f := false) (g := true) (a := [xA3]) (b := [xA3]) (by decide)
  rw [sameL_self exSame_self] at g
  exact g
theorem wz4 : stid_m [.agg [.str [53, 46, 122, 46, 65, 66, 49, 46, 49, 48, 48, 46, 48], .str [122], .str [65, 66, 49], .int .i64 100, .int .i64 500]] = some [.c (.str [53, 46, 122, 46, 65, 66, 49, 46, 49, 48, 48, 46, 48])] := by
  have g := stid_at ok_s3
  rw [show keyF sA3.ev = _ from key_in3] at g
  exact g
theorem wz5 : stchk_m [.agg [.str [53, 46, 122, 46, 65, 66, 49, 46, 49, 48, 48, 46, 48], .str [122], .str [65, 66, 49], .int .i64 100, .int .i64 500], .c (.sl true [[.str [122], .sl true [], .sl true [[.int .i64 0, .int .i64 60, .int .i64 1]], .int .i64 0, .int .i64 60, .int .i64 0, .int .i64 0]])] = some [.i 0] := by
  have g := stchk_at (f := true) ok_s3 ok_z3
  rw [chk_A] at g
  exact g
theorem wz6 : stchk_m [.agg [.str [53, 46, 122, 46, 65, 66, 49, 46, 49, 48, 48, 46, 48], .str [122], .str [65, 66, 49], .int .i64 100, .int .i64 500], .c (.sl true [])] = some [.i 23] := by
  have g := stchk_at (f := true) ok_s3 ok_z0
  rw [chk_A0] at g
  exact g
theorem wz7 : stunp_m [.agg [.str [53, 46, 122, 46, 65, 66, 49, 46, 49, 48, 48, 46, 48], .str [122], .str [65, 66, 49], .int .i64 100, .int .i64 500], .c (.sl true [[.str [122], .sl true [], .sl true [[.int .i64 0, .int .i64 60, .int .i64 1]], .int .i64 0, .int .i64 60, .int .i64 0, .int .i64 0]]), .c (.sl true []), .c (.sl true [])] = some [.c (.sl false [[.int .i64 160, .int .i64 500]]), .i 0] := by
  have g := stunp_at (f := true) (g := true) (k := true) (zs := [zA3]) (ss := []) (ps := []) (s := sA3) ⟨ok_s3, ok_z3, by decide, by decide, fun p hp => by cases hp⟩
  rw [unp_A1] at g
  exact g
theorem wz8 : stunp_m [.agg [.str [53, 46, 122, 46, 65, 66, 49, 46, 49, 48, 48, 46, 48], .str [122], .str [65, 66, 49], .int .i64 100, .int .i64 500], .c (.sl true [[.str [122], .sl true [], .sl true [[.int .i64 0, .int .i64 60, .int .i64 1]], .int .i64 0, .int .i64 60, .int .i64 0, .int .i64 0]]), .c (.sl true [[.str [], .str [122], .str [65, 66, 49], .int .i64 150, .int .i64 300, .int .i64 0, .sl true []]]), .c (.sl true [])] = some [.c (.sl false [[.int .i64 300, .int .i64 500]]), .i 0] := by
  have g := stunp_at (f := true) (g := true) (k := true) (zs := [zA3]) (ss := [wA3]) (ps := []) (s := sA3) ⟨ok_s3, ok_z3, by decide, by decide, fun p hp => by cases hp⟩
  rw [unp_A2] at g
  exact g
theorem wz9 : r5same_m [.c (.sl false [[.int .i64 160, .int .i64 500]]), .c (.sl true [[.int .i64 160, .int .i64 500]])] = some [.b true] := by
  have g := r5same_at (f := false) (g := true) (a := [(160, 500)]) (b := [(160, 500)]) (by decide)
  rw [decide_eq_true rfl] at g
  exact g
theorem wz10 : r5same_m [.c (.sl false [[.int .i64 300, .int .i64 500]]), .c (.sl true [[.int .i64 300, .int .i64 500]])] = some [.b true] := by
  have g := r5same_at (f := false) (g := true) (a := [(300, 500)]) (b := [(300, 500)]) (by decide)
  rw [decide_eq_true rfl] at g
  exact g
theorem wz11 : stpeak_m [.c (.sl true [[.str [53, 46, 122, 46, 65, 66, 49, 46, 49, 48, 48, 46, 48], .str [122], .str [65, 66, 49], .int .i64 100, .int .i64 500], [.str [], .str [122], .str [], .int .i64 200, .int .i64 300], [.str [], .str [122], .str [], .int .i64 300, .int .i64 400]]), .c (.str [122])] = some [.i 2, .i 200] := by
  have g := stpeak_at (f := true) (l := [sA3, sB3, sC3]) (n := [122]) (by decide)
  rw [peak_A] at g
  exact g
theorem wz12 : stpres_m [.c (.sl false [[.str [53, 46, 122, 46, 65, 66, 49, 46, 49, 48, 48, 46, 48], .str [122], .str [65, 66, 49], .int .i64 100, .int .i64 500]]), .c (.str [122]), .c (.int .i64 499)] = some [.i 1] := by
  have g := stpres_at (f := false) (l := [sA3]) (n := [122]) (t := 499) (by decide)
  rw [pres_A1] at g
  exact g
theorem wz13 : stpres_m [.c (.sl false [[.str [53, 46, 122, 46, 65, 66, 49, 46, 49, 48, 48, 46, 48], .str [122], .str [65, 66, 49], .int .i64 100, .int .i64 500]]), .c (.str [122]), .c (.int .i64 500)] = some [.i 0] := by
  have g := stpres_at (f := false) (l := [sA3]) (n := [122]) (t := 500) (by decide)
  rw [pres_A2] at g
  exact g
def yawake_m : List PA → Option (List PA) := m0 (some [.b true])
set_option maxHeartbeats 8000000 in
theorem yawake_ok : PureC Tryz.prog Gt 23 yawake_m := by
  refine pure_of_awpS (X := ctx Tryz.prog Gt [(15, stpair_m), (25, r0sss_m), (26, sameEx_m), (31, stid_m), (29, stchk_m), (20, stunp_m), (34, r5same_m), (35, stpeak_m), (37, stpres_m)]) Tryz.func23 rfl rfl (by kernel_rfl) (by kernel_rfl) (AllOk.cons stpair_ok (AllOk.cons r0sss_ok (AllOk.cons sameEx_ok (AllOk.cons stid_ok (AllOk.cons stchk_ok (AllOk.cons stunp_ok (AllOk.cons r5same_ok (AllOk.cons stpeak_ok (AllOk.cons stpres_ok AllOk.nil))))))))).kok ?_
  intro args r h0
  obtain ⟨rfl, h⟩ := m0_inv h0
  refine ⟨Nat.le_of_ble_eq_true rfl, ?_⟩
  cases h
  have ek : (([53, 46, 122, 46, 65, 66, 49, 46, 49, 48, 48, 46, 48] : List UInt8) == [53, 46, 122, 46, 65, 66, 49, 46, 49, 48, 48, 46, 48]) = true := by decide
  have hc := Nat.zero_add 0
  repeat' (first | simp only [hc, AS, Tryz.f23, SX, wz1, wz2, wz3, wz4, wz5, wz6, wz7, wz8, wz9, wz10, wz11, wz12, wz13, ek, ZZ, simprocAttr, ↓reduceIte] | refine Zi ?_ )
theorem yawake_at : yawake_m [] = some [.c (.bool true)] := rfl
end
end Go.Ab
