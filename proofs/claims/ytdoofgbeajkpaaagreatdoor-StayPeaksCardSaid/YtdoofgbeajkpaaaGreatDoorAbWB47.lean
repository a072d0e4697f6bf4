/-
  Texts of the layer and of the laws, put together: AbJ35, AbJ36.
-/
import Derived.Test.YtdoofgbeajkpaaaGreatDoorAbWB46
set_option linter.unusedSimpArgs false
set_option linter.unusedVariables false
set_option maxRecDepth 100000
namespace Go.Ab
open Go.RowKit Go.Proofs
def Sty.In (s : Sty) : Prop := inI s.v.1 = true ∧ inI s.v.2 = true
theorem short3_ok {s : Sty} (h : shortY s = true) (hi : s.In) : s.Ok := by
  simp only [shortY, Bool.and_eq_true, decide_eq_true_eq] at h
  exact ⟨hi.1, hi.2, by omega, by omega⟩
theorem some3_ok {c : Clm} (h : someV c = true) : zonesOk c.zs ∧ c.ss.length ≤ 20 ∧ pmtsOk c.ps := by
  simp only [someV, smN, Bool.and_eq_true, decide_eq_true_eq, List.all_eq_true] at h
  obtain ⟨h1, h2, h3, h4, h5, h6⟩ := h
  refine ⟨⟨by omega, fun z hz => ?_⟩, by omega, by omega, fun p hp => ?_⟩
  · have := h1 z hz
    simp only [smZ, Bool.and_eq_true, decide_eq_true_eq] at this
    exact ⟨by omega, by omega⟩
  have := h3 p hp
  simp only [smP, Bool.and_eq_true, decide_eq_true_eq] at this
  exact ⟨by omega, by omega⟩
noncomputable section
open Classical
theorem short3_at {s : Sty} : short30_m [.agg s.row] = some [.b (shortY s)] := mE_eq encSy_inj (g := fun s => some [DV.b (shortY s)]) (a := s)
theorem some3_at {c : Clm} (h1 : c.zs.length ≤ 9223372036854775807) (h2 : c.ss.length ≤ 9223372036854775807) (h3 : c.ps.length ≤ 9223372036854775807) : some30_m [.agg c.row] = some [.b (someV c)] := by
  have := mE_eq encC_inj (g := fun c : Clm => if decide (c.zs.length ≤ 9223372036854775807 ∧ c.ss.length ≤ 9223372036854775807 ∧ c.ps.length ≤ 9223372036854775807) = true then some [DV.b (someV c)] else none) (a := c)
  exact this.trans (if_pos (decide_eq_true ⟨h1, h2, h3⟩))
def yChecks_m : List PA → Option (List PA) := mE encSyZ fun p => if p.1.In ∧ p.2.2.length ≤ 9223372036854775807 then some [.b true] else none
theorem yChecks_ok : PureC Tryz.prog Gt 5 yChecks_m := by
  refine pure_of_awpS (X := ctx Tryz.prog Gt [(27, short30_m), (28, some30_m), (29, stchk_m), (30, r0chk_m), (31, stid_m), (32, r0id_m), (23, yawake_m)]) Tryz.func5 rfl rfl (by kernel_rfl) (by kernel_rfl) (AllOk.cons short30_ok (AllOk.cons some30_ok (AllOk.cons stchk_ok (AllOk.cons r0chk_ok (AllOk.cons stid_ok (AllOk.cons r0id_ok (AllOk.cons yawake_ok AllOk.nil))))))).kok ?_
  intro args r h0
  obtain ⟨⟨s, f, zs⟩, rfl, h⟩ := mE_inv h0
  refine ⟨Nat.le_of_ble_eq_true rfl, ?_⟩
  split at h
  · rename_i hl
    dsimp only at hl h
    cases h
    have e0 := yawake_at
    have f1 := @short3_at s
    have f2 := @some3_at ⟨f, zs, true, [], true, []⟩ hl.2 (by simp) (by simp)
    cases c1 : shortY s
    · rw [c1] at f1
      simp only [Sty.row] at f1
      have hc := Nat.zero_add 0
      repeat' (first | simp only [hc, AS, Tryz.f5, encSyZ, Sty.row, SX, e0, f1, ZZ, simprocAttr, ↓reduceIte, ZF, ZE, ZN, ZI, ZB] | ((first | apply Za | apply Zb | apply Zc | apply Zd | apply Ze | apply Zf | apply Zg | apply Zh) <;> intro hc) | refine Zi ?_ | refine Zj ?_)
      all_goals simp [DV.b]
    rw [c1] at f1
    cases c2 : someV ⟨f, zs, true, [], true, []⟩
    · rw [c2] at f2
      simp only [Sty.row, Clm.row, List.map_nil] at f1 f2
      have hc := Nat.zero_add 0
      repeat' (first | simp only [hc, AS, Tryz.f5, encSyZ, Sty.row, SX, e0, f1, f2, ZZ, simprocAttr, ↓reduceIte, ZF, ZE, ZN, ZI, ZB] | ((first | apply Za | apply Zb | apply Zc | apply Zd | apply Ze | apply Zf | apply Zg | apply Zh) <;> intro hc) | refine Zi ?_ | refine Zj ?_)
      all_goals simp [DV.b]
    rw [c2] at f2
    have hs := short3_ok c1 hl.1
    obtain ⟨hz, _⟩ := some3_ok c2
    have f3 := stchk_at (f := f) hs hz
    have f4 := r0chk_at (f := f) hs hz
    have f5 := stid_at hs
    have f6 := r0id_at hs
    generalize chkF zs s = ck at *
    generalize keyF s.ev = ky at *
    simp only [Sty.row, Clm.row, List.map_nil] at f1 f2 f3 f4 f5 f6
    have hc := Nat.zero_add 0
    repeat' (first | simp only [hc, AS, Tryz.f5, encSyZ, Sty.row, SX, e0, f1, f2, f3, f4, f5, f6, ZZ, simprocAttr, ↓reduceIte, ZF, ZE, ZN, ZI, ZB] | ((first | apply Za | apply Zb | apply Zc | apply Zd | apply Ze | apply Zf | apply Zg | apply Zh) <;> intro hc) | refine Zi ?_ | refine Zj ?_)
    all_goals simp [DV.b]
  cases h
end
end Go.Ab
namespace Go.Ab
open Go.RowKit Go.Proofs
noncomputable section
open Classical
theorem r0peak_at {f : Bool} {l : List Sty} {n : List UInt8} (h : l.length ≤ 1000000000) : r0peak_m [.c (.sl f (l.map Sty.row)), .c (.str n)] = some [.i (pkF l n).1, .i (pkF l n).2] := by
  rw [pk_same]
  have := mE_eq encSysN_inj (g := fun p => if decide (p.1.2.length ≤ 1000000000) = true then some [DV.i (rpkF p.1.2 p.2).1, .i (rpkF p.1.2 p.2).2] else none) (a := ((f, l), n))
  exact this.trans (if_pos (decide_eq_true h))
def yCounts_m : List PA → Option (List PA) := mE encSysT fun p => if p.1.2.length ≤ 9223372036854775807 then some [.b true] else none
def yPeaks_m : List PA → Option (List PA) := mE encSysT fun p => if p.1.2.length ≤ 9223372036854775807 then some [.b true] else none
set_option maxHeartbeats 1000000 in
theorem yCounts_ok : PureC Tryz.prog Gt 7 yCounts_m := by
  refine pure_of_awpS (X := ctx Tryz.prog Gt [(27, short30_m), (35, stpeak_m), (36, r0peak_m), (37, stpres_m), (38, r0pres_m), (23, yawake_m)]) Tryz.func7 rfl rfl (by kernel_rfl) (by kernel_rfl) (AllOk.cons short30_ok (AllOk.cons stpeak_ok (AllOk.cons r0peak_ok (AllOk.cons stpres_ok (AllOk.cons r0pres_ok (AllOk.cons yawake_ok AllOk.nil)))))).kok ?_
  intro args r h0
  obtain ⟨⟨⟨f, l⟩, n, t⟩, rfl, h⟩ := mE_inv h0
  refine ⟨Nat.le_of_ble_eq_true rfl, ?_⟩
  split at h
  · cases h
    have e0 := yawake_at
    have l1 := @lenSy l
    by_cases c1 : (40 : Int) < l.length
    · have c1' := eq_true c1
      have hc := Nat.zero_add 0
      repeat' (first | simp only [hc, AS, Tryz.f7, encSysT, SX, e0, l1, c1', ZZ, simprocAttr, ↓reduceIte, ZF, ZE, ZN, ZI, ZB] | ((first | apply Za | apply Zb | apply Zc | apply Zd | apply Ze | apply Zf | apply Zg | apply Zh) <;> intro hc) | refine Zi ?_ | refine Zj ?_)
      all_goals simp [DV.b]
    have c1' := eq_false c1
    by_cases c2 : (40 : Int) < n.length
    · have c2' := eq_true c2
      have hc := Nat.zero_add 0
      repeat' (first | simp only [hc, AS, Tryz.f7, encSysT, SX, e0, l1, c1', c2', ZZ, simprocAttr, ↓reduceIte, ZF, ZE, ZN, ZI, ZB] | ((first | apply Za | apply Zb | apply Zc | apply Zd | apply Ze | apply Zf | apply Zg | apply Zh) <;> intro hc) | refine Zi ?_ | refine Zj ?_)
      all_goals simp [DV.b]
    have c2' := eq_false c2
    have hc := Nat.zero_add 0
    repeat' (first | simp only [hc, AS, Tryz.f7, encSysT, SX, e0, l1, c1', c2', ZZ, simprocAttr, ↓reduceIte, ZF, ZE, ZN, ZI, ZB] | ((first | apply Za | apply Zb | apply Zc | apply Zd | apply Ze | apply Zf | apply Zg | apply Zh) <;> intro hc) | refine Zi ?_ | refine Zj ?_)
    refine awpS_loop (σ := Nat) (fun k => k ≤ l.length) (fun k => ⟨[(7, AV.i k), (0, AV.d (.sl f (l.map Sty.row))), (1, AV.s n), (2, AV.i t)], []⟩) (fun k => l.length - k) 0 (Wk.sub' (by simp [subT, look]) rfl) (Nat.zero_le _) ?_
    intro k hk
    by_cases hkl : k < l.length
    · have c3 : ((k : Int) < (l.length : Int)) = True := eq_true (by omega)
      have w1 := wI (n := (k : Int) + 1) (by omega) (by omega)
      have e1 := sy_at hkl
      have f1 := @short3_at l[k]
      generalize l[k] = x at *
      simp only [Sty.row] at f1
      cases c4 : shortY x
      · rw [c4] at f1
        have hc := Nat.zero_add 0
        repeat' (first | simp only [hc, AS, SX, e0, l1, c3, nn, e1, f1, ZZ, simprocAttr, ↓reduceIte, ZF, ZE, ZN, ZI, ZB] | ((first | apply Za | apply Zb | apply Zc | apply Zd | apply Ze | apply Zf | apply Zg | apply Zh) <;> intro hc) | refine Zi ?_ | refine Zj ?_)
        all_goals simp [DV.b]
      rw [c4] at f1
      have hc := Nat.zero_add 0
      repeat' (first | simp only [hc, AS, SX, e0, l1, c3, nn, e1, f1, w1, ZZ, simprocAttr, ↓reduceIte, ZF, ZE, ZN, ZI, ZB] | ((first | apply Za | apply Zb | apply Zc | apply Zd | apply Ze | apply Zf | apply Zg | apply Zh) <;> intro hc) | refine Zi ?_ | refine Zj ?_)
      exact lp_next (k + 1) (Wk.sub' (by simp [subT, look]) rfl) (by omega) (by omega)
    have c3 : ((k : Int) < (l.length : Int)) = False := eq_false (by omega)
    have f2 := @stpeak_at f l n (by omega)
    have f3 := @r0peak_at f l n (by omega)
    have f4 := @stpres_at f l n t (by omega)
    have f5 := @r0pres_at f l n t (by omega)
    generalize pkF l n = p at *
    generalize presF l n t = q at *
    have hc := Nat.zero_add 0
    repeat' (first | simp only [hc, AS, SX, e0, l1, c3, f2, f3, f4, f5, ZZ, simprocAttr, ↓reduceIte, ZF, ZE, ZN, ZI, ZB] | ((first | apply Za | apply Zb | apply Zc | apply Zd | apply Ze | apply Zf | apply Zg | apply Zh) <;> intro hc) | refine Zi ?_ | refine Zj ?_)
    all_goals simp [DV.b]
  cases h
set_option maxHeartbeats 1000000 in
theorem yPeaks_ok : PureC Tryz.prog Gt 10 yPeaks_m := by
  refine pure_of_awpS (X := ctx Tryz.prog Gt [(27, short30_m), (35, stpeak_m), (37, stpres_m), (23, yawake_m)]) Tryz.func10 rfl rfl (by kernel_rfl) (by kernel_rfl) (AllOk.cons short30_ok (AllOk.cons stpeak_ok (AllOk.cons stpres_ok (AllOk.cons yawake_ok AllOk.nil)))).kok ?_
  intro args r h0
  obtain ⟨⟨⟨f, l⟩, n, t⟩, rfl, h⟩ := mE_inv h0
  refine ⟨Nat.le_of_ble_eq_true rfl, ?_⟩
  split at h
  · cases h
    have e0 := yawake_at
    have l1 := @lenSy l
    by_cases c1 : (40 : Int) < l.length
    · have c1' := eq_true c1
      have hc := Nat.zero_add 0
      repeat' (first | simp only [hc, AS, Tryz.f10, encSysT, SX, e0, l1, c1', ZZ, simprocAttr, ↓reduceIte, ZF, ZE, ZN, ZI, ZB] | ((first | apply Za | apply Zb | apply Zc | apply Zd | apply Ze | apply Zf | apply Zg | apply Zh) <;> intro hc) | refine Zi ?_ | refine Zj ?_)
      all_goals simp [DV.b]
    have c1' := eq_false c1
    by_cases c2 : (40 : Int) < n.length
    · have c2' := eq_true c2
      have hc := Nat.zero_add 0
      repeat' (first | simp only [hc, AS, Tryz.f10, encSysT, SX, e0, l1, c1', c2', ZZ, simprocAttr, ↓reduceIte, ZF, ZE, ZN, ZI, ZB] | ((first | apply Za | apply Zb | apply Zc | apply Zd | apply Ze | apply Zf | apply Zg | apply Zh) <;> intro hc) | refine Zi ?_ | refine Zj ?_)
      all_goals simp [DV.b]
    have c2' := eq_false c2
    have hc := Nat.zero_add 0
    repeat' (first | simp only [hc, AS, Tryz.f10, encSysT, SX, e0, l1, c1', c2', ZZ, simprocAttr, ↓reduceIte, ZF, ZE, ZN, ZI, ZB] | ((first | apply Za | apply Zb | apply Zc | apply Zd | apply Ze | apply Zf | apply Zg | apply Zh) <;> intro hc) | refine Zi ?_ | refine Zj ?_)
    refine awpS_loop (σ := Nat) (fun k => k ≤ l.length) (fun k => ⟨[(7, AV.i k), (0, AV.d (.sl f (l.map Sty.row))), (1, AV.s n), (2, AV.i t)], []⟩) (fun k => l.length - k) 0 (Wk.sub' (by simp [subT, look]) rfl) (Nat.zero_le _) ?_
    intro k hk
    by_cases hkl : k < l.length
    · have c3 : ((k : Int) < (l.length : Int)) = True := eq_true (by omega)
      have w1 := wI (n := (k : Int) + 1) (by omega) (by omega)
      have e1 := sy_at hkl
      have f1 := @short3_at l[k]
      generalize l[k] = x at *
      simp only [Sty.row] at f1
      cases c4 : shortY x
      · rw [c4] at f1
        have hc := Nat.zero_add 0
        repeat' (first | simp only [hc, AS, SX, e0, l1, c3, nn, e1, f1, ZZ, simprocAttr, ↓reduceIte, ZF, ZE, ZN, ZI, ZB] | ((first | apply Za | apply Zb | apply Zc | apply Zd | apply Ze | apply Zf | apply Zg | apply Zh) <;> intro hc) | refine Zi ?_ | refine Zj ?_)
        all_goals simp [DV.b]
      rw [c4] at f1
      have hc := Nat.zero_add 0
      repeat' (first | simp only [hc, AS, SX, e0, l1, c3, nn, e1, f1, w1, ZZ, simprocAttr, ↓reduceIte, ZF, ZE, ZN, ZI, ZB] | ((first | apply Za | apply Zb | apply Zc | apply Zd | apply Ze | apply Zf | apply Zg | apply Zh) <;> intro hc) | refine Zi ?_ | refine Zj ?_)
      exact lp_next (k + 1) (Wk.sub' (by simp [subT, look]) rfl) (by omega) (by omega)
    have c3 : ((k : Int) < (l.length : Int)) = False := eq_false (by omega)
    have f2 := @stpeak_at f l n (by omega)
    have f4 := @stpres_at f l n t (by omega)
    have f5 := @stpres_at f l n (pkF l n).2 (by omega)
    obtain ⟨g1, g2, g3⟩ := pk_laws l n t
    generalize presF l n (pkF l n).2 = q2 at *
    generalize pkF l n = p at *
    generalize presF l n t = q at *
    obtain ⟨p1, p2⟩ := p
    dsimp only at g1 g2 g3 f2 f5
    subst g2
    have k1 : ((q2 : Int) < (q : Int)) = False := eq_false (by omega)
    have k2 : ((q : Int) < 0) = False := eq_false (by omega)
    by_cases m0 : q2 = 0
    · have m0' : ((q2 : Int) = 0) = True := eq_true (by omega)
      have p0 : p2 = 0 := by rcases g3 with h | h <;> omega
      subst p0
      have hc := Nat.zero_add 0
      repeat' (first | simp only [hc, AS, SX, e0, l1, c3, f2, f4, f5, k1, k2, m0', bne, ZZ, simprocAttr, ↓reduceIte, ZF, ZE, ZN, ZI, ZB] | ((first | apply Za | apply Zb | apply Zc | apply Zd | apply Ze | apply Zf | apply Zg | apply Zh) <;> intro hc) | refine Zi ?_ | refine Zj ?_)
      all_goals simp [DV.b]
    have m0' : ((q2 : Int) = 0) = False := eq_false (by omega)
    have m1 : ((0 : Int) < (q2 : Int)) = True := eq_true (by omega)
    have g4 : p2 ≤ t ∨ (q : Int) < (q2 : Int) := by rcases g3 with h | h <;> omega
    by_cases t0 : t < 0
    · have t0' := eq_true t0
      have hc := Nat.zero_add 0
      repeat' (first | simp only [hc, AS, SX, e0, l1, c3, f2, f4, f5, k1, k2, m0', m1, t0', bne, ZZ, simprocAttr, ↓reduceIte, ZF, ZE, ZN, ZI, ZB] | ((first | apply Za | apply Zb | apply Zc | apply Zd | apply Ze | apply Zf | apply Zg | apply Zh) <;> intro hc) | refine Zi ?_ | refine Zj ?_)
      all_goals simp [DV.b]
    have t0' := eq_false t0
    by_cases t1 : p2 ≤ t
    · have t1' := eq_true t1
      have hc := Nat.zero_add 0
      repeat' (first | simp only [hc, AS, SX, e0, l1, c3, f2, f4, f5, k1, k2, m0', m1, t0', t1', bne, ZZ, simprocAttr, ↓reduceIte, ZF, ZE, ZN, ZI, ZB] | ((first | apply Za | apply Zb | apply Zc | apply Zd | apply Ze | apply Zf | apply Zg | apply Zh) <;> intro hc) | refine Zi ?_ | refine Zj ?_)
      all_goals simp [DV.b]
    have t1' := eq_false t1
    have t2 : ((q : Int) < (q2 : Int)) = True := eq_true (by omega)
    have hc := Nat.zero_add 0
    repeat' (first | simp only [hc, AS, SX, e0, l1, c3, f2, f4, f5, k1, k2, m0', m1, t0', t1', t2, bne, ZZ, simprocAttr, ↓reduceIte, ZF, ZE, ZN, ZI, ZB] | ((first | apply Za | apply Zb | apply Zc | apply Zd | apply Ze | apply Zf | apply Zg | apply Zh) <;> intro hc) | refine Zi ?_ | refine Zj ?_)
    all_goals simp [DV.b]
  cases h
end
end Go.Ab
