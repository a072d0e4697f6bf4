/-
  Texts of the layer and of the laws, put together: AbJ38.
-/
import Derived.Test.YtdoofgbeajkpaaaGreatDoorAbWA47
set_option linter.unusedSimpArgs false
set_option linter.unusedVariables false
set_option maxRecDepth 100000
namespace Go.Ab
open Go.RowKit Go.Proofs
noncomputable section
open Classical
theorem r7sort_at3 {f : Bool} {l : List Par} (h : parsOk l) : r7sort_m [.c (.sl f (l.map Par.row))] = some [.c (.sl false ((sortR l).map Par.row))] := by
  have := mE_eq encPs_inj (g := fun p => if parsOk p.2 then some [DV.c (.sl false ((sortR p.2).map Par.row))] else none) (a := (f, l))
  exact this.trans (if_pos h)
def yOnce_m : List PA → Option (List PA) := mE encPs fun p => if (∀ q ∈ p.2, q.In3) ∧ p.2.length ≤ 9223372036854775807 then some [.b true] else none
set_option maxHeartbeats 2000000 in
theorem yOnce_ok : PureC Tryz.prog Gt 9 yOnce_m := by
  refine pure_of_awpS (X := ctx Tryz.prog Gt [(22, fewL30_m), (15, stpair_m), (39, r7sort_m), (23, yawake_m)]) Tryz.func9 rfl rfl (by kernel_rfl) (by kernel_rfl) (AllOk.cons fewL30_ok (AllOk.cons stpair_ok (AllOk.cons r7sort_ok (AllOk.cons yawake_ok AllOk.nil)))).kok ?_
  intro args r h0
  obtain ⟨⟨f, l⟩, rfl, h⟩ := mE_inv h0
  refine ⟨Nat.le_of_ble_eq_true rfl, ?_⟩
  split at h
  · rename_i hl
    dsimp only at hl h
    cases h
    have e0 := yawake_at
    have f1 := few3_at (f := f) hl.2
    cases c1 : fewV l
    · rw [c1] at f1
      have hc := Nat.zero_add 0
      repeat' (first | simp only [hc, AS, Tryz.f9, encPs, SX, e0, f1, ZZ, simprocAttr, ↓reduceIte, ZF, ZE, ZN, ZI, ZB] | ((first | apply Za | apply Zb | apply Zc | apply Zd | apply Ze | apply Zf | apply Zg | apply Zh) <;> intro hc) | refine Zi ?_ | refine Zj ?_)
      all_goals simp [DV.b]
    rw [c1] at f1
    obtain ⟨hp, h40⟩ := few3_ok c1 hl.1
    have f2 := stpair_at (f := f) hp
    have f3 := r7sort_at3 (f := f) hp
    have g1 := gates_len l
    have g2 := stays_le (gatesF l)
    have g3 := excl_le (gatesF l)
    have hgs := gates_sort l
    have hsl := sortR_len l
    have hcount := stays_count (gates_time l) (gates_gate l)
    obtain ⟨hgood, hpair⟩ := stays_good (gates_time l)
    generalize rstays (gatesF l) = L at *
    generalize rexcl (gatesF l) = XX at *
    generalize gatesF l = G at *
    generalize sortR l = SL at *
    have l1 := @lenP' SL
    have l2 := @lenSy L
    have l3 := @lenEx XX
    have hc := Nat.zero_add 0
    repeat' (first | simp only [hc, AS, Tryz.f9, encPs, SX, e0, f1, f2, f3, ZZ, simprocAttr, ↓reduceIte, ZF, ZE, ZN, ZI, ZB] | ((first | apply Za | apply Zb | apply Zc | apply Zd | apply Ze | apply Zf | apply Zg | apply Zh) <;> intro hc) | refine Zi ?_ | refine Zj ?_)
    obtain ⟨F, hF⟩ : ∃ F : Nat → Nat, F = fun j => ((SL.take j).filter isGate).length := ⟨_, rfl⟩
    have hF0 : F 0 = 0 := by rw [hF]; rfl
    have hFle : ∀ j, F j ≤ SL.length := fun j => by
      rw [hF]
      exact Nat.le_trans (List.length_filter_le _ _) (by rw [List.length_take]; omega)
    refine awpS_loop (σ := Nat) (fun k => k ≤ SL.length) (fun k => ⟨[(7, AV.i k), (6, AV.i (F k)), (5, AV.d (.sl false (SL.map Par.row))), (4, AV.d (.sl false (XX.map Exc.row))), (3, AV.d (.sl false (L.map Sty.row)))], []⟩) (fun k => SL.length - k) 0 (Wk.sub' (by simp [subT, look, hF0]) rfl) (Nat.zero_le _) ?_
    intro k hk
    have hfk := hFle k
    by_cases hkl : k < SL.length
    · have c3 : ((k : Int) < (SL.length : Int)) = True := eq_true (by omega)
      have w1 := wI (n := (k : Int) + 1) (by omega) (by omega)
      have w2 := wI (n := (F k : Int) + 1) (by omega) (by omega)
      have e1 := pr_at hkl
      have hFs : F (k + 1) = F k + (if isGate SL[k] = true then 1 else 0) := by
        rw [hF]
        dsimp only
        rw [List.take_succ_eq_append_getElem hkl, List.filter_append, List.length_append]
        by_cases hc : isGate SL[k] = true <;> simp [hc]
      have hgd : isGate SL[k] = true ↔ SL[k].kind = 5 ∨ SL[k].kind = 6 := by simp [isGate]
      generalize SL[k] = x at *
      by_cases d1 : x.kind = 5
      · have d1' := eq_true d1
        rw [if_pos (hgd.2 (.inl d1))] at hFs
        have hc := Nat.zero_add 0
        repeat' (first | simp only [hc, AS, SX, l1, c3, nn, e1, w1, w2, d1', ZZ, simprocAttr, ↓reduceIte, ZF, ZE, ZN, ZI, ZB] | ((first | apply Za | apply Zb | apply Zc | apply Zd | apply Ze | apply Zf | apply Zg | apply Zh) <;> intro hc) | refine Zi ?_ | refine Zj ?_)
        exact lp_next (k + 1) (Wk.sub' (by simp [subT, look, hFs]) rfl) (by omega) (by omega)
      have d1' := eq_false d1
      by_cases d2 : x.kind = 6
      · have d2' := eq_true d2
        rw [if_pos (hgd.2 (.inr d2))] at hFs
        have hc := Nat.zero_add 0
        repeat' (first | simp only [hc, AS, SX, l1, c3, nn, e1, w1, w2, d1', d2', ZZ, simprocAttr, ↓reduceIte, ZF, ZE, ZN, ZI, ZB] | ((first | apply Za | apply Zb | apply Zc | apply Zd | apply Ze | apply Zf | apply Zg | apply Zh) <;> intro hc) | refine Zi ?_ | refine Zj ?_)
        exact lp_next (k + 1) (Wk.sub' (by simp [subT, look, hFs]) rfl) (by omega) (by omega)
      have d2' := eq_false d2
      rw [if_neg (fun h => (hgd.1 h).elim d1 d2), Nat.add_zero] at hFs
      have hc := Nat.zero_add 0
      repeat' (first | simp only [hc, AS, SX, l1, c3, nn, e1, w1, w2, d1', d2', ZZ, simprocAttr, ↓reduceIte, ZF, ZE, ZN, ZI, ZB] | ((first | apply Za | apply Zb | apply Zc | apply Zd | apply Ze | apply Zf | apply Zg | apply Zh) <;> intro hc) | refine Zi ?_ | refine Zj ?_)
      exact lp_next (k + 1) (Wk.sub' (by simp [subT, look, hFs]) rfl) (by omega) (by omega)
    have c3 : ((k : Int) < (SL.length : Int)) = False := eq_false (by omega)
    have hFk : F k = G.length := by
      rw [hF, ← hgs]
      dsimp only
      rw [List.take_of_length_le (by omega)]
    rw [hFk]
    have hc := Nat.zero_add 0
    repeat' (first | simp only [hc, AS, SX, l1, c3, ZZ, simprocAttr, ↓reduceIte, ZF, ZE, ZN, ZI, ZB] | ((first | apply Za | apply Zb | apply Zc | apply Zd | apply Ze | apply Zf | apply Zg | apply Zh) <;> intro hc) | refine Zi ?_ | refine Zj ?_)
    refine awpS_loop (σ := Nat) (fun i => i ≤ L.length) (fun i => ⟨[(8, AV.i i), (6, AV.i G.length), (4, AV.d (.sl false (XX.map Exc.row))), (3, AV.d (.sl false (L.map Sty.row)))], []⟩) (fun i => L.length - i) 0 (Wk.sub' (by simp [subT, look]) rfl) (Nat.zero_le _) ?_
    intro i hi
    by_cases hil : i < L.length
    · have c4 : ((i : Int) < (L.length : Int)) = True := eq_true (by omega)
      have w3 := wI (n := (i : Int) + 1) (by omega) (by omega)
      have e2 := sy_at hil
      have d3 : (L[i].v.2 ≤ L[i].v.1) = False := eq_false (by have := hgood L[i] (List.getElem_mem hil); omega)
      have hc := Nat.zero_add 0
      repeat' (first | simp only [hc, AS, SX, l2, c4, nn, e2, d3, ZZ, simprocAttr, ↓reduceIte, ZF, ZE, ZN, ZI, ZB] | ((first | apply Za | apply Zb | apply Zc | apply Zd | apply Ze | apply Zf | apply Zg | apply Zh) <;> intro hc) | refine Zi ?_ | refine Zj ?_)
      refine awpS_loop (σ := Nat) (fun k => k ≤ i) (fun k => ⟨[(9, AV.i k), (8, AV.i i), (6, AV.i G.length), (4, AV.d (.sl false (XX.map Exc.row))), (3, AV.d (.sl false (L.map Sty.row)))], []⟩) (fun k => i - k) 0 (Wk.sub' (by simp [subT, look]) rfl) (Nat.zero_le _) ?_
      intro k hk
      by_cases hki : k < i
      · have hkL : k < L.length := by omega
        have c5 : ((k : Int) < (i : Int)) = True := eq_true (by omega)
        have w4 := wI (n := (k : Int) + 1) (by omega) (by omega)
        have e3 := sy_at hkL
        have hpp := List.pairwise_iff_getElem.1 hpair k i hkL hil hki
        generalize L[i] = y at *
        generalize L[k] = x at *
        by_cases q1 : y.zone = x.zone
        · have q1' : (y.zone == x.zone) = true := by simpa using q1
          by_cases q2 : y.plate = x.plate
          · have q2' : (y.plate == x.plate) = true := by simpa using q2
            have q3 : (y.v.1 < x.v.2) = False := eq_false (by have := hpp q1.symm q2.symm; omega)
            have hc := Nat.zero_add 0
            repeat' (first | simp only [hc, AS, SX, l2, c5, nn, e2, e3, w4, q1', q2', q3, ZZ, simprocAttr, ↓reduceIte, ZF, ZE, ZN, ZI, ZB] | ((first | apply Za | apply Zb | apply Zc | apply Zd | apply Ze | apply Zf | apply Zg | apply Zh) <;> intro hc) | refine Zi ?_ | refine Zj ?_)
            exact lp_next (k + 1) (Wk.sub' (by simp [subT, look]) rfl) (by omega) (by omega)
          have q2' : (y.plate == x.plate) = false := by simpa using q2
          have hc := Nat.zero_add 0
          repeat' (first | simp only [hc, AS, SX, l2, c5, nn, e2, e3, w4, q1', q2', ZZ, simprocAttr, ↓reduceIte, ZF, ZE, ZN, ZI, ZB] | ((first | apply Za | apply Zb | apply Zc | apply Zd | apply Ze | apply Zf | apply Zg | apply Zh) <;> intro hc) | refine Zi ?_ | refine Zj ?_)
          exact lp_next (k + 1) (Wk.sub' (by simp [subT, look]) rfl) (by omega) (by omega)
        have q1' : (y.zone == x.zone) = false := by simpa using q1
        have hc := Nat.zero_add 0
        repeat' (first | simp only [hc, AS, SX, l2, c5, nn, e2, e3, w4, q1', ZZ, simprocAttr, ↓reduceIte, ZF, ZE, ZN, ZI, ZB] | ((first | apply Za | apply Zb | apply Zc | apply Zd | apply Ze | apply Zf | apply Zg | apply Zh) <;> intro hc) | refine Zi ?_ | refine Zj ?_)
        exact lp_next (k + 1) (Wk.sub' (by simp [subT, look]) rfl) (by omega) (by omega)
      have c5 : ((k : Int) < (i : Int)) = False := eq_false (by omega)
      have hc := Nat.zero_add 0
      repeat' (first | simp only [hc, AS, SX, l2, c5, w3, ZZ, simprocAttr, ↓reduceIte, ZF, ZE, ZN, ZI, ZB] | ((first | apply Za | apply Zb | apply Zc | apply Zd | apply Ze | apply Zf | apply Zg | apply Zh) <;> intro hc) | refine Zi ?_ | refine Zj ?_)
      exact lp_next (i + 1) (Wk.sub' (by simp [subT, look]) rfl) (by omega) (by omega)
    have c4 : ((i : Int) < (L.length : Int)) = False := eq_false (by omega)
    have w5 := wI (n := 2 * (L.length : Int)) (by omega) (by omega)
    have w6 := wI (n := 2 * (L.length : Int) + (XX.length : Int)) (by omega) (by omega)
    have q4 : ((G.length : Int) = 2 * (L.length : Int) + (XX.length : Int)) = True := eq_true (by omega)
    have hc := Nat.zero_add 0
    repeat' (first | simp only [hc, AS, SX, l2, l3, c4, w5, w6, q4, e0, ZZ, simprocAttr, ↓reduceIte, ZF, ZE, ZN, ZI, ZB] | ((first | apply Za | apply Zb | apply Zc | apply Zd | apply Ze | apply Zf | apply Zg | apply Zh) <;> intro hc) | refine Zi ?_ | refine Zj ?_)
    all_goals simp [DV.b]
  cases h
end
end Go.Ab
