/-
  Texts of the layer and of the laws, put together: AbJ35, AbJ37.
-/
import Derived.Test.YtdoofgbeajkpaaaGreatDoorAbWA46
import Derived.Test.YtdoofgbeajkpaaaGreatDoorAbWA44
set_option linter.unusedSimpArgs false
set_option linter.unusedVariables false
set_option maxRecDepth 100000
namespace Go.Ab
open Go.RowKit Go.Proofs
def Par.In3 (p : Par) : Prop := inI p.kind = true ∧ inI p.time = true ∧ inI p.til = true
theorem few3_ok {l : List Par} (h : fewV l = true) (hi : ∀ p ∈ l, p.In3) : parsOk l ∧ l.length ≤ 40 := by
  unfold fewV at h
  rw [Bool.and_eq_true, List.all_eq_true, decide_eq_true_eq] at h
  refine ⟨⟨by omega, fun p hp => ?_⟩, by omega⟩
  have h1 := h.1 p hp
  simp only [shortV, Bool.and_eq_true, decide_eq_true_eq] at h1
  obtain ⟨a, b, c⟩ := hi p hp
  exact ⟨a, b, c, by omega, by omega⟩
theorem gates_len (l : List Par) : (gatesF l).length ≤ l.length := Nat.le_trans (sortR_len _) (List.length_filter_le _ _)
theorem stays_le (l : List Par) : (rstays l).length ≤ l.length := fmap_len fun _ => stOf_len
theorem excl_le (l : List Par) : (rexcl l).length ≤ l.length := fmap_len fun _ => exOf_len
noncomputable section
open Classical
theorem few3_at {f : Bool} {l : List Par} (h : l.length ≤ 9223372036854775807) : fewL30_m [.c (.sl f (l.map Par.row))] = some [.b (fewV l)] := by
  have := mE_eq encPs_inj (g := fun p => if decide (p.2.length ≤ 9223372036854775807) = true then some [DV.b (fewV p.2)] else none) (a := (f, l))
  exact this.trans (if_pos (decide_eq_true h))
def yPairs_m : List PA → Option (List PA) := mE encPs fun p => if (∀ q ∈ p.2, q.In3) ∧ p.2.length ≤ 9223372036854775807 then some [.b true] else none
theorem yPairs_ok : PureC Tryz.prog Gt 4 yPairs_m := by
  refine pure_of_awpS (X := ctx Tryz.prog Gt [(22, fewL30_m), (15, stpair_m), (24, r0pair_m), (25, r0sss_m), (26, sameEx_m), (23, yawake_m)]) Tryz.func4 rfl rfl (by kernel_rfl) (by kernel_rfl) (AllOk.cons fewL30_ok (AllOk.cons stpair_ok (AllOk.cons r0pair_ok (AllOk.cons r0sss_ok (AllOk.cons sameEx_ok (AllOk.cons yawake_ok AllOk.nil)))))).kok ?_
  intro args r h0
  obtain ⟨⟨f, l⟩, rfl, h⟩ := mE_inv h0
  refine ⟨Nat.le_of_ble_eq_true rfl, ?_⟩
  split at h
  · rename_i hl
    dsimp only at hl h
    cases h
    have e0 := yawake_at
    have f1 := few3_at (f := f) hl.2
    cases c1 : fewV l
    · rw [c1] at f1
      have hc := Nat.zero_add 0
      repeat' (first | simp only [hc, AS, Tryz.f4, encPs, SX, e0, f1, ZZ, simprocAttr, ↓reduceIte, ZF, ZE, ZN, ZI, ZB] | ((first | apply Za | apply Zb | apply Zc | apply Zd | apply Ze | apply Zf | apply Zg | apply Zh) <;> intro hc) | refine Zi ?_ | refine Zj ?_)
      all_goals simp [DV.b]
    rw [c1] at f1
    obtain ⟨hp, h40⟩ := few3_ok c1 hl.1
    have f2 := stpair_at (f := f) hp
    have f3 := r0pair_at (f := f) hp
    have g1 := gates_len l
    have g2 := stays_le (gatesF l)
    have g3 := excl_le (gatesF l)
    have f4 := r0sss_at (f := false) (g := false) (a := rstays (gatesF l)) (b := rstays (gatesF l)) (by omega)
    have f5 := sameEx_at3 (f := false) (g := false) (a := rexcl (gatesF l)) (b := rexcl (gatesF l)) (by omega)
    rw [sameL_self sySame_self] at f4
    rw [sameL_self exSame_self] at f5
    have hc := Nat.zero_add 0
    repeat' (first | simp only [hc, AS, Tryz.f4, encPs, SX, e0, f1, f2, f3, f4, f5, ZZ, simprocAttr, ↓reduceIte, ZF, ZE, ZN, ZI, ZB] | ((first | apply Za | apply Zb | apply Zc | apply Zd | apply Ze | apply Zf | apply Zg | apply Zh) <;> intro hc) | refine Zi ?_ | refine Zj ?_)
    all_goals simp [DV.b]
  cases h
end
end Go.Ab
namespace Go.Ab
open Go.RowKit Go.Proofs
def encPsB (p : (Bool × List Par) × Int) : List PA := [.c (.sl p.1.1 (p.1.2.map Par.row)), .c (.int .u8 p.2)]
theorem encPsB_inj (a b : (Bool × List Par) × Int) (h : encPsB a = encPsB b) : a = b := by
  obtain ⟨⟨a1, a2⟩, a3⟩ := a
  obtain ⟨⟨b1, b2⟩, b3⟩ := b
  simp only [encPsB, List.cons.injEq, DV.c.injEq, D.sl.injEq, D.int.injEq, and_true, true_and] at h
  rw [h.1.1, mapP_inj.1 h.1.2, h.2]
noncomputable section
open Classical
def yTurns_m : List PA → Option (List PA) := mE encPsB fun p => if (∀ q ∈ p.1.2, q.In3) ∧ p.1.2.length ≤ 9223372036854775807 ∧ 0 ≤ p.2 ∧ p.2 < 256 then some [.b true] else none
set_option maxHeartbeats 1000000 in
theorem yTurns_ok : PureC Tryz.prog Gt 8 yTurns_m := by
  refine pure_of_awpS (X := ctx Tryz.prog Gt [(22, fewL30_m), (15, stpair_m), (25, r0sss_m), (26, sameEx_m), (23, yawake_m)]) Tryz.func8 rfl rfl (by kernel_rfl) (by kernel_rfl) (AllOk.cons fewL30_ok (AllOk.cons stpair_ok (AllOk.cons r0sss_ok (AllOk.cons sameEx_ok (AllOk.cons yawake_ok AllOk.nil))))).kok ?_
  intro args r h0
  obtain ⟨⟨⟨f, l⟩, n⟩, rfl, h⟩ := mE_inv h0
  refine ⟨Nat.le_of_ble_eq_true rfl, ?_⟩
  split at h
  · rename_i hl
    obtain ⟨hi, hl1, hn1, hn2⟩ := hl
    dsimp only at hi hl1 hn1 hn2 h
    cases h
    have e0 := yawake_at
    have f2 := few3_at (f := f) hl1
    have l1 := @lenPr l
    cases c2 : fewV l
    · rw [c2] at f2
      have hc := Nat.zero_add 0
      repeat' (first | simp only [hc, AS, Tryz.f8, encPsB, SX, e0, f2, l1, ZZ, simprocAttr, ↓reduceIte, ZF, ZE, ZN, ZI, ZB] | ((first | apply Za | apply Zb | apply Zc | apply Zd | apply Ze | apply Zf | apply Zg | apply Zh) <;> intro hc) | refine Zi ?_ | refine Zj ?_)
      all_goals simp [DV.b]
    rw [c2] at f2
    by_cases c3 : l.length = 0
    · have c3' : ((l.length : Int) = 0) = True := eq_true (by omega)
      have hc := Nat.zero_add 0
      repeat' (first | simp only [hc, AS, Tryz.f8, encPsB, SX, e0, f2, l1, c3', ZZ, simprocAttr, ↓reduceIte, ZF, ZE, ZN, ZI, ZB] | ((first | apply Za | apply Zb | apply Zc | apply Zd | apply Ze | apply Zf | apply Zg | apply Zh) <;> intro hc) | refine Zi ?_ | refine Zj ?_)
      all_goals simp [DV.b]
    have c3' : ((l.length : Int) = 0) = False := eq_false (by omega)
    obtain ⟨hp, hfe⟩ := few3_ok c2 hi
    obtain ⟨k, hk⟩ : ∃ k : Nat, n.tmod (l.length : Int) = k := ⟨(n.tmod (l.length : Int)).toNat, by rw [Int.tmod_eq_emod_of_nonneg hn1]; have := Int.emod_nonneg n (b := (l.length : Int)) (by omega); omega⟩
    have hkl : k < l.length := by
      have h1 := Int.tmod_eq_emod_of_nonneg hn1 (b := (l.length : Int))
      have h2 := Int.emod_lt_of_pos n (b := (l.length : Int)) (by omega)
      omega
    have hw0 := wI (n := n) (by omega) (by omega)
    have hw1 := wI (n := (l.length : Int) - 1) (by omega) (by omega)
    have hc := Nat.zero_add 0
    repeat' (first | simp only [hc, AS, Tryz.f8, encPsB, SX, e0, f2, l1, c3', hk, hw0, hw1, ZZ, simprocAttr, ↓reduceIte, ZF, ZE, ZN, ZI, ZB] | ((first | apply Za | apply Zb | apply Zc | apply Zd | apply Ze | apply Zf | apply Zg | apply Zh) <;> intro hc) | refine Zi ?_ | refine Zj ?_)
    refine awpS_loop (σ := Nat) (fun m => m ≤ l.length - k) (fun m => ⟨[(7, AV.i ((l.length : Int) - 1 - m)), (6, .v (.c (.own 0 ((l.drop (l.length - m)).reverse.map Par.row)))), (5, AV.i k), (0, AV.d (.sl f (l.map Par.row)))], [.tok m 5 none]⟩) (fun m => l.length - m) 0 ((Wk.own 6 5 (by decide) (by simp [look])).trans (Wk.sub' (by simp [subT, look]) rfl)) (by simp) ?_
    intro m hm
    have hal : ∀ q : List Par, allLen 5 (q.map Par.row) := allLenP
    by_cases hml : m < l.length - k
    · have hge : ((k : Int) ≤ (l.length : Int) - 1 - m) = True := eq_true (by omega)
      have hnt : ((l.length : Int) - 1 - (m : Int)).toNat = l.length - 1 - m := by omega
      have hw := wI (n := (l.length : Int) - 1 - m - 1) (by omega) (by omega)
      have e1 := pr_at (l := l) (j := l.length - 1 - m) (by omega)
      have hnx := rev_next (l := l) (m := m) (by omega)
      generalize l[l.length - 1 - m] = p at *
      have ap : ∀ h, apTok h 0 5 56 ((l.drop (l.length - m)).reverse.map Par.row) [[.int .i64 p.kind, .str p.zone, .str p.plate, .int .i64 p.time, .int .i64 p.til]] (some (.tok m 5 none)) = some (.v (.c (.own 0 ((l.drop (l.length - (m + 1))).reverse.map Par.row))), h.set 0 (.tok (m + 1) 5 none)) := fun h => by
        rw [apTok_ok (eq_true (by simp; omega)) (eq_true (by simp [allLen])) (eq_true (by simp; omega)) (eq_true (by simp; omega)), hnx]
        rw [List.map_append, show ((l.drop (l.length - m)).reverse.map Par.row).length = m by simp; omega]
        rfl
      have hnn : (0 ≤ (l.length : Int) - 1 - m) = True := eq_true (by omega)
      have hc := Nat.zero_add 0
      repeat' (first | simp only [hc, AS, SX, l1, hge, hnt, hnn, e1, ap, hw, ZZ, simprocAttr, ↓reduceIte, ZF, ZE, ZN, ZI, ZB] | ((first | apply Za | apply Zb | apply Zc | apply Zd | apply Ze | apply Zf | apply Zg | apply Zh) <;> intro hc) | refine Zi ?_ | refine Zj ?_)
      exact lp_next (m + 1) (Wk.cutk (k := 1) (by simp) (by simp) (by simp) (by simp [subT, look]; omega) (by simp [AV.low, V.low, C1.low]) (by simp [Ob.low, C1.low])) (by omega) (by omega)
    have hge : ((k : Int) ≤ (l.length : Int) - 1 - m) = False := eq_false (by omega)
    have hme : m = l.length - k := by omega
    have hdr : l.drop (l.length - m) = l.drop k := by rw [hme]; congr 1; omega
    rw [hdr]
    have hw := wI (n := (k : Int) + 1) (by omega) (by omega)
    obtain ⟨F, q1⟩ : ∃ F, slX (f && decide ((k : Int) + 1 = l.length)) 5 (l.map Par.row) 0 ((k : Int) + 1) = some (.sl F ((l.take (k + 1)).map Par.row)) := by
      rw [show ((k : Int) + 1) = ((k + 1 : Nat) : Int) by omega]
      rw [slX_ok (eq_true (hal _)) (eq_true (by omega)) (eq_true (by omega)) (eq_true (by simp; omega))]
      exact ⟨_, by simp [List.map_take]; rfl⟩
    have hal1 := hal (l.take (k + 1))
    have ap : ∀ h, apTok h 0 5 56 ((l.drop k).reverse.map Par.row) ((l.take (k + 1)).map Par.row) (some (.tok m 5 none)) = some (.v (.c (.own 0 ((turnP l k).map Par.row))), h.set 0 (.tok (m + (k + 1)) 5 none)) := fun h => by
      rw [apTok_ok (eq_true (by simp; omega)) (eq_true hal1) (eq_true (by simp; omega)) (eq_true (by simp; omega))]
      simp only [turnP, List.map_append, List.length_map, List.length_reverse, List.length_drop, List.length_take]
      rw [show l.length - k + min (k + 1) l.length = m + (k + 1) by omega]
    have hlen := turn_len l k
    have hp2 : parsOk (turnP l k) := ⟨by omega, fun p hp3 => hp.2 p ((mem_turn p).1 hp3)⟩
    have f3 := stpair_at (f := f) hp
    have f4 := stpair_at (f := false) hp2
    rw [gates_set (mem_turn (l := l) (k := k))] at f4
    have g1 := gates_len l
    have g2 := stays_le (gatesF l)
    have g3 := excl_le (gatesF l)
    have f5 := r0sss_at (f := false) (g := false) (a := rstays (gatesF l)) (b := rstays (gatesF l)) (by omega)
    have f6 := sameEx_at3 (f := false) (g := false) (a := rexcl (gatesF l)) (b := rexcl (gatesF l)) (by omega)
    rw [sameL_self sySame_self] at f5
    rw [sameL_self exSame_self] at f6
    generalize rstays (gatesF l) = L at *
    generalize rexcl (gatesF l) = X at *
    have hc := Nat.zero_add 0
    repeat' (first | simp only [hc, AS, SX, l1, hge, hw, sla_eq, slT_sl, slZ_some, q1, ap, f3, f4, f5, f6, e0, ZZ, simprocAttr, ↓reduceIte, ZF, ZE, ZN, ZI, ZB] | ((first | apply Za | apply Zb | apply Zc | apply Zd | apply Ze | apply Zf | apply Zg | apply Zh) <;> intro hc) | refine Zi ?_ | refine Zj ?_)
    all_goals simp [DV.b]
  cases h
end
end Go.Ab
