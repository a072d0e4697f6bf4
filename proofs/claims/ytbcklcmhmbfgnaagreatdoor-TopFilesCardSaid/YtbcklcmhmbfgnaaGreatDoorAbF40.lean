/-
  Texts of the layer and of the laws, put together: AbTF6, AbTF7.
-/
import Derived.Test.YtbcklcmhmbfgnaaGreatDoorAbF36
import Derived.Test.YtbcklcmhmbfgnaaGreatDoorAbF39
set_option linter.unusedSimpArgs false
set_option linter.unusedVariables false
set_option maxRecDepth 100000
namespace Go.Ab
open Go.RowKit Go.Proofs
def sumC (l : List Rec) : Int := (l.map (·.cents)).sum
def claimsF (l : List Rec) : Int := sumC (netR l)
def claimOk (l : List Rec) : Prop := l.length ≤ 1000000 ∧ (netR l).length ≤ 1000 ∧ (netR l).all (fun x => afit x.cents) = true
theorem sumC_take {l : List Rec} {i : Nat} (h : i < l.length) : sumC (l.take (i + 1)) = sumC (l.take i) + l[i].cents := by
  rw [sumC, List.take_succ_eq_append_getElem h, List.map_append, List.sum_append]
  simp [sumC]
theorem sumC_le {l : List Rec} (h : l.all (fun x => afit x.cents) = true) (i : Nat) : -(1125899906842624 * l.length) ≤ sumC (l.take i) ∧ sumC (l.take i) ≤ 1125899906842624 * l.length := by
  have h1 : ((l.take i).map (·.cents)).all afit = true := by
    rw [List.all_map, List.all_eq_true]
    intro x hx
    exact List.all_eq_true.1 h x (List.mem_of_mem_take hx)
  have h2 := sum_bound h1
  have h3 : ((l.take i).map (·.cents)).length ≤ l.length := by rw [List.length_map, List.length_take]; omega
  unfold sumC
  omega
noncomputable section
open Classical
def xclaim_m : List PA → Option (List PA) := mE encRs fun p => if claimOk p.2 then some [.i (claimsF p.2)] else none
set_option maxHeartbeats 1000000 in
theorem xclaim_ok : PureC Tryz.prog Gt 62 xclaim_m := by
  refine pure_of_awpS (X := ctx Tryz.prog Gt [(76, anet_m)]) Tryz.func62 rfl rfl (by kernel_rfl) (by kernel_rfl) (AllOk.cons anet_ok AllOk.nil).kok ?_
  intro args r h0
  obtain ⟨⟨f, l⟩, rfl, h⟩ := mE_inv h0
  refine ⟨Nat.le_of_ble_eq_true rfl, ?_⟩
  split at h
  · rename_i hok
    obtain ⟨hl, hn, ha⟩ := hok
    dsimp only at hl hn ha h
    simp only [Option.some.injEq] at h
    have f1 := @anet_at f l hl
    have hR : claimsF l = sumC (netR l) := rfl
    have hS := sumC_le ha
    generalize claimsF l = R at *
    generalize netR l = N at *
    have l1 := @lenRc N
    have hs0 : sumC [] = 0 := rfl
    have hc := Nat.zero_add 0
    repeat' (first | simp only [hc, AS, Tryz.f62, encRs, SX, f1, l1, ZZ, simprocAttr, ↓reduceIte] | ((first | apply Za | apply Zb | apply Zc | apply Zd | apply Ze | apply Zf | apply Zg | apply Zh) <;> intro hc) | refine Zi ?_ | refine Zj ?_)
    refine awpS_loop (σ := Nat) (fun i => i ≤ N.length)
      (fun i => ⟨[(9, AV.i i), (8, AV.i N.length), (7, AV.d (.sl false (N.map Rec.row))), (3, AV.i (sumC (N.take i)))], []⟩)
      (fun i => N.length - i) 0 (Wk.sub' (by simp [subT, look, hs0]) rfl) (Nat.zero_le _) ?_
    intro i hi
    by_cases hil : i < N.length
    · have e1 := rc_at hil
      have c1 : ((i : Int) < (N.length : Int)) = True := eq_true (by omega)
      have w1 := wI (n := (i : Int) + 1) (by omega) (by omega)
      have hb := hS (i + 1)
      have ht := sumC_take hil
      have w2 := wI (n := sumC (N.take i) + N[i].cents) (by omega) (by omega)
      generalize N[i] = x at *
      have hc := Nat.zero_add 0
      repeat' (first | simp only [hc, AS, SX, l1, e1, c1, nn, w1, w2, ZZ, simprocAttr, ↓reduceIte] | ((first | apply Za | apply Zb | apply Zc | apply Zd | apply Ze | apply Zf | apply Zg | apply Zh) <;> intro hc) | refine Zi ?_ | refine Zj ?_)
      exact lp_next (i + 1) (Wk.cutk (k := 0) (by simp) (by simp) (by simp) (by simp [subT, look, ht]) (by simp [AV.low, V.low, C1.low]) (by simp [Ob.low, C1.low])) (by omega) (by omega)
    have c1 : ((i : Int) < (N.length : Int)) = False := eq_false (by omega)
    rw [List.take_of_length_le (by omega : N.length ≤ i), ← hR]
    have hc := Nat.zero_add 0
    repeat' (first | simp only [hc, AS, SX, l1, c1, ZZ, simprocAttr, ↓reduceIte] | ((first | apply Za | apply Zb | apply Zc | apply Zd | apply Ze | apply Zf | apply Zg | apply Zh) <;> intro hc) | refine Zi ?_ | refine Zj ?_)
    rw [← h]
  cases h
theorem xclaim_at {f : Bool} {l : List Rec} (h : claimOk l) : xclaim_m [.c (.sl f (l.map Rec.row))] = some [.i (claimsF l)] := by
  have := mE_eq encRs_inj (g := fun p => if claimOk p.2 then some [DV.i (claimsF p.2)] else none) (a := (f, l))
  exact this.trans (if_pos h)
end
end Go.Ab
namespace Go.Ab
open Go.RowKit Go.Proofs
def cl2Ok (p : Ptn) : Prop := claimOk p.ours ∧ claimOk p.theirs
theorem claims_le {l : List Rec} (h : claimOk l) : -1125899906842624000 ≤ claimsF l ∧ claimsF l ≤ 1125899906842624000 := by
  have h1 := sumC_le h.2.2 (netR l).length
  rw [List.take_length] at h1
  have h2 := h.2.1
  unfold claimsF
  omega
noncomputable section
open Classical
def xclaims_m : List PA → Option (List PA) := mE encPt fun q => if cl2Ok q.2 then some [.i (claimsF q.2.ours), .i (claimsF q.2.theirs)] else none
def xsettle_m : List PA → Option (List PA) := mE encPt fun q => if cl2Ok q.2 then some [.i (setF claimsF q.2).1, .i (setF claimsF q.2).2] else none
theorem xclaims_ok : PureC Tryz.prog Gt 36 xclaims_m := by
  refine pure_of_awpS (X := ctx Tryz.prog Gt [(62, xclaim_m)]) Tryz.func36 rfl rfl (by kernel_rfl) (by kernel_rfl) (AllOk.cons xclaim_ok AllOk.nil).kok ?_
  intro args r h0
  obtain ⟨⟨⟨w, o, t⟩, p⟩, rfl, h⟩ := mE_inv h0
  refine ⟨Nat.le_of_ble_eq_true rfl, ?_⟩
  split at h
  · rename_i hok
    obtain ⟨h1, h2⟩ := hok
    simp only [Option.some.injEq] at h
    have f1 := xclaim_at (f := o) h1
    have f2 := xclaim_at (f := t) h2
    dsimp only at f1 f2 h
    have hc := Nat.zero_add 0
    repeat' (first | simp only [hc, AS, Tryz.f36, encPt, prow, SX, f1, f2, ZZ, simprocAttr, ↓reduceIte] | ((first | apply Za | apply Zb | apply Zc | apply Zd | apply Ze | apply Zf | apply Zg | apply Zh) <;> intro hc) | refine Zi ?_ | refine Zj ?_)
    rw [← h]
  cases h
theorem xclaims_at {w o t : Bool} {p : Ptn} (h : cl2Ok p) : xclaims_m [.agg (prow w o t p)] = some [.i (claimsF p.ours), .i (claimsF p.theirs)] := by
  have := mE_eq encPt_inj (g := fun q => if cl2Ok q.2 then some [DV.i (claimsF q.2.ours), .i (claimsF q.2.theirs)] else none) (a := ((w, o, t), p))
  exact this.trans (if_pos h)
theorem mfits_atF {n : Int} : mfits_m [.c (.int .i64 n)] = some [.b (afit n)] := rfl
set_option maxHeartbeats 1000000 in
theorem xsettle_ok : PureC Tryz.prog Gt 14 xsettle_m := by
  refine pure_of_awpS (X := ctx Tryz.prog Gt [(36, xclaims_m), (37, mfits_m)]) Tryz.func14 rfl rfl (by kernel_rfl) (by kernel_rfl) (AllOk.cons xclaims_ok (AllOk.cons mfits_ok AllOk.nil)).kok ?_
  intro args r h0
  obtain ⟨⟨⟨w, o, t⟩, p⟩, rfl, h⟩ := mE_inv h0
  refine ⟨Nat.le_of_ble_eq_true rfl, ?_⟩
  split at h
  · rename_i hok
    have f1 := xclaims_at (w := w) (o := o) (t := t) hok
    have b1 := claims_le hok.1
    have b2 := claims_le hok.2
    dsimp only at b1 b2 f1
    have hR : setF claimsF p = if afit (claimsF p.ours) = true ∧ afit (claimsF p.theirs) = true ∧ afit (claimsF p.ours - claimsF p.theirs) = true then (claimsF p.ours - claimsF p.theirs, 0) else (0, 13) := rfl
    dsimp only at h
    generalize setF claimsF p = R at *
    simp only [prow] at f1
    generalize claimsF p.ours = u at *
    generalize claimsF p.theirs = v at *
    simp only [Option.some.injEq] at h
    have f2 := @mfits_atF u
    have f3 := @mfits_atF v
    have f4 := @mfits_atF (u - v)
    have w1 := wI (n := u - v) (by omega) (by omega)
    cases a1 : afit u
    · rw [a1] at f2
      rw [a1, if_neg (by simp)] at hR
      subst hR
      have hc := Nat.zero_add 0
      repeat' (first | simp only [hc, AS, Tryz.f14, encPt, prow, SX, f1, f2, ZZ, simprocAttr, ↓reduceIte] | ((first | apply Za | apply Zb | apply Zc | apply Zd | apply Ze | apply Zf | apply Zg | apply Zh) <;> intro hc) | refine Zi ?_ | refine Zj ?_)
      rw [← h]
    rw [a1] at f2
    cases a2 : afit v
    · rw [a2] at f3
      rw [a1, a2, if_neg (by simp)] at hR
      subst hR
      have hc := Nat.zero_add 0
      repeat' (first | simp only [hc, AS, Tryz.f14, encPt, prow, SX, f1, f2, f3, ZZ, simprocAttr, ↓reduceIte] | ((first | apply Za | apply Zb | apply Zc | apply Zd | apply Ze | apply Zf | apply Zg | apply Zh) <;> intro hc) | refine Zi ?_ | refine Zj ?_)
      rw [← h]
    rw [a2] at f3
    cases a3 : afit (u - v)
    · rw [a3] at f4
      rw [a1, a2, a3, if_neg (by simp)] at hR
      subst hR
      have hc := Nat.zero_add 0
      repeat' (first | simp only [hc, AS, Tryz.f14, encPt, prow, SX, f1, f2, f3, f4, w1, ZZ, simprocAttr, ↓reduceIte] | ((first | apply Za | apply Zb | apply Zc | apply Zd | apply Ze | apply Zf | apply Zg | apply Zh) <;> intro hc) | refine Zi ?_ | refine Zj ?_)
      rw [← h]
    rw [a3] at f4
    rw [a1, a2, a3, if_pos (by simp)] at hR
    subst hR
    have hc := Nat.zero_add 0
    repeat' (first | simp only [hc, AS, Tryz.f14, encPt, prow, SX, f1, f2, f3, f4, w1, ZZ, simprocAttr, ↓reduceIte] | ((first | apply Za | apply Zb | apply Zc | apply Zd | apply Ze | apply Zf | apply Zg | apply Zh) <;> intro hc) | refine Zi ?_ | refine Zj ?_)
    rw [← h]
  cases h
theorem xsettle_at {w o t : Bool} {p : Ptn} (h : cl2Ok p) : xsettle_m [.agg (prow w o t p)] = some [.i (setF claimsF p).1, .i (setF claimsF p).2] := by
  have := mE_eq encPt_inj (g := fun q => if cl2Ok q.2 then some [DV.i (setF claimsF q.2).1, .i (setF claimsF q.2).2] else none) (a := ((w, o, t), p))
  exact this.trans (if_pos h)
end
end Go.Ab
