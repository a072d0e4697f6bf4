/-
  Texts of the layer and of the laws, put together: AbJ39.
-/
import Derived.Test.YtdoofgbeajkpaaaGreatDoorAbWC47
import Derived.Test.YtdoofgbeajkpaaaGreatDoorAbWC46
set_option linter.unusedSimpArgs false
set_option linter.unusedVariables false
set_option maxRecDepth 100000
namespace Go.Ab
open Go.RowKit Go.Proofs
theorem unp_err {zs : List Zon} {ss : List Ses} {ps : List Pmt} {s : Sty} (he : (unpF zs ss ps s).2 ≠ 0) : (unpF zs ss ps s).1.getD [] = [] := by
  unfold unpF at he ⊢
  by_cases hc : chkF zs s = 0
  · rw [if_neg (by rw [hc]; simp)] at he ⊢
    cases hz : findZ zs s.zone with
    | none => rfl
    | some z =>
      rw [hz] at he
      dsimp only at he ⊢
      by_cases hd : (enfF z s.v).2 = 0
      · rw [if_neg (by rw [hd]; simp)] at he
        exact absurd rfl he
      rw [if_pos hd]
      rfl
  rw [if_pos hc]
  rfl
theorem unp_iv {zs : List Zon} {ss : List Ses} {ps : List Pmt} {s : Sty} (he : (unpF zs ss ps s).2 = 0) : ivOk s.v = true ∧ ∀ z, findZ zs s.zone = some z → z.err = 0 := by
  unfold unpF at he
  by_cases hc : chkF zs s = 0
  · obtain ⟨z, hz, hze, hv⟩ := chk_zero hc
    exact ⟨hv, fun z' h => by rw [hz] at h; cases h; exact hze⟩
  rw [if_pos hc] at he
  exact absurd he hc
theorem due_iff {zs : List Zon} {s : Sty} {c : Clm} {t : Int} {z : Zon} (he : (unpF c.zs c.ss c.ps s).2 = 0) (hz : findZ c.zs s.zone = some z) : inV ((unpF c.zs c.ss c.ps s).1.getD []) t ↔ (s.v.1 ≤ t ∧ t < s.v.2) ∧ openF z t = true ∧ z.free ≤ t - s.v.1 ∧ covV s c t = false := by
  obtain ⟨z', hz', _, hin⟩ := unp_in he
  rw [hz] at hz'
  cases hz'
  rw [hin t]
  have hcov : covV s c t = false ↔ ¬ (∃ x ∈ c.ss, x.zone = s.zone ∧ x.plate = s.plate ∧ (paidF x).1 ≤ t ∧ t < (paidF x).2) ∧ c.ps.any (cvB s.zone s.plate t) = false := by
    rw [covV, Bool.or_eq_false_iff]
    refine and_congr ?_ Iff.rfl
    rw [List.any_eq_false]
    constructor
    · rintro h ⟨x, hx, h1, h2, h3, h4⟩
      exact h x hx (by simp [cvS, h1, h2, h3, h4])
    intro h x hx hc
    simp only [cvS, Bool.and_eq_true, decide_eq_true_eq] at hc
    exact h ⟨x, hx, hc.1, hc.2.1, hc.2.2.1, hc.2.2.2⟩
  rw [hcov]
noncomputable section
open Classical
theorem cov3_at {s : Sty} {c : Clm} {t : Int} (h : covOk ((s, c), t)) : cov30_m [.agg s.row, .agg c.row, .c (.int .i64 t)] = some [.b (covV s c t)] := by
  have := mE_eq encSCt_inj (g := fun p => if covOk p then some [DV.b (covV p.1.1 p.1.2 p.2)] else none) (a := ((s, c), t))
  exact this.trans (if_pos h)
def ySeconds_m : List PA → Option (List PA) := mE encSCt fun p => if p.1.1.In ∧ p.1.2.Fit then some [.b true] else none
set_option maxHeartbeats 2000000 in
theorem ySeconds_ok : PureC Tryz.prog Gt 11 ySeconds_m := by
  refine pure_of_awpS (X := ctx Tryz.prog Gt [(27, short30_m), (28, some30_m), (20, stunp_m), (16, zfind_m), (17, zopen_m), (40, cov30_m), (23, yawake_m)]) Tryz.func11 rfl rfl (by kernel_rfl) (by kernel_rfl) (AllOk.cons short30_ok (AllOk.cons some30_ok (AllOk.cons stunp_ok (AllOk.cons zfind_ok (AllOk.cons zopen_ok (AllOk.cons cov30_ok (AllOk.cons yawake_ok AllOk.nil))))))).kok ?_
  intro args r h0
  obtain ⟨⟨⟨s, c⟩, t⟩, rfl, h⟩ := mE_inv h0
  refine ⟨Nat.le_of_ble_eq_true rfl, ?_⟩
  split at h
  · rename_i hl
    dsimp only at hl h
    cases h
    have e0 := yawake_at
    have f1 := @short3_at s
    have f2 := @some3_at c hl.2.1 hl.2.2.1 hl.2.2.2
    cases c1 : shortY s
    · rw [c1] at f1
      simp only [Sty.row] at f1
      have hc := Nat.zero_add 0
      repeat' (first | simp only [hc, AS, Tryz.f11, encSCt, Sty.row, Clm.row, SX, e0, f1, ZZ, simprocAttr, ↓reduceIte, ZF, ZE, ZN, ZI, ZB] | ((first | apply Za | apply Zb | apply Zc | apply Zd | apply Ze | apply Zf | apply Zg | apply Zh) <;> intro hc) | refine Zi ?_ | refine Zj ?_)
      all_goals simp [DV.b]
    rw [c1] at f1
    cases c2 : someV c
    · rw [c2] at f2
      simp only [Sty.row, Clm.row] at f1 f2
      have hc := Nat.zero_add 0
      repeat' (first | simp only [hc, AS, Tryz.f11, encSCt, Sty.row, Clm.row, SX, e0, f1, f2, ZZ, simprocAttr, ↓reduceIte, ZF, ZE, ZN, ZI, ZB] | ((first | apply Za | apply Zb | apply Zc | apply Zd | apply Ze | apply Zf | apply Zg | apply Zh) <;> intro hc) | refine Zi ?_ | refine Zj ?_)
      all_goals simp [DV.b]
    rw [c2] at f2
    have hs := short3_ok c1 hl.1
    obtain ⟨hz, hss, hps⟩ := some3_ok c2
    have hok : unpOk ((s, c.zf, c.zs), (c.sf, c.ss), c.pf, c.ps) := ⟨hs, hz, by show c.ss.length ≤ 1000; omega, hps⟩
    have f3 := stunp_at hok
    by_cases he : (unpF c.zs c.ss c.ps s).2 = 0
    · have hdue := fun z => @due_iff c.zs s c t z he
      obtain ⟨z, hfz, hnf, _⟩ := unp_in he
      obtain ⟨hiv, hze⟩ := unp_iv he
      obtain ⟨_, hzh⟩ := free_ok (hze z hfz)
      have hul := unp_len (zs := c.zs) (ss := c.ss) (ps := c.ps) (s := s) (by omega) hps
      replace hdue := hdue z hfz
      have f4 := zfind_at (f := c.zf) (n := s.zone) hz
      simp only [findR, hfz, Zon.row, Zon.cp] at f4
      have f5 := zopen_at (z := z.cp) (t := t) (by show z.hrs.length ≤ _; omega)
      rw [show openF z.cp t = openF z t from rfl] at f5
      simp only [Zon.row, Zon.cp] at f5
      have f6 := cov3_at (s := s) (c := c) (t := t) ⟨hs.2.2.2, by show c.ss.length ≤ _; omega, by show c.ps.length ≤ _; have := hps.1; omega, fun x hx => by have := hps.2 x hx; omega⟩
      have hb := ivOk_iff.1 hiv
      dsimp only [mxT] at hb
      generalize unpF c.zs c.ss c.ps s = u at *
      obtain ⟨uo, ue⟩ := u
      dsimp only at f3 he hnf hdue hul
      subst he
      generalize uo.isNone = un at *
      generalize uo.getD [] = U at *
      have l1 := @lenIv U
      simp only [Sty.row, Clm.row] at f1 f2 f3 f6
      have hc := Nat.zero_add 0
      repeat' (first | simp only [hc, AS, Tryz.f11, encSCt, Sty.row, Clm.row, SX, e0, f1, f2, f3, f4, l1, ZZ, simprocAttr, ↓reduceIte, ZF, ZE, ZN, ZI, ZB] | ((first | apply Za | apply Zb | apply Zc | apply Zd | apply Ze | apply Zf | apply Zg | apply Zh) <;> intro hc) | refine Zi ?_ | refine Zj ?_)
      obtain ⟨H, hH⟩ : ∃ H : Nat → Bool, H = fun j => (U.take j).any fun i => decide (i.1 ≤ t) && decide (t < i.2) := ⟨_, rfl⟩
      have hH0 : H 0 = false := by rw [hH]; rfl
      have hHs : ∀ j (hj : j < U.length), H (j + 1) = (H j || (decide (U[j].1 ≤ t) && decide (t < U[j].2))) := fun j hj => by
        rw [hH]
        dsimp only
        rw [List.take_succ_eq_append_getElem hj, List.any_append]
        simp
      have hHn : H U.length = true ↔ inV U t := by
        rw [hH]
        dsimp only
        rw [List.take_length, List.any_eq_true]
        simp only [Bool.and_eq_true, decide_eq_true_eq]
        rfl
      clear hH
      obtain ⟨hp1, hp2⟩ := hnf
      refine awpS_loop (σ := Nat) (fun k => k ≤ U.length)
        (fun k => ⟨[(12, AV.i k), (11, AV.b (H k)), (10, AV.b true), (9, .v (.c (.ptr 2 0))), (7, AV.d (.sl un (U.map rwI))), (4, .v (.c (.ptr 1 0))), (3, .v (.c (.ptr 0 0))), (2, AV.i t)],
          [.box [.d (.str s.id), .d (.str s.zone), .d (.str s.plate), .d (.int .i64 s.v.1), .d (.int .i64 s.v.2)], .box [.d (.sl c.zf (c.zs.map Zon.row)), .d (.sl c.sf (c.ss.map Ses.row)), .d (.sl c.pf (c.ps.map Pmt.row))],
           .box [.d (.str z.name), .d (.sl z.hrs.isEmpty (z.hrs.map Win.row)), .d (.sl z.sts.isEmpty (z.sts.map Stf.row)), .d (.int .i64 z.grace), .d (.int .i64 z.free), .d (.int .i64 z.dmax), .d (.int .i64 z.stay)]]⟩)
        (fun k => U.length - k) 0 (Wk.sub' (by simp [subT, look, hH0]) rfl) (Nat.zero_le _) ?_
      intro k hk
      by_cases hkl : k < U.length
      · have c3 : ((k : Int) < (U.length : Int)) = True := eq_true (by omega)
        have w1 := wI (n := (k : Int) + 1) (by omega) (by omega)
        have e1 := iv_at hkl
        have d1 : (U[k].2 ≤ U[k].1) = False := eq_false (by have := hp2 U[k] (List.getElem_mem hkl); omega)
        have hHk := hHs k hkl
        by_cases k0 : 0 < k
        · have c4 : ((0 : Int) < (k : Int)) = True := eq_true (by omega)
          have w2 : IntKind.i64.wrap ((k : Int) - 1) = ((k - 1 : Nat) : Int) := by rw [wI (by omega) (by omega)]; omega
          have hk1 : k - 1 < U.length := by omega
          have e2 := iv_at hk1
          have d2 : (U[k].1 ≤ U[k - 1].2) = False := eq_false (by have := List.pairwise_iff_getElem.1 hp1 (k - 1) k hk1 hkl (by omega); omega)
          have nn1 : (0 ≤ ((k - 1 : Nat) : Int)) = True := eq_true (by omega)
          generalize U[k - 1] = ii at *
          generalize U[k] = i at *
          obtain ⟨i1, i2⟩ := i
          obtain ⟨ii1, ii2⟩ := ii
          dsimp only at e1 e2 d1 d2 hHk
          cases hb0 : H k
          · rw [hb0, Bool.false_or] at hHk
            by_cases a1 : i1 ≤ t
            · have a1' := eq_true a1
              rw [decide_eq_true a1, Bool.true_and] at hHk
              by_cases a2 : t < i2
              · have a2' := eq_true a2
                rw [decide_eq_true a2] at hHk
                have hc := Nat.zero_add 0
                repeat' (first | simp only [hc, AS, SX, l1, c3, c4, w2, nn1, e2, d2, nn, Int.toNat_natCast, e1, d1, w1, a1', a2', ZZ, simprocAttr, ↓reduceIte, ZF, ZE, ZN, ZI, ZB] | ((first | apply Za | apply Zb | apply Zc | apply Zd | apply Ze | apply Zf | apply Zg | apply Zh) <;> intro hc) | refine Zi ?_ | refine Zj ?_)
                exact lp_next (k + 1) (Wk.sub' (by simp [subT, look, hHk]) rfl) (by omega) (by omega)
              have a2' := eq_false a2
              rw [decide_eq_false a2] at hHk
              have hc := Nat.zero_add 0
              repeat' (first | simp only [hc, AS, SX, l1, c3, c4, w2, nn1, e2, d2, nn, Int.toNat_natCast, e1, d1, w1, a1', a2', ZZ, simprocAttr, ↓reduceIte, ZF, ZE, ZN, ZI, ZB] | ((first | apply Za | apply Zb | apply Zc | apply Zd | apply Ze | apply Zf | apply Zg | apply Zh) <;> intro hc) | refine Zi ?_ | refine Zj ?_)
              exact lp_next (k + 1) (Wk.sub' (by simp [subT, look, hHk]) rfl) (by omega) (by omega)
            have a1' := eq_false a1
            rw [decide_eq_false a1, Bool.false_and] at hHk
            have hc := Nat.zero_add 0
            repeat' (first | simp only [hc, AS, SX, l1, c3, c4, w2, nn1, e2, d2, nn, Int.toNat_natCast, e1, d1, w1, a1', ZZ, simprocAttr, ↓reduceIte, ZF, ZE, ZN, ZI, ZB] | ((first | apply Za | apply Zb | apply Zc | apply Zd | apply Ze | apply Zf | apply Zg | apply Zh) <;> intro hc) | refine Zi ?_ | refine Zj ?_)
            exact lp_next (k + 1) (Wk.sub' (by simp [subT, look, hHk]) rfl) (by omega) (by omega)
          rw [hb0, Bool.true_or] at hHk
          have hc := Nat.zero_add 0
          repeat' (first | simp only [hc, AS, SX, l1, c3, c4, w2, nn1, e2, d2, nn, Int.toNat_natCast, e1, d1, w1, ZZ, simprocAttr, ↓reduceIte, ZF, ZE, ZN, ZI, ZB] | ((first | apply Za | apply Zb | apply Zc | apply Zd | apply Ze | apply Zf | apply Zg | apply Zh) <;> intro hc) | refine Zi ?_ | refine Zj ?_)
          exact lp_next (k + 1) (Wk.sub' (by simp [subT, look, hHk]) rfl) (by omega) (by omega)
        have c4 : ((0 : Int) < (k : Int)) = False := eq_false (by omega)
        have hb0 : H k = false := by rw [show k = 0 by omega]; exact hH0
        rw [hb0, Bool.false_or] at hHk
        generalize U[k] = i at *
        obtain ⟨i1, i2⟩ := i
        dsimp only at e1 d1 hHk
        rw [hb0]
        by_cases a1 : i1 ≤ t
        · have a1' := eq_true a1
          rw [decide_eq_true a1, Bool.true_and] at hHk
          by_cases a2 : t < i2
          · have a2' := eq_true a2
            rw [decide_eq_true a2] at hHk
            have hc := Nat.zero_add 0
            repeat' (first | simp only [hc, AS, SX, l1, c3, c4, nn, e1, d1, w1, a1', a2', ZZ, simprocAttr, ↓reduceIte, ZF, ZE, ZN, ZI, ZB] | ((first | apply Za | apply Zb | apply Zc | apply Zd | apply Ze | apply Zf | apply Zg | apply Zh) <;> intro hc) | refine Zi ?_ | refine Zj ?_)
            exact lp_next (k + 1) (Wk.sub' (by simp [subT, look, hHk]) rfl) (by omega) (by omega)
          have a2' := eq_false a2
          rw [decide_eq_false a2] at hHk
          have hc := Nat.zero_add 0
          repeat' (first | simp only [hc, AS, SX, l1, c3, c4, nn, e1, d1, w1, a1', a2', ZZ, simprocAttr, ↓reduceIte, ZF, ZE, ZN, ZI, ZB] | ((first | apply Za | apply Zb | apply Zc | apply Zd | apply Ze | apply Zf | apply Zg | apply Zh) <;> intro hc) | refine Zi ?_ | refine Zj ?_)
          exact lp_next (k + 1) (Wk.sub' (by simp [subT, look, hHk]) rfl) (by omega) (by omega)
        have a1' := eq_false a1
        rw [decide_eq_false a1, Bool.false_and] at hHk
        have hc := Nat.zero_add 0
        repeat' (first | simp only [hc, AS, SX, l1, c3, c4, nn, e1, d1, w1, a1', ZZ, simprocAttr, ↓reduceIte, ZF, ZE, ZN, ZI, ZB] | ((first | apply Za | apply Zb | apply Zc | apply Zd | apply Ze | apply Zf | apply Zg | apply Zh) <;> intro hc) | refine Zi ?_ | refine Zj ?_)
        exact lp_next (k + 1) (Wk.sub' (by simp [subT, look, hHk]) rfl) (by omega) (by omega)
      have c3 : ((k : Int) < (U.length : Int)) = False := eq_false (by omega)
      have hkk : k = U.length := by omega
      subst hkk
      generalize H U.length = Hb at *
      by_cases b1 : s.v.1 ≤ t
      · have b1' := eq_true b1
        by_cases b2 : t < s.v.2
        · have b2' := eq_true b2
          have w3 := wI (n := t - s.v.1) (by omega) (by omega)
          cases o1 : openF z t
          · rw [o1] at f5 hdue
            have hHf : Hb = false := by
              cases Hb
              · rfl
              have := (hdue.1 (hHn.1 rfl)).2.1
              cases this
            subst hHf
            have hc := Nat.zero_add 0
            repeat' (first | simp only [hc, AS, SX, l1, c3, f5, b1', b2', e0, ZZ, simprocAttr, ↓reduceIte, ZF, ZE, ZN, ZI, ZB] | ((first | apply Za | apply Zb | apply Zc | apply Zd | apply Ze | apply Zf | apply Zg | apply Zh) <;> intro hc) | refine Zi ?_ | refine Zj ?_)
            all_goals simp [DV.b]
          rw [o1] at f5 hdue
          by_cases b3 : z.free ≤ t - s.v.1
          · have b3' := eq_true b3
            cases o2 : covV s c t
            · rw [o2] at f6 hdue
              have hHt : Hb = true := hHn.2 (hdue.2 ⟨⟨b1, b2⟩, rfl, b3, rfl⟩)
              subst hHt
              have hc := Nat.zero_add 0
              repeat' (first | simp only [hc, AS, SX, l1, c3, f5, f6, b1', b2', b3', w3, e0, ZZ, simprocAttr, ↓reduceIte, ZF, ZE, ZN, ZI, ZB] | ((first | apply Za | apply Zb | apply Zc | apply Zd | apply Ze | apply Zf | apply Zg | apply Zh) <;> intro hc) | refine Zi ?_ | refine Zj ?_)
              all_goals simp [DV.b]
            rw [o2] at f6 hdue
            have hHf : Hb = false := by
              cases Hb
              · rfl
              have := (hdue.1 (hHn.1 rfl)).2.2.2
              cases this
            subst hHf
            have hc := Nat.zero_add 0
            repeat' (first | simp only [hc, AS, SX, l1, c3, f5, f6, b1', b2', b3', w3, e0, ZZ, simprocAttr, ↓reduceIte, ZF, ZE, ZN, ZI, ZB] | ((first | apply Za | apply Zb | apply Zc | apply Zd | apply Ze | apply Zf | apply Zg | apply Zh) <;> intro hc) | refine Zi ?_ | refine Zj ?_)
            all_goals simp [DV.b]
          have b3' := eq_false b3
          have hHf : Hb = false := by
            cases Hb
            · rfl
            exact absurd (hdue.1 (hHn.1 rfl)).2.2.1 b3
          subst hHf
          have hc := Nat.zero_add 0
          repeat' (first | simp only [hc, AS, SX, l1, c3, f5, b1', b2', b3', w3, e0, ZZ, simprocAttr, ↓reduceIte, ZF, ZE, ZN, ZI, ZB] | ((first | apply Za | apply Zb | apply Zc | apply Zd | apply Ze | apply Zf | apply Zg | apply Zh) <;> intro hc) | refine Zi ?_ | refine Zj ?_)
          all_goals simp [DV.b]
        have b2' := eq_false b2
        have hHf : Hb = false := by
          cases Hb
          · rfl
          exact absurd (hdue.1 (hHn.1 rfl)).1.2 b2
        subst hHf
        have hc := Nat.zero_add 0
        repeat' (first | simp only [hc, AS, SX, l1, c3, b1', b2', e0, ZZ, simprocAttr, ↓reduceIte, ZF, ZE, ZN, ZI, ZB] | ((first | apply Za | apply Zb | apply Zc | apply Zd | apply Ze | apply Zf | apply Zg | apply Zh) <;> intro hc) | refine Zi ?_ | refine Zj ?_)
        all_goals simp [DV.b]
      have b1' := eq_false b1
      have hHf : Hb = false := by
        cases Hb
        · rfl
        exact absurd (hdue.1 (hHn.1 rfl)).1.1 b1
      subst hHf
      have hc := Nat.zero_add 0
      repeat' (first | simp only [hc, AS, SX, l1, c3, b1', e0, ZZ, simprocAttr, ↓reduceIte, ZF, ZE, ZN, ZI, ZB] | ((first | apply Za | apply Zb | apply Zc | apply Zd | apply Ze | apply Zf | apply Zg | apply Zh) <;> intro hc) | refine Zi ?_ | refine Zj ?_)
      all_goals simp [DV.b]
    have he' := eq_false he
    rw [unp_err he] at f3
    generalize (unpF c.zs c.ss c.ps s).2 = ue at *
    generalize (unpF c.zs c.ss c.ps s).1.isNone = un at *
    simp only [Sty.row, Clm.row, List.map_nil] at f1 f2 f3
    have hc := Nat.zero_add 0
    repeat' (first | simp only [hc, AS, Tryz.f11, encSCt, Sty.row, Clm.row, SX, e0, f1, f2, f3, he', bne, ZZ, simprocAttr, ↓reduceIte, ZF, ZE, ZN, ZI, ZB] | ((first | apply Za | apply Zb | apply Zc | apply Zd | apply Ze | apply Zf | apply Zg | apply Zh) <;> intro hc) | refine Zi ?_ | refine Zj ?_)
    all_goals simp [DV.b]
  cases h
end
end Go.Ab
