/-
  Texts of the layer and of the laws, put together: AbJ20, AbI6.
-/
import Derived.Test.YtdoofgbeajkpaaaGreatDoorAbWD43
import Derived.Test.YtdoofgbeajkpaaaGreatDoorAbWD39
import Derived.Test.YtdoofgbeajkpaaaGreatDoorAbWD37
import Derived.Test.YtdoofgbeajkpaaaGreatDoorAbWD36
set_option linter.unusedSimpArgs false
set_option linter.unusedVariables false
set_option maxRecDepth 100000
namespace Go.Ab
open Go.RowKit Go.Proofs
def runpF (zs : List Zon) (ss : List Ses) (ps : List Pmt) (s : Sty) : Option (List Iv) × Int :=
  if chkF zs s ≠ 0 then (none, chkF zs s) else match findZ zs s.zone with
    | none => (none, 0)
    | some z => if daysErr s.v ≠ 0 then (none, daysErr s.v) else (some (minusJ (minusJ (withF z.hrs s.v) (paidL s z ss)) ((rcovF ps s.plate s.zone s.v).1.getD [])), 0)
theorem minusJ_len {a b : List Iv} : (minusJ a b).length ≤ a.length + b.length + 1 := by
  have h1 := @meetJ_len a (gapsF 0 (joinF b))
  have h2 := @gapsF_len (joinF b) 0
  have h3 := @joinF_len b
  unfold minusJ
  omega
noncomputable section
open Classical
def r0unp_m : List PA → Option (List PA) := mE encUnp fun p => if unpOk p then some [.c (.sl (runpF p.1.2.2 p.2.1.2 p.2.2.2 p.1.1).1.isNone (((runpF p.1.2.2 p.2.1.2 p.2.2.2 p.1.1).1.getD []).map rwI)), .i (runpF p.1.2.2 p.2.1.2 p.2.2.2 p.1.1).2] else none
set_option maxHeartbeats 2000000 in
theorem r0unp_ok : PureC Tryz.prog Gt 33 r0unp_m := by
  refine pure_of_awpS (X := ctx Tryz.prog Gt [(30, r0chk_m), (67, zrfind_m), (71, r6enf_m), (72, r7Paid_m), (73, r9cover_m), (74, r5minus_m)]) Tryz.func33 rfl rfl (by kernel_rfl) (by kernel_rfl) (AllOk.cons r0chk_ok (AllOk.cons zrfind_ok (AllOk.cons r6enf_ok (AllOk.cons r7Paid_ok (AllOk.cons r9cover_ok (AllOk.cons r5minus_ok AllOk.nil)))))).kok ?_
  intro args r h0
  obtain ⟨⟨⟨⟨id, zn, pl, a, b⟩, f, zs⟩, ⟨g, ss⟩, k, ps⟩, rfl, h⟩ := mE_inv h0
  refine ⟨Nat.le_of_ble_eq_true rfl, ?_⟩
  split at h
  · rename_i hok
    obtain ⟨hok, hzs, hss, hps⟩ := hok
    dsimp only at hok hzs hss hps h
    simp only [Option.some.injEq] at h
    have f1 := @r0chk_at ⟨id, zn, pl, a, b⟩ f zs hok hzs
    simp only [Sty.row] at f1
    generalize hc0 : chkF zs ⟨id, zn, pl, a, b⟩ = c at *
    by_cases c1 : c = 0
    · subst c1
      obtain ⟨z, hz, hze, hiv⟩ := chk_zero hc0
      dsimp only at hz hiv
      have hzm : z ∈ zs := List.mem_of_find?_eq_some hz
      have f2 := @zrfind_at f zs zn hzs
      simp only [findR, hz, Zon.row, _root_.id] at f2
      have hb := ivOk_iff.1 hiv
      dsimp only [mxT] at hb
      obtain ⟨hfr, hzh⟩ := free_ok hze
      have f3 := @r6enf_at z (a, b) (Nat.le_trans hzh (by decide))
      simp only [Zon.row, rwI] at f3
      have w1 := wI (n := a + z.free) (by omega) (by omega)
      have f4 := @r9cover_at k ps pl zn (a, b) hps hok.2.2.2
      have l1 := @lenSs ss
      have hU : runpF zs ss ps ⟨id, zn, pl, a, b⟩ = if daysErr (a, b) ≠ 0 then (none, daysErr (a, b)) else (some (minusJ (minusJ (withF z.hrs (a, b)) (paidL ⟨id, zn, pl, a, b⟩ z ss)) ((rcovF ps pl zn (a, b)).1.getD [])), 0) := by
        rw [runpF, hc0, if_neg (by simp)]
        dsimp only
        rw [hz]
      rw [hU] at h
      have hde : daysErr (a, b) = 0 → nDays (a, b) ≤ 400 := fun h => by have := (days_ok h).2; omega
      have hwl := @withF_len z.hrs (a, b)
      have hcl : ((rcovF ps pl zn (a, b)).1.getD []).length ≤ 60000000 := by
        unfold rcovF
        split
        · simp
        have h1 := @rcovF_len pl zn (a, b) ps none
        have h2 := hps.1
        simp only [Option.getD_none, List.length_nil] at h1
        dsimp only
        omega
      simp only [rwI] at f4
      generalize daysErr (a, b) = en2 at *
      by_cases c2 : en2 = 0
      · subst c2
        have hde := hde rfl
        have hwl : (withF z.hrs (a, b)).length ≤ 1000000 := by omega
        rw [if_neg (by simp)] at h
        simp only [if_true] at f3
        obtain ⟨u, hu⟩ : ∃ u, min (a + z.free) b = u := ⟨_, rfl⟩
        have hfi : freeI ⟨id, zn, pl, a, b⟩ z = (a, u) := by
          unfold freeI
          dsimp only
          rw [hu]
        generalize withF z.hrs (a, b) = WF at *
        have ap0 : ∀ h x, apSl h 2 16 [] [[.int .i64 a, .int .i64 x]] = some (.v (.c (.own h.length [[.int .i64 a, .int .i64 x]])), h ++ [.tok 1 2 none]) := fun h x => by
          rw [apSl, if_pos ⟨by simp [allLen], by simp [allLen], by simp, by simp⟩]
          rfl
        obtain ⟨F, hF⟩ : ∃ F : Nat → List Ses, F = fun j => (ss.take j).filter (paidS ⟨id, zn, pl, a, b⟩) := ⟨_, rfl⟩
        obtain ⟨L, hL⟩ : ∃ L : Nat → List Iv, L = fun j => (a, u) :: (F j).map paidF := ⟨_, rfl⟩
        obtain ⟨sta, hsta⟩ : ∃ sta : Nat → S, sta = fun j => ⟨[(17, AV.i j), (2, AV.d (.sl g (ss.map Ses.row))), (15, .v (.c (.own 3 ((L j).map rwI)))), (13, AV.d (.sl false (WF.map rwI))), (3, AV.d (.sl k (ps.map Pmt.row))), (4, .v (.c (.ptr 0 0)))], [.box [.d (.str id), .d (.str zn), .d (.str pl), .d (.int .i64 a), .d (.int .i64 b)], .box [.d (.str z.name), .d (.sl z.hf (z.hrs.map Win.row)), .d (.sl z.sf (z.sts.map Stf.row)), .d (.int .i64 z.grace), .d (.int .i64 z.free), .d (.int .i64 z.dmax), .d (.int .i64 z.stay)], .box [.d (.int .i64 a), .d (.int .i64 u)], .tok ((L j).map rwI).length 2 none]⟩ := ⟨_, rfl⟩
        have hF0 : F 0 = [] := by rw [hF]; rfl
        have hL0 : L 0 = [(a, u)] := by rw [hL]; dsimp only; rw [hF0]; rfl
        have hFle : ∀ j, (F j).length ≤ j := fun j => by
          rw [hF]
          exact Nat.le_trans (List.length_filter_le _ _) (by rw [List.length_take]; omega)
        have hLl : ∀ j, (L j).length = (F j).length + 1 := fun j => by rw [hL]; simp
        by_cases c5 : b < a + z.free
        · have hub : u = b := by rw [← hu, Int.min_def]; split <;> omega
          have c5' : (a + z.free > b) = True := eq_true c5
          subst hub
          have hc := Nat.zero_add 0
          repeat' (first | simp only [hc, AS, Tryz.f33, encUnp, Sty.row, SX, f1, f2, f3, w1, bne, l1, c5', ap0, ZZ, simprocAttr, ↓reduceIte] | refine Zi ?_ )
          have st1 : ∀ j, sta j = _ := fun j => congrFun hsta j
          refine awpS_loop (σ := Nat) (fun k => k ≤ ss.length) sta (fun k => ss.length - k) 0 (by rw [st1, hL0]; exact Wk.sub' (by simp [subT, look, rwI]) (by simp [rwI])) (Nat.zero_le _) ?_
          intro j hj
          have hlj := hLl j
          have hfj := hFle j
          by_cases hjl : j < ss.length
          · have e1 := ss_at hjl
            have c3 : ((j : Int) < (ss.length : Int)) = True := eq_true (by omega)
            have w2 := wI (n := (j : Int) + 1) (by omega) (by omega)
            have f5 : r7Paid_m [.agg ss[j].row] = some [.agg (rowIv (paidF ss[j]))] := mE_eq encS_inj (g := fun s => some [DV.agg (rowIv (paidF s))]) (a := ss[j])
            have hFs : F (j + 1) = F j ++ (if paidS ⟨id, zn, pl, a, u⟩ ss[j] = true then [ss[j]] else []) := by
              rw [hF]
              dsimp only
              rw [List.take_succ_eq_append_getElem hjl, List.filter_append]
              congr 1
              by_cases hc : paidS ⟨id, zn, pl, a, u⟩ ss[j] = true <;> simp [hc]
            have hps2 : paidS ⟨id, zn, pl, a, u⟩ ss[j] = (decide (ss[j].zone = zn) && decide (ss[j].plate = pl)) := rfl
            have hLs : F (j + 1) = F j ++ [ss[j]] → L (j + 1) = L j ++ [paidF ss[j]] := fun h0 => by rw [hL]; dsimp only; rw [h0, List.map_append]; rfl
            have hLe : F (j + 1) = F j → L (j + 1) = L j := fun h0 => by rw [hL]; dsimp only; rw [h0]
            generalize hpx : paidF ss[j] = px at *
            generalize ss[j] = x at *
            obtain ⟨x1, x2, x3, x4, x5, x6, x7, x8⟩ := x
            obtain ⟨px1, px2⟩ := px
            dsimp only at e1 hps2
            simp only [Ses.row, rowIv] at f5
            rw [st1 j]
            have ap1 : ∀ h, apTok h 3 2 16 ((L j).map rwI) [[.int .i64 px1, .int .i64 px2]] (some (.tok ((L j).map rwI).length 2 none)) = some (.v (.c (.own 3 ((L j ++ [(px1, px2)]).map rwI))), h.set 3 (.tok ((L j ++ [(px1, px2)]).map rwI).length 2 none)) := fun h => by
              rw [apTok_ok (eq_true rfl) (eq_true (by simp [allLen])) (eq_true (by simp; omega)) (eq_true (by simp; omega))]
              simp [rwI]
            by_cases d1 : x2 = zn
            · have d1' : (x2 == zn) = true := by simpa using d1
              by_cases d2 : x3 = pl
              · have d2' : (x3 == pl) = true := by simpa using d2
                rw [hps2, decide_eq_true d1, decide_eq_true d2] at hFs
                have hFs : F (j + 1) = F j ++ [⟨x1, x2, x3, x4, x5, x6, x7, x8⟩] := hFs
                have hL1 := hLs hFs
                have hc := Nat.zero_add 0
                repeat' (first | simp only [hc, AS, SX, l1, e1, c3, nn, w2, d1', d2', f5, ap1, ZZ, simprocAttr, ↓reduceIte] | refine Zi ?_ )
                refine lp_next (j + 1) ?_ (by omega) (by omega)
                rw [st1 (j + 1), hL1]
                exact Wk.sub' (by simp [subT, look]) rfl
              have d2' : (x3 == pl) = false := by simpa using d2
              rw [hps2, decide_eq_false d2, Bool.and_false, if_neg (by decide), List.append_nil] at hFs
              have hc := Nat.zero_add 0
              repeat' (first | simp only [hc, AS, SX, l1, e1, c3, nn, w2, d1', d2', f5, ZZ, simprocAttr, ↓reduceIte] | refine Zi ?_ )
              refine lp_next (j + 1) ?_ (by omega) (by omega)
              rw [st1 (j + 1), hLe hFs]
              exact Wk.sub' (by simp [subT, look]) rfl
            have d1' : (x2 == zn) = false := by simpa using d1
            rw [hps2, decide_eq_false d1, Bool.false_and, if_neg (by decide), List.append_nil] at hFs
            have hc := Nat.zero_add 0
            repeat' (first | simp only [hc, AS, SX, l1, e1, c3, nn, w2, d1', f5, ZZ, simprocAttr, ↓reduceIte] | refine Zi ?_ )
            refine lp_next (j + 1) ?_ (by omega) (by omega)
            rw [st1 (j + 1), hLe hFs]
            exact Wk.sub' (by simp [subT, look]) rfl
          have c3 : ((j : Int) < (ss.length : Int)) = False := eq_false (by omega)
          have hLj : L j = paidL ⟨id, zn, pl, a, u⟩ z ss := by
            rw [hL]
            dsimp only
            rw [paidL, hfi, hF]
            dsimp only
            rw [List.take_of_length_le (by omega)]
          rw [← hLj] at h
          generalize rcovF ps pl zn (a, u) = C at *
          obtain ⟨C1, C2⟩ := C
          dsimp only at hcl f4 h
          generalize hCl : C1.getD [] = Cl at *
          have f6 := @r5minus_at false false WF (L j) (by omega) (by omega)
          have f7 := @r5minus_at false C1.isNone (minusJ WF (L j)) Cl (by have := @minusJ_len WF (L j); omega) (by omega)
          rw [st1 j]
          have hc := Nat.zero_add 0
          repeat' (first | simp only [hc, AS, SX, l1, c3, f4, f6, f7, ZZ, simprocAttr, ↓reduceIte] | refine Zi ?_ | refine Zj ?_)
          rw [← h]
          rfl
        have hub : u = a + z.free := by rw [← hu, Int.min_def]; split <;> omega
        have c5' : (a + z.free > b) = False := eq_false c5
        subst hub
        have hc := Nat.zero_add 0
        repeat' (first | simp only [hc, AS, Tryz.f33, encUnp, Sty.row, SX, f1, f2, f3, w1, bne, l1, c5', ap0, ZZ, simprocAttr, ↓reduceIte] | refine Zi ?_ )
        have st1 : ∀ j, sta j = _ := fun j => congrFun hsta j
        refine awpS_loop (σ := Nat) (fun k => k ≤ ss.length) sta (fun k => ss.length - k) 0 (by rw [st1, hL0]; exact Wk.sub' (by simp [subT, look, rwI]) (by simp [rwI])) (Nat.zero_le _) ?_
        intro j hj
        have hlj := hLl j
        have hfj := hFle j
        by_cases hjl : j < ss.length
        · have e1 := ss_at hjl
          have c3 : ((j : Int) < (ss.length : Int)) = True := eq_true (by omega)
          have w2 := wI (n := (j : Int) + 1) (by omega) (by omega)
          have f5 : r7Paid_m [.agg ss[j].row] = some [.agg (rowIv (paidF ss[j]))] := mE_eq encS_inj (g := fun s => some [DV.agg (rowIv (paidF s))]) (a := ss[j])
          have hFs : F (j + 1) = F j ++ (if paidS ⟨id, zn, pl, a, b⟩ ss[j] = true then [ss[j]] else []) := by
            rw [hF]
            dsimp only
            rw [List.take_succ_eq_append_getElem hjl, List.filter_append]
            congr 1
            by_cases hc : paidS ⟨id, zn, pl, a, b⟩ ss[j] = true <;> simp [hc]
          have hps2 : paidS ⟨id, zn, pl, a, b⟩ ss[j] = (decide (ss[j].zone = zn) && decide (ss[j].plate = pl)) := rfl
          have hLs : F (j + 1) = F j ++ [ss[j]] → L (j + 1) = L j ++ [paidF ss[j]] := fun h0 => by rw [hL]; dsimp only; rw [h0, List.map_append]; rfl
          have hLe : F (j + 1) = F j → L (j + 1) = L j := fun h0 => by rw [hL]; dsimp only; rw [h0]
          generalize hpx : paidF ss[j] = px at *
          generalize ss[j] = x at *
          obtain ⟨x1, x2, x3, x4, x5, x6, x7, x8⟩ := x
          obtain ⟨px1, px2⟩ := px
          dsimp only at e1 hps2
          simp only [Ses.row, rowIv] at f5
          rw [st1 j]
          have ap1 : ∀ h, apTok h 3 2 16 ((L j).map rwI) [[.int .i64 px1, .int .i64 px2]] (some (.tok ((L j).map rwI).length 2 none)) = some (.v (.c (.own 3 ((L j ++ [(px1, px2)]).map rwI))), h.set 3 (.tok ((L j ++ [(px1, px2)]).map rwI).length 2 none)) := fun h => by
            rw [apTok_ok (eq_true rfl) (eq_true (by simp [allLen])) (eq_true (by simp; omega)) (eq_true (by simp; omega))]
            simp [rwI]
          by_cases d1 : x2 = zn
          · have d1' : (x2 == zn) = true := by simpa using d1
            by_cases d2 : x3 = pl
            · have d2' : (x3 == pl) = true := by simpa using d2
              rw [hps2, decide_eq_true d1, decide_eq_true d2] at hFs
              have hFs : F (j + 1) = F j ++ [⟨x1, x2, x3, x4, x5, x6, x7, x8⟩] := hFs
              have hL1 := hLs hFs
              have hc := Nat.zero_add 0
              repeat' (first | simp only [hc, AS, SX, l1, e1, c3, nn, w2, d1', d2', f5, ap1, ZZ, simprocAttr, ↓reduceIte] | refine Zi ?_ )
              refine lp_next (j + 1) ?_ (by omega) (by omega)
              rw [st1 (j + 1), hL1]
              exact Wk.sub' (by simp [subT, look]) rfl
            have d2' : (x3 == pl) = false := by simpa using d2
            rw [hps2, decide_eq_false d2, Bool.and_false, if_neg (by decide), List.append_nil] at hFs
            have hc := Nat.zero_add 0
            repeat' (first | simp only [hc, AS, SX, l1, e1, c3, nn, w2, d1', d2', f5, ZZ, simprocAttr, ↓reduceIte] | refine Zi ?_ )
            refine lp_next (j + 1) ?_ (by omega) (by omega)
            rw [st1 (j + 1), hLe hFs]
            exact Wk.sub' (by simp [subT, look]) rfl
          have d1' : (x2 == zn) = false := by simpa using d1
          rw [hps2, decide_eq_false d1, Bool.false_and, if_neg (by decide), List.append_nil] at hFs
          have hc := Nat.zero_add 0
          repeat' (first | simp only [hc, AS, SX, l1, e1, c3, nn, w2, d1', f5, ZZ, simprocAttr, ↓reduceIte] | refine Zi ?_ )
          refine lp_next (j + 1) ?_ (by omega) (by omega)
          rw [st1 (j + 1), hLe hFs]
          exact Wk.sub' (by simp [subT, look]) rfl
        have c3 : ((j : Int) < (ss.length : Int)) = False := eq_false (by omega)
        have hLj : L j = paidL ⟨id, zn, pl, a, b⟩ z ss := by
          rw [hL]
          dsimp only
          rw [paidL, hfi, hF]
          dsimp only
          rw [List.take_of_length_le (by omega)]
        rw [← hLj] at h
        generalize rcovF ps pl zn (a, b) = C at *
        obtain ⟨C1, C2⟩ := C
        dsimp only at hcl f4 h
        generalize hCl : C1.getD [] = Cl at *
        have f6 := @r5minus_at false false WF (L j) (by omega) (by omega)
        have f7 := @r5minus_at false C1.isNone (minusJ WF (L j)) Cl (by have := @minusJ_len WF (L j); omega) (by omega)
        rw [st1 j]
        have hc := Nat.zero_add 0
        repeat' (first | simp only [hc, AS, SX, l1, c3, f4, f6, f7, ZZ, simprocAttr, ↓reduceIte] | refine Zi ?_ | refine Zj ?_)
        rw [← h]
        rfl
      have c2' := eq_false c2
      rw [if_pos c2] at h
      rw [if_neg c2] at f3
      have hc := Nat.zero_add 0
      repeat' (first | simp only [hc, AS, Tryz.f33, encUnp, Sty.row, SX, f1, f2, f3, c2', bne, ZZ, simprocAttr, ↓reduceIte] | refine Zi ?_ )
      rw [← h]
      rfl
    have c1' := eq_false c1
    have hU : runpF zs ss ps ⟨id, zn, pl, a, b⟩ = (none, c) := by rw [runpF, hc0, if_pos c1]
    rw [hU] at h
    have hc := Nat.zero_add 0
    repeat' (first | simp only [hc, AS, Tryz.f33, encUnp, Sty.row, SX, f1, c1', bne, ZZ, simprocAttr, ↓reduceIte] | refine Zi ?_ )
    rw [← h]
    rfl
  cases h
end
end Go.Ab
namespace Go.Ab
open Go.RowKit Go.Proofs
theorem inB_win {w : Win} {t : Int} (h0 : 0 ≤ t) (h1 : t < mxT) : inB w.d w.f w.t t = winM w (t / 86400) (t % 86400 / 60) := by
  have ht : isT t = true := by
    simp only [isT, Bool.and_eq_true, decide_eq_true_eq]
    exact ⟨h0, h1⟩
  have hd : t.tdiv 86400 = t / 86400 := Int.tdiv_eq_ediv_of_nonneg h0
  have hm : (t / 86400).tmod 7 = t / 86400 % 7 := Int.tmod_eq_emod_of_nonneg (by omega)
  have hF : minF t = t % 86400 / 60 := by
    unfold minF
    rw [if_pos ht, Int.tmod_eq_emod_of_nonneg h0, Int.tdiv_eq_ediv_of_nonneg (by omega)]
    exact wI (by omega) (by omega)
  rw [inB, winM, Win.ok, ht, hd, hm, hF, Bool.true_and, Bool.and_assoc, Bool.and_assoc]
theorem hrs_same {hs : List Win} {t : Int} (h0 : 0 ≤ t) (h1 : t < mxT) : hrsP hs t = hrsB hs t := by
  unfold hrsP hrsB inHrs hrsM
  congr 2
  funext w
  exact inB_win h0 h1
theorem hrs_valid {hs : List Win} {t : Int} : (hs.filter wOk).any (fun w => inB w.d w.f w.t t) = hs.any fun w => inB w.d w.f w.t t := by
  rw [List.any_filter]
  congr 1
  funext w
  cases hw : wOk w
  · have hw : validB w.d w.f w.t = false := hw
    simp [inB, hw]
  rfl
theorem days_iv {i : Iv} (h : daysErr i = 0) : ivOk i = true := by
  unfold daysErr at h
  split at h
  · cases h
  rename_i h'; simpa using h'
theorem iv_range {i : Iv} (h : ivOk i = true) {t : Int} (ht : i.1 ≤ t ∧ t < i.2) : 0 ≤ t ∧ t < mxT := by
  have := ivOk_iff.1 h
  omega
theorem hasV_one {i : Iv} {t : Int} : hasV [i] t ↔ ivOk i = true ∧ i.1 ≤ t ∧ t < i.2 := by
  rw [hasV_cons]
  exact ⟨fun h => h.elim id fun h => absurd h hasV_nil, .inl⟩
theorem hrsU_in {i : Iv} (hd : daysErr i = 0) {t : Int} : ∀ {hs : List Win} {o : Option (List Iv)}, hasV ((hs.foldl (stepU i) o).getD []) t ↔ hasV (o.getD []) t ∨ ((i.1 ≤ t ∧ t < i.2) ∧ hs.any (fun w => inB w.d w.f w.t t) = true)
  | [], o => by simp
  | w :: hs, o => by
    rw [List.foldl_cons, hrsU_in hd]
    have : hasV ((stepU i o w).getD []) t ↔ hasV (o.getD []) t ∨ ((i.1 ≤ t ∧ t < i.2) ∧ inB w.d w.f w.t t = true) := by
      show hasV (joinF _) t ↔ _
      rw [joinF_has, hasV_append]
      exact or_congr Iff.rfl (spans_in hd)
    rw [this, List.any_cons, Bool.or_eq_true]
    constructor
    · rintro ((h | ⟨h1, h2⟩) | ⟨h1, h2⟩)
      · exact .inl h
      · exact .inr ⟨h1, .inl h2⟩
      exact .inr ⟨h1, .inr h2⟩
    rintro (h | ⟨h1, h2 | h2⟩)
    · exact .inl (.inl h)
    · exact .inl (.inr ⟨h1, h2⟩)
    exact .inr ⟨h1, h2⟩
theorem hrsU_in0 {i : Iv} (hd : daysErr i = 0) {t : Int} {hs : List Win} : hasV ((hrsU i hs).getD []) t ↔ (i.1 ≤ t ∧ t < i.2) ∧ hs.any (fun w => inB w.d w.f w.t t) = true := by
  rw [hrsU, hrsU_in hd]
  exact ⟨fun h => h.elim (fun h => absurd h hasV_nil) id, .inr⟩
theorem enf_in {z : Zon} {i : Iv} (hd : daysErr i = 0) {t : Int} : hasV ((enfF z i).1.getD []) t ↔ (i.1 ≤ t ∧ t < i.2) ∧ hrsP z.hrs t = true := by
  have hv := days_iv hd
  unfold enfF
  rw [if_neg (by rw [hd]; simp)]
  split
  · rename_i h0
    show hasV [i] t ↔ _
    rw [hasV_one, h0]
    exact ⟨fun h => ⟨h.2, rfl⟩, fun h => ⟨hv, h.1⟩⟩
  rename_i h0
  show hasV ((hrsU i (z.hrs.filter wOk)).getD []) t ↔ _
  rw [hrsU_in0 hd, hrs_valid]
  have : z.hrs.isEmpty = false := by
    cases hz : z.hrs with
    | nil => exact absurd hz h0
    | cons a l => rfl
  rw [hrsP, this, Bool.false_or]
theorem with_in {z : Zon} {i : Iv} (hd : daysErr i = 0) {t : Int} : hasV (withF z.hrs i) t ↔ (i.1 ≤ t ∧ t < i.2) ∧ hrsP z.hrs t = true := by
  have hv := days_iv hd
  obtain ⟨h1, h2⟩ := @withF_ok z.hrs i hv
  rw [hasV_ok (ok_of_range h1 fun u hu => iv_range hv ((h2 u).1 hu).1), h2]
  constructor
  · rintro ⟨ht, h⟩
    have := iv_range hv ht
    exact ⟨ht, by rw [hrs_same this.1 this.2]; exact h⟩
  rintro ⟨ht, h⟩
  have := iv_range hv ht
  exact ⟨ht, by rw [← hrs_same this.1 this.2]; exact h⟩
theorem allow_in {p : Pmt} {s : List UInt8} {i : Iv} (hd : daysErr i = 0) {t : Int} : hasV ((allowF p s i).1.getD []) t ↔ (i.1 ≤ t ∧ t < i.2) ∧ validP p s t = true := by
  have hv := days_iv hd
  have hW : hasW [p.v] t = true ↔ hasV [p.v] t := hasW_iff
  have mi : inV (meetJ [i] [p.v]) t ↔ (i.1 ≤ t ∧ t < i.2) ∧ hasV [p.v] t := by
    rw [meetJ_in, hasV_one]
    exact ⟨fun h => ⟨h.1.2, h.2⟩, fun h => ⟨⟨hv, h.1⟩, h.2⟩⟩
  have mh : hasV (meetJ [i] [p.v]) t ↔ (i.1 ≤ t ∧ t < i.2) ∧ hasV [p.v] t := (hasV_ok meetJ_ok).trans mi
  unfold allowF validP
  rw [if_neg (by rw [hd]; simp)]
  cases hl : listB p s
  · rw [if_pos rfl, Bool.false_and]
    exact ⟨fun h => absurd h hasV_nil, fun h => by cases h.2⟩
  rw [if_neg (by decide), Bool.true_and, Bool.and_eq_true, hW]
  split
  · rename_i h0
    show hasV (meetJ [i] [p.v]) t ↔ _
    rw [mh, h0]
    exact ⟨fun h => ⟨h.1, h.2, rfl⟩, fun h => ⟨h.1, h.2.1⟩⟩
  rename_i h0
  show hasV (meetJ (meetJ [i] [p.v]) ((hrsU i p.hrs).getD [])) t ↔ _
  rw [hasV_ok meetJ_ok, meetJ_in, mh, hrsU_in0 hd]
  have : p.hrs.isEmpty = false := by
    cases hz : p.hrs with
    | nil => exact absurd hz h0
    | cons a l => rfl
  rw [hrsP, this, Bool.false_or]
  exact ⟨fun h => ⟨h.1.1, h.1.2, h.2.2⟩, fun h => ⟨⟨h.1, h.2.1⟩, h.1, h.2.2⟩⟩
theorem rallow_in {p : Pmt} {s : List UInt8} {i : Iv} (hd : daysErr i = 0) : NF ((rallowF p s i).1.getD []) ∧ ∀ t, inV ((rallowF p s i).1.getD []) t ↔ (i.1 ≤ t ∧ t < i.2) ∧ validP p s t = true := by
  have hv := days_iv hd
  have hW : ∀ t, hasW [p.v] t = true ↔ ivOk p.v = true ∧ p.v.1 ≤ t ∧ t < p.v.2 := fun t => hasW_iff.trans hasV_one
  unfold rallowF
  rw [if_neg (by rw [hd]; simp)]
  by_cases h1 : listB p s = false ∨ ivOk p.v = false
  · rw [if_pos h1]
    refine ⟨NF.nil, fun t => ⟨fun h => absurd h inV_nil, fun h => ?_⟩⟩
    have h2 := h.2
    simp only [validP, Bool.and_eq_true, hW] at h2
    rcases h1 with h1 | h1
    · rw [h1] at h2; cases h2.1
    rw [h1] at h2; cases h2.2.1.1
  rw [if_neg h1]
  have hl : listB p s = true := by
    cases hb : listB p s
    · exact absurd (.inl hb) h1
    rfl
  have hp : ivOk p.v = true := by
    cases hb : ivOk p.v
    · exact absurd (.inr hb) h1
    rfl
  have hcl : ∀ t, ((clip i p.v).1 ≤ t ∧ t < (clip i p.v).2) ↔ (i.1 ≤ t ∧ t < i.2) ∧ (p.v.1 ≤ t ∧ t < p.v.2) := fun t => by
    unfold clip
    dsimp only
    omega
  by_cases h2 : (clip i p.v).2 ≤ (clip i p.v).1
  · rw [if_pos h2]
    refine ⟨NF.nil, fun t => ⟨fun h => absurd h inV_nil, fun h => ?_⟩⟩
    have h3 := h.2
    simp only [validP, Bool.and_eq_true, hW] at h3
    have := (hcl t).2 ⟨h.1, h3.2.1.2⟩
    omega
  rw [if_neg h2]
  obtain ⟨c1, _⟩ := clip_ok hd hp h2
  obtain ⟨w1, w2⟩ := @withF_ok p.hrs _ c1
  refine ⟨w1, fun t => ?_⟩
  show inV (withF p.hrs (clip i p.v)) t ↔ _
  rw [w2 t, hcl t]
  simp only [validP, Bool.and_eq_true, hW, hl, hp, true_and]
  constructor
  · rintro ⟨⟨a, b⟩, c⟩
    have := iv_range hv a
    exact ⟨a, b, by rw [hrs_same this.1 this.2]; exact c⟩
  rintro ⟨a, b, c⟩
  have := iv_range hv a
  exact ⟨⟨a, b⟩, by rw [← hrs_same this.1 this.2]; exact c⟩
def cvB (n s : List UInt8) (t : Int) (p : Pmt) : Bool := decide (p.zone = n) && validP p s t
theorem stepC_in {s n : List UInt8} {i : Iv} (hd : daysErr i = 0) {t : Int} : ∀ {l : List Pmt} {o : Option (List Iv)}, hasV ((l.foldl (stepC s n i) o).getD []) t ↔ hasV (o.getD []) t ∨ ((i.1 ≤ t ∧ t < i.2) ∧ l.any (cvB n s t) = true)
  | [], o => by simp
  | p :: l, o => by
    rw [List.foldl_cons, stepC_in hd]
    have : hasV ((stepC s n i o p).getD []) t ↔ hasV (o.getD []) t ∨ ((i.1 ≤ t ∧ t < i.2) ∧ cvB n s t p = true) := by
      unfold stepC cvB
      by_cases hz : p.zone = n
      · rw [if_pos hz, decide_eq_true hz, Bool.true_and]
        show hasV (joinF _) t ↔ _
        rw [joinF_has, hasV_append]
        exact or_congr Iff.rfl (allow_in hd)
      rw [if_neg hz, decide_eq_false hz, Bool.false_and]
      simp
    rw [this, List.any_cons, Bool.or_eq_true]
    constructor
    · rintro ((h | ⟨h1, h2⟩) | ⟨h1, h2⟩)
      · exact .inl h
      · exact .inr ⟨h1, .inl h2⟩
      exact .inr ⟨h1, .inr h2⟩
    rintro (h | ⟨h1, h2 | h2⟩)
    · exact .inl (.inl h)
    · exact .inl (.inr ⟨h1, h2⟩)
    exact .inr ⟨h1, h2⟩
theorem cov_in {l : List Pmt} {s n : List UInt8} {i : Iv} (hd : daysErr i = 0) {t : Int} : hasV ((covF l s n i).1.getD []) t ↔ (i.1 ≤ t ∧ t < i.2) ∧ l.any (cvB n s t) = true := by
  unfold covF
  rw [if_neg (by rw [hd]; simp)]
  show hasV ((l.foldl (stepC s n i) none).getD []) t ↔ _
  rw [stepC_in hd]
  exact ⟨fun h => h.elim (fun h => absurd h hasV_nil) id, .inr⟩
theorem rstepC_in {s n : List UInt8} {i : Iv} (hd : daysErr i = 0) : ∀ {l : List Pmt} {o : Option (List Iv)}, NF (o.getD []) → NF ((l.foldl (rstepC s n i) o).getD []) ∧ ∀ t, inV ((l.foldl (rstepC s n i) o).getD []) t ↔ inV (o.getD []) t ∨ ((i.1 ≤ t ∧ t < i.2) ∧ l.any (cvB n s t) = true)
  | [], o, h => ⟨h, fun t => by simp⟩
  | p :: l, o, h => by
    have : NF ((rstepC s n i o p).getD []) ∧ ∀ t, inV ((rstepC s n i o p).getD []) t ↔ inV (o.getD []) t ∨ ((i.1 ≤ t ∧ t < i.2) ∧ cvB n s t p = true) := by
      unfold rstepC cvB
      by_cases hz : p.zone = n
      · rw [if_pos hz]
        obtain ⟨a1, a2⟩ := @rallow_in p s i hd
        obtain ⟨j1, j2⟩ := joinR_ok h a1
        refine ⟨j1, fun t => ?_⟩
        rw [decide_eq_true hz, Bool.true_and]
        exact (j2 t).trans (or_congr Iff.rfl (a2 t))
      rw [if_neg hz]
      refine ⟨h, fun t => ?_⟩
      rw [decide_eq_false hz, Bool.false_and]
      simp
    obtain ⟨k1, k2⟩ := this
    obtain ⟨m1, m2⟩ := @rstepC_in s n i hd l _ k1
    refine ⟨m1, fun t => ?_⟩
    rw [List.foldl_cons, m2 t, k2 t, List.any_cons, Bool.or_eq_true]
    constructor
    · rintro ((h | ⟨h1, h2⟩) | ⟨h1, h2⟩)
      · exact .inl h
      · exact .inr ⟨h1, .inl h2⟩
      exact .inr ⟨h1, .inr h2⟩
    rintro (h | ⟨h1, h2 | h2⟩)
    · exact .inl (.inl h)
    · exact .inl (.inr ⟨h1, h2⟩)
    exact .inr ⟨h1, h2⟩
theorem rcov_in {l : List Pmt} {s n : List UInt8} {i : Iv} (hd : daysErr i = 0) {t : Int} : hasV ((rcovF l s n i).1.getD []) t ↔ (i.1 ≤ t ∧ t < i.2) ∧ l.any (cvB n s t) = true := by
  have hv := days_iv hd
  unfold rcovF
  rw [if_neg (by rw [hd]; simp)]
  show hasV ((l.foldl (rstepC s n i) none).getD []) t ↔ _
  obtain ⟨m1, m2⟩ := @rstepC_in s n i hd l none NF.nil
  have m3 : ∀ t, inV ((l.foldl (rstepC s n i) none).getD []) t ↔ (i.1 ≤ t ∧ t < i.2) ∧ l.any (cvB n s t) = true := fun t => by
    rw [m2 t]
    exact ⟨fun h => h.elim (fun h => absurd h inV_nil) id, .inr⟩
  rw [hasV_ok (ok_of_range m1 fun u hu => iv_range hv ((m3 u).1 hu).1), m3]
theorem enf_e {z : Zon} {i : Iv} : (enfF z i).2 = daysErr i := by
  unfold enfF
  split
  · rfl
  rename_i h
  split <;> simp_all
theorem unp_same {zs : List Zon} {ss : List Ses} {ps : List Pmt} {s : Sty} : unpF zs ss ps s = runpF zs ss ps s := by
  unfold unpF runpF
  by_cases hc : chkF zs s ≠ 0
  · rw [if_pos hc, if_pos hc]
  rw [if_neg hc, if_neg hc]
  cases findZ zs s.zone with
  | none => rfl
  | some z =>
    dsimp only
    rw [enf_e]
    by_cases hd : daysErr s.v = 0
    · rw [if_neg (by simp [hd]), if_neg (by simp [hd])]
      congr 2
      refine nf_ext minusJ_nf minusJ_nf fun t => ?_
      rw [minusJ_in, minusJ_in, hasV_ok minusJ_ok, minusJ_in, hasV_append, enf_in hd, with_in hd, cov_in hd, rcov_in hd]
      constructor
      · rintro ⟨a, b⟩
        exact ⟨⟨a, fun h => b (.inl h)⟩, fun h => b (.inr h)⟩
      rintro ⟨⟨a, b⟩, c⟩
      exact ⟨a, fun h => h.elim b c⟩
    rw [if_pos hd, if_pos hd]
theorem paidL_in {s : Sty} {z : Zon} {ss : List Ses} {t : Int} (hv : ivOk s.v = true) (hf : 0 ≤ z.free) (ht : s.v.1 ≤ t ∧ t < s.v.2) : hasV (paidL s z ss) t ↔ t - s.v.1 < z.free ∨ ∃ x ∈ ss, x.zone = s.zone ∧ x.plate = s.plate ∧ (paidF x).1 ≤ t ∧ t < (paidF x).2 := by
  have hb := ivOk_iff.1 hv
  rw [paidL, hasV_cons]
  refine or_congr ?_ ?_
  · rw [ivOk_iff, freeI]
    dsimp only
    omega
  constructor
  · rintro ⟨i, hi, _, h1, h2⟩
    obtain ⟨x, hx, rfl⟩ := List.mem_map.1 hi
    obtain ⟨hx, hp⟩ := List.mem_filter.1 hx
    simp only [paidS, Bool.and_eq_true, decide_eq_true_eq] at hp
    exact ⟨x, hx, hp.1, hp.2, h1, h2⟩
  rintro ⟨x, hx, h1, h2, h3, h4⟩
  refine ⟨paidF x, List.mem_map.2 ⟨x, List.mem_filter.2 ⟨hx, by simp [paidS, h1, h2]⟩, rfl⟩, ?_, h3, h4⟩
  unfold paidF at h3 h4 ⊢
  split
  · rename_i hi
    rw [ival_iv] at hi
    exact hi
  rename_i hi
  rw [if_neg hi] at h3 h4
  dsimp only at h3 h4
  omega
end Go.Ab
