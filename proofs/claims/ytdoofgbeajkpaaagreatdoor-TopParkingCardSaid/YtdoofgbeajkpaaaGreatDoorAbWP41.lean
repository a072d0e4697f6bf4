/-
  Texts of the layer and of the laws, put together: AbJ19.
-/
import Derived.Test.YtdoofgbeajkpaaaGreatDoorAbWP40
import Derived.Test.YtdoofgbeajkpaaaGreatDoorAbWP37
import Derived.Test.YtdoofgbeajkpaaaGreatDoorAbWP39
import Derived.Test.YtdoofgbeajkpaaaGreatDoorAbWP35
import Derived.Test.YtdoofgbeajkpaaaGreatDoorAbWP34
import Derived.Test.YtdoofgbeajkpaaaGreatDoorAbWP22
set_option linter.unusedSimpArgs false
set_option linter.unusedVariables false
set_option maxRecDepth 100000
namespace Go.Ab
open Go.RowKit Go.Proofs
def paidS (s : Sty) (x : Ses) : Bool := decide (x.zone = s.zone) && decide (x.plate = s.plate)
def freeI (s : Sty) (z : Zon) : Iv := (s.v.1, min (s.v.1 + z.free) s.v.2)
def paidL (s : Sty) (z : Zon) (l : List Ses) : List Iv := freeI s z :: (l.filter (paidS s)).map paidF
def unpF (zs : List Zon) (ss : List Ses) (ps : List Pmt) (s : Sty) : Option (List Iv) × Int :=
  if chkF zs s ≠ 0 then (none, chkF zs s) else match findZ zs s.zone with
    | none => (none, 0)
    | some z => if (enfF z s.v).2 ≠ 0 then (none, (enfF z s.v).2) else (some (minusJ ((enfF z s.v).1.getD []) (paidL s z ss ++ (covF ps s.plate s.zone s.v).1.getD [])), 0)
def encUnp (p : (Sty × (Bool × List Zon)) × ((Bool × List Ses) × (Bool × List Pmt))) : List PA := [.agg p.1.1.row, .c (.sl p.1.2.1 (p.1.2.2.map Zon.row)), .c (.sl p.2.1.1 (p.2.1.2.map Ses.row)), .c (.sl p.2.2.1 (p.2.2.2.map Pmt.row))]
theorem chk_zero {zs : List Zon} {s : Sty} (h : chkF zs s = 0) : ∃ z, findZ zs s.zone = some z ∧ z.err = 0 ∧ ivOk s.v = true := by
  unfold chkF at h
  cases hf : findZ zs s.zone with
  | none =>
    rw [hf] at h
    cases h
  | some z =>
    rw [hf] at h
    dsimp only at h
    refine ⟨z, rfl, ?_, ?_⟩
    · apply Classical.byContradiction
      intro h1
      rw [if_pos h1] at h
      cases h
    cases hv : ivOk s.v
    · exfalso
      split at h
      · omega
      split at h
      · cases h
      cases h
    rfl
theorem free_ok {z : Zon} (h : z.err = 0) : (0 ≤ z.free ∧ z.free ≤ 68719476736) ∧ z.hrs.length ≤ 32 := by
  unfold Zon.err at h
  split at h
  · omega
  split at h
  · omega
  split at h
  · omega
  split at h
  · omega
  split at h
  · omega
  rename_i h1 h2 h3 h4 h5
  have h6 : btwB z.free 0 68719476736 = true := by
    cases hb : btwB z.free 0 68719476736
    · exact absurd (.inr (.inl hb)) h5
    rfl
  exact ⟨of_decide_eq_true h6, by omega⟩
theorem allLenI (l : List Iv) : allLen 2 (l.map rwI) := fun r hr => by
  obtain ⟨x, _, rfl⟩ := List.mem_map.1 hr
  rfl
theorem enfF_len {z : Zon} {i : Iv} (h : z.hrs.length ≤ 32) : ((enfF z i).1.getD []).length ≤ 20000 := by
  unfold enfF
  split
  · simp
  split
  · simp
  have h1 := @hrsU_len i (z.hrs.filter wOk) none
  have h1 : ((hrsU i (z.hrs.filter wOk)).getD []).length ≤ 0 + 366 * (z.hrs.filter wOk).length := h1
  have h2 := List.length_filter_le wOk z.hrs
  dsimp only
  omega
noncomputable section
open Classical
def unpOk (p : (Sty × (Bool × List Zon)) × ((Bool × List Ses) × (Bool × List Pmt))) : Prop := p.1.1.Ok ∧ zonesOk p.1.2.2 ∧ p.2.1.2.length ≤ 1000 ∧ pmtsOk p.2.2.2
def stunp_m : List PA → Option (List PA) := mE encUnp fun p => if unpOk p then some [.c (.sl (unpF p.1.2.2 p.2.1.2 p.2.2.2 p.1.1).1.isNone (((unpF p.1.2.2 p.2.1.2 p.2.2.2 p.1.1).1.getD []).map rwI)), .i (unpF p.1.2.2 p.2.1.2 p.2.2.2 p.1.1).2] else none
set_option maxHeartbeats 2000000 in
theorem stunp_ok : PureC Tryz.prog Gt 20 stunp_m := by
  refine pure_of_awpS (X := ctx Tryz.prog Gt [(29, stchk_m), (16, zfind_m), (54, zenf_m), (18, sPaid_m), (55, pcover_m), (56, sminus_m)]) Tryz.func20 rfl rfl (by kernel_rfl) (by kernel_rfl) (AllOk.cons stchk_ok (AllOk.cons zfind_ok (AllOk.cons zenf_ok (AllOk.cons sPaid_ok (AllOk.cons pcover_ok (AllOk.cons sminus_ok AllOk.nil)))))).kok ?_
  intro args r h0
  obtain ⟨⟨⟨⟨id, zn, pl, a, b⟩, f, zs⟩, ⟨g, ss⟩, k, ps⟩, rfl, h⟩ := mE_inv h0
  refine ⟨Nat.le_of_ble_eq_true rfl, ?_⟩
  split at h
  · rename_i hok
    obtain ⟨hok, hzs, hss, hps⟩ := hok
    dsimp only at hok hzs hss hps h
    simp only [Option.some.injEq] at h
    have f1 := @stchk_at ⟨id, zn, pl, a, b⟩ f zs hok hzs
    simp only [Sty.row] at f1
    generalize hc0 : chkF zs ⟨id, zn, pl, a, b⟩ = c at *
    by_cases c1 : c = 0
    · subst c1
      obtain ⟨z, hz, hze, hiv⟩ := chk_zero hc0
      dsimp only at hz hiv
      have hzm : z ∈ zs := List.mem_of_find?_eq_some hz
      have f2 := @zfind_at f zs zn hzs
      simp only [findR, hz, Zon.row, Zon.cp] at f2
      have hb := ivOk_iff.1 hiv
      dsimp only [mxT] at hb
      obtain ⟨hfr, hzh⟩ := free_ok hze
      have f3 : zenf_m [.agg (Zon.cp z).row, .agg (rwI (a, b))] = some [.c (.sl (enfF z (a, b)).1.isNone (((enfF z (a, b)).1.getD []).map rwI)), .i (enfF z (a, b)).2] := @zenf_at (Zon.cp z) (a, b) (Nat.le_trans hzh (by decide))
      simp only [Zon.row, Zon.cp, rwI] at f3
      have w1 := wI (n := a + z.free) (by omega) (by omega)
      have f4 := @pcover_at k ps pl zn (a, b) hps hok.2.2.2
      have l1 := @lenSs ss
      have hU : unpF zs ss ps ⟨id, zn, pl, a, b⟩ = if (enfF z (a, b)).2 ≠ 0 then (none, (enfF z (a, b)).2) else (some (minusJ ((enfF z (a, b)).1.getD []) (paidL ⟨id, zn, pl, a, b⟩ z ss ++ (covF ps pl zn (a, b)).1.getD [])), 0) := by
        rw [unpF, hc0, if_neg (by simp)]
        dsimp only
        rw [hz]
      rw [hU] at h
      have hen := @enfF_len z (a, b) hzh
      generalize enfF z (a, b) = en at *
      obtain ⟨en1, en2⟩ := en
      dsimp only at h f3 hen
      have hcl : ((covF ps pl zn (a, b)).1.getD []).length ≤ 370000 := by
        unfold covF
        split
        · simp
        have h1 := @covF_len pl zn (a, b) 10 ps none (fun p hp => (hps.2 p hp).2)
        have h2 := hps.1
        simp only [Option.getD_none, List.length_nil] at h1
        dsimp only
        omega
      simp only [rwI] at f4
      by_cases c2 : en2 = 0
      · subst c2
        rw [if_neg (by simp)] at h
        have hc := Nat.zero_add 0
        repeat' (first | simp only [hc, AS, Tryz.f20, encUnp, Sty.row, SX, f1, f2, f3, w1, bne, l1, ZZ, simprocAttr, ↓reduceIte] | ((first | apply Za | apply Zb | apply Zc | apply Zd | apply Ze | apply Zf | apply Zg | apply Zh) <;> intro hc) | refine Zi ?_ | refine Zj ?_)
        obtain ⟨u, hu⟩ : ∃ u, (if b < a + z.free then b else a + z.free) = u := ⟨_, rfl⟩
        have hfi : freeI ⟨id, zn, pl, a, b⟩ z = (a, u) := by
          have h9 : min (a + z.free) b = u := by
            rw [← hu, Int.min_def]
            split <;> split <;> omega
          unfold freeI
          dsimp only
          rw [h9]
        rw [hu]
        obtain ⟨F, hF⟩ : ∃ F : Nat → List Ses, F = fun j => (ss.take j).filter (paidS ⟨id, zn, pl, a, b⟩) := ⟨_, rfl⟩
        obtain ⟨L, hL⟩ : ∃ L : Nat → List Iv, L = fun j => (a, u) :: (F j).map paidF := ⟨_, rfl⟩
        obtain ⟨sta, hsta⟩ : ∃ sta : Nat → S, sta = fun j => if F j = [] then ⟨[(60, AV.i j), (59, AV.i ss.length), (58, AV.d (.sl g (ss.map Ses.row))), (15, AV.d (.sl true [[.int .i64 a, .int .i64 u]])), (13, AV.d (.sl en1.isNone ((en1.getD []).map rwI))), (3, AV.d (.sl k (ps.map Pmt.row))), (4, .v (.c (.ptr 0 0)))], [.box [.d (.str id), .d (.str zn), .d (.str pl), .d (.int .i64 a), .d (.int .i64 b)], .box [.d (.str z.name), .d (.sl z.hrs.isEmpty (z.hrs.map Win.row)), .d (.sl z.sts.isEmpty (z.sts.map Stf.row)), .d (.int .i64 z.grace), .d (.int .i64 z.free), .d (.int .i64 z.dmax), .d (.int .i64 z.stay)]]⟩ else ⟨[(60, AV.i j), (59, AV.i ss.length), (58, AV.d (.sl g (ss.map Ses.row))), (15, .v (.c (.own 3 ((L j).map rwI)))), (13, AV.d (.sl en1.isNone ((en1.getD []).map rwI))), (3, AV.d (.sl k (ps.map Pmt.row))), (4, .v (.c (.ptr 0 0)))], [.box [.d (.str id), .d (.str zn), .d (.str pl), .d (.int .i64 a), .d (.int .i64 b)], .box [.d (.str z.name), .d (.sl z.hrs.isEmpty (z.hrs.map Win.row)), .d (.sl z.sts.isEmpty (z.sts.map Stf.row)), .d (.int .i64 z.grace), .d (.int .i64 z.free), .d (.int .i64 z.dmax), .d (.int .i64 z.stay)], .box [.top, .top, .top, .top, .top, .top, .top], .tok ((L j).map rwI).length 2 none]⟩ := ⟨_, rfl⟩
        have sta0 : ∀ j, F j = [] → sta j = ⟨[(60, AV.i j), (59, AV.i ss.length), (58, AV.d (.sl g (ss.map Ses.row))), (15, AV.d (.sl true [[.int .i64 a, .int .i64 u]])), (13, AV.d (.sl en1.isNone ((en1.getD []).map rwI))), (3, AV.d (.sl k (ps.map Pmt.row))), (4, .v (.c (.ptr 0 0)))], [.box [.d (.str id), .d (.str zn), .d (.str pl), .d (.int .i64 a), .d (.int .i64 b)], .box [.d (.str z.name), .d (.sl z.hrs.isEmpty (z.hrs.map Win.row)), .d (.sl z.sts.isEmpty (z.sts.map Stf.row)), .d (.int .i64 z.grace), .d (.int .i64 z.free), .d (.int .i64 z.dmax), .d (.int .i64 z.stay)]]⟩ := fun j h0 => by rw [hsta]; exact if_pos h0
        have sta1 : ∀ j, F j ≠ [] → sta j = ⟨[(60, AV.i j), (59, AV.i ss.length), (58, AV.d (.sl g (ss.map Ses.row))), (15, .v (.c (.own 3 ((L j).map rwI)))), (13, AV.d (.sl en1.isNone ((en1.getD []).map rwI))), (3, AV.d (.sl k (ps.map Pmt.row))), (4, .v (.c (.ptr 0 0)))], [.box [.d (.str id), .d (.str zn), .d (.str pl), .d (.int .i64 a), .d (.int .i64 b)], .box [.d (.str z.name), .d (.sl z.hrs.isEmpty (z.hrs.map Win.row)), .d (.sl z.sts.isEmpty (z.sts.map Stf.row)), .d (.int .i64 z.grace), .d (.int .i64 z.free), .d (.int .i64 z.dmax), .d (.int .i64 z.stay)], .box [.top, .top, .top, .top, .top, .top, .top], .tok ((L j).map rwI).length 2 none]⟩ := fun j h0 => by rw [hsta]; exact if_neg h0
        have hF0 : F 0 = [] := by rw [hF]; rfl
        have hFle : ∀ j, (F j).length ≤ j := fun j => by
          rw [hF]
          exact Nat.le_trans (List.length_filter_le _ _) (by rw [List.length_take]; omega)
        have hLl : ∀ j, (L j).length = (F j).length + 1 := fun j => by rw [hL]; simp
        refine awpS_loop (σ := Nat) (fun k => k ≤ ss.length) sta (fun k => ss.length - k) 0 (by rw [sta0 0 hF0]; exact Wk.cutk (k := 2) (by simp) (by simp) (by simp) (by simp [subT, look]) (by simp [AV.low, V.low, C1.low]) (by simp [Ob.low, C1.low])) (Nat.zero_le _) ?_
        intro j hj
        have hlj := hLl j
        have hfj := hFle j
        by_cases hjl : j < ss.length
        · have e1 := ss_at hjl
          have c3 : ((j : Int) < (ss.length : Int)) = True := eq_true (by omega)
          have w2 := wI (n := (j : Int) + 1) (by omega) (by omega)
          have f5 : sPaid_m [.agg ss[j].row] = some [.agg (rowIv (paidF ss[j]))] := mE_eq encS_inj (g := fun s => some [DV.agg (rowIv (paidF s))]) (a := ss[j])
          have hFs : F (j + 1) = F j ++ (if paidS ⟨id, zn, pl, a, b⟩ ss[j] = true then [ss[j]] else []) := by
            rw [hF]
            dsimp only
            rw [List.take_succ_eq_append_getElem hjl, List.filter_append]
            congr 1
            by_cases hc : paidS ⟨id, zn, pl, a, b⟩ ss[j] = true <;> simp [hc]
          have hps2 : paidS ⟨id, zn, pl, a, b⟩ ss[j] = (decide (ss[j].zone = zn) && decide (ss[j].plate = pl)) := rfl
          have hLs : F (j + 1) = F j ++ [ss[j]] → L (j + 1) = L j ++ [paidF ss[j]] := fun h0 => by rw [hL]; dsimp only; rw [h0, List.map_append]; rfl
          have hLe : F (j + 1) = F j → L (j + 1) = L j := fun h0 => by rw [hL]; dsimp only; rw [h0]
          have hL0 : F j = [] → L j = [(a, u)] := fun h0 => by rw [hL]; dsimp only; rw [h0]; rfl
          generalize hpx : paidF ss[j] = px at *
          generalize ss[j] = x at *
          obtain ⟨x1, x2, x3, x4, x5, x6, x7, x8⟩ := x
          obtain ⟨px1, px2⟩ := px
          dsimp only at e1 hps2
          simp only [Ses.row, rowIv] at f5
          by_cases hFj : F j = []
          · rw [sta0 j hFj]
            have ap1 : ∀ h, apSl h 2 16 [[.int .i64 a, .int .i64 u]] [[.int .i64 px1, .int .i64 px2]] = some (.v (.c (.own h.length [[.int .i64 a, .int .i64 u], [.int .i64 px1, .int .i64 px2]])), h ++ [.tok 2 2 none]) := fun h => by
              rw [apSl, if_pos ⟨by simp [allLen], by simp [allLen], by simp, by simp⟩]
              rfl
            by_cases d1 : x2 = zn
            · have d1' : (x2 == zn) = true := by simpa using d1
              by_cases d2 : x3 = pl
              · have d2' : (x3 == pl) = true := by simpa using d2
                rw [hps2, decide_eq_true d1, decide_eq_true d2] at hFs
                have hFs : F (j + 1) = F j ++ [⟨x1, x2, x3, x4, x5, x6, x7, x8⟩] := hFs
                have hL1 := hLs hFs
                rw [hL0 hFj] at hL1
                have hc := Nat.zero_add 0
                repeat' (first | simp only [hc, AS, SX, l1, e1, c3, nn, w2, d1', d2', f5, ap1, ZZ, simprocAttr, ↓reduceIte] | ((first | apply Za | apply Zb | apply Zc | apply Zd | apply Ze | apply Zf | apply Zg | apply Zh) <;> intro hc) | refine Zi ?_ | refine Zj ?_)
                refine lp_next (j + 1) ?_ (by omega) (by omega)
                rw [sta1 (j + 1) (by rw [hFs]; simp), hL1]
                exact Wk.tops (id := 2) rfl (by simp [subT, look, rwI]) rfl (by simp [rwI])
              have d2' : (x3 == pl) = false := by simpa using d2
              rw [hps2, decide_eq_false d2, Bool.and_false, if_neg (by decide), List.append_nil] at hFs
              have hc := Nat.zero_add 0
              repeat' (first | simp only [hc, AS, SX, l1, e1, c3, nn, w2, d1', d2', f5, ZZ, simprocAttr, ↓reduceIte] | ((first | apply Za | apply Zb | apply Zc | apply Zd | apply Ze | apply Zf | apply Zg | apply Zh) <;> intro hc) | refine Zi ?_ | refine Zj ?_)
              refine lp_next (j + 1) ?_ (by omega) (by omega)
              rw [sta0 (j + 1) (by rw [hFs]; exact hFj)]
              exact Wk.cutk (k := 2) (by simp) (by simp) (by simp) (by simp [subT, look]) (by simp [AV.low, V.low, C1.low]) (by simp [Ob.low, C1.low])
            have d1' : (x2 == zn) = false := by simpa using d1
            rw [hps2, decide_eq_false d1, Bool.false_and, if_neg (by decide), List.append_nil] at hFs
            have hc := Nat.zero_add 0
            repeat' (first | simp only [hc, AS, SX, l1, e1, c3, nn, w2, d1', f5, ZZ, simprocAttr, ↓reduceIte] | ((first | apply Za | apply Zb | apply Zc | apply Zd | apply Ze | apply Zf | apply Zg | apply Zh) <;> intro hc) | refine Zi ?_ | refine Zj ?_)
            refine lp_next (j + 1) ?_ (by omega) (by omega)
            rw [sta0 (j + 1) (by rw [hFs]; exact hFj)]
            exact Wk.cutk (k := 2) (by simp) (by simp) (by simp) (by simp [subT, look]) (by simp [AV.low, V.low, C1.low]) (by simp [Ob.low, C1.low])
          rw [sta1 j hFj]
          have ap1 : ∀ h, apTok h 3 2 16 ((L j).map rwI) [[.int .i64 px1, .int .i64 px2]] (some (.tok ((L j).map rwI).length 2 none)) = some (.v (.c (.own 3 ((L j ++ [(px1, px2)]).map rwI))), h.set 3 (.tok ((L j ++ [(px1, px2)]).map rwI).length 2 none)) := fun h => by
            rw [apTok_ok (eq_true rfl) (eq_true (by simp [allLen])) (eq_true (by simp; omega)) (eq_true (by simp; omega))]
            simp [rwI]
          by_cases d1 : x2 = zn
          · have d1' : (x2 == zn) = true := by simpa using d1
            by_cases d2 : x3 = pl
            · have d2' : (x3 == pl) = true := by simpa using d2
              rw [hps2, decide_eq_true d1, decide_eq_true d2] at hFs
              have hFs : F (j + 1) = F j ++ [⟨x1, x2, x3, x4, x5, x6, x7, x8⟩] := hFs
              have hL1 := hLs hFs
              have hc := Nat.zero_add 0
              repeat' (first | simp only [hc, AS, SX, l1, e1, c3, nn, w2, d1', d2', f5, ap1, ZZ, simprocAttr, ↓reduceIte] | ((first | apply Za | apply Zb | apply Zc | apply Zd | apply Ze | apply Zf | apply Zg | apply Zh) <;> intro hc) | refine Zi ?_ | refine Zj ?_)
              refine lp_next (j + 1) ?_ (by omega) (by omega)
              rw [sta1 (j + 1) (by rw [hFs]; simp), hL1]
              exact Wk.cutk (k := 4) (by simp) (by simp) (by simp) (by simp [subT, look]) (by simp [AV.low, V.low, C1.low]) (by simp [Ob.low, C1.low])
            have d2' : (x3 == pl) = false := by simpa using d2
            rw [hps2, decide_eq_false d2, Bool.and_false, if_neg (by decide), List.append_nil] at hFs
            have hc := Nat.zero_add 0
            repeat' (first | simp only [hc, AS, SX, l1, e1, c3, nn, w2, d1', d2', f5, ZZ, simprocAttr, ↓reduceIte] | ((first | apply Za | apply Zb | apply Zc | apply Zd | apply Ze | apply Zf | apply Zg | apply Zh) <;> intro hc) | refine Zi ?_ | refine Zj ?_)
            refine lp_next (j + 1) ?_ (by omega) (by omega)
            rw [sta1 (j + 1) (by rw [hFs]; exact hFj), hLe hFs]
            exact Wk.cutk (k := 4) (by simp) (by simp) (by simp) (by simp [subT, look]) (by simp [AV.low, V.low, C1.low]) (by simp [Ob.low, C1.low])
          have d1' : (x2 == zn) = false := by simpa using d1
          rw [hps2, decide_eq_false d1, Bool.false_and, if_neg (by decide), List.append_nil] at hFs
          have hc := Nat.zero_add 0
          repeat' (first | simp only [hc, AS, SX, l1, e1, c3, nn, w2, d1', f5, ZZ, simprocAttr, ↓reduceIte] | ((first | apply Za | apply Zb | apply Zc | apply Zd | apply Ze | apply Zf | apply Zg | apply Zh) <;> intro hc) | refine Zi ?_ | refine Zj ?_)
          refine lp_next (j + 1) ?_ (by omega) (by omega)
          rw [sta1 (j + 1) (by rw [hFs]; exact hFj), hLe hFs]
          exact Wk.cutk (k := 4) (by simp) (by simp) (by simp) (by simp [subT, look]) (by simp [AV.low, V.low, C1.low]) (by simp [Ob.low, C1.low])
        have c3 : ((j : Int) < (ss.length : Int)) = False := eq_false (by omega)
        have hLj : L j = paidL ⟨id, zn, pl, a, b⟩ z ss := by
          rw [hL]
          dsimp only
          rw [paidL, hfi, hF]
          dsimp only
          rw [List.take_of_length_le (by omega)]
        rw [← hLj] at h
        generalize covF ps pl zn (a, b) = C at *
        obtain ⟨C1, C2⟩ := C
        dsimp only at hcl f4 h
        generalize hCl : C1.getD [] = Cl at *
        have f6 := fun g => @sminus_at en1.isNone g (en1.getD []) (L j ++ Cl) (by omega) (by rw [List.length_append]; omega)
        by_cases hFj : F j = []
        · rw [sta0 j hFj]
          have hL1 : L j = [(a, u)] := by rw [hL]; dsimp only; rw [hFj]; rfl
          rw [hL1] at f6 h
          by_cases hCn : Cl = []
          · subst hCn
            have f6 := f6 true
            simp only [List.append_nil, List.map_cons, List.map_nil, rwI] at f6 h
            have ap1 : ∀ h, apSl h 2 16 [[.int .i64 a, .int .i64 u]] [] = some (.d (.sl true [[.int .i64 a, .int .i64 u]]), h) := fun h => by
              rw [apSl, if_pos ⟨by simp [allLen], by simp [allLen], by simp, by simp⟩]
              rfl
            have hc := Nat.zero_add 0
            repeat' (first | simp only [hc, AS, SX, l1, c3, f4, ap1, List.map_nil, f6, ZZ, simprocAttr, ↓reduceIte] | ((first | apply Za | apply Zb | apply Zc | apply Zd | apply Ze | apply Zf | apply Zg | apply Zh) <;> intro hc) | refine Zi ?_ | refine Zj ?_)
            rw [← h]
            rfl
          have f6 := f6 false
          have ap1 : ∀ h, apSl h 2 16 [[.int .i64 a, .int .i64 u]] (Cl.map rwI) = some (.v (.c (.own h.length (([(a, u)] ++ Cl).map rwI))), h ++ [.tok (([(a, u)] ++ Cl).map rwI).length 2 none]) := fun h => by
            have hp : 0 < Cl.length := List.length_pos_iff.2 hCn
            rw [apSl, if_pos ⟨by simp [allLen], allLenI Cl, by simp; omega, by simp; omega⟩, if_neg (by simp; omega)]
            simp [rwI]
            omega
          generalize [(a, u)] ++ Cl = W at *
          have hrw : (fun (i : Iv) => [D.int IntKind.i64 i.1, D.int IntKind.i64 i.2]) = rwI := rfl
          try rw [hrw] at f4
          have hc := Nat.zero_add 0
          repeat' (first | simp only [hc, AS, SX, l1, c3, f4, ap1, f6, ZZ, simprocAttr, ↓reduceIte] | ((first | apply Za | apply Zb | apply Zc | apply Zd | apply Ze | apply Zf | apply Zg | apply Zh) <;> intro hc) | refine Zi ?_ | refine Zj ?_)
          rw [← h]
          rfl
        rw [sta1 j hFj]
        have f6 := f6 false
        have ap1 : ∀ h, apTok h 3 2 16 ((L j).map rwI) (Cl.map rwI) (some (.tok ((L j).map rwI).length 2 none)) = some (.v (.c (.own 3 ((L j ++ Cl).map rwI))), h.set 3 (.tok ((L j ++ Cl).map rwI).length 2 none)) := fun h => by
          rw [apTok_ok (eq_true rfl) (eq_true (allLenI Cl)) (eq_true (by simp; omega)) (eq_true (by simp; omega))]
          simp [rwI]
        have hc := Nat.zero_add 0
        repeat' (first | simp only [hc, AS, SX, l1, c3, f4, ap1, f6, ZZ, simprocAttr, ↓reduceIte] | ((first | apply Za | apply Zb | apply Zc | apply Zd | apply Ze | apply Zf | apply Zg | apply Zh) <;> intro hc) | refine Zi ?_ | refine Zj ?_)
        rw [← h]
        rfl
      have c2' := eq_false c2
      rw [if_pos c2] at h
      have hc := Nat.zero_add 0
      repeat' (first | simp only [hc, AS, Tryz.f20, encUnp, Sty.row, SX, f1, f2, f3, c2', bne, ZZ, simprocAttr, ↓reduceIte] | ((first | apply Za | apply Zb | apply Zc | apply Zd | apply Ze | apply Zf | apply Zg | apply Zh) <;> intro hc) | refine Zi ?_ | refine Zj ?_)
      rw [← h]
      rfl
    have c1' := eq_false c1
    have hU : unpF zs ss ps ⟨id, zn, pl, a, b⟩ = (none, c) := by rw [unpF, hc0, if_pos c1]
    rw [hU] at h
    have hc := Nat.zero_add 0
    repeat' (first | simp only [hc, AS, Tryz.f20, encUnp, Sty.row, SX, f1, c1', bne, ZZ, simprocAttr, ↓reduceIte] | ((first | apply Za | apply Zb | apply Zc | apply Zd | apply Ze | apply Zf | apply Zg | apply Zh) <;> intro hc) | refine Zi ?_ | refine Zj ?_)
    rw [← h]
    rfl
  cases h
end
end Go.Ab
