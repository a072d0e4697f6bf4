/-
  Texts of the layer and of the laws, put together: AbJ13, AbJ14, AbJ15.
-/
import Derived.Test.YtdoofgbeajkpaaaGreatDoorAbWP37
import Derived.Test.YtdoofgbeajkpaaaGreatDoorAbWP38
import Derived.CallsIn
import Derived.Test.YtdoofgbeajkpaaaGreatDoorAbWP35
set_option linter.unusedSimpArgs false
set_option linter.unusedVariables false
set_option maxRecDepth 100000
namespace Go.Ab
open Go.RowKit Go.Proofs
def wV (w : Win) : DV := .agg w.row
def wOk (w : Win) : Bool := validB w.d w.f w.t
def wsOf (z : Zon) (k : Nat) : List DV := ((z.hrs.take k).filter wOk).map wV
theorem wsOf_ok {z : Zon} {k : Nat} (hk : k < z.hrs.length) (h : wOk z.hrs[k] = true) : wsOf z (k + 1) = wsOf z k ++ [wV z.hrs[k]] := by
  unfold wsOf
  rw [List.take_succ_eq_append_getElem hk, List.filter_append, List.map_append]
  simp [h]
theorem wsOf_no {z : Zon} {k : Nat} (hk : k < z.hrs.length) (h : wOk z.hrs[k] = false) : wsOf z (k + 1) = wsOf z k := by
  unfold wsOf
  rw [List.take_succ_eq_append_getElem hk, List.filter_append, List.map_append]
  simp [h]
theorem wsOf_all {z : Zon} {k : Nat} (hk : z.hrs.length ≤ k) : wsOf z k = (z.hrs.filter wOk).map wV := by
  unfold wsOf
  rw [List.take_of_length_le hk]
theorem wsOf_split {z : Zon} {k : Nat} (hk : k < z.hrs.length) (h : wOk z.hrs[k] = true) : ∃ post, (z.hrs.filter wOk).map wV = wsOf z k ++ wV z.hrs[k] :: post := by
  refine ⟨((z.hrs.drop (k + 1)).filter wOk).map wV, ?_⟩
  unfold wsOf
  have e : z.hrs = z.hrs.take k ++ z.hrs[k] :: z.hrs.drop (k + 1) := by rw [List.getElem_cons_drop, List.take_append_drop]
  conv => lhs; rw [e]
  rw [List.filter_append, List.filter_cons, if_pos h]
  simp
noncomputable section
open Classical
theorem zv_at {w : Win} : zvalid_m [.agg [.int .i64 w.d, .int .i64 w.f, .int .i64 w.t]] = some [.b (wOk w)] := by
  rw [zvalid_m, mw_eq]; rfl
set_option maxHeartbeats 2000000 in
theorem hours_it {z : Zon} {ib M : Nat} {hp : List DV → Hp} (hlen : z.hrs.length ≤ 1000000000) (hM : ∀ pre, (hp pre).length = M) (hib : ∀ pre, (hp pre)[ib]? = some (.box (z.row.map C1.d)))
    (hlow : ∀ pre, (hp pre).all (Ob.low M) = true) : IterOk (ctx Tryz.prog Gt [(96, zvalid_m)]) 95 (.ptr ib 0) hp ((z.hrs.filter wOk).map wV) := by
  intro n A E v l Jx Ip hI0 hG hds hE hcap hY
  have hK : KOk (ctx Tryz.prog Gt [(96, zvalid_m)]) := (AllOk.cons zvalid_ok AllOk.nil).kok
  have hibM : ib < M := by rw [← hM []]; exact lt_of_get (hib [])
  have l1 := @lenWn z.hrs
  refine callsIn_of_wp Tryz.func95 rfl trivial ?_
  have h21 : Tryz.f95.ntmps = 21 := rfl
  obtain ⟨a0, ha0⟩ : ∃ a0 : Act, a0 = { tmps := #[Value.func (Fn.yield l) #[] #[]] ++ #[v] ++ Array.replicate (Tryz.f95.ntmps - (#[Value.func (Fn.yield l) #[] #[]] ++ #[v]).size) undef, defers := [] } := ⟨_, rfl⟩
  rw [← ha0]
  have hs0 : a0.tmps.size = 21 := by rw [ha0, h21]; simp
  have hy0 : a0.tmps.getD 0 undef = .func (.yield l) #[] #[] := by rw [ha0]; simp
  have hrel0 : Rel A E ⟨[(1, .v (.c (.ptr ib 0)))], hp []⟩ a0 E.w := by
    refine ⟨hE, rfl, by rw [ha0]; exact hds.symm, fun t => ?_⟩
    show (look [(1, .v (.c (.ptr ib 0)))] t).rel E (hp []) _
    simp only [look]
    by_cases ht : 1 = t
    · subst ht
      rw [if_pos rfl]
      have : a0.tmps.getD 1 undef = v := by rw [ha0]; simp
      rw [this]
      exact hcap
    rw [if_neg ht]
    trivial
  obtain ⟨st, hst⟩ : ∃ st : Nat → S, st = fun k => ⟨[(8, AV.i k), (7, AV.i z.hrs.length), (6, AV.d (.sl z.hf (z.hrs.map Win.row))), (1, .v (.c (.ptr ib 0)))], hp (wsOf z k)⟩ := ⟨_, rfl⟩
  have hw0 : wsOf z 0 = [] := rfl
  have hibz : ∀ pre, (hp pre)[ib]? = some (.box [.d (.str z.name), .d (.sl z.hf (z.hrs.map Win.row)), .d (.sl z.sf (z.sts.map Stf.row)), .d (.int .i64 z.grace), .d (.int .i64 z.free), .d (.int .i64 z.dmax), .d (.int .i64 z.stay)]) := hib
  have hib0 := hibz []
  refine wpIn_seq (piece hK (t0 := [0]) (st 0) (by kernel_rfl) (Nat.le_of_eq (hM []).symm) ?_ ⟨hG, hrel0⟩ hs0 ?_)
  · skip
    have hc := Nat.zero_add 0
    repeat' (first | simp only [hc, AS, SX, hib0, ZZ, simprocAttr, ↓reduceIte] | ((first | apply Za | apply Zb | apply Zc | apply Zd | apply Ze | apply Zf | apply Zg | apply Zh) <;> intro hc) | refine Zi ?_ | refine Zj ?_)
    rw [hst]
    exact goes (Wk.sub' (by simp [subT, look]) (by simp [hw0]))
  intro a1 E1 ev1 hrel1 hs1 hy1
  obtain ⟨I, hI⟩ : ∃ I : Nat → Act → World → Prop, I = fun k a w => k ≤ z.hrs.length ∧ a.tmps.size = 21 ∧ a.tmps.getD 0 undef = .func (.yield l) #[] #[] ∧ Ip (wsOf z k) ∧ ∃ E', E'.w = w ∧ Evo M E (hp []) E' (hp (wsOf z k)) ∧ Rel A E' (st k) a E'.w := ⟨_, rfl⟩
  have slot8 : ∀ {k : Nat} {a : Act} {E' : Env}, Rel A E' (st k) a E'.w → a.tmps.getD 8 undef = .int .i64 k := fun {k a E'} h => by
    have := h.tmps 8
    rw [hst] at this
    exact int_inv (rel_d this)
  refine wpIn_block (wpIn_loop (fun a w => ∃ k, I k a w) (fun a _ => z.hrs.length - (RowKit.intOf (a.tmps.getD 8 undef)).toNat) ⟨0, by rw [hI]; exact ⟨Nat.zero_le _, hs1, (hy1 0 (by simp)).trans hy0, hI0, E1, rfl, by rw [hst] at ev1; exact ev1, hrel1⟩⟩ ?_)
  rintro a w ⟨k, hk⟩
  rw [hI] at hk
  obtain ⟨hkl, hs2, hy2, hIk, E2, rfl, ev2, hrel2⟩ := hk
  have h8 := slot8 hrel2
  rw [hst] at hrel2
  have hMk := hM (wsOf z k)
  by_cases hkk : k < z.hrs.length
  · have c1 : ((k : Int) < (z.hrs.length : Int)) = True := eq_true (by omega)
    refine wpIn_seq (piece hK (t0 := [0]) ⟨[(9, AV.b true), (8, AV.i k), (7, AV.i z.hrs.length), (6, AV.d (.sl z.hf (z.hrs.map Win.row))), (1, .v (.c (.ptr ib 0)))], hp (wsOf z k)⟩ (by kernel_rfl) (Nat.le_of_eq hMk.symm) ?_ ⟨hG, hrel2⟩ hs2 ?_)
    · skip
      have hc := Nat.zero_add 0
      repeat' (first | simp only [hc, AS, SX, c1, ZZ, simprocAttr, ↓reduceIte] | ((first | apply Za | apply Zb | apply Zc | apply Zd | apply Ze | apply Zf | apply Zg | apply Zh) <;> intro hc) | refine Zi ?_ | refine Zj ?_)
      exact goes (Wk.sub' (by simp [subT, look]) rfl)
    intro a3 E3 ev3 hrel3 hs3 hy3
    refine wpIn_seq (wpIn_cond_true (bool_inv (rel_d (hrel3.tmps 9))) (wpIn_skip ?_))
    have hset : ∀ o o', (hp (wsOf z k) ++ [o]).set M o' = hp (wsOf z k) ++ [o'] := fun o o' => by rw [List.set_append, if_neg (by omega), hMk, Nat.sub_self]; rfl
    have hget : ∀ o, (hp (wsOf z k) ++ [o])[M]? = some o := fun o => by rw [List.getElem?_append_right (by omega), hMk, Nat.sub_self]; rfl
    have hlen1 : ∀ o : Ob, (hp (wsOf z k) ++ [o]).length = M + 1 := fun o => by simp [hMk]
    have hlow1 := hlow (wsOf z k)
    have e1 : (z.hrs.map Win.row)[k]? = some [.int .i64 z.hrs[k].d, .int .i64 z.hrs[k].f, .int .i64 z.hrs[k].t] := by simp [hkk, Win.row]
    have f1 := @zv_at z.hrs[k]
    have hcov := @wsOf_ok z k hkk
    have hcno := @wsOf_no z k hkk
    have hcsp := @wsOf_split z k hkk
    have hwV : wV z.hrs[k] = .agg [.int .i64 z.hrs[k].d, .int .i64 z.hrs[k].f, .int .i64 z.hrs[k].t] := rfl
    generalize hx : z.hrs[k] = x at *
    obtain ⟨xd, xf, xt⟩ := x
    dsimp only at e1 f1 hwV
    -- the loop's end, whatever stands before it
    have fin : ∀ (a6 : Act) (E6 : Env), a6.tmps.size = 21 → a6.tmps.getD 0 undef = .func (.yield l) #[] #[] → Ip (wsOf z (k + 1)) → Evo M E (hp []) E6 (hp (wsOf z (k + 1))) → Rel A E6 ⟨[(19, AV.b false), (8, AV.i k), (7, AV.i z.hrs.length), (6, AV.d (.sl z.hf (z.hrs.map Win.row))), (1, .v (.c (.ptr ib 0)))], hp (wsOf z (k + 1))⟩ a6 E6.w →
        ∀ Q, (Code.region 4 #[{ dst := some 20, op := Op.binOp BinOp.add 3 (Operand.tmp 8) (Operand.const (Value.int IntKind.i64 1)) 3, type := 3, pos := "zone.go:103", after := #[], guard := none },
          { dst := some 8, op := Op.move (Operand.tmp 20), type := 3, pos := "zone.go:103", after := #[{ on := 0, ground := Ground.data }], guard := none }] false).wpIn (FR none) n (ctx Tryz.prog Gt [(96, zvalid_m)]).P
          (Exit.then (fun a' w' => (∃ k, I k a' w') ∧ z.hrs.length - (RowKit.intOf (a'.tmps.getD 8 undef)).toNat < z.hrs.length - (RowKit.intOf (a.tmps.getD 8 undef)).toNat) Q) a6 E6.w := by
      intro a6 E6 hs6 hy6 hI6 ev6 hrel6 Q
      have c2 := wI (n := (k : Int) + 1) (by omega) (by omega)
      refine piece hK (t0 := [0]) (st (k + 1)) (by kernel_rfl) (Nat.le_of_eq (hM _).symm) ?_ ⟨hG, hrel6⟩ hs6 ?_
      · skip
        have hc := Nat.zero_add 0
        repeat' (first | simp only [hc, AS, SX, c2, ZZ, simprocAttr, ↓reduceIte] | ((first | apply Za | apply Zb | apply Zc | apply Zd | apply Ze | apply Zf | apply Zg | apply Zh) <;> intro hc) | refine Zi ?_ | refine Zj ?_)
        rw [hst]
        exact goes (Wk.sub' (by simp [subT, look]) rfl)
      intro a7 E7 ev7 hrel7 hs7 hy7
      refine ⟨⟨k + 1, ?_⟩, ?_⟩
      · rw [hI]
        refine ⟨by omega, hs7, (hy7 0 (by simp)).trans hy6, hI6, E7, rfl, ?_, hrel7⟩
        rw [hst] at ev7
        exact ev6.trans ev7 (Nat.le_refl _)
      rw [slot8 hrel7, h8]
      simp only [RowKit.intOf]
      omega
    refine wpIn_seq (wpIn_block ?_)
    refine wpIn_seq (piece hK (t0 := [0]) ⟨[(4, .v (.c (.ptr M 0))), (8, AV.i k), (7, AV.i z.hrs.length), (6, AV.d (.sl z.hf (z.hrs.map Win.row))), (1, .v (.c (.ptr ib 0)))], hp (wsOf z k) ++ [.box [.d (.int .i64 xd), .d (.int .i64 xf), .d (.int .i64 xt)]]⟩ (by kernel_rfl) (Nat.le_of_eq hMk.symm) ?_ ⟨hG, hrel3⟩ hs3 ?_)
    · skip
      have hc := Nat.zero_add 0
      repeat' (first | simp only [hc, AS, SX, e1, nn, hMk, hset, hget, ZZ, simprocAttr, ↓reduceIte] | ((first | apply Za | apply Zb | apply Zc | apply Zd | apply Ze | apply Zf | apply Zg | apply Zh) <;> intro hc) | refine Zi ?_ | refine Zj ?_)
      exact goes (Wk.sub' (by simp [subT, look]) rfl)
    intro a4 E4 ev4 hrel4 hs4 hy4
    have hy4' : a4.tmps.getD 0 undef = .func (.yield l) #[] #[] := (hy4 0 (by simp)).trans ((hy3 0 (by simp)).trans hy2)
    have ev24 := ev2.trans (ev3.trans ev4 (Nat.le_refl _)) (Nat.le_refl _)
    have hM4 : M ≤ (hp (wsOf z k) ++ [Ob.box [.d (.int .i64 xd), .d (.int .i64 xf), .d (.int .i64 xt)]]).length := by rw [hlen1]; omega
    have cutk : ∀ (t' : List (Nat × AV)) (t'' : List (Nat × AV)) (o : Ob), subT t' t'' → (t''.all fun p => p.2.low M) = true → Wk M ⟨t', hp (wsOf z k) ++ [o]⟩ ⟨t'', hp (wsOf z k)⟩ := fun t' t'' o h1 h2 =>
      Wk.cut (Nat.le_of_eq hMk.symm) h1 (by rw [hMk]; exact h2) (by rw [hMk]; exact hlow1)
    refine wpIn_seq ?_
    cases hv : wOk ⟨xd, xf, xt⟩
    · rw [hv] at f1
      refine piece hK (t0 := [0]) ⟨[(19, AV.b false), (8, AV.i k), (7, AV.i z.hrs.length), (6, AV.d (.sl z.hf (z.hrs.map Win.row))), (1, .v (.c (.ptr ib 0)))], hp (wsOf z k)⟩ (by kernel_rfl) hM4 ?_ ⟨hG, hrel4⟩ hs4 ?_
      · skip
        have hc := Nat.zero_add 0
        repeat' (first | simp only [hc, AS, SX, f1, hMk, hset, hget, ZZ, simprocAttr, ↓reduceIte] | ((first | apply Za | apply Zb | apply Zc | apply Zd | apply Ze | apply Zf | apply Zg | apply Zh) <;> intro hc) | refine Zi ?_ | refine Zj ?_)
        exact goes (cutk _ _ _ (by simp [subT, look]) (by simp [AV.low, V.low, C1.low, hibM]))
      intro a5 E5 ev5 hrel5 hs5 hy5
      refine wpIn_cond_false (bool_inv (rel_d (hrel5.tmps 19))) (wpIn_skip ?_)
      have ev6 := ev24.trans ev5 (Nat.le_refl _)
      have e6 := hcno hv
      rw [← e6] at hrel5 ev6
      exact fin a5 E5 hs5 ((hy5 0 (by simp)).trans hy4') (by rw [e6]; exact hIk) ev6 hrel5 _
    rw [hv] at f1
    refine wpIn_region_list ?_
    refine pieceL hK (t0 := [0]) [_, _, _] ⟨[(14, AV.b true), (4, .v (.c (.ptr M 0))), (8, AV.i k), (7, AV.i z.hrs.length), (6, AV.d (.sl z.hf (z.hrs.map Win.row))), (1, .v (.c (.ptr ib 0)))], hp (wsOf z k) ++ [.box [.d (.int .i64 xd), .d (.int .i64 xf), .d (.int .i64 xt)]]⟩ (by kernel_rfl) hM4 ?_ ⟨hG, hrel4⟩ hs4 ?_
    · skip
      have hc := Nat.zero_add 0
      repeat' (first | simp only [hc, AS, SX, f1, hMk, hset, hget, ZZ, simprocAttr, ↓reduceIte] | ((first | apply Za | apply Zb | apply Zc | apply Zd | apply Ze | apply Zf | apply Zg | apply Zh) <;> intro hc) | refine Zi ?_ | refine Zj ?_)
      exact goes (Wk.sub' (by simp [subT, look]) rfl)
    intro a5 E5 ev5 hrel5 hs5 hy5
    have hy5' := (hy5 0 (by simp)).trans hy4'
    refine wanted_step ⟨hG, hrel5⟩ rfl (move_op ?_)
    have hrel6 := hrel5.put (Evo.refl (Nat.le_refl _)) hrel5.env (d := some 15) (v := .top) (u := a5.eval (.tmp 0)) (fun t ht => by cases ht; omega) top_rel
    have hs6 : (a5.put (some 15) (a5.eval (.tmp 0))).tmps.size = 21 := by rw [put_size]; exact hs5
    have hy60 : (a5.put (some 15) (a5.eval (.tmp 0))).tmps.getD 0 undef = .func (.yield l) #[] #[] := by rw [puts_ne (by simp)]; exact hy5'
    have hy615 : (a5.put (some 15) (a5.eval (.tmp 0))).tmps.getD 15 undef = .func (.yield l) #[] #[] := by
      have : a5.eval (.tmp 0) = .func (.yield l) #[] #[] := hy5'
      rw [this]
      simp only [Act.put, Array.getD_eq_getD_getElem?]
      simp [hs5]
    generalize a5.put (some 15) (a5.eval (.tmp 0)) = a6 at *
    refine pieceL hK (t0 := [0, 15]) [_] ⟨[(16, .v (.agg [.d (.int .i64 xd), .d (.int .i64 xf), .d (.int .i64 xt)])), (14, AV.b true), (8, AV.i k), (7, AV.i z.hrs.length), (6, AV.d (.sl z.hf (z.hrs.map Win.row))), (1, .v (.c (.ptr ib 0)))], hp (wsOf z k)⟩ (by kernel_rfl) hM4 ?_ ⟨hG, hrel6⟩ hs6 ?_
    · skip
      have hc := Nat.zero_add 0
      repeat' (first | simp only [hc, AS, SX, hMk, hset, hget, ZZ, simprocAttr, ↓reduceIte] | ((first | apply Za | apply Zb | apply Zc | apply Zd | apply Ze | apply Zf | apply Zg | apply Zh) <;> intro hc) | refine Zi ?_ | refine Zj ?_)
      exact goes (cutk _ _ _ (by simp [subT, look]) (by simp [AV.low, V.low, C1.low, hibM]))
    intro a7 E7 ev7 hrel7 hs7 hy7
    have ev27 := (ev24.trans ev5 (Nat.le_refl _)).trans ev7 (Nat.le_refl _)
    obtain ⟨post, hpost⟩ := hcsp hv
    have hu : (wV ⟨xd, xf, xt⟩).rel E7.w E7.F (a7.tmps.getD 16 undef) := pa_rel (hrel7.tmps 16) rfl
    refine wanted_step ⟨hG, hrel7⟩ rfl (yield_op ((hy7 15 (by simp)).trans hy615) (hY (n - 1) (wsOf z k) (wV ⟨xd, xf, xt⟩) post E7 _ hpost hIk (by rw [hM]; exact ev27) hrel7.env hu) ?_)
    rw [← hcov hv, hM]
    rintro e w' (⟨rfl, E8, rfl, ev8, ok8, hI8⟩ | ⟨rfl, hjx⟩)
    · refine ⟨_, rfl, ?_⟩
      have hM8 := hM (wsOf z (k + 1))
      have hrel8 : Rel A E8 ⟨[(16, .v (.agg [.d (.int .i64 xd), .d (.int .i64 xf), .d (.int .i64 xt)])), (14, AV.b true), (8, AV.i k), (7, AV.i z.hrs.length), (6, AV.d (.sl z.hf (z.hrs.map Win.row))), (1, .v (.c (.ptr ib 0)))], hp (wsOf z (k + 1))⟩ a7 E8.w :=
        ⟨ok8, rfl, hrel7.defers, fun t => (hrel7.tmps t).evo ev8 (Nat.le_of_eq hMk)⟩
      have hrel9 := hrel8.put (Evo.refl (Nat.le_refl _)) hrel8.env (d := some 17) (v := AV.b true) (u := .bool true) (fun t ht => by cases ht; omega) (Rd.bool true)
      have hs9 : (a7.put (some 17) (.bool true)).tmps.size = 21 := by rw [put_size]; exact hs7
      have hy9 : (a7.put (some 17) (.bool true)).tmps.getD 0 undef = .func (.yield l) #[] #[] := by rw [puts_ne (by simp)]; exact (hy7 0 (by simp)).trans hy60
      generalize a7.put (some 17) (.bool true) = a9 at *
      refine pieceL hK (t0 := [0]) (l2 := []) [_, _] ⟨[(19, AV.b false), (8, AV.i k), (7, AV.i z.hrs.length), (6, AV.d (.sl z.hf (z.hrs.map Win.row))), (1, .v (.c (.ptr ib 0)))], hp (wsOf z (k + 1))⟩ (by kernel_rfl) (Nat.le_of_eq hM8.symm) ?_ ⟨hG, hrel9⟩ hs9 ?_
      · skip
        have hc := Nat.zero_add 0
        repeat' (first | simp only [hc, AS, SX, ZZ, simprocAttr, ↓reduceIte] | ((first | apply Za | apply Zb | apply Zc | apply Zd | apply Ze | apply Zf | apply Zg | apply Zh) <;> intro hc) | refine Zi ?_ | refine Zj ?_)
        exact goes (Wk.sub' (by simp [subT, look]) rfl)
      intro a10 E10 ev10 hrel10 hs10 hy10
      refine wpIn_cond_false (bool_inv (rel_d (hrel10.tmps 19))) (wpIn_skip ?_)
      exact fin a10 E10 hs10 ((hy10 0 (by simp)).trans hy9) hI8 ((ev27.trans ev8 (Nat.le_refl _)).trans ev10 (Nat.le_refl _)) hrel10 _
    refine ⟨_, rfl, ?_⟩
    have h14 : a7.tmps.getD 14 undef = .bool true := bool_inv (rel_d (hrel7.tmps 14))
    have hrel8 := hrel7.put (Evo.refl (Nat.le_refl _)) hrel7.env (d := some 17) (v := AV.b false) (u := .bool false) (fun t ht => by cases ht; omega) (Rd.bool false)
    have h17 := put_same (a := a7) (d := 17) (v := .bool false) (by omega)
    have h14' : (a7.put (some 17) (.bool false)).tmps.getD 14 undef = .bool true := by rw [puts_ne (by simp)]; exact h14
    have hs8 : (a7.put (some 17) (.bool false)).tmps.size = 21 := by rw [put_size]; exact hs7
    generalize a7.put (some 17) (.bool false) = a8 at *
    refine wanted_step ⟨hG, hrel8⟩ rfl (not_op h17 ?_)
    have hrel9 := hrel8.put (Evo.refl (Nat.le_refl _)) hrel8.env (d := some 18) (v := AV.b true) (u := .bool true) (fun t ht => by cases ht; omega) (Rd.bool true)
    have h18 := put_same (a := a8) (d := 18) (v := .bool true) (by omega)
    have h14'' : (a8.put (some 18) (.bool true)).tmps.getD 14 undef = .bool true := by rw [puts_ne (by simp)]; exact h14'
    have hs9 : (a8.put (some 18) (.bool true)).tmps.size = 21 := by rw [put_size]; exact hs8
    have hd9 : (a8.put (some 18) (.bool true)).defers = [] := hrel9.defers.trans hds
    show wpListIn _ _ _ _ _ _ (a8.put (some 18) (.bool true)) w'
    generalize a8.put (some 18) (.bool true) = a9 at *
    refine wanted_step ⟨hG, hrel9⟩ rfl (pick_op h14'' ?_)
    have h19 := put_same (a := a9) (d := 19) (v := a9.eval (.tmp 18)) (by omega)
    refine wpIn_cond_true (h19.trans h18) (wpIn_ret ?_)
    exact ⟨hd9, ⟨_, results_none rfl _ _ _, ⟨_, rfl⟩, .inr hjx⟩⟩
  have hkl' : k = z.hrs.length := by omega
  have c1 : ((k : Int) < (z.hrs.length : Int)) = False := eq_false (by omega)
  refine wpIn_seq (piece hK (t0 := [0]) ⟨[(9, AV.b false)], hp (wsOf z k)⟩ (by kernel_rfl) (Nat.le_of_eq hMk.symm) ?_ ⟨hG, hrel2⟩ hs2 ?_)
  · skip
    have hc := Nat.zero_add 0
    repeat' (first | simp only [hc, AS, SX, c1, ZZ, simprocAttr, ↓reduceIte] | ((first | apply Za | apply Zb | apply Zc | apply Zd | apply Ze | apply Zf | apply Zg | apply Zh) <;> intro hc) | refine Zi ?_ | refine Zj ?_)
    exact goes (Wk.sub' (by simp [subT, look]) rfl)
  intro a3 E3 ev3 hrel3 hs3 hy3
  refine wpIn_seq (wpIn_cond_false (bool_inv (rel_d (hrel3.tmps 9))) (wpIn_exit ?_))
  refine ⟨hrel3.defers.trans hds, ⟨_, results_none rfl _ _ _, ⟨_, rfl⟩, .inl ⟨E3, rfl, ?_, ?_, by rw [← wsOf_all (Nat.le_of_eq hkl'.symm)]; exact hIk⟩⟩⟩
  · rw [← wsOf_all (Nat.le_of_eq hkl'.symm), hM]
    exact ev2.trans ev3 (Nat.le_of_eq rfl)
  rw [← wsOf_all (Nat.le_of_eq hkl'.symm)]
  exact hrel3.env
theorem hours_itX {X : Ctx} (hP : X.P = Tryz.prog) (hGl : X.G = Gt) {z : Zon} {ib M : Nat} {hp : List DV → Hp} (hlen : z.hrs.length ≤ 1000000000) (hM : ∀ pre, (hp pre).length = M) (hib : ∀ pre, (hp pre)[ib]? = some (.box (z.row.map C1.d)))
    (hlow : ∀ pre, (hp pre).all (Ob.low M) = true) : IterOk X 95 (.ptr ib 0) hp ((z.hrs.filter wOk).map wV) := by
  unfold IterOk
  rw [hP, hGl]
  exact hours_it hlen hM hib hlow
end
end Go.Ab
namespace Go.Ab
open Go.RowKit Go.Proofs
def openW (z : Zon) (t : Int) : Bool := z.hrs.any fun w => wOk w && inB w.d w.f w.t t
def openF (z : Zon) (t : Int) : Bool := btwB t 0 68719476735 && (z.hrs.isEmpty || openW z t)
def encZt (p : Zon × Int) : List PA := [.agg p.1.row, .c (.int .i64 p.2)]
theorem encZt_inj (a b : Zon × Int) (h : encZt a = encZt b) : a = b := by
  simp only [encZt, List.cons.injEq, DV.agg.injEq, DV.c.injEq, D.int.injEq, and_true, true_and] at h
  exact Prod.ext (Zon.inj _ _ h.1) h.2
def hrR (p : Zon × Hp) (args : List AV) (h : Hp) : Prop := args = [.v (.agg (p.1.row.map C1.d))] ∧ h = p.2
theorem hrR_inj {a b : Zon × Hp} {args : List AV} {h : Hp} (ha : hrR a args h) (hb : hrR b args h) : b = a := by
  obtain ⟨h1, h2⟩ := ha
  obtain ⟨g1, g2⟩ := hb
  rw [h1] at g1
  rw [h2] at g2
  simp only [List.cons.injEq, AV.v.injEq, V.agg.injEq, and_true] at g1
  exact Prod.ext (Zon.inj _ _ (map_inj (fun _ _ => C1.d.inj) g1).symm) g2.symm
noncomputable section
open Classical
def khrs_k : List AV → Hp → Option COut := kR hrR fun p => some (.ret (.v (.c (.fn 95 [(p.2.length, 0)]))) (p.2 ++ [.box (p.1.row.map C1.d)]))
def zopen_m : List PA → Option (List PA) := mE encZt fun p => if decide (p.1.hrs.length ≤ 1000000000) = true then some [.b (openF p.1 p.2)] else none
theorem khrs_kok : ImpC Tryz.prog Gt 51 khrs_k := by
  intro args h out h0
  refine fok_of_awpS (X := ctxK Tryz.prog Gt [] []) Tryz.func51 rfl rfl (by kernel_rfl) (by kernel_rfl) (kok_of AllOk.nil AllK.nil) ?_ ?_
  · obtain ⟨a, ⟨rfl, _⟩, _⟩ := kR_inv h0
    exact Nat.le_of_ble_eq_true rfl
  obtain ⟨⟨z, h⟩, ⟨rfl, rfl⟩, hg⟩ := kR_inv h0
  dsimp only at hg
  cases hg
  have hc := Nat.zero_add 0
  repeat' (first | simp only [hc, AS, KX, Tryz.f51, Zon.row, List.map_cons, List.map_nil, SX, hp_len, hp_get, hp_get0, hp_set, hp_set0, ZZ, simprocAttr, ↓reduceIte] | ((first | apply Za | apply Zb | apply Zc | apply Zd | apply Ze | apply Zf | apply Zg | apply Zh) <;> intro hc) | refine Zi ?_ | refine Zj ?_)
  exact ⟨_, rfl, rfl⟩
theorem khrs_at {z : Zon} {h : Hp} : khrs_k [.v (.agg (z.row.map C1.d))] h = some (.ret (.v (.c (.fn 95 [(h.length, 0)]))) (h ++ [.box (z.row.map C1.d)])) :=
  kR_eq (R := hrR) (g := fun p : Zon × Hp => some (.ret (.v (.c (.fn 95 [(p.2.length, 0)]))) (p.2 ++ [Ob.box (p.1.row.map C1.d)]))) (a := (z, h)) (fun b hb => by rw [hrR_inj (a := (_, _)) ⟨rfl, rfl⟩ hb]) ⟨rfl, rfl⟩
set_option maxHeartbeats 2000000 in
theorem zopen_ok : PureC Tryz.prog Gt 17 zopen_m := by
  have hK : KOk (ctxK Tryz.prog Gt [(50, zwithin_m), (52, cin_m)] [(51, khrs_k)]) := kok_of (AllOk.cons zwithin_ok (AllOk.cons cin_ok AllOk.nil)) (AllK.cons khrs_kok AllK.nil)
  refine pure_of_marks (X := ctxK Tryz.prog Gt [(50, zwithin_m), (52, cin_m)] [(51, khrs_k)]) Tryz.func17 rfl (by kernel_rfl) ?_
  intro args r h0
  obtain ⟨⟨z, t⟩, rfl, h⟩ := mE_inv h0
  split at h
  · rename_i hl
    have hl := of_decide_eq_true hl
    dsimp only at hl h
    simp only [Option.some.injEq] at h
    refine ⟨Nat.le_of_ble_eq_true rfl, fun A E a hn hds hs => ?_⟩
    have hs : a.tmps.size = 19 := hs
    obtain ⟨H3, hH3⟩ : ∃ H3 : Bool → Hp, H3 = fun b => [.box (z.row.map C1.d), .box [.d (.int .i64 t)], .box [.d (.bool b)]] := ⟨_, rfl⟩
    have f1 : zwithin_m [.c (.int .i64 t), .c (.int .i64 0), .c (.int .i64 68719476735)] = some [.b (btwB t 0 68719476735)] := rfl
    refine wpIn_seq (piece hK (t0 := []) (M := 0) ⟨[(4, .v (.c (.ptr 2 0))), (3, .v (.c (.ptr 1 0))), (2, .v (.c (.ptr 0 0)))], H3 false⟩ (by kernel_rfl) (Nat.zero_le _) ?_ hn hs ?_)
    · skip
      have hc := Nat.zero_add 0
      repeat' (first | simp only [hc, AS, KX, encZt, Zon.row, List.map_cons, List.map_nil, SX, ZZ, simprocAttr, ↓reduceIte] | ((first | apply Za | apply Zb | apply Zc | apply Zd | apply Ze | apply Zf | apply Zg | apply Zh) <;> intro hc) | refine Zi ?_ | refine Zj ?_)
      rw [hH3]
      exact goes (Wk.sub' (by simp [subT, look]) rfl)
    intro a1 E1 ev1 hrel1 hs1 _
    generalize hw : btwB t 0 68719476735 = w at *
    refine wpIn_seq (wpIn_seq (piece hK (t0 := []) (M := 0) ⟨[(8, AV.b !w), (4, .v (.c (.ptr 2 0))), (3, .v (.c (.ptr 1 0))), (2, .v (.c (.ptr 0 0)))], H3 false⟩ (by kernel_rfl) (Nat.zero_le _) ?_ ⟨hn.G, hrel1⟩ hs1 ?_))
    · rw [hH3]
      have hc := Nat.zero_add 0
      repeat' (first | simp only [hc, AS, KX, SX, f1, ZZ, simprocAttr, ↓reduceIte] | ((first | apply Za | apply Zb | apply Zc | apply Zd | apply Ze | apply Zf | apply Zg | apply Zh) <;> intro hc) | refine Zi ?_ | refine Zj ?_)
      exact goes (Wk.sub' (by simp [subT, look]) rfl)
    intro a2 E2 ev2 hrel2 hs2 _
    cases w with
    | false =>
      refine wpIn_cond_true (bool_inv (rel_d (hrel2.tmps 8))) ?_
      refine wpIn_seq (piece hK (t0 := []) (M := 0) ⟨[(4, .v (.c (.ptr 2 0)))], H3 false⟩ (by kernel_rfl) (Nat.zero_le _) ?_ ⟨hn.G, hrel2⟩ hs2 ?_)
      · rw [hH3]
        have hc := Nat.zero_add 0
        repeat' (first | simp only [hc, AS, KX, SX, ZZ, simprocAttr, ↓reduceIte] | ((first | apply Za | apply Zb | apply Zc | apply Zd | apply Ze | apply Zf | apply Zg | apply Zh) <;> intro hc) | refine Zi ?_ | refine Zj ?_)
        exact goes (Wk.sub' (by simp [subT, look]) rfl)
      intro a3 E3 ev3 hrel3 hs3 _
      refine wpIn_ret (postM_ret hrel3 hds ?_)
      rw [← h, openF, hw, hH3]
      show resAll _ ⟨_, _⟩ [.cell 4 4] = some [.b false]
      have hc := Nat.zero_add 0
      repeat' (first | simp only [hc, AS, KX, SX, ZZ, simprocAttr, ↓reduceIte] | ((first | apply Za | apply Zb | apply Zc | apply Zd | apply Ze | apply Zf | apply Zg | apply Zh) <;> intro hc) | refine Zi ?_ | refine Zj ?_)
    | true =>
      refine wpIn_cond_false (bool_inv (rel_d (hrel2.tmps 8))) (wpIn_skip ?_)
      obtain ⟨H4, hH4⟩ : ∃ H4 : Bool → Hp, H4 = fun b => [.box (z.row.map C1.d), .box [.d (.int .i64 t)], .box [.d (.bool b)], .box (z.row.map C1.d)] := ⟨_, rfl⟩
      have f2 : khrs_k [.v (.agg [.d (.str z.name), .d (.sl z.hf (z.hrs.map Win.row)), .d (.sl z.sf (z.sts.map Stf.row)), .d (.int .i64 z.grace), .d (.int .i64 z.free), .d (.int .i64 z.dmax), .d (.int .i64 z.stay)])] (H3 false) = some (.ret (.v (.c (.fn 95 [(3, 0)]))) (H4 false)) := by
        have := @khrs_at z (H3 false)
        rw [hH3] at this ⊢
        rw [hH4]
        exact this
      refine wpIn_seq (wpIn_seq (piece hK (t0 := []) (M := 0) ⟨[(10, .v (.c (.fn 95 [(3, 0)]))), (4, .v (.c (.ptr 2 0))), (3, .v (.c (.ptr 1 0))), (2, .v (.c (.ptr 0 0)))], H4 false⟩ (by kernel_rfl) (Nat.zero_le _) ?_ ⟨hn.G, hrel2⟩ hs2 ?_))
      · simp only [hH3, hH4, Zon.row, List.map_cons, List.map_nil] at f2 ⊢
        have hc := Nat.zero_add 0
        repeat' (first | simp only [hc, AS, KX, SX, f2, ZZ, simprocAttr, ↓reduceIte] | ((first | apply Za | apply Zb | apply Zc | apply Zd | apply Ze | apply Zf | apply Zg | apply Zh) <;> intro hc) | refine Zi ?_ | refine Zj ?_)
        exact goes (Wk.sub' (by simp [subT, look]) rfl)
      intro a3 E3 ev3 hrel3 hs3 _
      have hH4l : ∀ b, (H4 b).length = 4 := fun b => by rw [hH4]; rfl
      refine wpIn_block (rangeF_sim (s := ⟨[(10, .v (.c (.fn 95 [(3, 0)]))), (4, .v (.c (.ptr 2 0))), (3, .v (.c (.ptr 1 0))), (2, .v (.c (.ptr 0 0)))], H4 false⟩) (tp := 11) (gf := 95) (ci := 3) (co := 0) (hq := fun _ => H4 false) (xs := (z.hrs.filter wOk).map wV)
        (Ip := fun pre => ∀ w : Win, wV w ∈ pre → inB w.d w.f w.t t = false) (Sx := fun hx => openW z t = true ∧ hx = H4 true) hK ⟨hn.G, hrel3⟩ hs3 hds rfl (fun _ _ => by simp [callFunc, Tryz.func95]; rfl) (fun w hw => by cases hw) rfl (fun _ => rfl)
        (fun dd ll => hours_itX (hp := fun _ => H4 false ++ [.pin dd, .pin ll]) rfl rfl (z := z) (ib := 3) (M := 6) hl (fun _ => by rw [hH4]; rfl) (fun _ => by rw [hH4]; rfl) (fun _ => by rw [hH4]; rfl)) (by kernel_rfl) (by kernel_rfl) (by decide) ?_ ?_ ?_)
      · intro pre x post hxs hIp dd ll ll'
        have hx : x ∈ (z.hrs.filter wOk).map wV := by rw [hxs]; simp
        obtain ⟨w, hw1, rfl⟩ := List.mem_map.1 hx
        obtain ⟨hw1, hw2⟩ := List.mem_filter.1 hw1
        have f3 : cin_m [.agg [.int .i64 w.d, .int .i64 w.f, .int .i64 w.t], .c (.int .i64 t)] = some [.b (inB w.d w.f w.t t)] := rfl
        have hav : (wV w).av = .v (.agg [.d (.int .i64 w.d), .d (.int .i64 w.f), .d (.int .i64 w.t)]) := rfl
        have hIn : inB w.d w.f w.t t = false → ∀ w' : Win, wV w' ∈ pre ++ [wV w] → inB w'.d w'.f w'.t t = false := fun h0 w' hw' => by
          rcases List.mem_append.1 hw' with h1 | h1
          · exact hIp w' h1
          have : wV w' = wV w := by simpa using h1
          have : w' = w := Win.inj _ _ (by simpa [wV] using this)
          rw [this]; exact h0
        have hop : inB w.d w.f w.t t = true → openW z t = true := fun h0 => List.any_eq_true.2 ⟨w, hw1, by rw [hw2, h0]; rfl⟩
        have hH4t : H4 true = [.box (z.row.map C1.d), .box [.d (.int .i64 t)], .box [.d (.bool true)], .box (z.row.map C1.d)] := by rw [hH4]
        rw [hav]
        simp only [hH4]
        generalize hb : inB w.d w.f w.t t = b at *
        have hc := Nat.zero_add 0
        repeat' (first | simp only [hc, AS, KX, SX, ZZ, simprocAttr, ↓reduceIte] | ((first | apply Za | apply Zb | apply Zc | apply Zd | apply Ze | apply Zf | apply Zg | apply Zh) <;> intro hc) | refine Zi ?_ | refine Zj ?_)
        refine ⟨_, [.box [.d (.int .i64 w.d), .d (.int .i64 w.f), .d (.int .i64 w.t)]], rfl, ?_⟩
        cases b
        · skip
          have hc := Nat.zero_add 0
          repeat' (first | simp only [hc, AS, KX, SX, f3, ZZ, simprocAttr, ↓reduceIte] | ((first | apply Za | apply Zb | apply Zc | apply Zd | apply Ze | apply Zf | apply Zg | apply Zh) <;> intro hc) | refine Zi ?_ | refine Zj ?_)
          exact ⟨hIn rfl, Wk.cut' (g := [_]) rfl (by simp) (by simp [subT]) rfl (by simp [Ob.low, C1.low, all_low_d])⟩
        · skip
          have hc := Nat.zero_add 0
          repeat' (first | simp only [hc, AS, KX, SX, f3, ZZ, simprocAttr, ↓reduceIte] | ((first | apply Za | apply Zb | apply Zc | apply Zd | apply Ze | apply Zf | apply Zg | apply Zh) <;> intro hc) | refine Zi ?_ | refine Zj ?_)
          exact ⟨_, ⟨hop rfl, rfl⟩, rfl, Wk.cut' (g := [_]) rfl (by simp) (by simp [subT]) rfl (by simp [Ob.low, C1.low, all_low_d])⟩
      · intro E4 b ob hIp hrel4 hb
        have hno : openW z t = false := by
          unfold openW
          rw [List.any_eq_false]
          intro w hw
          cases h1 : wOk w
          · simp
          have := hIp w (List.mem_map.2 ⟨w, List.mem_filter.2 ⟨hw, h1⟩, rfl⟩)
          simp [this]
        have l1 := @lenWn z.hrs
        have c1 : ((z.hrs.length : Int) = 0) = (z.hrs.isEmpty = true) := by cases z.hrs <;> simp <;> omega
        have hb' : E4.ρ 4 = some b := by rw [← hH4l false]; exact hb
        refine wpIn_seq (piece (A := { A with ds := [markOf b] }) hK (t0 := []) (M := 6) ⟨[(4, .v (.c (.ptr 2 0)))], [.box (z.row.map C1.d), .box [.d (.int .i64 t)], .box [.d (.bool z.hrs.isEmpty)], .box (z.row.map C1.d), .pin (.deferred (some [])), .pin ob]⟩ (by kernel_rfl) (by rw [hH4]; exact Nat.le_refl _) ?_ ⟨hn.G, hrel4⟩ hs3 ?_)
        · generalize z.hrs.isEmpty = e at *
          simp only [hH4, Zon.row, List.map_cons, List.map_nil]
          cases e
          · have c2 := c1.trans (eq_false (by simp))
            have hc := Nat.zero_add 0
            repeat' (first | simp only [hc, AS, KX, SX, l1, c2, ZZ, simprocAttr, ↓reduceIte] | ((first | apply Za | apply Zb | apply Zc | apply Zd | apply Ze | apply Zf | apply Zg | apply Zh) <;> intro hc) | refine Zi ?_ | refine Zj ?_)
            exact goes (Wk.sub' (by simp [subT, look]) rfl)
          have c2 := c1.trans (eq_true (by simp))
          have hc := Nat.zero_add 0
          repeat' (first | simp only [hc, AS, KX, SX, l1, c2, ZZ, simprocAttr, ↓reduceIte] | ((first | apply Za | apply Zb | apply Zc | apply Zd | apply Ze | apply Zf | apply Zg | apply Zh) <;> intro hc) | refine Zi ?_ | refine Zj ?_)
          exact goes (Wk.sub' (by simp [subT, look]) rfl)
        intro a5 E5 ev5 hrel5 hs5 _
        rw [hH4] at ev5
        refine wpIn_ret (postM_mark (id := 4) hrel5 (rho_keep ev5 (by decide) rfl hb') rfl ?_)
        rw [← h, openF, hw, hno]
        show resAll _ ⟨_, _⟩ [.cell 4 4] = some [.b (true && (z.hrs.isEmpty || false))]
        rw [Bool.or_false, Bool.true_and]
        simp only [List.set]
        have hc := Nat.zero_add 0
        repeat' (first | simp only [hc, AS, KX, SX, ZZ, simprocAttr, ↓reduceIte] | ((first | apply Za | apply Zb | apply Zc | apply Zd | apply Ze | apply Zf | apply Zg | apply Zh) <;> intro hc) | refine Zi ?_ | refine Zj ?_)
      rintro E4 b ob hx ⟨hop, rfl⟩ _ hrel4 hb
      have hb' : E4.ρ 4 = some b := by rw [← hH4l false]; exact hb
      rw [hH4] at hrel4
      refine postM_mark (id := 4) hrel4 hb' rfl ?_
      rw [← h, openF, hw, hop]
      show resAll _ ⟨_, _⟩ [.cell 4 4] = some [.b (true && (z.hrs.isEmpty || true))]
      rw [Bool.or_true, Bool.true_and]
      simp only [List.set, List.cons_append, List.nil_append]
      have hc := Nat.zero_add 0
      repeat' (first | simp only [hc, AS, KX, SX, ZZ, simprocAttr, ↓reduceIte] | ((first | apply Za | apply Zb | apply Zc | apply Zd | apply Ze | apply Zf | apply Zg | apply Zh) <;> intro hc) | refine Zi ?_ | refine Zj ?_)
  cases h
theorem zopen_at {z : Zon} {t : Int} (h : z.hrs.length ≤ 1000000000) : zopen_m [.agg z.row, .c (.int .i64 t)] = some [.b (openF z t)] := by
  have := mE_eq encZt_inj (g := fun p => if decide (p.1.hrs.length ≤ 1000000000) = true then some [DV.b (openF p.1 p.2)] else none) (a := (z, t))
  exact this.trans (if_pos (decide_eq_true h))
end
end Go.Ab
namespace Go.Ab
open Go.RowKit Go.Proofs
def enfF (z : Zon) (i : Iv) : Option (List Iv) × Int := if daysErr i ≠ 0 then (none, daysErr i) else if z.hrs = [] then (some [i], 0) else (hrsU i (z.hrs.filter wOk), 0)
def unV : DV → Win
  | .agg [.int _ d, .int _ f, .int _ t] => ⟨d, f, t⟩
  | _ => ⟨0, 0, 0⟩
theorem map_unV (l : List Win) : (l.map wV).map unV = l := by rw [List.map_map]; exact List.map_id _
noncomputable section
open Classical
def zenf_m : List PA → Option (List PA) := mE encZV fun p => if p.1.hrs.length ≤ 1000 then some [.c (.sl (enfF p.1 p.2).1.isNone (((enfF p.1 p.2).1.getD []).map rwI)), .i (enfF p.1 p.2).2] else none
set_option maxHeartbeats 2000000 in
theorem zenf_ok : PureC Tryz.prog Gt 54 zenf_m := by
  have hK : KOk (ctxK Tryz.prog Gt [(59, spv_m), (102, cspans_m), (103, sunion_m)] [(51, khrs_k)]) := kok_of (AllOk.cons spv_ok (AllOk.cons cspans_ok (AllOk.cons sunion_ok AllOk.nil))) (AllK.cons khrs_kok AllK.nil)
  refine pure_of_marks (X := ctxK Tryz.prog Gt [(59, spv_m), (102, cspans_m), (103, sunion_m)] [(51, khrs_k)]) Tryz.func54 rfl (by kernel_rfl) ?_
  intro args r h0
  obtain ⟨⟨z, i⟩, rfl, h⟩ := mE_inv h0
  split at h
  · rename_i hl
    dsimp only at hl h
    simp only [Option.some.injEq] at h
    refine ⟨Nat.le_of_ble_eq_true rfl, fun A E a hn hds hs => ?_⟩
    have hs : a.tmps.size = 45 := hs
    have fv := @spv_at i
    obtain ⟨lo, hi⟩ := i
    simp only [rwI] at fv
    obtain ⟨H4, hH4⟩ : ∃ H4 : D → Int → Hp, H4 = fun l e => [.box (z.row.map C1.d), .box [.d (.int .i64 lo), .d (.int .i64 hi)], .box [.d l], .box [.d (.int .i64 e)]] := ⟨_, rfl⟩
    refine wpIn_seq (piece hK (t0 := []) (M := 0) ⟨[(5, .v (.c (.ptr 3 0))), (4, .v (.c (.ptr 2 0))), (3, .v (.c (.ptr 1 0))), (2, .v (.c (.ptr 0 0)))], H4 (.sl true []) 0⟩ (by kernel_rfl) (Nat.zero_le _) ?_ hn hs ?_)
    · skip
      have hc := Nat.zero_add 0
      repeat' (first | simp only [hc, AS, KX, encZV, rwI, Zon.row, List.map_cons, List.map_nil, SX, ZZ, simprocAttr, ↓reduceIte] | ((first | apply Za | apply Zb | apply Zc | apply Zd | apply Ze | apply Zf | apply Zg | apply Zh) <;> intro hc) | refine Zi ?_ | refine Zj ?_)
      rw [hH4]
      exact goes (Wk.sub' (by simp [subT, look]) rfl)
    intro a1 E1 ev1 hrel1 hs1 _
    have hev : ∀ (e : Int), daysErr (lo, hi) = e → e ≠ 0 → r = [.c (.sl true []), .i e] := fun e he hne => by
      rw [← h, enfF, he, if_pos hne]
      rfl
    generalize hv : ivOk (lo, hi) = v at *
    refine wpIn_seq (wpIn_seq (piece hK (t0 := []) (M := 0) ⟨[(12, AV.b !v), (5, .v (.c (.ptr 3 0))), (4, .v (.c (.ptr 2 0))), (3, .v (.c (.ptr 1 0))), (2, .v (.c (.ptr 0 0)))], H4 (.sl true []) 0⟩ (by kernel_rfl) (Nat.zero_le _) ?_ ⟨hn.G, hrel1⟩ hs1 ?_))
    · rw [hH4]
      have hc := Nat.zero_add 0
      repeat' (first | simp only [hc, AS, KX, SX, fv, ZZ, simprocAttr, ↓reduceIte] | ((first | apply Za | apply Zb | apply Zc | apply Zd | apply Ze | apply Zf | apply Zg | apply Zh) <;> intro hc) | refine Zi ?_ | refine Zj ?_)
      exact goes (Wk.sub' (by simp [subT, look]) rfl)
    intro a2 E2 ev2 hrel2 hs2 _
    cases v with
    | false =>
      refine wpIn_cond_true (bool_inv (rel_d (hrel2.tmps 12))) ?_
      refine wpIn_seq (piece hK (t0 := []) (M := 0) ⟨[(5, .v (.c (.ptr 3 0))), (4, .v (.c (.ptr 2 0)))], H4 (.sl true []) 12⟩ (by kernel_rfl) (Nat.zero_le _) ?_ ⟨hn.G, hrel2⟩ hs2 ?_)
      · rw [hH4]
        have hc := Nat.zero_add 0
        repeat' (first | simp only [hc, AS, KX, SX, ZZ, simprocAttr, ↓reduceIte] | ((first | apply Za | apply Zb | apply Zc | apply Zd | apply Ze | apply Zf | apply Zg | apply Zh) <;> intro hc) | refine Zi ?_ | refine Zj ?_)
        exact goes (Wk.sub' (by simp [subT, look]) rfl)
      intro a3 E3 ev3 hrel3 hs3 _
      refine wpIn_ret (postM_ret hrel3 hds ?_)
      rw [hev 12 (if_pos hv) (by decide), hH4]
      show resAll _ ⟨_, _⟩ [.cell 4 53, .cell 5 54] = some [.c (.sl true []), .i 12]
      have hc := Nat.zero_add 0
      repeat' (first | simp only [hc, AS, KX, SX, ZZ, simprocAttr, ↓reduceIte] | ((first | apply Za | apply Zb | apply Zc | apply Zd | apply Ze | apply Zf | apply Zg | apply Zh) <;> intro hc) | refine Zi ?_ | refine Zj ?_)
    | true =>
    refine wpIn_cond_false (bool_inv (rel_d (hrel2.tmps 12))) (wpIn_skip ?_)
    have hb := ivOk_iff.1 hv
    dsimp only [mxT] at hb
    have e1 : lo.tdiv 86400 = lo / 86400 := Int.tdiv_eq_ediv_of_nonneg (by omega)
    have e2 : (hi - 1).tdiv 86400 = (hi - 1) / 86400 := Int.tdiv_eq_ediv_of_nonneg (by omega)
    have w1 := wI (n := lo / 86400) (by omega) (by omega)
    have w2 := wI (n := hi - 1) (by omega) (by omega)
    have w3 := wI (n := (hi - 1) / 86400) (by omega) (by omega)
    have w4 := wI (n := (hi - 1) / 86400 - lo / 86400) (by omega) (by omega)
    have w5 := wI (n := (hi - 1) / 86400 - lo / 86400 + 1) (by omega) (by omega)
    have hde : daysErr (lo, hi) = if 366 < (hi - 1) / 86400 - lo / 86400 + 1 then 3 else 0 := by rw [daysErr, if_neg (by rw [hv]; decide)]
    obtain ⟨c, hc0⟩ : ∃ c : Bool, ((hi - 1) / 86400 - lo / 86400 + 1 > 366) = (c = true) := ⟨decide ((hi - 1) / 86400 - lo / 86400 + 1 > 366), by simp⟩
    refine wpIn_seq (wpIn_seq (piece hK (t0 := []) (M := 0) ⟨[(22, AV.b c), (5, .v (.c (.ptr 3 0))), (4, .v (.c (.ptr 2 0))), (3, .v (.c (.ptr 1 0))), (2, .v (.c (.ptr 0 0)))], H4 (.sl true []) 0⟩ (by kernel_rfl) (Nat.zero_le _) ?_ ⟨hn.G, hrel2⟩ hs2 ?_))
    · rw [hH4]
      cases c
      · have c2 := hc0.trans (eq_false (by simp))
        have hc := Nat.zero_add 0
        repeat' (first | simp only [hc, AS, KX, SX, e1, e2, w1, w2, w3, w4, w5, c2, ZZ, simprocAttr, ↓reduceIte] | ((first | apply Za | apply Zb | apply Zc | apply Zd | apply Ze | apply Zf | apply Zg | apply Zh) <;> intro hc) | refine Zi ?_ | refine Zj ?_)
        exact goes (Wk.sub' (by simp [subT, look]) rfl)
      have c2 := hc0.trans (eq_true (by simp))
      have hc := Nat.zero_add 0
      repeat' (first | simp only [hc, AS, KX, SX, e1, e2, w1, w2, w3, w4, w5, c2, ZZ, simprocAttr, ↓reduceIte] | ((first | apply Za | apply Zb | apply Zc | apply Zd | apply Ze | apply Zf | apply Zg | apply Zh) <;> intro hc) | refine Zi ?_ | refine Zj ?_)
      exact goes (Wk.sub' (by simp [subT, look]) rfl)
    intro a3 E3 ev3 hrel3 hs3 _
    cases c with
    | true =>
      have hgt : (hi - 1) / 86400 - lo / 86400 + 1 > 366 := by rw [hc0]
      refine wpIn_cond_true (bool_inv (rel_d (hrel3.tmps 22))) ?_
      refine wpIn_seq (piece hK (t0 := []) (M := 0) ⟨[(5, .v (.c (.ptr 3 0))), (4, .v (.c (.ptr 2 0)))], H4 (.sl true []) 3⟩ (by kernel_rfl) (Nat.zero_le _) ?_ ⟨hn.G, hrel3⟩ hs3 ?_)
      · rw [hH4]
        have hc := Nat.zero_add 0
        repeat' (first | simp only [hc, AS, KX, SX, ZZ, simprocAttr, ↓reduceIte] | ((first | apply Za | apply Zb | apply Zc | apply Zd | apply Ze | apply Zf | apply Zg | apply Zh) <;> intro hc) | refine Zi ?_ | refine Zj ?_)
        exact goes (Wk.sub' (by simp [subT, look]) rfl)
      intro a4 E4 ev4 hrel4 hs4 _
      refine wpIn_ret (postM_ret hrel4 hds ?_)
      rw [hev 3 (hde.trans (if_pos hgt)) (by decide), hH4]
      show resAll _ ⟨_, _⟩ [.cell 4 53, .cell 5 54] = some [.c (.sl true []), .i 3]
      have hc := Nat.zero_add 0
      repeat' (first | simp only [hc, AS, KX, SX, ZZ, simprocAttr, ↓reduceIte] | ((first | apply Za | apply Zb | apply Zc | apply Zd | apply Ze | apply Zf | apply Zg | apply Zh) <;> intro hc) | refine Zi ?_ | refine Zj ?_)
    | false =>
    have hle : ¬ (hi - 1) / 86400 - lo / 86400 + 1 > 366 := by rw [hc0]; decide
    have he : daysErr (lo, hi) = 0 := hde.trans (if_neg hle)
    rw [enfF, he, if_neg (fun h => h rfl)] at h
    refine wpIn_cond_false (bool_inv (rel_d (hrel3.tmps 22))) (wpIn_skip ?_)
    have l1 := @lenWn z.hrs
    have c1 : ((z.hrs.length : Int) = 0) = (z.hrs.isEmpty = true) := by cases z.hrs <;> simp <;> omega
    obtain ⟨e, hee⟩ : ∃ e, z.hrs.isEmpty = e := ⟨_, rfl⟩
    rw [hee] at c1
    refine wpIn_seq (wpIn_seq (piece hK (t0 := []) (M := 0) ⟨[(26, AV.b e), (5, .v (.c (.ptr 3 0))), (4, .v (.c (.ptr 2 0))), (3, .v (.c (.ptr 1 0))), (2, .v (.c (.ptr 0 0)))], H4 (.sl true []) 0⟩ (by kernel_rfl) (Nat.zero_le _) ?_ ⟨hn.G, hrel3⟩ hs3 ?_))
    · simp only [hH4, Zon.row, List.map_cons, List.map_nil]
      cases e
      · have c2 := c1.trans (eq_false (by simp))
        have hc := Nat.zero_add 0
        repeat' (first | simp only [hc, AS, KX, SX, l1, c2, ZZ, simprocAttr, ↓reduceIte] | ((first | apply Za | apply Zb | apply Zc | apply Zd | apply Ze | apply Zf | apply Zg | apply Zh) <;> intro hc) | refine Zi ?_ | refine Zj ?_)
        exact goes (Wk.sub' (by simp [subT, look]) rfl)
      have c2 := c1.trans (eq_true (by simp))
      have hc := Nat.zero_add 0
      repeat' (first | simp only [hc, AS, KX, SX, l1, c2, ZZ, simprocAttr, ↓reduceIte] | ((first | apply Za | apply Zb | apply Zc | apply Zd | apply Ze | apply Zf | apply Zg | apply Zh) <;> intro hc) | refine Zi ?_ | refine Zj ?_)
      exact goes (Wk.sub' (by simp [subT, look]) rfl)
    intro a4 E4 ev4 hrel4 hs4 _
    cases e with
    | true =>
      have hnil : z.hrs = [] := List.isEmpty_iff.1 hee
      rw [if_pos hnil] at h
      refine wpIn_cond_true (bool_inv (rel_d (hrel4.tmps 26))) ?_
      refine wpIn_seq (wpIn_region_list ?_)
      refine pieceL hK (t0 := []) (M := 0) [_, _] ⟨[(28, AV.d (.sl false [[.int .i64 lo, .int .i64 hi]])), (5, .v (.c (.ptr 3 0))), (4, .v (.c (.ptr 2 0)))], H4 (.sl true []) 0⟩ (by kernel_rfl) (Nat.zero_le _) ?_ ⟨hn.G, hrel4⟩ hs4 ?_
      · rw [hH4]
        have hc := Nat.zero_add 0
        repeat' (first | simp only [hc, AS, KX, SX, ZZ, simprocAttr, ↓reduceIte] | ((first | apply Za | apply Zb | apply Zc | apply Zd | apply Ze | apply Zf | apply Zg | apply Zh) <;> intro hc) | refine Zi ?_ | refine Zj ?_)
        exact goes (Wk.trans (Wk.ofFull 28 true [[.int .i64 lo, .int .i64 hi]] (by simp [look])) (Wk.sub' (by simp [subT, look]) rfl))
      intro a5 E5 ev5 hrel5 hs5 _
      refine pieceL hK (t0 := []) (M := 0) (l2 := []) [_, _] ⟨[(5, .v (.c (.ptr 3 0))), (4, .v (.c (.ptr 2 0)))], H4 (.sl false [[.int .i64 lo, .int .i64 hi]]) 0⟩ (by kernel_rfl) (Nat.zero_le _) ?_ ⟨hn.G, hrel5⟩ hs5 ?_
      · rw [hH4]
        have hc := Nat.zero_add 0
        repeat' (first | simp only [hc, AS, KX, SX, ZZ, simprocAttr, ↓reduceIte] | ((first | apply Za | apply Zb | apply Zc | apply Zd | apply Ze | apply Zf | apply Zg | apply Zh) <;> intro hc) | refine Zi ?_ | refine Zj ?_)
        exact goes (Wk.sub' (by simp [subT, look]) rfl)
      intro a6 E6 ev6 hrel6 hs6 _
      refine wpIn_ret (postM_ret hrel6 hds ?_)
      rw [← h, hH4]
      show resAll _ ⟨_, _⟩ [.cell 4 53, .cell 5 54] = some [.c (.sl false [[.int .i64 lo, .int .i64 hi]]), .i 0]
      have hc := Nat.zero_add 0
      repeat' (first | simp only [hc, AS, KX, SX, ZZ, simprocAttr, ↓reduceIte] | ((first | apply Za | apply Zb | apply Zc | apply Zd | apply Ze | apply Zf | apply Zg | apply Zh) <;> intro hc) | refine Zi ?_ | refine Zj ?_)
    | false =>
    have hnil : z.hrs ≠ [] := fun h0 => by rw [h0] at hee; cases hee
    rw [if_neg hnil] at h
    refine wpIn_cond_false (bool_inv (rel_d (hrel4.tmps 26))) (wpIn_skip ?_)
    obtain ⟨H5, hH5⟩ : ∃ H5 : Hp, H5 = [.box (z.row.map C1.d), .box [.d (.int .i64 lo), .d (.int .i64 hi)], .box [.d (.sl true [])], .box [.d (.int .i64 0)], .box [.d (.sl true [])]] := ⟨_, rfl⟩
    obtain ⟨H6, hH6⟩ : ∃ H6 : Option (List Iv) → Hp, H6 = fun o => [.box (z.row.map C1.d), .box [.d (.int .i64 lo), .d (.int .i64 hi)], .box [.d (.sl true [])], .box [.d (.int .i64 0)], .box [.d (.sl o.isNone ((o.getD []).map rwI))], .box (z.row.map C1.d)] := ⟨_, rfl⟩
    have hH6l : ∀ o, (H6 o).length = 6 := fun o => by rw [hH6]; rfl
    refine wpIn_seq (piece hK (t0 := []) (M := 0) ⟨[(6, .v (.c (.ptr 4 0))), (5, .v (.c (.ptr 3 0))), (4, .v (.c (.ptr 2 0))), (3, .v (.c (.ptr 1 0))), (2, .v (.c (.ptr 0 0)))], H5⟩ (by kernel_rfl) (Nat.zero_le _) ?_ ⟨hn.G, hrel4⟩ hs4 ?_)
    · rw [hH4]
      have hc := Nat.zero_add 0
      repeat' (first | simp only [hc, AS, KX, SX, ZZ, simprocAttr, ↓reduceIte] | ((first | apply Za | apply Zb | apply Zc | apply Zd | apply Ze | apply Zf | apply Zg | apply Zh) <;> intro hc) | refine Zi ?_ | refine Zj ?_)
      rw [hH5]
      exact goes (Wk.sub' (by simp [subT, look]) rfl)
    intro a5 E5 ev5 hrel5 hs5 _
    have f2 : khrs_k [.v (.agg [.d (.str z.name), .d (.sl z.hf (z.hrs.map Win.row)), .d (.sl z.sf (z.sts.map Stf.row)), .d (.int .i64 z.grace), .d (.int .i64 z.free), .d (.int .i64 z.dmax), .d (.int .i64 z.stay)])] H5 = some (.ret (.v (.c (.fn 95 [(5, 0)]))) (H6 none)) := by
      have := @khrs_at z H5
      rw [hH5] at this ⊢
      rw [hH6]
      exact this
    refine wpIn_seq (wpIn_seq (piece hK (t0 := []) (M := 0) ⟨[(30, .v (.c (.fn 95 [(5, 0)]))), (6, .v (.c (.ptr 4 0))), (5, .v (.c (.ptr 3 0))), (4, .v (.c (.ptr 2 0))), (3, .v (.c (.ptr 1 0))), (2, .v (.c (.ptr 0 0)))], H6 none⟩ (by kernel_rfl) (Nat.zero_le _) ?_ ⟨hn.G, hrel5⟩ hs5 ?_))
    · simp only [hH5, hH6, Zon.row, List.map_cons, List.map_nil] at f2 ⊢
      have hc := Nat.zero_add 0
      repeat' (first | simp only [hc, AS, KX, SX, f2, ZZ, simprocAttr, ↓reduceIte] | ((first | apply Za | apply Zb | apply Zc | apply Zd | apply Ze | apply Zf | apply Zg | apply Zh) <;> intro hc) | refine Zi ?_ | refine Zj ?_)
      exact goes (Wk.sub' (by simp [subT, look]) rfl)
    intro a6 E6 ev6 hrel6 hs6 _
    have hcs := fun w : Win => @cspans_at w (lo, hi)
    rw [he] at hcs
    simp only [rwI] at hcs
    refine wpIn_block (rangeF_sim (s := ⟨[(30, .v (.c (.fn 95 [(5, 0)]))), (6, .v (.c (.ptr 4 0))), (5, .v (.c (.ptr 3 0))), (4, .v (.c (.ptr 2 0))), (3, .v (.c (.ptr 1 0))), (2, .v (.c (.ptr 0 0)))], H6 none⟩) (tp := 31) (gf := 95) (ci := 5) (co := 0) (hq := fun pre => H6 (hrsU (lo, hi) (pre.map unV))) (xs := (z.hrs.filter wOk).map wV)
      (Ip := fun _ => True) (Sx := fun _ => False) hK ⟨hn.G, hrel6⟩ hs6 hds rfl (fun _ _ => by simp [callFunc, Tryz.func95]; rfl) trivial rfl (fun pre => by rw [hH6]; rfl)
      (fun dd ll => hours_itX (hp := fun pre => H6 (hrsU (lo, hi) (pre.map unV)) ++ [.pin dd, .pin ll]) rfl rfl (z := z) (ib := 5) (M := 8) (by omega) (fun _ => by rw [hH6]; rfl) (fun _ => by rw [hH6]; rfl) (fun _ => by rw [hH6]; simp [Ob.low, C1.low, all_low_d])) (by kernel_rfl) (by kernel_rfl) (by decide) ?_ ?_ ?_)
    · intro pre x post hxs _ dd ll ll'
      have hx : x ∈ (z.hrs.filter wOk).map wV := by rw [hxs]; simp
      have hpl : pre.length ≤ 1000 := by
        have h1 := congrArg List.length hxs
        have h2 := List.length_filter_le wOk z.hrs
        simp at h1
        omega
      obtain ⟨w, hw1, rfl⟩ := List.mem_map.1 hx
      have hav : (wV w).av = .v (.agg [.d (.int .i64 w.d), .d (.int .i64 w.f), .d (.int .i64 w.t)]) := rfl
      have hO : hrsU (lo, hi) ((pre ++ [wV w]).map unV) = stepU (lo, hi) (hrsU (lo, hi) (pre.map unV)) w := by
        unfold hrsU
        rw [List.map_append, List.foldl_append]
        rfl
      have f4 := hcs w
      have hsl := @spO_len w (lo, hi)
      have hol := @hrsU_len (lo, hi) (pre.map unV) none
      have hol : ((hrsU (lo, hi) (pre.map unV)).getD []).length ≤ 0 + 366 * (pre.map unV).length := hol
      rw [List.length_map] at hol
      have f5 := @sunion_at (hrsU (lo, hi) (pre.map unV)).isNone (spO w (lo, hi)).isNone ((hrsU (lo, hi) (pre.map unV)).getD []) ((spO w (lo, hi)).getD []) (by omega) (by omega)
      have hst : stepU (lo, hi) (hrsU (lo, hi) (pre.map unV)) w = some (joinF ((hrsU (lo, hi) (pre.map unV)).getD [] ++ (spO w (lo, hi)).getD [])) := rfl
      rw [hO, hst, hav]
      simp only [hH6]
      clear hO hst hcs
      generalize hrsU (lo, hi) (pre.map unV) = O at *
      generalize spO w (lo, hi) = S at *
      obtain ⟨wd, wf, wt⟩ := w
      simp only [Win.row] at f4
      generalize joinF (O.getD [] ++ S.getD []) = J at *
      have hc := Nat.zero_add 0
      repeat' (first | simp only [hc, AS, KX, SX, ZZ, simprocAttr, ↓reduceIte] | ((first | apply Za | apply Zb | apply Zc | apply Zd | apply Ze | apply Zf | apply Zg | apply Zh) <;> intro hc) | refine Zi ?_ | refine Zj ?_)
      refine ⟨_, [.box [.d (.int .i64 wd), .d (.int .i64 wf), .d (.int .i64 wt)]], rfl, ?_⟩
      have hc := Nat.zero_add 0
      repeat' (first | simp only [hc, AS, KX, SX, f4, f5, ZZ, simprocAttr, ↓reduceIte] | ((first | apply Za | apply Zb | apply Zc | apply Zd | apply Ze | apply Zf | apply Zg | apply Zh) <;> intro hc) | refine Zi ?_ | refine Zj ?_)
      refine ⟨trivial, Wk.cut' (g := [_]) rfl (by simp) (by simp [subT]) rfl (by simp [Ob.low, C1.low, all_low_d])⟩
    · intro E7 b ob _ hrel7 hb7
      have hb' : E7.ρ 6 = some b := by rw [← hH6l none]; exact hb7
      rw [map_unV] at hrel7
      refine wpIn_seq (piece (A := { A with ds := [markOf b] }) hK (t0 := []) (M := 8) ⟨[(5, .v (.c (.ptr 3 0))), (4, .v (.c (.ptr 2 0)))], [.box (z.row.map C1.d), .box [.d (.int .i64 lo), .d (.int .i64 hi)], .box [.d (.sl (hrsU (lo, hi) (z.hrs.filter wOk)).isNone (((hrsU (lo, hi) (z.hrs.filter wOk)).getD []).map rwI))], .box [.d (.int .i64 0)], .box [.d (.sl (hrsU (lo, hi) (z.hrs.filter wOk)).isNone (((hrsU (lo, hi) (z.hrs.filter wOk)).getD []).map rwI))], .box (z.row.map C1.d), .pin (.deferred (some [])), .pin ob]⟩ (by kernel_rfl) (by rw [hH6]; exact Nat.le_refl _) ?_ ⟨hn.G, hrel7⟩ hs6 ?_)
      · simp only [hH6]
        generalize hrsU (lo, hi) (z.hrs.filter wOk) = O at *
        have hc := Nat.zero_add 0
        repeat' (first | simp only [hc, AS, KX, SX, ZZ, simprocAttr, ↓reduceIte] | ((first | apply Za | apply Zb | apply Zc | apply Zd | apply Ze | apply Zf | apply Zg | apply Zh) <;> intro hc) | refine Zi ?_ | refine Zj ?_)
        exact goes (Wk.sub' (by simp [subT, look]) rfl)
      intro a8 E8 ev8 hrel8 hs8 _
      rw [hH6] at ev8
      refine wpIn_ret (postM_mark (id := 6) hrel8 (rho_keep ev8 (by decide) rfl hb') rfl ?_)
      rw [← h]
      generalize hrsU (lo, hi) (z.hrs.filter wOk) = O at *
      show resAll _ ⟨_, _⟩ [.cell 4 53, .cell 5 54] = some [.c (.sl O.isNone ((O.getD []).map rwI)), .i 0]
      simp only [List.set]
      have hc := Nat.zero_add 0
      repeat' (first | simp only [hc, AS, KX, SX, ZZ, simprocAttr, ↓reduceIte] | ((first | apply Za | apply Zb | apply Zc | apply Zd | apply Ze | apply Zf | apply Zg | apply Zh) <;> intro hc) | refine Zi ?_ | refine Zj ?_)
    rintro E7 b ob hx hf
    exact hf.elim
  cases h
theorem zenf_at {z : Zon} {i : Iv} (h : z.hrs.length ≤ 1000) : zenf_m [.agg z.row, .agg (rwI i)] = some [.c (.sl (enfF z i).1.isNone (((enfF z i).1.getD []).map rwI)), .i (enfF z i).2] := by
  have := mE_eq encZV_inj (g := fun p => if p.1.hrs.length ≤ 1000 then some [DV.c (.sl (enfF p.1 p.2).1.isNone (((enfF p.1 p.2).1.getD []).map rwI)), DV.i (enfF p.1 p.2).2] else none) (a := (z, i))
  exact this.trans (if_pos h)
end
end Go.Ab
