/-
  Texts of the layer and of the laws, put together: AbQ12, AbQ13. No law is stated here.
-/
import Derived.Test.YtfokeholingnjaaDoorAbV35
set_option linter.unusedSimpArgs false
set_option linter.unusedVariables false
set_option maxRecDepth 100000

/-
  What the functions of reports compute: totals, the report of a case.
-/
namespace Go.Ab
open Go.RowKit Go.Proofs

noncomputable section
open Classical

def creF (l : List Ent) : Int := l.foldl (fun n e => e.posts.foldl (fun n p => W (n - (if 0 < p.2 then 0 else p.2))) n) 0
def creR (l : List Ent) : Int := l.foldl (fun n e => e.posts.foldl (fun n p => W (n + (if 0 > W (0 - p.2) then 0 else W (0 - p.2)))) n) 0
def debP (n : Int) (l : List (List UInt8 × Int)) : Int := l.foldl (fun n p => W (n + (if 0 > p.2 then 0 else p.2))) n
def creP (n : Int) (l : List (List UInt8 × Int)) : Int := l.foldl (fun n p => W (n - (if 0 < p.2 then 0 else p.2))) n
def creQ (n : Int) (l : List (List UInt8 × Int)) : Int := l.foldl (fun n p => W (n + (if 0 > W (0 - p.2) then 0 else W (0 - p.2)))) n
theorem deb_snoc (l : List Ent) (e : Ent) : debF (l ++ [e]) = debP (debF l) e.posts := by simp [debF, debP, List.foldl_append]
theorem cre_snoc (l : List Ent) (e : Ent) : creF (l ++ [e]) = creP (creF l) e.posts := by simp [creF, creP, List.foldl_append]
theorem crr_snoc (l : List Ent) (e : Ent) : creR (l ++ [e]) = creQ (creR l) e.posts := by simp [creR, creQ, List.foldl_append]
theorem debP_snoc (n : Int) (l : List (List UInt8 × Int)) (p : List UInt8 × Int) : debP n (l ++ [p]) = W (debP n l + (if 0 > p.2 then 0 else p.2)) := by simp [debP, List.foldl_append]
theorem creP_snoc (n : Int) (l : List (List UInt8 × Int)) (p : List UInt8 × Int) : creP n (l ++ [p]) = W (creP n l - (if 0 < p.2 then 0 else p.2)) := by simp [creP, List.foldl_append]
theorem creQ_snoc (n : Int) (l : List (List UInt8 × Int)) (p : List UInt8 × Int) : creQ n (l ++ [p]) = W (creQ n l + (if 0 > W (0 - p.2) then 0 else W (0 - p.2))) := by simp [creQ, List.foldl_append]
def encLg (p : Bool × List Ent) : List PA := [.agg [.sl p.1 (p.2.map Ent.row)]]
theorem encLg_inj (a b : Bool × List Ent) (h : encLg a = encLg b) : a = b := by
  obtain ⟨a1, a2⟩ := a
  obtain ⟨b1, b2⟩ := b
  simpa [encLg, mapE_inj] using h

def trial_m : List PA → Option (List PA) := mE encLg fun p => if EntsOk p.2 then some [.i (debF p.2), .i (creF p.2)] else none
def rtrial_m : List PA → Option (List PA) := mE encLg fun p => if EntsOk p.2 then some [.i (debF p.2), .i (creR p.2)] else none

theorem trial_ok : PureC Tryd.prog Gt 48 trial_m := by
  refine pure_of_awp (X := ctx Tryd.prog Gt []) Tryd.func48 rfl rfl (by kernel_rfl) (by kernel_rfl) AllOk.nil.kok ?_
  intro args r h0
  obtain ⟨⟨f, l⟩, rfl, h⟩ := mE_inv h0
  refine ⟨Nat.le_of_ble_eq_true rfl, ?_⟩
  split at h
  · rename_i hok
    dsimp only at hok h ⊢
    obtain ⟨ok1, ok2⟩ := hok
    cases h
    have l1 : ((l.map Ent.row).length : Int) = l.length := by simp
    have hc := Nat.zero_add 0
    repeat' (first | (simp only [hc, Tryd.f48, encLg, SX, l1, AB, PL, RG, LP, TY, Nat.reduceEqDiff, Nat.reduceAdd, Nat.reduceSub, Nat.reduceMul, Nat.reduceLT, Nat.reduceLeDiff, Nat.reduceMod, Nat.reduceDiv, reduceCtorEq, Int.reduceEq, Int.reduceNe, Int.reduceLT, Int.reduceLE, Int.reduceNeg, Int.reduceToNat, Int.reduceAdd, Int.reduceSub, Int.reduceMul, ↓reduceIte, forall_const, eq_self, ne_eq, Option.some.injEq, beq_self_eq_true]) | refine fin_ndec (fun hc => ?_) (fun hc => ?_) | refine fin_dec (fun hc => ?_) (fun hc => ?_) | refine cnd_ndec (fun hc => ?_) (fun hc => ?_) | refine cnd_dec' (fun hc => ?_) (fun hc => ?_) | refine fin_nsplit (fun hc => ?_) (fun hc => ?_) | refine fin_split (fun hc => ?_) (fun hc => ?_) | refine cnd_nsplit (fun hc => ?_) (fun hc => ?_) | refine cnd_split (fun hc => ?_) (fun hc => ?_) | refine blk_exit_id ?_)
    refine awp_loop (σ := Nat) (fun j => j ≤ l.length) (fun j => ⟨[(13, AV.i j), (12, AV.i l.length), (11, AV.d (.sl f (l.map Ent.row))), (4, AV.i (debF (l.take j))), (5, AV.i (creF (l.take j)))], [.box [.d (.sl f (l.map Ent.row))]]⟩) (fun j => l.length - j) 0 (Wk.sub' (by simp [subT, look, debF, creF]) rfl) (by simp) ?_
    intro j hj
    by_cases hjl : j < l.length
    · have e1 : (l.map Ent.row)[j]? = some l[j].row := by simp [hjl]
      have hlt : ((j : Int) < (l.length : Int)) = True := eq_true (by omega)
      have hw := wI (n := (j : Int) + 1) (by omega) (by omega)
      have hpl := ok2 _ (List.getElem_mem hjl)
      have hst : debF (l.take (j + 1)) = debP (debF (l.take j)) l[j].posts := by rw [List.take_succ_eq_append_getElem hjl, deb_snoc]
      have hst' : creF (l.take (j + 1)) = creP (creF (l.take j)) l[j].posts := by rw [List.take_succ_eq_append_getElem hjl, cre_snoc]
      generalize l[j] = e at *
      generalize debF (l.take j) = n0 at *
      generalize creF (l.take j) = m0 at *
      obtain ⟨k0, t0, pf, ps⟩ := e
      dsimp only at hpl hst hst'
      simp only [Ent.row] at e1
      have l2 : ((ps.map rowL).length : Int) = ps.length := by simp
      have hc := Nat.zero_add 0
      repeat' (first | (simp only [hc, SX, l1, e1, hlt, nn, l2, AB, PL, RG, LP, TY, Nat.reduceEqDiff, Nat.reduceAdd, Nat.reduceSub, Nat.reduceMul, Nat.reduceLT, Nat.reduceLeDiff, Nat.reduceMod, Nat.reduceDiv, reduceCtorEq, Int.reduceEq, Int.reduceNe, Int.reduceLT, Int.reduceLE, Int.reduceNeg, Int.reduceToNat, Int.reduceAdd, Int.reduceSub, Int.reduceMul, ↓reduceIte, forall_const, eq_self, ne_eq, Option.some.injEq, beq_self_eq_true]) | refine fin_ndec (fun hc => ?_) (fun hc => ?_) | refine fin_dec (fun hc => ?_) (fun hc => ?_) | refine cnd_ndec (fun hc => ?_) (fun hc => ?_) | refine cnd_dec' (fun hc => ?_) (fun hc => ?_) | refine fin_nsplit (fun hc => ?_) (fun hc => ?_) | refine fin_split (fun hc => ?_) (fun hc => ?_) | refine cnd_nsplit (fun hc => ?_) (fun hc => ?_) | refine cnd_split (fun hc => ?_) (fun hc => ?_) | refine blk_exit_id ?_)
      refine awp_loop (σ := Nat) (fun q => q ≤ ps.length) (fun q => ⟨[(20, AV.i q), (19, AV.i ps.length), (18, AV.d (.sl pf (ps.map rowL))), (13, AV.i j), (12, AV.i l.length), (11, AV.d (.sl f (l.map Ent.row))), (4, AV.i (debP n0 (ps.take q))), (5, AV.i (creP m0 (ps.take q)))], [.box [.d (.sl f (l.map Ent.row))], .box [.d (.str k0), .d (.int .i64 t0), .d (.sl pf (ps.map rowL))]]⟩) (fun q => ps.length - q) 0 (Wk.sub' (by simp [subT, look, debP, creP]) rfl) (by simp) ?_
      intro q hq
      by_cases hql : q < ps.length
      · have e2 : (ps.map rowL)[q]? = some [.str ps[q].1, .int .i64 ps[q].2] := by simp [hql, rowL]
        have hltq : ((q : Int) < (ps.length : Int)) = True := eq_true (by omega)
        have hwq := wI (n := (q : Int) + 1) (by omega) (by omega)
        have hst2 : debP n0 (ps.take (q + 1)) = W (debP n0 (ps.take q) + (if 0 > ps[q].2 then 0 else ps[q].2)) := by rw [List.take_succ_eq_append_getElem hql, debP_snoc]
        have hst3 : creP m0 (ps.take (q + 1)) = W (creP m0 (ps.take q) - (if 0 < ps[q].2 then 0 else ps[q].2)) := by rw [List.take_succ_eq_append_getElem hql, creP_snoc]
        generalize ps[q] = x at *
        have hc := Nat.zero_add 0
        repeat' (first | (simp only [hc, SX, l2, e2, hltq, nn, hwq, AB, PL, RG, LP, TY, Nat.reduceEqDiff, Nat.reduceAdd, Nat.reduceSub, Nat.reduceMul, Nat.reduceLT, Nat.reduceLeDiff, Nat.reduceMod, Nat.reduceDiv, reduceCtorEq, Int.reduceEq, Int.reduceNe, Int.reduceLT, Int.reduceLE, Int.reduceNeg, Int.reduceToNat, Int.reduceAdd, Int.reduceSub, Int.reduceMul, ↓reduceIte, forall_const, eq_self, ne_eq, Option.some.injEq, beq_self_eq_true]) | refine fin_ndec (fun hc => ?_) (fun hc => ?_) | refine fin_dec (fun hc => ?_) (fun hc => ?_) | refine cnd_ndec (fun hc => ?_) (fun hc => ?_) | refine cnd_dec' (fun hc => ?_) (fun hc => ?_) | refine fin_nsplit (fun hc => ?_) (fun hc => ?_) | refine fin_split (fun hc => ?_) (fun hc => ?_) | refine cnd_nsplit (fun hc => ?_) (fun hc => ?_) | refine cnd_split (fun hc => ?_) (fun hc => ?_) | refine blk_exit_id ?_)
        exact lp_next (q + 1) (Wk.cutk (k := 2) (by simp) (by simp) (by simp [hst2, hst3]) (by simp [subT, look, hst2, hst3]) (by first | rfl | simp [AV.low, V.low, C1.low]) (by first | rfl | simp [Ob.low, C1.low, all_low_d])) (by omega) (by omega)
      · have hltq : ((q : Int) < (ps.length : Int)) = False := eq_false (by omega)
        have et : ps.take q = ps := List.take_of_length_le (by omega)
        simp only [et]
        rw [← hst, ← hst']
        have hc := Nat.zero_add 0
        repeat' (first | (simp only [hc, SX, l2, hltq, nn, hw, AB, PL, RG, LP, TY, Nat.reduceEqDiff, Nat.reduceAdd, Nat.reduceSub, Nat.reduceMul, Nat.reduceLT, Nat.reduceLeDiff, Nat.reduceMod, Nat.reduceDiv, reduceCtorEq, Int.reduceEq, Int.reduceNe, Int.reduceLT, Int.reduceLE, Int.reduceNeg, Int.reduceToNat, Int.reduceAdd, Int.reduceSub, Int.reduceMul, ↓reduceIte, forall_const, eq_self, ne_eq, Option.some.injEq, beq_self_eq_true]) | refine fin_ndec (fun hc => ?_) (fun hc => ?_) | refine fin_dec (fun hc => ?_) (fun hc => ?_) | refine cnd_ndec (fun hc => ?_) (fun hc => ?_) | refine cnd_dec' (fun hc => ?_) (fun hc => ?_) | refine fin_nsplit (fun hc => ?_) (fun hc => ?_) | refine fin_split (fun hc => ?_) (fun hc => ?_) | refine cnd_nsplit (fun hc => ?_) (fun hc => ?_) | refine cnd_split (fun hc => ?_) (fun hc => ?_) | refine blk_exit_id ?_)
        exact lp_next (j + 1) (Wk.cutk (k := 1) (by simp) (by simp) (by simp) (by simp [subT, look]) (by first | rfl | simp [AV.low, V.low, C1.low]) (by first | rfl | simp [Ob.low, C1.low, all_low_d])) (by omega) (by omega)
    · have hlt : ((j : Int) < (l.length : Int)) = False := eq_false (by omega)
      rw [List.take_of_length_le (by omega)]
      have hc := Nat.zero_add 0
      repeat' (first | (simp only [hc, SX, l1, hlt, AB, PL, RG, LP, TY, Nat.reduceEqDiff, Nat.reduceAdd, Nat.reduceSub, Nat.reduceMul, Nat.reduceLT, Nat.reduceLeDiff, Nat.reduceMod, Nat.reduceDiv, reduceCtorEq, Int.reduceEq, Int.reduceNe, Int.reduceLT, Int.reduceLE, Int.reduceNeg, Int.reduceToNat, Int.reduceAdd, Int.reduceSub, Int.reduceMul, ↓reduceIte, forall_const, eq_self, ne_eq, Option.some.injEq, beq_self_eq_true]) | refine fin_ndec (fun hc => ?_) (fun hc => ?_) | refine fin_dec (fun hc => ?_) (fun hc => ?_) | refine cnd_ndec (fun hc => ?_) (fun hc => ?_) | refine cnd_dec' (fun hc => ?_) (fun hc => ?_) | refine fin_nsplit (fun hc => ?_) (fun hc => ?_) | refine fin_split (fun hc => ?_) (fun hc => ?_) | refine cnd_nsplit (fun hc => ?_) (fun hc => ?_) | refine cnd_split (fun hc => ?_) (fun hc => ?_) | refine blk_exit_id ?_)
      all_goals simp [DV.i]
  · cases h

theorem rtrial_ok : PureC Tryd.prog Gt 51 rtrial_m := by
  refine pure_of_awp (X := ctx Tryd.prog Gt []) Tryd.func51 rfl rfl (by kernel_rfl) (by kernel_rfl) AllOk.nil.kok ?_
  intro args r h0
  obtain ⟨⟨f, l⟩, rfl, h⟩ := mE_inv h0
  refine ⟨Nat.le_of_ble_eq_true rfl, ?_⟩
  split at h
  · rename_i hok
    dsimp only at hok h ⊢
    obtain ⟨ok1, ok2⟩ := hok
    cases h
    have l1 : ((l.map Ent.row).length : Int) = l.length := by simp
    have hc := Nat.zero_add 0
    repeat' (first | (simp only [hc, Tryd.f51, encLg, SX, l1, AB, PL, RG, LP, TY, Nat.reduceEqDiff, Nat.reduceAdd, Nat.reduceSub, Nat.reduceMul, Nat.reduceLT, Nat.reduceLeDiff, Nat.reduceMod, Nat.reduceDiv, reduceCtorEq, Int.reduceEq, Int.reduceNe, Int.reduceLT, Int.reduceLE, Int.reduceNeg, Int.reduceToNat, Int.reduceAdd, Int.reduceSub, Int.reduceMul, ↓reduceIte, forall_const, eq_self, ne_eq, Option.some.injEq, beq_self_eq_true]) | refine fin_ndec (fun hc => ?_) (fun hc => ?_) | refine fin_dec (fun hc => ?_) (fun hc => ?_) | refine cnd_ndec (fun hc => ?_) (fun hc => ?_) | refine cnd_dec' (fun hc => ?_) (fun hc => ?_) | refine fin_nsplit (fun hc => ?_) (fun hc => ?_) | refine fin_split (fun hc => ?_) (fun hc => ?_) | refine cnd_nsplit (fun hc => ?_) (fun hc => ?_) | refine cnd_split (fun hc => ?_) (fun hc => ?_) | refine blk_exit_id ?_)
    refine awp_loop (σ := Nat) (fun j => j ≤ l.length) (fun j => ⟨[(6, AV.i j), (1, .v (.c (.ptr 0 0))), (4, AV.i (debF (l.take j))), (5, AV.i (creR (l.take j)))], [.box [.d (.sl f (l.map Ent.row))]]⟩) (fun j => l.length - j) 0 (Wk.sub' (by simp [subT, look, debF, creR]) rfl) (by simp) ?_
    intro j hj
    by_cases hjl : j < l.length
    · have e1 : (l.map Ent.row)[j]? = some l[j].row := by simp [hjl]
      have hlt : ((j : Int) < (l.length : Int)) = True := eq_true (by omega)
      have hw := wI (n := (j : Int) + 1) (by omega) (by omega)
      have hpl := ok2 _ (List.getElem_mem hjl)
      have hst : debF (l.take (j + 1)) = debP (debF (l.take j)) l[j].posts := by rw [List.take_succ_eq_append_getElem hjl, deb_snoc]
      have hst' : creR (l.take (j + 1)) = creQ (creR (l.take j)) l[j].posts := by rw [List.take_succ_eq_append_getElem hjl, crr_snoc]
      generalize l[j] = e at *
      generalize debF (l.take j) = n0 at *
      generalize creR (l.take j) = m0 at *
      obtain ⟨k0, t0, pf, ps⟩ := e
      dsimp only at hpl hst hst'
      simp only [Ent.row] at e1
      have l2 : ((ps.map rowL).length : Int) = ps.length := by simp
      have hc := Nat.zero_add 0
      repeat' (first | (simp only [hc, SX, l1, e1, hlt, nn, l2, AB, PL, RG, LP, TY, Nat.reduceEqDiff, Nat.reduceAdd, Nat.reduceSub, Nat.reduceMul, Nat.reduceLT, Nat.reduceLeDiff, Nat.reduceMod, Nat.reduceDiv, reduceCtorEq, Int.reduceEq, Int.reduceNe, Int.reduceLT, Int.reduceLE, Int.reduceNeg, Int.reduceToNat, Int.reduceAdd, Int.reduceSub, Int.reduceMul, ↓reduceIte, forall_const, eq_self, ne_eq, Option.some.injEq, beq_self_eq_true]) | refine fin_ndec (fun hc => ?_) (fun hc => ?_) | refine fin_dec (fun hc => ?_) (fun hc => ?_) | refine cnd_ndec (fun hc => ?_) (fun hc => ?_) | refine cnd_dec' (fun hc => ?_) (fun hc => ?_) | refine fin_nsplit (fun hc => ?_) (fun hc => ?_) | refine fin_split (fun hc => ?_) (fun hc => ?_) | refine cnd_nsplit (fun hc => ?_) (fun hc => ?_) | refine cnd_split (fun hc => ?_) (fun hc => ?_) | refine blk_exit_id ?_)
      refine awp_loop (σ := Nat) (fun q => q ≤ ps.length) (fun q => ⟨[(7, AV.i q), (6, AV.i j), (1, .v (.c (.ptr 0 0))), (4, AV.i (debP n0 (ps.take q))), (5, AV.i (creQ m0 (ps.take q)))], [.box [.d (.sl f (l.map Ent.row))]]⟩) (fun q => ps.length - q) 0 (Wk.sub' (by simp [subT, look, debP, creQ]) rfl) (by simp) ?_
      intro q hq
      by_cases hql : q < ps.length
      · have e2 : (ps.map rowL)[q]? = some [.str ps[q].1, .int .i64 ps[q].2] := by simp [hql, rowL]
        have hltq : ((q : Int) < (ps.length : Int)) = True := eq_true (by omega)
        have hwq := wI (n := (q : Int) + 1) (by omega) (by omega)
        have hst2 : debP n0 (ps.take (q + 1)) = W (debP n0 (ps.take q) + (if 0 > ps[q].2 then 0 else ps[q].2)) := by rw [List.take_succ_eq_append_getElem hql, debP_snoc]
        have hst3 : creQ m0 (ps.take (q + 1)) = W (creQ m0 (ps.take q) + (if 0 > W (0 - ps[q].2) then 0 else W (0 - ps[q].2))) := by rw [List.take_succ_eq_append_getElem hql, creQ_snoc]
        generalize ps[q] = x at *
        have hc := Nat.zero_add 0
        repeat' (first | (simp only [hc, SX, l1, e1, l2, e2, hltq, nn, hwq, AB, PL, RG, LP, TY, Nat.reduceEqDiff, Nat.reduceAdd, Nat.reduceSub, Nat.reduceMul, Nat.reduceLT, Nat.reduceLeDiff, Nat.reduceMod, Nat.reduceDiv, reduceCtorEq, Int.reduceEq, Int.reduceNe, Int.reduceLT, Int.reduceLE, Int.reduceNeg, Int.reduceToNat, Int.reduceAdd, Int.reduceSub, Int.reduceMul, ↓reduceIte, forall_const, eq_self, ne_eq, Option.some.injEq, beq_self_eq_true]) | refine fin_ndec (fun hc => ?_) (fun hc => ?_) | refine fin_dec (fun hc => ?_) (fun hc => ?_) | refine cnd_ndec (fun hc => ?_) (fun hc => ?_) | refine cnd_dec' (fun hc => ?_) (fun hc => ?_) | refine fin_nsplit (fun hc => ?_) (fun hc => ?_) | refine fin_split (fun hc => ?_) (fun hc => ?_) | refine cnd_nsplit (fun hc => ?_) (fun hc => ?_) | refine cnd_split (fun hc => ?_) (fun hc => ?_) | refine blk_exit_id ?_)
        exact lp_next (q + 1) (Wk.sub' (by simp [subT, look, hst2, hst3]) rfl) (by omega) (by omega)
      · have hltq : ((q : Int) < (ps.length : Int)) = False := eq_false (by omega)
        have et : ps.take q = ps := List.take_of_length_le (by omega)
        simp only [et]
        rw [← hst, ← hst']
        have hc := Nat.zero_add 0
        repeat' (first | (simp only [hc, SX, l1, e1, l2, hltq, nn, hw, AB, PL, RG, LP, TY, Nat.reduceEqDiff, Nat.reduceAdd, Nat.reduceSub, Nat.reduceMul, Nat.reduceLT, Nat.reduceLeDiff, Nat.reduceMod, Nat.reduceDiv, reduceCtorEq, Int.reduceEq, Int.reduceNe, Int.reduceLT, Int.reduceLE, Int.reduceNeg, Int.reduceToNat, Int.reduceAdd, Int.reduceSub, Int.reduceMul, ↓reduceIte, forall_const, eq_self, ne_eq, Option.some.injEq, beq_self_eq_true]) | refine fin_ndec (fun hc => ?_) (fun hc => ?_) | refine fin_dec (fun hc => ?_) (fun hc => ?_) | refine cnd_ndec (fun hc => ?_) (fun hc => ?_) | refine cnd_dec' (fun hc => ?_) (fun hc => ?_) | refine fin_nsplit (fun hc => ?_) (fun hc => ?_) | refine fin_split (fun hc => ?_) (fun hc => ?_) | refine cnd_nsplit (fun hc => ?_) (fun hc => ?_) | refine cnd_split (fun hc => ?_) (fun hc => ?_) | refine blk_exit_id ?_)
        exact lp_next (j + 1) (Wk.sub' (by simp [subT, look]) rfl) (by omega) (by omega)
    · have hlt : ((j : Int) < (l.length : Int)) = False := eq_false (by omega)
      rw [List.take_of_length_le (by omega)]
      have hc := Nat.zero_add 0
      repeat' (first | (simp only [hc, SX, l1, hlt, AB, PL, RG, LP, TY, Nat.reduceEqDiff, Nat.reduceAdd, Nat.reduceSub, Nat.reduceMul, Nat.reduceLT, Nat.reduceLeDiff, Nat.reduceMod, Nat.reduceDiv, reduceCtorEq, Int.reduceEq, Int.reduceNe, Int.reduceLT, Int.reduceLE, Int.reduceNeg, Int.reduceToNat, Int.reduceAdd, Int.reduceSub, Int.reduceMul, ↓reduceIte, forall_const, eq_self, ne_eq, Option.some.injEq, beq_self_eq_true]) | refine fin_ndec (fun hc => ?_) (fun hc => ?_) | refine fin_dec (fun hc => ?_) (fun hc => ?_) | refine cnd_ndec (fun hc => ?_) (fun hc => ?_) | refine cnd_dec' (fun hc => ?_) (fun hc => ?_) | refine fin_nsplit (fun hc => ?_) (fun hc => ?_) | refine fin_split (fun hc => ?_) (fun hc => ?_) | refine cnd_nsplit (fun hc => ?_) (fun hc => ?_) | refine cnd_split (fun hc => ?_) (fun hc => ?_) | refine blk_exit_id ?_)
      all_goals simp [DV.i]
  · cases h

theorem trial_at {f : Bool} {l : List Ent} (h : EntsOk l) : trial_m [.agg [.sl f (l.map Ent.row)]] = some [.i (debF l), .i (creF l)] := by
  rw [trial_m, show ([.agg [.sl f (l.map Ent.row)]] : List PA) = encLg (f, l) from rfl, mE_eq encLg_inj, if_pos h]
theorem rtrial_at {f : Bool} {l : List Ent} (h : EntsOk l) : rtrial_m [.agg [.sl f (l.map Ent.row)]] = some [.i (debF l), .i (creR l)] := by
  rw [rtrial_m, show ([.agg [.sl f (l.map Ent.row)]] : List PA) = encLg (f, l) from rfl, mE_eq encLg_inj, if_pos h]

/-! Totals -/
def cntF (w : List UInt8) (n : Int) : List UInt8 := lineF [w, Lib.itoa n]
def totRep (s : St) : List UInt8 :=
  cntF [101, 118, 101, 110, 116, 115] s.count ++ lineF [[99, 108, 111, 115, 101, 100], dateF s.closed] ++ cntF [112, 97, 115, 115, 97, 103, 101, 115] s.ps.length ++ cntF [114, 101, 106, 101, 99, 116, 115] s.rs.length ++ cntF [116, 114, 105, 112, 115] s.ts.length ++ cntF [115, 116, 97, 121, 115] s.ss.length
    ++ lineF [[99, 104, 97, 114, 103, 101, 115], Lib.itoa s.chs.length, showF (sumC s.chs)] ++ cntF [101, 120, 99, 108, 117, 115, 105, 111, 110, 115] s.xs.length ++ cntF [112, 111, 115, 116, 101, 100] s.ds.length
    ++ lineF [[101, 110, 116, 114, 105, 101, 115], Lib.itoa s.ents.length, showF (debF s.ents)] ++ lineF [[99, 97, 115, 101, 115], Lib.itoa s.cases.length, Lib.itoa (openN s.cases)]

theorem open_snoc_t {l : List Cas} {x : Cas} (h : openB x.stage = true) : openN (l ++ [x]) = openN l + 1 := by simp [openN, h]
theorem open_snoc_f {l : List Cas} {x : Cas} (h : openB x.stage = false) : openN (l ++ [x]) = openN l := by simp [openN, h]
theorem open_le (l : List Cas) : openN l ≤ l.length := List.length_filter_le _ _
theorem cnt_le {w : List UInt8} {n : Int} (hw : w.length ≤ 1000) (h : inI n = true) : (cntF w n).length ≤ 3004 := by
  have := line_le (l := [w, Lib.itoa n]) (le2 hw (by have := itoa_le h; omega))
  simp only [List.length_cons, List.length_nil] at this
  unfold cntF
  omega
theorem inI_len {n : Nat} (h : n ≤ 9223372036854775807) : inI (n : Int) = true := inI_iff.2 (by omega)
theorem dropC {l : List D} {k : Nat} {a : D} (h : l[k]? = some a) : l.drop k = a :: l.drop (k + 1) := by
  obtain ⟨hk, rfl⟩ := List.getElem?_eq_some_iff.1 h
  exact List.drop_eq_getElem_cons hk
theorem St.is.res {s : St} (h : s.is) : (s.cells.drop 29).take 6 = [.sl s.psf s.ps, .sl s.rsf s.rs, .sl s.tsf s.ts, .sl s.ssf s.ss, .sl s.cf (s.chs.map Chg.row), .sl s.xsf s.xs] := by
  rw [dropC h.c29, dropC h.c30, dropC h.c31, dropC h.c32, dropC h.c33, dropC h.c34]; rfl
theorem St.is.led {s : St} (h : s.is) : (s.cells.drop 35).take 1 = [.sl s.ef (s.ents.map Ent.row)] := by rw [dropC h.c35]; rfl
theorem St.is.lw {s : St} (h : s.is) : (s.cells.drop 20).take 3 = [.sl s.law.df (s.law.days.map rowN), .sl s.law.ff (s.law.fees.map rowN), .int .i64 s.law.limit] := by
  rw [dropC h.c20, dropC h.c21, dropC h.c22]; rfl
theorem inI_deb (l : List Ent) : inI (debF l) = true := by
  have h1 : ∀ (ps : List (List UInt8 × Int)) (n : Int), inI n = true → inI (debP n ps) = true := fun ps => by
    induction ps with
    | nil => exact fun n h => h
    | cons p ps ih => exact fun n _ => ih _ (inI_W _)
  have h2 : ∀ (l : List Ent) (n : Int), inI n = true → inI (l.foldl (fun n e => debP n e.posts) n) = true := fun l => by
    induction l with
    | nil => exact fun n h => h
    | cons e l ih => exact fun n h => ih _ (h1 _ _ h)
  exact h2 l 0 inI_0

def ttot_m : List PA → Option (List PA) := mR stA fun s => if s.Wf ∧ s.Small then some [.s (totRep s)] else none
def rttot_m : List PA → Option (List PA) := mR stA fun s => if s.Wf ∧ s.Small then some [.s (totRep s)] else none

theorem cntl_at {w : List UInt8} {n : Int} (hw : w.length ≤ 1000) (h : inI n = true) : line_m [.c (.sl true [[.str w], [.str (Lib.itoa n)]])] = some [.s (cntF w n)] := ln2 hw (by have := itoa_le h; omega)
theorem rcnt_at {w : List UInt8} {n : Int} (hw : w.length ≤ 1000) (h : inI n = true) : rcount_m [.c (.str w), .c (.int .i64 n)] = some [.s (cntF w n)] := by
  rw [rcount_m, show ([.c (.str w), .c (.int .i64 n)] : List PA) = (fun p : List UInt8 × Int => [.c (.str p.1), .c (.int .i64 p.2)]) (w, n) from rfl, mE_eq (fun a b h => by obtain ⟨a1, a2⟩ := a; obtain ⟨b1, b2⟩ := b; simpa using h), if_pos ⟨decide_eq_true hw, h⟩]
  rfl

theorem ttot_ok : PureC Tryd.prog Gt 21 ttot_m := by
  refine pure_of_awp (X := ctx Tryd.prog Gt [(48, trial_m), (49, nopen_m), (27, count_m), (25, line_m), (33, tdate_m), (35, tsum_m), (28, mshow_m)]) Tryd.func21 rfl rfl (by kernel_rfl) (by kernel_rfl) (AllOk.cons trial_ok (AllOk.cons nopen_ok (AllOk.cons count_ok (AllOk.cons line_ok (AllOk.cons tdate_ok (AllOk.cons tsum_ok (AllOk.cons mshow_ok AllOk.nil))))))).kok ?_
  intro args r h0
  obtain ⟨s, ⟨hs, rfl⟩, h⟩ := mR_inv h0
  refine ⟨Nat.le_of_ble_eq_true rfl, ?_⟩
  split at h
  · rename_i hw
    obtain ⟨hw, hsm⟩ := hw
    cases h
    have hl := hs.len
    have R := And.intro hs.res (And.intro hs.led (And.intro hs.c37 (And.intro hs.c38 (And.intro hs.c28 (And.intro hs.c36 hs.c35)))))
    have f1 := trial_at (f := s.ef) (l := s.ents) ⟨hw.enl, fun e he => (hw.enr e he).2.1⟩
    have l37 : ((s.cases.map Cas.row).length : Int) = s.cases.length := by simp
    have l33 : ((s.chs.map Chg.row).length : Int) = s.chs.length := by simp
    have l35 : ((s.ents.map Ent.row).length : Int) = s.ents.length := by simp
    have hc := Nat.zero_add 0
    repeat' (first | (simp only [hc, Tryd.f21, SX, WH, hl, R, f1, l37, AB, PL, RG, LP, TY, Nat.reduceEqDiff, Nat.reduceAdd, Nat.reduceSub, Nat.reduceMul, Nat.reduceLT, Nat.reduceLeDiff, Nat.reduceMod, Nat.reduceDiv, reduceCtorEq, Int.reduceEq, Int.reduceNe, Int.reduceLT, Int.reduceLE, Int.reduceNeg, Int.reduceToNat, Int.reduceAdd, Int.reduceSub, Int.reduceMul, ↓reduceIte, forall_const, eq_self, ne_eq, Option.some.injEq, beq_self_eq_true]) | refine fin_ndec (fun hc => ?_) (fun hc => ?_) | refine fin_dec (fun hc => ?_) (fun hc => ?_) | refine cnd_ndec (fun hc => ?_) (fun hc => ?_) | refine cnd_dec' (fun hc => ?_) (fun hc => ?_) | refine fin_nsplit (fun hc => ?_) (fun hc => ?_) | refine fin_split (fun hc => ?_) (fun hc => ?_) | refine cnd_nsplit (fun hc => ?_) (fun hc => ?_) | refine cnd_split (fun hc => ?_) (fun hc => ?_) | refine blk_exit_id ?_)
    refine awp_loop (σ := Nat) (fun j => j ≤ s.cases.length) (fun j => ⟨[(22, AV.i j), (21, AV.i s.cases.length), (20, AV.d (.sl s.kf (s.cases.map Cas.row))), (6, AV.i (openN (s.cases.take j))), (4, AV.i (debF s.ents)), (3, .v (.c (.ptr 1 0))), (1, .v (.c (.ptr 0 0)))],
      [.box (s.cells.map .d), .box [.d (.sl s.psf s.ps), .d (.sl s.rsf s.rs), .d (.sl s.tsf s.ts), .d (.sl s.ssf s.ss), .d (.sl s.cf (s.chs.map Chg.row)), .d (.sl s.xsf s.xs)]]⟩) (fun j => s.cases.length - j) 0 (Wk.sub' (by simp [subT, look, openN]) rfl) (by simp) ?_
    intro j hj
    have hcl := hsm.cases
    by_cases hjl : j < s.cases.length
    · have e1 : (s.cases.map Cas.row)[j]? = some s.cases[j].row := by simp [hjl]
      have hlt : ((j : Int) < (s.cases.length : Int)) = True := eq_true (by omega)
      have hw1 := wI (n := (j : Int) + 1) (by omega) (by omega)
      have hstep : s.cases.take (j + 1) = s.cases.take j ++ [s.cases[j]] := List.take_succ_eq_append_getElem hjl
      have hol := open_le (s.cases.take j)
      rw [List.length_take] at hol
      have hw2 := wI (n := (openN (s.cases.take j) : Int) + 1) (by omega) (by omega)
      generalize s.cases[j] = y at *
      have g1 := @nopen_at y
      simp only [Cas.row] at e1 g1
      cases hy : openB y.stage with
      | true =>
        have q := open_snoc_t (l := s.cases.take j) hy
        rw [← hstep] at q
        rw [hy] at g1
        have hc := Nat.zero_add 0
        repeat' (first | (simp only [hc, SX, WH, l37, e1, hlt, nn, hw1, hw2, g1, AB, PL, RG, LP, TY, Nat.reduceEqDiff, Nat.reduceAdd, Nat.reduceSub, Nat.reduceMul, Nat.reduceLT, Nat.reduceLeDiff, Nat.reduceMod, Nat.reduceDiv, reduceCtorEq, Int.reduceEq, Int.reduceNe, Int.reduceLT, Int.reduceLE, Int.reduceNeg, Int.reduceToNat, Int.reduceAdd, Int.reduceSub, Int.reduceMul, ↓reduceIte, forall_const, eq_self, ne_eq, Option.some.injEq, beq_self_eq_true]) | refine fin_ndec (fun hc => ?_) (fun hc => ?_) | refine fin_dec (fun hc => ?_) (fun hc => ?_) | refine cnd_ndec (fun hc => ?_) (fun hc => ?_) | refine cnd_dec' (fun hc => ?_) (fun hc => ?_) | refine fin_nsplit (fun hc => ?_) (fun hc => ?_) | refine fin_split (fun hc => ?_) (fun hc => ?_) | refine cnd_nsplit (fun hc => ?_) (fun hc => ?_) | refine cnd_split (fun hc => ?_) (fun hc => ?_) | refine blk_exit_id ?_)
        exact lp_next (j + 1) (Wk.cutk (k := 2) (by simp) (by simp) (by simp [q]) (by simp [subT, look, q]) (by first | rfl | simp [AV.low, V.low, C1.low]) (by first | rfl | simp [Ob.low, C1.low, all_low_d])) (by omega) (by omega)
      | false =>
        have q := open_snoc_f (l := s.cases.take j) hy
        rw [← hstep] at q
        rw [hy] at g1
        have hc := Nat.zero_add 0
        repeat' (first | (simp only [hc, SX, WH, l37, e1, hlt, nn, hw1, hw2, g1, AB, PL, RG, LP, TY, Nat.reduceEqDiff, Nat.reduceAdd, Nat.reduceSub, Nat.reduceMul, Nat.reduceLT, Nat.reduceLeDiff, Nat.reduceMod, Nat.reduceDiv, reduceCtorEq, Int.reduceEq, Int.reduceNe, Int.reduceLT, Int.reduceLE, Int.reduceNeg, Int.reduceToNat, Int.reduceAdd, Int.reduceSub, Int.reduceMul, ↓reduceIte, forall_const, eq_self, ne_eq, Option.some.injEq, beq_self_eq_true]) | refine fin_ndec (fun hc => ?_) (fun hc => ?_) | refine fin_dec (fun hc => ?_) (fun hc => ?_) | refine cnd_ndec (fun hc => ?_) (fun hc => ?_) | refine cnd_dec' (fun hc => ?_) (fun hc => ?_) | refine fin_nsplit (fun hc => ?_) (fun hc => ?_) | refine fin_split (fun hc => ?_) (fun hc => ?_) | refine cnd_nsplit (fun hc => ?_) (fun hc => ?_) | refine cnd_split (fun hc => ?_) (fun hc => ?_) | refine blk_exit_id ?_)
        exact lp_next (j + 1) (Wk.cutk (k := 2) (by simp) (by simp) (by simp [q]) (by simp [subT, look, q]) (by first | rfl | simp [AV.low, V.low, C1.low]) (by first | rfl | simp [Ob.low, C1.low, all_low_d])) (by omega) (by omega)
    · have hlt : ((j : Int) < (s.cases.length : Int)) = False := eq_false (by omega)
      have et : s.cases.take j = s.cases := List.take_of_length_le (by omega)
      simp only [et]
      have hT : totRep s = cntF [101, 118, 101, 110, 116, 115] s.count ++ lineF [[99, 108, 111, 115, 101, 100], dateF s.closed] ++ cntF [112, 97, 115, 115, 97, 103, 101, 115] s.ps.length ++ cntF [114, 101, 106, 101, 99, 116, 115] s.rs.length ++ cntF [116, 114, 105, 112, 115] s.ts.length ++ cntF [115, 116, 97, 121, 115] s.ss.length
        ++ lineF [[99, 104, 97, 114, 103, 101, 115], Lib.itoa s.chs.length, showF (sumC s.chs)] ++ cntF [101, 120, 99, 108, 117, 115, 105, 111, 110, 115] s.xs.length ++ cntF [112, 111, 115, 116, 101, 100] s.ds.length
        ++ lineF [[101, 110, 116, 114, 105, 101, 115], Lib.itoa s.ents.length, showF (debF s.ents)] ++ lineF [[99, 97, 115, 101, 115], Lib.itoa s.cases.length, Lib.itoa (openN s.cases)] := rfl
      have hol := open_le s.cases
      have iO := inI_len (n := openN s.cases) (by omega)
      have i1 := hw.cou
      have i3 := inI_len hw.psl
      have i4 := inI_len hw.rsl
      have i5 := inI_len hw.tsl
      have i6 := inI_len hw.ssl
      have i7 := inI_len hw.chl
      have i8 := inI_len hw.xsl
      have i9 := inI_len hw.dsl
      have i10 := inI_len hw.enl
      have i11 := inI_len hw.cal
      have iS := inI_sum s.chs
      have iD := inI_deb s.ents
      have C := And.intro (count_at i1) (And.intro (count_at i3) (And.intro (count_at i4) (And.intro (count_at i5) (And.intro (count_at i6) (And.intro (count_at i7) (And.intro (count_at i8) (And.intro (count_at i9) (And.intro (count_at i10) (And.intro (count_at i11) (count_at iO))))))))))
      have g1 := cntl_at (w := [101, 118, 101, 110, 116, 115]) (by simp) i1
      have g2 := ln2 (a := [99, 108, 111, 115, 101, 100]) (b := dateF s.closed) (by simp) (by have := date_le s.closed; omega)
      have g3 := cntl_at (w := [112, 97, 115, 115, 97, 103, 101, 115]) (by simp) i3
      have g4 := cntl_at (w := [114, 101, 106, 101, 99, 116, 115]) (by simp) i4
      have g5 := cntl_at (w := [116, 114, 105, 112, 115]) (by simp) i5
      have g6 := cntl_at (w := [115, 116, 97, 121, 115]) (by simp) i6
      have g7 := ln3 (a := [99, 104, 97, 114, 103, 101, 115]) (b := Lib.itoa s.chs.length) (c := showF (sumC s.chs)) (by simp) (by have := itoa_le i7; omega) (by have := show_le iS; omega)
      have g8 := cntl_at (w := [101, 120, 99, 108, 117, 115, 105, 111, 110, 115]) (by simp) i8
      have g9 := cntl_at (w := [112, 111, 115, 116, 101, 100]) (by simp) i9
      have g10 := ln3 (a := [101, 110, 116, 114, 105, 101, 115]) (b := Lib.itoa s.ents.length) (c := showF (debF s.ents)) (by simp) (by have := itoa_le i10; omega) (by have := show_le iD; omega)
      have g11 := ln3 (a := [99, 97, 115, 101, 115]) (b := Lib.itoa s.cases.length) (c := Lib.itoa (openN s.cases)) (by simp) (by have := itoa_le i11; omega) (by have := itoa_le iO; omega)
      have b1 := cnt_le (w := [101, 118, 101, 110, 116, 115]) (by simp) i1
      have b2 : (lineF [[99, 108, 111, 115, 101, 100], dateF s.closed]).length ≤ 2003 := line_le (l := [_, _]) (le2 (by simp) (by have := date_le s.closed; omega))
      have b3 := cnt_le (w := [112, 97, 115, 115, 97, 103, 101, 115]) (by simp) i3
      have b4 := cnt_le (w := [114, 101, 106, 101, 99, 116, 115]) (by simp) i4
      have b5 := cnt_le (w := [116, 114, 105, 112, 115]) (by simp) i5
      have b6 := cnt_le (w := [115, 116, 97, 121, 115]) (by simp) i6
      have b7 : (lineF [[99, 104, 97, 114, 103, 101, 115], Lib.itoa s.chs.length, showF (sumC s.chs)]).length ≤ 3004 := line_le (l := [_, _, _]) (le3 (by simp) (by have := itoa_le i7; omega) (by have := show_le iS; omega))
      have b8 := cnt_le (w := [101, 120, 99, 108, 117, 115, 105, 111, 110, 115]) (by simp) i8
      have b9 := cnt_le (w := [112, 111, 115, 116, 101, 100]) (by simp) i9
      have b10 : (lineF [[101, 110, 116, 114, 105, 101, 115], Lib.itoa s.ents.length, showF (debF s.ents)]).length ≤ 3004 := line_le (l := [_, _, _]) (le3 (by simp) (by have := itoa_le i10; omega) (by have := show_le iD; omega))
      have b11 : (lineF [[99, 97, 115, 101, 115], Lib.itoa s.cases.length, Lib.itoa (openN s.cases)]).length ≤ 3004 := line_le (l := [_, _, _]) (le3 (by simp) (by have := itoa_le i11; omega) (by have := itoa_le iO; omega))
      have t1 := @tdate_at s.closed
      have t2 := tsum_at (f := s.cf) (l := s.chs) (by have := hsm.chs; omega)
      have t3 := mshow_at iS
      have t4 := mshow_at iD
      generalize totRep s = T at *
      generalize cntF [101, 118, 101, 110, 116, 115] s.count = L1 at *
      generalize lineF [[99, 108, 111, 115, 101, 100], dateF s.closed] = L2 at *
      generalize cntF [112, 97, 115, 115, 97, 103, 101, 115] s.ps.length = L3 at *
      generalize cntF [114, 101, 106, 101, 99, 116, 115] s.rs.length = L4 at *
      generalize cntF [116, 114, 105, 112, 115] s.ts.length = L5 at *
      generalize cntF [115, 116, 97, 121, 115] s.ss.length = L6 at *
      generalize lineF [[99, 104, 97, 114, 103, 101, 115], Lib.itoa s.chs.length, showF (sumC s.chs)] = L7 at *
      generalize cntF [101, 120, 99, 108, 117, 115, 105, 111, 110, 115] s.xs.length = L8 at *
      generalize cntF [112, 111, 115, 116, 101, 100] s.ds.length = L9 at *
      generalize lineF [[101, 110, 116, 114, 105, 101, 115], Lib.itoa s.ents.length, showF (debF s.ents)] = L10 at *
      generalize lineF [[99, 97, 115, 101, 115], Lib.itoa s.cases.length, Lib.itoa (openN s.cases)] = L11 at *
      have k1 : (L1.length + L2.length ≤ 4611686018427387904) = True := eq_true (by omega)
      have k2 : (L3.length + L4.length ≤ 4611686018427387904) = True := eq_true (by omega)
      have k3 : ((L3 ++ L4).length + L5.length ≤ 4611686018427387904) = True := eq_true (by simp only [List.length_append]; omega)
      have k4 : ((L3 ++ L4 ++ L5).length + L6.length ≤ 4611686018427387904) = True := eq_true (by simp only [List.length_append]; omega)
      have k5 : ((L1 ++ L2).length + (L3 ++ L4 ++ L5 ++ L6).length ≤ 4611686018427387904) = True := eq_true (by simp only [List.length_append]; omega)
      have k6 : (L7.length + L8.length ≤ 4611686018427387904) = True := eq_true (by omega)
      have k7 : ((L1 ++ L2 ++ (L3 ++ L4 ++ L5 ++ L6)).length + (L7 ++ L8).length ≤ 4611686018427387904) = True := eq_true (by simp only [List.length_append]; omega)
      have k8 : (L9.length + L10.length ≤ 4611686018427387904) = True := eq_true (by omega)
      have k9 : ((L1 ++ L2 ++ (L3 ++ L4 ++ L5 ++ L6) ++ (L7 ++ L8)).length + (L9 ++ L10).length ≤ 4611686018427387904) = True := eq_true (by simp only [List.length_append]; omega)
      have k10 : ((L1 ++ L2 ++ (L3 ++ L4 ++ L5 ++ L6) ++ (L7 ++ L8) ++ (L9 ++ L10)).length + L11.length ≤ 4611686018427387904) = True := eq_true (by simp only [List.length_append]; omega)
      have hc := Nat.zero_add 0
      repeat' (first | (simp only [hc, SX, WH, R, l33, l35, l37, hlt, C, g1, g2, g3, g4, g5, g6, g7, g8, g9, g10, g11, t1, t2, t3, t4, k1, k2, k3, k4, k5, k6, k7, k8, k9, k10, AB, PL, RG, LP, TY, Nat.reduceEqDiff, Nat.reduceAdd, Nat.reduceSub, Nat.reduceMul, Nat.reduceLT, Nat.reduceLeDiff, Nat.reduceMod, Nat.reduceDiv, reduceCtorEq, Int.reduceEq, Int.reduceNe, Int.reduceLT, Int.reduceLE, Int.reduceNeg, Int.reduceToNat, Int.reduceAdd, Int.reduceSub, Int.reduceMul, ↓reduceIte, forall_const, eq_self, ne_eq, Option.some.injEq, beq_self_eq_true]) | refine fin_ndec (fun hc => ?_) (fun hc => ?_) | refine fin_dec (fun hc => ?_) (fun hc => ?_) | refine cnd_ndec (fun hc => ?_) (fun hc => ?_) | refine cnd_dec' (fun hc => ?_) (fun hc => ?_) | refine fin_nsplit (fun hc => ?_) (fun hc => ?_) | refine fin_split (fun hc => ?_) (fun hc => ?_) | refine cnd_nsplit (fun hc => ?_) (fun hc => ?_) | refine cnd_split (fun hc => ?_) (fun hc => ?_) | refine blk_exit_id ?_)
      all_goals simp [hT]
  · cases h

end
end Go.Ab

/-
  What the functions of reports compute: the reference's totals, the report of a case.
-/
namespace Go.Ab
open Go.RowKit Go.Proofs

noncomputable section
open Classical

theorem rttot_ok : PureC Tryd.prog Gt 22 rttot_m := by
  refine pure_of_awp (X := ctx Tryd.prog Gt [(50, rnopen_m), (51, rtrial_m), (52, rcount_m), (37, rtdate_m), (29, rline_m), (31, rfmt_m), (32, rshow_m)]) Tryd.func22 rfl rfl (by kernel_rfl) (by kernel_rfl) (AllOk.cons rnopen_ok (AllOk.cons rtrial_ok (AllOk.cons rcount_ok (AllOk.cons rtdate_ok (AllOk.cons rline_ok (AllOk.cons rfmt_ok (AllOk.cons rshow_ok AllOk.nil))))))).kok ?_
  intro args r h0
  obtain ⟨s, ⟨hs, rfl⟩, h⟩ := mR_inv h0
  refine ⟨Nat.le_of_ble_eq_true rfl, ?_⟩
  split at h
  · rename_i hw
    obtain ⟨hw, hsm⟩ := hw
    cases h
    have hl := hs.len
    have R := And.intro hs.res (And.intro hs.led (And.intro hs.c37 (And.intro hs.c38 (And.intro hs.c28 (And.intro hs.c36 hs.c35)))))
    have f1 := rtrial_at (f := s.ef) (l := s.ents) ⟨hw.enl, fun e he => (hw.enr e he).2.1⟩
    have l37 : ((s.cases.map Cas.row).length : Int) = s.cases.length := by simp
    have l33 : ((s.chs.map Chg.row).length : Int) = s.chs.length := by simp
    have l35 : ((s.ents.map Ent.row).length : Int) = s.ents.length := by simp
    have hcl := hsm.cases
    have hchl := hsm.chs
    have hc := Nat.zero_add 0
    repeat' (first | (simp only [hc, Tryd.f22, SX, WH, hl, R, f1, l33, l37, AB, PL, RG, LP, TY, Nat.reduceEqDiff, Nat.reduceAdd, Nat.reduceSub, Nat.reduceMul, Nat.reduceLT, Nat.reduceLeDiff, Nat.reduceMod, Nat.reduceDiv, reduceCtorEq, Int.reduceEq, Int.reduceNe, Int.reduceLT, Int.reduceLE, Int.reduceNeg, Int.reduceToNat, Int.reduceAdd, Int.reduceSub, Int.reduceMul, ↓reduceIte, forall_const, eq_self, ne_eq, Option.some.injEq, beq_self_eq_true]) | refine fin_ndec (fun hc => ?_) (fun hc => ?_) | refine fin_dec (fun hc => ?_) (fun hc => ?_) | refine cnd_ndec (fun hc => ?_) (fun hc => ?_) | refine cnd_dec' (fun hc => ?_) (fun hc => ?_) | refine fin_nsplit (fun hc => ?_) (fun hc => ?_) | refine fin_split (fun hc => ?_) (fun hc => ?_) | refine cnd_nsplit (fun hc => ?_) (fun hc => ?_) | refine cnd_split (fun hc => ?_) (fun hc => ?_) | refine blk_exit_id ?_)
    refine awp_loop (σ := Nat) (fun j => j ≤ s.chs.length) (fun j => ⟨[(6, AV.i j), (4, AV.i (sumC (s.chs.take j))), (5, AV.i 0), (3, .v (.c (.ptr 1 0))), (1, .v (.c (.ptr 0 0)))],
      [.box (s.cells.map .d), .box [.d (.sl s.psf s.ps), .d (.sl s.rsf s.rs), .d (.sl s.tsf s.ts), .d (.sl s.ssf s.ss), .d (.sl s.cf (s.chs.map Chg.row)), .d (.sl s.xsf s.xs)]]⟩) (fun j => s.chs.length - j) 0 (Wk.sub' (by simp [subT, look, sumC]) rfl) (by simp) ?_
    intro i hi
    by_cases hil : i < s.chs.length
    · have e1 : (s.chs.map Chg.row)[i]? = some s.chs[i].row := by simp [hil]
      have hlt : ((i : Int) < (s.chs.length : Int)) = True := eq_true (by omega)
      have hw1 := wI (n := (i : Int) + 1) (by omega) (by omega)
      have hstep : sumC (s.chs.take (i + 1)) = W (sumC (s.chs.take i) + s.chs[i].cents) := by rw [List.take_succ_eq_append_getElem hil, sum_snoc]
      generalize s.chs[i] = y at *
      simp only [Chg.row] at e1
      have hc := Nat.zero_add 0
      repeat' (first | (simp only [hc, SX, WH, l33, e1, hlt, nn, hw1, AB, PL, RG, LP, TY, Nat.reduceEqDiff, Nat.reduceAdd, Nat.reduceSub, Nat.reduceMul, Nat.reduceLT, Nat.reduceLeDiff, Nat.reduceMod, Nat.reduceDiv, reduceCtorEq, Int.reduceEq, Int.reduceNe, Int.reduceLT, Int.reduceLE, Int.reduceNeg, Int.reduceToNat, Int.reduceAdd, Int.reduceSub, Int.reduceMul, ↓reduceIte, forall_const, eq_self, ne_eq, Option.some.injEq, beq_self_eq_true]) | refine fin_ndec (fun hc => ?_) (fun hc => ?_) | refine fin_dec (fun hc => ?_) (fun hc => ?_) | refine cnd_ndec (fun hc => ?_) (fun hc => ?_) | refine cnd_dec' (fun hc => ?_) (fun hc => ?_) | refine fin_nsplit (fun hc => ?_) (fun hc => ?_) | refine fin_split (fun hc => ?_) (fun hc => ?_) | refine cnd_nsplit (fun hc => ?_) (fun hc => ?_) | refine cnd_split (fun hc => ?_) (fun hc => ?_) | refine blk_exit_id ?_)
      exact lp_next (i + 1) (Wk.sub' (by simp [subT, look, hstep]) rfl) (by omega) (by omega)
    have hlt : ((i : Int) < (s.chs.length : Int)) = False := eq_false (by omega)
    rw [List.take_of_length_le (by omega)]
    have hc := Nat.zero_add 0
    repeat' (first | (simp only [hc, SX, WH, R, l33, l37, hlt, AB, PL, RG, LP, TY, Nat.reduceEqDiff, Nat.reduceAdd, Nat.reduceSub, Nat.reduceMul, Nat.reduceLT, Nat.reduceLeDiff, Nat.reduceMod, Nat.reduceDiv, reduceCtorEq, Int.reduceEq, Int.reduceNe, Int.reduceLT, Int.reduceLE, Int.reduceNeg, Int.reduceToNat, Int.reduceAdd, Int.reduceSub, Int.reduceMul, ↓reduceIte, forall_const, eq_self, ne_eq, Option.some.injEq, beq_self_eq_true]) | refine fin_ndec (fun hc => ?_) (fun hc => ?_) | refine fin_dec (fun hc => ?_) (fun hc => ?_) | refine cnd_ndec (fun hc => ?_) (fun hc => ?_) | refine cnd_dec' (fun hc => ?_) (fun hc => ?_) | refine fin_nsplit (fun hc => ?_) (fun hc => ?_) | refine fin_split (fun hc => ?_) (fun hc => ?_) | refine cnd_nsplit (fun hc => ?_) (fun hc => ?_) | refine cnd_split (fun hc => ?_) (fun hc => ?_) | refine blk_exit_id ?_)
    refine awp_loop (σ := Nat) (fun j => j ≤ s.cases.length) (fun j => ⟨[(7, AV.i j), (5, AV.i (openN (s.cases.take j))), (4, AV.i (sumC s.chs)), (3, .v (.c (.ptr 1 0))), (1, .v (.c (.ptr 0 0)))],
      [.box (s.cells.map .d), .box [.d (.sl s.psf s.ps), .d (.sl s.rsf s.rs), .d (.sl s.tsf s.ts), .d (.sl s.ssf s.ss), .d (.sl s.cf (s.chs.map Chg.row)), .d (.sl s.xsf s.xs)]]⟩) (fun j => s.cases.length - j) 0 (Wk.sub' (by simp [subT, look, openN]) rfl) (by simp) ?_
    intro j hj
    by_cases hjl : j < s.cases.length
    · have e1 : (s.cases.map Cas.row)[j]? = some s.cases[j].row := by simp [hjl]
      have hlt : ((j : Int) < (s.cases.length : Int)) = True := eq_true (by omega)
      have hw1 := wI (n := (j : Int) + 1) (by omega) (by omega)
      have hstep : s.cases.take (j + 1) = s.cases.take j ++ [s.cases[j]] := List.take_succ_eq_append_getElem hjl
      have hol := open_le (s.cases.take j)
      rw [List.length_take] at hol
      have hw2 := wI (n := (openN (s.cases.take j) : Int) + 1) (by omega) (by omega)
      generalize s.cases[j] = y at *
      have g1 := @rnopen_at y
      simp only [Cas.row] at e1 g1
      cases hy : openB y.stage with
      | true =>
        have q := open_snoc_t (l := s.cases.take j) hy
        rw [← hstep] at q
        rw [hy] at g1
        have hc := Nat.zero_add 0
        repeat' (first | (simp only [hc, SX, WH, R, l37, e1, hlt, nn, hw1, hw2, g1, AB, PL, RG, LP, TY, Nat.reduceEqDiff, Nat.reduceAdd, Nat.reduceSub, Nat.reduceMul, Nat.reduceLT, Nat.reduceLeDiff, Nat.reduceMod, Nat.reduceDiv, reduceCtorEq, Int.reduceEq, Int.reduceNe, Int.reduceLT, Int.reduceLE, Int.reduceNeg, Int.reduceToNat, Int.reduceAdd, Int.reduceSub, Int.reduceMul, ↓reduceIte, forall_const, eq_self, ne_eq, Option.some.injEq, beq_self_eq_true]) | refine fin_ndec (fun hc => ?_) (fun hc => ?_) | refine fin_dec (fun hc => ?_) (fun hc => ?_) | refine cnd_ndec (fun hc => ?_) (fun hc => ?_) | refine cnd_dec' (fun hc => ?_) (fun hc => ?_) | refine fin_nsplit (fun hc => ?_) (fun hc => ?_) | refine fin_split (fun hc => ?_) (fun hc => ?_) | refine cnd_nsplit (fun hc => ?_) (fun hc => ?_) | refine cnd_split (fun hc => ?_) (fun hc => ?_) | refine blk_exit_id ?_)
        exact lp_next (j + 1) (Wk.sub' (by simp [subT, look, q]) rfl) (by omega) (by omega)
      | false =>
        have q := open_snoc_f (l := s.cases.take j) hy
        rw [← hstep] at q
        rw [hy] at g1
        have hc := Nat.zero_add 0
        repeat' (first | (simp only [hc, SX, WH, R, l37, e1, hlt, nn, hw1, hw2, g1, AB, PL, RG, LP, TY, Nat.reduceEqDiff, Nat.reduceAdd, Nat.reduceSub, Nat.reduceMul, Nat.reduceLT, Nat.reduceLeDiff, Nat.reduceMod, Nat.reduceDiv, reduceCtorEq, Int.reduceEq, Int.reduceNe, Int.reduceLT, Int.reduceLE, Int.reduceNeg, Int.reduceToNat, Int.reduceAdd, Int.reduceSub, Int.reduceMul, ↓reduceIte, forall_const, eq_self, ne_eq, Option.some.injEq, beq_self_eq_true]) | refine fin_ndec (fun hc => ?_) (fun hc => ?_) | refine fin_dec (fun hc => ?_) (fun hc => ?_) | refine cnd_ndec (fun hc => ?_) (fun hc => ?_) | refine cnd_dec' (fun hc => ?_) (fun hc => ?_) | refine fin_nsplit (fun hc => ?_) (fun hc => ?_) | refine fin_split (fun hc => ?_) (fun hc => ?_) | refine cnd_nsplit (fun hc => ?_) (fun hc => ?_) | refine cnd_split (fun hc => ?_) (fun hc => ?_) | refine blk_exit_id ?_)
        exact lp_next (j + 1) (Wk.sub' (by simp [subT, look, q]) rfl) (by omega) (by omega)
    · have hlt : ((j : Int) < (s.cases.length : Int)) = False := eq_false (by omega)
      have et : s.cases.take j = s.cases := List.take_of_length_le (by omega)
      simp only [et]
      have hT : totRep s = cntF [101, 118, 101, 110, 116, 115] s.count ++ lineF [[99, 108, 111, 115, 101, 100], dateF s.closed] ++ cntF [112, 97, 115, 115, 97, 103, 101, 115] s.ps.length ++ cntF [114, 101, 106, 101, 99, 116, 115] s.rs.length ++ cntF [116, 114, 105, 112, 115] s.ts.length ++ cntF [115, 116, 97, 121, 115] s.ss.length
        ++ lineF [[99, 104, 97, 114, 103, 101, 115], Lib.itoa s.chs.length, showF (sumC s.chs)] ++ cntF [101, 120, 99, 108, 117, 115, 105, 111, 110, 115] s.xs.length ++ cntF [112, 111, 115, 116, 101, 100] s.ds.length
        ++ lineF [[101, 110, 116, 114, 105, 101, 115], Lib.itoa s.ents.length, showF (debF s.ents)] ++ lineF [[99, 97, 115, 101, 115], Lib.itoa s.cases.length, Lib.itoa (openN s.cases)] := rfl
      have hol := open_le s.cases
      have iO := inI_len (n := openN s.cases) (by omega)
      have i1 := hw.cou
      have i3 := inI_len hw.psl
      have i4 := inI_len hw.rsl
      have i5 := inI_len hw.tsl
      have i6 := inI_len hw.ssl
      have i7 := inI_len hw.chl
      have i8 := inI_len hw.xsl
      have i9 := inI_len hw.dsl
      have i10 := inI_len hw.enl
      have i11 := inI_len hw.cal
      have iS := inI_sum s.chs
      have iD := inI_deb s.ents
      have C := And.intro (rfmt_at i1) (And.intro (rfmt_at i3) (And.intro (rfmt_at i4) (And.intro (rfmt_at i5) (And.intro (rfmt_at i6) (And.intro (rfmt_at i7) (And.intro (rfmt_at i8) (And.intro (rfmt_at i9) (And.intro (rfmt_at i10) (And.intro (rfmt_at i11) (rfmt_at iO))))))))))
      have g1 := rcnt_at (w := [101, 118, 101, 110, 116, 115]) (by simp) i1
      have g2 := rln2 (a := [99, 108, 111, 115, 101, 100]) (b := dateF s.closed) (by simp) (by have := date_le s.closed; omega)
      have g3 := rcnt_at (w := [112, 97, 115, 115, 97, 103, 101, 115]) (by simp) i3
      have g4 := rcnt_at (w := [114, 101, 106, 101, 99, 116, 115]) (by simp) i4
      have g5 := rcnt_at (w := [116, 114, 105, 112, 115]) (by simp) i5
      have g6 := rcnt_at (w := [115, 116, 97, 121, 115]) (by simp) i6
      have g7 := rln3 (a := [99, 104, 97, 114, 103, 101, 115]) (b := Lib.itoa s.chs.length) (c := showF (sumC s.chs)) (by simp) (by have := itoa_le i7; omega) (by have := show_le iS; omega)
      have g8 := rcnt_at (w := [101, 120, 99, 108, 117, 115, 105, 111, 110, 115]) (by simp) i8
      have g9 := rcnt_at (w := [112, 111, 115, 116, 101, 100]) (by simp) i9
      have g10 := rln3 (a := [101, 110, 116, 114, 105, 101, 115]) (b := Lib.itoa s.ents.length) (c := showF (debF s.ents)) (by simp) (by have := itoa_le i10; omega) (by have := show_le iD; omega)
      have g11 := rln3 (a := [99, 97, 115, 101, 115]) (b := Lib.itoa s.cases.length) (c := Lib.itoa (openN s.cases)) (by simp) (by have := itoa_le i11; omega) (by have := itoa_le iO; omega)
      have b1 := cnt_le (w := [101, 118, 101, 110, 116, 115]) (by simp) i1
      have b2 : (lineF [[99, 108, 111, 115, 101, 100], dateF s.closed]).length ≤ 2003 := line_le (l := [_, _]) (le2 (by simp) (by have := date_le s.closed; omega))
      have b3 := cnt_le (w := [112, 97, 115, 115, 97, 103, 101, 115]) (by simp) i3
      have b4 := cnt_le (w := [114, 101, 106, 101, 99, 116, 115]) (by simp) i4
      have b5 := cnt_le (w := [116, 114, 105, 112, 115]) (by simp) i5
      have b6 := cnt_le (w := [115, 116, 97, 121, 115]) (by simp) i6
      have b7 : (lineF [[99, 104, 97, 114, 103, 101, 115], Lib.itoa s.chs.length, showF (sumC s.chs)]).length ≤ 3004 := line_le (l := [_, _, _]) (le3 (by simp) (by have := itoa_le i7; omega) (by have := show_le iS; omega))
      have b8 := cnt_le (w := [101, 120, 99, 108, 117, 115, 105, 111, 110, 115]) (by simp) i8
      have b9 := cnt_le (w := [112, 111, 115, 116, 101, 100]) (by simp) i9
      have b10 : (lineF [[101, 110, 116, 114, 105, 101, 115], Lib.itoa s.ents.length, showF (debF s.ents)]).length ≤ 3004 := line_le (l := [_, _, _]) (le3 (by simp) (by have := itoa_le i10; omega) (by have := show_le iD; omega))
      have b11 : (lineF [[99, 97, 115, 101, 115], Lib.itoa s.cases.length, Lib.itoa (openN s.cases)]).length ≤ 3004 := line_le (l := [_, _, _]) (le3 (by simp) (by have := itoa_le i11; omega) (by have := itoa_le iO; omega))
      have t1 := @rtdate_at s.closed
      have t3 := rshow_at iS
      have t4 := rshow_at iD
      generalize totRep s = T at *
      generalize cntF [101, 118, 101, 110, 116, 115] s.count = L1 at *
      generalize lineF [[99, 108, 111, 115, 101, 100], dateF s.closed] = L2 at *
      generalize cntF [112, 97, 115, 115, 97, 103, 101, 115] s.ps.length = L3 at *
      generalize cntF [114, 101, 106, 101, 99, 116, 115] s.rs.length = L4 at *
      generalize cntF [116, 114, 105, 112, 115] s.ts.length = L5 at *
      generalize cntF [115, 116, 97, 121, 115] s.ss.length = L6 at *
      generalize lineF [[99, 104, 97, 114, 103, 101, 115], Lib.itoa s.chs.length, showF (sumC s.chs)] = L7 at *
      generalize cntF [101, 120, 99, 108, 117, 115, 105, 111, 110, 115] s.xs.length = L8 at *
      generalize cntF [112, 111, 115, 116, 101, 100] s.ds.length = L9 at *
      generalize lineF [[101, 110, 116, 114, 105, 101, 115], Lib.itoa s.ents.length, showF (debF s.ents)] = L10 at *
      generalize lineF [[99, 97, 115, 101, 115], Lib.itoa s.cases.length, Lib.itoa (openN s.cases)] = L11 at *
      have k1 : (L1.length + L2.length ≤ 4611686018427387904) = True := eq_true (by omega)
      have k2 : ((L1 ++ L2).length + L3.length ≤ 4611686018427387904) = True := eq_true (by simp only [List.length_append]; omega)
      have k3 : ((L1 ++ L2 ++ L3).length + L4.length ≤ 4611686018427387904) = True := eq_true (by simp only [List.length_append]; omega)
      have k4 : ((L1 ++ L2 ++ L3 ++ L4).length + L5.length ≤ 4611686018427387904) = True := eq_true (by simp only [List.length_append]; omega)
      have k5 : ((L1 ++ L2 ++ L3 ++ L4 ++ L5).length + L6.length ≤ 4611686018427387904) = True := eq_true (by simp only [List.length_append]; omega)
      have k6 : ((L1 ++ L2 ++ L3 ++ L4 ++ L5 ++ L6).length + L7.length ≤ 4611686018427387904) = True := eq_true (by simp only [List.length_append]; omega)
      have k7 : ((L1 ++ L2 ++ L3 ++ L4 ++ L5 ++ L6 ++ L7).length + L8.length ≤ 4611686018427387904) = True := eq_true (by simp only [List.length_append]; omega)
      have k8 : ((L1 ++ L2 ++ L3 ++ L4 ++ L5 ++ L6 ++ L7 ++ L8).length + L9.length ≤ 4611686018427387904) = True := eq_true (by simp only [List.length_append]; omega)
      have k9 : ((L1 ++ L2 ++ L3 ++ L4 ++ L5 ++ L6 ++ L7 ++ L8 ++ L9).length + L10.length ≤ 4611686018427387904) = True := eq_true (by simp only [List.length_append]; omega)
      have k10 : ((L1 ++ L2 ++ L3 ++ L4 ++ L5 ++ L6 ++ L7 ++ L8 ++ L9 ++ L10).length + L11.length ≤ 4611686018427387904) = True := eq_true (by simp only [List.length_append]; omega)
      have hc := Nat.zero_add 0
      repeat' (first | (simp only [hc, SX, WH, hl, R, l33, l35, l37, hlt, f1, C, g1, g2, g3, g4, g5, g6, g7, g8, g9, g10, g11, t1, t3, t4, k1, k2, k3, k4, k5, k6, k7, k8, k9, k10, AB, PL, RG, LP, TY, Nat.reduceEqDiff, Nat.reduceAdd, Nat.reduceSub, Nat.reduceMul, Nat.reduceLT, Nat.reduceLeDiff, Nat.reduceMod, Nat.reduceDiv, reduceCtorEq, Int.reduceEq, Int.reduceNe, Int.reduceLT, Int.reduceLE, Int.reduceNeg, Int.reduceToNat, Int.reduceAdd, Int.reduceSub, Int.reduceMul, ↓reduceIte, forall_const, eq_self, ne_eq, Option.some.injEq, beq_self_eq_true]) | refine fin_ndec (fun hc => ?_) (fun hc => ?_) | refine fin_dec (fun hc => ?_) (fun hc => ?_) | refine cnd_ndec (fun hc => ?_) (fun hc => ?_) | refine cnd_dec' (fun hc => ?_) (fun hc => ?_) | refine fin_nsplit (fun hc => ?_) (fun hc => ?_) | refine fin_split (fun hc => ?_) (fun hc => ?_) | refine cnd_nsplit (fun hc => ?_) (fun hc => ?_) | refine cnd_split (fun hc => ?_) (fun hc => ?_) | refine blk_exit_id ?_)
      all_goals simp [hT]
  · cases h

theorem ttot_at {s : St} (h : s.is) (hw : s.Wf) (hs : s.Small) : ttot_m [.agg s.cells] = some [.s (totRep s)] := by rw [ttot_m, stA_eq h, if_pos ⟨hw, hs⟩]
theorem rttot_at {s : St} (h : s.is) (hw : s.Wf) (hs : s.Small) : rttot_m [.agg s.cells] = some [.s (totRep s)] := by rw [rttot_m, stA_eq h, if_pos ⟨hw, hs⟩]

end
end Go.Ab
