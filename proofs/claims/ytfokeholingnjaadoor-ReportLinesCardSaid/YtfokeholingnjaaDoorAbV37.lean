/-
  Texts of the layer and of the laws, put together: AbQ14, AbQ15. No law is stated here.
-/
import Derived.Test.YtfokeholingnjaaDoorAbV36
set_option linter.unusedSimpArgs false
set_option linter.unusedVariables false
set_option maxRecDepth 100000

/-
  What the functions of reports compute: the report of a case.
-/
namespace Go.Ab
open Go.RowKit Go.Proofs

noncomputable section
open Classical

def foundK (l : List Cas) (id : List UInt8) : Option Cas := l.find? fun x => x.id == id
def caseOut (s : St) (id : List UInt8) : List PA := match foundK s.cases id with
  | none => [.s [], .i 28]
  | some x => [.s (caseRep s.law s.hol x), .i 0]
theorem foundK_none {l : List Cas} {id : List UInt8} (h : ∀ x ∈ l, x.id ≠ id) : foundK l id = none := by
  unfold foundK
  rw [List.find?_eq_none]
  intro x hx
  simpa using h x hx
theorem foundK_some {l : List Cas} {id : List UInt8} {j : Nat} (hj : j < l.length) (h : ∀ x ∈ l.take j, x.id ≠ id) (hx : l[j].id = id) : foundK l id = some l[j] := by
  unfold foundK
  conv => lhs; rw [← List.take_append_drop j l, List.drop_eq_getElem_cons hj]
  rw [List.find?_append, List.find?_eq_none.2 (fun x hx => by simpa using h x hx), Option.none_or, List.find?_cons_of_pos (by simpa using hx)]

def tcase_m : List PA → Option (List PA) := mR stS fun p => if p.1.Wf ∧ p.1.Small then some (caseOut p.1 p.2) else none
def rtcase_m : List PA → Option (List PA) := mR stS fun p => if p.1.Wf ∧ p.1.Small then some (caseOut p.1 p.2) else none

theorem word_at {n : Int} {l : List (List UInt8)} (h : l.length ≤ 1000) : word_m [.c (.int .i64 n), .c (.sl true (l.map rowS))] = some [.s (wordF n l)] := by
  rw [word_m, show ([.c (.int .i64 n), .c (.sl true (l.map rowS))] : List PA) = encWd (n, true, l) from rfl, mE_eq encWd_inj, if_pos (decide_eq_true h)]
theorem rword_at {n : Int} {l : List (List UInt8)} (h : l.length ≤ 1000) : rword_m [.c (.sl true (l.map rowS)), .c (.int .i64 n)] = some [.s (wordF n l)] := by
  rw [rword_m, show ([.c (.sl true (l.map rowS)), .c (.int .i64 n)] : List PA) = encDw (n, true, l) from rfl, mE_eq encDw_inj, if_pos (decide_eq_true h)]
theorem word_le {n : Int} {l : List (List UInt8)} (h : ∀ w ∈ l, w.length ≤ 1000) : (wordF n l).length ≤ 1000 := by
  unfold wordF
  split
  · simp
  · rename_i hn
    have hk : n.toNat - 1 < l.length := by omega
    rw [List.getD_eq_getElem?_getD, List.getElem?_eq_getElem hk]
    exact h _ (List.getElem_mem hk)
theorem stage_le : ∀ w ∈ stageW, w.length ≤ 1000 := by unfold stageW; simp
theorem appeal_le : ∀ w ∈ appealW, w.length ≤ 1000 := by unfold appealW; simp

theorem tcase_ok : PureC Tryd.prog Gt 19 tcase_m := by
  refine pure_of_awp (X := ctx Tryd.prog Gt [(26, tesc_m), (25, line_m), (44, word_m), (33, tdate_m), (28, mshow_m), (45, ndue_m)]) Tryd.func19 rfl rfl (by kernel_rfl) (by kernel_rfl) (AllOk.cons tesc_ok (AllOk.cons line_ok (AllOk.cons word_ok (AllOk.cons tdate_ok (AllOk.cons mshow_ok (AllOk.cons ndue_ok AllOk.nil)))))).kok ?_
  intro args r h0
  obtain ⟨⟨s, nm⟩, ⟨hs, rfl⟩, h⟩ := mR_inv h0
  refine ⟨Nat.le_of_ble_eq_true rfl, ?_⟩
  split at h
  · rename_i hw
    obtain ⟨hw, hsm⟩ := hw
    dsimp only at hs hw hsm h ⊢
    cases h
    have hl := hs.len
    have R := And.intro hs.lw (And.intro hs.c19 hs.c37)
    have l37 : ((s.cases.map Cas.row).length : Int) = s.cases.length := by simp
    have hcl := hsm.cases
    have hno := @foundK_none s.cases nm
    have hyes := @foundK_some s.cases nm
    unfold caseOut
    generalize foundK s.cases nm = K at *
    have hc := Nat.zero_add 0
    repeat' (first | (simp only [hc, Tryd.f19, SX, WH, hl, R, l37, AB, PL, RG, LP, TY, Nat.reduceEqDiff, Nat.reduceAdd, Nat.reduceSub, Nat.reduceMul, Nat.reduceLT, Nat.reduceLeDiff, Nat.reduceMod, Nat.reduceDiv, reduceCtorEq, Int.reduceEq, Int.reduceNe, Int.reduceLT, Int.reduceLE, Int.reduceNeg, Int.reduceToNat, Int.reduceAdd, Int.reduceSub, Int.reduceMul, ↓reduceIte, forall_const, eq_self, ne_eq, Option.some.injEq, beq_self_eq_true]) | refine fin_ndec (fun hc => ?_) (fun hc => ?_) | refine fin_dec (fun hc => ?_) (fun hc => ?_) | refine cnd_ndec (fun hc => ?_) (fun hc => ?_) | refine cnd_dec' (fun hc => ?_) (fun hc => ?_) | refine fin_nsplit (fun hc => ?_) (fun hc => ?_) | refine fin_split (fun hc => ?_) (fun hc => ?_) | refine cnd_nsplit (fun hc => ?_) (fun hc => ?_) | refine cnd_split (fun hc => ?_) (fun hc => ?_) | refine blk_exit_id ?_)
    refine awp_loop (σ := Nat) (fun j => j ≤ s.cases.length ∧ ∀ x ∈ s.cases.take j, x.id ≠ nm) (fun j => ⟨[(15, AV.i j), (14, AV.i s.cases.length), (13, AV.d (.sl s.kf (s.cases.map Cas.row))), (2, .v (.c (.ptr 0 0))), (1, AV.s nm)], [.box (s.cells.map .d)]⟩) (fun j => s.cases.length - j) 0 (Wk.sub' (by simp [subT, look]) rfl) (by simp) ?_
    rintro j ⟨hj, hall⟩
    by_cases hjl : j < s.cases.length
    · have e1 : (s.cases.map Cas.row)[j]? = some s.cases[j].row := by simp [hjl]
      have hlt : ((j : Int) < (s.cases.length : Int)) = True := eq_true (by omega)
      have hw1 := wI (n := (j : Int) + 1) (by omega) (by omega)
      have hmem := List.getElem_mem hjl
      have hs2 := all_snoc (P := fun x : Cas => x.id ≠ nm) hjl hall
      have hy := hyes hjl hall
      obtain ⟨m1, m2, m3⟩ := Cas.sm_iff.1 (hsm.csm _ hmem)
      obtain ⟨_, n2, n3, n4, n5, n6, n7⟩ := hw.car _ hmem
      generalize s.cases[j] = x at *
      by_cases hx : x.id = nm
      · have hK := hy hx
        subst hK
        dsimp only
        have hb : (x.id == nm) = true := by simp [hx]
        have f1 := tesc_at m1
        have f2 := tesc_at m2
        have f3 := tesc_at m3
        have q1 := esc_le m1
        have q2 := esc_le m2
        have q3 := esc_le m3
        have f4 := ln4 (a := [99, 97, 115, 101]) (b := escF x.id) (c := escF x.plate) (d := escF x.key) (by simp) (by omega) (by omega) (by omega)
        have b4 : (lineF [[99, 97, 115, 101], escF x.id, escF x.plate, escF x.key]).length ≤ 4005 := line_le (l := [_, _, _, _]) (le4 (by simp) (by omega) (by omega) (by omega))
        have f5 := word_at (n := x.stage) (l := stageW) (by unfold stageW; simp)
        have q5 := word_le (n := x.stage) stage_le
        have f6 := @tdate_at x.since
        have q6 := date_le x.since
        have f7 := ln3 (a := [115, 116, 97, 103, 101]) (b := wordF x.stage stageW) (c := dateF x.since) (by simp) (by omega) (by omega)
        have b7 : (lineF [[115, 116, 97, 103, 101], wordF x.stage stageW, dateF x.since]).length ≤ 3004 := line_le (l := [_, _, _]) (le3 (by simp) (by omega) (by omega))
        have f8 := mshow_at n4
        have f9 := mshow_at n5
        have q8 := show_le n4
        have q9 := show_le n5
        have f10 := ln2 (a := [111, 119, 101, 100]) (b := showF x.owed) (by simp) (by omega)
        have f11 := ln2 (a := [112, 97, 105, 100]) (b := showF x.paid) (by simp) (by omega)
        have b10 : (lineF [[111, 119, 101, 100], showF x.owed]).length ≤ 2003 := line_le (l := [_, _]) (le2 (by simp) (by omega))
        have b11 : (lineF [[112, 97, 105, 100], showF x.paid]).length ≤ 2003 := line_le (l := [_, _]) (le2 (by simp) (by omega))
        have f12 := ndue_at (w := s.law) (f := s.hf) (l := s.hol) (x := x) (by have := hsm.hol; omega)
        have f13 := word_at (n := x.ast) (l := appealW) (by unfold appealW; simp)
        have q13 := word_le (n := x.ast) appeal_le
        have hR : caseRep s.law s.hol x = lineF [[99, 97, 115, 101], escF x.id, escF x.plate, escF x.key] ++ lineF [[115, 116, 97, 103, 101], wordF x.stage stageW, dateF x.since] ++ lineF [[111, 119, 101, 100], showF x.owed] ++ lineF [[112, 97, 105, 100], showF x.paid]
          ++ (if (dueF s.law s.hol x).2 = true then lineF [[100, 117, 101], dateF (dueF s.law s.hol x).1] else lineF [[100, 117, 101], [45]])
          ++ (if wordF x.ast appealW ≠ [45] then lineF [[97, 112, 112, 101, 97, 108], wordF x.ast appealW, dateF x.aday] else lineF [[97, 112, 112, 101, 97, 108], [45]]) := rfl
        generalize caseRep s.law s.hol x = RR at *
        generalize hdue : dueF s.law s.hol x = due at *
        obtain ⟨d1, d2⟩ := due
        dsimp only at hR f12
        have f14 := @tdate_at d1
        have q14 := date_le d1
        have f15 := ln2 (a := [100, 117, 101]) (b := dateF d1) (by simp) (by omega)
        have b15 : (lineF [[100, 117, 101], dateF d1]).length ≤ 2003 := line_le (l := [_, _]) (le2 (by simp) (by omega))
        have f16 := ln2 (a := [100, 117, 101]) (b := [45]) (by simp) (by simp)
        have b16 : (lineF [[100, 117, 101], [45]]).length ≤ 2003 := line_le (l := [_, _]) (le2 (by simp) (by simp))
        have f17 := @tdate_at x.aday
        have q17 := date_le x.aday
        generalize hwA : wordF x.ast appealW = wA at *
        have f18 := ln3 (a := [97, 112, 112, 101, 97, 108]) (b := wA) (c := dateF x.aday) (by simp) (by omega) (by omega)
        have b18 : (lineF [[97, 112, 112, 101, 97, 108], wA, dateF x.aday]).length ≤ 3004 := line_le (l := [_, _, _]) (le3 (by simp) (by omega) (by omega))
        have f19 := ln2 (a := [97, 112, 112, 101, 97, 108]) (b := [45]) (by simp) (by simp)
        have b19 : (lineF [[97, 112, 112, 101, 97, 108], [45]]).length ≤ 2003 := line_le (l := [_, _]) (le2 (by simp) (by simp))
        generalize wordF x.stage stageW = wS at *
        generalize lineF [[99, 97, 115, 101], escF x.id, escF x.plate, escF x.key] = qA at *
        generalize lineF [[115, 116, 97, 103, 101], wS, dateF x.since] = qB at *
        generalize lineF [[111, 119, 101, 100], showF x.owed] = qC at *
        generalize lineF [[112, 97, 105, 100], showF x.paid] = qD at *
        simp only [stageW, appealW, List.map_cons, List.map_nil, rowS] at f5 f13
        simp only [Cas.row, Lw.row] at e1 f12
        have k1 : (qA.length + qB.length ≤ 4611686018427387904) = True := eq_true (by omega)
        have k2 : (qC.length + qD.length ≤ 4611686018427387904) = True := eq_true (by omega)
        have k3 : ((qA ++ qB).length + (qC ++ qD).length ≤ 4611686018427387904) = True := eq_true (by simp only [List.length_append]; omega)
        generalize hE : (if d2 = true then lineF [[100, 117, 101], dateF d1] else lineF [[100, 117, 101], [45]]) = qE at hR
        generalize hF : (if wA ≠ [45] then lineF [[97, 112, 112, 101, 97, 108], wA, dateF x.aday] else lineF [[97, 112, 112, 101, 97, 108], [45]]) = qF at hR
        have lE : qE.length ≤ 2003 := by rw [← hE]; split <;> assumption
        have lF : qF.length ≤ 3004 := by rw [← hF]; split <;> omega
        have k4 : ((qA ++ qB ++ (qC ++ qD)).length + qE.length ≤ 4611686018427387904) = True := eq_true (by simp only [List.length_append]; omega)
        have k5 : ((qA ++ qB ++ (qC ++ qD) ++ qE).length + qF.length ≤ 4611686018427387904) = True := eq_true (by simp only [List.length_append]; omega)
        cases d2 with
        | true =>
          rw [if_pos rfl] at hE
          rw [hE] at f15
          by_cases hA : wA = [45]
          · have hA2 : (wA == [45]) = true := by simp [hA]
            rw [if_neg (by simp [hA])] at hF
            rw [hF] at f19
            have hc := Nat.zero_add 0
            repeat' (first | (simp only [hc, SX, WH, hl, R, l37, e1, hlt, nn, hb, f1, f2, f3, f4, f5, f6, f7, f8, f9, f10, f11, f12, f13, f14, f15, f16, f17, f18, f19, k1, k2, k3, k4, k5, hA2, AB, PL, RG, LP, TY, Nat.reduceEqDiff, Nat.reduceAdd, Nat.reduceSub, Nat.reduceMul, Nat.reduceLT, Nat.reduceLeDiff, Nat.reduceMod, Nat.reduceDiv, reduceCtorEq, Int.reduceEq, Int.reduceNe, Int.reduceLT, Int.reduceLE, Int.reduceNeg, Int.reduceToNat, Int.reduceAdd, Int.reduceSub, Int.reduceMul, ↓reduceIte, forall_const, eq_self, ne_eq, Option.some.injEq, beq_self_eq_true]) | refine fin_ndec (fun hc => ?_) (fun hc => ?_) | refine fin_dec (fun hc => ?_) (fun hc => ?_) | refine cnd_ndec (fun hc => ?_) (fun hc => ?_) | refine cnd_dec' (fun hc => ?_) (fun hc => ?_) | refine fin_nsplit (fun hc => ?_) (fun hc => ?_) | refine fin_split (fun hc => ?_) (fun hc => ?_) | refine cnd_nsplit (fun hc => ?_) (fun hc => ?_) | refine cnd_split (fun hc => ?_) (fun hc => ?_) | refine blk_exit_id ?_)
            all_goals simp [hR, DV.i]
          · have hA2 : (wA == [45]) = false := by simpa using hA
            rw [if_pos hA] at hF
            rw [hF] at f18
            have hc := Nat.zero_add 0
            repeat' (first | (simp only [hc, SX, WH, hl, R, l37, e1, hlt, nn, hb, f1, f2, f3, f4, f5, f6, f7, f8, f9, f10, f11, f12, f13, f14, f15, f16, f17, f18, f19, k1, k2, k3, k4, k5, hA2, AB, PL, RG, LP, TY, Nat.reduceEqDiff, Nat.reduceAdd, Nat.reduceSub, Nat.reduceMul, Nat.reduceLT, Nat.reduceLeDiff, Nat.reduceMod, Nat.reduceDiv, reduceCtorEq, Int.reduceEq, Int.reduceNe, Int.reduceLT, Int.reduceLE, Int.reduceNeg, Int.reduceToNat, Int.reduceAdd, Int.reduceSub, Int.reduceMul, ↓reduceIte, forall_const, eq_self, ne_eq, Option.some.injEq, beq_self_eq_true]) | refine fin_ndec (fun hc => ?_) (fun hc => ?_) | refine fin_dec (fun hc => ?_) (fun hc => ?_) | refine cnd_ndec (fun hc => ?_) (fun hc => ?_) | refine cnd_dec' (fun hc => ?_) (fun hc => ?_) | refine fin_nsplit (fun hc => ?_) (fun hc => ?_) | refine fin_split (fun hc => ?_) (fun hc => ?_) | refine cnd_nsplit (fun hc => ?_) (fun hc => ?_) | refine cnd_split (fun hc => ?_) (fun hc => ?_) | refine blk_exit_id ?_)
            all_goals simp [hR, DV.i]
        | false =>
          rw [if_neg (by simp)] at hE
          rw [hE] at f16
          by_cases hA : wA = [45]
          · have hA2 : (wA == [45]) = true := by simp [hA]
            rw [if_neg (by simp [hA])] at hF
            rw [hF] at f19
            have hc := Nat.zero_add 0
            repeat' (first | (simp only [hc, SX, WH, hl, R, l37, e1, hlt, nn, hb, f1, f2, f3, f4, f5, f6, f7, f8, f9, f10, f11, f12, f13, f14, f15, f16, f17, f18, f19, k1, k2, k3, k4, k5, hA2, AB, PL, RG, LP, TY, Nat.reduceEqDiff, Nat.reduceAdd, Nat.reduceSub, Nat.reduceMul, Nat.reduceLT, Nat.reduceLeDiff, Nat.reduceMod, Nat.reduceDiv, reduceCtorEq, Int.reduceEq, Int.reduceNe, Int.reduceLT, Int.reduceLE, Int.reduceNeg, Int.reduceToNat, Int.reduceAdd, Int.reduceSub, Int.reduceMul, ↓reduceIte, forall_const, eq_self, ne_eq, Option.some.injEq, beq_self_eq_true]) | refine fin_ndec (fun hc => ?_) (fun hc => ?_) | refine fin_dec (fun hc => ?_) (fun hc => ?_) | refine cnd_ndec (fun hc => ?_) (fun hc => ?_) | refine cnd_dec' (fun hc => ?_) (fun hc => ?_) | refine fin_nsplit (fun hc => ?_) (fun hc => ?_) | refine fin_split (fun hc => ?_) (fun hc => ?_) | refine cnd_nsplit (fun hc => ?_) (fun hc => ?_) | refine cnd_split (fun hc => ?_) (fun hc => ?_) | refine blk_exit_id ?_)
            all_goals simp [hR, DV.i]
          · have hA2 : (wA == [45]) = false := by simpa using hA
            rw [if_pos hA] at hF
            rw [hF] at f18
            have hc := Nat.zero_add 0
            repeat' (first | (simp only [hc, SX, WH, hl, R, l37, e1, hlt, nn, hb, f1, f2, f3, f4, f5, f6, f7, f8, f9, f10, f11, f12, f13, f14, f15, f16, f17, f18, f19, k1, k2, k3, k4, k5, hA2, AB, PL, RG, LP, TY, Nat.reduceEqDiff, Nat.reduceAdd, Nat.reduceSub, Nat.reduceMul, Nat.reduceLT, Nat.reduceLeDiff, Nat.reduceMod, Nat.reduceDiv, reduceCtorEq, Int.reduceEq, Int.reduceNe, Int.reduceLT, Int.reduceLE, Int.reduceNeg, Int.reduceToNat, Int.reduceAdd, Int.reduceSub, Int.reduceMul, ↓reduceIte, forall_const, eq_self, ne_eq, Option.some.injEq, beq_self_eq_true]) | refine fin_ndec (fun hc => ?_) (fun hc => ?_) | refine fin_dec (fun hc => ?_) (fun hc => ?_) | refine cnd_ndec (fun hc => ?_) (fun hc => ?_) | refine cnd_dec' (fun hc => ?_) (fun hc => ?_) | refine fin_nsplit (fun hc => ?_) (fun hc => ?_) | refine fin_split (fun hc => ?_) (fun hc => ?_) | refine cnd_nsplit (fun hc => ?_) (fun hc => ?_) | refine cnd_split (fun hc => ?_) (fun hc => ?_) | refine blk_exit_id ?_)
            all_goals simp [hR, DV.i]
      · have hb : (x.id == nm) = false := by simpa using hx
        simp only [Cas.row] at e1
        have hc := Nat.zero_add 0
        repeat' (first | (simp only [hc, SX, WH, l37, e1, hlt, nn, hb, hw1, AB, PL, RG, LP, TY, Nat.reduceEqDiff, Nat.reduceAdd, Nat.reduceSub, Nat.reduceMul, Nat.reduceLT, Nat.reduceLeDiff, Nat.reduceMod, Nat.reduceDiv, reduceCtorEq, Int.reduceEq, Int.reduceNe, Int.reduceLT, Int.reduceLE, Int.reduceNeg, Int.reduceToNat, Int.reduceAdd, Int.reduceSub, Int.reduceMul, ↓reduceIte, forall_const, eq_self, ne_eq, Option.some.injEq, beq_self_eq_true]) | refine fin_ndec (fun hc => ?_) (fun hc => ?_) | refine fin_dec (fun hc => ?_) (fun hc => ?_) | refine cnd_ndec (fun hc => ?_) (fun hc => ?_) | refine cnd_dec' (fun hc => ?_) (fun hc => ?_) | refine fin_nsplit (fun hc => ?_) (fun hc => ?_) | refine fin_split (fun hc => ?_) (fun hc => ?_) | refine cnd_nsplit (fun hc => ?_) (fun hc => ?_) | refine cnd_split (fun hc => ?_) (fun hc => ?_) | refine blk_exit_id (i := 1) ?_)
        exact lp_next (j + 1) (Wk.cutk (k := 1) (by simp) (by simp) (by simp) (by simp [subT, look]) (by first | rfl | simp [AV.low, V.low, C1.low]) (by first | rfl | simp [Ob.low, C1.low, all_low_d])) ⟨by omega, hs2 hx⟩ (by omega)
    · have hlt : ((j : Int) < (s.cases.length : Int)) = False := eq_false (by omega)
      rw [List.take_of_length_le (by omega)] at hall
      have hK := hno hall
      subst hK
      have hc := Nat.zero_add 0
      repeat' (first | (simp only [hc, SX, l37, hlt, AB, PL, RG, LP, TY, Nat.reduceEqDiff, Nat.reduceAdd, Nat.reduceSub, Nat.reduceMul, Nat.reduceLT, Nat.reduceLeDiff, Nat.reduceMod, Nat.reduceDiv, reduceCtorEq, Int.reduceEq, Int.reduceNe, Int.reduceLT, Int.reduceLE, Int.reduceNeg, Int.reduceToNat, Int.reduceAdd, Int.reduceSub, Int.reduceMul, ↓reduceIte, forall_const, eq_self, ne_eq, Option.some.injEq, beq_self_eq_true]) | refine fin_ndec (fun hc => ?_) (fun hc => ?_) | refine fin_dec (fun hc => ?_) (fun hc => ?_) | refine cnd_ndec (fun hc => ?_) (fun hc => ?_) | refine cnd_dec' (fun hc => ?_) (fun hc => ?_) | refine fin_nsplit (fun hc => ?_) (fun hc => ?_) | refine fin_split (fun hc => ?_) (fun hc => ?_) | refine cnd_nsplit (fun hc => ?_) (fun hc => ?_) | refine cnd_split (fun hc => ?_) (fun hc => ?_) | refine blk_exit_id ?_)
      all_goals simp [DV.i]
  · cases h

end
end Go.Ab

/-
  What the functions of reports compute: the reference's report of a case; lines of fields.
-/
namespace Go.Ab
open Go.RowKit Go.Proofs

noncomputable section
open Classical

theorem rtcase_ok : PureC Tryd.prog Gt 20 rtcase_m := by
  refine pure_of_awp (X := ctx Tryd.prog Gt [(30, resc_m), (29, rline_m), (46, rword_m), (37, rtdate_m), (32, rshow_m), (47, rndue_m)]) Tryd.func20 rfl rfl (by kernel_rfl) (by kernel_rfl) (AllOk.cons resc_ok (AllOk.cons rline_ok (AllOk.cons rword_ok (AllOk.cons rtdate_ok (AllOk.cons rshow_ok (AllOk.cons rndue_ok AllOk.nil)))))).kok ?_
  intro args r h0
  obtain ⟨⟨s, nm⟩, ⟨hs, rfl⟩, h⟩ := mR_inv h0
  refine ⟨Nat.le_of_ble_eq_true rfl, ?_⟩
  split at h
  · rename_i hw
    obtain ⟨hw, hsm⟩ := hw
    dsimp only at hs hw hsm h ⊢
    cases h
    have hl := hs.len
    have R := And.intro hs.lw (And.intro hs.c19 hs.c37)
    have l37 : ((s.cases.map Cas.row).length : Int) = s.cases.length := by simp
    have hcl := hsm.cases
    have hno := @foundK_none s.cases nm
    have hyes := @foundK_some s.cases nm
    unfold caseOut
    generalize foundK s.cases nm = K at *
    have hc := Nat.zero_add 0
    repeat' (first | (simp only [hc, Tryd.f20, SX, WH, hl, R, l37, AB, PL, RG, LP, TY, Nat.reduceEqDiff, Nat.reduceAdd, Nat.reduceSub, Nat.reduceMul, Nat.reduceLT, Nat.reduceLeDiff, Nat.reduceMod, Nat.reduceDiv, reduceCtorEq, Int.reduceEq, Int.reduceNe, Int.reduceLT, Int.reduceLE, Int.reduceNeg, Int.reduceToNat, Int.reduceAdd, Int.reduceSub, Int.reduceMul, ↓reduceIte, forall_const, eq_self, ne_eq, Option.some.injEq, beq_self_eq_true]) | refine fin_ndec (fun hc => ?_) (fun hc => ?_) | refine fin_dec (fun hc => ?_) (fun hc => ?_) | refine cnd_ndec (fun hc => ?_) (fun hc => ?_) | refine cnd_dec' (fun hc => ?_) (fun hc => ?_) | refine fin_nsplit (fun hc => ?_) (fun hc => ?_) | refine fin_split (fun hc => ?_) (fun hc => ?_) | refine cnd_nsplit (fun hc => ?_) (fun hc => ?_) | refine cnd_split (fun hc => ?_) (fun hc => ?_) | refine blk_exit_id ?_)
    refine awp_loop (σ := Nat) (fun j => j ≤ s.cases.length ∧ ∀ x ∈ s.cases.take j, x.id ≠ nm) (fun j => ⟨[(6, AV.i j), (2, .v (.c (.ptr 0 0))), (1, AV.s nm)], [.box (s.cells.map .d)]⟩) (fun j => s.cases.length - j) 0 (Wk.sub' (by simp [subT, look]) rfl) (by simp) ?_
    rintro j ⟨hj, hall⟩
    by_cases hjl : j < s.cases.length
    · have e1 : (s.cases.map Cas.row)[j]? = some s.cases[j].row := by simp [hjl]
      have hlt : ((j : Int) < (s.cases.length : Int)) = True := eq_true (by omega)
      have hw1 := wI (n := (j : Int) + 1) (by omega) (by omega)
      have hmem := List.getElem_mem hjl
      have hs2 := all_snoc (P := fun x : Cas => x.id ≠ nm) hjl hall
      have hy := hyes hjl hall
      obtain ⟨m1, m2, m3⟩ := Cas.sm_iff.1 (hsm.csm _ hmem)
      obtain ⟨_, n2, n3, n4, n5, n6, n7⟩ := hw.car _ hmem
      generalize s.cases[j] = x at *
      by_cases hx : x.id = nm
      · have hK := hy hx
        subst hK
        dsimp only
        have hb : (x.id == nm) = true := by simp [hx]
        have f1 := resc_at m1
        have f2 := resc_at m2
        have f3 := resc_at m3
        have q1 := esc_le m1
        have q2 := esc_le m2
        have q3 := esc_le m3
        have f4 := rln4 (a := [99, 97, 115, 101]) (b := escF x.id) (c := escF x.plate) (d := escF x.key) (by simp) (by omega) (by omega) (by omega)
        have b4 : (lineF [[99, 97, 115, 101], escF x.id, escF x.plate, escF x.key]).length ≤ 4005 := line_le (l := [_, _, _, _]) (le4 (by simp) (by omega) (by omega) (by omega))
        have f5 := rword_at (n := x.stage) (l := stageW) (by unfold stageW; simp)
        have q5 := word_le (n := x.stage) stage_le
        have f6 := @rtdate_at x.since
        have q6 := date_le x.since
        have f7 := rln3 (a := [115, 116, 97, 103, 101]) (b := wordF x.stage stageW) (c := dateF x.since) (by simp) (by omega) (by omega)
        have b7 : (lineF [[115, 116, 97, 103, 101], wordF x.stage stageW, dateF x.since]).length ≤ 3004 := line_le (l := [_, _, _]) (le3 (by simp) (by omega) (by omega))
        have f8 := rshow_at n4
        have f9 := rshow_at n5
        have q8 := show_le n4
        have q9 := show_le n5
        have f10 := rln2 (a := [111, 119, 101, 100]) (b := showF x.owed) (by simp) (by omega)
        have f11 := rln2 (a := [112, 97, 105, 100]) (b := showF x.paid) (by simp) (by omega)
        have b10 : (lineF [[111, 119, 101, 100], showF x.owed]).length ≤ 2003 := line_le (l := [_, _]) (le2 (by simp) (by omega))
        have b11 : (lineF [[112, 97, 105, 100], showF x.paid]).length ≤ 2003 := line_le (l := [_, _]) (le2 (by simp) (by omega))
        have f12 := rndue_at (w := s.law) (f := s.hf) (l := s.hol) (x := x) (by have := hsm.hol; omega)
        have f13 := rword_at (n := x.ast) (l := appealW) (by unfold appealW; simp)
        have q13 := word_le (n := x.ast) appeal_le
        have hR : caseRep s.law s.hol x = lineF [[99, 97, 115, 101], escF x.id, escF x.plate, escF x.key] ++ lineF [[115, 116, 97, 103, 101], wordF x.stage stageW, dateF x.since] ++ lineF [[111, 119, 101, 100], showF x.owed] ++ lineF [[112, 97, 105, 100], showF x.paid]
          ++ (if (dueF s.law s.hol x).2 = true then lineF [[100, 117, 101], dateF (dueF s.law s.hol x).1] else lineF [[100, 117, 101], [45]])
          ++ (if wordF x.ast appealW ≠ [45] then lineF [[97, 112, 112, 101, 97, 108], wordF x.ast appealW, dateF x.aday] else lineF [[97, 112, 112, 101, 97, 108], [45]]) := rfl
        generalize caseRep s.law s.hol x = RR at *
        generalize hdue : dueF s.law s.hol x = due at *
        obtain ⟨d1, d2⟩ := due
        dsimp only at hR f12
        have f14 := @rtdate_at d1
        have q14 := date_le d1
        have f15 := rln2 (a := [100, 117, 101]) (b := dateF d1) (by simp) (by omega)
        have b15 : (lineF [[100, 117, 101], dateF d1]).length ≤ 2003 := line_le (l := [_, _]) (le2 (by simp) (by omega))
        have f16 := rln2 (a := [100, 117, 101]) (b := [45]) (by simp) (by simp)
        have b16 : (lineF [[100, 117, 101], [45]]).length ≤ 2003 := line_le (l := [_, _]) (le2 (by simp) (by simp))
        have f17 := @rtdate_at x.aday
        have q17 := date_le x.aday
        generalize hwA : wordF x.ast appealW = wA at *
        have f18 := rln3 (a := [97, 112, 112, 101, 97, 108]) (b := wA) (c := dateF x.aday) (by simp) (by omega) (by omega)
        have b18 : (lineF [[97, 112, 112, 101, 97, 108], wA, dateF x.aday]).length ≤ 3004 := line_le (l := [_, _, _]) (le3 (by simp) (by omega) (by omega))
        have f19 := rln2 (a := [97, 112, 112, 101, 97, 108]) (b := [45]) (by simp) (by simp)
        have b19 : (lineF [[97, 112, 112, 101, 97, 108], [45]]).length ≤ 2003 := line_le (l := [_, _]) (le2 (by simp) (by simp))
        generalize wordF x.stage stageW = wS at *
        generalize lineF [[99, 97, 115, 101], escF x.id, escF x.plate, escF x.key] = qA at *
        generalize lineF [[115, 116, 97, 103, 101], wS, dateF x.since] = qB at *
        generalize lineF [[111, 119, 101, 100], showF x.owed] = qC at *
        generalize lineF [[112, 97, 105, 100], showF x.paid] = qD at *
        simp only [stageW, appealW, List.map_cons, List.map_nil, rowS] at f5 f13
        simp only [Cas.row, Lw.row] at e1 f12
        have k1 : (qA.length + qB.length ≤ 4611686018427387904) = True := eq_true (by omega)
        have k2 : ((qA ++ qB).length + qC.length ≤ 4611686018427387904) = True := eq_true (by simp only [List.length_append]; omega)
        have k3 : ((qA ++ qB ++ qC).length + qD.length ≤ 4611686018427387904) = True := eq_true (by simp only [List.length_append]; omega)
        generalize hE : (if d2 = true then lineF [[100, 117, 101], dateF d1] else lineF [[100, 117, 101], [45]]) = qE at hR
        generalize hF : (if wA ≠ [45] then lineF [[97, 112, 112, 101, 97, 108], wA, dateF x.aday] else lineF [[97, 112, 112, 101, 97, 108], [45]]) = qF at hR
        have lE : qE.length ≤ 2003 := by rw [← hE]; split <;> assumption
        have lF : qF.length ≤ 3004 := by rw [← hF]; split <;> omega
        have k4 : ((qA ++ qB ++ qC ++ qD).length + qE.length ≤ 4611686018427387904) = True := eq_true (by simp only [List.length_append]; omega)
        have k5 : ((qA ++ qB ++ qC ++ qD ++ qE).length + qF.length ≤ 4611686018427387904) = True := eq_true (by simp only [List.length_append]; omega)
        cases d2 with
        | true =>
          rw [if_pos rfl] at hE
          rw [hE] at f15
          by_cases hA : wA = [45]
          · have hA2 : (wA == [45]) = true := by simp [hA]
            rw [if_neg (by simp [hA])] at hF
            rw [hF] at f19
            have hc := Nat.zero_add 0
            repeat' (first | (simp only [hc, SX, WH, hl, R, l37, e1, hlt, nn, hb, f1, f2, f3, f4, f5, f6, f7, f8, f9, f10, f11, f12, f13, f14, f15, f16, f17, f18, f19, k1, k2, k3, k4, k5, hA2, AB, PL, RG, LP, TY, Nat.reduceEqDiff, Nat.reduceAdd, Nat.reduceSub, Nat.reduceMul, Nat.reduceLT, Nat.reduceLeDiff, Nat.reduceMod, Nat.reduceDiv, reduceCtorEq, Int.reduceEq, Int.reduceNe, Int.reduceLT, Int.reduceLE, Int.reduceNeg, Int.reduceToNat, Int.reduceAdd, Int.reduceSub, Int.reduceMul, ↓reduceIte, forall_const, eq_self, ne_eq, Option.some.injEq, beq_self_eq_true]) | refine fin_ndec (fun hc => ?_) (fun hc => ?_) | refine fin_dec (fun hc => ?_) (fun hc => ?_) | refine cnd_ndec (fun hc => ?_) (fun hc => ?_) | refine cnd_dec' (fun hc => ?_) (fun hc => ?_) | refine fin_nsplit (fun hc => ?_) (fun hc => ?_) | refine fin_split (fun hc => ?_) (fun hc => ?_) | refine cnd_nsplit (fun hc => ?_) (fun hc => ?_) | refine cnd_split (fun hc => ?_) (fun hc => ?_) | refine blk_exit_id ?_)
            all_goals simp [hR, DV.i]
          · have hA2 : (wA == [45]) = false := by simpa using hA
            rw [if_pos hA] at hF
            rw [hF] at f18
            have hc := Nat.zero_add 0
            repeat' (first | (simp only [hc, SX, WH, hl, R, l37, e1, hlt, nn, hb, f1, f2, f3, f4, f5, f6, f7, f8, f9, f10, f11, f12, f13, f14, f15, f16, f17, f18, f19, k1, k2, k3, k4, k5, hA2, AB, PL, RG, LP, TY, Nat.reduceEqDiff, Nat.reduceAdd, Nat.reduceSub, Nat.reduceMul, Nat.reduceLT, Nat.reduceLeDiff, Nat.reduceMod, Nat.reduceDiv, reduceCtorEq, Int.reduceEq, Int.reduceNe, Int.reduceLT, Int.reduceLE, Int.reduceNeg, Int.reduceToNat, Int.reduceAdd, Int.reduceSub, Int.reduceMul, ↓reduceIte, forall_const, eq_self, ne_eq, Option.some.injEq, beq_self_eq_true]) | refine fin_ndec (fun hc => ?_) (fun hc => ?_) | refine fin_dec (fun hc => ?_) (fun hc => ?_) | refine cnd_ndec (fun hc => ?_) (fun hc => ?_) | refine cnd_dec' (fun hc => ?_) (fun hc => ?_) | refine fin_nsplit (fun hc => ?_) (fun hc => ?_) | refine fin_split (fun hc => ?_) (fun hc => ?_) | refine cnd_nsplit (fun hc => ?_) (fun hc => ?_) | refine cnd_split (fun hc => ?_) (fun hc => ?_) | refine blk_exit_id ?_)
            all_goals simp [hR, DV.i]
        | false =>
          rw [if_neg (by simp)] at hE
          rw [hE] at f16
          by_cases hA : wA = [45]
          · have hA2 : (wA == [45]) = true := by simp [hA]
            rw [if_neg (by simp [hA])] at hF
            rw [hF] at f19
            have hc := Nat.zero_add 0
            repeat' (first | (simp only [hc, SX, WH, hl, R, l37, e1, hlt, nn, hb, f1, f2, f3, f4, f5, f6, f7, f8, f9, f10, f11, f12, f13, f14, f15, f16, f17, f18, f19, k1, k2, k3, k4, k5, hA2, AB, PL, RG, LP, TY, Nat.reduceEqDiff, Nat.reduceAdd, Nat.reduceSub, Nat.reduceMul, Nat.reduceLT, Nat.reduceLeDiff, Nat.reduceMod, Nat.reduceDiv, reduceCtorEq, Int.reduceEq, Int.reduceNe, Int.reduceLT, Int.reduceLE, Int.reduceNeg, Int.reduceToNat, Int.reduceAdd, Int.reduceSub, Int.reduceMul, ↓reduceIte, forall_const, eq_self, ne_eq, Option.some.injEq, beq_self_eq_true]) | refine fin_ndec (fun hc => ?_) (fun hc => ?_) | refine fin_dec (fun hc => ?_) (fun hc => ?_) | refine cnd_ndec (fun hc => ?_) (fun hc => ?_) | refine cnd_dec' (fun hc => ?_) (fun hc => ?_) | refine fin_nsplit (fun hc => ?_) (fun hc => ?_) | refine fin_split (fun hc => ?_) (fun hc => ?_) | refine cnd_nsplit (fun hc => ?_) (fun hc => ?_) | refine cnd_split (fun hc => ?_) (fun hc => ?_) | refine blk_exit_id ?_)
            all_goals simp [hR, DV.i]
          · have hA2 : (wA == [45]) = false := by simpa using hA
            rw [if_pos hA] at hF
            rw [hF] at f18
            have hc := Nat.zero_add 0
            repeat' (first | (simp only [hc, SX, WH, hl, R, l37, e1, hlt, nn, hb, f1, f2, f3, f4, f5, f6, f7, f8, f9, f10, f11, f12, f13, f14, f15, f16, f17, f18, f19, k1, k2, k3, k4, k5, hA2, AB, PL, RG, LP, TY, Nat.reduceEqDiff, Nat.reduceAdd, Nat.reduceSub, Nat.reduceMul, Nat.reduceLT, Nat.reduceLeDiff, Nat.reduceMod, Nat.reduceDiv, reduceCtorEq, Int.reduceEq, Int.reduceNe, Int.reduceLT, Int.reduceLE, Int.reduceNeg, Int.reduceToNat, Int.reduceAdd, Int.reduceSub, Int.reduceMul, ↓reduceIte, forall_const, eq_self, ne_eq, Option.some.injEq, beq_self_eq_true]) | refine fin_ndec (fun hc => ?_) (fun hc => ?_) | refine fin_dec (fun hc => ?_) (fun hc => ?_) | refine cnd_ndec (fun hc => ?_) (fun hc => ?_) | refine cnd_dec' (fun hc => ?_) (fun hc => ?_) | refine fin_nsplit (fun hc => ?_) (fun hc => ?_) | refine fin_split (fun hc => ?_) (fun hc => ?_) | refine cnd_nsplit (fun hc => ?_) (fun hc => ?_) | refine cnd_split (fun hc => ?_) (fun hc => ?_) | refine blk_exit_id ?_)
            all_goals simp [hR, DV.i]
      · have hb : (x.id == nm) = false := by simpa using hx
        simp only [Cas.row] at e1
        have hc := Nat.zero_add 0
        repeat' (first | (simp only [hc, SX, WH, R, l37, e1, hlt, nn, hb, hw1, AB, PL, RG, LP, TY, Nat.reduceEqDiff, Nat.reduceAdd, Nat.reduceSub, Nat.reduceMul, Nat.reduceLT, Nat.reduceLeDiff, Nat.reduceMod, Nat.reduceDiv, reduceCtorEq, Int.reduceEq, Int.reduceNe, Int.reduceLT, Int.reduceLE, Int.reduceNeg, Int.reduceToNat, Int.reduceAdd, Int.reduceSub, Int.reduceMul, ↓reduceIte, forall_const, eq_self, ne_eq, Option.some.injEq, beq_self_eq_true]) | refine fin_ndec (fun hc => ?_) (fun hc => ?_) | refine fin_dec (fun hc => ?_) (fun hc => ?_) | refine cnd_ndec (fun hc => ?_) (fun hc => ?_) | refine cnd_dec' (fun hc => ?_) (fun hc => ?_) | refine fin_nsplit (fun hc => ?_) (fun hc => ?_) | refine fin_split (fun hc => ?_) (fun hc => ?_) | refine cnd_nsplit (fun hc => ?_) (fun hc => ?_) | refine cnd_split (fun hc => ?_) (fun hc => ?_) | refine blk_exit_id (i := 1) ?_)
        exact lp_next (j + 1) (Wk.cutk (k := 1) (by simp) (by simp) (by simp) (by simp [subT, look]) (by first | rfl | simp [AV.low, V.low, C1.low]) (by first | rfl | simp [Ob.low, C1.low, all_low_d])) ⟨by omega, hs2 hx⟩ (by omega)
    · have hlt : ((j : Int) < (s.cases.length : Int)) = False := eq_false (by omega)
      rw [List.take_of_length_le (by omega)] at hall
      have hK := hno hall
      subst hK
      have hc := Nat.zero_add 0
      repeat' (first | (simp only [hc, SX, WH, R, l37, hlt, AB, PL, RG, LP, TY, Nat.reduceEqDiff, Nat.reduceAdd, Nat.reduceSub, Nat.reduceMul, Nat.reduceLT, Nat.reduceLeDiff, Nat.reduceMod, Nat.reduceDiv, reduceCtorEq, Int.reduceEq, Int.reduceNe, Int.reduceLT, Int.reduceLE, Int.reduceNeg, Int.reduceToNat, Int.reduceAdd, Int.reduceSub, Int.reduceMul, ↓reduceIte, forall_const, eq_self, ne_eq, Option.some.injEq, beq_self_eq_true]) | refine fin_ndec (fun hc => ?_) (fun hc => ?_) | refine fin_dec (fun hc => ?_) (fun hc => ?_) | refine cnd_ndec (fun hc => ?_) (fun hc => ?_) | refine cnd_dec' (fun hc => ?_) (fun hc => ?_) | refine fin_nsplit (fun hc => ?_) (fun hc => ?_) | refine fin_split (fun hc => ?_) (fun hc => ?_) | refine cnd_nsplit (fun hc => ?_) (fun hc => ?_) | refine cnd_split (fun hc => ?_) (fun hc => ?_) | refine blk_exit_id ?_)
      all_goals simp [DV.i]
  · cases h


theorem tcase_at {s : St} {n : List UInt8} (h : s.is) (hw : s.Wf) (hs : s.Small) : tcase_m [.agg s.cells, .c (.str n)] = some (caseOut s n) := by
  rw [tcase_m, stS_eq h, if_pos ⟨hw, hs⟩]
theorem rtcase_at {s : St} {n : List UInt8} (h : s.is) (hw : s.Wf) (hs : s.Small) : rtcase_m [.agg s.cells, .c (.str n)] = some (caseOut s n) := by
  rw [rtcase_m, stS_eq h, if_pos ⟨hw, hs⟩]

end
end Go.Ab
