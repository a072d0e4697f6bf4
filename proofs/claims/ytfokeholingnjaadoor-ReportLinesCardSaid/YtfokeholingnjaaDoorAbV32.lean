/-
  Texts of the layer and of the laws, put together: AbQ7, AbQ8. No law is stated here.
-/
import Derived.Test.YtfokeholingnjaaDoorAbV31
import Derived.Test.YtfokeholingnjaaDoorAbV12
set_option linter.unusedSimpArgs false
set_option linter.unusedVariables false
set_option maxRecDepth 100000

/-
  What the functions of reports compute: the reference's report of a day; accounts found; balances.
-/
namespace Go.Ab
open Go.RowKit Go.Proofs

noncomputable section
open Classical

theorem rtday_ok : PureC Tryd.prog Gt 16 rtday_m := by
  refine pure_of_awp (X := ctx Tryd.prog Gt [(36, risDay_m), (37, rtdate_m), (29, rline_m), (38, rday_m), (12, rcharge_m), (31, rfmt_m), (32, rshow_m)]) Tryd.func16 rfl rfl (by kernel_rfl) (by kernel_rfl) (AllOk.cons risDay_ok (AllOk.cons rtdate_ok (AllOk.cons rline_ok (AllOk.cons rday_ok (AllOk.cons rcharge_ok (AllOk.cons rfmt_ok (AllOk.cons rshow_ok AllOk.nil))))))).kok ?_
  intro args r h0
  obtain ⟨⟨s, d⟩, ⟨hs, rfl⟩, h⟩ := mR_inv h0
  refine ⟨Nat.le_of_ble_eq_true rfl, ?_⟩
  split at h
  · rename_i hw
    obtain ⟨hw, hsm⟩ := hw
    dsimp only at hs hw hsm h ⊢
    cases h
    by_cases hD : isD d = true
    · rw [if_pos hD]
      have l33 : ((s.chs.map Chg.row).length : Int) = s.chs.length := by simp
      have c33 := hs.c33
      have f1 := @rtdate_at d
      have hdl := date_le d
      have f2 := rln2 (a := [100, 97, 121]) (by simp) (b := dateF d) (by omega)
      have hR : dayRep s.chs d = lineF [[100, 97, 121], dateF d] ++ (onDay d s.chs).flatMap chargeF ++ lineF [[115, 117, 109], Lib.itoa (onDay d s.chs).length, showF (sumC (onDay d s.chs))] := rfl
      have hHl : (lineF [[100, 97, 121], dateF d]).length ≤ 2003 := line_le (l := [_, _]) (le2 (by simp) (by omega))
      generalize dayRep s.chs d = R at *
      generalize lineF [[100, 97, 121], dateF d] = Hd at *
      have hlen := day_len d hsm.chs hsm.ones (fun x hx => (hw.chr x hx).1)
      have hcl := hsm.chs
      have hc := Nat.zero_add 0
      repeat' (first | (simp only [hc, Tryd.f16, SX, WH, risDay_m, mEq, hD, c33, l33, f1, f2, AB, PL, RG, LP, TY, Nat.reduceEqDiff, Nat.reduceAdd, Nat.reduceSub, Nat.reduceMul, Nat.reduceLT, Nat.reduceLeDiff, Nat.reduceMod, Nat.reduceDiv, reduceCtorEq, Int.reduceEq, Int.reduceNe, Int.reduceLT, Int.reduceLE, Int.reduceNeg, Int.reduceToNat, Int.reduceAdd, Int.reduceSub, Int.reduceMul, ↓reduceIte, forall_const, eq_self, ne_eq, Option.some.injEq, beq_self_eq_true]) | refine fin_ndec (fun hc => ?_) (fun hc => ?_) | refine fin_dec (fun hc => ?_) (fun hc => ?_) | refine cnd_ndec (fun hc => ?_) (fun hc => ?_) | refine cnd_dec' (fun hc => ?_) (fun hc => ?_) | refine fin_nsplit (fun hc => ?_) (fun hc => ?_) | refine fin_split (fun hc => ?_) (fun hc => ?_) | refine cnd_nsplit (fun hc => ?_) (fun hc => ?_) | refine cnd_split (fun hc => ?_) (fun hc => ?_) | refine blk_exit_id ?_)
      refine awp_loop (σ := Nat) (fun j => j ≤ s.chs.length)
        (fun j => ⟨[(9, AV.i j), (8, AV.i (sumC (onDay d (s.chs.take j)))), (7, AV.i (onDay d (s.chs.take j)).length), (6, AV.s (Hd ++ (onDay d (s.chs.take j)).flatMap chargeF)), (2, .v (.c (.ptr 0 0))), (1, AV.i d)], [.box (s.cells.map .d)]⟩)
        (fun j => s.chs.length - j) 0 (Wk.sub' (by simp [subT, look, onDay, sumC]) rfl) (by simp) ?_
      intro j hj
      obtain ⟨k0, k1⟩ := hlen j
      by_cases hjl : j < s.chs.length
      · have e1 : (s.chs.map Chg.row)[j]? = some s.chs[j].row := by simp [hjl]
        have hlt : ((j : Int) < (s.chs.length : Int)) = True := eq_true (by omega)
        have hw1 := wI (n := (j : Int) + 1) (by omega) (by omega)
        have hmem : s.chs[j] ∈ s.chs := List.getElem_mem hjl
        have hstep : s.chs.take (j + 1) = s.chs.take j ++ [s.chs[j]] := List.take_succ_eq_append_getElem hjl
        have g1 := rcharge_at (hsm.ones _ hmem) (hw.chr _ hmem).1
        have g4 := chargeF_le (hsm.ones _ hmem) (hw.chr _ hmem).1
        generalize s.chs[j] = y at *
        by_cases hy : dayF y.time = d
        · have q1 := on_snoc_t (l := s.chs.take j) hy
          rw [← hstep] at q1
          have q2 := sum_snoc (onDay d (s.chs.take j)) y
          have hw2 := wI (n := ((onDay d (s.chs.take j)).length : Int) + 1) (by omega) (by omega)
          have k5 : ((Hd ++ (onDay d (s.chs.take j)).flatMap chargeF).length + (chargeF y).length ≤ 4611686018427387904) = True := eq_true (by rw [List.length_append]; omega)
          simp only [Chg.row] at e1 g1
          have hc := Nat.zero_add 0
          repeat' (first | (simp only [hc, SX, WH, e1, c33, l33, hlt, nn, hw1, hw2, rday_m, mEq, hy, g1, k5, AB, PL, RG, LP, TY, Nat.reduceEqDiff, Nat.reduceAdd, Nat.reduceSub, Nat.reduceMul, Nat.reduceLT, Nat.reduceLeDiff, Nat.reduceMod, Nat.reduceDiv, reduceCtorEq, Int.reduceEq, Int.reduceNe, Int.reduceLT, Int.reduceLE, Int.reduceNeg, Int.reduceToNat, Int.reduceAdd, Int.reduceSub, Int.reduceMul, ↓reduceIte, forall_const, eq_self, ne_eq, Option.some.injEq, beq_self_eq_true]) | refine fin_ndec (fun hc => ?_) (fun hc => ?_) | refine fin_dec (fun hc => ?_) (fun hc => ?_) | refine cnd_ndec (fun hc => ?_) (fun hc => ?_) | refine cnd_dec' (fun hc => ?_) (fun hc => ?_) | refine fin_nsplit (fun hc => ?_) (fun hc => ?_) | refine fin_split (fun hc => ?_) (fun hc => ?_) | refine cnd_nsplit (fun hc => ?_) (fun hc => ?_) | refine cnd_split (fun hc => ?_) (fun hc => ?_) | refine blk_exit_id ?_)
          exact lp_next (j + 1) (Wk.cutk (k := 1) (by simp) (by simp) (by simp [q1, q2]) (by simp [subT, look, q1, q2]) (by first | rfl | simp [AV.low, V.low, C1.low]) (by first | rfl | simp [Ob.low, C1.low, all_low_d])) (by omega) (by omega)
        · have q1 := on_snoc_f (l := s.chs.take j) hy
          rw [← hstep] at q1
          simp only [Chg.row] at e1
          have hc := Nat.zero_add 0
          repeat' (first | (simp only [hc, SX, WH, e1, c33, l33, hlt, nn, hw1, rday_m, mEq, hy, AB, PL, RG, LP, TY, Nat.reduceEqDiff, Nat.reduceAdd, Nat.reduceSub, Nat.reduceMul, Nat.reduceLT, Nat.reduceLeDiff, Nat.reduceMod, Nat.reduceDiv, reduceCtorEq, Int.reduceEq, Int.reduceNe, Int.reduceLT, Int.reduceLE, Int.reduceNeg, Int.reduceToNat, Int.reduceAdd, Int.reduceSub, Int.reduceMul, ↓reduceIte, forall_const, eq_self, ne_eq, Option.some.injEq, beq_self_eq_true]) | refine fin_ndec (fun hc => ?_) (fun hc => ?_) | refine fin_dec (fun hc => ?_) (fun hc => ?_) | refine cnd_ndec (fun hc => ?_) (fun hc => ?_) | refine cnd_dec' (fun hc => ?_) (fun hc => ?_) | refine fin_nsplit (fun hc => ?_) (fun hc => ?_) | refine fin_split (fun hc => ?_) (fun hc => ?_) | refine cnd_nsplit (fun hc => ?_) (fun hc => ?_) | refine cnd_split (fun hc => ?_) (fun hc => ?_) | refine blk_exit_id ?_)
          exact lp_next (j + 1) (Wk.cutk (k := 1) (by simp) (by simp) (by simp [q1]) (by simp [subT, look, q1]) (by first | rfl | simp [AV.low, V.low, C1.low]) (by first | rfl | simp [Ob.low, C1.low, all_low_d])) (by omega) (by omega)
      · have hlt : ((j : Int) < (s.chs.length : Int)) = False := eq_false (by omega)
        have et : s.chs.take j = s.chs := List.take_of_length_le (by omega)
        simp only [et] at k0 k1 ⊢
        have g2 := rshow_at (inI_sum (onDay d s.chs))
        have g3 := rfmt_at (n := ((onDay d s.chs).length : Int)) (inI_iff.2 (by omega))
        have g4 := rln3 (a := [115, 117, 109]) (by simp) (b := Lib.itoa ((onDay d s.chs).length : Int)) (by have := itoa_le (n := ((onDay d s.chs).length : Int)) (inI_iff.2 (by omega)); omega) (c := showF (sumC (onDay d s.chs))) (by have := show_le (inI_sum (onDay d s.chs)); omega)
        have g5 : (lineF [[115, 117, 109], Lib.itoa ((onDay d s.chs).length : Int), showF (sumC (onDay d s.chs))]).length ≤ 3004 := line_le (l := [_, _, _]) (le3 (by simp) (by have := itoa_le (n := ((onDay d s.chs).length : Int)) (inI_iff.2 (by omega)); omega) (by have := show_le (inI_sum (onDay d s.chs)); omega))
        have k5 : ((Hd ++ (onDay d s.chs).flatMap chargeF).length + (lineF [[115, 117, 109], Lib.itoa ((onDay d s.chs).length : Int), showF (sumC (onDay d s.chs))]).length ≤ 4611686018427387904) = True := eq_true (by rw [List.length_append]; omega)
        have hc := Nat.zero_add 0
        repeat' (first | (simp only [hc, SX, WH, c33, l33, hlt, g2, g3, g4, k5, AB, PL, RG, LP, TY, Nat.reduceEqDiff, Nat.reduceAdd, Nat.reduceSub, Nat.reduceMul, Nat.reduceLT, Nat.reduceLeDiff, Nat.reduceMod, Nat.reduceDiv, reduceCtorEq, Int.reduceEq, Int.reduceNe, Int.reduceLT, Int.reduceLE, Int.reduceNeg, Int.reduceToNat, Int.reduceAdd, Int.reduceSub, Int.reduceMul, ↓reduceIte, forall_const, eq_self, ne_eq, Option.some.injEq, beq_self_eq_true]) | refine fin_ndec (fun hc => ?_) (fun hc => ?_) | refine fin_dec (fun hc => ?_) (fun hc => ?_) | refine cnd_ndec (fun hc => ?_) (fun hc => ?_) | refine cnd_dec' (fun hc => ?_) (fun hc => ?_) | refine fin_nsplit (fun hc => ?_) (fun hc => ?_) | refine fin_split (fun hc => ?_) (fun hc => ?_) | refine cnd_nsplit (fun hc => ?_) (fun hc => ?_) | refine cnd_split (fun hc => ?_) (fun hc => ?_) | refine blk_exit_id ?_)
        all_goals simp [hR, DV.i]
    · rw [if_neg hD]
      have hc := Nat.zero_add 0
      repeat' (first | (simp only [hc, Tryd.f16, SX, WH, risDay_m, mEq, hD, AB, PL, RG, LP, TY, Nat.reduceEqDiff, Nat.reduceAdd, Nat.reduceSub, Nat.reduceMul, Nat.reduceLT, Nat.reduceLeDiff, Nat.reduceMod, Nat.reduceDiv, reduceCtorEq, Int.reduceEq, Int.reduceNe, Int.reduceLT, Int.reduceLE, Int.reduceNeg, Int.reduceToNat, Int.reduceAdd, Int.reduceSub, Int.reduceMul, ↓reduceIte, forall_const, eq_self, ne_eq, Option.some.injEq, beq_self_eq_true]) | refine fin_ndec (fun hc => ?_) (fun hc => ?_) | refine fin_dec (fun hc => ?_) (fun hc => ?_) | refine cnd_ndec (fun hc => ?_) (fun hc => ?_) | refine cnd_dec' (fun hc => ?_) (fun hc => ?_) | refine fin_nsplit (fun hc => ?_) (fun hc => ?_) | refine fin_split (fun hc => ?_) (fun hc => ?_) | refine cnd_nsplit (fun hc => ?_) (fun hc => ?_) | refine cnd_split (fun hc => ?_) (fun hc => ?_) | refine blk_exit_id ?_)
      all_goals simp [DV.i]
  · cases h

theorem tday_at {s : St} {d : Int} (h : s.is) (hw : s.Wf) (hs : s.Small) : tday_m [.agg s.cells, .c (.int .i64 d)] = some (if isD d = true then [.s (dayRep s.chs d), .i 0] else [.s [], .i 12]) := by
  rw [tday_m, stI_eq h, if_pos ⟨hw, hs⟩]
theorem rtday_at {s : St} {d : Int} (h : s.is) (hw : s.Wf) (hs : s.Small) : rtday_m [.agg s.cells, .c (.int .i64 d)] = some (if isD d = true then [.s (dayRep s.chs d), .i 0] else [.s [], .i 12]) := by
  rw [rtday_m, stI_eq h, if_pos ⟨hw, hs⟩]

/-! Accounts -/

def idxF (l : List Acc) (name : List UInt8) : Int := match l.findIdx? (fun a => a.name == name) with | some k => k | none => -1
def encAs (p : (Bool × List Acc) × List UInt8) : List PA := [.c (.sl p.1.1 (p.1.2.map Acc.row)), .c (.str p.2)]
theorem encAs_inj (a b : (Bool × List Acc) × List UInt8) (h : encAs a = encAs b) : a = b := by
  obtain ⟨⟨a1, a2⟩, a3⟩ := a
  obtain ⟨⟨b1, b2⟩, b3⟩ := b
  simp [encAs, mapA_inj] at h
  simp [h]
theorem idx_none {l : List Acc} {name : List UInt8} (h : ∀ x ∈ l, x.name ≠ name) : idxF l name = -1 := by
  unfold idxF
  rw [List.findIdx?_eq_none_iff.2 (fun x hx => by simpa using h x hx)]
theorem idx_some {l : List Acc} {name : List UInt8} {j : Nat} {x : Acc} (h : ∀ x ∈ l.take j, x.name ≠ name) (hj : l[j]? = some x) (hx : x.name = name) : idxF l name = j := by
  unfold idxF
  have : l.findIdx? (fun a => a.name == name) = some j := by
    rw [List.findIdx?_eq_some_iff_getElem]
    obtain ⟨hlt, rfl⟩ := List.getElem?_eq_some_iff.1 hj
    refine ⟨hlt, by simp [hx], fun k hk => ?_⟩
    have := h l[k] (List.mem_take_iff_getElem.2 ⟨k, by omega, rfl⟩)
    simp [this]
  rw [this]

def index_m : List PA → Option (List PA) := mE encAs fun p => if decide (p.1.2.length ≤ 1000000000000) = true then some [.i (idxF p.1.2 p.2)] else none
def rfind_m : List PA → Option (List PA) := mE encAs fun p => if decide (p.1.2.length ≤ 1000000000000) = true then some [.i (idxF p.1.2 p.2)] else none

theorem index_ok : PureC Tryd.prog Gt 69 index_m := by
  refine pure_of_awp (X := ctx Tryd.prog Gt []) Tryd.func69 rfl rfl (by kernel_rfl) (by kernel_rfl) AllOk.nil.kok ?_
  intro args r h0
  obtain ⟨⟨⟨f, l⟩, name⟩, rfl, h⟩ := mE_inv h0
  refine ⟨Nat.le_of_ble_eq_true rfl, ?_⟩
  split at h
  · rename_i hl
    have hl := of_decide_eq_true hl
    dsimp only at hl h ⊢
    cases h
    have l1 : ((l.map Acc.row).length : Int) = l.length := by simp
    have hc := Nat.zero_add 0
    repeat' (first | (simp only [hc, Tryd.f69, encAs, SX, l1, AB, PL, RG, LP, TY, Nat.reduceEqDiff, Nat.reduceAdd, Nat.reduceSub, Nat.reduceMul, Nat.reduceLT, Nat.reduceLeDiff, Nat.reduceMod, Nat.reduceDiv, reduceCtorEq, Int.reduceEq, Int.reduceNe, Int.reduceLT, Int.reduceLE, Int.reduceNeg, Int.reduceToNat, Int.reduceAdd, Int.reduceSub, Int.reduceMul, ↓reduceIte, forall_const, eq_self, ne_eq, Option.some.injEq, beq_self_eq_true]) | refine fin_ndec (fun hc => ?_) (fun hc => ?_) | refine fin_dec (fun hc => ?_) (fun hc => ?_) | refine cnd_ndec (fun hc => ?_) (fun hc => ?_) | refine cnd_dec' (fun hc => ?_) (fun hc => ?_) | refine fin_nsplit (fun hc => ?_) (fun hc => ?_) | refine fin_split (fun hc => ?_) (fun hc => ?_) | refine cnd_nsplit (fun hc => ?_) (fun hc => ?_) | refine cnd_split (fun hc => ?_) (fun hc => ?_) | refine blk_exit_id ?_)
    refine awp_loop (σ := Nat) (fun j => j ≤ l.length ∧ ∀ x ∈ l.take j, x.name ≠ name) (fun j => ⟨[(9, AV.i j), (8, AV.i l.length), (7, AV.d (.sl f (l.map Acc.row))), (1, AV.s name)], []⟩) (fun j => l.length - j) 0 (Wk.sub' (by simp [subT, look]) rfl) (by simp) ?_
    rintro j ⟨hj, hno⟩
    by_cases hjl : j < l.length
    · have e1 : (l.map Acc.row)[j]? = some l[j].row := by simp [hjl]
      have e0 : l[j]? = some l[j] := by simp [hjl]
      have hlt : ((j : Int) < (l.length : Int)) = True := eq_true (by omega)
      have hw := wI (n := (j : Int) + 1) (by omega) (by omega)
      have hstep : l.take (j + 1) = l.take j ++ [l[j]] := List.take_succ_eq_append_getElem hjl
      generalize l[j] = x at *
      simp only [Acc.row] at e1
      by_cases hx : x.name = name
      · have hr := idx_some hno e0 hx
        have hb : (x.name == name) = true := by simp [hx]
        have hc := Nat.zero_add 0
        repeat' (first | (simp only [hc, SX, l1, e1, hlt, nn, hw, hb, AB, PL, RG, LP, TY, Nat.reduceEqDiff, Nat.reduceAdd, Nat.reduceSub, Nat.reduceMul, Nat.reduceLT, Nat.reduceLeDiff, Nat.reduceMod, Nat.reduceDiv, reduceCtorEq, Int.reduceEq, Int.reduceNe, Int.reduceLT, Int.reduceLE, Int.reduceNeg, Int.reduceToNat, Int.reduceAdd, Int.reduceSub, Int.reduceMul, ↓reduceIte, forall_const, eq_self, ne_eq, Option.some.injEq, beq_self_eq_true]) | refine fin_ndec (fun hc => ?_) (fun hc => ?_) | refine fin_dec (fun hc => ?_) (fun hc => ?_) | refine cnd_ndec (fun hc => ?_) (fun hc => ?_) | refine cnd_dec' (fun hc => ?_) (fun hc => ?_) | refine fin_nsplit (fun hc => ?_) (fun hc => ?_) | refine fin_split (fun hc => ?_) (fun hc => ?_) | refine cnd_nsplit (fun hc => ?_) (fun hc => ?_) | refine cnd_split (fun hc => ?_) (fun hc => ?_) | refine blk_exit_id ?_)
        all_goals simp [hr, DV.i]
      · have hb : (x.name == name) = false := by simp [hx]
        have hc := Nat.zero_add 0
        repeat' (first | (simp only [hc, SX, l1, e1, hlt, nn, hw, hb, AB, PL, RG, LP, TY, Nat.reduceEqDiff, Nat.reduceAdd, Nat.reduceSub, Nat.reduceMul, Nat.reduceLT, Nat.reduceLeDiff, Nat.reduceMod, Nat.reduceDiv, reduceCtorEq, Int.reduceEq, Int.reduceNe, Int.reduceLT, Int.reduceLE, Int.reduceNeg, Int.reduceToNat, Int.reduceAdd, Int.reduceSub, Int.reduceMul, ↓reduceIte, forall_const, eq_self, ne_eq, Option.some.injEq, beq_self_eq_true]) | refine fin_ndec (fun hc => ?_) (fun hc => ?_) | refine fin_dec (fun hc => ?_) (fun hc => ?_) | refine cnd_ndec (fun hc => ?_) (fun hc => ?_) | refine cnd_dec' (fun hc => ?_) (fun hc => ?_) | refine fin_nsplit (fun hc => ?_) (fun hc => ?_) | refine fin_split (fun hc => ?_) (fun hc => ?_) | refine cnd_nsplit (fun hc => ?_) (fun hc => ?_) | refine cnd_split (fun hc => ?_) (fun hc => ?_) | refine blk_exit_id ?_)
        refine lp_next (j + 1) (Wk.cutk (k := 0) (by simp) (by simp) (by simp) (by simp [subT, look]) (by first | rfl | simp [AV.low, V.low, C1.low]) (by first | rfl | simp [Ob.low, C1.low, all_low_d])) ⟨by omega, ?_⟩ (by omega)
        intro z hz
        rw [hstep, List.mem_append, List.mem_singleton] at hz
        rcases hz with hz | rfl
        · exact hno z hz
        · exact hx
    · have hlt : ((j : Int) < (l.length : Int)) = False := eq_false (by omega)
      rw [List.take_of_length_le (by omega)] at hno
      have hr := idx_none hno
      have hc := Nat.zero_add 0
      repeat' (first | (simp only [hc, SX, l1, hlt, AB, PL, RG, LP, TY, Nat.reduceEqDiff, Nat.reduceAdd, Nat.reduceSub, Nat.reduceMul, Nat.reduceLT, Nat.reduceLeDiff, Nat.reduceMod, Nat.reduceDiv, reduceCtorEq, Int.reduceEq, Int.reduceNe, Int.reduceLT, Int.reduceLE, Int.reduceNeg, Int.reduceToNat, Int.reduceAdd, Int.reduceSub, Int.reduceMul, ↓reduceIte, forall_const, eq_self, ne_eq, Option.some.injEq, beq_self_eq_true]) | refine fin_ndec (fun hc => ?_) (fun hc => ?_) | refine fin_dec (fun hc => ?_) (fun hc => ?_) | refine cnd_ndec (fun hc => ?_) (fun hc => ?_) | refine cnd_dec' (fun hc => ?_) (fun hc => ?_) | refine fin_nsplit (fun hc => ?_) (fun hc => ?_) | refine fin_split (fun hc => ?_) (fun hc => ?_) | refine cnd_nsplit (fun hc => ?_) (fun hc => ?_) | refine cnd_split (fun hc => ?_) (fun hc => ?_) | refine blk_exit_id ?_)
      all_goals simp [hr, DV.i]
  · cases h

theorem rfind_ok : PureC Tryd.prog Gt 72 rfind_m := by
  refine pure_of_awp (X := ctx Tryd.prog Gt []) Tryd.func72 rfl rfl (by kernel_rfl) (by kernel_rfl) AllOk.nil.kok ?_
  intro args r h0
  obtain ⟨⟨⟨f, l⟩, name⟩, rfl, h⟩ := mE_inv h0
  refine ⟨Nat.le_of_ble_eq_true rfl, ?_⟩
  split at h
  · rename_i hl
    have hl := of_decide_eq_true hl
    dsimp only at hl h ⊢
    cases h
    have l1 : ((l.map Acc.row).length : Int) = l.length := by simp
    have hc := Nat.zero_add 0
    repeat' (first | (simp only [hc, Tryd.f72, encAs, SX, l1, AB, PL, RG, LP, TY, Nat.reduceEqDiff, Nat.reduceAdd, Nat.reduceSub, Nat.reduceMul, Nat.reduceLT, Nat.reduceLeDiff, Nat.reduceMod, Nat.reduceDiv, reduceCtorEq, Int.reduceEq, Int.reduceNe, Int.reduceLT, Int.reduceLE, Int.reduceNeg, Int.reduceToNat, Int.reduceAdd, Int.reduceSub, Int.reduceMul, ↓reduceIte, forall_const, eq_self, ne_eq, Option.some.injEq, beq_self_eq_true]) | refine fin_ndec (fun hc => ?_) (fun hc => ?_) | refine fin_dec (fun hc => ?_) (fun hc => ?_) | refine cnd_ndec (fun hc => ?_) (fun hc => ?_) | refine cnd_dec' (fun hc => ?_) (fun hc => ?_) | refine fin_nsplit (fun hc => ?_) (fun hc => ?_) | refine fin_split (fun hc => ?_) (fun hc => ?_) | refine cnd_nsplit (fun hc => ?_) (fun hc => ?_) | refine cnd_split (fun hc => ?_) (fun hc => ?_) | refine blk_exit_id ?_)
    refine awp_loop (σ := Nat) (fun j => j ≤ l.length ∧ ∀ x ∈ l.take j, x.name ≠ name) (fun j => ⟨[(5, AV.i j), (0, AV.d (.sl f (l.map Acc.row))), (1, AV.s name)], []⟩) (fun j => l.length - j) 0 (Wk.sub' (by simp [subT, look]) rfl) (by simp) ?_
    rintro j ⟨hj, hno⟩
    by_cases hjl : j < l.length
    · have e1 : (l.map Acc.row)[j]? = some l[j].row := by simp [hjl]
      have e0 : l[j]? = some l[j] := by simp [hjl]
      have hlt : ((j : Int) < (l.length : Int)) = True := eq_true (by omega)
      have hw := wI (n := (j : Int) + 1) (by omega) (by omega)
      have hstep : l.take (j + 1) = l.take j ++ [l[j]] := List.take_succ_eq_append_getElem hjl
      generalize l[j] = x at *
      simp only [Acc.row] at e1
      by_cases hx : x.name = name
      · have hr := idx_some hno e0 hx
        have hb : (x.name == name) = true := by simp [hx]
        have hc := Nat.zero_add 0
        repeat' (first | (simp only [hc, SX, l1, e1, hlt, nn, hw, hb, AB, PL, RG, LP, TY, Nat.reduceEqDiff, Nat.reduceAdd, Nat.reduceSub, Nat.reduceMul, Nat.reduceLT, Nat.reduceLeDiff, Nat.reduceMod, Nat.reduceDiv, reduceCtorEq, Int.reduceEq, Int.reduceNe, Int.reduceLT, Int.reduceLE, Int.reduceNeg, Int.reduceToNat, Int.reduceAdd, Int.reduceSub, Int.reduceMul, ↓reduceIte, forall_const, eq_self, ne_eq, Option.some.injEq, beq_self_eq_true]) | refine fin_ndec (fun hc => ?_) (fun hc => ?_) | refine fin_dec (fun hc => ?_) (fun hc => ?_) | refine cnd_ndec (fun hc => ?_) (fun hc => ?_) | refine cnd_dec' (fun hc => ?_) (fun hc => ?_) | refine fin_nsplit (fun hc => ?_) (fun hc => ?_) | refine fin_split (fun hc => ?_) (fun hc => ?_) | refine cnd_nsplit (fun hc => ?_) (fun hc => ?_) | refine cnd_split (fun hc => ?_) (fun hc => ?_) | refine blk_exit_id ?_)
        all_goals simp [hr, DV.i]
      · have hb : (x.name == name) = false := by simp [hx]
        have hc := Nat.zero_add 0
        repeat' (first | (simp only [hc, SX, l1, e1, hlt, nn, hw, hb, AB, PL, RG, LP, TY, Nat.reduceEqDiff, Nat.reduceAdd, Nat.reduceSub, Nat.reduceMul, Nat.reduceLT, Nat.reduceLeDiff, Nat.reduceMod, Nat.reduceDiv, reduceCtorEq, Int.reduceEq, Int.reduceNe, Int.reduceLT, Int.reduceLE, Int.reduceNeg, Int.reduceToNat, Int.reduceAdd, Int.reduceSub, Int.reduceMul, ↓reduceIte, forall_const, eq_self, ne_eq, Option.some.injEq, beq_self_eq_true]) | refine fin_ndec (fun hc => ?_) (fun hc => ?_) | refine fin_dec (fun hc => ?_) (fun hc => ?_) | refine cnd_ndec (fun hc => ?_) (fun hc => ?_) | refine cnd_dec' (fun hc => ?_) (fun hc => ?_) | refine fin_nsplit (fun hc => ?_) (fun hc => ?_) | refine fin_split (fun hc => ?_) (fun hc => ?_) | refine cnd_nsplit (fun hc => ?_) (fun hc => ?_) | refine cnd_split (fun hc => ?_) (fun hc => ?_) | refine blk_exit_id ?_)
        refine lp_next (j + 1) (Wk.sub' (by simp [subT, look]) rfl) ⟨by omega, ?_⟩ (by omega)
        intro z hz
        rw [hstep, List.mem_append, List.mem_singleton] at hz
        rcases hz with hz | rfl
        · exact hno z hz
        · exact hx
    · have hlt : ((j : Int) < (l.length : Int)) = False := eq_false (by omega)
      rw [List.take_of_length_le (by omega)] at hno
      have hr := idx_none hno
      have hc := Nat.zero_add 0
      repeat' (first | (simp only [hc, SX, l1, hlt, AB, PL, RG, LP, TY, Nat.reduceEqDiff, Nat.reduceAdd, Nat.reduceSub, Nat.reduceMul, Nat.reduceLT, Nat.reduceLeDiff, Nat.reduceMod, Nat.reduceDiv, reduceCtorEq, Int.reduceEq, Int.reduceNe, Int.reduceLT, Int.reduceLE, Int.reduceNeg, Int.reduceToNat, Int.reduceAdd, Int.reduceSub, Int.reduceMul, ↓reduceIte, forall_const, eq_self, ne_eq, Option.some.injEq, beq_self_eq_true]) | refine fin_ndec (fun hc => ?_) (fun hc => ?_) | refine fin_dec (fun hc => ?_) (fun hc => ?_) | refine cnd_ndec (fun hc => ?_) (fun hc => ?_) | refine cnd_dec' (fun hc => ?_) (fun hc => ?_) | refine fin_nsplit (fun hc => ?_) (fun hc => ?_) | refine fin_split (fun hc => ?_) (fun hc => ?_) | refine cnd_nsplit (fun hc => ?_) (fun hc => ?_) | refine cnd_split (fun hc => ?_) (fun hc => ?_) | refine blk_exit_id ?_)
      all_goals simp [hr, DV.i]
  · cases h

end
end Go.Ab

/-
  What the functions of reports compute: accounts copied and found; balances.
-/
namespace Go.Ab
open Go.RowKit Go.Proofs

noncomputable section
open Classical

theorem chunk_flat {z : Nat} : ∀ {es : List (List D)}, (∀ e ∈ es, e.length = z) → chunk z es.length es.flatten = es
  | [], _ => rfl
  | e :: es, h => by
    have he := h e List.mem_cons_self
    simp only [List.length_cons, List.flatten_cons, chunk]
    rw [List.take_left' he, List.drop_left' he, chunk_flat (fun x hx => h x (List.mem_cons_of_mem _ hx))]
theorem own_rows {l : List Own} : allLen 4 (l.map Own.row) = True := eq_true fun r hr => by
  obtain ⟨x, _, rfl⟩ := List.mem_map.1 hr
  rfl

def aclone_m : List PA → Option (List PA) := mE encAcc fun a => if decide (a.owned.length ≤ 2932031007317) = true then some [.agg { a with owf := false }.row] else none

theorem aclone_ok : PureC Tryd.prog Gt 70 aclone_m := by
  refine pure_of_awpS (X := ctx Tryd.prog Gt []) Tryd.func70 rfl rfl (by kernel_rfl) (by kernel_rfl) AllOk.nil.kok ?_
  intro args r h0
  obtain ⟨a, rfl, h⟩ := mE_inv h0
  refine ⟨Nat.le_of_ble_eq_true rfl, ?_⟩
  split at h
  · rename_i hl
    have hl := of_decide_eq_true hl
    cases h
    obtain ⟨nm, ag, pp, owf, ow, b1, b2, b3, b4, ex⟩ := a
    dsimp only at hl ⊢
    have l1 : ((ow.map Own.row).length : Int) = ow.length := by simp
    have l2 : (ow.map Own.row).length = ow.length := by simp
    have k1 : ((0 : Int) ≤ (ow.length : Int)) = True := eq_true (by omega)
    have k2 : ((ow.length : Int) ≤ (ow.length : Int)) = True := eq_true (by omega)
    have k3 : ((48 : Int) * (ow.length : Int) ≤ 281474976710656) = True := eq_true (by omega)
    have k4 : ((ow.length : Int) ≤ 4611686018427387904) = True := eq_true (by omega)
    have hc := Nat.zero_add 0
    repeat' (first | (simp only [hc, Tryd.f70, encAcc, Acc.row, SX, AS, MK, l1, k1, k2, k3, k4, AB, PL, RG, LP, TY, Nat.reduceEqDiff, Nat.reduceAdd, Nat.reduceSub, Nat.reduceMul, Nat.reduceLT, Nat.reduceLeDiff, Nat.reduceMod, Nat.reduceDiv, reduceCtorEq, Int.reduceEq, Int.reduceNe, Int.reduceLT, Int.reduceLE, Int.reduceNeg, Int.reduceToNat, Int.reduceAdd, Int.reduceSub, Int.reduceMul, ↓reduceIte, forall_const, eq_self, ne_eq, Option.some.injEq, beq_self_eq_true]) | refine fin_ndec (fun hc => ?_) (fun hc => ?_) | refine fin_dec (fun hc => ?_) (fun hc => ?_) | refine cnd_ndec (fun hc => ?_) (fun hc => ?_) | refine cnd_dec' (fun hc => ?_) (fun hc => ?_) | refine fin_nsplit (fun hc => ?_) (fun hc => ?_) | refine fin_split (fun hc => ?_) (fun hc => ?_) | refine cnd_nsplit (fun hc => ?_) (fun hc => ?_) | refine cnd_split (fun hc => ?_) (fun hc => ?_) | refine blk_exit_id ?_)
    refine seqS_id ?_
    have hc := Nat.zero_add 0
    repeat' (first | (simp only [hc, SX, AS, MK, l1, k1, k2, k3, k4, AB, PL, RG, LP, TY, Nat.reduceEqDiff, Nat.reduceAdd, Nat.reduceSub, Nat.reduceMul, Nat.reduceLT, Nat.reduceLeDiff, Nat.reduceMod, Nat.reduceDiv, reduceCtorEq, Int.reduceEq, Int.reduceNe, Int.reduceLT, Int.reduceLE, Int.reduceNeg, Int.reduceToNat, Int.reduceAdd, Int.reduceSub, Int.reduceMul, ↓reduceIte, forall_const, eq_self, ne_eq, Option.some.injEq, beq_self_eq_true]) | refine fin_ndec (fun hc => ?_) (fun hc => ?_) | refine fin_dec (fun hc => ?_) (fun hc => ?_) | refine cnd_ndec (fun hc => ?_) (fun hc => ?_) | refine cnd_dec' (fun hc => ?_) (fun hc => ?_) | refine fin_nsplit (fun hc => ?_) (fun hc => ?_) | refine fin_split (fun hc => ?_) (fun hc => ?_) | refine cnd_nsplit (fun hc => ?_) (fun hc => ?_) | refine cnd_split (fun hc => ?_) (fun hc => ?_) | refine blk_exit_id ?_)
    refine seqS_id ?_
    have hc := Nat.zero_add 0
    repeat' (first | (simp only [hc, SX, AS, MK, l1, l2, k1, k2, k3, k4, own_rows, Nat.le_refl, AB, PL, RG, LP, TY, Nat.reduceEqDiff, Nat.reduceAdd, Nat.reduceSub, Nat.reduceMul, Nat.reduceLT, Nat.reduceLeDiff, Nat.reduceMod, Nat.reduceDiv, reduceCtorEq, Int.reduceEq, Int.reduceNe, Int.reduceLT, Int.reduceLE, Int.reduceNeg, Int.reduceToNat, Int.reduceAdd, Int.reduceSub, Int.reduceMul, ↓reduceIte, forall_const, eq_self, ne_eq, Option.some.injEq, beq_self_eq_true]) | refine fin_ndec (fun hc => ?_) (fun hc => ?_) | refine fin_dec (fun hc => ?_) (fun hc => ?_) | refine cnd_ndec (fun hc => ?_) (fun hc => ?_) | refine cnd_dec' (fun hc => ?_) (fun hc => ?_) | refine fin_nsplit (fun hc => ?_) (fun hc => ?_) | refine fin_split (fun hc => ?_) (fun hc => ?_) | refine cnd_nsplit (fun hc => ?_) (fun hc => ?_) | refine cnd_split (fun hc => ?_) (fun hc => ?_) | refine blk_exit_id ?_)
    have hr : (rep ow.length [D.str [], D.str [], D.int .i64 0, D.int .i64 0]).length = ow.length * 4 := rep_len _ _
    have hd : (rep ow.length [D.str [], D.str [], D.int .i64 0, D.int .i64 0]).drop (ow.length * 4) = [] := List.drop_of_length_le (by omega)
    simp only [hd, List.append_nil]
    have hch : chunk 4 ow.length (ow.map Own.row).flatten = ow.map Own.row := by
      have := chunk_flat (z := 4) (es := ow.map Own.row) (of_eq_true own_rows)
      rwa [l2] at this
    refine seqS_wk (Wk.freeze 3 2 ow.length 4 _ (by simp [look]) rfl) ?_
    rw [hch]
    have hc := Nat.zero_add 0
    repeat' (first | (simp only [hc, SX, AS, MK, l1, AB, PL, RG, LP, TY, Nat.reduceEqDiff, Nat.reduceAdd, Nat.reduceSub, Nat.reduceMul, Nat.reduceLT, Nat.reduceLeDiff, Nat.reduceMod, Nat.reduceDiv, reduceCtorEq, Int.reduceEq, Int.reduceNe, Int.reduceLT, Int.reduceLE, Int.reduceNeg, Int.reduceToNat, Int.reduceAdd, Int.reduceSub, Int.reduceMul, ↓reduceIte, forall_const, eq_self, ne_eq, Option.some.injEq, beq_self_eq_true]) | refine fin_ndec (fun hc => ?_) (fun hc => ?_) | refine fin_dec (fun hc => ?_) (fun hc => ?_) | refine cnd_ndec (fun hc => ?_) (fun hc => ?_) | refine cnd_dec' (fun hc => ?_) (fun hc => ?_) | refine fin_nsplit (fun hc => ?_) (fun hc => ?_) | refine fin_split (fun hc => ?_) (fun hc => ?_) | refine cnd_nsplit (fun hc => ?_) (fun hc => ?_) | refine cnd_split (fun hc => ?_) (fun hc => ?_) | refine blk_exit_id ?_)
    refine seqS_id ?_
    have hc := Nat.zero_add 0
    repeat' (first | (simp only [hc, SX, AS, MK, l1, AB, PL, RG, LP, TY, Nat.reduceEqDiff, Nat.reduceAdd, Nat.reduceSub, Nat.reduceMul, Nat.reduceLT, Nat.reduceLeDiff, Nat.reduceMod, Nat.reduceDiv, reduceCtorEq, Int.reduceEq, Int.reduceNe, Int.reduceLT, Int.reduceLE, Int.reduceNeg, Int.reduceToNat, Int.reduceAdd, Int.reduceSub, Int.reduceMul, ↓reduceIte, forall_const, eq_self, ne_eq, Option.some.injEq, beq_self_eq_true]) | refine fin_ndec (fun hc => ?_) (fun hc => ?_) | refine fin_dec (fun hc => ?_) (fun hc => ?_) | refine cnd_ndec (fun hc => ?_) (fun hc => ?_) | refine cnd_dec' (fun hc => ?_) (fun hc => ?_) | refine fin_nsplit (fun hc => ?_) (fun hc => ?_) | refine fin_split (fun hc => ?_) (fun hc => ?_) | refine cnd_nsplit (fun hc => ?_) (fun hc => ?_) | refine cnd_split (fun hc => ?_) (fun hc => ?_) | refine blk_exit_id ?_)
    refine seqS_id ?_
    have hc := Nat.zero_add 0
    repeat' (first | (simp only [hc, SX, AS, MK, l1, AB, PL, RG, LP, TY, Nat.reduceEqDiff, Nat.reduceAdd, Nat.reduceSub, Nat.reduceMul, Nat.reduceLT, Nat.reduceLeDiff, Nat.reduceMod, Nat.reduceDiv, reduceCtorEq, Int.reduceEq, Int.reduceNe, Int.reduceLT, Int.reduceLE, Int.reduceNeg, Int.reduceToNat, Int.reduceAdd, Int.reduceSub, Int.reduceMul, ↓reduceIte, forall_const, eq_self, ne_eq, Option.some.injEq, beq_self_eq_true]) | refine fin_ndec (fun hc => ?_) (fun hc => ?_) | refine fin_dec (fun hc => ?_) (fun hc => ?_) | refine cnd_ndec (fun hc => ?_) (fun hc => ?_) | refine cnd_dec' (fun hc => ?_) (fun hc => ?_) | refine fin_nsplit (fun hc => ?_) (fun hc => ?_) | refine fin_split (fun hc => ?_) (fun hc => ?_) | refine cnd_nsplit (fun hc => ?_) (fun hc => ?_) | refine cnd_split (fun hc => ?_) (fun hc => ?_) | refine blk_exit_id ?_)
    all_goals simp
  · cases h

end
end Go.Ab
