/-
  Texts of the layer and of the laws, put together: AbQ21. No law is stated here.
-/
import Derived.Test.YtfokeholingnjaaDoorAbV38
set_option linter.unusedSimpArgs false
set_option linter.unusedVariables false
set_option maxRecDepth 100000

/-
  The law of a day's parts.
-/
namespace Go.Ab
open Go.RowKit Go.Proofs

noncomputable section
open Classical

/-- A state with other charges. -/
def St.own (s : St) (f : Bool) (l : List Chg) : St := { s with cells := s.cells.set 33 (.sl f (l.map Chg.row)), cf := f, chs := l }
/-- The cells of a state whose charges lie in a cell x. -/
def boxC (s : St) (x : C1) : List C1 := (s.cells.map .d).set 33 x

theorem set_ne {xs : List D} {y z : D} {k : Nat} (hk : k ≠ 33) (h : xs[k]? = some z) : (xs.set 33 y)[k]? = some z := by
  rw [List.getElem?_set_ne (by omega)]; exact h
theorem St.own_is {s : St} (h : s.is) (f : Bool) (l : List Chg) : (s.own f l).is := by
  obtain ⟨hl, a17, a19, a20, a21, a22, a28, a29, a30, a31, a32, a33, a34, a35, a36, a37, a38⟩ := h
  refine ⟨by simp [St.own, hl], ?_, ?_, ?_, ?_, ?_, ?_, ?_, ?_, ?_, ?_, ?_, ?_, ?_, ?_, ?_, ?_⟩
  case refine_11 => simp [St.own, hl]
  all_goals exact set_ne (by decide) ‹_›
theorem St.own_wf {s : St} (h : s.Wf) {f : Bool} {l : List Chg} (hl : l.length ≤ s.chs.length) (hm : ∀ x ∈ l, x ∈ s.chs) : (s.own f l).Wf :=
  { h with chl := Nat.le_trans hl h.chl, chr := fun x hx => h.chr x (hm x hx) }
theorem St.own_small {s : St} (h : s.Small) {f : Bool} {l : List Chg} (hl : l.length ≤ s.chs.length) (hm : ∀ x ∈ l, x ∈ s.chs) : (s.own f l).Small :=
  { h with chs := Nat.le_trans hl h.chs, ones := fun x hx => h.ones x (hm x hx) }

theorem boxC_len {s : St} (h : s.cells.length = 39) {x : C1} : (boxC s x).length = 39 := by simp [boxC, h]
theorem boxC_get {s : St} (h : s.cells.length = 39) {x : C1} : (boxC s x)[33]? = some x := by simp [boxC, h]
theorem boxC_set {s : St} (h : s.cells.length = 39) {x y : C1} : (boxC s x).take 33 ++ y :: (boxC s x).drop 34 = boxC s y := by
  have := List.set_eq_take_append_cons_drop (l := boxC s x) (i := 33) (a := y)
  rw [if_pos (by rw [boxC_len h]; omega)] at this
  rw [← this]
  simp [boxC]
theorem boxC_new {s : St} (h : s.cells.length = 39) {y : C1} : (s.cells.take 33).map C1.d ++ y :: (s.cells.drop 34).map C1.d = boxC s y := by
  have := List.set_eq_take_append_cons_drop (l := s.cells.map C1.d) (i := 33) (a := y)
  rw [if_pos (by simp [h])] at this
  rw [boxC, this, List.map_take, List.map_drop]
theorem boxC_all {s : St} (h : s.cells.length = 39) {f : Bool} {l : List Chg} {x : C1} (hx : x.toD = some (.sl f (l.map Chg.row))) : allD (boxC s x) = some (s.own f l).cells := by
  have h1 : 33 < s.cells.length := by omega
  rw [← boxC_new h]
  show _ = some (s.cells.set 33 _)
  rw [List.set_eq_take_append_cons_drop, if_pos h1]
  have key : ∀ (a : List D) (b : List C1) (r : List D), allD b = some r → allD (a.map C1.d ++ b) = some (a ++ r) := fun a b r hb => by
    induction a with
    | nil => exact hb
    | cons d a ih => rw [List.map_cons, List.cons_append, allD_cons, ih]; rfl
  refine key _ _ _ ?_
  rw [allD_cons, hx, allD_map]
  rfl

theorem low_all {k : Nat} : ∀ (xs : List D) (i : Nat) (x : C1), i < xs.length → ((xs.map C1.d).set i x).all (C1.low k) = C1.low k x
  | [], _, _, h => absurd h (by simp)
  | y :: r, 0, x, _ => by
    have h : (r.map C1.d).all (C1.low k) = true := all_low_d k r
    rw [List.map_cons, List.set_cons_zero, List.all_cons, h, Bool.and_true]
  | y :: r, i + 1, x, h => by
    rw [List.map_cons, List.set_cons_succ, List.all_cons, low_all r i x (by simpa using h)]
    rfl
theorem box_low {s : St} (h : s.cells.length = 39) {k : Nat} {x : C1} : (boxC s x).all (C1.low k) = C1.low k x := low_all s.cells 33 x (by omega)

theorem win_iff {t d : Int} (h1 : 0 ≤ d) (h2 : d < 795364) : (86400 * d ≤ t ∧ t < 86400 * (d + 1)) ↔ dayF t = d := by
  unfold dayF
  by_cases ht : isT t = true
  · rw [if_pos ht]
    simp only [isT, Bool.and_eq_true, decide_eq_true_eq] at ht
    have e : t.tdiv 86400 = t / 86400 := Int.tdiv_eq_ediv_of_nonneg ht.1
    rw [e, show W (t / 86400) = t / 86400 from wI (by omega) (by omega)]
    omega
  · rw [if_neg ht]
    simp only [isT, Bool.and_eq_true, decide_eq_true_eq] at ht
    omega

theorem onDay_idem (d : Int) (l : List Chg) : onDay d (onDay d l) = onDay d l := by simp [onDay, List.filter_filter]
theorem dayRep_idem (d : Int) (l : List Chg) : dayRep (onDay d l) d = dayRep l d := by unfold dayRep; rw [onDay_idem]
theorem dayRep_nil (d : Int) : dayRep [] d = lineF [[100, 97, 121], dateF d] ++ [115, 117, 109, 32, 48, 32, 48, 46, 48, 48, 10] := by
  have h : lineF [[115, 117, 109], Lib.itoa ((onDay d []).length : Int), showF (sumC (onDay d []))] = [115, 117, 109, 32, 48, 32, 48, 46, 48, 48, 10] := show lineF [[115, 117, 109], Lib.itoa ((0 : Nat) : Int), showF (sumC [])] = _ by decide +kernel
  unfold dayRep
  rw [h]
  simp [onDay]

theorem slS_pre {a b : List UInt8} : slS (a ++ b) 0 a.length = some (.str a) := by
  unfold slS
  rw [if_pos (by rw [List.length_append]; omega)]
  simp
theorem slS_suf {a b : List UInt8} : slS (a ++ b) a.length (a ++ b).length = some (.str b) := by
  unfold slS
  rw [if_pos (by rw [List.length_append]; omega)]
  rw [Int.toNat_natCast, Int.toNat_natCast, List.drop_left, List.length_append, Nat.add_sub_cancel_left, List.take_length]
theorem slS_mid {a b c : List UInt8} : slS (a ++ b ++ c) a.length (a.length + b.length : Int) = some (.str b) := by
  unfold slS
  rw [if_pos (by simp only [List.length_append]; omega)]
  have h : ((a.length : Int) + b.length).toNat - ((a.length : Int)).toNat = b.length := by omega
  rw [h, Int.toNat_natCast, List.append_assoc, List.drop_left, List.take_left]
theorem slS_none {a b : List UInt8} : slS (a ++ b) a.length a.length = some (.str []) := by
  unfold slS
  rw [if_pos (by rw [List.length_append]; omega)]
  simp

/-- Between two rounds. -/
def partS (s : St) (d : Int) (L R : List UInt8) (j : Nat) : List Chg → S
  | [] => ⟨[(11, AV.i j), (10, AV.s []), (9, AV.i 0), (8, AV.s (L ++ [115, 117, 109, 32, 48, 32, 48, 46, 48, 48, 10])), (7, .v (.c (.ptr 1 0))), (6, AV.i 0), (5, AV.s R), (2, .v (.c (.ptr 0 0))), (1, AV.i d)], [.box (s.cells.map .d), .box (boxC s (.d (.sl true [])))]⟩
  | z :: r => ⟨[(11, AV.i j), (10, AV.s ((z :: r).flatMap chargeF)), (9, AV.i 0), (8, AV.s (L ++ [115, 117, 109, 32, 48, 32, 48, 46, 48, 48, 10])), (7, .v (.c (.ptr 1 0))), (6, AV.i 0), (5, AV.s R), (2, .v (.c (.ptr 0 0))), (1, AV.i d)], [.box (s.cells.map .d), .box (boxC s (.own 3 ((z :: r).map Chg.row))), .box (z.row.map .d), .tok (r.length + 1) 7 none]⟩
theorem partS_nil {s : St} {d : Int} {L R : List UInt8} {j : Nat} : partS s d L R j [] = ⟨[(11, AV.i j), (10, AV.s []), (9, AV.i 0), (8, AV.s (L ++ [115, 117, 109, 32, 48, 32, 48, 46, 48, 48, 10])), (7, .v (.c (.ptr 1 0))), (6, AV.i 0), (5, AV.s R), (2, .v (.c (.ptr 0 0))), (1, AV.i d)], [.box (s.cells.map .d), .box (boxC s (.d (.sl true [])))]⟩ := rfl
theorem partS_cons {s : St} {d : Int} {L R : List UInt8} {j : Nat} {z : Chg} {r : List Chg} : partS s d L R j (z :: r) = ⟨[(11, AV.i j), (10, AV.s ((z :: r).flatMap chargeF)), (9, AV.i 0), (8, AV.s (L ++ [115, 117, 109, 32, 48, 32, 48, 46, 48, 48, 10])), (7, .v (.c (.ptr 1 0))), (6, AV.i 0), (5, AV.s R), (2, .v (.c (.ptr 0 0))), (1, AV.i d)], [.box (s.cells.map .d), .box (boxC s (.own 3 ((z :: r).map Chg.row))), .box (z.row.map .d), .tok (r.length + 1) 7 none]⟩ := rfl

def lParts_m : List PA → Option (List PA) := mR stI fun p => if p.1.Wf then some [.b true] else none

theorem lParts_ok : PureC Tryd.prog Gt 8 lParts_m := by
  refine pure_of_awp (X := ctx Tryd.prog Gt [(14, small_m), (15, tday_m), (11, charge_m), (13, alive_m)]) Tryd.func8 rfl rfl (by kernel_rfl) (by kernel_rfl) (AllOk.cons small_ok (AllOk.cons tday_ok (AllOk.cons charge_ok (AllOk.cons alive_ok AllOk.nil)))).kok ?_
  intro args r h0
  obtain ⟨⟨s, d⟩, ⟨hs, rfl⟩, h⟩ := mR_inv h0
  refine ⟨Nat.le_of_ble_eq_true rfl, ?_⟩
  split at h
  · rename_i hw
    dsimp only at hs hw h ⊢
    cases h
    have f1 := small_at hs hw
    have hl := hs.len
    have ht : s.cells.take 39 = s.cells := List.take_of_length_le (by omega)
    by_cases hsm : s.Small
    · rw [decide_eq_true hsm] at f1
      have f2 := tday_at (d := d) hs hw hsm
      by_cases hD : isD d = true
      · rw [if_pos hD] at f2
        have hd := isD_iff.1 hD
        have b1 := @boxC_new s hl
        have b2 := @boxC_len s hl
        have b3 := @boxC_all s hl
        have b4 : ∀ x, (boxC s x).take 39 = boxC s x := fun x => List.take_of_length_le (by rw [b2]; omega)
        have b5 : allD (boxC s (.d (.sl true []))) = some (s.own true []).cells := boxC_all hl rfl
        have f3 := tday_at (d := d) (St.own_is hs true []) (St.own_wf hw (by simp) (by simp)) (St.own_small hsm (by simp) (by simp))
        rw [if_pos hD, show (s.own true []).chs = [] from rfl, dayRep_nil] at f3
        have c33 := hs.c33
        have l33 : ((s.chs.map Chg.row).length : Int) = s.chs.length := by simp
        have e1 : IntKind.i64.wrap (86400 * d) = 86400 * d := wI (by omega) (by omega)
        have e2 : IntKind.i64.wrap (d + 1) = d + 1 := wI (by omega) (by omega)
        have e3 : IntKind.i64.wrap (86400 * (d + 1)) = 86400 * (d + 1) := wI (by omega) (by omega)
        have hc := Nat.zero_add 0
        repeat' (first | (simp only [hc, Tryd.f8, SX, WH, hl, ht, f1, f2, b1, b2, b4, b5, f3, c33, l33, AB, PL, RG, LP, TY, Nat.reduceEqDiff, Nat.reduceAdd, Nat.reduceSub, Nat.reduceMul, Nat.reduceLT, Nat.reduceLeDiff, Nat.reduceMod, Nat.reduceDiv, reduceCtorEq, Int.reduceEq, Int.reduceNe, Int.reduceLT, Int.reduceLE, Int.reduceNeg, Int.reduceToNat, Int.reduceAdd, Int.reduceSub, Int.reduceMul, ↓reduceIte, forall_const, eq_self, ne_eq, Option.some.injEq, beq_self_eq_true]) | refine fin_ndec (fun hc => ?_) (fun hc => ?_) | refine fin_dec (fun hc => ?_) (fun hc => ?_) | refine cnd_ndec (fun hc => ?_) (fun hc => ?_) | refine cnd_dec' (fun hc => ?_) (fun hc => ?_) | refine fin_nsplit (fun hc => ?_) (fun hc => ?_) | refine fin_split (fun hc => ?_) (fun hc => ?_) | refine cnd_nsplit (fun hc => ?_) (fun hc => ?_) | refine cnd_split (fun hc => ?_) (fun hc => ?_) | refine blk_exit_id ?_)
        have hHl : (lineF [[100, 97, 121], dateF d]).length ≤ 2003 := line_le (l := [_, _]) (le2 (by simp) (by have := date_le d; omega))
        have bl := @box_low s hl
        have hlen := day_len d hsm.chs hsm.ones (fun x hx => (hw.chr x hx).1)
        have hcl := hsm.chs
        have hR : dayRep s.chs d = lineF [[100, 97, 121], dateF d] ++ (onDay d s.chs).flatMap chargeF ++ lineF [[115, 117, 109], Lib.itoa (onDay d s.chs).length, showF (sumC (onDay d s.chs))] := rfl
        have hR0 : onDay d s.chs = [] → dayRep s.chs d = lineF [[100, 97, 121], dateF d] ++ [115, 117, 109, 32, 48, 32, 48, 46, 48, 48, 10] := fun h => by rw [← dayRep_nil, ← h, dayRep_idem]
        generalize hL : lineF [[100, 97, 121], dateF d] = L at *
        generalize hA : dayRep s.chs d = R at *
        refine awp_loop (σ := Nat) (fun j => j ≤ s.chs.length)
          (fun j => partS s d L R j (onDay d (s.chs.take j)))
          (fun j => s.chs.length - j) 0 (by rw [show onDay d (s.chs.take 0) = [] by simp [onDay], partS_nil]; exact Wk.sub' (by simp [subT, look, onDay]) (by simp [onDay])) (by simp) ?_
        intro j hj
        obtain ⟨k0, k1⟩ := hlen j
        by_cases hjl : j < s.chs.length
        · have e4 : (s.chs.map Chg.row)[j]? = some s.chs[j].row := by simp [hjl]
          have hlt : ((j : Int) < (s.chs.length : Int)) = True := eq_true (by omega)
          have hw1 := wI (n := (j : Int) + 1) (by omega) (by omega)
          have hmem : s.chs[j] ∈ s.chs := List.getElem_mem hjl
          have hstep : s.chs.take (j + 1) = s.chs.take j ++ [s.chs[j]] := List.take_succ_eq_append_getElem hjl
          have g1 := charge_at (hsm.ones _ hmem) (hw.chr _ hmem).1
          have g4 := chargeF_le (hsm.ones _ hmem) (hw.chr _ hmem).1
          generalize s.chs[j] = y at *
          have hwin := win_iff (t := y.time) hd.1 hd.2
          simp only [Chg.row] at e4 g1
          have k3 : (((onDay d (s.chs.take j)).length + 1) * 96 ≤ 140737488355328) = True := eq_true (by omega)
          have k4 : ((onDay d (s.chs.take j)).length + 1 ≤ 4611686018427387904) = True := eq_true (by omega)
          have k5 : (((onDay d (s.chs.take j)).flatMap chargeF).length + (chargeF y).length ≤ 4611686018427387904) = True := eq_true (by omega)
          have k6 : ((chargeF y).length ≤ 4611686018427387904) = True := eq_true (by omega)
          cases hq : onDay d (s.chs.take j) with
          | nil =>
            rw [partS_nil]
            by_cases hy : dayF y.time = d
            · have q1 := on_snoc_t (l := s.chs.take j) hy
              rw [← hstep, hq] at q1
              obtain ⟨w1, w2⟩ := hwin.2 hy
              have w1' : (86400 * d ≤ y.time) = True := eq_true w1
              have w2' : (y.time < 86400 * (d + 1)) = True := eq_true w2
              have hc := Nat.zero_add 0
              repeat' (first | (simp only [hc, SX, WH, hq, e4, l33, c33, hlt, nn, hw1, e1, e2, e3, w1', w2', g1, b2, @boxC_get s hl, @boxC_set s hl, apSl, k6, List.length_nil, Nat.zero_add, AB, PL, RG, LP, TY, Nat.reduceEqDiff, Nat.reduceAdd, Nat.reduceSub, Nat.reduceMul, Nat.reduceLT, Nat.reduceLeDiff, Nat.reduceMod, Nat.reduceDiv, reduceCtorEq, Int.reduceEq, Int.reduceNe, Int.reduceLT, Int.reduceLE, Int.reduceNeg, Int.reduceToNat, Int.reduceAdd, Int.reduceSub, Int.reduceMul, ↓reduceIte, forall_const, eq_self, ne_eq, Option.some.injEq, beq_self_eq_true]) | refine fin_ndec (fun hc => ?_) (fun hc => ?_) | refine fin_dec (fun hc => ?_) (fun hc => ?_) | refine cnd_ndec (fun hc => ?_) (fun hc => ?_) | refine cnd_dec' (fun hc => ?_) (fun hc => ?_) | refine fin_nsplit (fun hc => ?_) (fun hc => ?_) | refine fin_split (fun hc => ?_) (fun hc => ?_) | refine cnd_nsplit (fun hc => ?_) (fun hc => ?_) | refine cnd_split (fun hc => ?_) (fun hc => ?_) | refine blk_exit_id ?_)
              refine lp_next (j + 1) ?_ (by omega) (by omega)
              show Wk _ _ (partS s d L R (j + 1) (onDay d (s.chs.take (j + 1))))
              rw [q1, List.nil_append, partS_cons]
              exact Wk.cutk (k := 4) (by simp) (by simp) (by simp [Chg.row]) (by simp [subT, look, Chg.row]) (by first | rfl | simp [AV.low, V.low, C1.low]) (by simp only [List.all_cons, List.all_nil, Ob.low, bl, all_low_d]; rfl)
            · have q1 := on_snoc_f (l := s.chs.take j) hy
              rw [← hstep, hq] at q1
              by_cases w1 : 86400 * d ≤ y.time
              · have w2 : ¬ y.time < 86400 * (d + 1) := fun h => hy (hwin.1 ⟨w1, h⟩)
                have w1' : (86400 * d ≤ y.time) = True := eq_true w1
                have w2' : (y.time < 86400 * (d + 1)) = False := eq_false w2
                have hc := Nat.zero_add 0
                repeat' (first | (simp only [hc, SX, WH, hq, e4, l33, c33, hlt, nn, hw1, e1, e2, e3, w1', w2', b2, @boxC_get s hl, @boxC_set s hl, AB, PL, RG, LP, TY, Nat.reduceEqDiff, Nat.reduceAdd, Nat.reduceSub, Nat.reduceMul, Nat.reduceLT, Nat.reduceLeDiff, Nat.reduceMod, Nat.reduceDiv, reduceCtorEq, Int.reduceEq, Int.reduceNe, Int.reduceLT, Int.reduceLE, Int.reduceNeg, Int.reduceToNat, Int.reduceAdd, Int.reduceSub, Int.reduceMul, ↓reduceIte, forall_const, eq_self, ne_eq, Option.some.injEq, beq_self_eq_true]) | refine fin_ndec (fun hc => ?_) (fun hc => ?_) | refine fin_dec (fun hc => ?_) (fun hc => ?_) | refine cnd_ndec (fun hc => ?_) (fun hc => ?_) | refine cnd_dec' (fun hc => ?_) (fun hc => ?_) | refine fin_nsplit (fun hc => ?_) (fun hc => ?_) | refine fin_split (fun hc => ?_) (fun hc => ?_) | refine cnd_nsplit (fun hc => ?_) (fun hc => ?_) | refine cnd_split (fun hc => ?_) (fun hc => ?_) | refine blk_exit_id ?_)
                refine lp_next (j + 1) ?_ (by omega) (by omega)
                show Wk _ _ (partS s d L R (j + 1) (onDay d (s.chs.take (j + 1))))
                rw [q1, partS_nil]
                exact Wk.cutk (k := 2) (by simp) (by simp) (by simp) (by simp [subT, look]) (by first | rfl | simp [AV.low, V.low, C1.low]) (by simp only [List.all_cons, List.all_nil, Ob.low, bl, all_low_d]; rfl)
              · have w1' : (86400 * d ≤ y.time) = False := eq_false w1
                have hc := Nat.zero_add 0
                repeat' (first | (simp only [hc, SX, WH, hq, e4, l33, c33, hlt, nn, hw1, e1, e2, e3, w1', b2, @boxC_get s hl, @boxC_set s hl, AB, PL, RG, LP, TY, Nat.reduceEqDiff, Nat.reduceAdd, Nat.reduceSub, Nat.reduceMul, Nat.reduceLT, Nat.reduceLeDiff, Nat.reduceMod, Nat.reduceDiv, reduceCtorEq, Int.reduceEq, Int.reduceNe, Int.reduceLT, Int.reduceLE, Int.reduceNeg, Int.reduceToNat, Int.reduceAdd, Int.reduceSub, Int.reduceMul, ↓reduceIte, forall_const, eq_self, ne_eq, Option.some.injEq, beq_self_eq_true]) | refine fin_ndec (fun hc => ?_) (fun hc => ?_) | refine fin_dec (fun hc => ?_) (fun hc => ?_) | refine cnd_ndec (fun hc => ?_) (fun hc => ?_) | refine cnd_dec' (fun hc => ?_) (fun hc => ?_) | refine fin_nsplit (fun hc => ?_) (fun hc => ?_) | refine fin_split (fun hc => ?_) (fun hc => ?_) | refine cnd_nsplit (fun hc => ?_) (fun hc => ?_) | refine cnd_split (fun hc => ?_) (fun hc => ?_) | refine blk_exit_id ?_)
                refine lp_next (j + 1) ?_ (by omega) (by omega)
                show Wk _ _ (partS s d L R (j + 1) (onDay d (s.chs.take (j + 1))))
                rw [q1, partS_nil]
                exact Wk.cutk (k := 2) (by simp) (by simp) (by simp) (by simp [subT, look]) (by first | rfl | simp [AV.low, V.low, C1.low]) (by simp only [List.all_cons, List.all_nil, Ob.low, bl, all_low_d]; rfl)
          | cons z r =>
            rw [hq] at k3 k4 k5
            simp only [List.length_cons] at k3 k4
            have lo : (z.row :: r.map Chg.row).length = r.length + 1 := by simp
            rw [partS_cons]
            by_cases hy : dayF y.time = d
            · have q1 := on_snoc_t (l := s.chs.take j) hy
              rw [← hstep, hq] at q1
              obtain ⟨w1, w2⟩ := hwin.2 hy
              have w1' : (86400 * d ≤ y.time) = True := eq_true w1
              have w2' : (y.time < 86400 * (d + 1)) = True := eq_true w2
              have hc := Nat.zero_add 0
              repeat' (first | (simp only [hc, SX, WH, hq, e4, l33, c33, hlt, nn, hw1, e1, e2, e3, w1', w2', g1, b2, @boxC_get s hl, @boxC_set s hl, lo, k3, k4, k5, AB, PL, RG, LP, TY, Nat.reduceEqDiff, Nat.reduceAdd, Nat.reduceSub, Nat.reduceMul, Nat.reduceLT, Nat.reduceLeDiff, Nat.reduceMod, Nat.reduceDiv, reduceCtorEq, Int.reduceEq, Int.reduceNe, Int.reduceLT, Int.reduceLE, Int.reduceNeg, Int.reduceToNat, Int.reduceAdd, Int.reduceSub, Int.reduceMul, ↓reduceIte, forall_const, eq_self, ne_eq, Option.some.injEq, beq_self_eq_true]) | refine fin_ndec (fun hc => ?_) (fun hc => ?_) | refine fin_dec (fun hc => ?_) (fun hc => ?_) | refine cnd_ndec (fun hc => ?_) (fun hc => ?_) | refine cnd_dec' (fun hc => ?_) (fun hc => ?_) | refine fin_nsplit (fun hc => ?_) (fun hc => ?_) | refine fin_split (fun hc => ?_) (fun hc => ?_) | refine cnd_nsplit (fun hc => ?_) (fun hc => ?_) | refine cnd_split (fun hc => ?_) (fun hc => ?_) | refine blk_exit_id ?_)
              refine lp_next (j + 1) ?_ (by omega) (by omega)
              show Wk _ _ (partS s d L R (j + 1) (onDay d (s.chs.take (j + 1))))
              rw [q1, List.cons_append, partS_cons]
              exact Wk.cutk (k := 4) (by simp) (by simp) (by simp [Chg.row]) (by simp [subT, look, Chg.row]) (by first | rfl | simp [AV.low, V.low, C1.low]) (by simp only [List.all_cons, List.all_nil, Ob.low, bl, all_low_d]; rfl)
            · have q1 := on_snoc_f (l := s.chs.take j) hy
              rw [← hstep, hq] at q1
              by_cases w1 : 86400 * d ≤ y.time
              · have w2 : ¬ y.time < 86400 * (d + 1) := fun h => hy (hwin.1 ⟨w1, h⟩)
                have w1' : (86400 * d ≤ y.time) = True := eq_true w1
                have w2' : (y.time < 86400 * (d + 1)) = False := eq_false w2
                have hc := Nat.zero_add 0
                repeat' (first | (simp only [hc, SX, WH, hq, e4, l33, c33, hlt, nn, hw1, e1, e2, e3, w1', w2', b2, @boxC_get s hl, @boxC_set s hl, AB, PL, RG, LP, TY, Nat.reduceEqDiff, Nat.reduceAdd, Nat.reduceSub, Nat.reduceMul, Nat.reduceLT, Nat.reduceLeDiff, Nat.reduceMod, Nat.reduceDiv, reduceCtorEq, Int.reduceEq, Int.reduceNe, Int.reduceLT, Int.reduceLE, Int.reduceNeg, Int.reduceToNat, Int.reduceAdd, Int.reduceSub, Int.reduceMul, ↓reduceIte, forall_const, eq_self, ne_eq, Option.some.injEq, beq_self_eq_true]) | refine fin_ndec (fun hc => ?_) (fun hc => ?_) | refine fin_dec (fun hc => ?_) (fun hc => ?_) | refine cnd_ndec (fun hc => ?_) (fun hc => ?_) | refine cnd_dec' (fun hc => ?_) (fun hc => ?_) | refine fin_nsplit (fun hc => ?_) (fun hc => ?_) | refine fin_split (fun hc => ?_) (fun hc => ?_) | refine cnd_nsplit (fun hc => ?_) (fun hc => ?_) | refine cnd_split (fun hc => ?_) (fun hc => ?_) | refine blk_exit_id ?_)
                refine lp_next (j + 1) ?_ (by omega) (by omega)
                show Wk _ _ (partS s d L R (j + 1) (onDay d (s.chs.take (j + 1))))
                rw [q1, partS_cons]
                exact Wk.cutk (k := 4) (by simp) (by simp) (by simp) (by simp [subT, look]) (by first | rfl | simp [AV.low, V.low, C1.low]) (by simp only [List.all_cons, List.all_nil, Ob.low, bl, all_low_d]; rfl)
              · have w1' : (86400 * d ≤ y.time) = False := eq_false w1
                have hc := Nat.zero_add 0
                repeat' (first | (simp only [hc, SX, WH, hq, e4, l33, c33, hlt, nn, hw1, e1, e2, e3, w1', b2, @boxC_get s hl, @boxC_set s hl, AB, PL, RG, LP, TY, Nat.reduceEqDiff, Nat.reduceAdd, Nat.reduceSub, Nat.reduceMul, Nat.reduceLT, Nat.reduceLeDiff, Nat.reduceMod, Nat.reduceDiv, reduceCtorEq, Int.reduceEq, Int.reduceNe, Int.reduceLT, Int.reduceLE, Int.reduceNeg, Int.reduceToNat, Int.reduceAdd, Int.reduceSub, Int.reduceMul, ↓reduceIte, forall_const, eq_self, ne_eq, Option.some.injEq, beq_self_eq_true]) | refine fin_ndec (fun hc => ?_) (fun hc => ?_) | refine fin_dec (fun hc => ?_) (fun hc => ?_) | refine cnd_ndec (fun hc => ?_) (fun hc => ?_) | refine cnd_dec' (fun hc => ?_) (fun hc => ?_) | refine fin_nsplit (fun hc => ?_) (fun hc => ?_) | refine fin_split (fun hc => ?_) (fun hc => ?_) | refine cnd_nsplit (fun hc => ?_) (fun hc => ?_) | refine cnd_split (fun hc => ?_) (fun hc => ?_) | refine blk_exit_id ?_)
                refine lp_next (j + 1) ?_ (by omega) (by omega)
                show Wk _ _ (partS s d L R (j + 1) (onDay d (s.chs.take (j + 1))))
                rw [q1, partS_cons]
                exact Wk.cutk (k := 4) (by simp) (by simp) (by simp) (by simp [subT, look]) (by first | rfl | simp [AV.low, V.low, C1.low]) (by simp only [List.all_cons, List.all_nil, Ob.low, bl, all_low_d]; rfl)
        · have hlt : ((j : Int) < (s.chs.length : Int)) = False := eq_false (by omega)
          have et : s.chs.take j = s.chs := List.take_of_length_le (by omega)
          rw [et] at k0 k1 ⊢
          have w0 : IntKind.i64.wrap (((L ++ [115, 117, 109, 32, 48, 32, 48, 46, 48, 48, 10]).length : Int) - 11) = (L.length : Int) := by
            simp only [List.length_append, List.length_cons, List.length_nil]
            rw [wI (by omega) (by omega)]
            omega
          have n0 : ((L.length : Int) < 0) = False := eq_false (by omega)
          have v1 := @slS_pre L [115, 117, 109, 32, 48, 32, 48, 46, 48, 48, 10]
          have v2 := @slS_suf L [115, 117, 109, 32, 48, 32, 48, 46, 48, 48, 10]
          cases hq : onDay d s.chs with
          | nil =>
            rw [partS_nil]
            obtain rfl := hR0 hq
            have n1 : (((L ++ [115, 117, 109, 32, 48, 32, 48, 46, 48, 48, 10]).length : Int) < (L.length : Int)) = False := eq_false (by rw [List.length_append]; omega)
            have w2 : IntKind.i64.wrap (L.length : Int) = (L.length : Int) := wI (by omega) (by omega)
            have v3 := @slS_none L [115, 117, 109, 32, 48, 32, 48, 46, 48, 48, 10]
            have hc := Nat.zero_add 0
            repeat' (first | (simp only [hc, SX, WH, l33, c33, hlt, b2, b4, b5, f3, @boxC_get s hl, @boxC_set s hl, aliv, w0, n0, v1, v2, n1, w2, v3, List.length_nil, Int.add_zero, nn, AB, PL, RG, LP, TY, Nat.reduceEqDiff, Nat.reduceAdd, Nat.reduceSub, Nat.reduceMul, Nat.reduceLT, Nat.reduceLeDiff, Nat.reduceMod, Nat.reduceDiv, reduceCtorEq, Int.reduceEq, Int.reduceNe, Int.reduceLT, Int.reduceLE, Int.reduceNeg, Int.reduceToNat, Int.reduceAdd, Int.reduceSub, Int.reduceMul, ↓reduceIte, forall_const, eq_self, ne_eq, Option.some.injEq, beq_self_eq_true]) | refine fin_ndec (fun hc => ?_) (fun hc => ?_) | refine fin_dec (fun hc => ?_) (fun hc => ?_) | refine cnd_ndec (fun hc => ?_) (fun hc => ?_) | refine cnd_dec' (fun hc => ?_) (fun hc => ?_) | refine fin_nsplit (fun hc => ?_) (fun hc => ?_) | refine fin_split (fun hc => ?_) (fun hc => ?_) | refine cnd_nsplit (fun hc => ?_) (fun hc => ?_) | refine cnd_split (fun hc => ?_) (fun hc => ?_) | refine blk_exit_id ?_)
            all_goals simp [DV.b]
          | cons z r =>
            rw [partS_cons]
            have hm : ∀ x ∈ z :: r, x ∈ s.chs := fun x hx => by rw [← hq] at hx; exact (List.mem_filter.1 hx).1
            have hle : (z :: r).length ≤ s.chs.length := by rw [← hq]; exact List.length_filter_le _ _
            have f4 := tday_at (d := d) (St.own_is hs false (z :: r)) (St.own_wf hw hle hm) (St.own_small hsm hle hm)
            rw [if_pos hD, show (s.own false (z :: r)).chs = z :: r from rfl, ← hq, dayRep_idem, hA, hq] at f4
            have b6 : allD (boxC s (.own 3 (z.row :: r.map Chg.row))) = some (s.own false (z :: r)).cells := boxC_all hl rfl
            rw [hq] at hR k1
            generalize (z :: r).flatMap chargeF = P at *
            generalize lineF [[115, 117, 109], Lib.itoa ((z :: r).length : Int), showF (sumC (z :: r))] = Z at *
            have n1 : ((R.length : Int) < (L.length : Int) + P.length) = False := eq_false (by rw [hR]; simp only [List.length_append]; omega)
            have w2 : IntKind.i64.wrap ((L.length : Int) + P.length) = (L.length : Int) + P.length := wI (by omega) (by omega)
            have v3 : slS R 0 L.length = some (.str L) := by rw [hR, List.append_assoc]; exact slS_pre
            have v4 : slS R L.length ((L.length : Int) + P.length) = some (.str P) := by rw [hR]; exact slS_mid
            have hc := Nat.zero_add 0
            repeat' (first | (simp only [hc, SX, WH, l33, c33, hlt, b2, b4, b6, f4, @boxC_get s hl, @boxC_set s hl, aliv, w0, n0, v1, v2, n1, w2, v3, v4, AB, PL, RG, LP, TY, Nat.reduceEqDiff, Nat.reduceAdd, Nat.reduceSub, Nat.reduceMul, Nat.reduceLT, Nat.reduceLeDiff, Nat.reduceMod, Nat.reduceDiv, reduceCtorEq, Int.reduceEq, Int.reduceNe, Int.reduceLT, Int.reduceLE, Int.reduceNeg, Int.reduceToNat, Int.reduceAdd, Int.reduceSub, Int.reduceMul, ↓reduceIte, forall_const, eq_self, ne_eq, Option.some.injEq, beq_self_eq_true]) | refine fin_ndec (fun hc => ?_) (fun hc => ?_) | refine fin_dec (fun hc => ?_) (fun hc => ?_) | refine cnd_ndec (fun hc => ?_) (fun hc => ?_) | refine cnd_dec' (fun hc => ?_) (fun hc => ?_) | refine fin_nsplit (fun hc => ?_) (fun hc => ?_) | refine fin_split (fun hc => ?_) (fun hc => ?_) | refine cnd_nsplit (fun hc => ?_) (fun hc => ?_) | refine cnd_split (fun hc => ?_) (fun hc => ?_) | refine blk_exit_id ?_)
            all_goals simp [DV.b]
      · rw [if_neg hD] at f2
        have hc := Nat.zero_add 0
        repeat' (first | (simp only [hc, Tryd.f8, SX, WH, hl, ht, f1, f2, aliv, AB, PL, RG, LP, TY, Nat.reduceEqDiff, Nat.reduceAdd, Nat.reduceSub, Nat.reduceMul, Nat.reduceLT, Nat.reduceLeDiff, Nat.reduceMod, Nat.reduceDiv, reduceCtorEq, Int.reduceEq, Int.reduceNe, Int.reduceLT, Int.reduceLE, Int.reduceNeg, Int.reduceToNat, Int.reduceAdd, Int.reduceSub, Int.reduceMul, ↓reduceIte, forall_const, eq_self, ne_eq, Option.some.injEq, beq_self_eq_true]) | refine fin_ndec (fun hc => ?_) (fun hc => ?_) | refine fin_dec (fun hc => ?_) (fun hc => ?_) | refine cnd_ndec (fun hc => ?_) (fun hc => ?_) | refine cnd_dec' (fun hc => ?_) (fun hc => ?_) | refine fin_nsplit (fun hc => ?_) (fun hc => ?_) | refine fin_split (fun hc => ?_) (fun hc => ?_) | refine cnd_nsplit (fun hc => ?_) (fun hc => ?_) | refine cnd_split (fun hc => ?_) (fun hc => ?_) | refine blk_exit_id ?_)
        all_goals simp [DV.b]
    · rw [decide_eq_false hsm] at f1
      have hc := Nat.zero_add 0
      repeat' (first | (simp only [hc, Tryd.f8, SX, WH, hl, ht, f1, AB, PL, RG, LP, TY, Nat.reduceEqDiff, Nat.reduceAdd, Nat.reduceSub, Nat.reduceMul, Nat.reduceLT, Nat.reduceLeDiff, Nat.reduceMod, Nat.reduceDiv, reduceCtorEq, Int.reduceEq, Int.reduceNe, Int.reduceLT, Int.reduceLE, Int.reduceNeg, Int.reduceToNat, Int.reduceAdd, Int.reduceSub, Int.reduceMul, ↓reduceIte, forall_const, eq_self, ne_eq, Option.some.injEq, beq_self_eq_true]) | refine fin_ndec (fun hc => ?_) (fun hc => ?_) | refine fin_dec (fun hc => ?_) (fun hc => ?_) | refine cnd_ndec (fun hc => ?_) (fun hc => ?_) | refine cnd_dec' (fun hc => ?_) (fun hc => ?_) | refine fin_nsplit (fun hc => ?_) (fun hc => ?_) | refine fin_split (fun hc => ?_) (fun hc => ?_) | refine cnd_nsplit (fun hc => ?_) (fun hc => ?_) | refine cnd_split (fun hc => ?_) (fun hc => ?_) | refine blk_exit_id ?_)
      all_goals simp [DV.b]
  · cases h

end
end Go.Ab
