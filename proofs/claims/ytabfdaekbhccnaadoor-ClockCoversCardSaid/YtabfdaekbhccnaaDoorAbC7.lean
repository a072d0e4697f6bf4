/-
  What the functions of the calendar compute: the occurrences of a window within an interval.
-/
import Derived.Test.YtabfdaekbhccnaaDoorAbC6
set_option linter.unusedSimpArgs false
set_option linter.unusedVariables false
namespace Go.Ab
open Go.RowKit Go.Proofs

def mxI (f x : Int) : Int := if x > f then x else f
def mnI (t y : Int) : Int := if y < t then y else t

/-- One day. -/
def spStep (a b c f t dd : Int) (out : List Iv) : List Iv :=
  if setB a (dd.tmod 7).toNat = true then
    (if mnI t (dd * 86400 + c * 60) ≤ mxI f (dd * 86400 + b * 60) then out else
      match out.getLast? with
      | some p => if p.2 = mxI f (dd * 86400 + b * 60) then out.dropLast ++ [(p.1, mnI t (dd * 86400 + c * 60))] else out ++ [(mxI f (dd * 86400 + b * 60), mnI t (dd * 86400 + c * 60))]
      | none => [(mxI f (dd * 86400 + b * 60), mnI t (dd * 86400 + c * 60))])
  else out

def spL (a b c f t : Int) : Nat → Int → List Iv → List Iv
  | 0, _, out => out
  | n + 1, dd, out => spL a b c f t n (dd + 1) (spStep a b c f t dd out)

def spansOf (a b c f t : Int) : Option (List Iv) × Int :=
  if ivalB f t = true then
    (if 366 ≤ (t - 1) / 86400 - f / 86400 then (none, 3) else if validB a b c = true then (some (spL a b c f t ((t - 1) / 86400 - f / 86400 + 1).toNat (f / 86400) []), 0) else (none, 0))
  else (none, 12)

def slI : Option (List Iv) → D
  | none => .sl true []
  | some l => .sl false (l.map rowI)

def mwv (g : Int → Int → Int → Int → Int → Option (List PA)) : List PA → Option (List PA)
  | [.agg [.int .i64 a, .int .i64 b, .int .i64 c], .agg [.int .i64 f, .int .i64 t]] => g a b c f t
  | _ => none
theorem mwv_inv {g : Int → Int → Int → Int → Int → Option (List PA)} {args r : List PA} (h : mwv g args = some r) : ∃ a b c f t, args = [.agg [.int .i64 a, .int .i64 b, .int .i64 c], .agg [.int .i64 f, .int .i64 t]] ∧ g a b c f t = some r := by
  unfold mwv at h
  split at h
  · exact ⟨_, _, _, _, _, rfl, h⟩
  · cases h
theorem mwv_eq {g : Int → Int → Int → Int → Int → Option (List PA)} {a b c f t : Int} : mwv g [.agg [.int .i64 a, .int .i64 b, .int .i64 c], .agg [.int .i64 f, .int .i64 t]] = g a b c f t := rfl

def cspans_m : List PA → Option (List PA) := mwv fun a b c f t => some [.c (slI (spansOf a b c f t).1), .i (spansOf a b c f t).2]

theorem ivalB_iff {f t : Int} : ivalB f t = true ↔ 0 ≤ f ∧ f < t ∧ t ≤ 68719476736 := by
  simp only [ivalB, Bool.and_eq_true, decide_eq_true_eq]
  omega

theorem cspans_ok : PureC Tryd.prog Gt 26 cspans_m := by
  refine pure_of_awp (X := ctx Tryd.prog Gt [(40, cvalid_m), (41, con_m)]) Tryd.func26 rfl rfl (by kernel_rfl) (by kernel_rfl) (AllOk.cons cvalid_ok (AllOk.cons con_ok AllOk.nil)).kok ?_
  intro args r h0
  obtain ⟨a, b, c, f, t, rfl, h⟩ := mwv_inv h0
  refine ⟨Nat.le_of_ble_eq_true rfl, ?_⟩
  cases h
  by_cases hI : ivalB f t = true
  · have hI' := ivalB_iff.1 hI
    have i1 : (f < 0) = False := by simp; omega
    have i2 : (t ≤ f) = False := by simp; omega
    have i3 : (68719476736 < t) = False := by simp; omega
    have e1 : f.tdiv 86400 = f / 86400 := Int.tdiv_eq_ediv_of_nonneg (by omega)
    have e2 : (t - 1).tdiv 86400 = (t - 1) / 86400 := Int.tdiv_eq_ediv_of_nonneg (by omega)
    have w1 := wI (n := f / 86400) (by omega) (by omega)
    have w2 := wI (n := t - 1) (by omega) (by omega)
    have w3 := wI (n := (t - 1) / 86400) (by omega) (by omega)
    have w4 := wI (n := (t - 1) / 86400 - f / 86400) (by omega) (by omega)
    by_cases hs : 366 ≤ (t - 1) / 86400 - f / 86400
    · skip
      have hc := Nat.zero_add 0
      repeat' (first | (simp only [hc, Tryd.f26, cvalid_m, con_m, mw_eq, mwi_eq, i1, i2, i3, e1, e2, w1, w2, w3, w4, hs, AB, PL, RG, LP, TY, Nat.reduceEqDiff, Nat.reduceAdd, Nat.reduceSub, Nat.reduceMul, Nat.reduceLT, Nat.reduceLeDiff, Nat.reduceMod, Nat.reduceDiv, reduceCtorEq, Int.reduceEq, Int.reduceNe, Int.reduceLT, Int.reduceLE, Int.reduceNeg, Int.reduceToNat, Int.reduceAdd, Int.reduceSub, Int.reduceMul, ↓reduceIte, forall_const, eq_self, ne_eq, Option.some.injEq, beq_self_eq_true]) | refine fin_ndec (fun hc => ?_) (fun hc => ?_) | refine fin_dec (fun hc => ?_) (fun hc => ?_) | refine cnd_ndec (fun hc => ?_) (fun hc => ?_) | refine cnd_dec' (fun hc => ?_) (fun hc => ?_) | refine fin_nsplit (fun hc => ?_) (fun hc => ?_) | refine fin_split (fun hc => ?_) (fun hc => ?_) | refine cnd_nsplit (fun hc => ?_) (fun hc => ?_) | refine cnd_split (fun hc => ?_) (fun hc => ?_) | refine blk_exit_id ?_)
      all_goals simp_all [spansOf, slI, DV.i]
    by_cases hV : validB a b c = true
    · have hV' := validB_iff.1 hV
      have hc := Nat.zero_add 0
      repeat' (first | (simp only [hc, Tryd.f26, cvalid_m, con_m, mw_eq, mwi_eq, i1, i2, i3, e1, e2, w1, w2, w3, w4, hs, hV, AB, PL, RG, LP, TY, Nat.reduceEqDiff, Nat.reduceAdd, Nat.reduceSub, Nat.reduceMul, Nat.reduceLT, Nat.reduceLeDiff, Nat.reduceMod, Nat.reduceDiv, reduceCtorEq, Int.reduceEq, Int.reduceNe, Int.reduceLT, Int.reduceLE, Int.reduceNeg, Int.reduceToNat, Int.reduceAdd, Int.reduceSub, Int.reduceMul, ↓reduceIte, forall_const, eq_self, ne_eq, Option.some.injEq, beq_self_eq_true]) | refine fin_ndec (fun hc => ?_) (fun hc => ?_) | refine fin_dec (fun hc => ?_) (fun hc => ?_) | refine cnd_ndec (fun hc => ?_) (fun hc => ?_) | refine cnd_dec' (fun hc => ?_) (fun hc => ?_) | refine fin_nsplit (fun hc => ?_) (fun hc => ?_) | refine fin_split (fun hc => ?_) (fun hc => ?_) | refine cnd_nsplit (fun hc => ?_) (fun hc => ?_) | refine cnd_split (fun hc => ?_) (fun hc => ?_) | refine blk_exit_id ?_)
      have b1 : 0 ≤ f / 86400 ∧ f / 86400 ≤ (t - 1) / 86400 ∧ (t - 1) / 86400 ≤ 795365 := by omega
      have hres : spansOf a b c f t = (some (spL a b c f t ((t - 1) / 86400 - f / 86400 + 1).toNat (f / 86400) []), 0) := by simp [spansOf, hI, hV, hs]
      rw [hres]
      generalize hfi : f / 86400 = fi at *
      generalize hla : (t - 1) / 86400 = la at *
      refine awp_loop (σ := Nat × Int × List Iv) (fun p => p.2.1 + p.1 = la + 1 ∧ 0 ≤ p.2.1 ∧ p.2.2.length + p.1 ≤ 400 ∧ spL a b c f t p.1 p.2.1 p.2.2 = spL a b c f t (la - fi + 1).toNat fi [])
        (fun p => ⟨[(9, AV.i p.2.1), (8, .v (.c (.msl 2 p.2.2.length))), (7, AV.i la), (2, .v (.c (.ptr 0 0))), (3, .v (.c (.ptr 1 0)))], [.box [.d (.int .i64 a), .d (.int .i64 b), .d (.int .i64 c)], .box [.d (.int .i64 f), .d (.int .i64 t)], .tok p.2.2.length 2 (some (encI p.2.2))]⟩)
        (fun p => p.1) ((la - fi + 1).toNat, fi, []) (Wk.trans (Wk.msl 8 2 (by omega) (by simp [look])) (Wk.sub' (by simp [subT, look]) rfl)) ⟨by simp only []; omega, by simp only []; omega, by simp only [List.length_nil]; omega, rfl⟩ ?_
      rintro ⟨n, d, out⟩ ⟨g1, g2, g3, g4⟩
      dsimp only at g1 g2 g3 g4 ⊢
      cases n with
      | zero =>
        have hdl : (d ≤ la) = False := by simp; omega
        have hc := Nat.zero_add 0
        repeat' (first | (simp only [hc, cvalid_m, con_m, mw_eq, mwi_eq, hdl, AB, PL, RG, LP, TY, Nat.reduceEqDiff, Nat.reduceAdd, Nat.reduceSub, Nat.reduceMul, Nat.reduceLT, Nat.reduceLeDiff, Nat.reduceMod, Nat.reduceDiv, reduceCtorEq, Int.reduceEq, Int.reduceNe, Int.reduceLT, Int.reduceLE, Int.reduceNeg, Int.reduceToNat, Int.reduceAdd, Int.reduceSub, Int.reduceMul, ↓reduceIte, forall_const, eq_self, ne_eq, Option.some.injEq, beq_self_eq_true]) | refine fin_ndec (fun hc => ?_) (fun hc => ?_) | refine fin_dec (fun hc => ?_) (fun hc => ?_) | refine cnd_ndec (fun hc => ?_) (fun hc => ?_) | refine cnd_dec' (fun hc => ?_) (fun hc => ?_) | refine fin_nsplit (fun hc => ?_) (fun hc => ?_) | refine fin_split (fun hc => ?_) (fun hc => ?_) | refine cnd_nsplit (fun hc => ?_) (fun hc => ?_) | refine cnd_split (fun hc => ?_) (fun hc => ?_))
        refine blk_exit_wk (Wk.freeze 8 2 out.length 2 (encI out) (by simp [look]) rfl) ?_
        have hc := Nat.zero_add 0
        repeat' (first | (simp only [hc, chunk_enc, AB, PL, RG, LP, TY, Nat.reduceEqDiff, Nat.reduceAdd, Nat.reduceSub, Nat.reduceMul, Nat.reduceLT, Nat.reduceLeDiff, Nat.reduceMod, Nat.reduceDiv, reduceCtorEq, Int.reduceEq, Int.reduceNe, Int.reduceLT, Int.reduceLE, Int.reduceNeg, Int.reduceToNat, Int.reduceAdd, Int.reduceSub, Int.reduceMul, ↓reduceIte, forall_const, eq_self, ne_eq, Option.some.injEq, beq_self_eq_true]) | refine fin_ndec (fun hc => ?_) (fun hc => ?_) | refine fin_dec (fun hc => ?_) (fun hc => ?_) | refine cnd_ndec (fun hc => ?_) (fun hc => ?_) | refine cnd_dec' (fun hc => ?_) (fun hc => ?_) | refine fin_nsplit (fun hc => ?_) (fun hc => ?_) | refine fin_split (fun hc => ?_) (fun hc => ?_) | refine cnd_nsplit (fun hc => ?_) (fun hc => ?_) | refine cnd_split (fun hc => ?_) (fun hc => ?_) | refine blk_exit_id ?_)
        rw [← g4]
        simp [spL, slI, DV.i]
      | succ n =>
        have hdl : (d ≤ la) = True := by simp; omega
        have hdc : (0 ≤ a ∧ a ≤ 127 ∧ 0 ≤ d) = True := by simp; omega
        have v1 := wI (n := d * 86400) (by omega) (by omega)
        have v2 := wI (n := b * 60) (by omega) (by omega)
        have v3 := wI (n := d * 86400 + b * 60) (by omega) (by omega)
        have v4 := wI (n := c * 60) (by omega) (by omega)
        have v5 := wI (n := d * 86400 + c * 60) (by omega) (by omega)
        have v6 := wI (n := d + 1) (by omega) (by omega)
        have mx : (if d * 86400 + b * 60 > f then d * 86400 + b * 60 else f) = mxI f (d * 86400 + b * 60) := rfl
        have mn : (if d * 86400 + c * 60 < t then d * 86400 + c * 60 else t) = mnI t (d * 86400 + c * 60) := rfl
        have step : ∀ out', spStep a b c f t d out = out' → out'.length ≤ out.length + 1 → (n : Nat) < n + 1 ∧ (d + 1 + (n : Int) = la + 1 ∧ 0 ≤ d + 1 ∧ out'.length + n ≤ 400 ∧ spL a b c f t n (d + 1) out' = spL a b c f t (la - fi + 1).toNat fi []) := fun out' ho hl =>
          ⟨Nat.lt_succ_self n, by omega, by omega, by omega, by rw [← g4, ← ho]; rfl⟩
        by_cases hset : setB a (d.tmod 7).toNat = true
        · by_cases hxy : mnI t (d * 86400 + c * 60) ≤ mxI f (d * 86400 + b * 60)
          · skip
            have hc := Nat.zero_add 0
            repeat' (first | (simp only [hc, cvalid_m, con_m, mw_eq, mwi_eq, hdl, hdc, v1, v2, v3, v4, v5, v6, hset, mx, mn, hxy, AB, PL, RG, LP, TY, Nat.reduceEqDiff, Nat.reduceAdd, Nat.reduceSub, Nat.reduceMul, Nat.reduceLT, Nat.reduceLeDiff, Nat.reduceMod, Nat.reduceDiv, reduceCtorEq, Int.reduceEq, Int.reduceNe, Int.reduceLT, Int.reduceLE, Int.reduceNeg, Int.reduceToNat, Int.reduceAdd, Int.reduceSub, Int.reduceMul, ↓reduceIte, forall_const, eq_self, ne_eq, Option.some.injEq, beq_self_eq_true]) | refine fin_ndec (fun hc => ?_) (fun hc => ?_) | refine fin_dec (fun hc => ?_) (fun hc => ?_) | refine cnd_ndec (fun hc => ?_) (fun hc => ?_) | refine cnd_dec' (fun hc => ?_) (fun hc => ?_) | refine fin_nsplit (fun hc => ?_) (fun hc => ?_) | refine fin_split (fun hc => ?_) (fun hc => ?_) | refine cnd_nsplit (fun hc => ?_) (fun hc => ?_) | refine cnd_split (fun hc => ?_) (fun hc => ?_) | refine blk_exit_id ?_)
            obtain ⟨s0, s1, s2⟩ := step out (by simp [spStep, hset, hxy]) (by omega)
            exact lp_next (n, d + 1, out) (Wk.sub (by simp [subT, look])) ⟨s1, s2⟩ s0
          · rcases List.eq_nil_or_concat out with rfl | ⟨l, ⟨x0, y0⟩, hcon⟩
            · skip
              have hc := Nat.zero_add 0
              repeat' (first | (simp only [hc, cvalid_m, con_m, mw_eq, mwi_eq, hdl, hdc, v1, v2, v3, v4, v5, v6, hset, mx, mn, hxy, AB, PL, RG, LP, TY, Nat.reduceEqDiff, Nat.reduceAdd, Nat.reduceSub, Nat.reduceMul, Nat.reduceLT, Nat.reduceLeDiff, Nat.reduceMod, Nat.reduceDiv, reduceCtorEq, Int.reduceEq, Int.reduceNe, Int.reduceLT, Int.reduceLE, Int.reduceNeg, Int.reduceToNat, Int.reduceAdd, Int.reduceSub, Int.reduceMul, ↓reduceIte, forall_const, eq_self, ne_eq, Option.some.injEq, beq_self_eq_true]) | refine fin_ndec (fun hc => ?_) (fun hc => ?_) | refine fin_dec (fun hc => ?_) (fun hc => ?_) | refine cnd_ndec (fun hc => ?_) (fun hc => ?_) | refine cnd_dec' (fun hc => ?_) (fun hc => ?_) | refine fin_nsplit (fun hc => ?_) (fun hc => ?_) | refine fin_split (fun hc => ?_) (fun hc => ?_) | refine cnd_nsplit (fun hc => ?_) (fun hc => ?_) | refine cnd_split (fun hc => ?_) (fun hc => ?_) | refine blk_exit_id ?_)
              obtain ⟨s0, s1, s2⟩ := step [(mxI f (d * 86400 + b * 60), mnI t (d * 86400 + c * 60))] (by simp [spStep, hset, hxy]) (by simp)
              exact lp_next (n, d + 1, [(mxI f (d * 86400 + b * 60), mnI t (d * 86400 + c * 60))]) (Wk.sub' (by simp [subT, look]) (by simp [encI, rowI])) ⟨s1, s2⟩ s0
            · rw [List.concat_eq_append] at hcon
              subst hcon
              have hL : (l ++ [(x0, y0)]).length = l.length + 1 := by simp
              have q1 : ((0 : Int) < ((l ++ [(x0, y0)]).length : Int)) = True := eq_true (by omega)
              have q2 : IntKind.i64.wrap (((l ++ [(x0, y0)]).length : Int) - 1) = (l.length : Int) := by
                rw [wI (by omega) (by omega)]; omega
              have q3 : ((l.length : Int) < ((l ++ [(x0, y0)]).length : Int)) = True := eq_true (by omega)
              have q4 : ((0 : Int) ≤ (l.length : Int)) = True := eq_true (by omega)
              have q8 : (((l ++ [(x0, y0)]).length + 1) * 16 ≤ 140737488355328) = True := eq_true (by omega)
              have q9 : ((l ++ [(x0, y0)]).length + 1 ≤ 4611686018427387904) = True := eq_true (by omega)
              have q5 : ((encI (l ++ [(x0, y0)])).map C1.d)[l.length * 2 + 1]? = some (.d (.int .i64 y0)) := by
                have hm : ((encI l).map C1.d).length = l.length * 2 := by rw [List.length_map, encI_len]
                rw [encI_append, List.map_append, List.getElem?_append_right (by omega), hm, show l.length * 2 + 1 - l.length * 2 = 1 by omega]
                rfl
              have q6 : (l.length * 2 + 1 + 1 ≤ (encI (l ++ [(x0, y0)])).length) = True := eq_true (by rw [encI_len]; omega)
              have q7 : ∀ z, setD (encI (l ++ [(x0, y0)])) (l.length * 2 + 1) [.int .i64 z] = encI (l ++ [(x0, z)]) := fun z => by
                have e : encI l ++ encI [(x0, y0)] = (encI l ++ [.int .i64 x0]) ++ [.int .i64 y0] := by simp [encI, rowI]
                have el : (encI l ++ [D.int .i64 x0]).length = l.length * 2 + 1 := by simp [encI_len]
                rw [setD_eq, encI_append, e, ← el, List.take_left, List.drop_eq_nil_of_le (by simp), encI_append]
                simp [encI, rowI]
              by_cases hj : y0 = mxI f (d * 86400 + b * 60)
              · have hj2 := eq_true hj
                have hc := Nat.zero_add 0
                repeat' (first | (simp only [hc, cvalid_m, con_m, mw_eq, mwi_eq, hdl, hdc, v1, v2, v3, v4, v5, v6, hset, mx, mn, hxy, q1, q2, q3, q4, q5, q6, q7, hj2, AB, PL, RG, LP, TY, Nat.reduceEqDiff, Nat.reduceAdd, Nat.reduceSub, Nat.reduceMul, Nat.reduceLT, Nat.reduceLeDiff, Nat.reduceMod, Nat.reduceDiv, reduceCtorEq, Int.reduceEq, Int.reduceNe, Int.reduceLT, Int.reduceLE, Int.reduceNeg, Int.reduceToNat, Int.reduceAdd, Int.reduceSub, Int.reduceMul, ↓reduceIte, forall_const, eq_self, ne_eq, Option.some.injEq, beq_self_eq_true]) | refine fin_ndec (fun hc => ?_) (fun hc => ?_) | refine fin_dec (fun hc => ?_) (fun hc => ?_) | refine cnd_ndec (fun hc => ?_) (fun hc => ?_) | refine cnd_dec' (fun hc => ?_) (fun hc => ?_) | refine fin_nsplit (fun hc => ?_) (fun hc => ?_) | refine fin_split (fun hc => ?_) (fun hc => ?_) | refine cnd_nsplit (fun hc => ?_) (fun hc => ?_) | refine cnd_split (fun hc => ?_) (fun hc => ?_) | refine blk_exit_id ?_)
                obtain ⟨s0, s1, s2⟩ := step (l ++ [(x0, mnI t (d * 86400 + c * 60))]) (by simp [spStep, hset, hxy, hj]) (by simp)
                exact lp_next (n, d + 1, l ++ [(x0, mnI t (d * 86400 + c * 60))]) (Wk.sub' (by simp [subT, look]) (by simp)) ⟨s1, s2⟩ s0
              · have hj2 := eq_false hj
                have hc := Nat.zero_add 0
                repeat' (first | (simp only [hc, cvalid_m, con_m, mw_eq, mwi_eq, hdl, hdc, v1, v2, v3, v4, v5, v6, hset, mx, mn, hxy, q1, q2, q3, q4, q5, q6, q7, hj2, q8, q9, AB, PL, RG, LP, TY, Nat.reduceEqDiff, Nat.reduceAdd, Nat.reduceSub, Nat.reduceMul, Nat.reduceLT, Nat.reduceLeDiff, Nat.reduceMod, Nat.reduceDiv, reduceCtorEq, Int.reduceEq, Int.reduceNe, Int.reduceLT, Int.reduceLE, Int.reduceNeg, Int.reduceToNat, Int.reduceAdd, Int.reduceSub, Int.reduceMul, ↓reduceIte, forall_const, eq_self, ne_eq, Option.some.injEq, beq_self_eq_true]) | refine fin_ndec (fun hc => ?_) (fun hc => ?_) | refine fin_dec (fun hc => ?_) (fun hc => ?_) | refine cnd_ndec (fun hc => ?_) (fun hc => ?_) | refine cnd_dec' (fun hc => ?_) (fun hc => ?_) | refine fin_nsplit (fun hc => ?_) (fun hc => ?_) | refine fin_split (fun hc => ?_) (fun hc => ?_) | refine cnd_nsplit (fun hc => ?_) (fun hc => ?_) | refine cnd_split (fun hc => ?_) (fun hc => ?_) | refine blk_exit_id ?_)
                obtain ⟨s0, s1, s2⟩ := step (l ++ [(x0, y0)] ++ [(mxI f (d * 86400 + b * 60), mnI t (d * 86400 + c * 60))]) (by simp [spStep, hset, hxy, hj]) (by simp)
                exact lp_next (n, d + 1, l ++ [(x0, y0)] ++ [(mxI f (d * 86400 + b * 60), mnI t (d * 86400 + c * 60))]) (Wk.sub' (by simp [subT, look]) (by simp [encI, rowI])) ⟨s1, s2⟩ s0
        · skip
          have hc := Nat.zero_add 0
          repeat' (first | (simp only [hc, cvalid_m, con_m, mw_eq, mwi_eq, hdl, hdc, v1, v2, v3, v4, v5, v6, hset, mx, mn, AB, PL, RG, LP, TY, Nat.reduceEqDiff, Nat.reduceAdd, Nat.reduceSub, Nat.reduceMul, Nat.reduceLT, Nat.reduceLeDiff, Nat.reduceMod, Nat.reduceDiv, reduceCtorEq, Int.reduceEq, Int.reduceNe, Int.reduceLT, Int.reduceLE, Int.reduceNeg, Int.reduceToNat, Int.reduceAdd, Int.reduceSub, Int.reduceMul, ↓reduceIte, forall_const, eq_self, ne_eq, Option.some.injEq, beq_self_eq_true]) | refine fin_ndec (fun hc => ?_) (fun hc => ?_) | refine fin_dec (fun hc => ?_) (fun hc => ?_) | refine cnd_ndec (fun hc => ?_) (fun hc => ?_) | refine cnd_dec' (fun hc => ?_) (fun hc => ?_) | refine fin_nsplit (fun hc => ?_) (fun hc => ?_) | refine fin_split (fun hc => ?_) (fun hc => ?_) | refine cnd_nsplit (fun hc => ?_) (fun hc => ?_) | refine cnd_split (fun hc => ?_) (fun hc => ?_) | refine blk_exit_id ?_)
          obtain ⟨s0, s1, s2⟩ := step out (by simp [spStep, hset]) (by omega)
          exact lp_next (n, d + 1, out) (Wk.sub (by simp [subT, look])) ⟨s1, s2⟩ s0
    · skip
      have hc := Nat.zero_add 0
      repeat' (first | (simp only [hc, Tryd.f26, cvalid_m, con_m, mw_eq, mwi_eq, i1, i2, i3, e1, e2, w1, w2, w3, w4, hs, hV, AB, PL, RG, LP, TY, Nat.reduceEqDiff, Nat.reduceAdd, Nat.reduceSub, Nat.reduceMul, Nat.reduceLT, Nat.reduceLeDiff, Nat.reduceMod, Nat.reduceDiv, reduceCtorEq, Int.reduceEq, Int.reduceNe, Int.reduceLT, Int.reduceLE, Int.reduceNeg, Int.reduceToNat, Int.reduceAdd, Int.reduceSub, Int.reduceMul, ↓reduceIte, forall_const, eq_self, ne_eq, Option.some.injEq, beq_self_eq_true]) | refine fin_ndec (fun hc => ?_) (fun hc => ?_) | refine fin_dec (fun hc => ?_) (fun hc => ?_) | refine cnd_ndec (fun hc => ?_) (fun hc => ?_) | refine cnd_dec' (fun hc => ?_) (fun hc => ?_) | refine fin_nsplit (fun hc => ?_) (fun hc => ?_) | refine fin_split (fun hc => ?_) (fun hc => ?_) | refine cnd_nsplit (fun hc => ?_) (fun hc => ?_) | refine cnd_split (fun hc => ?_) (fun hc => ?_) | refine blk_exit_id ?_)
      simp [spansOf, slI, DV.i, hI, hV, hs]
  · have hI' : f < 0 ∨ t ≤ f ∨ 68719476736 < t := by
      rw [ivalB_iff] at hI; omega
    have hc := Nat.zero_add 0
    repeat' (first | (simp only [hc, Tryd.f26, cvalid_m, con_m, mw_eq, mwi_eq, AB, PL, RG, LP, TY, Nat.reduceEqDiff, Nat.reduceAdd, Nat.reduceSub, Nat.reduceMul, Nat.reduceLT, Nat.reduceLeDiff, Nat.reduceMod, Nat.reduceDiv, reduceCtorEq, Int.reduceEq, Int.reduceNe, Int.reduceLT, Int.reduceLE, Int.reduceNeg, Int.reduceToNat, Int.reduceAdd, Int.reduceSub, Int.reduceMul, ↓reduceIte, forall_const, eq_self, ne_eq, Option.some.injEq, beq_self_eq_true]) | refine fin_ndec (fun hc => ?_) (fun hc => ?_) | refine fin_dec (fun hc => ?_) (fun hc => ?_) | refine cnd_ndec (fun hc => ?_) (fun hc => ?_) | refine cnd_dec' (fun hc => ?_) (fun hc => ?_) | refine fin_nsplit (fun hc => ?_) (fun hc => ?_) | refine fin_split (fun hc => ?_) (fun hc => ?_) | refine cnd_nsplit (fun hc => ?_) (fun hc => ?_) | refine cnd_split (fun hc => ?_) (fun hc => ?_) | refine blk_exit_id ?_)
    all_goals first
      | (exfalso; omega)
      | simp_all [spansOf, slI, DV.i]

end Go.Ab
