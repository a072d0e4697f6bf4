/-
  The laws of the calendar that compare with the reference.
-/
import Derived.Test.YtabfdaekbhccnaaDoorAbC10
set_option linter.unusedSimpArgs false
set_option linter.unusedVariables false
namespace Go.Ab
open Go.RowKit Go.Proofs

def awake_m : List PA → Option (List PA) := m0 (some [.b true])

theorem aw1 : cdate_m [.c (.int .i64 1154)] = some [.c (.int .i64 2004), .c (.int .i64 2), .c (.int .i64 29)] := by kernel_rfl
theorem aw2 : cdayof_m [.c (.int .i64 2004), .c (.int .i64 2), .c (.int .i64 29)] = some [.c (.int .i64 1154), .c (.int .i64 0)] := by kernel_rfl
theorem aw3 : cdayof_m [.c (.int .i64 2004), .c (.int .i64 2), .c (.int .i64 30)] = some [.c (.int .i64 0), .c (.int .i64 1)] := by kernel_rfl
theorem aw4 : cspans_m [.agg [.int .i64 1, .int .i64 60, .int .i64 120], .agg [.int .i64 5000, .int .i64 700000]] = some [.c (.sl false [[.int .i64 5000, .int .i64 7200], [.int .i64 608400, .int .i64 612000]]), .c (.int .i64 0)] := by kernel_rfl
theorem aw5 : clater_m [.c (.sl true [[.int .i64 4]]), .c (.int .i64 3), .c (.int .i64 1)] = some [.c (.int .i64 7), .c (.int .i64 0)] := by kernel_rfl
theorem aw6 : cday_m [.c (.int .i64 86400)] = some [.c (.int .i64 1)] := by kernel_rfl
theorem aw7 : cday_m [.c (.int .i64 (-1))] = some [.c (.int .i64 (-1))] := by kernel_rfl
theorem aw8 : cmin_m [.c (.int .i64 86399)] = some [.c (.int .i64 1439)] := by kernel_rfl
theorem aw9 : cwd_m [.c (.int .i64 8)] = some [.c (.int .i64 1)] := by kernel_rfl
theorem aw10 : cin_m [.agg [.int .i64 1, .int .i64 60, .int .i64 120], .c (.int .i64 3600)] = some [.c (.bool true)] := by kernel_rfl
theorem aw11 : cin_m [.agg [.int .i64 1, .int .i64 60, .int .i64 120], .c (.int .i64 7200)] = some [.c (.bool false)] := by kernel_rfl
theorem aw12 : same_m [.c (.sl false [[.int .i64 5000, .int .i64 7200], [.int .i64 608400, .int .i64 612000]]), .c (.sl true [[.int .i64 5000, .int .i64 7200], [.int .i64 608400, .int .i64 612000]])] = some [.c (.bool true)] := by kernel_rfl

theorem awake_ok : PureC Tryd.prog Gt 19 awake_m := by
  refine pure_of_awp (X := ctx Tryd.prog Gt [(20, cdate_m), (22, cdayof_m), (26, cspans_m), (29, clater_m), (13, cday_m), (15, cmin_m), (17, cwd_m), (24, cin_m), (28, same_m)]) Tryd.func19 rfl rfl (by kernel_rfl) (by kernel_rfl) (AllOk.cons cdate_ok (AllOk.cons cdayof_ok (AllOk.cons cspans_ok (AllOk.cons clater_ok (AllOk.cons cday_ok (AllOk.cons cmin_ok (AllOk.cons cwd_ok (AllOk.cons cin_ok (AllOk.cons same_ok AllOk.nil))))))))).kok ?_
  intro args r h0
  obtain ⟨rfl, h⟩ := m0_inv h0
  refine ⟨Nat.le_of_ble_eq_true rfl, ?_⟩
  cases h
  have hc := Nat.zero_add 0
  repeat' (first | (simp only [hc, Tryd.f19, aw1, aw2, aw3, aw4, aw5, aw6, aw7, aw8, aw9, aw10, aw11, aw12, AB, PL, RG, LP, TY, Nat.reduceEqDiff, Nat.reduceAdd, Nat.reduceSub, Nat.reduceMul, Nat.reduceLT, Nat.reduceLeDiff, Nat.reduceMod, Nat.reduceDiv, reduceCtorEq, Int.reduceEq, Int.reduceNe, Int.reduceLT, Int.reduceLE, Int.reduceNeg, Int.reduceToNat, Int.reduceAdd, Int.reduceSub, Int.reduceMul, ↓reduceIte, forall_const, eq_self, ne_eq, Option.some.injEq, beq_self_eq_true]) | refine fin_ndec (fun hc => ?_) (fun hc => ?_) | refine fin_dec (fun hc => ?_) (fun hc => ?_) | refine cnd_ndec (fun hc => ?_) (fun hc => ?_) | refine cnd_dec' (fun hc => ?_) (fun hc => ?_) | refine fin_nsplit (fun hc => ?_) (fun hc => ?_) | refine fin_split (fun hc => ?_) (fun hc => ?_) | refine cnd_nsplit (fun hc => ?_) (fun hc => ?_) | refine cnd_split (fun hc => ?_) (fun hc => ?_) | refine blk_exit_id ?_)
  all_goals simp_all [DV.b]

theorem aw : awake_m [] = some [.c (.bool true)] := rfl

def lDays_m : List PA → Option (List PA) := m2 fun _ _ => some [.b true]
def lDates_m : List PA → Option (List PA) := m1 fun _ => some [.b true]
def lDayOf_m : List PA → Option (List PA) := m3 fun _ _ _ => some [.b true]
def lIn_m : List PA → Option (List PA) := mwi fun _ _ _ _ => some [.b true]
def lSpans_m : List PA → Option (List PA) := mwv fun _ _ _ _ _ => some [.b true]
def lLater_m : List PA → Option (List PA) := mlii fun l _ _ => some [.b true]

theorem lDays_ok : PureC Tryd.prog Gt 3 lDays_m := by
  refine pure_of_awp (X := ctx Tryd.prog Gt [(13, cday_m), (14, rday_m), (15, cmin_m), (16, rmin_m), (17, cwd_m), (18, rwd_m), (19, awake_m)]) Tryd.func3 rfl rfl (by kernel_rfl) (by kernel_rfl) (AllOk.cons cday_ok (AllOk.cons rday_ok (AllOk.cons cmin_ok (AllOk.cons rmin_ok (AllOk.cons cwd_ok (AllOk.cons rwd_ok (AllOk.cons awake_ok AllOk.nil))))))).kok ?_
  intro args r h0
  obtain ⟨t, d, rfl, h⟩ := m2_inv h0
  refine ⟨Nat.le_of_ble_eq_true rfl, ?_⟩
  cases h
  have hc := Nat.zero_add 0
  repeat' (first | (simp only [hc, Tryd.f3, cday_m, rday_m, cmin_m, rmin_m, cwd_m, rwd_m, mEq, aw, AB, PL, RG, LP, TY, Nat.reduceEqDiff, Nat.reduceAdd, Nat.reduceSub, Nat.reduceMul, Nat.reduceLT, Nat.reduceLeDiff, Nat.reduceMod, Nat.reduceDiv, reduceCtorEq, Int.reduceEq, Int.reduceNe, Int.reduceLT, Int.reduceLE, Int.reduceNeg, Int.reduceToNat, Int.reduceAdd, Int.reduceSub, Int.reduceMul, ↓reduceIte, forall_const, eq_self, ne_eq, Option.some.injEq, beq_self_eq_true]) | refine fin_ndec (fun hc => ?_) (fun hc => ?_) | refine fin_dec (fun hc => ?_) (fun hc => ?_) | refine cnd_ndec (fun hc => ?_) (fun hc => ?_) | refine cnd_dec' (fun hc => ?_) (fun hc => ?_) | refine fin_nsplit (fun hc => ?_) (fun hc => ?_) | refine fin_split (fun hc => ?_) (fun hc => ?_) | refine cnd_nsplit (fun hc => ?_) (fun hc => ?_) | refine cnd_split (fun hc => ?_) (fun hc => ?_) | refine blk_exit_id ?_)
  all_goals simp_all [DV.b]

theorem lDates_ok : PureC Tryd.prog Gt 4 lDates_m := by
  refine pure_of_awp (X := ctx Tryd.prog Gt [(20, cdate_m), (21, rdate_m), (19, awake_m)]) Tryd.func4 rfl rfl (by kernel_rfl) (by kernel_rfl) (AllOk.cons cdate_ok (AllOk.cons rdate_ok (AllOk.cons awake_ok AllOk.nil))).kok ?_
  intro args r h0
  obtain ⟨d, rfl, h⟩ := m1_inv h0
  refine ⟨Nat.le_of_ble_eq_true rfl, ?_⟩
  cases h
  by_cases hD : isD d = true
  · obtain ⟨y, m, q, e, _⟩ := date_spec hD
    have h1 : cdate_m [.c (.int .i64 d)] = some [.c (.int .i64 y), .c (.int .i64 m), .c (.int .i64 (q + 1))] := by
      simp only [cdate_m, m1_eq, hD, if_true, date_eq hD, e]
    have h2 : rdate_m [.c (.int .i64 d)] = some [.c (.int .i64 y), .c (.int .i64 m), .c (.int .i64 (q + 1))] := by
      simp only [rdate_m, m1_eq, hD, if_true, e]
    have hc := Nat.zero_add 0
    repeat' (first | (simp only [hc, Tryd.f4, h1, h2, aw, AB, PL, RG, LP, TY, Nat.reduceEqDiff, Nat.reduceAdd, Nat.reduceSub, Nat.reduceMul, Nat.reduceLT, Nat.reduceLeDiff, Nat.reduceMod, Nat.reduceDiv, reduceCtorEq, Int.reduceEq, Int.reduceNe, Int.reduceLT, Int.reduceLE, Int.reduceNeg, Int.reduceToNat, Int.reduceAdd, Int.reduceSub, Int.reduceMul, ↓reduceIte, forall_const, eq_self, ne_eq, Option.some.injEq, beq_self_eq_true]) | refine fin_ndec (fun hc => ?_) (fun hc => ?_) | refine fin_dec (fun hc => ?_) (fun hc => ?_) | refine cnd_ndec (fun hc => ?_) (fun hc => ?_) | refine cnd_dec' (fun hc => ?_) (fun hc => ?_) | refine fin_nsplit (fun hc => ?_) (fun hc => ?_) | refine fin_split (fun hc => ?_) (fun hc => ?_) | refine cnd_nsplit (fun hc => ?_) (fun hc => ?_) | refine cnd_split (fun hc => ?_) (fun hc => ?_) | refine blk_exit_id ?_)
    all_goals simp_all [DV.b]
  · skip
    have hc := Nat.zero_add 0
    repeat' (first | (simp only [hc, Tryd.f4, cdate_m, rdate_m, mEq, hD, aw, AB, PL, RG, LP, TY, Nat.reduceEqDiff, Nat.reduceAdd, Nat.reduceSub, Nat.reduceMul, Nat.reduceLT, Nat.reduceLeDiff, Nat.reduceMod, Nat.reduceDiv, reduceCtorEq, Int.reduceEq, Int.reduceNe, Int.reduceLT, Int.reduceLE, Int.reduceNeg, Int.reduceToNat, Int.reduceAdd, Int.reduceSub, Int.reduceMul, ↓reduceIte, forall_const, eq_self, ne_eq, Option.some.injEq, beq_self_eq_true]) | refine fin_ndec (fun hc => ?_) (fun hc => ?_) | refine fin_dec (fun hc => ?_) (fun hc => ?_) | refine cnd_ndec (fun hc => ?_) (fun hc => ?_) | refine cnd_dec' (fun hc => ?_) (fun hc => ?_) | refine fin_nsplit (fun hc => ?_) (fun hc => ?_) | refine fin_split (fun hc => ?_) (fun hc => ?_) | refine cnd_nsplit (fun hc => ?_) (fun hc => ?_) | refine cnd_split (fun hc => ?_) (fun hc => ?_) | refine blk_exit_id ?_)
    all_goals simp_all [DV.b]

theorem dayOf_two (y m d : Int) : ∃ n e, dayOf y m d = [.c (.int .i64 n), .c (.int .i64 e)] := by
  unfold dayOf
  split
  · exact ⟨_, _, rfl⟩
  · split
    · exact ⟨_, _, rfl⟩
    · split <;> exact ⟨_, _, rfl⟩

theorem lDayOf_ok : PureC Tryd.prog Gt 5 lDayOf_m := by
  refine pure_of_awp (X := ctx Tryd.prog Gt [(22, cdayof_m), (23, rdayof_m), (19, awake_m)]) Tryd.func5 rfl rfl (by kernel_rfl) (by kernel_rfl) (AllOk.cons cdayof_ok (AllOk.cons rdayof_ok (AllOk.cons awake_ok AllOk.nil))).kok ?_
  intro args r h0
  obtain ⟨y, m, d, rfl, h⟩ := m3_inv h0
  refine ⟨Nat.le_of_ble_eq_true rfl, ?_⟩
  cases h
  obtain ⟨n, e, he⟩ := dayOf_two y m d
  have hc := Nat.zero_add 0
  repeat' (first | (simp only [hc, Tryd.f5, cdayof_m, rdayof_m, mEq, he, aw, AB, PL, RG, LP, TY, Nat.reduceEqDiff, Nat.reduceAdd, Nat.reduceSub, Nat.reduceMul, Nat.reduceLT, Nat.reduceLeDiff, Nat.reduceMod, Nat.reduceDiv, reduceCtorEq, Int.reduceEq, Int.reduceNe, Int.reduceLT, Int.reduceLE, Int.reduceNeg, Int.reduceToNat, Int.reduceAdd, Int.reduceSub, Int.reduceMul, ↓reduceIte, forall_const, eq_self, ne_eq, Option.some.injEq, beq_self_eq_true]) | refine fin_ndec (fun hc => ?_) (fun hc => ?_) | refine fin_dec (fun hc => ?_) (fun hc => ?_) | refine cnd_ndec (fun hc => ?_) (fun hc => ?_) | refine cnd_dec' (fun hc => ?_) (fun hc => ?_) | refine fin_nsplit (fun hc => ?_) (fun hc => ?_) | refine fin_split (fun hc => ?_) (fun hc => ?_) | refine cnd_nsplit (fun hc => ?_) (fun hc => ?_) | refine cnd_split (fun hc => ?_) (fun hc => ?_) | refine blk_exit_id ?_)
  all_goals simp_all [DV.b]

theorem lIn_ok : PureC Tryd.prog Gt 6 lIn_m := by
  refine pure_of_awp (X := ctx Tryd.prog Gt [(24, cin_m), (25, rin_m), (19, awake_m)]) Tryd.func6 rfl rfl (by kernel_rfl) (by kernel_rfl) (AllOk.cons cin_ok (AllOk.cons rin_ok (AllOk.cons awake_ok AllOk.nil))).kok ?_
  intro args r h0
  obtain ⟨a, b, c, t, rfl, h⟩ := mwi_inv h0
  refine ⟨Nat.le_of_ble_eq_true rfl, ?_⟩
  cases h
  have hc := Nat.zero_add 0
  repeat' (first | (simp only [hc, Tryd.f6, cin_m, rin_m, mwi_eq, aw, AB, PL, RG, LP, TY, Nat.reduceEqDiff, Nat.reduceAdd, Nat.reduceSub, Nat.reduceMul, Nat.reduceLT, Nat.reduceLeDiff, Nat.reduceMod, Nat.reduceDiv, reduceCtorEq, Int.reduceEq, Int.reduceNe, Int.reduceLT, Int.reduceLE, Int.reduceNeg, Int.reduceToNat, Int.reduceAdd, Int.reduceSub, Int.reduceMul, ↓reduceIte, forall_const, eq_self, ne_eq, Option.some.injEq, beq_self_eq_true]) | refine fin_ndec (fun hc => ?_) (fun hc => ?_) | refine fin_dec (fun hc => ?_) (fun hc => ?_) | refine cnd_ndec (fun hc => ?_) (fun hc => ?_) | refine cnd_dec' (fun hc => ?_) (fun hc => ?_) | refine fin_nsplit (fun hc => ?_) (fun hc => ?_) | refine fin_split (fun hc => ?_) (fun hc => ?_) | refine cnd_nsplit (fun hc => ?_) (fun hc => ?_) | refine cnd_split (fun hc => ?_) (fun hc => ?_) | refine blk_exit_id ?_)
  all_goals simp_all [DV.b]

theorem spStep_len (a b c f t dd : Int) (out : List Iv) : (spStep a b c f t dd out).length ≤ out.length + 1 := by
  unfold spStep
  split
  · split
    · omega
    · split
      · split <;> simp
      · simp
  · omega
theorem spL_len (a b c f t : Int) : ∀ (n : Nat) (dd : Int) (out : List Iv), (spL a b c f t n dd out).length ≤ out.length + n
  | 0, dd, out => by simp [spL]
  | n + 1, dd, out => by
    have h1 := spL_len a b c f t n (dd + 1) (spStep a b c f t dd out)
    have h2 := spStep_len a b c f t dd out
    simp only [spL]; omega
theorem spans_len {a b c f t : Int} {l : List Iv} (h : (spansOf a b c f t).1 = some l) : l.length ≤ 366 := by
  unfold spansOf at h
  split at h
  · rename_i hI
    have hI' := ivalB_iff.1 hI
    split at h
    · cases h
    · split at h
      · cases h
        have := spL_len a b c f t ((t - 1) / 86400 - f / 86400 + 1).toNat (f / 86400) []
        simp at this
        omega
      · cases h
  · cases h

theorem slI_same {o : Option (List Iv)} (h : ∀ l, o = some l → l.length ≤ 366) : same_m [.c (slI o), .c (slI o)] = some [.c (.bool true)] := by
  cases o with
  | none => rfl
  | some l =>
    have := h l rfl
    simp only [same_m, msame, slI, decI_map, Option.bind_some]
    rw [if_pos (by omega)]
    simp [DV.b]

theorem lSpans_ok : PureC Tryd.prog Gt 7 lSpans_m := by
  refine pure_of_awp (X := ctx Tryd.prog Gt [(26, cspans_m), (27, rspans_m), (28, same_m), (19, awake_m)]) Tryd.func7 rfl rfl (by kernel_rfl) (by kernel_rfl) (AllOk.cons cspans_ok (AllOk.cons rspans_ok (AllOk.cons same_ok (AllOk.cons awake_ok AllOk.nil)))).kok ?_
  intro args r h0
  obtain ⟨a, b, c, f, t, rfl, h⟩ := mwv_inv h0
  refine ⟨Nat.le_of_ble_eq_true rfl, ?_⟩
  cases h
  have hs := slI_same (o := (spansOf a b c f t).1) (fun l hl => spans_len hl)
  have hc := Nat.zero_add 0
  repeat' (first | (simp only [hc, Tryd.f7, cspans_m, rspans_m, mwv_eq, hs, aw, AB, PL, RG, LP, TY, Nat.reduceEqDiff, Nat.reduceAdd, Nat.reduceSub, Nat.reduceMul, Nat.reduceLT, Nat.reduceLeDiff, Nat.reduceMod, Nat.reduceDiv, reduceCtorEq, Int.reduceEq, Int.reduceNe, Int.reduceLT, Int.reduceLE, Int.reduceNeg, Int.reduceToNat, Int.reduceAdd, Int.reduceSub, Int.reduceMul, ↓reduceIte, forall_const, eq_self, ne_eq, Option.some.injEq, beq_self_eq_true]) | refine fin_ndec (fun hc => ?_) (fun hc => ?_) | refine fin_dec (fun hc => ?_) (fun hc => ?_) | refine cnd_ndec (fun hc => ?_) (fun hc => ?_) | refine cnd_dec' (fun hc => ?_) (fun hc => ?_) | refine fin_nsplit (fun hc => ?_) (fun hc => ?_) | refine fin_split (fun hc => ?_) (fun hc => ?_) | refine cnd_nsplit (fun hc => ?_) (fun hc => ?_) | refine cnd_split (fun hc => ?_) (fun hc => ?_) | refine blk_exit_id ?_)
  all_goals simp_all [DV.b]

theorem laterOf_two (l : List Int) (d n : Int) : ∃ n' e, laterOf l d n = [.c (.int .i64 n'), .c (.int .i64 e)] := by
  unfold laterOf
  split
  · split
    · exact ⟨_, _, rfl⟩
    · split <;> exact ⟨_, _, rfl⟩
  · exact ⟨_, _, rfl⟩

theorem lLater_ok : PureC Tryd.prog Gt 8 lLater_m := by
  refine pure_of_awp (X := ctx Tryd.prog Gt [(29, clater_m), (30, rlater_m), (19, awake_m)]) Tryd.func8 rfl rfl (by kernel_rfl) (by kernel_rfl) (AllOk.cons clater_ok (AllOk.cons rlater_ok (AllOk.cons awake_ok AllOk.nil))).kok ?_
  intro args r h0
  obtain ⟨f, l, d, n, rfl, h⟩ := mlii_inv h0
  refine ⟨Nat.le_of_ble_eq_true rfl, ?_⟩
  cases h
  have h1 : ((l.map rowN).length : Int) = l.length := by simp
  by_cases hl : (60 : Int) < l.length
  · skip
    have hc := Nat.zero_add 0
    repeat' (first | (simp only [hc, Tryd.f8, h1, hl, aw, AB, PL, RG, LP, TY, Nat.reduceEqDiff, Nat.reduceAdd, Nat.reduceSub, Nat.reduceMul, Nat.reduceLT, Nat.reduceLeDiff, Nat.reduceMod, Nat.reduceDiv, reduceCtorEq, Int.reduceEq, Int.reduceNe, Int.reduceLT, Int.reduceLE, Int.reduceNeg, Int.reduceToNat, Int.reduceAdd, Int.reduceSub, Int.reduceMul, ↓reduceIte, forall_const, eq_self, ne_eq, Option.some.injEq, beq_self_eq_true]) | refine fin_ndec (fun hc => ?_) (fun hc => ?_) | refine fin_dec (fun hc => ?_) (fun hc => ?_) | refine cnd_ndec (fun hc => ?_) (fun hc => ?_) | refine cnd_dec' (fun hc => ?_) (fun hc => ?_) | refine fin_nsplit (fun hc => ?_) (fun hc => ?_) | refine fin_split (fun hc => ?_) (fun hc => ?_) | refine cnd_nsplit (fun hc => ?_) (fun hc => ?_) | refine cnd_split (fun hc => ?_) (fun hc => ?_) | refine blk_exit_id ?_)
    all_goals simp_all [DV.b]
  · obtain ⟨n', e, he⟩ := laterOf_two l d n
    have hl2 : l.length ≤ 1000 := by omega
    have hc := Nat.zero_add 0
    repeat' (first | (simp only [hc, Tryd.f8, h1, hl, clater_m, rlater_m, mlii_eq, hl2, he, aw, AB, PL, RG, LP, TY, Nat.reduceEqDiff, Nat.reduceAdd, Nat.reduceSub, Nat.reduceMul, Nat.reduceLT, Nat.reduceLeDiff, Nat.reduceMod, Nat.reduceDiv, reduceCtorEq, Int.reduceEq, Int.reduceNe, Int.reduceLT, Int.reduceLE, Int.reduceNeg, Int.reduceToNat, Int.reduceAdd, Int.reduceSub, Int.reduceMul, ↓reduceIte, forall_const, eq_self, ne_eq, Option.some.injEq, beq_self_eq_true]) | refine fin_ndec (fun hc => ?_) (fun hc => ?_) | refine fin_dec (fun hc => ?_) (fun hc => ?_) | refine cnd_ndec (fun hc => ?_) (fun hc => ?_) | refine cnd_dec' (fun hc => ?_) (fun hc => ?_) | refine fin_nsplit (fun hc => ?_) (fun hc => ?_) | refine fin_split (fun hc => ?_) (fun hc => ?_) | refine cnd_nsplit (fun hc => ?_) (fun hc => ?_) | refine cnd_split (fun hc => ?_) (fun hc => ?_) | refine blk_exit_id ?_)
    all_goals simp_all [DV.b]

end Go.Ab
