/-
  The laws' own gate: awake answers true.
-/
import Derived.Test.YteeffcglpljdpaaDoorAbY6
set_option linter.unusedSimpArgs false
set_option linter.unusedVariables false
namespace Go.Ab
open Go.RowKit Go.Proofs

def awake_m : List PA → Option (List PA) := m0 (some [.b true])

theorem aw1 : tfields_m [.c (.str [97, 32, 98])] = some [.c (.sl true [[.str [97]], [.str [98]]]), .c (.int .i64 0)] := by kernel_rfl
theorem aw2 : tnum_m [.c (.str [45, 49, 50])] = some [.c (.int .i64 (-12)), .c (.int .i64 0)] := by kernel_rfl
theorem aw3 : tlines_m [.c (.str [97, 10, 10, 98])] = some [.c (.sl true [[.str [97]], [.str []], [.str [98]]]), .c (.int .i64 0)] := by kernel_rfl
theorem aw4 : tunesc_m [.c (.str [97, 37, 50, 48])] = some [.c (.str [97, 32]), .c (.int .i64 0)] := by kernel_rfl
theorem aw5 : tnum_m [.c (.str [45, 48])] = some [.c (.int .i64 0), .c (.int .i64 5)] := by kernel_rfl
theorem aw6 : tunesc_m [.c (.str [37, 52, 49])] = some [.c (.str []), .c (.int .i64 5)] := by kernel_rfl
theorem aw7 : same_m [.c (.sl true [[.str [97]], [.str [98]]]), .c (.sl true [[.str [97]], [.str [98]]])] = some [.c (.bool true)] := by kernel_rfl
theorem aw8 : same_m [.c (.sl true [[.str [97]], [.str []], [.str [98]]]), .c (.sl true [[.str [97]], [.str []], [.str [98]]])] = some [.c (.bool true)] := by kernel_rfl
theorem aw9 : tname_m [.c (.str [97, 45, 49])] = some [.c (.bool true)] := by kernel_rfl
theorem aw10 : tname_m [.c (.str [49, 97])] = some [.c (.bool false)] := by kernel_rfl
theorem aw11 : tesc_m [.c (.str [97, 32, 98, 37])] = some [.c (.str [97, 37, 50, 48, 98, 37, 50, 53])] := by kernel_rfl
theorem aw12 : tfmt_m [.c (.int .i64 (-120))] = some [.c (.str [45, 49, 50, 48])] := by
  have : Lib.itoa (-120) = [45, 49, 50, 48] := by
    rw [itoa_spec, if_pos (by decide)]
    have h1 : Lib.decDigits 1 = [49] := dec_small (by decide)
    have h2 : Lib.decDigits 12 = [49, 50] := by rw [dec_big (by decide)]; show Lib.decDigits 1 ++ _ = _; rw [h1]; rfl
    have h3 : Lib.decDigits 120 = [49, 50, 48] := by rw [dec_big (by decide)]; show Lib.decDigits 12 ++ _ = _; rw [h2]; rfl
    show 45 :: Lib.decDigits 120 = _
    rw [h3]
  rw [tfmt_m, m1_eq, if_pos (by decide), this]
theorem aw13 : tjoin_m [.c (.sl true [[.str [97]], [.str [98]]])] = some [.c (.str [97, 32, 98])] := by kernel_rfl
theorem AW : type_of% aw1 ∧ type_of% aw2 ∧ type_of% aw3 ∧ type_of% aw4 ∧ type_of% aw5 ∧ type_of% aw6 ∧ type_of% aw7 ∧ type_of% aw8 ∧ type_of% aw9 ∧ type_of% aw10 ∧ type_of% aw11 ∧ type_of% aw12 ∧ type_of% aw13 := ⟨aw1, aw2, aw3, aw4, aw5, aw6, aw7, aw8, aw9, aw10, aw11, aw12, aw13⟩

theorem awake_ok : PureC Tryd.prog Gt 13 awake_m := by
  refine pure_of_awp (X := ctx Tryd.prog Gt [(14, tname_m), (16, tfields_m), (18, same_m), (19, tnum_m), (21, tfmt_m), (23, tlines_m), (25, tunesc_m), (27, tesc_m), (29, tjoin_m)]) Tryd.func13 rfl rfl (by kernel_rfl) (by kernel_rfl) (AllOk.cons tname_ok (AllOk.cons tfields_ok (AllOk.cons same_ok (AllOk.cons tnum_ok (AllOk.cons tfmt_ok (AllOk.cons tlines_ok (AllOk.cons tunesc_ok (AllOk.cons tesc_ok (AllOk.cons tjoin_ok AllOk.nil))))))))).kok ?_
  intro args r h0
  obtain ⟨rfl, h⟩ := m0_inv h0
  refine ⟨Nat.le_of_ble_eq_true rfl, ?_⟩
  cases h
  have b1 : (([97, 32] : List UInt8) == [97, 32]) = true := rfl
  have b2 : (([97, 37, 50, 48, 98, 37, 50, 53] : List UInt8) == [97, 37, 50, 48, 98, 37, 50, 53]) = true := rfl
  have b3 : (([45, 49, 50, 48] : List UInt8) == [45, 49, 50, 48]) = true := rfl
  have b4 : (([97, 32, 98] : List UInt8) == [97, 32, 98]) = true := rfl
  have hc := Nat.zero_add 0
  repeat' (first | (simp only [hc, Tryd.f13, SX, AW, b1, b2, b3, b4, Bool.not_false, AB, PL, RG, LP, TY, Nat.reduceEqDiff, Nat.reduceAdd, Nat.reduceSub, Nat.reduceMul, Nat.reduceLT, Nat.reduceLeDiff, Nat.reduceMod, Nat.reduceDiv, reduceCtorEq, Int.reduceEq, Int.reduceNe, Int.reduceLT, Int.reduceLE, Int.reduceNeg, Int.reduceToNat, Int.reduceAdd, Int.reduceSub, Int.reduceMul, ↓reduceIte, forall_const, eq_self, ne_eq, Option.some.injEq, beq_self_eq_true]) | refine fin_ndec (fun hc => ?_) (fun hc => ?_) | refine fin_dec (fun hc => ?_) (fun hc => ?_) | refine cnd_ndec (fun hc => ?_) (fun hc => ?_) | refine cnd_dec' (fun hc => ?_) (fun hc => ?_) | refine fin_nsplit (fun hc => ?_) (fun hc => ?_) | refine fin_split (fun hc => ?_) (fun hc => ?_) | refine cnd_nsplit (fun hc => ?_) (fun hc => ?_) | refine cnd_split (fun hc => ?_) (fun hc => ?_) | refine blk_exit_id ?_)
  all_goals simp [DV.b]

theorem aw : awake_m [] = some [.c (.bool true)] := rfl

end Go.Ab
