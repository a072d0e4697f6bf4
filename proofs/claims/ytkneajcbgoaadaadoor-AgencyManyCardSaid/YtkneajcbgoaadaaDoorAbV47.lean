/-
  Texts of the layer and of the laws, put together: AbA29, AbA30. No law is stated here.
-/
import Derived.Test.YtkneajcbgoaadaaDoorAbV45
set_option linter.unusedSimpArgs false
set_option linter.unusedVariables false
set_option maxRecDepth 100000

/-
  Agencies' files: files of many records.
-/
namespace Go.Ab
open Go.RowKit Go.Proofs

def payK (N : Nat) : List UInt8 := List.replicate N 107
def payR (N : Nat) : Rec := ⟨4, payK N, 0, 0, 0⟩
def manyF (N c : Nat) : Fil := ⟨[97], [98], 1, false, List.replicate c (payR N)⟩
theorem pay_right {N : Nat} (h1 : 1 ≤ N) (h2 : N ≤ 256) : rightF (payR N) = 0 := by
  have hf : fieldB (payK N) = true := by
    unfold fieldB payK
    rw [Bool.and_eq_true, List.all_eq_true]
    refine ⟨fun c hc => ?_, ?_⟩
    · rw [List.eq_of_mem_replicate hc]
      decide
    · rw [decide_eq_true_eq]
      intro h
      have := congrArg List.length h
      simp at this
      omega
  have hl : (payK N).length = N := by simp [payK]
  unfold rightF payR
  dsimp only
  rw [if_neg (by decide), if_neg (by simp [hf]), if_neg (by omega), if_neg (by decide), if_neg (by decide), if_neg (by decide), if_neg (by decide)]
theorem many_tot {N c : Nat} : totF (List.replicate c (payR N)) = (0, 0) := by
  have : totL (List.replicate c (payR N)) = [] := by
    unfold totL
    rw [List.map_eq_nil_iff, List.filter_eq_nil_iff]
    intro x hx
    rw [List.eq_of_mem_replicate hx]
    simp [isCh, payR]
  unfold totF
  rw [this]
  decide
theorem many_bad {N c : Nat} (h1 : 1 ≤ N) (h2 : N ≤ 256) : firstBad (List.replicate c (payR N)) = 0 := firstBad_zero fun r hr => by
  rw [List.eq_of_mem_replicate hr]
  exact pay_right h1 h2
theorem many_head {N c : Nat} : headF (manyF N c) = 0 := by
  show headF ⟨[97], [98], 1, false, []⟩ = 0
  decide
theorem many_check {N c : Nat} (h1 : 1 ≤ N) (h2 : N ≤ 256) : checkF (manyF N c) = if 1024 < c then 3 else 0 := by
  have hl : (manyF N c).recs.length = c := by simp [manyF]
  unfold checkF
  rw [if_neg (by rw [many_head]; simp), hl]
  split
  · rfl
  · rw [show (manyF N c).recs = List.replicate c (payR N) from rfl, many_bad h1 h2, many_tot]
    rfl
theorem line4_len {a b c d : List UInt8} : (lineF [a, b, c, d]).length = a.length + b.length + c.length + d.length + 4 := by
  rw [lineF_eq, List.length_append, int4_len]; simp
theorem line3_len {a b c : List UInt8} : (lineF [a, b, c]).length = a.length + b.length + c.length + 3 := by
  rw [lineF_eq, List.length_append, int3_len]; simp
theorem show0 : showF 0 = [48, 46, 48, 48] := by
  unfold showF
  rw [show (0 : Int).natAbs / 100 = 0 from rfl, dec_small (by decide)]
  rfl
theorem dec1024 : (Lib.decDigits 1024).length = 4 := by
  rw [dec_big (by decide), dec_big (by decide), dec_big (by decide), dec_small (by decide)]
  rfl
theorem pay_len {N : Nat} : (recLine (payR N)).length = 12 + N := by
  have e0 : Lib.itoa 0 = [48] := it1 (n := 0) (by decide)
  rw [recLine, line4_len]
  rw [show lastF (payR N) = showF 0 from if_neg (show ¬ (4 : Int) = 3 by decide), show0, show (payR N).time = 0 from rfl, e0, show (payR N).key = payK N from rfl, show (wordF (payR N).kind) = [112, 97, 121] from rfl]
  simp [payK]
  omega
theorem many_len {N : Nat} : (textF (manyF N 1024)).length = 11 + 1024 * (12 + N) + 14 := by
  have e1 : Lib.itoa 1 = [49] := it1 (n := 1) (by decide)
  have hrec : ∀ c, ((List.replicate c (payR N)).flatMap recLine).length = c * (12 + N) := fun c => by
    induction c with
    | zero => simp
    | succ c ih => rw [List.replicate_succ, List.flatMap_cons, List.length_append, ih, pay_len, Nat.add_mul]; omega
  have hH : (headLn (manyF N 1024)).length = 11 := by
    rw [headLn, line4_len, show (manyF N 1024).seq = 1 from rfl, e1]
    rfl
  have hE : (endLn (manyF N 1024).recs).length = 14 := by
    rw [endLn, line3_len, show (manyF N 1024).recs = List.replicate 1024 (payR N) from rfl, many_tot, show0, List.length_replicate]
    rw [show Lib.itoa ((1024 : Nat) : Int) = Lib.decDigits 1024 from rfl, dec1024]
    rfl
  unfold textF
  rw [List.length_append, List.length_append, hH, hE, show (manyF N 1024).recs = List.replicate 1024 (payR N) from rfl, hrec]
theorem many_ok {N c : Nat} (h2 : N ≤ 256) (hc : c ≤ 2000) : (manyF N c).Ok := ⟨by simp [manyF]; omega, fun x hx => by
  rw [List.eq_of_mem_replicate hx]
  simp [payR, payK]
  omega⟩

def mBB (g : Int → Int → Option (List PA)) : List PA → Option (List PA)
  | [.c (.int .u8 a), .c (.int .u8 b)] => g a b
  | _ => none
theorem mBB_inv {g : Int → Int → Option (List PA)} {args r : List PA} (h : mBB g args = some r) : ∃ a b, args = [.c (.int .u8 a), .c (.int .u8 b)] ∧ g a b = some r := by
  unfold mBB at h
  split at h
  · exact ⟨_, _, rfl, h⟩
  · cases h
theorem mBB_eq {g : Int → Int → Option (List PA)} {a b : Int} : mBB g [.c (.int .u8 a), .c (.int .u8 b)] = g a b := rfl

end Go.Ab

/-
  Agencies' files: law Many.
-/
namespace Go.Ab
open Go.RowKit Go.Proofs

abbrev payW (N : Nat) : List D := [.int .i64 4, .str (payK N), .int .i64 0, .int .i64 0, .int .i64 0]
def manyH (N : Nat) (rows : List (List D)) : Hp := if rows = [] then [.tok N 1 none, .box [.d (.str [97]), .d (.str [98]), .d (.int .i64 1), .d (.sl true [])]] else [.tok N 1 none, .box [.d (.str [97]), .d (.str [98]), .d (.int .i64 1), .own 2 rows], .tok rows.length 5 none]
theorem many_rows {N c : Nat} : (manyF N c).recs.map Rec.row = List.replicate c (payW N) := by
  show (List.replicate c (payR N)).map Rec.row = _
  rw [List.map_replicate]
  rfl
theorem fillK {N : Nat} : chunk 1 N (fillD N N 107) = (payK N).map byR := fillD_end (w := 107) (by decide) (by decide)

noncomputable section
open Classical

def lMany_m : List PA → Option (List PA) := mBB fun a b => if decide (0 ≤ a ∧ a ≤ 255 ∧ 0 ≤ b ∧ b ≤ 255) = true then some [.b true] else none

set_option maxHeartbeats 1000000 in
theorem lMany_ok : PureC Tryd.prog Gt 5 lMany_m := by
  refine pure_of_awpS (X := ctx Tryd.prog Gt [(15, aprint_m), (12, acheck_m), (17, aparse_m), (18, rsame_m), (14, alive_m)]) Tryd.func5 rfl rfl (by kernel_rfl) (by kernel_rfl) (AllOk.cons aprint_ok (AllOk.cons acheck_ok (AllOk.cons aparse_ok (AllOk.cons rsame_ok (AllOk.cons alive_ok AllOk.nil))))).kok ?_
  intro args r h0
  obtain ⟨a, b, rfl, h⟩ := mBB_inv h0
  refine ⟨Nat.le_of_ble_eq_true rfl, ?_⟩
  split at h
  · rename_i hc
    obtain ⟨ha0, ha1, hb0, hb1⟩ := of_decide_eq_true hc
    cases h
    by_cases hbig : (100 : Int) < a
    · skip
      have hc := Nat.zero_add 0
      repeat' (first | (simp only [hc, AS, Tryd.f5, SX, hbig, AB, PL, RG, LP, TY, Nat.reduceEqDiff, Nat.reduceAdd, Nat.reduceSub, Nat.reduceMul, Nat.reduceLT, Nat.reduceLeDiff, Nat.reduceMod, Nat.reduceDiv, reduceCtorEq, Int.reduceEq, Int.reduceNe, Int.reduceLT, Int.reduceLE, Int.reduceNeg, Int.reduceToNat, Int.reduceAdd, Int.reduceSub, Int.reduceMul, ↓reduceIte, forall_const, eq_self, ne_eq, Option.some.injEq, beq_self_eq_true]) | refine fin_ndec (fun hc => ?_) (fun hc => ?_) | refine fin_dec (fun hc => ?_) (fun hc => ?_) | refine cnd_ndec (fun hc => ?_) (fun hc => ?_) | refine cnd_dec' (fun hc => ?_) (fun hc => ?_) | refine fin_nsplit (fun hc => ?_) (fun hc => ?_) | refine fin_split (fun hc => ?_) (fun hc => ?_) | refine cnd_nsplit (fun hc => ?_) (fun hc => ?_) | refine cnd_split (fun hc => ?_) (fun hc => ?_) | refine seqS_id ?_ | refine blk_exit_id ?_)
      all_goals simp [DV.b]
    · obtain ⟨k, rfl⟩ : ∃ k : Nat, b = (k : Int) := ⟨b.toNat, by omega⟩
      obtain ⟨m, rfl⟩ : ∃ m : Nat, a = (m : Int) := ⟨a.toNat, by omega⟩
      have w1 := wI (n := (k : Int)) (by omega) (by omega)
      have wm := wI (n := (m : Int)) (by omega) (by omega)
      obtain ⟨N, hN⟩ : ∃ N : Nat, N = 1 + k := ⟨_, rfl⟩
      obtain ⟨c, hC⟩ : ∃ c : Nat, c = 1024 + m := ⟨_, rfl⟩
      have w2 : IntKind.i64.wrap (1 + (k : Int)) = (N : Int) := by rw [show (1 : Int) + (k : Int) = (N : Int) by omega]; exact wI (by omega) (by omega)
      have w3 : IntKind.i64.wrap (1024 + (m : Int)) = (c : Int) := by rw [show (1024 : Int) + (m : Int) = (c : Int) by omega]; exact wI (by omega) (by omega)
      have k1 : ((0 : Int) ≤ (N : Int)) = True := eq_true (by omega)
      have k2 : ((N : Int) ≤ (N : Int)) = True := eq_true (Int.le_refl _)
      have k3 : ((1 : Int) * (N : Int) ≤ 281474976710656) = True := eq_true (by omega)
      have k3' : (((1 : Nat) : Int) * (N : Int) ≤ 281474976710656) = True := eq_true (by omega)
      have k4 : ((N : Int) ≤ 4611686018427387904) = True := eq_true (by omega)
      have hc := Nat.zero_add 0
      repeat' (first | (simp only [hc, AS, Tryd.f5, SX, MK, hbig, w1, w2, k1, k2, k3, k3', k4, Int.toNat_natCast, AB, PL, RG, LP, TY, Nat.reduceEqDiff, Nat.reduceAdd, Nat.reduceSub, Nat.reduceMul, Nat.reduceLT, Nat.reduceLeDiff, Nat.reduceMod, Nat.reduceDiv, reduceCtorEq, Int.reduceEq, Int.reduceNe, Int.reduceLT, Int.reduceLE, Int.reduceNeg, Int.reduceToNat, Int.reduceAdd, Int.reduceSub, Int.reduceMul, ↓reduceIte, forall_const, eq_self, ne_eq, Option.some.injEq, beq_self_eq_true]) | refine fin_ndec (fun hc => ?_) (fun hc => ?_) | refine fin_dec (fun hc => ?_) (fun hc => ?_) | refine cnd_ndec (fun hc => ?_) (fun hc => ?_) | refine cnd_dec' (fun hc => ?_) (fun hc => ?_) | refine fin_nsplit (fun hc => ?_) (fun hc => ?_) | refine fin_split (fun hc => ?_) (fun hc => ?_) | refine cnd_nsplit (fun hc => ?_) (fun hc => ?_) | refine cnd_split (fun hc => ?_) (fun hc => ?_) | refine seqS_id ?_ | refine blk_exit_id ?_)
      refine awpS_loop (σ := Nat) (fun j => j ≤ N) (fun j => ⟨[(6, AV.i j), (5, .v (.c (.msl 0 N))), (0, AV.d (.int .u8 m))], [.tok N 1 (some (fillD N j 107))]⟩) (fun j => N - j) 0 (Wk.sub' (by simp [subT, look]) (by simp [fillD_zero])) (by simp) ?_
      intro j hj
      by_cases hjl : j < N
      · have hlt : ((j : Int) < (N : Int)) = True := eq_true (by omega)
        have hw := wI (n := (j : Int) + 1) (by omega) (by omega)
        have d1 := @fillD_len N j 107 hj
        have d2 := @fillD_next N j 107 hjl
        have d3 : (j + 1 ≤ (fillD N j 107).length) = True := eq_true (by omega)
        generalize hF' : fillD N (j + 1) 107 = F' at *
        generalize hF : fillD N j 107 = F at *
        have hc := Nat.zero_add 0
        repeat' (first | (simp only [hc, AS, SX, MK, hlt, nn, hw, d2, d3, Int.toNat_natCast, Nat.mul_one, AB, PL, RG, LP, TY, Nat.reduceEqDiff, Nat.reduceAdd, Nat.reduceSub, Nat.reduceMul, Nat.reduceLT, Nat.reduceLeDiff, Nat.reduceMod, Nat.reduceDiv, reduceCtorEq, Int.reduceEq, Int.reduceNe, Int.reduceLT, Int.reduceLE, Int.reduceNeg, Int.reduceToNat, Int.reduceAdd, Int.reduceSub, Int.reduceMul, ↓reduceIte, forall_const, eq_self, ne_eq, Option.some.injEq, beq_self_eq_true]) | refine fin_ndec (fun hc => ?_) (fun hc => ?_) | refine fin_dec (fun hc => ?_) (fun hc => ?_) | refine cnd_ndec (fun hc => ?_) (fun hc => ?_) | refine cnd_dec' (fun hc => ?_) (fun hc => ?_) | refine fin_nsplit (fun hc => ?_) (fun hc => ?_) | refine fin_split (fun hc => ?_) (fun hc => ?_) | refine cnd_nsplit (fun hc => ?_) (fun hc => ?_) | refine cnd_split (fun hc => ?_) (fun hc => ?_) | refine seqS_id ?_ | refine blk_exit_id ?_)
        subst hF hF'
        exact lp_next (j + 1) (Wk.sub' (by simp [subT, look]) (by simp [d2])) (by omega) (by omega)
      · have hlt : ((j : Int) < (N : Int)) = False := eq_false (by omega)
        obtain rfl : j = N := by omega
        have e1 := @fillK j
        generalize fillD j j 107 = F at *
        have hc := Nat.zero_add 0
        repeat' (first | (simp only [hc, AS, SX, MK, hlt, AB, PL, RG, LP, TY, Nat.reduceEqDiff, Nat.reduceAdd, Nat.reduceSub, Nat.reduceMul, Nat.reduceLT, Nat.reduceLeDiff, Nat.reduceMod, Nat.reduceDiv, reduceCtorEq, Int.reduceEq, Int.reduceNe, Int.reduceLT, Int.reduceLE, Int.reduceNeg, Int.reduceToNat, Int.reduceAdd, Int.reduceSub, Int.reduceMul, ↓reduceIte, forall_const, eq_self, ne_eq, Option.some.injEq, beq_self_eq_true]) | refine fin_ndec (fun hc => ?_) (fun hc => ?_) | refine fin_dec (fun hc => ?_) (fun hc => ?_) | refine cnd_ndec (fun hc => ?_) (fun hc => ?_) | refine cnd_dec' (fun hc => ?_) (fun hc => ?_) | refine fin_nsplit (fun hc => ?_) (fun hc => ?_) | refine fin_split (fun hc => ?_) (fun hc => ?_) | refine cnd_nsplit (fun hc => ?_) (fun hc => ?_) | refine cnd_split (fun hc => ?_) (fun hc => ?_) | refine seqS_id ?_)
        refine blk_exit_wk (Wk.freeze 5 0 j 1 F (by simp [look]) rfl) ?_
        rw [e1]
        have c1 := @cvU_ok (payK j)
        have g0 : ((List.map byR (payK j)).length : Int) = j := by simp [payK]
        generalize hK : List.map byR (payK j) = K at *
        have hc := Nat.zero_add 0
        repeat' (first | (simp only [hc, AS, SX, MK, AB, PL, RG, LP, TY, Nat.reduceEqDiff, Nat.reduceAdd, Nat.reduceSub, Nat.reduceMul, Nat.reduceLT, Nat.reduceLeDiff, Nat.reduceMod, Nat.reduceDiv, reduceCtorEq, Int.reduceEq, Int.reduceNe, Int.reduceLT, Int.reduceLE, Int.reduceNeg, Int.reduceToNat, Int.reduceAdd, Int.reduceSub, Int.reduceMul, ↓reduceIte, forall_const, eq_self, ne_eq, Option.some.injEq, beq_self_eq_true]) | refine fin_ndec (fun hc => ?_) (fun hc => ?_) | refine fin_dec (fun hc => ?_) (fun hc => ?_) | refine cnd_ndec (fun hc => ?_) (fun hc => ?_) | refine cnd_dec' (fun hc => ?_) (fun hc => ?_) | refine fin_nsplit (fun hc => ?_) (fun hc => ?_) | refine fin_split (fun hc => ?_) (fun hc => ?_) | refine cnd_nsplit (fun hc => ?_) (fun hc => ?_) | refine cnd_split (fun hc => ?_) (fun hc => ?_) | refine seqS_id ?_ | refine blk_exit_id ?_)
        refine awpS_loop (σ := Nat) (fun i => i ≤ c) (fun i => ⟨[(8, AV.i i), (7, .v (.c (.ptr 1 0))), (5, .v (.c (.own 0 K))), (0, AV.d (.int .u8 m))], manyH j (List.replicate i (payW j))⟩) (fun i => c - i) 0 (Wk.sub' (by simp [subT, look]) (by simp [manyH])) (by simp) ?_
        intro i hi
        by_cases hil : i < c
        · have hlt : ((i : Int) < (c : Int)) = True := eq_true (by omega)
          have hw := wI (n := (i : Int) + 1) (by omega) (by omega)
          have lN : (([] : List (List D)).length : Int) = 0 := rfl
          have ap := fun (h : Hp) (x1 x2 x3 x4 x5 : D) => @apSl_one h 5 48 [x1, x2, x3, x4, x5] rfl (by decide)
          by_cases hi0 : i = 0
          · subst hi0
            rw [show manyH j (List.replicate 0 (payW j)) = [.tok j 1 none, .box [.d (.str [97]), .d (.str [98]), .d (.int .i64 1), .d (.sl true [])]] from rfl]
            have hlt0 : ((0 : Int) < (c : Int)) = True := eq_true (by omega)
            have hw0 : IntKind.i64.wrap 1 = 1 := wI (by decide) (by decide)
            have hc := Nat.zero_add 0
            repeat' (first | (simp only [hc, AS, SX, MK, hlt0, hw0, wm, w3, c1, lN, ap, AB, PL, RG, LP, TY, Nat.reduceEqDiff, Nat.reduceAdd, Nat.reduceSub, Nat.reduceMul, Nat.reduceLT, Nat.reduceLeDiff, Nat.reduceMod, Nat.reduceDiv, reduceCtorEq, Int.reduceEq, Int.reduceNe, Int.reduceLT, Int.reduceLE, Int.reduceNeg, Int.reduceToNat, Int.reduceAdd, Int.reduceSub, Int.reduceMul, ↓reduceIte, forall_const, eq_self, ne_eq, Option.some.injEq, beq_self_eq_true]) | refine fin_ndec (fun hc => ?_) (fun hc => ?_) | refine fin_dec (fun hc => ?_) (fun hc => ?_) | refine cnd_ndec (fun hc => ?_) (fun hc => ?_) | refine cnd_dec' (fun hc => ?_) (fun hc => ?_) | refine fin_nsplit (fun hc => ?_) (fun hc => ?_) | refine fin_split (fun hc => ?_) (fun hc => ?_) | refine cnd_nsplit (fun hc => ?_) (fun hc => ?_) | refine cnd_split (fun hc => ?_) (fun hc => ?_) | refine seqS_id ?_ | refine blk_exit_id ?_)
            exact lp_next 1 (Wk.sub' (by simp [subT, look]) (by simp [manyH])) (by omega) (by omega)
          · have hne : List.replicate i (payW j) ≠ [] := by simp [hi0]
            have hne' : List.replicate (i + 1) (payW j) ≠ [] := by simp
            have hl : (List.replicate i (payW j)).length = i := by simp
            have hs : List.replicate i (payW j) ++ [payW j] = List.replicate (i + 1) (payW j) := by rw [List.replicate_succ']
            have q1 : ((List.replicate i (payW j)).length = i) = True := eq_true hl
            have q2 : (i + 1 ≤ 4611686018427387904) = True := eq_true (by omega)
            have q3 : ((i + 1) * 48 ≤ 140737488355328) = True := eq_true (by omega)
            rw [show manyH j (List.replicate i (payW j)) = [.tok j 1 none, .box [.d (.str [97]), .d (.str [98]), .d (.int .i64 1), .own 2 (List.replicate i (payW j))], .tok i 5 none] by rw [manyH, if_neg hne, hl]]
            have eN : manyH j (List.replicate (i + 1) (payW j)) = [.tok j 1 none, .box [.d (.str [97]), .d (.str [98]), .d (.int .i64 1), .own 2 (List.replicate (i + 1) (payW j))], .tok (i + 1) 5 none] := by rw [manyH, if_neg hne']; simp
            generalize hR' : List.replicate (i + 1) (payW j) = R' at *
            generalize List.replicate i (payW j) = R at *
            have hc := Nat.zero_add 0
            repeat' (first | (simp only [hc, AS, SX, MK, hlt, hw, wm, w3, c1, hl, q1, q2, q3, AB, PL, RG, LP, TY, Nat.reduceEqDiff, Nat.reduceAdd, Nat.reduceSub, Nat.reduceMul, Nat.reduceLT, Nat.reduceLeDiff, Nat.reduceMod, Nat.reduceDiv, reduceCtorEq, Int.reduceEq, Int.reduceNe, Int.reduceLT, Int.reduceLE, Int.reduceNeg, Int.reduceToNat, Int.reduceAdd, Int.reduceSub, Int.reduceMul, ↓reduceIte, forall_const, eq_self, ne_eq, Option.some.injEq, beq_self_eq_true]) | refine fin_ndec (fun hc => ?_) (fun hc => ?_) | refine fin_dec (fun hc => ?_) (fun hc => ?_) | refine cnd_ndec (fun hc => ?_) (fun hc => ?_) | refine cnd_dec' (fun hc => ?_) (fun hc => ?_) | refine fin_nsplit (fun hc => ?_) (fun hc => ?_) | refine fin_split (fun hc => ?_) (fun hc => ?_) | refine cnd_nsplit (fun hc => ?_) (fun hc => ?_) | refine cnd_split (fun hc => ?_) (fun hc => ?_) | refine seqS_id ?_ | refine blk_exit_id ?_)
            exact lp_next (i + 1) (Wk.sub' (by simp [subT, look]) (by simp [hR', eN, hs])) (by omega) (by omega)
        · have hlt : ((i : Int) < (c : Int)) = False := eq_false (by omega)
          obtain rfl : i = c := by omega
          have hne : List.replicate i (payW j) ≠ [] := by simp; omega
          rw [show manyH j (List.replicate i (payW j)) = [.tok j 1 none, .box [.d (.str [97]), .d (.str [98]), .d (.int .i64 1), .own 2 (List.replicate i (payW j))], .tok i 5 none] by rw [manyH, if_neg hne]; simp]
          have hok := @many_ok j i (by omega) (by omega)
          have hck := @many_check j i (by omega) (by omega)
          have f1 := aprint_at hok
          have f2 := acheck_at hok
          have f6 := alive_at
          have hrow : (manyF j i).row = [.str [97], .str [98], .int .i64 1, .sl false (List.replicate i (payW j))] := by
            show [_, _, _, D.sl _ ((manyF j i).recs.map Rec.row)] = _
            rw [many_rows]
            rfl
          rw [hrow] at f1 f2
          by_cases hm : 0 < m
          · have hm' : ((0 : Int) < (m : Int)) = True := eq_true (by omega)
            rw [if_pos (show 1024 < i by omega)] at hck
            have hp : printF (manyF j i) = ([], 3) := by unfold printF; rw [hck]; rfl
            rw [hp] at f1
            rw [hck] at f2
            generalize List.replicate i (payW j) = R at *
            have ex : (([] : List UInt8) == []) = true := rfl
            have hc := Nat.zero_add 0
            repeat' (first | (simp only [hc, AS, SX, MK, hlt, wm, w3, f1, f2, f6, hm', ex, AB, PL, RG, LP, TY, Nat.reduceEqDiff, Nat.reduceAdd, Nat.reduceSub, Nat.reduceMul, Nat.reduceLT, Nat.reduceLeDiff, Nat.reduceMod, Nat.reduceDiv, reduceCtorEq, Int.reduceEq, Int.reduceNe, Int.reduceLT, Int.reduceLE, Int.reduceNeg, Int.reduceToNat, Int.reduceAdd, Int.reduceSub, Int.reduceMul, ↓reduceIte, forall_const, eq_self, ne_eq, Option.some.injEq, beq_self_eq_true]) | refine fin_ndec (fun hc => ?_) (fun hc => ?_) | refine fin_dec (fun hc => ?_) (fun hc => ?_) | refine cnd_ndec (fun hc => ?_) (fun hc => ?_) | refine cnd_dec' (fun hc => ?_) (fun hc => ?_) | refine fin_nsplit (fun hc => ?_) (fun hc => ?_) | refine fin_split (fun hc => ?_) (fun hc => ?_) | refine cnd_nsplit (fun hc => ?_) (fun hc => ?_) | refine cnd_split (fun hc => ?_) (fun hc => ?_) | refine seqS_id ?_ | refine blk_exit_id ?_)
            all_goals simp [DV.b]
          · have hm' : ((0 : Int) < (m : Int)) = False := eq_false (by omega)
            rw [if_neg (show ¬ 1024 < i by omega)] at hck
            obtain rfl : i = 1024 := by omega
            have hlen := @many_len j
            have s1 : IntKind.i64.wrap (12 + (j : Int)) = 12 + (j : Int) := wI (by omega) (by omega)
            have s2 : IntKind.i64.wrap (1024 * (12 + (j : Int))) = 1024 * (12 + (j : Int)) := wI (by omega) (by omega)
            have s3 : IntKind.i64.wrap (11 + 1024 * (12 + (j : Int))) = 11 + 1024 * (12 + (j : Int)) := wI (by omega) (by omega)
            have s4 : IntKind.i64.wrap (11 + 1024 * (12 + (j : Int)) + 14) = ((textF (manyF j 1024)).length : Int) := by rw [hlen, wI (by omega) (by omega)]; omega
            rw [hck] at f2
            have hP : printF (manyF j 1024) = if 65536 < (textF (manyF j 1024)).length then ([], 4) else (textF (manyF j 1024), 0) := by
              unfold printF
              rw [if_neg (by rw [hck]; simp)]
            by_cases hL : 65536 < (textF (manyF j 1024)).length
            · have hL' : ((65536 : Int) < ((textF (manyF j 1024)).length : Int)) = True := eq_true (by omega)
              rw [if_pos hL] at hP
              rw [hP] at f1
              generalize List.replicate 1024 (payW j) = R at *
              generalize textF (manyF j 1024) = T at *
              have hc := Nat.zero_add 0
              repeat' (first | (simp only [hc, AS, SX, MK, hlt, wm, w3, f1, f2, f6, hm', g0, s1, s2, s3, s4, hL', AB, PL, RG, LP, TY, Nat.reduceEqDiff, Nat.reduceAdd, Nat.reduceSub, Nat.reduceMul, Nat.reduceLT, Nat.reduceLeDiff, Nat.reduceMod, Nat.reduceDiv, reduceCtorEq, Int.reduceEq, Int.reduceNe, Int.reduceLT, Int.reduceLE, Int.reduceNeg, Int.reduceToNat, Int.reduceAdd, Int.reduceSub, Int.reduceMul, ↓reduceIte, forall_const, eq_self, ne_eq, Option.some.injEq, beq_self_eq_true]) | refine fin_ndec (fun hc => ?_) (fun hc => ?_) | refine fin_dec (fun hc => ?_) (fun hc => ?_) | refine cnd_ndec (fun hc => ?_) (fun hc => ?_) | refine cnd_dec' (fun hc => ?_) (fun hc => ?_) | refine fin_nsplit (fun hc => ?_) (fun hc => ?_) | refine fin_split (fun hc => ?_) (fun hc => ?_) | refine cnd_nsplit (fun hc => ?_) (fun hc => ?_) | refine cnd_split (fun hc => ?_) (fun hc => ?_) | refine seqS_id ?_ | refine blk_exit_id ?_)
              all_goals simp [DV.b]
            · have hL' : ((65536 : Int) < ((textF (manyF j 1024)).length : Int)) = False := eq_false (by omega)
              rw [if_neg hL] at hP
              rw [hP] at f1
              have f3 := aparse_at (s := textF (manyF j 1024)) (by omega)
              rw [parse_back hck (by omega)] at f3
              have hd : decide ((manyF j 1024).recs = []) = false := decide_eq_false (by intro e; have := congrArg List.length e; simp [manyF] at this)
              have f4 := @rsame_at (manyF j 1024) (manyF j 1024) (by simp [manyF])
              rw [show sameF (manyF j 1024) (manyF j 1024) = true by simp [sameF]] at f4
              rw [hd] at f3
              rw [show (⟨(manyF j 1024).fr, (manyF j 1024).dst, (manyF j 1024).seq, false, (manyF j 1024).recs⟩ : Fil) = manyF j 1024 from rfl] at f3
              rw [hrow] at f3 f4
              generalize List.replicate 1024 (payW j) = R at *
              generalize textF (manyF j 1024) = T at *
              have hc := Nat.zero_add 0
              repeat' (first | (simp only [hc, AS, SX, MK, hlt, wm, w3, f1, f2, f3, f4, f6, hm', g0, s1, s2, s3, s4, hL', AB, PL, RG, LP, TY, Nat.reduceEqDiff, Nat.reduceAdd, Nat.reduceSub, Nat.reduceMul, Nat.reduceLT, Nat.reduceLeDiff, Nat.reduceMod, Nat.reduceDiv, reduceCtorEq, Int.reduceEq, Int.reduceNe, Int.reduceLT, Int.reduceLE, Int.reduceNeg, Int.reduceToNat, Int.reduceAdd, Int.reduceSub, Int.reduceMul, ↓reduceIte, forall_const, eq_self, ne_eq, Option.some.injEq, beq_self_eq_true]) | refine fin_ndec (fun hc => ?_) (fun hc => ?_) | refine fin_dec (fun hc => ?_) (fun hc => ?_) | refine cnd_ndec (fun hc => ?_) (fun hc => ?_) | refine cnd_dec' (fun hc => ?_) (fun hc => ?_) | refine fin_nsplit (fun hc => ?_) (fun hc => ?_) | refine fin_split (fun hc => ?_) (fun hc => ?_) | refine cnd_nsplit (fun hc => ?_) (fun hc => ?_) | refine cnd_split (fun hc => ?_) (fun hc => ?_) | refine seqS_id ?_ | refine blk_exit_id ?_)
              all_goals simp [DV.b]
  · cases h

end
end Go.Ab
