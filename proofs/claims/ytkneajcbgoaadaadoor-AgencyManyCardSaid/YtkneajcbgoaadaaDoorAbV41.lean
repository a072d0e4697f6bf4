/-
  Texts of the layer and of the laws, put together: AbA20. No law is stated here.
-/
import Derived.Test.YtkneajcbgoaadaaDoorAbV38
import Derived.Test.YtkneajcbgoaadaaDoorAbV12
set_option linter.unusedSimpArgs false
set_option linter.unusedVariables false
set_option maxRecDepth 100000

/-
  Agencies' files: law Long.
-/
namespace Go.Ab
open Go.RowKit Go.Proofs

/-- A slice of bytes, the first of them written. -/
def fillD (N j : Nat) (w : Int) : List D := List.replicate j (.int .u8 w) ++ List.replicate (N - j) (.int .u8 0)
theorem rep_one : ∀ (n : Nat) (d : D), rep n [d] = List.replicate n d
  | 0, _ => rfl
  | n + 1, d => by
    show [d] ++ rep n [d] = _
    rw [rep_one n d, List.replicate_succ]
    rfl
theorem fillD_zero {N : Nat} {w : Int} : fillD N 0 w = rep N [.int .u8 0] := by rw [rep_one]; simp [fillD]
theorem fillD_len {N j : Nat} {w : Int} (h : j ≤ N) : (fillD N j w).length = N := by simp [fillD]; omega
theorem fillD_next {N j : Nat} {w : Int} (h : j < N) : setD (fillD N j w) j [.int .u8 w] = fillD N (j + 1) w := by
  unfold setD fillD
  rw [List.take_left' (by simp), List.length_singleton, List.drop_append, List.length_replicate, List.drop_eq_nil_of_le (by simp), Nat.add_sub_cancel_left, List.nil_append, List.drop_replicate, List.replicate_succ', List.append_assoc]
  rw [show N - j - 1 = N - (j + 1) by omega]
theorem chunk_rep (d : D) : ∀ n, chunk 1 n (List.replicate n d) = List.replicate n [d]
  | 0 => rfl
  | n + 1 => by
    show (List.replicate (n + 1) d).take 1 :: chunk 1 n ((List.replicate (n + 1) d).drop 1) = _
    rw [List.replicate_succ, List.take_succ_cons, List.take_zero, List.drop_succ_cons, List.drop_zero, chunk_rep d n, List.replicate_succ]
theorem fillD_end {N : Nat} {w : Int} (h0 : 0 ≤ w) (h1 : w ≤ 255) : chunk 1 N (fillD N N w) = (List.replicate N (UInt8.ofNat w.toNat)).map byR := by
  have hb : byR (UInt8.ofNat w.toNat) = [.int .u8 w] := by
    unfold byR
    rw [UInt8.toNat_ofNat', Nat.mod_eq_of_lt (by omega), Int.toNat_of_nonneg h0]
  unfold fillD
  rw [Nat.sub_self, List.replicate_zero, List.append_nil, chunk_rep, List.map_replicate, hb]

def mUB (g : Int → Int → Option (List PA)) : List PA → Option (List PA)
  | [.c (.int .u16 a), .c (.int .u8 b)] => g a b
  | _ => none
theorem mUB_inv {g : Int → Int → Option (List PA)} {args r : List PA} (h : mUB g args = some r) : ∃ a b, args = [.c (.int .u16 a), .c (.int .u8 b)] ∧ g a b = some r := by
  unfold mUB at h
  split at h
  · exact ⟨_, _, rfl, h⟩
  · cases h
theorem mUB_eq {g : Int → Int → Option (List PA)} {a b : Int} : mUB g [.c (.int .u16 a), .c (.int .u8 b)] = g a b := rfl

noncomputable section
open Classical

def lLong_m : List PA → Option (List PA) := mUB fun a b => if decide (0 ≤ a ∧ 0 ≤ b ∧ b ≤ 255) = true then some [.b true] else none

theorem parse_long {s : List UInt8} (h : 65536 < s.length) : parseO s = (zFil, 0, 4) := if_pos h

theorem lLong_ok : PureC Tryd.prog Gt 6 lLong_m := by
  refine pure_of_awpS (X := ctx Tryd.prog Gt [(17, aparse_m), (18, rsame_m), (14, alive_m)]) Tryd.func6 rfl rfl (by kernel_rfl) (by kernel_rfl) (AllOk.cons aparse_ok (AllOk.cons rsame_ok (AllOk.cons alive_ok AllOk.nil))).kok ?_
  intro args r h0
  obtain ⟨a, b, rfl, h⟩ := mUB_inv h0
  refine ⟨Nat.le_of_ble_eq_true rfl, ?_⟩
  split at h
  · rename_i hc
    obtain ⟨ha0, hb0, hb1⟩ := of_decide_eq_true hc
    cases h
    by_cases hbig : (1000 : Int) < a
    · skip
      have hc := Nat.zero_add 0
      repeat' (first | (simp only [hc, AS, Tryd.f6, SX, hbig, AB, PL, RG, LP, TY, Nat.reduceEqDiff, Nat.reduceAdd, Nat.reduceSub, Nat.reduceMul, Nat.reduceLT, Nat.reduceLeDiff, Nat.reduceMod, Nat.reduceDiv, reduceCtorEq, Int.reduceEq, Int.reduceNe, Int.reduceLT, Int.reduceLE, Int.reduceNeg, Int.reduceToNat, Int.reduceAdd, Int.reduceSub, Int.reduceMul, ↓reduceIte, forall_const, eq_self, ne_eq, Option.some.injEq, beq_self_eq_true]) | refine fin_ndec (fun hc => ?_) (fun hc => ?_) | refine fin_dec (fun hc => ?_) (fun hc => ?_) | refine cnd_ndec (fun hc => ?_) (fun hc => ?_) | refine cnd_dec' (fun hc => ?_) (fun hc => ?_) | refine fin_nsplit (fun hc => ?_) (fun hc => ?_) | refine fin_split (fun hc => ?_) (fun hc => ?_) | refine cnd_nsplit (fun hc => ?_) (fun hc => ?_) | refine cnd_split (fun hc => ?_) (fun hc => ?_) | refine seqS_id ?_ | refine blk_exit_id ?_)
      all_goals simp [DV.b]
    · obtain ⟨k, rfl⟩ : ∃ k : Nat, a = (k : Int) := ⟨a.toNat, by omega⟩
      have w1 := wI (n := (k : Int)) (by omega) (by omega)
      obtain ⟨N, hN⟩ : ∃ N : Nat, N = 65537 + k := ⟨_, rfl⟩
      have w2 : IntKind.i64.wrap (65537 + (k : Int)) = (N : Int) := by rw [show (65537 : Int) + (k : Int) = (N : Int) by omega]; exact wI (by omega) (by omega)
      have k1 : ((0 : Int) ≤ (N : Int)) = True := eq_true (by omega)
      have k2 : ((N : Int) ≤ (N : Int)) = True := eq_true (Int.le_refl _)
      have k3 : ((1 : Int) * (N : Int) ≤ 281474976710656) = True := eq_true (by omega)
      have k3' : (((1 : Nat) : Int) * (N : Int) ≤ 281474976710656) = True := eq_true (by omega)
      have k4 : ((N : Int) ≤ 4611686018427387904) = True := eq_true (by omega)
      have hc := Nat.zero_add 0
      repeat' (first | (simp only [hc, AS, Tryd.f6, SX, MK, hbig, w1, w2, k1, k2, k3, k3', k4, Int.toNat_natCast, AB, PL, RG, LP, TY, Nat.reduceEqDiff, Nat.reduceAdd, Nat.reduceSub, Nat.reduceMul, Nat.reduceLT, Nat.reduceLeDiff, Nat.reduceMod, Nat.reduceDiv, reduceCtorEq, Int.reduceEq, Int.reduceNe, Int.reduceLT, Int.reduceLE, Int.reduceNeg, Int.reduceToNat, Int.reduceAdd, Int.reduceSub, Int.reduceMul, ↓reduceIte, forall_const, eq_self, ne_eq, Option.some.injEq, beq_self_eq_true]) | refine fin_ndec (fun hc => ?_) (fun hc => ?_) | refine fin_dec (fun hc => ?_) (fun hc => ?_) | refine cnd_ndec (fun hc => ?_) (fun hc => ?_) | refine cnd_dec' (fun hc => ?_) (fun hc => ?_) | refine fin_nsplit (fun hc => ?_) (fun hc => ?_) | refine fin_split (fun hc => ?_) (fun hc => ?_) | refine cnd_nsplit (fun hc => ?_) (fun hc => ?_) | refine cnd_split (fun hc => ?_) (fun hc => ?_) | refine seqS_id ?_ | refine blk_exit_id ?_)
      refine awpS_loop (σ := Nat) (fun j => j ≤ N) (fun j => ⟨[(6, AV.i j), (5, .v (.c (.msl 0 N))), (1, AV.d (.int .u8 b))], [.tok N 1 (some (fillD N j b))]⟩) (fun j => N - j) 0 (Wk.sub' (by simp [subT, look]) (by simp [fillD_zero])) (by simp) ?_
      intro j hj
      by_cases hjl : j < N
      · have hlt : ((j : Int) < (N : Int)) = True := eq_true (by omega)
        have hw := wI (n := (j : Int) + 1) (by omega) (by omega)
        have d1 := @fillD_len N j b hj
        have d2 := @fillD_next N j b hjl
        have d3 : (j + 1 ≤ (fillD N j b).length) = True := eq_true (by omega)
        generalize hF' : fillD N (j + 1) b = F' at *
        generalize hF : fillD N j b = F at *
        have hc := Nat.zero_add 0
        repeat' (first | (simp only [hc, AS, SX, MK, hlt, nn, hw, d2, d3, Int.toNat_natCast, Nat.mul_one, AB, PL, RG, LP, TY, Nat.reduceEqDiff, Nat.reduceAdd, Nat.reduceSub, Nat.reduceMul, Nat.reduceLT, Nat.reduceLeDiff, Nat.reduceMod, Nat.reduceDiv, reduceCtorEq, Int.reduceEq, Int.reduceNe, Int.reduceLT, Int.reduceLE, Int.reduceNeg, Int.reduceToNat, Int.reduceAdd, Int.reduceSub, Int.reduceMul, ↓reduceIte, forall_const, eq_self, ne_eq, Option.some.injEq, beq_self_eq_true]) | refine fin_ndec (fun hc => ?_) (fun hc => ?_) | refine fin_dec (fun hc => ?_) (fun hc => ?_) | refine cnd_ndec (fun hc => ?_) (fun hc => ?_) | refine cnd_dec' (fun hc => ?_) (fun hc => ?_) | refine fin_nsplit (fun hc => ?_) (fun hc => ?_) | refine fin_split (fun hc => ?_) (fun hc => ?_) | refine cnd_nsplit (fun hc => ?_) (fun hc => ?_) | refine cnd_split (fun hc => ?_) (fun hc => ?_) | refine seqS_id ?_ | refine blk_exit_id ?_)
        subst hF hF'
        exact lp_next (j + 1) (Wk.sub' (by simp [subT, look]) (by simp [d2])) (by omega) (by omega)
      · have hlt : ((j : Int) < (N : Int)) = False := eq_false (by omega)
        obtain rfl : j = N := by omega
        have e1 := @fillD_end j b hb0 hb1
        have hs : (List.replicate j (UInt8.ofNat b.toNat)).length = j := by simp
        have f1 := aparse_at (s := List.replicate j (UInt8.ofNat b.toNat)) (by omega)
        rw [parse_long (by omega)] at f1
        have f2 := @rsame_at zFil zFil (by decide)
        rw [show sameF zFil zFil = true by simp [sameF]] at f2
        rw [show zFil.row = [.str [], .str [], .int .i64 0, .sl true []] from rfl] at f1 f2
        have f3 := alive_at
        have c1 := @cvU_ok (List.replicate j (UInt8.ofNat b.toNat))
        generalize fillD j j b = F at *
        have hc := Nat.zero_add 0
        repeat' (first | (simp only [hc, AS, SX, MK, hlt, AB, PL, RG, LP, TY, Nat.reduceEqDiff, Nat.reduceAdd, Nat.reduceSub, Nat.reduceMul, Nat.reduceLT, Nat.reduceLeDiff, Nat.reduceMod, Nat.reduceDiv, reduceCtorEq, Int.reduceEq, Int.reduceNe, Int.reduceLT, Int.reduceLE, Int.reduceNeg, Int.reduceToNat, Int.reduceAdd, Int.reduceSub, Int.reduceMul, ↓reduceIte, forall_const, eq_self, ne_eq, Option.some.injEq, beq_self_eq_true]) | refine fin_ndec (fun hc => ?_) (fun hc => ?_) | refine fin_dec (fun hc => ?_) (fun hc => ?_) | refine cnd_ndec (fun hc => ?_) (fun hc => ?_) | refine cnd_dec' (fun hc => ?_) (fun hc => ?_) | refine fin_nsplit (fun hc => ?_) (fun hc => ?_) | refine fin_split (fun hc => ?_) (fun hc => ?_) | refine cnd_nsplit (fun hc => ?_) (fun hc => ?_) | refine cnd_split (fun hc => ?_) (fun hc => ?_) | refine seqS_id ?_)
        refine blk_exit_wk (Wk.freeze 5 0 j 1 F (by simp [look]) rfl) ?_
        rw [e1]
        generalize List.replicate j (UInt8.ofNat b.toNat) = s at *
        have hc := Nat.zero_add 0
        repeat' (first | (simp only [hc, AS, SX, MK, f1, f2, f3, c1, AB, PL, RG, LP, TY, Nat.reduceEqDiff, Nat.reduceAdd, Nat.reduceSub, Nat.reduceMul, Nat.reduceLT, Nat.reduceLeDiff, Nat.reduceMod, Nat.reduceDiv, reduceCtorEq, Int.reduceEq, Int.reduceNe, Int.reduceLT, Int.reduceLE, Int.reduceNeg, Int.reduceToNat, Int.reduceAdd, Int.reduceSub, Int.reduceMul, ↓reduceIte, forall_const, eq_self, ne_eq, Option.some.injEq, beq_self_eq_true]) | refine fin_ndec (fun hc => ?_) (fun hc => ?_) | refine fin_dec (fun hc => ?_) (fun hc => ?_) | refine cnd_ndec (fun hc => ?_) (fun hc => ?_) | refine cnd_dec' (fun hc => ?_) (fun hc => ?_) | refine fin_nsplit (fun hc => ?_) (fun hc => ?_) | refine fin_split (fun hc => ?_) (fun hc => ?_) | refine cnd_nsplit (fun hc => ?_) (fun hc => ?_) | refine cnd_split (fun hc => ?_) (fun hc => ?_) | refine seqS_id ?_ | refine blk_exit_id ?_)
        all_goals simp [DV.b]
  · cases h

end
end Go.Ab
