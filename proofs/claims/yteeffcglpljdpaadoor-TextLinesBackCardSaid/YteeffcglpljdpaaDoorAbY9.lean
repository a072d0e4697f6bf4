/-
  Texts: the reference's Join; the laws on joins and on fields back.
-/
import Derived.Test.YteeffcglpljdpaaDoorAbY8
set_option linter.unusedSimpArgs false
set_option linter.unusedVariables false
namespace Go.Ab
open Go.RowKit Go.Proofs

def rjoin_m : List PA → Option (List PA) := ml fun l => if decide (l.length ≤ 100000 ∧ (Lib.join l [32]).length ≤ 10000000) = true then some [.c (.str (Lib.join l [32]))] else none
def lJoins_m : List PA → Option (List PA) := ml fun _ => some [.b true]
def lFieldsBack_m : List PA → Option (List PA) := ms fun _ => some [.b true]

theorem jt_cons (p : List UInt8) (r : List (List UInt8)) : Lib.joinTail [32] (p :: r) = 32 :: p ++ Lib.joinTail [32] r := by simp [Lib.joinTail]
theorem dropL {l : List (List UInt8)} {j : Nat} (h : j < l.length) : l.drop j = l[j] :: l.drop (j + 1) := List.drop_eq_getElem_cons h

theorem rjoin_ok : PureC Tryd.prog Gt 30 rjoin_m := by
  refine pure_of_awp (X := ctx Tryd.prog Gt []) Tryd.func30 rfl rfl (by kernel_rfl) (by kernel_rfl) AllOk.nil.kok ?_
  intro args r h0
  obtain ⟨f, l, rfl, h⟩ := ml_inv h0
  refine ⟨Nat.le_of_ble_eq_true rfl, ?_⟩
  split at h
  · rename_i hn
    obtain ⟨hn1, hn2⟩ := of_decide_eq_true hn
    cases h
    have l1 : ((l.map rowS).length : Int) = l.length := by simp
    have hJ0 : l = [] → Lib.join l [32] = [] := fun h => by rw [h]; rfl
    have hJ1 : ∀ (h : 0 < l.length), Lib.join l [32] = l[0] ++ Lib.joinTail [32] (l.drop 1) := fun h => by
      conv => lhs; rw [← List.drop_zero (l := l), dropL h]
      exact Lib.join_cons _ _ _
    generalize Lib.join l [32] = J at *
    have hc := Nat.zero_add 0
    repeat' (first | (simp only [hc, Tryd.f30, SX, AB, PL, RG, LP, TY, Nat.reduceEqDiff, Nat.reduceAdd, Nat.reduceSub, Nat.reduceMul, Nat.reduceLT, Nat.reduceLeDiff, Nat.reduceMod, Nat.reduceDiv, reduceCtorEq, Int.reduceEq, Int.reduceNe, Int.reduceLT, Int.reduceLE, Int.reduceNeg, Int.reduceToNat, Int.reduceAdd, Int.reduceSub, Int.reduceMul, ↓reduceIte, forall_const, eq_self, ne_eq, Option.some.injEq, beq_self_eq_true]) | refine fin_ndec (fun hc => ?_) (fun hc => ?_) | refine fin_dec (fun hc => ?_) (fun hc => ?_) | refine cnd_ndec (fun hc => ?_) (fun hc => ?_) | refine cnd_dec' (fun hc => ?_) (fun hc => ?_) | refine fin_nsplit (fun hc => ?_) (fun hc => ?_) | refine fin_split (fun hc => ?_) (fun hc => ?_) | refine cnd_nsplit (fun hc => ?_) (fun hc => ?_) | refine cnd_split (fun hc => ?_) (fun hc => ?_) | refine blk_exit_id ?_)
    refine awp_loop (σ := Nat × List UInt8) (fun p => p.1 ≤ l.length ∧ (p.1 = 0 → p.2 = []) ∧ (0 < p.1 → p.2 ++ Lib.joinTail [32] (l.drop p.1) = J)) (fun p => ⟨[(4, AV.i p.1), (3, AV.s p.2), (0, AV.d (.sl f (l.map rowS)))], []⟩) (fun p => l.length - p.1) (0, []) (Wk.sub' (by simp [subT, look]) rfl) ⟨by simp only []; omega, fun _ => rfl, fun h => by simp at h⟩ ?_
    rintro ⟨j, out⟩ ⟨hj, ho0, ho1⟩
    dsimp only at hj ho0 ho1 ⊢
    by_cases hjl : j < l.length
    · have e2 : (l.map rowS)[j]? = some [.str l[j]] := by simp [hjl, rowS]
      have hlt : ((j : Int) < (l.length : Int)) = True := eq_true (by omega)
      have hw := wI (n := (j : Int) + 1) (by omega) (by omega)
      by_cases hj0 : j = 0
      · have hpos : ((0 : Int) < (j : Int)) = False := eq_false (by omega)
        have hout := ho0 hj0
        have hJ := hJ1 (by omega)
        have hd : l[j] ++ Lib.joinTail [32] (l.drop (j + 1)) = J := by subst hj0; exact hJ.symm
        subst hout
        have hle := congrArg List.length hd
        rw [List.length_append] at hle
        have k1 : (l[j].length ≤ 4611686018427387904) = True := eq_true (by omega)
        have hc := Nat.zero_add 0
        repeat' (first | (simp only [hc, SX, l1, e2, hlt, nn, hw, hpos, k1, List.length_nil, Nat.zero_add, List.nil_append, AB, PL, RG, LP, TY, Nat.reduceEqDiff, Nat.reduceAdd, Nat.reduceSub, Nat.reduceMul, Nat.reduceLT, Nat.reduceLeDiff, Nat.reduceMod, Nat.reduceDiv, reduceCtorEq, Int.reduceEq, Int.reduceNe, Int.reduceLT, Int.reduceLE, Int.reduceNeg, Int.reduceToNat, Int.reduceAdd, Int.reduceSub, Int.reduceMul, ↓reduceIte, forall_const, eq_self, ne_eq, Option.some.injEq, beq_self_eq_true]) | refine fin_ndec (fun hc => ?_) (fun hc => ?_) | refine fin_dec (fun hc => ?_) (fun hc => ?_) | refine cnd_ndec (fun hc => ?_) (fun hc => ?_) | refine cnd_dec' (fun hc => ?_) (fun hc => ?_) | refine fin_nsplit (fun hc => ?_) (fun hc => ?_) | refine fin_split (fun hc => ?_) (fun hc => ?_) | refine cnd_nsplit (fun hc => ?_) (fun hc => ?_) | refine cnd_split (fun hc => ?_) (fun hc => ?_) | refine blk_exit_id ?_)
        exact lp_next (j + 1, l[j]) (Wk.sub' (by simp [subT, look]) rfl) ⟨by simp only []; omega, fun h => by simp at h, fun _ => hd⟩ (by simp only []; omega)
      · have hpos : ((0 : Int) < (j : Int)) = True := eq_true (by omega)
        have hd := ho1 (by omega)
        rw [dropL hjl, jt_cons] at hd
        have hle := congrArg List.length hd
        simp only [List.length_append, List.length_cons] at hle
        have m1 : (out ++ [32]).length = out.length + 1 := by simp
        have k1 : (out.length + 1 ≤ 4611686018427387904) = True := eq_true (by omega)
        have k2 : (out.length + 1 + l[j].length ≤ 4611686018427387904) = True := eq_true (by omega)
        have hc := Nat.zero_add 0
        repeat' (first | (simp only [hc, SX, l1, e2, hlt, nn, hw, hpos, m1, k1, k2, AB, PL, RG, LP, TY, Nat.reduceEqDiff, Nat.reduceAdd, Nat.reduceSub, Nat.reduceMul, Nat.reduceLT, Nat.reduceLeDiff, Nat.reduceMod, Nat.reduceDiv, reduceCtorEq, Int.reduceEq, Int.reduceNe, Int.reduceLT, Int.reduceLE, Int.reduceNeg, Int.reduceToNat, Int.reduceAdd, Int.reduceSub, Int.reduceMul, ↓reduceIte, forall_const, eq_self, ne_eq, Option.some.injEq, beq_self_eq_true]) | refine fin_ndec (fun hc => ?_) (fun hc => ?_) | refine fin_dec (fun hc => ?_) (fun hc => ?_) | refine cnd_ndec (fun hc => ?_) (fun hc => ?_) | refine cnd_dec' (fun hc => ?_) (fun hc => ?_) | refine fin_nsplit (fun hc => ?_) (fun hc => ?_) | refine fin_split (fun hc => ?_) (fun hc => ?_) | refine cnd_nsplit (fun hc => ?_) (fun hc => ?_) | refine cnd_split (fun hc => ?_) (fun hc => ?_) | refine blk_exit_id ?_)
        exact lp_next (j + 1, out ++ [32] ++ l[j]) (Wk.sub' (by simp [subT, look]) rfl) ⟨by simp only []; omega, fun h => by simp at h, fun _ => by rw [← hd]; simp⟩ (by simp only []; omega)
    · have hlt : ((j : Int) < (l.length : Int)) = False := eq_false (by omega)
      have hE : out = J := by
        by_cases hj0 : j = 0
        · rw [ho0 hj0, hJ0 (List.length_eq_zero_iff.1 (by omega))]
        · have := ho1 (by omega)
          rw [List.drop_of_length_le (by omega)] at this
          rw [← this]; simp [Lib.joinTail]
      have hc := Nat.zero_add 0
      repeat' (first | (simp only [hc, SX, l1, hlt, AB, PL, RG, LP, TY, Nat.reduceEqDiff, Nat.reduceAdd, Nat.reduceSub, Nat.reduceMul, Nat.reduceLT, Nat.reduceLeDiff, Nat.reduceMod, Nat.reduceDiv, reduceCtorEq, Int.reduceEq, Int.reduceNe, Int.reduceLT, Int.reduceLE, Int.reduceNeg, Int.reduceToNat, Int.reduceAdd, Int.reduceSub, Int.reduceMul, ↓reduceIte, forall_const, eq_self, ne_eq, Option.some.injEq, beq_self_eq_true]) | refine fin_ndec (fun hc => ?_) (fun hc => ?_) | refine fin_dec (fun hc => ?_) (fun hc => ?_) | refine cnd_ndec (fun hc => ?_) (fun hc => ?_) | refine cnd_dec' (fun hc => ?_) (fun hc => ?_) | refine fin_nsplit (fun hc => ?_) (fun hc => ?_) | refine fin_split (fun hc => ?_) (fun hc => ?_) | refine cnd_nsplit (fun hc => ?_) (fun hc => ?_) | refine cnd_split (fun hc => ?_) (fun hc => ?_) | refine blk_exit_id ?_)
      simp [hE]
  · cases h

theorem jt_len : ∀ l : List (List UInt8), (∀ p ∈ l, p.length ≤ 100) → (Lib.joinTail [32] l).length ≤ 101 * l.length
  | [], _ => by simp [Lib.joinTail]
  | p :: l, h => by
    have h1 := h p List.mem_cons_self
    have h2 := jt_len l (fun q hq => h q (List.mem_cons_of_mem _ hq))
    rw [jt_cons]
    simp only [List.length_append, List.length_cons]
    omega
theorem join_len (l : List (List UInt8)) (h : ∀ p ∈ l, p.length ≤ 100) : (Lib.join l [32]).length ≤ 101 * l.length := by
  match l, h with
  | [], _ => simp [Lib.join_nil]
  | p :: l, h =>
    rw [Lib.join_cons, List.length_append, List.length_cons]
    have h1 := h p List.mem_cons_self
    have h2 := jt_len l (fun q hq => h q (List.mem_cons_of_mem _ hq))
    omega

theorem lJoins_ok : PureC Tryd.prog Gt 8 lJoins_m := by
  refine pure_of_awp (X := ctx Tryd.prog Gt [(29, tjoin_m), (30, rjoin_m), (13, awake_m)]) Tryd.func8 rfl rfl (by kernel_rfl) (by kernel_rfl) (AllOk.cons tjoin_ok (AllOk.cons rjoin_ok (AllOk.cons awake_ok AllOk.nil))).kok ?_
  intro args r h0
  obtain ⟨f, l, rfl, h⟩ := ml_inv h0
  refine ⟨Nat.le_of_ble_eq_true rfl, ?_⟩
  cases h
  have l1 : ((l.map rowS).length : Int) = l.length := by simp
  by_cases hl : (100 : Int) < l.length
  · skip
    have hc := Nat.zero_add 0
    repeat' (first | (simp only [hc, Tryd.f8, SX, l1, hl, aw, AB, PL, RG, LP, TY, Nat.reduceEqDiff, Nat.reduceAdd, Nat.reduceSub, Nat.reduceMul, Nat.reduceLT, Nat.reduceLeDiff, Nat.reduceMod, Nat.reduceDiv, reduceCtorEq, Int.reduceEq, Int.reduceNe, Int.reduceLT, Int.reduceLE, Int.reduceNeg, Int.reduceToNat, Int.reduceAdd, Int.reduceSub, Int.reduceMul, ↓reduceIte, forall_const, eq_self, ne_eq, Option.some.injEq, beq_self_eq_true]) | refine fin_ndec (fun hc => ?_) (fun hc => ?_) | refine fin_dec (fun hc => ?_) (fun hc => ?_) | refine cnd_ndec (fun hc => ?_) (fun hc => ?_) | refine cnd_dec' (fun hc => ?_) (fun hc => ?_) | refine fin_nsplit (fun hc => ?_) (fun hc => ?_) | refine fin_split (fun hc => ?_) (fun hc => ?_) | refine cnd_nsplit (fun hc => ?_) (fun hc => ?_) | refine cnd_split (fun hc => ?_) (fun hc => ?_) | refine blk_exit_id ?_)
    all_goals simp_all [DV.b]
  have hc := Nat.zero_add 0
  repeat' (first | (simp only [hc, Tryd.f8, SX, l1, hl, aw, AB, PL, RG, LP, TY, Nat.reduceEqDiff, Nat.reduceAdd, Nat.reduceSub, Nat.reduceMul, Nat.reduceLT, Nat.reduceLeDiff, Nat.reduceMod, Nat.reduceDiv, reduceCtorEq, Int.reduceEq, Int.reduceNe, Int.reduceLT, Int.reduceLE, Int.reduceNeg, Int.reduceToNat, Int.reduceAdd, Int.reduceSub, Int.reduceMul, ↓reduceIte, forall_const, eq_self, ne_eq, Option.some.injEq, beq_self_eq_true]) | refine fin_ndec (fun hc => ?_) (fun hc => ?_) | refine fin_dec (fun hc => ?_) (fun hc => ?_) | refine cnd_ndec (fun hc => ?_) (fun hc => ?_) | refine cnd_dec' (fun hc => ?_) (fun hc => ?_) | refine fin_nsplit (fun hc => ?_) (fun hc => ?_) | refine fin_split (fun hc => ?_) (fun hc => ?_) | refine cnd_nsplit (fun hc => ?_) (fun hc => ?_) | refine cnd_split (fun hc => ?_) (fun hc => ?_) | refine blk_exit_id ?_)
  refine awp_loop (σ := Nat) (fun j => j ≤ l.length ∧ ∀ p ∈ l.take j, p.length ≤ 100) (fun j => ⟨[(3, AV.i j), (0, AV.d (.sl f (l.map rowS)))], []⟩) (fun j => l.length - j) 0 (Wk.sub' (by simp [subT, look]) rfl) (by simp) ?_
  rintro j ⟨hj, hjt⟩
  by_cases hjl : j < l.length
  · have e2 : (l.map rowS)[j]? = some [.str l[j]] := by simp [hjl, rowS]
    have hlt : ((j : Int) < (l.length : Int)) = True := eq_true (by omega)
    have hw := wI (n := (j : Int) + 1) (by omega) (by omega)
    by_cases hp : (100 : Int) < l[j].length
    · skip
      have hc := Nat.zero_add 0
      repeat' (first | (simp only [hc, SX, l1, e2, hlt, nn, hw, hp, aw, AB, PL, RG, LP, TY, Nat.reduceEqDiff, Nat.reduceAdd, Nat.reduceSub, Nat.reduceMul, Nat.reduceLT, Nat.reduceLeDiff, Nat.reduceMod, Nat.reduceDiv, reduceCtorEq, Int.reduceEq, Int.reduceNe, Int.reduceLT, Int.reduceLE, Int.reduceNeg, Int.reduceToNat, Int.reduceAdd, Int.reduceSub, Int.reduceMul, ↓reduceIte, forall_const, eq_self, ne_eq, Option.some.injEq, beq_self_eq_true]) | refine fin_ndec (fun hc => ?_) (fun hc => ?_) | refine fin_dec (fun hc => ?_) (fun hc => ?_) | refine cnd_ndec (fun hc => ?_) (fun hc => ?_) | refine cnd_dec' (fun hc => ?_) (fun hc => ?_) | refine fin_nsplit (fun hc => ?_) (fun hc => ?_) | refine fin_split (fun hc => ?_) (fun hc => ?_) | refine cnd_nsplit (fun hc => ?_) (fun hc => ?_) | refine cnd_split (fun hc => ?_) (fun hc => ?_) | refine blk_exit_id ?_)
      all_goals simp [DV.b]
    · skip
      have hc := Nat.zero_add 0
      repeat' (first | (simp only [hc, SX, l1, e2, hlt, nn, hw, hp, aw, AB, PL, RG, LP, TY, Nat.reduceEqDiff, Nat.reduceAdd, Nat.reduceSub, Nat.reduceMul, Nat.reduceLT, Nat.reduceLeDiff, Nat.reduceMod, Nat.reduceDiv, reduceCtorEq, Int.reduceEq, Int.reduceNe, Int.reduceLT, Int.reduceLE, Int.reduceNeg, Int.reduceToNat, Int.reduceAdd, Int.reduceSub, Int.reduceMul, ↓reduceIte, forall_const, eq_self, ne_eq, Option.some.injEq, beq_self_eq_true]) | refine fin_ndec (fun hc => ?_) (fun hc => ?_) | refine fin_dec (fun hc => ?_) (fun hc => ?_) | refine cnd_ndec (fun hc => ?_) (fun hc => ?_) | refine cnd_dec' (fun hc => ?_) (fun hc => ?_) | refine fin_nsplit (fun hc => ?_) (fun hc => ?_) | refine fin_split (fun hc => ?_) (fun hc => ?_) | refine cnd_nsplit (fun hc => ?_) (fun hc => ?_) | refine cnd_split (fun hc => ?_) (fun hc => ?_) | refine blk_exit_id ?_)
      refine lp_next (j + 1) (Wk.sub' (by simp [subT, look]) rfl) ⟨by omega, fun p h => ?_⟩ (by omega)
      rw [List.take_succ_eq_append_getElem hjl, List.mem_append] at h
      rcases h with h | h
      · exact hjt p h
      · simp at h; subst h; omega
  · have hlt : ((j : Int) < (l.length : Int)) = False := eq_false (by omega)
    rw [List.take_of_length_le (by omega)] at hjt
    have hle := join_len l hjt
    have f1 : tjoin_m [.c (.sl f (l.map rowS))] = some [.c (.str (Lib.join l [32]))] := by rw [tjoin_m, ml_eq, if_pos (decide_eq_true ⟨by omega, by omega⟩)]
    have f2 : rjoin_m [.c (.sl f (l.map rowS))] = some [.c (.str (Lib.join l [32]))] := by rw [rjoin_m, ml_eq, if_pos (decide_eq_true ⟨by omega, by omega⟩)]
    have hc := Nat.zero_add 0
    repeat' (first | (simp only [hc, SX, l1, hlt, f1, f2, aw, AB, PL, RG, LP, TY, Nat.reduceEqDiff, Nat.reduceAdd, Nat.reduceSub, Nat.reduceMul, Nat.reduceLT, Nat.reduceLeDiff, Nat.reduceMod, Nat.reduceDiv, reduceCtorEq, Int.reduceEq, Int.reduceNe, Int.reduceLT, Int.reduceLE, Int.reduceNeg, Int.reduceToNat, Int.reduceAdd, Int.reduceSub, Int.reduceMul, ↓reduceIte, forall_const, eq_self, ne_eq, Option.some.injEq, beq_self_eq_true]) | refine fin_ndec (fun hc => ?_) (fun hc => ?_) | refine fin_dec (fun hc => ?_) (fun hc => ?_) | refine cnd_ndec (fun hc => ?_) (fun hc => ?_) | refine cnd_dec' (fun hc => ?_) (fun hc => ?_) | refine fin_nsplit (fun hc => ?_) (fun hc => ?_) | refine fin_split (fun hc => ?_) (fun hc => ?_) | refine cnd_nsplit (fun hc => ?_) (fun hc => ?_) | refine cnd_split (fun hc => ?_) (fun hc => ?_) | refine blk_exit_id ?_)
    all_goals simp_all [DV.b]

theorem fields_forms (s : List UInt8) : ((fieldsF s).2 = 0 ∧ ∃ K, slT true (fieldsF s).1 = .sl true (K.map rowS) ∧ Lib.join K [32] = s ∧ [] ∉ K ∧ K.length ≤ s.length + 1) ∨ ((fieldsF s).2 ≠ 0 ∧ (fieldsF s).1 = none ∧ s ≠ []) := by
  by_cases h1 : 512 < s.length
  · right
    have e : fieldsF s = (none, 4) := by unfold fieldsF; rw [if_pos h1]
    rw [e]; exact ⟨by decide, rfl, fun h => by rw [h] at h1; simp at h1⟩
  by_cases h2 : s = []
  · subst h2; left
    exact ⟨rfl, [], rfl, rfl, by simp, by simp⟩
  by_cases h3 : s.all okF = true ∧ [] ∉ spl 32 s
  · left
    have e := fields_yes h1 h2 h3
    rw [e]
    exact ⟨rfl, spl 32 s, rfl, spl_join 32 s, h3.2, spl_len 32 s⟩
  · right
    rw [fields_no h1 h2 h3]; exact ⟨by decide, rfl, h2⟩

theorem lFieldsBack_ok : PureC Tryd.prog Gt 11 lFieldsBack_m := by
  refine pure_of_awp (X := ctx Tryd.prog Gt [(16, tfields_m), (29, tjoin_m), (13, awake_m)]) Tryd.func11 rfl rfl (by kernel_rfl) (by kernel_rfl) (AllOk.cons tfields_ok (AllOk.cons tjoin_ok (AllOk.cons awake_ok AllOk.nil))).kok ?_
  intro args r h0
  obtain ⟨s, rfl, h⟩ := ms_inv h0
  refine ⟨Nat.le_of_ble_eq_true rfl, ?_⟩
  cases h
  by_cases hl : (2000 : Int) < s.length
  · skip
    have hc := Nat.zero_add 0
    repeat' (first | (simp only [hc, Tryd.f11, SX, hl, aw, AB, PL, RG, LP, TY, Nat.reduceEqDiff, Nat.reduceAdd, Nat.reduceSub, Nat.reduceMul, Nat.reduceLT, Nat.reduceLeDiff, Nat.reduceMod, Nat.reduceDiv, reduceCtorEq, Int.reduceEq, Int.reduceNe, Int.reduceLT, Int.reduceLE, Int.reduceNeg, Int.reduceToNat, Int.reduceAdd, Int.reduceSub, Int.reduceMul, ↓reduceIte, forall_const, eq_self, ne_eq, Option.some.injEq, beq_self_eq_true]) | refine fin_ndec (fun hc => ?_) (fun hc => ?_) | refine fin_dec (fun hc => ?_) (fun hc => ?_) | refine cnd_ndec (fun hc => ?_) (fun hc => ?_) | refine cnd_dec' (fun hc => ?_) (fun hc => ?_) | refine fin_nsplit (fun hc => ?_) (fun hc => ?_) | refine fin_split (fun hc => ?_) (fun hc => ?_) | refine cnd_nsplit (fun hc => ?_) (fun hc => ?_) | refine cnd_split (fun hc => ?_) (fun hc => ?_) | refine blk_exit_id ?_)
    all_goals simp_all [DV.b]
  have f1 : tfields_m [.c (.str s)] = some [.c (slT true (fieldsF s).1), .c (.int .i64 (fieldsF s).2)] := rfl
  rcases fields_forms s with ⟨hz, K, hK, hJ, hno, hKl⟩ | ⟨hz, hn, hs⟩
  · rw [hz, hK] at f1
    have f2 : tjoin_m [.c (.sl true (K.map rowS))] = some [.c (.str s)] := by rw [tjoin_m, ml_eq, if_pos (decide_eq_true ⟨by omega, by rw [hJ]; omega⟩), hJ]
    have l1 : ((K.map rowS).length : Int) = K.length := by simp
    have hc := Nat.zero_add 0
    repeat' (first | (simp only [hc, Tryd.f11, SX, hl, f1, l1, aw, AB, PL, RG, LP, TY, Nat.reduceEqDiff, Nat.reduceAdd, Nat.reduceSub, Nat.reduceMul, Nat.reduceLT, Nat.reduceLeDiff, Nat.reduceMod, Nat.reduceDiv, reduceCtorEq, Int.reduceEq, Int.reduceNe, Int.reduceLT, Int.reduceLE, Int.reduceNeg, Int.reduceToNat, Int.reduceAdd, Int.reduceSub, Int.reduceMul, ↓reduceIte, forall_const, eq_self, ne_eq, Option.some.injEq, beq_self_eq_true]) | refine fin_ndec (fun hc => ?_) (fun hc => ?_) | refine fin_dec (fun hc => ?_) (fun hc => ?_) | refine cnd_ndec (fun hc => ?_) (fun hc => ?_) | refine cnd_dec' (fun hc => ?_) (fun hc => ?_) | refine fin_nsplit (fun hc => ?_) (fun hc => ?_) | refine fin_split (fun hc => ?_) (fun hc => ?_) | refine cnd_nsplit (fun hc => ?_) (fun hc => ?_) | refine cnd_split (fun hc => ?_) (fun hc => ?_) | refine blk_exit_id ?_)
    refine awp_loop (σ := Nat) (fun j => j ≤ K.length) (fun j => ⟨[(5, AV.i j), (3, AV.d (.sl true (K.map rowS))), (0, AV.s s)], []⟩) (fun j => K.length - j) 0 (Wk.sub' (by simp [subT, look]) rfl) (by simp) ?_
    rintro j hj
    by_cases hjl : j < K.length
    · have e2 : (K.map rowS)[j]? = some [.str K[j]] := by simp [hjl, rowS]
      have hlt : ((j : Int) < (K.length : Int)) = True := eq_true (by omega)
      have hw := wI (n := (j : Int) + 1) (by omega) (by omega)
      have hb : (K[j] == []) = false := by
        rw [beq_eq_false_iff_ne]
        intro h
        exact hno (h ▸ List.getElem_mem hjl)
      have hc := Nat.zero_add 0
      repeat' (first | (simp only [hc, SX, l1, e2, hlt, nn, hw, hb, AB, PL, RG, LP, TY, Nat.reduceEqDiff, Nat.reduceAdd, Nat.reduceSub, Nat.reduceMul, Nat.reduceLT, Nat.reduceLeDiff, Nat.reduceMod, Nat.reduceDiv, reduceCtorEq, Int.reduceEq, Int.reduceNe, Int.reduceLT, Int.reduceLE, Int.reduceNeg, Int.reduceToNat, Int.reduceAdd, Int.reduceSub, Int.reduceMul, ↓reduceIte, forall_const, eq_self, ne_eq, Option.some.injEq, beq_self_eq_true]) | refine fin_ndec (fun hc => ?_) (fun hc => ?_) | refine fin_dec (fun hc => ?_) (fun hc => ?_) | refine cnd_ndec (fun hc => ?_) (fun hc => ?_) | refine cnd_dec' (fun hc => ?_) (fun hc => ?_) | refine fin_nsplit (fun hc => ?_) (fun hc => ?_) | refine fin_split (fun hc => ?_) (fun hc => ?_) | refine cnd_nsplit (fun hc => ?_) (fun hc => ?_) | refine cnd_split (fun hc => ?_) (fun hc => ?_) | refine blk_exit_id ?_)
      exact lp_next (j + 1) (Wk.sub' (by simp [subT, look]) rfl) (by omega) (by omega)
    · have hlt : ((j : Int) < (K.length : Int)) = False := eq_false (by omega)
      have hc := Nat.zero_add 0
      repeat' (first | (simp only [hc, SX, l1, hlt, f2, aw, AB, PL, RG, LP, TY, Nat.reduceEqDiff, Nat.reduceAdd, Nat.reduceSub, Nat.reduceMul, Nat.reduceLT, Nat.reduceLeDiff, Nat.reduceMod, Nat.reduceDiv, reduceCtorEq, Int.reduceEq, Int.reduceNe, Int.reduceLT, Int.reduceLE, Int.reduceNeg, Int.reduceToNat, Int.reduceAdd, Int.reduceSub, Int.reduceMul, ↓reduceIte, forall_const, eq_self, ne_eq, Option.some.injEq, beq_self_eq_true]) | refine fin_ndec (fun hc => ?_) (fun hc => ?_) | refine fin_dec (fun hc => ?_) (fun hc => ?_) | refine cnd_ndec (fun hc => ?_) (fun hc => ?_) | refine cnd_dec' (fun hc => ?_) (fun hc => ?_) | refine fin_nsplit (fun hc => ?_) (fun hc => ?_) | refine fin_split (fun hc => ?_) (fun hc => ?_) | refine cnd_nsplit (fun hc => ?_) (fun hc => ?_) | refine cnd_split (fun hc => ?_) (fun hc => ?_) | refine blk_exit_id ?_)
      all_goals simp_all [DV.b]
  · rw [hn] at f1
    have f1' : tfields_m [.c (.str s)] = some [.c (.sl true []), .c (.int .i64 (fieldsF s).2)] := f1
    have hs2 : (s == []) = false := by simp [hs]
    generalize (fieldsF s).2 = q at *
    have hc := Nat.zero_add 0
    repeat' (first | (simp only [hc, Tryd.f11, SX, hl, f1', hz, hs2, aw, Bool.not_false, not_false_eq_true, decide_true, List.length_nil, Int.natCast_zero, Int.ofNat_zero, AB, PL, RG, LP, TY, Nat.reduceEqDiff, Nat.reduceAdd, Nat.reduceSub, Nat.reduceMul, Nat.reduceLT, Nat.reduceLeDiff, Nat.reduceMod, Nat.reduceDiv, reduceCtorEq, Int.reduceEq, Int.reduceNe, Int.reduceLT, Int.reduceLE, Int.reduceNeg, Int.reduceToNat, Int.reduceAdd, Int.reduceSub, Int.reduceMul, ↓reduceIte, forall_const, eq_self, ne_eq, Option.some.injEq, beq_self_eq_true]) | refine fin_ndec (fun hc => ?_) (fun hc => ?_) | refine fin_dec (fun hc => ?_) (fun hc => ?_) | refine cnd_ndec (fun hc => ?_) (fun hc => ?_) | refine cnd_dec' (fun hc => ?_) (fun hc => ?_) | refine fin_nsplit (fun hc => ?_) (fun hc => ?_) | refine fin_split (fun hc => ?_) (fun hc => ?_) | refine cnd_nsplit (fun hc => ?_) (fun hc => ?_) | refine cnd_split (fun hc => ?_) (fun hc => ?_) | refine blk_exit_id ?_)
    all_goals simp_all [DV.b]

end Go.Ab
