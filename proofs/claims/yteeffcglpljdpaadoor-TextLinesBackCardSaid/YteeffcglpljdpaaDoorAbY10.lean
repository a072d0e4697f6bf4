/-
  Texts: the reference's Fields; the law on fields.
-/
import Derived.Test.YteeffcglpljdpaaDoorAbY9
set_option linter.unusedSimpArgs false
set_option linter.unusedVariables false
namespace Go.Ab
open Go.RowKit Go.Proofs

def rfields_m : List PA → Option (List PA) := ms fun s => some [.c (slT false (fieldsF s).1), .i (fieldsF s).2]
def lFields_m : List PA → Option (List PA) := ms fun _ => some [.b true]

theorem cur_nil {s : List UInt8} {i : Nat} : List.take (i - i) (List.drop i s) = [] := by rw [Nat.sub_self]; rfl
theorem cur_snoc {s : List UInt8} {i st : Nat} {c : UInt8} (h : s[i]? = some c) (hs : st ≤ i) : List.take (i + 1 - st) (List.drop st s) = List.take (i - st) (List.drop st s) ++ [c] := by
  rw [show i + 1 - st = (i - st) + 1 by omega]
  exact take_snoc (by rw [List.getElem?_drop, show st + (i - st) = i by omega]; exact h)
theorem cur_rest {s : List UInt8} {i st : Nat} (hs : st ≤ i) : List.drop st s = List.take (i - st) (List.drop st s) ++ List.drop i s := by
  conv => lhs; rw [← List.take_append_drop (i - st) (List.drop st s)]
  rw [List.drop_drop, show st + (i - st) = i by omega]

/-- One cut: what stood before, and the rest behind the byte. -/
theorem cut_step {k : UInt8} {s : List UInt8} {i st : Nat} {c : UInt8} {out : List (List UInt8)} (h : s[i]? = some c) (hs : st ≤ i) (hc : c = k) (hn : k ∉ List.take (i - st) (List.drop st s)) (ho : spl k s = out ++ spl k (s.drop st)) :
    spl k s = out ++ [List.take (i - st) (List.drop st s)] ++ spl k (s.drop (i + 1)) := by
  rw [cur_rest hs, drop_of h, hc, spl_append k _ _ hn] at ho
  rw [ho]; simp
theorem cut_end {k : UInt8} {s : List UInt8} {st : Nat} {out : List (List UInt8)} (hn : k ∉ List.take (s.length - st) (List.drop st s)) (ho : spl k s = out ++ spl k (s.drop st)) : spl k s = out ++ [List.take (s.length - st) (List.drop st s)] := by
  have e : List.take (s.length - st) (List.drop st s) = List.drop st s := List.take_of_length_le (by rw [List.length_drop]; omega)
  rw [e] at hn ⊢
  rw [ho, spl_none k _ hn]

theorem rfields_ok : PureC Tryd.prog Gt 17 rfields_m := by
  refine pure_of_awp (X := ctx Tryd.prog Gt []) Tryd.func17 rfl rfl (by kernel_rfl) (by kernel_rfl) AllOk.nil.kok ?_
  intro args r h0
  obtain ⟨s, rfl, h⟩ := ms_inv h0
  refine ⟨Nat.le_of_ble_eq_true rfl, ?_⟩
  cases h
  by_cases hl : (512 : Int) < s.length
  · have hE : fieldsF s = (none, 4) := by unfold fieldsF; rw [if_pos (by omega)]
    have hc := Nat.zero_add 0
    repeat' (first | (simp only [hc, Tryd.f17, SX, hl, AB, PL, RG, LP, TY, Nat.reduceEqDiff, Nat.reduceAdd, Nat.reduceSub, Nat.reduceMul, Nat.reduceLT, Nat.reduceLeDiff, Nat.reduceMod, Nat.reduceDiv, reduceCtorEq, Int.reduceEq, Int.reduceNe, Int.reduceLT, Int.reduceLE, Int.reduceNeg, Int.reduceToNat, Int.reduceAdd, Int.reduceSub, Int.reduceMul, ↓reduceIte, forall_const, eq_self, ne_eq, Option.some.injEq, beq_self_eq_true]) | refine fin_ndec (fun hc => ?_) (fun hc => ?_) | refine fin_dec (fun hc => ?_) (fun hc => ?_) | refine cnd_ndec (fun hc => ?_) (fun hc => ?_) | refine cnd_dec' (fun hc => ?_) (fun hc => ?_) | refine fin_nsplit (fun hc => ?_) (fun hc => ?_) | refine fin_split (fun hc => ?_) (fun hc => ?_) | refine cnd_nsplit (fun hc => ?_) (fun hc => ?_) | refine cnd_split (fun hc => ?_) (fun hc => ?_) | refine blk_exit_id ?_)
    all_goals simp [hE, slT, DV.i]
  by_cases hs : s = []
  · subst hs
    have hE : fieldsF [] = (none, 0) := rfl
    have hc := Nat.zero_add 0
    repeat' (first | (simp only [hc, Tryd.f17, SX, hl, AB, PL, RG, LP, TY, Nat.reduceEqDiff, Nat.reduceAdd, Nat.reduceSub, Nat.reduceMul, Nat.reduceLT, Nat.reduceLeDiff, Nat.reduceMod, Nat.reduceDiv, reduceCtorEq, Int.reduceEq, Int.reduceNe, Int.reduceLT, Int.reduceLE, Int.reduceNeg, Int.reduceToNat, Int.reduceAdd, Int.reduceSub, Int.reduceMul, ↓reduceIte, forall_const, eq_self, ne_eq, Option.some.injEq, beq_self_eq_true]) | refine fin_ndec (fun hc => ?_) (fun hc => ?_) | refine fin_dec (fun hc => ?_) (fun hc => ?_) | refine cnd_ndec (fun hc => ?_) (fun hc => ?_) | refine cnd_dec' (fun hc => ?_) (fun hc => ?_) | refine fin_nsplit (fun hc => ?_) (fun hc => ?_) | refine fin_split (fun hc => ?_) (fun hc => ?_) | refine cnd_nsplit (fun hc => ?_) (fun hc => ?_) | refine cnd_split (fun hc => ?_) (fun hc => ?_) | refine blk_exit_id ?_)
    all_goals simp [hE, slT, DV.i]
  have hs2 : (s == []) = false := by simp [hs]
  have no1 : ∀ {j : Nat} {c : UInt8}, s[j]? = some c → ¬ okF c = true → fieldsF s = (none, 5) := fun e1 hok => fields_no (by omega) hs (fun h => bad_ok e1 hok h.1)
  have no2 : [] ∈ spl 32 s → fieldsF s = (none, 5) := fun h => fields_no (by omega) hs (fun h2 => h2.2 h)
  have yes : s.all okF = true → [] ∉ spl 32 s → fieldsF s = (some (spl 32 s), 0) := fun h1 h2 => fields_yes (by omega) hs ⟨h1, h2⟩
  have hc := Nat.zero_add 0
  repeat' (first | (simp only [hc, Tryd.f17, SX, hl, hs2, AB, PL, RG, LP, TY, Nat.reduceEqDiff, Nat.reduceAdd, Nat.reduceSub, Nat.reduceMul, Nat.reduceLT, Nat.reduceLeDiff, Nat.reduceMod, Nat.reduceDiv, reduceCtorEq, Int.reduceEq, Int.reduceNe, Int.reduceLT, Int.reduceLE, Int.reduceNeg, Int.reduceToNat, Int.reduceAdd, Int.reduceSub, Int.reduceMul, ↓reduceIte, forall_const, eq_self, ne_eq, Option.some.injEq, beq_self_eq_true]) | refine fin_ndec (fun hc => ?_) (fun hc => ?_) | refine fin_dec (fun hc => ?_) (fun hc => ?_) | refine cnd_ndec (fun hc => ?_) (fun hc => ?_) | refine cnd_dec' (fun hc => ?_) (fun hc => ?_) | refine fin_nsplit (fun hc => ?_) (fun hc => ?_) | refine fin_split (fun hc => ?_) (fun hc => ?_) | refine cnd_nsplit (fun hc => ?_) (fun hc => ?_) | refine cnd_split (fun hc => ?_) (fun hc => ?_) | refine blk_exit_id ?_)
  refine awp_loop (σ := Nat × Nat × List (List UInt8)) (fun p => p.2.2.length ≤ p.1 ∧ ((p.1 ≤ s.length ∧ p.2.1 ≤ p.1 ∧ (32 : UInt8) ∉ List.take (p.1 - p.2.1) (List.drop p.2.1 s) ∧ [] ∉ p.2.2 ∧ (s.take p.1).all okF = true ∧ spl 32 s = p.2.2 ++ spl 32 (s.drop p.2.1)) ∨ (p.1 = s.length + 1 ∧ spl 32 s = p.2.2 ∧ [] ∉ p.2.2 ∧ s.all okF = true)))
    (fun p => ⟨[(6, AV.i p.1), (5, AV.i p.2.1), (4, .v (.c (.own 0 (p.2.2.map rowS)))), (0, AV.s s)], [.tok p.2.2.length 1 none]⟩) (fun p => s.length + 1 - p.1) (0, 0, []) (Wk.trans (Wk.own 4 1 (by omega) (by simp [look])) (Wk.sub' (by simp [subT, look]) rfl)) (by simp) ?_
  rintro ⟨i, st, out⟩ ⟨hol, hI⟩
  dsimp only at hol hI ⊢
  have l1 : (out.map rowS).length = out.length := by simp
  have k3 : ((out.length + 1) * 16 ≤ 140737488355328) = True := eq_true (by omega)
  have k4 : (out.length + 1 ≤ 4611686018427387904) = True := eq_true (by omega)
  rcases hI with ⟨hi, hst, hcur, hno, hall, hsp⟩ | ⟨hi, hsp, hno, hall⟩
  · have hle : ((i : Int) ≤ (s.length : Int)) = True := eq_true (by omega)
    have hw := wI (n := (i : Int) + 1) (by omega) (by omega)
    have hsi : ((st : Int) ≤ (i : Int)) = True := eq_true (by omega)
    by_cases hil : i < s.length
    · have e1 : s[i]? = some s[i] := by simp [hil]
      have hlt : ((i : Int) < (s.length : Int)) = True := eq_true (by omega)
      have heq : ((i : Int) = (s.length : Int)) = False := eq_false (by omega)
      generalize s[i] = c at *
      by_cases hok : okF c = true
      · have hok' := okF_iff.1 hok
        have b1 : ((c.toNat : Int) < 32) = False := eq_false (by omega)
        have b2 : ((126 : Int) < (c.toNat : Int)) = False := eq_false (by omega)
        have hall' : (s.take (i + 1)).all okF = true := by rw [take_snoc e1, List.all_append, hall]; simp [hok]
        by_cases h32 : c.toNat = 32
        · have c32 : c = 32 := UInt8.toNat_inj.1 h32
          have b3 : ((c.toNat : Int) = 32) = True := eq_true (by omega)
          have hcs := cut_step e1 hst c32 hcur hsp
          by_cases hse : i = st
          · have hse2 : ((i : Int) = (st : Int)) = True := eq_true (by omega)
            have hE := no2 (by rw [hcs, hse, cur_nil]; simp)
            have hc := Nat.zero_add 0
            repeat' (first | (simp only [hc, SX, e1, hle, hlt, heq, nn, hw, b1, b2, b3, hse2, AB, PL, RG, LP, TY, Nat.reduceEqDiff, Nat.reduceAdd, Nat.reduceSub, Nat.reduceMul, Nat.reduceLT, Nat.reduceLeDiff, Nat.reduceMod, Nat.reduceDiv, reduceCtorEq, Int.reduceEq, Int.reduceNe, Int.reduceLT, Int.reduceLE, Int.reduceNeg, Int.reduceToNat, Int.reduceAdd, Int.reduceSub, Int.reduceMul, ↓reduceIte, forall_const, eq_self, ne_eq, Option.some.injEq, beq_self_eq_true]) | refine fin_ndec (fun hc => ?_) (fun hc => ?_) | refine fin_dec (fun hc => ?_) (fun hc => ?_) | refine cnd_ndec (fun hc => ?_) (fun hc => ?_) | refine cnd_dec' (fun hc => ?_) (fun hc => ?_) | refine fin_nsplit (fun hc => ?_) (fun hc => ?_) | refine fin_split (fun hc => ?_) (fun hc => ?_) | refine cnd_nsplit (fun hc => ?_) (fun hc => ?_) | refine cnd_split (fun hc => ?_) (fun hc => ?_) | refine blk_exit_id ?_)
            all_goals simp [hE, slT, DV.i]
          · have hse2 : ((i : Int) = (st : Int)) = False := eq_false (by omega)
            have hne : List.take (i - st) (List.drop st s) ≠ [] := fun h => by
              have := congrArg List.length h
              simp only [List.length_take, List.length_drop, List.length_nil] at this
              omega
            have hc := Nat.zero_add 0
            repeat' (first | (simp only [hc, SX, e1, hle, hlt, heq, nn, hw, b1, b2, b3, hse2, hsi, l1, k3, k4, AB, PL, RG, LP, TY, Nat.reduceEqDiff, Nat.reduceAdd, Nat.reduceSub, Nat.reduceMul, Nat.reduceLT, Nat.reduceLeDiff, Nat.reduceMod, Nat.reduceDiv, reduceCtorEq, Int.reduceEq, Int.reduceNe, Int.reduceLT, Int.reduceLE, Int.reduceNeg, Int.reduceToNat, Int.reduceAdd, Int.reduceSub, Int.reduceMul, ↓reduceIte, forall_const, eq_self, ne_eq, Option.some.injEq, beq_self_eq_true]) | refine fin_ndec (fun hc => ?_) (fun hc => ?_) | refine fin_dec (fun hc => ?_) (fun hc => ?_) | refine cnd_ndec (fun hc => ?_) (fun hc => ?_) | refine cnd_dec' (fun hc => ?_) (fun hc => ?_) | refine fin_nsplit (fun hc => ?_) (fun hc => ?_) | refine fin_split (fun hc => ?_) (fun hc => ?_) | refine cnd_nsplit (fun hc => ?_) (fun hc => ?_) | refine cnd_split (fun hc => ?_) (fun hc => ?_) | refine blk_exit_id ?_)
            refine lp_next (i + 1, i + 1, out ++ [List.take (i - st) (List.drop st s)]) (Wk.sub' (by simp [subT, look, rowS]) (by simp)) ⟨by simp only [List.length_append, List.length_singleton]; omega, .inl ⟨by simp only []; omega, Nat.le_refl _, by simp only [cur_nil]; simp, ?_, hall', hcs⟩⟩ (by simp only []; omega)
            simp only [List.mem_append, List.mem_singleton]
            rintro (h | h)
            · exact hno h
            · exact hne h.symm
        · have b3 : ((c.toNat : Int) = 32) = False := eq_false (by omega)
          have hc := Nat.zero_add 0
          repeat' (first | (simp only [hc, SX, e1, hle, hlt, heq, nn, hw, b1, b2, b3, AB, PL, RG, LP, TY, Nat.reduceEqDiff, Nat.reduceAdd, Nat.reduceSub, Nat.reduceMul, Nat.reduceLT, Nat.reduceLeDiff, Nat.reduceMod, Nat.reduceDiv, reduceCtorEq, Int.reduceEq, Int.reduceNe, Int.reduceLT, Int.reduceLE, Int.reduceNeg, Int.reduceToNat, Int.reduceAdd, Int.reduceSub, Int.reduceMul, ↓reduceIte, forall_const, eq_self, ne_eq, Option.some.injEq, beq_self_eq_true]) | refine fin_ndec (fun hc => ?_) (fun hc => ?_) | refine fin_dec (fun hc => ?_) (fun hc => ?_) | refine cnd_ndec (fun hc => ?_) (fun hc => ?_) | refine cnd_dec' (fun hc => ?_) (fun hc => ?_) | refine fin_nsplit (fun hc => ?_) (fun hc => ?_) | refine fin_split (fun hc => ?_) (fun hc => ?_) | refine cnd_nsplit (fun hc => ?_) (fun hc => ?_) | refine cnd_split (fun hc => ?_) (fun hc => ?_) | refine blk_exit_id ?_)
          refine lp_next (i + 1, st, out) (Wk.sub' (by simp [subT, look]) rfl) ⟨by simp only []; omega, .inl ⟨by simp only []; omega, by simp only []; omega, ?_, hno, hall', hsp⟩⟩ (by simp only []; omega)
          dsimp only
          rw [cur_snoc e1 hst, List.mem_append]
          rintro (h | h)
          · exact hcur h
          · simp only [List.mem_singleton] at h; subst h; exact h32 rfl
      · have hE := no1 e1 hok
        have hok' : ¬ (32 ≤ c.toNat ∧ c.toNat ≤ 126) := fun h => hok (okF_iff.2 h)
        by_cases b0 : (c.toNat : Int) < 32
        · skip
          have hc := Nat.zero_add 0
          repeat' (first | (simp only [hc, SX, e1, hle, hlt, nn, b0, AB, PL, RG, LP, TY, Nat.reduceEqDiff, Nat.reduceAdd, Nat.reduceSub, Nat.reduceMul, Nat.reduceLT, Nat.reduceLeDiff, Nat.reduceMod, Nat.reduceDiv, reduceCtorEq, Int.reduceEq, Int.reduceNe, Int.reduceLT, Int.reduceLE, Int.reduceNeg, Int.reduceToNat, Int.reduceAdd, Int.reduceSub, Int.reduceMul, ↓reduceIte, forall_const, eq_self, ne_eq, Option.some.injEq, beq_self_eq_true]) | refine fin_ndec (fun hc => ?_) (fun hc => ?_) | refine fin_dec (fun hc => ?_) (fun hc => ?_) | refine cnd_ndec (fun hc => ?_) (fun hc => ?_) | refine cnd_dec' (fun hc => ?_) (fun hc => ?_) | refine fin_nsplit (fun hc => ?_) (fun hc => ?_) | refine fin_split (fun hc => ?_) (fun hc => ?_) | refine cnd_nsplit (fun hc => ?_) (fun hc => ?_) | refine cnd_split (fun hc => ?_) (fun hc => ?_) | refine blk_exit_id ?_)
          all_goals simp [hE, slT, DV.i]
        · have b2 : ((126 : Int) < (c.toNat : Int)) = True := eq_true (by omega)
          have hc := Nat.zero_add 0
          repeat' (first | (simp only [hc, SX, e1, hle, hlt, nn, b0, b2, AB, PL, RG, LP, TY, Nat.reduceEqDiff, Nat.reduceAdd, Nat.reduceSub, Nat.reduceMul, Nat.reduceLT, Nat.reduceLeDiff, Nat.reduceMod, Nat.reduceDiv, reduceCtorEq, Int.reduceEq, Int.reduceNe, Int.reduceLT, Int.reduceLE, Int.reduceNeg, Int.reduceToNat, Int.reduceAdd, Int.reduceSub, Int.reduceMul, ↓reduceIte, forall_const, eq_self, ne_eq, Option.some.injEq, beq_self_eq_true]) | refine fin_ndec (fun hc => ?_) (fun hc => ?_) | refine fin_dec (fun hc => ?_) (fun hc => ?_) | refine cnd_ndec (fun hc => ?_) (fun hc => ?_) | refine cnd_dec' (fun hc => ?_) (fun hc => ?_) | refine fin_nsplit (fun hc => ?_) (fun hc => ?_) | refine fin_split (fun hc => ?_) (fun hc => ?_) | refine cnd_nsplit (fun hc => ?_) (fun hc => ?_) | refine cnd_split (fun hc => ?_) (fun hc => ?_) | refine blk_exit_id ?_)
          all_goals simp [hE, slT, DV.i]
    · obtain rfl : i = s.length := by omega
      rw [List.take_of_length_le (Nat.le_refl _)] at hall
      have hcs := cut_end hcur hsp
      by_cases hse : s.length = st
      · have hse2 : ((s.length : Int) = (st : Int)) = True := eq_true (by omega)
        have hE := no2 (by rw [hcs, ← hse, cur_nil]; simp)
        have hc := Nat.zero_add 0
        repeat' (first | (simp only [hc, SX, Int.le_refl, Int.lt_irrefl, hse2, AB, PL, RG, LP, TY, Nat.reduceEqDiff, Nat.reduceAdd, Nat.reduceSub, Nat.reduceMul, Nat.reduceLT, Nat.reduceLeDiff, Nat.reduceMod, Nat.reduceDiv, reduceCtorEq, Int.reduceEq, Int.reduceNe, Int.reduceLT, Int.reduceLE, Int.reduceNeg, Int.reduceToNat, Int.reduceAdd, Int.reduceSub, Int.reduceMul, ↓reduceIte, forall_const, eq_self, ne_eq, Option.some.injEq, beq_self_eq_true]) | refine fin_ndec (fun hc => ?_) (fun hc => ?_) | refine fin_dec (fun hc => ?_) (fun hc => ?_) | refine cnd_ndec (fun hc => ?_) (fun hc => ?_) | refine cnd_dec' (fun hc => ?_) (fun hc => ?_) | refine fin_nsplit (fun hc => ?_) (fun hc => ?_) | refine fin_split (fun hc => ?_) (fun hc => ?_) | refine cnd_nsplit (fun hc => ?_) (fun hc => ?_) | refine cnd_split (fun hc => ?_) (fun hc => ?_) | refine blk_exit_id ?_)
        all_goals simp [hE, slT, DV.i]
      · have hse2 : ((s.length : Int) = (st : Int)) = False := eq_false (by omega)
        have hne : List.take (s.length - st) (List.drop st s) ≠ [] := fun h => by
          have := congrArg List.length h
          simp only [List.length_take, List.length_drop, List.length_nil] at this
          omega
        have hno' : [] ∉ out ++ [List.take (s.length - st) (List.drop st s)] := by
          simp only [List.mem_append, List.mem_singleton]
          rintro (h | h)
          · exact hno h
          · exact hne h.symm
        have hc := Nat.zero_add 0
        repeat' (first | (simp only [hc, SX, Int.le_refl, Int.lt_irrefl, nn, hw, hse2, hsi, l1, k3, k4, AB, PL, RG, LP, TY, Nat.reduceEqDiff, Nat.reduceAdd, Nat.reduceSub, Nat.reduceMul, Nat.reduceLT, Nat.reduceLeDiff, Nat.reduceMod, Nat.reduceDiv, reduceCtorEq, Int.reduceEq, Int.reduceNe, Int.reduceLT, Int.reduceLE, Int.reduceNeg, Int.reduceToNat, Int.reduceAdd, Int.reduceSub, Int.reduceMul, ↓reduceIte, forall_const, eq_self, ne_eq, Option.some.injEq, beq_self_eq_true]) | refine fin_ndec (fun hc => ?_) (fun hc => ?_) | refine fin_dec (fun hc => ?_) (fun hc => ?_) | refine cnd_ndec (fun hc => ?_) (fun hc => ?_) | refine cnd_dec' (fun hc => ?_) (fun hc => ?_) | refine fin_nsplit (fun hc => ?_) (fun hc => ?_) | refine fin_split (fun hc => ?_) (fun hc => ?_) | refine cnd_nsplit (fun hc => ?_) (fun hc => ?_) | refine cnd_split (fun hc => ?_) (fun hc => ?_) | refine blk_exit_id ?_)
        exact lp_next (s.length + 1, s.length + 1, out ++ [List.take (s.length - st) (List.drop st s)]) (Wk.sub' (by simp [subT, look, rowS]) (by simp)) ⟨by simp only [List.length_append, List.length_singleton]; omega, .inr ⟨rfl, hcs, hno', hall⟩⟩ (by simp only []; omega)
  · have hle : ((i : Int) ≤ (s.length : Int)) = False := eq_false (by omega)
    have hE := yes hall (by rw [hsp]; exact hno)
    have hc := Nat.zero_add 0
    repeat' (first | (simp only [hc, SX, hle, AB, PL, RG, LP, TY, Nat.reduceEqDiff, Nat.reduceAdd, Nat.reduceSub, Nat.reduceMul, Nat.reduceLT, Nat.reduceLeDiff, Nat.reduceMod, Nat.reduceDiv, reduceCtorEq, Int.reduceEq, Int.reduceNe, Int.reduceLT, Int.reduceLE, Int.reduceNeg, Int.reduceToNat, Int.reduceAdd, Int.reduceSub, Int.reduceMul, ↓reduceIte, forall_const, eq_self, ne_eq, Option.some.injEq, beq_self_eq_true]) | refine fin_ndec (fun hc => ?_) (fun hc => ?_) | refine fin_dec (fun hc => ?_) (fun hc => ?_) | refine cnd_ndec (fun hc => ?_) (fun hc => ?_) | refine cnd_dec' (fun hc => ?_) (fun hc => ?_) | refine fin_nsplit (fun hc => ?_) (fun hc => ?_) | refine fin_split (fun hc => ?_) (fun hc => ?_) | refine cnd_nsplit (fun hc => ?_) (fun hc => ?_) | refine cnd_split (fun hc => ?_) (fun hc => ?_) | refine blk_exit_id ?_)
    all_goals simp [hE, slT, DV.i, hsp]

theorem same_T (o : Option (List (List UInt8))) (f g : Bool) (ho : ∀ l, o = some l → l.length ≤ 1000000000000) : same_m [.c (slT f o), .c (slT g o)] = some [.c (.bool true)] := by
  cases o with
  | none =>
    show mll _ [.c (.sl true (([] : List (List UInt8)).map rowS)), .c (.sl true (([] : List (List UInt8)).map rowS))] = _
    rw [mll_eq]; simp [DV.b]
  | some l =>
    show mll _ [.c (.sl f (l.map rowS)), .c (.sl g (l.map rowS))] = _
    rw [mll_eq, if_pos (decide_eq_true (ho l rfl))]; simp [DV.b]

theorem lFields_ok : PureC Tryd.prog Gt 4 lFields_m := by
  refine pure_of_awp (X := ctx Tryd.prog Gt [(16, tfields_m), (17, rfields_m), (18, same_m), (13, awake_m)]) Tryd.func4 rfl rfl (by kernel_rfl) (by kernel_rfl) (AllOk.cons tfields_ok (AllOk.cons rfields_ok (AllOk.cons same_ok (AllOk.cons awake_ok AllOk.nil)))).kok ?_
  intro args r h0
  obtain ⟨s, rfl, h⟩ := ms_inv h0
  refine ⟨Nat.le_of_ble_eq_true rfl, ?_⟩
  cases h
  by_cases hl : (2000 : Int) < s.length
  · skip
    have hc := Nat.zero_add 0
    repeat' (first | (simp only [hc, Tryd.f4, SX, hl, aw, AB, PL, RG, LP, TY, Nat.reduceEqDiff, Nat.reduceAdd, Nat.reduceSub, Nat.reduceMul, Nat.reduceLT, Nat.reduceLeDiff, Nat.reduceMod, Nat.reduceDiv, reduceCtorEq, Int.reduceEq, Int.reduceNe, Int.reduceLT, Int.reduceLE, Int.reduceNeg, Int.reduceToNat, Int.reduceAdd, Int.reduceSub, Int.reduceMul, ↓reduceIte, forall_const, eq_self, ne_eq, Option.some.injEq, beq_self_eq_true]) | refine fin_ndec (fun hc => ?_) (fun hc => ?_) | refine fin_dec (fun hc => ?_) (fun hc => ?_) | refine cnd_ndec (fun hc => ?_) (fun hc => ?_) | refine cnd_dec' (fun hc => ?_) (fun hc => ?_) | refine fin_nsplit (fun hc => ?_) (fun hc => ?_) | refine fin_split (fun hc => ?_) (fun hc => ?_) | refine cnd_nsplit (fun hc => ?_) (fun hc => ?_) | refine cnd_split (fun hc => ?_) (fun hc => ?_) | refine blk_exit_id ?_)
    all_goals simp_all [DV.b]
  have f1 : tfields_m [.c (.str s)] = some [.c (slT true (fieldsF s).1), .c (.int .i64 (fieldsF s).2)] := rfl
  have f2 : rfields_m [.c (.str s)] = some [.c (slT false (fieldsF s).1), .c (.int .i64 (fieldsF s).2)] := rfl
  have f3 : same_m [.c (slT true (fieldsF s).1), .c (slT false (fieldsF s).1)] = some [.c (.bool true)] := same_T _ _ _ (fun l hl2 => by
    have := spl_len 32 s
    unfold fieldsF at hl2
    split at hl2
    · cases hl2
    split at hl2
    · cases hl2
    split at hl2
    · cases hl2; omega
    · cases hl2)
  generalize fieldsF s = q at *
  obtain ⟨q1, q2⟩ := q
  dsimp only at f1 f2 f3
  generalize slT true q1 = d1 at *
  generalize slT false q1 = d2 at *
  have hc := Nat.zero_add 0
  repeat' (first | (simp only [hc, Tryd.f4, SX, hl, f1, f2, f3, aw, AB, PL, RG, LP, TY, Nat.reduceEqDiff, Nat.reduceAdd, Nat.reduceSub, Nat.reduceMul, Nat.reduceLT, Nat.reduceLeDiff, Nat.reduceMod, Nat.reduceDiv, reduceCtorEq, Int.reduceEq, Int.reduceNe, Int.reduceLT, Int.reduceLE, Int.reduceNeg, Int.reduceToNat, Int.reduceAdd, Int.reduceSub, Int.reduceMul, ↓reduceIte, forall_const, eq_self, ne_eq, Option.some.injEq, beq_self_eq_true]) | refine fin_ndec (fun hc => ?_) (fun hc => ?_) | refine fin_dec (fun hc => ?_) (fun hc => ?_) | refine cnd_ndec (fun hc => ?_) (fun hc => ?_) | refine cnd_dec' (fun hc => ?_) (fun hc => ?_) | refine fin_nsplit (fun hc => ?_) (fun hc => ?_) | refine fin_split (fun hc => ?_) (fun hc => ?_) | refine cnd_nsplit (fun hc => ?_) (fun hc => ?_) | refine cnd_split (fun hc => ?_) (fun hc => ?_) | refine blk_exit_id ?_)
  all_goals simp_all [DV.b]

end Go.Ab
