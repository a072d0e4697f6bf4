/-
  What the functions of the texts compute: fields, lines, joins (the text's own).
-/
import Derived.Test.YteeffcglpljdpaaDoorAbY5
set_option linter.unusedSimpArgs false
set_option linter.unusedVariables false
namespace Go.Ab
open Go.RowKit Go.Proofs

def slT (f : Bool) : Option (List (List UInt8)) → D
  | none => .sl true []
  | some l => .sl f (l.map rowS)

def tfields_m : List PA → Option (List PA) := ms fun s => some [.c (slT true (fieldsF s).1), .i (fieldsF s).2]
def tlines_m : List PA → Option (List PA) := ms fun s => some [.c (slT true (linesF s).1), .i (linesF s).2]
def tjoin_m : List PA → Option (List PA) := ml fun l => if decide (l.length ≤ 140737488355328 ∧ (Lib.join l [32]).length ≤ 281474976710656) = true then some [.c (.str (Lib.join l [32]))] else none

theorem tjoin_ok : PureC Tryd.prog Gt 29 tjoin_m := by
  refine pure_of_awp (X := ctx Tryd.prog Gt [(39, join_m)]) Tryd.func29 rfl rfl (by kernel_rfl) (by kernel_rfl) (AllOk.cons join_ok AllOk.nil).kok ?_
  intro args r h0
  obtain ⟨f, l, rfl, h⟩ := ml_inv h0
  refine ⟨Nat.le_of_ble_eq_true rfl, ?_⟩
  split at h
  · rename_i hn
    cases h
    have hc := Nat.zero_add 0
    repeat' (first | (simp only [hc, Tryd.f29, SX, join_m, mls_eq, hn, AB, PL, RG, LP, TY, Nat.reduceEqDiff, Nat.reduceAdd, Nat.reduceSub, Nat.reduceMul, Nat.reduceLT, Nat.reduceLeDiff, Nat.reduceMod, Nat.reduceDiv, reduceCtorEq, Int.reduceEq, Int.reduceNe, Int.reduceLT, Int.reduceLE, Int.reduceNeg, Int.reduceToNat, Int.reduceAdd, Int.reduceSub, Int.reduceMul, ↓reduceIte, forall_const, eq_self, ne_eq, Option.some.injEq, beq_self_eq_true]) | refine fin_ndec (fun hc => ?_) (fun hc => ?_) | refine fin_dec (fun hc => ?_) (fun hc => ?_) | refine cnd_ndec (fun hc => ?_) (fun hc => ?_) | refine cnd_dec' (fun hc => ?_) (fun hc => ?_) | refine fin_nsplit (fun hc => ?_) (fun hc => ?_) | refine fin_split (fun hc => ?_) (fun hc => ?_) | refine cnd_nsplit (fun hc => ?_) (fun hc => ?_) | refine cnd_split (fun hc => ?_) (fun hc => ?_) | refine blk_exit_id ?_)
    try simp
  · cases h

theorem trim_le (s : List UInt8) : (Lib.trimSuffix s [10]).length ≤ s.length := by
  rcases trim_end s 10 with ⟨a, e1, e2⟩ | ⟨_, e2⟩
  · rw [e2, e1]; simp
  · rw [e2]; exact Nat.le_refl _

theorem tlines_ok : PureC Tryd.prog Gt 23 tlines_m := by
  refine pure_of_awp (X := ctx Tryd.prog Gt [(34, trimS_m), (31, split_m)]) Tryd.func23 rfl rfl (by kernel_rfl) (by kernel_rfl) (AllOk.cons trimS_ok (AllOk.cons split_ok AllOk.nil)).kok ?_
  intro args r h0
  obtain ⟨s, rfl, h⟩ := ms_inv h0
  refine ⟨Nat.le_of_ble_eq_true rfl, ?_⟩
  cases h
  by_cases hl : (65536 : Int) < s.length
  · have hE : linesF s = (none, 4) := by unfold linesF; rw [if_pos (by omega)]
    have hc := Nat.zero_add 0
    repeat' (first | (simp only [hc, Tryd.f23, SX, hl, AB, PL, RG, LP, TY, Nat.reduceEqDiff, Nat.reduceAdd, Nat.reduceSub, Nat.reduceMul, Nat.reduceLT, Nat.reduceLeDiff, Nat.reduceMod, Nat.reduceDiv, reduceCtorEq, Int.reduceEq, Int.reduceNe, Int.reduceLT, Int.reduceLE, Int.reduceNeg, Int.reduceToNat, Int.reduceAdd, Int.reduceSub, Int.reduceMul, ↓reduceIte, forall_const, eq_self, ne_eq, Option.some.injEq, beq_self_eq_true]) | refine fin_ndec (fun hc => ?_) (fun hc => ?_) | refine fin_dec (fun hc => ?_) (fun hc => ?_) | refine cnd_ndec (fun hc => ?_) (fun hc => ?_) | refine cnd_dec' (fun hc => ?_) (fun hc => ?_) | refine fin_nsplit (fun hc => ?_) (fun hc => ?_) | refine fin_split (fun hc => ?_) (fun hc => ?_) | refine cnd_nsplit (fun hc => ?_) (fun hc => ?_) | refine cnd_split (fun hc => ?_) (fun hc => ?_) | refine blk_exit_id ?_)
    all_goals simp [hE, slT, DV.i]
  by_cases hs : s = []
  · subst hs
    have hE : linesF [] = (none, 0) := rfl
    have hc := Nat.zero_add 0
    repeat' (first | (simp only [hc, Tryd.f23, SX, hl, AB, PL, RG, LP, TY, Nat.reduceEqDiff, Nat.reduceAdd, Nat.reduceSub, Nat.reduceMul, Nat.reduceLT, Nat.reduceLeDiff, Nat.reduceMod, Nat.reduceDiv, reduceCtorEq, Int.reduceEq, Int.reduceNe, Int.reduceLT, Int.reduceLE, Int.reduceNeg, Int.reduceToNat, Int.reduceAdd, Int.reduceSub, Int.reduceMul, ↓reduceIte, forall_const, eq_self, ne_eq, Option.some.injEq, beq_self_eq_true]) | refine fin_ndec (fun hc => ?_) (fun hc => ?_) | refine fin_dec (fun hc => ?_) (fun hc => ?_) | refine cnd_ndec (fun hc => ?_) (fun hc => ?_) | refine cnd_dec' (fun hc => ?_) (fun hc => ?_) | refine fin_nsplit (fun hc => ?_) (fun hc => ?_) | refine fin_split (fun hc => ?_) (fun hc => ?_) | refine cnd_nsplit (fun hc => ?_) (fun hc => ?_) | refine cnd_split (fun hc => ?_) (fun hc => ?_) | refine blk_exit_id ?_)
    all_goals simp [hE, slT, DV.i]
  have hs2 : (s == []) = false := by simp [hs]
  have hE : linesF s = (some (spl 10 (Lib.trimSuffix s [10])), 0) := by unfold linesF; rw [if_neg (by omega), if_neg hs]
  have t1 : trimS_m [.c (.str s), .c (.str [10])] = some [.c (.str (Lib.trimSuffix s [10]))] := by
    rw [trimS_m, mss_eq, if_pos (decide_eq_true (by omega))]
  have hle := trim_le s
  have t2 : split_m [.c (.str (Lib.trimSuffix s [10])), .c (.str [10])] = some [.c (.sl true ((spl 10 (Lib.trimSuffix s [10])).map rowS))] := by
    rw [split_m, mss_eq, if_pos (decide_eq_true ⟨by omega, rfl⟩)]; rfl
  have hc := Nat.zero_add 0
  repeat' (first | (simp only [hc, Tryd.f23, SX, hl, hs2, t1, t2, AB, PL, RG, LP, TY, Nat.reduceEqDiff, Nat.reduceAdd, Nat.reduceSub, Nat.reduceMul, Nat.reduceLT, Nat.reduceLeDiff, Nat.reduceMod, Nat.reduceDiv, reduceCtorEq, Int.reduceEq, Int.reduceNe, Int.reduceLT, Int.reduceLE, Int.reduceNeg, Int.reduceToNat, Int.reduceAdd, Int.reduceSub, Int.reduceMul, ↓reduceIte, forall_const, eq_self, ne_eq, Option.some.injEq, beq_self_eq_true]) | refine fin_ndec (fun hc => ?_) (fun hc => ?_) | refine fin_dec (fun hc => ?_) (fun hc => ?_) | refine cnd_ndec (fun hc => ?_) (fun hc => ?_) | refine cnd_dec' (fun hc => ?_) (fun hc => ?_) | refine fin_nsplit (fun hc => ?_) (fun hc => ?_) | refine fin_split (fun hc => ?_) (fun hc => ?_) | refine cnd_nsplit (fun hc => ?_) (fun hc => ?_) | refine cnd_split (fun hc => ?_) (fun hc => ?_) | refine blk_exit_id ?_)
  all_goals simp [hE, slT, DV.i]

theorem okF_iff {c : UInt8} : okF c = true ↔ 32 ≤ c.toNat ∧ c.toNat ≤ 126 := by simp [okF]
theorem fields_no {s : List UInt8} (h1 : ¬ 512 < s.length) (h2 : s ≠ []) (h : ¬ (s.all okF = true ∧ [] ∉ spl 32 s)) : fieldsF s = (none, 5) := by
  unfold fieldsF; rw [if_neg h1, if_neg h2, if_neg h]
theorem fields_yes {s : List UInt8} (h1 : ¬ 512 < s.length) (h2 : s ≠ []) (h : s.all okF = true ∧ [] ∉ spl 32 s) : fieldsF s = (some (spl 32 s), 0) := by
  unfold fieldsF; rw [if_neg h1, if_neg h2, if_pos h]
theorem bad_ok {d : List UInt8} {j : Nat} {c : UInt8} (h : d[j]? = some c) (hc : ¬ okF c = true) : ¬ d.all okF = true := fun h2 => by
  rw [List.all_eq_true] at h2
  exact hc (h2 c (List.mem_of_getElem? h))

theorem tfields_ok : PureC Tryd.prog Gt 16 tfields_m := by
  refine pure_of_awp (X := ctx Tryd.prog Gt [(31, split_m)]) Tryd.func16 rfl rfl (by kernel_rfl) (by kernel_rfl) (AllOk.cons split_ok AllOk.nil).kok ?_
  intro args r h0
  obtain ⟨s, rfl, h⟩ := ms_inv h0
  refine ⟨Nat.le_of_ble_eq_true rfl, ?_⟩
  cases h
  by_cases hl : (512 : Int) < s.length
  · have hE : fieldsF s = (none, 4) := by unfold fieldsF; rw [if_pos (by omega)]
    have hc := Nat.zero_add 0
    repeat' (first | (simp only [hc, Tryd.f16, SX, hl, AB, PL, RG, LP, TY, Nat.reduceEqDiff, Nat.reduceAdd, Nat.reduceSub, Nat.reduceMul, Nat.reduceLT, Nat.reduceLeDiff, Nat.reduceMod, Nat.reduceDiv, reduceCtorEq, Int.reduceEq, Int.reduceNe, Int.reduceLT, Int.reduceLE, Int.reduceNeg, Int.reduceToNat, Int.reduceAdd, Int.reduceSub, Int.reduceMul, ↓reduceIte, forall_const, eq_self, ne_eq, Option.some.injEq, beq_self_eq_true]) | refine fin_ndec (fun hc => ?_) (fun hc => ?_) | refine fin_dec (fun hc => ?_) (fun hc => ?_) | refine cnd_ndec (fun hc => ?_) (fun hc => ?_) | refine cnd_dec' (fun hc => ?_) (fun hc => ?_) | refine fin_nsplit (fun hc => ?_) (fun hc => ?_) | refine fin_split (fun hc => ?_) (fun hc => ?_) | refine cnd_nsplit (fun hc => ?_) (fun hc => ?_) | refine cnd_split (fun hc => ?_) (fun hc => ?_) | refine blk_exit_id ?_)
    all_goals simp [hE, slT, DV.i]
  by_cases hs : s = []
  · subst hs
    have hE : fieldsF [] = (none, 0) := rfl
    have hc := Nat.zero_add 0
    repeat' (first | (simp only [hc, Tryd.f16, SX, hl, AB, PL, RG, LP, TY, Nat.reduceEqDiff, Nat.reduceAdd, Nat.reduceSub, Nat.reduceMul, Nat.reduceLT, Nat.reduceLeDiff, Nat.reduceMod, Nat.reduceDiv, reduceCtorEq, Int.reduceEq, Int.reduceNe, Int.reduceLT, Int.reduceLE, Int.reduceNeg, Int.reduceToNat, Int.reduceAdd, Int.reduceSub, Int.reduceMul, ↓reduceIte, forall_const, eq_self, ne_eq, Option.some.injEq, beq_self_eq_true]) | refine fin_ndec (fun hc => ?_) (fun hc => ?_) | refine fin_dec (fun hc => ?_) (fun hc => ?_) | refine cnd_ndec (fun hc => ?_) (fun hc => ?_) | refine cnd_dec' (fun hc => ?_) (fun hc => ?_) | refine fin_nsplit (fun hc => ?_) (fun hc => ?_) | refine fin_split (fun hc => ?_) (fun hc => ?_) | refine cnd_nsplit (fun hc => ?_) (fun hc => ?_) | refine cnd_split (fun hc => ?_) (fun hc => ?_) | refine blk_exit_id ?_)
    all_goals simp [hE, slT, DV.i]
  have hs2 : (s == []) = false := by simp [hs]
  have t2 : split_m [.c (.str s), .c (.str [32])] = some [.c (.sl true ((spl 32 s).map rowS))] := by
    rw [split_m, mss_eq, if_pos (decide_eq_true ⟨by omega, rfl⟩)]; rfl
  have hc := Nat.zero_add 0
  repeat' (first | (simp only [hc, Tryd.f16, SX, hl, hs2, AB, PL, RG, LP, TY, Nat.reduceEqDiff, Nat.reduceAdd, Nat.reduceSub, Nat.reduceMul, Nat.reduceLT, Nat.reduceLeDiff, Nat.reduceMod, Nat.reduceDiv, reduceCtorEq, Int.reduceEq, Int.reduceNe, Int.reduceLT, Int.reduceLE, Int.reduceNeg, Int.reduceToNat, Int.reduceAdd, Int.reduceSub, Int.reduceMul, ↓reduceIte, forall_const, eq_self, ne_eq, Option.some.injEq, beq_self_eq_true]) | refine fin_ndec (fun hc => ?_) (fun hc => ?_) | refine fin_dec (fun hc => ?_) (fun hc => ?_) | refine cnd_ndec (fun hc => ?_) (fun hc => ?_) | refine cnd_dec' (fun hc => ?_) (fun hc => ?_) | refine fin_nsplit (fun hc => ?_) (fun hc => ?_) | refine fin_split (fun hc => ?_) (fun hc => ?_) | refine cnd_nsplit (fun hc => ?_) (fun hc => ?_) | refine cnd_split (fun hc => ?_) (fun hc => ?_) | refine blk_exit_id ?_)
  refine awp_loop (σ := Nat) (fun j => j ≤ s.length ∧ (s.take j).all okF = true) (fun j => ⟨[(15, AV.i j), (14, AV.i s.length), (0, AV.s s)], []⟩) (fun j => s.length - j) 0 (Wk.sub' (by simp [subT, look]) rfl) (by simp) ?_
  rintro j ⟨hj, hout⟩
  by_cases hjl : j < s.length
  · have e1 : s[j]? = some s[j] := by simp [hjl]
    have hlt : ((j : Int) < (s.length : Int)) = True := eq_true (by omega)
    have hw := wI (n := (j : Int) + 1) (by omega) (by omega)
    generalize s[j] = c at *
    by_cases hok : okF c = true
    · have hok' := okF_iff.1 hok
      have b1 : ((c.toNat : Int) < 32) = False := eq_false (by omega)
      have b2 : ((126 : Int) < (c.toNat : Int)) = False := eq_false (by omega)
      have hc := Nat.zero_add 0
      repeat' (first | (simp only [hc, SX, e1, hlt, nn, hw, b1, b2, AB, PL, RG, LP, TY, Nat.reduceEqDiff, Nat.reduceAdd, Nat.reduceSub, Nat.reduceMul, Nat.reduceLT, Nat.reduceLeDiff, Nat.reduceMod, Nat.reduceDiv, reduceCtorEq, Int.reduceEq, Int.reduceNe, Int.reduceLT, Int.reduceLE, Int.reduceNeg, Int.reduceToNat, Int.reduceAdd, Int.reduceSub, Int.reduceMul, ↓reduceIte, forall_const, eq_self, ne_eq, Option.some.injEq, beq_self_eq_true]) | refine fin_ndec (fun hc => ?_) (fun hc => ?_) | refine fin_dec (fun hc => ?_) (fun hc => ?_) | refine cnd_ndec (fun hc => ?_) (fun hc => ?_) | refine cnd_dec' (fun hc => ?_) (fun hc => ?_) | refine fin_nsplit (fun hc => ?_) (fun hc => ?_) | refine fin_split (fun hc => ?_) (fun hc => ?_) | refine cnd_nsplit (fun hc => ?_) (fun hc => ?_) | refine cnd_split (fun hc => ?_) (fun hc => ?_) | refine blk_exit_id ?_)
      exact lp_next (j + 1) (Wk.sub' (by simp [subT, look]) rfl) ⟨by omega, by rw [take_snoc e1, List.all_append, hout]; simp [hok]⟩ (by omega)
    · have hE := fields_no (by omega) hs (fun h => bad_ok e1 hok h.1)
      have hok' : ¬ (32 ≤ c.toNat ∧ c.toNat ≤ 126) := fun h => hok (okF_iff.2 h)
      by_cases b0 : (c.toNat : Int) < 32
      · skip
        have hc := Nat.zero_add 0
        repeat' (first | (simp only [hc, SX, e1, hlt, nn, b0, AB, PL, RG, LP, TY, Nat.reduceEqDiff, Nat.reduceAdd, Nat.reduceSub, Nat.reduceMul, Nat.reduceLT, Nat.reduceLeDiff, Nat.reduceMod, Nat.reduceDiv, reduceCtorEq, Int.reduceEq, Int.reduceNe, Int.reduceLT, Int.reduceLE, Int.reduceNeg, Int.reduceToNat, Int.reduceAdd, Int.reduceSub, Int.reduceMul, ↓reduceIte, forall_const, eq_self, ne_eq, Option.some.injEq, beq_self_eq_true]) | refine fin_ndec (fun hc => ?_) (fun hc => ?_) | refine fin_dec (fun hc => ?_) (fun hc => ?_) | refine cnd_ndec (fun hc => ?_) (fun hc => ?_) | refine cnd_dec' (fun hc => ?_) (fun hc => ?_) | refine fin_nsplit (fun hc => ?_) (fun hc => ?_) | refine fin_split (fun hc => ?_) (fun hc => ?_) | refine cnd_nsplit (fun hc => ?_) (fun hc => ?_) | refine cnd_split (fun hc => ?_) (fun hc => ?_) | refine blk_exit_id ?_)
        all_goals simp [hE, slT, DV.i]
      · have b2 : ((126 : Int) < (c.toNat : Int)) = True := eq_true (by omega)
        have hc := Nat.zero_add 0
        repeat' (first | (simp only [hc, SX, e1, hlt, nn, b0, b2, AB, PL, RG, LP, TY, Nat.reduceEqDiff, Nat.reduceAdd, Nat.reduceSub, Nat.reduceMul, Nat.reduceLT, Nat.reduceLeDiff, Nat.reduceMod, Nat.reduceDiv, reduceCtorEq, Int.reduceEq, Int.reduceNe, Int.reduceLT, Int.reduceLE, Int.reduceNeg, Int.reduceToNat, Int.reduceAdd, Int.reduceSub, Int.reduceMul, ↓reduceIte, forall_const, eq_self, ne_eq, Option.some.injEq, beq_self_eq_true]) | refine fin_ndec (fun hc => ?_) (fun hc => ?_) | refine fin_dec (fun hc => ?_) (fun hc => ?_) | refine cnd_ndec (fun hc => ?_) (fun hc => ?_) | refine cnd_dec' (fun hc => ?_) (fun hc => ?_) | refine fin_nsplit (fun hc => ?_) (fun hc => ?_) | refine fin_split (fun hc => ?_) (fun hc => ?_) | refine cnd_nsplit (fun hc => ?_) (fun hc => ?_) | refine cnd_split (fun hc => ?_) (fun hc => ?_) | refine blk_exit_id ?_)
        all_goals simp [hE, slT, DV.i]
  · have hlt : ((j : Int) < (s.length : Int)) = False := eq_false (by omega)
    rw [List.take_of_length_le (by omega)] at hout
    have hc := Nat.zero_add 0
    repeat' (first | (simp only [hc, SX, hlt, t2, AB, PL, RG, LP, TY, Nat.reduceEqDiff, Nat.reduceAdd, Nat.reduceSub, Nat.reduceMul, Nat.reduceLT, Nat.reduceLeDiff, Nat.reduceMod, Nat.reduceDiv, reduceCtorEq, Int.reduceEq, Int.reduceNe, Int.reduceLT, Int.reduceLE, Int.reduceNeg, Int.reduceToNat, Int.reduceAdd, Int.reduceSub, Int.reduceMul, ↓reduceIte, forall_const, eq_self, ne_eq, Option.some.injEq, beq_self_eq_true]) | refine fin_ndec (fun hc => ?_) (fun hc => ?_) | refine fin_dec (fun hc => ?_) (fun hc => ?_) | refine cnd_ndec (fun hc => ?_) (fun hc => ?_) | refine cnd_dec' (fun hc => ?_) (fun hc => ?_) | refine fin_nsplit (fun hc => ?_) (fun hc => ?_) | refine fin_split (fun hc => ?_) (fun hc => ?_) | refine cnd_nsplit (fun hc => ?_) (fun hc => ?_) | refine cnd_split (fun hc => ?_) (fun hc => ?_) | refine blk_exit_id ?_)
    have hfn : ¬ [] ∉ spl 32 s → fieldsF s = (none, 5) := fun h => fields_no (by omega) hs (fun h2 => h h2.2)
    have hfy : [] ∉ spl 32 s → fieldsF s = (some (spl 32 s), 0) := fun h => fields_yes (by omega) hs ⟨hout, h⟩
    have hsl := spl_len 32 s
    generalize spl 32 s = l at *
    have l1 : ((l.map rowS).length : Int) = l.length := by simp
    refine awp_loop (σ := Nat) (fun k => k ≤ l.length ∧ [] ∉ l.take k) (fun k => ⟨[(33, AV.i k), (32, AV.i l.length), (31, AV.d (.sl true (l.map rowS))), (5, AV.d (.sl true (l.map rowS)))], []⟩) (fun k => l.length - k) 0 (Wk.sub' (by simp [subT, look]) rfl) (by simp) ?_
    rintro k ⟨hk, hkt⟩
    by_cases hkl : k < l.length
    · have e2 : (l.map rowS)[k]? = some [.str l[k]] := by simp [hkl, rowS]
      have hlt2 : ((k : Int) < (l.length : Int)) = True := eq_true (by omega)
      have hw := wI (n := (k : Int) + 1) (by omega) (by omega)
      by_cases he : l[k] = []
      · have hb : (l[k] == []) = true := by simp [he]
        have hE := hfn (fun h => h (he ▸ List.getElem_mem hkl))
        have hc := Nat.zero_add 0
        repeat' (first | (simp only [hc, SX, l1, e2, hlt2, nn, hw, hb, AB, PL, RG, LP, TY, Nat.reduceEqDiff, Nat.reduceAdd, Nat.reduceSub, Nat.reduceMul, Nat.reduceLT, Nat.reduceLeDiff, Nat.reduceMod, Nat.reduceDiv, reduceCtorEq, Int.reduceEq, Int.reduceNe, Int.reduceLT, Int.reduceLE, Int.reduceNeg, Int.reduceToNat, Int.reduceAdd, Int.reduceSub, Int.reduceMul, ↓reduceIte, forall_const, eq_self, ne_eq, Option.some.injEq, beq_self_eq_true]) | refine fin_ndec (fun hc => ?_) (fun hc => ?_) | refine fin_dec (fun hc => ?_) (fun hc => ?_) | refine cnd_ndec (fun hc => ?_) (fun hc => ?_) | refine cnd_dec' (fun hc => ?_) (fun hc => ?_) | refine fin_nsplit (fun hc => ?_) (fun hc => ?_) | refine fin_split (fun hc => ?_) (fun hc => ?_) | refine cnd_nsplit (fun hc => ?_) (fun hc => ?_) | refine cnd_split (fun hc => ?_) (fun hc => ?_) | refine blk_exit_id ?_)
        all_goals simp [hE, slT, DV.i]
      · have hb : (l[k] == []) = false := by simp [he]
        have hc := Nat.zero_add 0
        repeat' (first | (simp only [hc, SX, l1, e2, hlt2, nn, hw, hb, AB, PL, RG, LP, TY, Nat.reduceEqDiff, Nat.reduceAdd, Nat.reduceSub, Nat.reduceMul, Nat.reduceLT, Nat.reduceLeDiff, Nat.reduceMod, Nat.reduceDiv, reduceCtorEq, Int.reduceEq, Int.reduceNe, Int.reduceLT, Int.reduceLE, Int.reduceNeg, Int.reduceToNat, Int.reduceAdd, Int.reduceSub, Int.reduceMul, ↓reduceIte, forall_const, eq_self, ne_eq, Option.some.injEq, beq_self_eq_true]) | refine fin_ndec (fun hc => ?_) (fun hc => ?_) | refine fin_dec (fun hc => ?_) (fun hc => ?_) | refine cnd_ndec (fun hc => ?_) (fun hc => ?_) | refine cnd_dec' (fun hc => ?_) (fun hc => ?_) | refine fin_nsplit (fun hc => ?_) (fun hc => ?_) | refine fin_split (fun hc => ?_) (fun hc => ?_) | refine cnd_nsplit (fun hc => ?_) (fun hc => ?_) | refine cnd_split (fun hc => ?_) (fun hc => ?_) | refine blk_exit_id ?_)
        refine lp_next (k + 1) (Wk.sub' (by simp [subT, look]) rfl) ⟨by omega, ?_⟩ (by omega)
        rw [List.take_succ_eq_append_getElem hkl, List.mem_append]
        rintro (h | h)
        · exact hkt h
        · simp at h; exact he h
    · have hlt2 : ((k : Int) < (l.length : Int)) = False := eq_false (by omega)
      rw [List.take_of_length_le (by omega)] at hkt
      have hE := hfy hkt
      have hc := Nat.zero_add 0
      repeat' (first | (simp only [hc, SX, l1, hlt2, AB, PL, RG, LP, TY, Nat.reduceEqDiff, Nat.reduceAdd, Nat.reduceSub, Nat.reduceMul, Nat.reduceLT, Nat.reduceLeDiff, Nat.reduceMod, Nat.reduceDiv, reduceCtorEq, Int.reduceEq, Int.reduceNe, Int.reduceLT, Int.reduceLE, Int.reduceNeg, Int.reduceToNat, Int.reduceAdd, Int.reduceSub, Int.reduceMul, ↓reduceIte, forall_const, eq_self, ne_eq, Option.some.injEq, beq_self_eq_true]) | refine fin_ndec (fun hc => ?_) (fun hc => ?_) | refine fin_dec (fun hc => ?_) (fun hc => ?_) | refine cnd_ndec (fun hc => ?_) (fun hc => ?_) | refine cnd_dec' (fun hc => ?_) (fun hc => ?_) | refine fin_nsplit (fun hc => ?_) (fun hc => ?_) | refine fin_split (fun hc => ?_) (fun hc => ?_) | refine cnd_nsplit (fun hc => ?_) (fun hc => ?_) | refine cnd_split (fun hc => ?_) (fun hc => ?_) | refine blk_exit_id ?_)
      all_goals simp [hE, slT, DV.i]

end Go.Ab
