/-
  Texts of the layer and of the laws, put together: AbY6, AbR1. No law is stated here.
-/
import Derived.Test.YteeepgnhkfmnaaaDoorAbVol25
set_option linter.unusedSimpArgs false
set_option linter.unusedVariables false
set_option maxRecDepth 100000

/-
  What the functions of the texts compute: fields, lines, joins (the text's own).
-/
namespace Go.Ab
open Go.RowKit Go.Proofs

def slT (f : Bool) : Option (List (List UInt8)) → D
  | none => .sl true []
  | some l => .sl f (l.map rowS)

def tfields_m : List PA → Option (List PA) := ms fun s => some [.c (slT true (fieldsF s).1), .i (fieldsF s).2]



theorem trim_le (s : List UInt8) : (Lib.trimSuffix s [10]).length ≤ s.length := by
  rcases trim_end s 10 with ⟨a, e1, e2⟩ | ⟨_, e2⟩
  · rw [e2, e1]; simp
  · rw [e2]; exact Nat.le_refl _

theorem okF_iff {c : UInt8} : okF c = true ↔ 32 ≤ c.toNat ∧ c.toNat ≤ 126 := by simp [okF]
theorem fields_no {s : List UInt8} (h1 : ¬ 512 < s.length) (h2 : s ≠ []) (h : ¬ (s.all okF = true ∧ [] ∉ spl 32 s)) : fieldsF s = (none, 5) := by
  unfold fieldsF; rw [if_neg h1, if_neg h2, if_neg h]
theorem fields_yes {s : List UInt8} (h1 : ¬ 512 < s.length) (h2 : s ≠ []) (h : s.all okF = true ∧ [] ∉ spl 32 s) : fieldsF s = (some (spl 32 s), 0) := by
  unfold fieldsF; rw [if_neg h1, if_neg h2, if_pos h]
theorem bad_ok {d : List UInt8} {j : Nat} {c : UInt8} (h : d[j]? = some c) (hc : ¬ okF c = true) : ¬ d.all okF = true := fun h2 => by
  rw [List.all_eq_true] at h2
  exact hc (h2 c (List.mem_of_getElem? h))

theorem tfields_ok : PureC Tryd.prog Gt 35 tfields_m := by
  refine pure_of_awp (X := ctx Tryd.prog Gt [(55, split_m)]) Tryd.func35 rfl rfl (by kernel_rfl) (by kernel_rfl) (AllOk.cons split_ok AllOk.nil).kok ?_
  intro args r h0
  obtain ⟨s, rfl, h⟩ := ms_inv h0
  refine ⟨Nat.le_of_ble_eq_true rfl, ?_⟩
  cases h
  by_cases hl : (512 : Int) < s.length
  · have hE : fieldsF s = (none, 4) := by unfold fieldsF; rw [if_pos (by omega)]
    have hc := Nat.zero_add 0
    repeat' (first | simp only [hc, Tryd.f35, SX, hl, AB, PL, RG, LP, TY, simprocAttr, ↓reduceIte, forall_const, eq_self, ne_eq, Option.some.injEq, beq_self_eq_true] | ((first | apply fin_ndec | apply fin_dec | apply cnd_ndec | apply cnd_dec' | apply fin_nsplit | apply fin_split | apply cnd_nsplit | apply cnd_split) <;> intro hc) | refine blk_exit_id ?_)
    all_goals simp [hE, slT, DV.i]
  by_cases hs : s = []
  · subst hs
    have hE : fieldsF [] = (none, 0) := rfl
    have hc := Nat.zero_add 0
    repeat' (first | simp only [hc, Tryd.f35, SX, hl, AB, PL, RG, LP, TY, simprocAttr, ↓reduceIte, forall_const, eq_self, ne_eq, Option.some.injEq, beq_self_eq_true] | ((first | apply fin_ndec | apply fin_dec | apply cnd_ndec | apply cnd_dec' | apply fin_nsplit | apply fin_split | apply cnd_nsplit | apply cnd_split) <;> intro hc) | refine blk_exit_id ?_)
    all_goals simp [hE, slT, DV.i]
  have hs2 : (s == []) = false := by simp [hs]
  have t2 : split_m [.c (.str s), .c (.str [32])] = some [.c (.sl true ((spl 32 s).map rowS))] := by
    rw [split_m, mss_eq, if_pos (decide_eq_true ⟨by omega, rfl⟩)]; rfl
  have hc := Nat.zero_add 0
  repeat' (first | simp only [hc, Tryd.f35, SX, hl, hs2, AB, PL, RG, LP, TY, simprocAttr, ↓reduceIte, forall_const, eq_self, ne_eq, Option.some.injEq, beq_self_eq_true] | ((first | apply fin_ndec | apply fin_dec | apply cnd_ndec | apply cnd_dec' | apply fin_nsplit | apply fin_split | apply cnd_nsplit | apply cnd_split) <;> intro hc) | refine blk_exit_id ?_)
  refine awp_loop (σ := Nat) (fun j => j ≤ s.length ∧ (s.take j).all okF = true) (fun j => ⟨[(15, AV.i j), (14, AV.i s.length), (0, AV.s s)], []⟩) (fun j => s.length - j) 0 (Wk.sub' (by simp [subT, look]) rfl) (by simp) ?_
  rintro j ⟨hj, hout⟩
  by_cases hjl : j < s.length
  · have e1 : s[j]? = some s[j] := by simp [hjl]
    have hlt : ((j : Int) < (s.length : Int)) = True := eq_true (by omega)
    have hw := wI (n := (j : Int) + 1) (by omega) (by omega)
    generalize s[j] = c at *
    by_cases hok : okF c = true
    · have hok' := okF_iff.1 hok
      have b1 : ((c.toNat : Int) < 32) = False := eq_false (by omega)
      have b2 : ((126 : Int) < (c.toNat : Int)) = False := eq_false (by omega)
      have hc := Nat.zero_add 0
      repeat' (first | simp only [hc, SX, e1, hlt, nn, hw, b1, b2, AB, PL, RG, LP, TY, simprocAttr, ↓reduceIte, forall_const, eq_self, ne_eq, Option.some.injEq, beq_self_eq_true] | ((first | apply fin_ndec | apply fin_dec | apply cnd_ndec | apply cnd_dec' | apply fin_nsplit | apply fin_split | apply cnd_nsplit | apply cnd_split) <;> intro hc) | refine blk_exit_id ?_)
      exact lp_next (j + 1) (Wk.sub' (by simp [subT, look]) rfl) ⟨by omega, by rw [take_snoc e1, List.all_append, hout]; simp [hok]⟩ (by omega)
    · have hE := fields_no (by omega) hs (fun h => bad_ok e1 hok h.1)
      have hok' : ¬ (32 ≤ c.toNat ∧ c.toNat ≤ 126) := fun h => hok (okF_iff.2 h)
      by_cases b0 : (c.toNat : Int) < 32
      · skip
        have hc := Nat.zero_add 0
        repeat' (first | simp only [hc, SX, e1, hlt, nn, b0, AB, PL, RG, LP, TY, simprocAttr, ↓reduceIte, forall_const, eq_self, ne_eq, Option.some.injEq, beq_self_eq_true] | ((first | apply fin_ndec | apply fin_dec | apply cnd_ndec | apply cnd_dec' | apply fin_nsplit | apply fin_split | apply cnd_nsplit | apply cnd_split) <;> intro hc) | refine blk_exit_id ?_)
        all_goals simp [hE, slT, DV.i]
      · have b2 : ((126 : Int) < (c.toNat : Int)) = True := eq_true (by omega)
        have hc := Nat.zero_add 0
        repeat' (first | simp only [hc, SX, e1, hlt, nn, b0, b2, AB, PL, RG, LP, TY, simprocAttr, ↓reduceIte, forall_const, eq_self, ne_eq, Option.some.injEq, beq_self_eq_true] | ((first | apply fin_ndec | apply fin_dec | apply cnd_ndec | apply cnd_dec' | apply fin_nsplit | apply fin_split | apply cnd_nsplit | apply cnd_split) <;> intro hc) | refine blk_exit_id ?_)
        all_goals simp [hE, slT, DV.i]
  · have hlt : ((j : Int) < (s.length : Int)) = False := eq_false (by omega)
    rw [List.take_of_length_le (by omega)] at hout
    have hc := Nat.zero_add 0
    repeat' (first | simp only [hc, SX, hlt, t2, AB, PL, RG, LP, TY, simprocAttr, ↓reduceIte, forall_const, eq_self, ne_eq, Option.some.injEq, beq_self_eq_true] | ((first | apply fin_ndec | apply fin_dec | apply cnd_ndec | apply cnd_dec' | apply fin_nsplit | apply fin_split | apply cnd_nsplit | apply cnd_split) <;> intro hc) | refine blk_exit_id ?_)
    have hfn : ¬ [] ∉ spl 32 s → fieldsF s = (none, 5) := fun h => fields_no (by omega) hs (fun h2 => h h2.2)
    have hfy : [] ∉ spl 32 s → fieldsF s = (some (spl 32 s), 0) := fun h => fields_yes (by omega) hs ⟨hout, h⟩
    have hsl := spl_len 32 s
    generalize spl 32 s = l at *
    have l1 : ((l.map rowS).length : Int) = l.length := by simp
    refine awp_loop (σ := Nat) (fun k => k ≤ l.length ∧ [] ∉ l.take k) (fun k => ⟨[(33, AV.i k), (32, AV.i l.length), (31, AV.d (.sl true (l.map rowS))), (5, AV.d (.sl true (l.map rowS)))], []⟩) (fun k => l.length - k) 0 (Wk.sub' (by simp [subT, look]) rfl) (by simp) ?_
    rintro k ⟨hk, hkt⟩
    by_cases hkl : k < l.length
    · have e2 : (l.map rowS)[k]? = some [.str l[k]] := by simp [hkl, rowS]
      have hlt2 : ((k : Int) < (l.length : Int)) = True := eq_true (by omega)
      have hw := wI (n := (k : Int) + 1) (by omega) (by omega)
      by_cases he : l[k] = []
      · have hb : (l[k] == []) = true := by simp [he]
        have hE := hfn (fun h => h (he ▸ List.getElem_mem hkl))
        have hc := Nat.zero_add 0
        repeat' (first | simp only [hc, SX, l1, e2, hlt2, nn, hw, hb, AB, PL, RG, LP, TY, simprocAttr, ↓reduceIte, forall_const, eq_self, ne_eq, Option.some.injEq, beq_self_eq_true] | ((first | apply fin_ndec | apply fin_dec | apply cnd_ndec | apply cnd_dec' | apply fin_nsplit | apply fin_split | apply cnd_nsplit | apply cnd_split) <;> intro hc) | refine blk_exit_id ?_)
        all_goals simp [hE, slT, DV.i]
      · have hb : (l[k] == []) = false := by simp [he]
        have hc := Nat.zero_add 0
        repeat' (first | simp only [hc, SX, l1, e2, hlt2, nn, hw, hb, AB, PL, RG, LP, TY, simprocAttr, ↓reduceIte, forall_const, eq_self, ne_eq, Option.some.injEq, beq_self_eq_true] | ((first | apply fin_ndec | apply fin_dec | apply cnd_ndec | apply cnd_dec' | apply fin_nsplit | apply fin_split | apply cnd_nsplit | apply cnd_split) <;> intro hc) | refine blk_exit_id ?_)
        refine lp_next (k + 1) (Wk.sub' (by simp [subT, look]) rfl) ⟨by omega, ?_⟩ (by omega)
        rw [List.take_succ_eq_append_getElem hkl, List.mem_append]
        rintro (h | h)
        · exact hkt h
        · simp at h; exact he h
    · have hlt2 : ((k : Int) < (l.length : Int)) = False := eq_false (by omega)
      rw [List.take_of_length_le (by omega)] at hkt
      have hE := hfy hkt
      have hc := Nat.zero_add 0
      repeat' (first | simp only [hc, SX, l1, hlt2, AB, PL, RG, LP, TY, simprocAttr, ↓reduceIte, forall_const, eq_self, ne_eq, Option.some.injEq, beq_self_eq_true] | ((first | apply fin_ndec | apply fin_dec | apply cnd_ndec | apply cnd_dec' | apply fin_nsplit | apply fin_split | apply cnd_nsplit | apply cnd_split) <;> intro hc) | refine blk_exit_id ?_)
      all_goals simp [hE, slT, DV.i]

end Go.Ab

/-
  What the functions of the texts compute: the reference's Join, Fields, Lines.
-/
namespace Go.Ab
open Go.RowKit Go.Proofs

def rjoin_m : List PA → Option (List PA) := ml fun l => if decide (l.length ≤ 100000 ∧ (Lib.join l [32]).length ≤ 10000000) = true then some [.c (.str (Lib.join l [32]))] else none

theorem jt_cons (p : List UInt8) (r : List (List UInt8)) : Lib.joinTail [32] (p :: r) = 32 :: p ++ Lib.joinTail [32] r := by simp [Lib.joinTail]
theorem dropL {l : List (List UInt8)} {j : Nat} (h : j < l.length) : l.drop j = l[j] :: l.drop (j + 1) := List.drop_eq_getElem_cons h

theorem rjoin_ok : PureC Tryd.prog Gt 28 rjoin_m := by
  refine pure_of_awp (X := ctx Tryd.prog Gt []) Tryd.func28 rfl rfl (by kernel_rfl) (by kernel_rfl) AllOk.nil.kok ?_
  intro args r h0
  obtain ⟨f, l, rfl, h⟩ := ml_inv h0
  refine ⟨Nat.le_of_ble_eq_true rfl, ?_⟩
  split at h
  · rename_i hn
    obtain ⟨hn1, hn2⟩ := of_decide_eq_true hn
    cases h
    have l1 : ((l.map rowS).length : Int) = l.length := by simp
    have hJ0 : l = [] → Lib.join l [32] = [] := fun h => by rw [h]; rfl
    have hJ1 : ∀ (h : 0 < l.length), Lib.join l [32] = l[0] ++ Lib.joinTail [32] (l.drop 1) := fun h => by
      conv => lhs; rw [← List.drop_zero (l := l), dropL h]
      exact Lib.join_cons _ _ _
    generalize Lib.join l [32] = J at *
    have hc := Nat.zero_add 0
    repeat' (first | simp only [hc, Tryd.f28, SX, AB, PL, RG, LP, TY, simprocAttr, ↓reduceIte, forall_const, eq_self, ne_eq, Option.some.injEq, beq_self_eq_true] | ((first | apply fin_ndec | apply fin_dec | apply cnd_ndec | apply cnd_dec' | apply fin_nsplit | apply fin_split | apply cnd_nsplit | apply cnd_split) <;> intro hc) | refine blk_exit_id ?_)
    refine awp_loop (σ := Nat × List UInt8) (fun p => p.1 ≤ l.length ∧ (p.1 = 0 → p.2 = []) ∧ (0 < p.1 → p.2 ++ Lib.joinTail [32] (l.drop p.1) = J)) (fun p => ⟨[(4, AV.i p.1), (3, AV.s p.2), (0, AV.d (.sl f (l.map rowS)))], []⟩) (fun p => l.length - p.1) (0, []) (Wk.sub' (by simp [subT, look]) rfl) ⟨by simp only []; omega, fun _ => rfl, fun h => by simp at h⟩ ?_
    rintro ⟨j, out⟩ ⟨hj, ho0, ho1⟩
    dsimp only at hj ho0 ho1 ⊢
    by_cases hjl : j < l.length
    · have e2 : (l.map rowS)[j]? = some [.str l[j]] := by simp [hjl, rowS]
      have hlt : ((j : Int) < (l.length : Int)) = True := eq_true (by omega)
      have hw := wI (n := (j : Int) + 1) (by omega) (by omega)
      by_cases hj0 : j = 0
      · have hpos : ((0 : Int) < (j : Int)) = False := eq_false (by omega)
        have hout := ho0 hj0
        have hJ := hJ1 (by omega)
        have hd : l[j] ++ Lib.joinTail [32] (l.drop (j + 1)) = J := by subst hj0; exact hJ.symm
        subst hout
        have hle := congrArg List.length hd
        rw [List.length_append] at hle
        have k1 : (l[j].length ≤ 4611686018427387904) = True := eq_true (by omega)
        have hc := Nat.zero_add 0
        repeat' (first | simp only [hc, SX, l1, e2, hlt, nn, hw, hpos, k1, List.length_nil, Nat.zero_add, List.nil_append, AB, PL, RG, LP, TY, simprocAttr, ↓reduceIte, forall_const, eq_self, ne_eq, Option.some.injEq, beq_self_eq_true] | ((first | apply fin_ndec | apply fin_dec | apply cnd_ndec | apply cnd_dec' | apply fin_nsplit | apply fin_split | apply cnd_nsplit | apply cnd_split) <;> intro hc) | refine blk_exit_id ?_)
        exact lp_next (j + 1, l[j]) (Wk.sub' (by simp [subT, look]) rfl) ⟨by simp only []; omega, fun h => by simp at h, fun _ => hd⟩ (by simp only []; omega)
      · have hpos : ((0 : Int) < (j : Int)) = True := eq_true (by omega)
        have hd := ho1 (by omega)
        rw [dropL hjl, jt_cons] at hd
        have hle := congrArg List.length hd
        simp only [List.length_append, List.length_cons] at hle
        have m1 : (out ++ [32]).length = out.length + 1 := by simp
        have k1 : (out.length + 1 ≤ 4611686018427387904) = True := eq_true (by omega)
        have k2 : (out.length + 1 + l[j].length ≤ 4611686018427387904) = True := eq_true (by omega)
        have hc := Nat.zero_add 0
        repeat' (first | simp only [hc, SX, l1, e2, hlt, nn, hw, hpos, m1, k1, k2, AB, PL, RG, LP, TY, simprocAttr, ↓reduceIte, forall_const, eq_self, ne_eq, Option.some.injEq, beq_self_eq_true] | ((first | apply fin_ndec | apply fin_dec | apply cnd_ndec | apply cnd_dec' | apply fin_nsplit | apply fin_split | apply cnd_nsplit | apply cnd_split) <;> intro hc) | refine blk_exit_id ?_)
        exact lp_next (j + 1, out ++ [32] ++ l[j]) (Wk.sub' (by simp [subT, look]) rfl) ⟨by simp only []; omega, fun h => by simp at h, fun _ => by rw [← hd]; simp⟩ (by simp only []; omega)
    · have hlt : ((j : Int) < (l.length : Int)) = False := eq_false (by omega)
      have hE : out = J := by
        by_cases hj0 : j = 0
        · rw [ho0 hj0, hJ0 (List.length_eq_zero_iff.1 (by omega))]
        · have := ho1 (by omega)
          rw [List.drop_of_length_le (by omega)] at this
          rw [← this]; simp [Lib.joinTail]
      have hc := Nat.zero_add 0
      repeat' (first | simp only [hc, SX, l1, hlt, AB, PL, RG, LP, TY, simprocAttr, ↓reduceIte, forall_const, eq_self, ne_eq, Option.some.injEq, beq_self_eq_true] | ((first | apply fin_ndec | apply fin_dec | apply cnd_ndec | apply cnd_dec' | apply fin_nsplit | apply fin_split | apply cnd_nsplit | apply cnd_split) <;> intro hc) | refine blk_exit_id ?_)
      simp [hE]
  · cases h

def rfields_m : List PA → Option (List PA) := ms fun s => some [.c (slT false (fieldsF s).1), .i (fieldsF s).2]

theorem cur_nil {s : List UInt8} {i : Nat} : List.take (i - i) (List.drop i s) = [] := by rw [Nat.sub_self]; rfl
theorem cur_snoc {s : List UInt8} {i st : Nat} {c : UInt8} (h : s[i]? = some c) (hs : st ≤ i) : List.take (i + 1 - st) (List.drop st s) = List.take (i - st) (List.drop st s) ++ [c] := by
  rw [show i + 1 - st = (i - st) + 1 by omega]
  exact take_snoc (by rw [List.getElem?_drop, show st + (i - st) = i by omega]; exact h)
theorem cur_rest {s : List UInt8} {i st : Nat} (hs : st ≤ i) : List.drop st s = List.take (i - st) (List.drop st s) ++ List.drop i s := by
  conv => lhs; rw [← List.take_append_drop (i - st) (List.drop st s)]
  rw [List.drop_drop, show st + (i - st) = i by omega]

/-- One cut: what stood before, and the rest behind the byte. -/
theorem cut_step {k : UInt8} {s : List UInt8} {i st : Nat} {c : UInt8} {out : List (List UInt8)} (h : s[i]? = some c) (hs : st ≤ i) (hc : c = k) (hn : k ∉ List.take (i - st) (List.drop st s)) (ho : spl k s = out ++ spl k (s.drop st)) :
    spl k s = out ++ [List.take (i - st) (List.drop st s)] ++ spl k (s.drop (i + 1)) := by
  rw [cur_rest hs, drop_of h, hc, spl_append k _ _ hn] at ho
  rw [ho]; simp
theorem cut_end {k : UInt8} {s : List UInt8} {st : Nat} {out : List (List UInt8)} (hn : k ∉ List.take (s.length - st) (List.drop st s)) (ho : spl k s = out ++ spl k (s.drop st)) : spl k s = out ++ [List.take (s.length - st) (List.drop st s)] := by
  have e : List.take (s.length - st) (List.drop st s) = List.drop st s := List.take_of_length_le (by rw [List.length_drop]; omega)
  rw [e] at hn ⊢
  rw [ho, spl_none k _ hn]

theorem rfields_ok : PureC Tryd.prog Gt 37 rfields_m := by
  refine pure_of_awp (X := ctx Tryd.prog Gt []) Tryd.func37 rfl rfl (by kernel_rfl) (by kernel_rfl) AllOk.nil.kok ?_
  intro args r h0
  obtain ⟨s, rfl, h⟩ := ms_inv h0
  refine ⟨Nat.le_of_ble_eq_true rfl, ?_⟩
  cases h
  by_cases hl : (512 : Int) < s.length
  · have hE : fieldsF s = (none, 4) := by unfold fieldsF; rw [if_pos (by omega)]
    have hc := Nat.zero_add 0
    repeat' (first | simp only [hc, Tryd.f37, SX, hl, AB, PL, RG, LP, TY, simprocAttr, ↓reduceIte, forall_const, eq_self, ne_eq, Option.some.injEq, beq_self_eq_true] | ((first | apply fin_ndec | apply fin_dec | apply cnd_ndec | apply cnd_dec' | apply fin_nsplit | apply fin_split | apply cnd_nsplit | apply cnd_split) <;> intro hc) | refine blk_exit_id ?_)
    all_goals simp [hE, slT, DV.i]
  by_cases hs : s = []
  · subst hs
    have hE : fieldsF [] = (none, 0) := rfl
    have hc := Nat.zero_add 0
    repeat' (first | simp only [hc, Tryd.f37, SX, hl, AB, PL, RG, LP, TY, simprocAttr, ↓reduceIte, forall_const, eq_self, ne_eq, Option.some.injEq, beq_self_eq_true] | ((first | apply fin_ndec | apply fin_dec | apply cnd_ndec | apply cnd_dec' | apply fin_nsplit | apply fin_split | apply cnd_nsplit | apply cnd_split) <;> intro hc) | refine blk_exit_id ?_)
    all_goals simp [hE, slT, DV.i]
  have hs2 : (s == []) = false := by simp [hs]
  have no1 : ∀ {j : Nat} {c : UInt8}, s[j]? = some c → ¬ okF c = true → fieldsF s = (none, 5) := fun e1 hok => fields_no (by omega) hs (fun h => bad_ok e1 hok h.1)
  have no2 : [] ∈ spl 32 s → fieldsF s = (none, 5) := fun h => fields_no (by omega) hs (fun h2 => h2.2 h)
  have yes : s.all okF = true → [] ∉ spl 32 s → fieldsF s = (some (spl 32 s), 0) := fun h1 h2 => fields_yes (by omega) hs ⟨h1, h2⟩
  have hc := Nat.zero_add 0
  repeat' (first | simp only [hc, Tryd.f37, SX, hl, hs2, AB, PL, RG, LP, TY, simprocAttr, ↓reduceIte, forall_const, eq_self, ne_eq, Option.some.injEq, beq_self_eq_true] | ((first | apply fin_ndec | apply fin_dec | apply cnd_ndec | apply cnd_dec' | apply fin_nsplit | apply fin_split | apply cnd_nsplit | apply cnd_split) <;> intro hc) | refine blk_exit_id ?_)
  refine awp_loop (σ := Nat × Nat × List (List UInt8)) (fun p => p.2.2.length ≤ p.1 ∧ ((p.1 ≤ s.length ∧ p.2.1 ≤ p.1 ∧ (32 : UInt8) ∉ List.take (p.1 - p.2.1) (List.drop p.2.1 s) ∧ [] ∉ p.2.2 ∧ (s.take p.1).all okF = true ∧ spl 32 s = p.2.2 ++ spl 32 (s.drop p.2.1)) ∨ (p.1 = s.length + 1 ∧ spl 32 s = p.2.2 ∧ [] ∉ p.2.2 ∧ s.all okF = true)))
    (fun p => ⟨[(6, AV.i p.1), (5, AV.i p.2.1), (4, .v (.c (.own 0 (p.2.2.map rowS)))), (0, AV.s s)], [.tok p.2.2.length 1 none]⟩) (fun p => s.length + 1 - p.1) (0, 0, []) (Wk.trans (Wk.own 4 1 (by omega) (by simp [look])) (Wk.sub' (by simp [subT, look]) rfl)) (by simp) ?_
  rintro ⟨i, st, out⟩ ⟨hol, hI⟩
  dsimp only at hol hI ⊢
  have l1 : (out.map rowS).length = out.length := by simp
  have k3 : ((out.length + 1) * 16 ≤ 140737488355328) = True := eq_true (by omega)
  have k4 : (out.length + 1 ≤ 4611686018427387904) = True := eq_true (by omega)
  rcases hI with ⟨hi, hst, hcur, hno, hall, hsp⟩ | ⟨hi, hsp, hno, hall⟩
  · have hle : ((i : Int) ≤ (s.length : Int)) = True := eq_true (by omega)
    have hw := wI (n := (i : Int) + 1) (by omega) (by omega)
    have hsi : ((st : Int) ≤ (i : Int)) = True := eq_true (by omega)
    by_cases hil : i < s.length
    · have e1 : s[i]? = some s[i] := by simp [hil]
      have hlt : ((i : Int) < (s.length : Int)) = True := eq_true (by omega)
      have heq : ((i : Int) = (s.length : Int)) = False := eq_false (by omega)
      generalize s[i] = c at *
      by_cases hok : okF c = true
      · have hok' := okF_iff.1 hok
        have b1 : ((c.toNat : Int) < 32) = False := eq_false (by omega)
        have b2 : ((126 : Int) < (c.toNat : Int)) = False := eq_false (by omega)
        have hall' : (s.take (i + 1)).all okF = true := by rw [take_snoc e1, List.all_append, hall]; simp [hok]
        by_cases h32 : c.toNat = 32
        · have c32 : c = 32 := UInt8.toNat_inj.1 h32
          have b3 : ((c.toNat : Int) = 32) = True := eq_true (by omega)
          have hcs := cut_step e1 hst c32 hcur hsp
          by_cases hse : i = st
          · have hse2 : ((i : Int) = (st : Int)) = True := eq_true (by omega)
            have hE := no2 (by rw [hcs, hse, cur_nil]; simp)
            have hc := Nat.zero_add 0
            repeat' (first | simp only [hc, SX, e1, hle, hlt, heq, nn, hw, b1, b2, b3, hse2, AB, PL, RG, LP, TY, simprocAttr, ↓reduceIte, forall_const, eq_self, ne_eq, Option.some.injEq, beq_self_eq_true] | ((first | apply fin_ndec | apply fin_dec | apply cnd_ndec | apply cnd_dec' | apply fin_nsplit | apply fin_split | apply cnd_nsplit | apply cnd_split) <;> intro hc) | refine blk_exit_id ?_)
            all_goals simp [hE, slT, DV.i]
          · have hse2 : ((i : Int) = (st : Int)) = False := eq_false (by omega)
            have hne : List.take (i - st) (List.drop st s) ≠ [] := fun h => by
              have := congrArg List.length h
              simp only [List.length_take, List.length_drop, List.length_nil] at this
              omega
            have hc := Nat.zero_add 0
            repeat' (first | simp only [hc, SX, e1, hle, hlt, heq, nn, hw, b1, b2, b3, hse2, hsi, l1, k3, k4, AB, PL, RG, LP, TY, simprocAttr, ↓reduceIte, forall_const, eq_self, ne_eq, Option.some.injEq, beq_self_eq_true] | ((first | apply fin_ndec | apply fin_dec | apply cnd_ndec | apply cnd_dec' | apply fin_nsplit | apply fin_split | apply cnd_nsplit | apply cnd_split) <;> intro hc) | refine blk_exit_id ?_)
            refine lp_next (i + 1, i + 1, out ++ [List.take (i - st) (List.drop st s)]) (Wk.sub' (by simp [subT, look, rowS]) (by simp)) ⟨by simp only [List.length_append, List.length_singleton]; omega, .inl ⟨by simp only []; omega, Nat.le_refl _, by simp only [cur_nil]; simp, ?_, hall', hcs⟩⟩ (by simp only []; omega)
            simp only [List.mem_append, List.mem_singleton]
            rintro (h | h)
            · exact hno h
            · exact hne h.symm
        · have b3 : ((c.toNat : Int) = 32) = False := eq_false (by omega)
          have hc := Nat.zero_add 0
          repeat' (first | simp only [hc, SX, e1, hle, hlt, heq, nn, hw, b1, b2, b3, AB, PL, RG, LP, TY, simprocAttr, ↓reduceIte, forall_const, eq_self, ne_eq, Option.some.injEq, beq_self_eq_true] | ((first | apply fin_ndec | apply fin_dec | apply cnd_ndec | apply cnd_dec' | apply fin_nsplit | apply fin_split | apply cnd_nsplit | apply cnd_split) <;> intro hc) | refine blk_exit_id ?_)
          refine lp_next (i + 1, st, out) (Wk.sub' (by simp [subT, look]) rfl) ⟨by simp only []; omega, .inl ⟨by simp only []; omega, by simp only []; omega, ?_, hno, hall', hsp⟩⟩ (by simp only []; omega)
          dsimp only
          rw [cur_snoc e1 hst, List.mem_append]
          rintro (h | h)
          · exact hcur h
          · simp only [List.mem_singleton] at h; subst h; exact h32 rfl
      · have hE := no1 e1 hok
        have hok' : ¬ (32 ≤ c.toNat ∧ c.toNat ≤ 126) := fun h => hok (okF_iff.2 h)
        by_cases b0 : (c.toNat : Int) < 32
        · skip
          have hc := Nat.zero_add 0
          repeat' (first | simp only [hc, SX, e1, hle, hlt, nn, b0, AB, PL, RG, LP, TY, simprocAttr, ↓reduceIte, forall_const, eq_self, ne_eq, Option.some.injEq, beq_self_eq_true] | ((first | apply fin_ndec | apply fin_dec | apply cnd_ndec | apply cnd_dec' | apply fin_nsplit | apply fin_split | apply cnd_nsplit | apply cnd_split) <;> intro hc) | refine blk_exit_id ?_)
          all_goals simp [hE, slT, DV.i]
        · have b2 : ((126 : Int) < (c.toNat : Int)) = True := eq_true (by omega)
          have hc := Nat.zero_add 0
          repeat' (first | simp only [hc, SX, e1, hle, hlt, nn, b0, b2, AB, PL, RG, LP, TY, simprocAttr, ↓reduceIte, forall_const, eq_self, ne_eq, Option.some.injEq, beq_self_eq_true] | ((first | apply fin_ndec | apply fin_dec | apply cnd_ndec | apply cnd_dec' | apply fin_nsplit | apply fin_split | apply cnd_nsplit | apply cnd_split) <;> intro hc) | refine blk_exit_id ?_)
          all_goals simp [hE, slT, DV.i]
    · obtain rfl : i = s.length := by omega
      rw [List.take_of_length_le (Nat.le_refl _)] at hall
      have hcs := cut_end hcur hsp
      by_cases hse : s.length = st
      · have hse2 : ((s.length : Int) = (st : Int)) = True := eq_true (by omega)
        have hE := no2 (by rw [hcs, ← hse, cur_nil]; simp)
        have hc := Nat.zero_add 0
        repeat' (first | simp only [hc, SX, Int.le_refl, Int.lt_irrefl, hse2, AB, PL, RG, LP, TY, simprocAttr, ↓reduceIte, forall_const, eq_self, ne_eq, Option.some.injEq, beq_self_eq_true] | ((first | apply fin_ndec | apply fin_dec | apply cnd_ndec | apply cnd_dec' | apply fin_nsplit | apply fin_split | apply cnd_nsplit | apply cnd_split) <;> intro hc) | refine blk_exit_id ?_)
        all_goals simp [hE, slT, DV.i]
      · have hse2 : ((s.length : Int) = (st : Int)) = False := eq_false (by omega)
        have hne : List.take (s.length - st) (List.drop st s) ≠ [] := fun h => by
          have := congrArg List.length h
          simp only [List.length_take, List.length_drop, List.length_nil] at this
          omega
        have hno' : [] ∉ out ++ [List.take (s.length - st) (List.drop st s)] := by
          simp only [List.mem_append, List.mem_singleton]
          rintro (h | h)
          · exact hno h
          · exact hne h.symm
        have hc := Nat.zero_add 0
        repeat' (first | simp only [hc, SX, Int.le_refl, Int.lt_irrefl, nn, hw, hse2, hsi, l1, k3, k4, AB, PL, RG, LP, TY, simprocAttr, ↓reduceIte, forall_const, eq_self, ne_eq, Option.some.injEq, beq_self_eq_true] | ((first | apply fin_ndec | apply fin_dec | apply cnd_ndec | apply cnd_dec' | apply fin_nsplit | apply fin_split | apply cnd_nsplit | apply cnd_split) <;> intro hc) | refine blk_exit_id ?_)
        exact lp_next (s.length + 1, s.length + 1, out ++ [List.take (s.length - st) (List.drop st s)]) (Wk.sub' (by simp [subT, look, rowS]) (by simp)) ⟨by simp only [List.length_append, List.length_singleton]; omega, .inr ⟨rfl, hcs, hno', hall⟩⟩ (by simp only []; omega)
  · have hle : ((i : Int) ≤ (s.length : Int)) = False := eq_false (by omega)
    have hE := yes hall (by rw [hsp]; exact hno)
    have hc := Nat.zero_add 0
    repeat' (first | simp only [hc, SX, hle, AB, PL, RG, LP, TY, simprocAttr, ↓reduceIte, forall_const, eq_self, ne_eq, Option.some.injEq, beq_self_eq_true] | ((first | apply fin_ndec | apply fin_dec | apply cnd_ndec | apply cnd_dec' | apply fin_nsplit | apply fin_split | apply cnd_nsplit | apply cnd_split) <;> intro hc) | refine blk_exit_id ?_)
    all_goals simp [hE, slT, DV.i, hsp]

def slL (s : List UInt8) : D := if 65536 < s.length then .sl true [] else .sl false (((linesF s).1.getD []).map rowS)



theorem lines_out {s : List UInt8} (h : ¬ 65536 < s.length) : (linesF s).2 = 0 ∧ (linesF s).1.getD [] = lastCut (spl 10 s) := by
  unfold linesF
  rw [if_neg h]
  split
  · rename_i hs; subst hs; exact ⟨rfl, rfl⟩
  · rename_i hs; exact ⟨rfl, (lines_eq s hs).symm⟩

end Go.Ab
