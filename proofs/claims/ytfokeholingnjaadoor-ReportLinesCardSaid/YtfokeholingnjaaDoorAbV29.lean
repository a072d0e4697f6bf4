/-
  Texts of the layer and of the laws, put together: AbQ3. No law is stated here.
-/
import Derived.Test.YtfokeholingnjaaDoorAbV28
import Derived.Test.YtfokeholingnjaaDoorAbV27
import Derived.Test.YtfokeholingnjaaDoorAbV23
set_option linter.unusedSimpArgs false
set_option linter.unusedVariables false
set_option maxRecDepth 100000

/-
  What the functions of reports compute: lines, counts, dates, words.
-/
namespace Go.Ab
open Go.RowKit Go.Proofs

noncomputable section

def lnOk (l : List (List UInt8)) : Bool := decide (l.length ≤ 100000 ∧ (Lib.join l [32]).length ≤ 10000000)
theorem lnOk_of {l : List (List UInt8)} (h : ∀ p ∈ l, p.length ≤ 1000) (h2 : l.length ≤ 10) : lnOk l = true := by
  have := join_le 1000 l h
  have := Nat.mul_le_mul_left 1001 h2
  exact decide_eq_true ⟨by omega, by omega⟩

def encWd (p : Int × Bool × List (List UInt8)) : List PA := [.c (.int .i64 p.1), .c (.sl p.2.1 (p.2.2.map rowS))]
def encDw (p : Int × Bool × List (List UInt8)) : List PA := [.c (.sl p.2.1 (p.2.2.map rowS)), .c (.int .i64 p.1)]
theorem rowS_inj (a b : List UInt8) (h : rowS a = rowS b) : a = b := by simpa [rowS] using h
theorem mapS_inj {l k : List (List UInt8)} : l.map rowS = k.map rowS ↔ l = k := ⟨map_inj rowS_inj, fun h => by rw [h]⟩
theorem encWd_inj (a b : Int × Bool × List (List UInt8)) (h : encWd a = encWd b) : a = b := by
  obtain ⟨a1, a2, a3⟩ := a
  obtain ⟨b1, b2, b3⟩ := b
  simpa [encWd, mapS_inj] using h
theorem encDw_inj (a b : Int × Bool × List (List UInt8)) (h : encDw a = encDw b) : a = b := by
  obtain ⟨a1, a2, a3⟩ := a
  obtain ⟨b1, b2, b3⟩ := b
  simp [encDw, mapS_inj] at h
  simp [h]
def encAcc (a : Acc) : List PA := [.agg a.row]
theorem encAcc_inj (a b : Acc) (h : encAcc a = encAcc b) : a = b := Acc.inj a b (by simpa [encAcc] using h)

def line_m : List PA → Option (List PA) := ml fun l => if lnOk l = true then some [.s (lineF l)] else none
def rline_m : List PA → Option (List PA) := ml fun l => if lnOk l = true then some [.s (lineF l)] else none
def count_m : List PA → Option (List PA) := m1 fun n => if inI n = true then some [.s (Lib.itoa n)] else none
def rcount_m : List PA → Option (List PA) := mE (fun p : List UInt8 × Int => [.c (.str p.1), .c (.int .i64 p.2)]) fun p => if decide (p.1.length ≤ 1000) = true ∧ inI p.2 = true then some [.s (lineF [p.1, Lib.itoa p.2])] else none
def two_m : List PA → Option (List PA) := m1 fun n => if inI n = true then some [.s (twoF n)] else none
def rtwo_m : List PA → Option (List PA) := m1 fun n => if decide (0 ≤ n ∧ n ≤ 99) = true then some [.s (twoF n)] else none
def tdate_m : List PA → Option (List PA) := m1 fun n => some [.s (dateF n)]
def rtdate_m : List PA → Option (List PA) := m1 fun n => some [.s (dateF n)]
def word_m : List PA → Option (List PA) := mE encWd fun p => if decide (p.2.2.length ≤ 1000) = true then some [.s (wordF p.1 p.2.2)] else none
def rword_m : List PA → Option (List PA) := mE encDw fun p => if decide (p.2.2.length ≤ 1000) = true then some [.s (wordF p.1 p.2.2)] else none
def kind_m : List PA → Option (List PA) := mE encAcc fun a => some [.s (kindF a)]

theorem line_ok : PureC Tryd.prog Gt 25 line_m := by
  refine pure_of_awp (X := ctx Tryd.prog Gt [(54, join_m)]) Tryd.func25 rfl rfl (by kernel_rfl) (by kernel_rfl) (AllOk.cons join_ok AllOk.nil).kok ?_
  intro args r h0
  obtain ⟨f, l, rfl, h⟩ := ml_inv h0
  refine ⟨Nat.le_of_ble_eq_true rfl, ?_⟩
  split at h
  · rename_i hn
    obtain ⟨hn1, hn2⟩ := of_decide_eq_true hn
    cases h
    have f1 : join_m [.c (.sl f (l.map rowS)), .c (.str [32])] = some [.c (.str (Lib.join l [32]))] := by
      rw [join_m, mls_eq, if_pos (decide_eq_true ⟨by omega, by omega⟩)]
    have hs : lineF l = Lib.join l [32] ++ [10] := rfl
    generalize Lib.join l [32] = q at *
    have k1 : (q.length + 1 ≤ 4611686018427387904) = True := eq_true (by omega)
    have hc := Nat.zero_add 0
    repeat' (first | (simp only [hc, Tryd.f25, SX, f1, k1, AB, PL, RG, LP, TY, Nat.reduceEqDiff, Nat.reduceAdd, Nat.reduceSub, Nat.reduceMul, Nat.reduceLT, Nat.reduceLeDiff, Nat.reduceMod, Nat.reduceDiv, reduceCtorEq, Int.reduceEq, Int.reduceNe, Int.reduceLT, Int.reduceLE, Int.reduceNeg, Int.reduceToNat, Int.reduceAdd, Int.reduceSub, Int.reduceMul, ↓reduceIte, forall_const, eq_self, ne_eq, Option.some.injEq, beq_self_eq_true]) | refine fin_ndec (fun hc => ?_) (fun hc => ?_) | refine fin_dec (fun hc => ?_) (fun hc => ?_) | refine cnd_ndec (fun hc => ?_) (fun hc => ?_) | refine cnd_dec' (fun hc => ?_) (fun hc => ?_) | refine fin_nsplit (fun hc => ?_) (fun hc => ?_) | refine fin_split (fun hc => ?_) (fun hc => ?_) | refine cnd_nsplit (fun hc => ?_) (fun hc => ?_) | refine cnd_split (fun hc => ?_) (fun hc => ?_) | refine blk_exit_id ?_)
    all_goals simp [hs]
  · cases h

theorem rline_ok : PureC Tryd.prog Gt 29 rline_m := by
  refine pure_of_awp (X := ctx Tryd.prog Gt [(59, rjoin_m)]) Tryd.func29 rfl rfl (by kernel_rfl) (by kernel_rfl) (AllOk.cons rjoin_ok AllOk.nil).kok ?_
  intro args r h0
  obtain ⟨f, l, rfl, h⟩ := ml_inv h0
  refine ⟨Nat.le_of_ble_eq_true rfl, ?_⟩
  split at h
  · rename_i hn
    obtain ⟨hn1, hn2⟩ := of_decide_eq_true hn
    cases h
    have f1 : rjoin_m [.c (.sl f (l.map rowS))] = some [.c (.str (Lib.join l [32]))] := by
      rw [rjoin_m, ml_eq, if_pos (decide_eq_true ⟨by omega, by omega⟩)]
    have hs : lineF l = Lib.join l [32] ++ [10] := rfl
    generalize Lib.join l [32] = q at *
    have k1 : (q.length + 1 ≤ 4611686018427387904) = True := eq_true (by omega)
    have hc := Nat.zero_add 0
    repeat' (first | (simp only [hc, Tryd.f29, SX, f1, k1, AB, PL, RG, LP, TY, Nat.reduceEqDiff, Nat.reduceAdd, Nat.reduceSub, Nat.reduceMul, Nat.reduceLT, Nat.reduceLeDiff, Nat.reduceMod, Nat.reduceDiv, reduceCtorEq, Int.reduceEq, Int.reduceNe, Int.reduceLT, Int.reduceLE, Int.reduceNeg, Int.reduceToNat, Int.reduceAdd, Int.reduceSub, Int.reduceMul, ↓reduceIte, forall_const, eq_self, ne_eq, Option.some.injEq, beq_self_eq_true]) | refine fin_ndec (fun hc => ?_) (fun hc => ?_) | refine fin_dec (fun hc => ?_) (fun hc => ?_) | refine cnd_ndec (fun hc => ?_) (fun hc => ?_) | refine cnd_dec' (fun hc => ?_) (fun hc => ?_) | refine fin_nsplit (fun hc => ?_) (fun hc => ?_) | refine fin_split (fun hc => ?_) (fun hc => ?_) | refine cnd_nsplit (fun hc => ?_) (fun hc => ?_) | refine cnd_split (fun hc => ?_) (fun hc => ?_) | refine blk_exit_id ?_)
    all_goals simp [hs]
  · cases h

theorem line_at {f : Bool} {l : List (List UInt8)} (h : ∀ p ∈ l, p.length ≤ 1000) (h2 : l.length ≤ 10) : line_m [.c (.sl f (l.map rowS))] = some [.s (lineF l)] := by
  rw [line_m, ml_eq, if_pos (lnOk_of h h2)]
theorem rline_at {f : Bool} {l : List (List UInt8)} (h : ∀ p ∈ l, p.length ≤ 1000) (h2 : l.length ≤ 10) : rline_m [.c (.sl f (l.map rowS))] = some [.s (lineF l)] := by
  rw [rline_m, ml_eq, if_pos (lnOk_of h h2)]
theorem le2 {a b : List UInt8} (ha : a.length ≤ 1000) (hb : b.length ≤ 1000) : ∀ p ∈ [a, b], p.length ≤ 1000 := by
  simp only [List.mem_cons, List.not_mem_nil, or_false]
  rintro p (rfl | rfl) <;> assumption
theorem le3 {a b c : List UInt8} (ha : a.length ≤ 1000) (hb : b.length ≤ 1000) (hc : c.length ≤ 1000) : ∀ p ∈ [a, b, c], p.length ≤ 1000 := by
  simp only [List.mem_cons, List.not_mem_nil, or_false]
  rintro p (rfl | rfl | rfl) <;> assumption
theorem le4 {a b c d : List UInt8} (ha : a.length ≤ 1000) (hb : b.length ≤ 1000) (hc : c.length ≤ 1000) (hd : d.length ≤ 1000) : ∀ p ∈ [a, b, c, d], p.length ≤ 1000 := by
  simp only [List.mem_cons, List.not_mem_nil, or_false]
  rintro p (rfl | rfl | rfl | rfl) <;> assumption
theorem le7 {a b c d e f g : List UInt8} (ha : a.length ≤ 1000) (hb : b.length ≤ 1000) (hc : c.length ≤ 1000) (hd : d.length ≤ 1000) (he : e.length ≤ 1000) (hf : f.length ≤ 1000) (hg : g.length ≤ 1000) : ∀ p ∈ [a, b, c, d, e, f, g], p.length ≤ 1000 := by
  simp only [List.mem_cons, List.not_mem_nil, or_false]
  rintro p (rfl | rfl | rfl | rfl | rfl | rfl | rfl) <;> assumption
theorem ln2 {a b : List UInt8} (ha : a.length ≤ 1000) (hb : b.length ≤ 1000) : line_m [.c (.sl true [[.str a], [.str b]])] = some [.s (lineF [a, b])] := line_at (le2 ha hb) (by simp)
theorem ln3 {a b c : List UInt8} (ha : a.length ≤ 1000) (hb : b.length ≤ 1000) (hc : c.length ≤ 1000) : line_m [.c (.sl true [[.str a], [.str b], [.str c]])] = some [.s (lineF [a, b, c])] := line_at (le3 ha hb hc) (by simp)
theorem ln4 {a b c d : List UInt8} (ha : a.length ≤ 1000) (hb : b.length ≤ 1000) (hc : c.length ≤ 1000) (hd : d.length ≤ 1000) : line_m [.c (.sl true [[.str a], [.str b], [.str c], [.str d]])] = some [.s (lineF [a, b, c, d])] := line_at (le4 ha hb hc hd) (by simp)
theorem ln7 {a b c d e f g : List UInt8} (ha : a.length ≤ 1000) (hb : b.length ≤ 1000) (hc : c.length ≤ 1000) (hd : d.length ≤ 1000) (he : e.length ≤ 1000) (hf : f.length ≤ 1000) (hg : g.length ≤ 1000) : line_m [.c (.sl true [[.str a], [.str b], [.str c], [.str d], [.str e], [.str f], [.str g]])] = some [.s (lineF [a, b, c, d, e, f, g])] := line_at (le7 ha hb hc hd he hf hg) (by simp)
theorem rln2 {a b : List UInt8} (ha : a.length ≤ 1000) (hb : b.length ≤ 1000) : rline_m [.c (.sl true [[.str a], [.str b]])] = some [.s (lineF [a, b])] := rline_at (le2 ha hb) (by simp)
theorem rln3 {a b c : List UInt8} (ha : a.length ≤ 1000) (hb : b.length ≤ 1000) (hc : c.length ≤ 1000) : rline_m [.c (.sl true [[.str a], [.str b], [.str c]])] = some [.s (lineF [a, b, c])] := rline_at (le3 ha hb hc) (by simp)
theorem rln4 {a b c d : List UInt8} (ha : a.length ≤ 1000) (hb : b.length ≤ 1000) (hc : c.length ≤ 1000) (hd : d.length ≤ 1000) : rline_m [.c (.sl true [[.str a], [.str b], [.str c], [.str d]])] = some [.s (lineF [a, b, c, d])] := rline_at (le4 ha hb hc hd) (by simp)
theorem rln7 {a b c d e f g : List UInt8} (ha : a.length ≤ 1000) (hb : b.length ≤ 1000) (hc : c.length ≤ 1000) (hd : d.length ≤ 1000) (he : e.length ≤ 1000) (hf : f.length ≤ 1000) (hg : g.length ≤ 1000) : rline_m [.c (.sl true [[.str a], [.str b], [.str c], [.str d], [.str e], [.str f], [.str g]])] = some [.s (lineF [a, b, c, d, e, f, g])] := rline_at (le7 ha hb hc hd he hf hg) (by simp)

theorem tfmt_at {n : Int} (h : inI n = true) : tfmt_m [.c (.int .i64 n)] = some [.c (.str (Lib.itoa n))] := by rw [tfmt_m, m1_eq]; exact if_pos h
theorem rfmt_at {n : Int} (h : inI n = true) : rfmt_m [.c (.int .i64 n)] = some [.c (.str (Lib.itoa n))] := by rw [rfmt_m, m1_eq]; exact if_pos h

theorem count_ok : PureC Tryd.prog Gt 27 count_m := by
  refine pure_of_awp (X := ctx Tryd.prog Gt [(56, tfmt_m)]) Tryd.func27 rfl rfl (by kernel_rfl) (by kernel_rfl) (AllOk.cons tfmt_ok AllOk.nil).kok ?_
  intro args r h0
  obtain ⟨n, rfl, h⟩ := m1_inv h0
  refine ⟨Nat.le_of_ble_eq_true rfl, ?_⟩
  split at h
  · rename_i hn
    cases h
    have f1 := tfmt_at hn
    have hc := Nat.zero_add 0
    repeat' (first | (simp only [hc, Tryd.f27, SX, f1, AB, PL, RG, LP, TY, Nat.reduceEqDiff, Nat.reduceAdd, Nat.reduceSub, Nat.reduceMul, Nat.reduceLT, Nat.reduceLeDiff, Nat.reduceMod, Nat.reduceDiv, reduceCtorEq, Int.reduceEq, Int.reduceNe, Int.reduceLT, Int.reduceLE, Int.reduceNeg, Int.reduceToNat, Int.reduceAdd, Int.reduceSub, Int.reduceMul, ↓reduceIte, forall_const, eq_self, ne_eq, Option.some.injEq, beq_self_eq_true]) | refine fin_ndec (fun hc => ?_) (fun hc => ?_) | refine fin_dec (fun hc => ?_) (fun hc => ?_) | refine cnd_ndec (fun hc => ?_) (fun hc => ?_) | refine cnd_dec' (fun hc => ?_) (fun hc => ?_) | refine fin_nsplit (fun hc => ?_) (fun hc => ?_) | refine fin_split (fun hc => ?_) (fun hc => ?_) | refine cnd_nsplit (fun hc => ?_) (fun hc => ?_) | refine cnd_split (fun hc => ?_) (fun hc => ?_) | refine blk_exit_id ?_)
    all_goals simp
  · cases h

theorem two_ok : PureC Tryd.prog Gt 64 two_m := by
  refine pure_of_awp (X := ctx Tryd.prog Gt [(56, tfmt_m)]) Tryd.func64 rfl rfl (by kernel_rfl) (by kernel_rfl) (AllOk.cons tfmt_ok AllOk.nil).kok ?_
  intro args r h0
  obtain ⟨n, rfl, h⟩ := m1_inv h0
  refine ⟨Nat.le_of_ble_eq_true rfl, ?_⟩
  split at h
  · rename_i hn
    cases h
    have f1 := tfmt_at hn
    have hl := itoa_le hn
    have hs : twoF n = if (Lib.itoa n).length < 2 then 48 :: Lib.itoa n else Lib.itoa n := rfl
    generalize Lib.itoa n = q at *
    have k1 : (1 + q.length ≤ 4611686018427387904) = True := eq_true (by omega)
    by_cases h2 : (q.length : Int) < 2
    · rw [if_pos (by omega)] at hs
      have hc := Nat.zero_add 0
      repeat' (first | (simp only [hc, Tryd.f64, SX, f1, k1, h2, AB, PL, RG, LP, TY, Nat.reduceEqDiff, Nat.reduceAdd, Nat.reduceSub, Nat.reduceMul, Nat.reduceLT, Nat.reduceLeDiff, Nat.reduceMod, Nat.reduceDiv, reduceCtorEq, Int.reduceEq, Int.reduceNe, Int.reduceLT, Int.reduceLE, Int.reduceNeg, Int.reduceToNat, Int.reduceAdd, Int.reduceSub, Int.reduceMul, ↓reduceIte, forall_const, eq_self, ne_eq, Option.some.injEq, beq_self_eq_true]) | refine fin_ndec (fun hc => ?_) (fun hc => ?_) | refine fin_dec (fun hc => ?_) (fun hc => ?_) | refine cnd_ndec (fun hc => ?_) (fun hc => ?_) | refine cnd_dec' (fun hc => ?_) (fun hc => ?_) | refine fin_nsplit (fun hc => ?_) (fun hc => ?_) | refine fin_split (fun hc => ?_) (fun hc => ?_) | refine cnd_nsplit (fun hc => ?_) (fun hc => ?_) | refine cnd_split (fun hc => ?_) (fun hc => ?_) | refine blk_exit_id ?_)
      all_goals simp [hs]
    · rw [if_neg (by omega)] at hs
      have hc := Nat.zero_add 0
      repeat' (first | (simp only [hc, Tryd.f64, SX, f1, k1, h2, AB, PL, RG, LP, TY, Nat.reduceEqDiff, Nat.reduceAdd, Nat.reduceSub, Nat.reduceMul, Nat.reduceLT, Nat.reduceLeDiff, Nat.reduceMod, Nat.reduceDiv, reduceCtorEq, Int.reduceEq, Int.reduceNe, Int.reduceLT, Int.reduceLE, Int.reduceNeg, Int.reduceToNat, Int.reduceAdd, Int.reduceSub, Int.reduceMul, ↓reduceIte, forall_const, eq_self, ne_eq, Option.some.injEq, beq_self_eq_true]) | refine fin_ndec (fun hc => ?_) (fun hc => ?_) | refine fin_dec (fun hc => ?_) (fun hc => ?_) | refine cnd_ndec (fun hc => ?_) (fun hc => ?_) | refine cnd_dec' (fun hc => ?_) (fun hc => ?_) | refine fin_nsplit (fun hc => ?_) (fun hc => ?_) | refine fin_split (fun hc => ?_) (fun hc => ?_) | refine cnd_nsplit (fun hc => ?_) (fun hc => ?_) | refine cnd_split (fun hc => ?_) (fun hc => ?_) | refine blk_exit_id ?_)
      all_goals simp [hs]
  · cases h

theorem rtwo_ok : PureC Tryd.prog Gt 67 rtwo_m := by
  refine pure_of_awp (X := ctx Tryd.prog Gt [(31, rfmt_m)]) Tryd.func67 rfl rfl (by kernel_rfl) (by kernel_rfl) (AllOk.cons rfmt_ok AllOk.nil).kok ?_
  intro args r h0
  obtain ⟨n, rfl, h⟩ := m1_inv h0
  refine ⟨Nat.le_of_ble_eq_true rfl, ?_⟩
  split at h
  · rename_i hn
    have hn := of_decide_eq_true hn
    have hi : inI n = true := inI_iff.2 (by omega)
    cases h
    have f1 := rfmt_at hi
    have hl := itoa_le hi
    have hsh := itoa_short hn.1
    have hs : twoF n = if (Lib.itoa n).length < 2 then 48 :: Lib.itoa n else Lib.itoa n := rfl
    generalize Lib.itoa n = q at *
    have k1 : (1 + q.length ≤ 4611686018427387904) = True := eq_true (by omega)
    by_cases h2 : n < 10
    · rw [if_pos (by omega)] at hs
      have hc := Nat.zero_add 0
      repeat' (first | (simp only [hc, Tryd.f67, SX, f1, k1, h2, AB, PL, RG, LP, TY, Nat.reduceEqDiff, Nat.reduceAdd, Nat.reduceSub, Nat.reduceMul, Nat.reduceLT, Nat.reduceLeDiff, Nat.reduceMod, Nat.reduceDiv, reduceCtorEq, Int.reduceEq, Int.reduceNe, Int.reduceLT, Int.reduceLE, Int.reduceNeg, Int.reduceToNat, Int.reduceAdd, Int.reduceSub, Int.reduceMul, ↓reduceIte, forall_const, eq_self, ne_eq, Option.some.injEq, beq_self_eq_true]) | refine fin_ndec (fun hc => ?_) (fun hc => ?_) | refine fin_dec (fun hc => ?_) (fun hc => ?_) | refine cnd_ndec (fun hc => ?_) (fun hc => ?_) | refine cnd_dec' (fun hc => ?_) (fun hc => ?_) | refine fin_nsplit (fun hc => ?_) (fun hc => ?_) | refine fin_split (fun hc => ?_) (fun hc => ?_) | refine cnd_nsplit (fun hc => ?_) (fun hc => ?_) | refine cnd_split (fun hc => ?_) (fun hc => ?_) | refine blk_exit_id ?_)
      all_goals simp [hs]
    · rw [if_neg (by omega)] at hs
      have hc := Nat.zero_add 0
      repeat' (first | (simp only [hc, Tryd.f67, SX, f1, k1, h2, AB, PL, RG, LP, TY, Nat.reduceEqDiff, Nat.reduceAdd, Nat.reduceSub, Nat.reduceMul, Nat.reduceLT, Nat.reduceLeDiff, Nat.reduceMod, Nat.reduceDiv, reduceCtorEq, Int.reduceEq, Int.reduceNe, Int.reduceLT, Int.reduceLE, Int.reduceNeg, Int.reduceToNat, Int.reduceAdd, Int.reduceSub, Int.reduceMul, ↓reduceIte, forall_const, eq_self, ne_eq, Option.some.injEq, beq_self_eq_true]) | refine fin_ndec (fun hc => ?_) (fun hc => ?_) | refine fin_dec (fun hc => ?_) (fun hc => ?_) | refine cnd_ndec (fun hc => ?_) (fun hc => ?_) | refine cnd_dec' (fun hc => ?_) (fun hc => ?_) | refine fin_nsplit (fun hc => ?_) (fun hc => ?_) | refine fin_split (fun hc => ?_) (fun hc => ?_) | refine cnd_nsplit (fun hc => ?_) (fun hc => ?_) | refine cnd_split (fun hc => ?_) (fun hc => ?_) | refine blk_exit_id ?_)
      all_goals simp [hs]
  · cases h

theorem two_at {n : Int} (h : inI n = true) : two_m [.c (.int .i64 n)] = some [.s (twoF n)] := by rw [two_m, m1_eq, if_pos h]
theorem rtwo_at {n : Int} (h : 0 ≤ n ∧ n ≤ 99) : rtwo_m [.c (.int .i64 n)] = some [.s (twoF n)] := by rw [rtwo_m, m1_eq, if_pos (decide_eq_true h)]

theorem tdate_ok : PureC Tryd.prog Gt 33 tdate_m := by
  refine pure_of_awp (X := ctx Tryd.prog Gt [(63, cdate_m), (56, tfmt_m), (64, two_m)]) Tryd.func33 rfl rfl (by kernel_rfl) (by kernel_rfl) (AllOk.cons cdate_ok (AllOk.cons tfmt_ok (AllOk.cons two_ok AllOk.nil))).kok ?_
  intro args r h0
  obtain ⟨d, rfl, h⟩ := m1_inv h0
  refine ⟨Nat.le_of_ble_eq_true rfl, ?_⟩
  cases h
  by_cases hD : isD d = true
  · obtain ⟨y, m, q, e, hs, b1, b2, b3, b4, b5, b6⟩ := date_vals hD
    have hd := isD_iff.1 hD
    have f1 : cdate_m [.c (.int .i64 d)] = some [.i y, .i m, .i q] := by rw [cdate_m, m1_eq, if_pos hD, date_eq hD, e]
    have f2 := tfmt_at (n := y) (inI_iff.2 (by omega))
    have f3 := two_at (n := m) (inI_iff.2 (by omega))
    have f4 := two_at (n := q) (inI_iff.2 (by omega))
    have l2 := itoa_le (n := y) (inI_iff.2 (by omega))
    have l3 := two_le (n := m) (inI_iff.2 (by omega))
    have l4 := two_le (n := q) (inI_iff.2 (by omega))
    have h1 : (d < 0) = False := eq_false (by omega)
    have h2 : (795364 ≤ d) = False := eq_false (by omega)
    generalize Lib.itoa y = s1 at *
    generalize twoF m = s2 at *
    generalize twoF q = s3 at *
    have k1 : (s1.length + 1 ≤ 4611686018427387904) = True := eq_true (by omega)
    have m1 : (s1 ++ [45]).length = s1.length + 1 := by simp
    have k2 : (s1.length + 1 + s2.length ≤ 4611686018427387904) = True := eq_true (by omega)
    have m2 : (s1 ++ [45] ++ s2).length = s1.length + 1 + s2.length := by simp; omega
    have k3 : (s1.length + 1 + s2.length + 1 ≤ 4611686018427387904) = True := eq_true (by omega)
    have m3 : (s1 ++ [45] ++ s2 ++ [45]).length = s1.length + 1 + s2.length + 1 := by simp; omega
    have k4 : (s1.length + 1 + s2.length + 1 + s3.length ≤ 4611686018427387904) = True := eq_true (by omega)
    have hc := Nat.zero_add 0
    repeat' (first | (simp only [hc, Tryd.f33, SX, h1, h2, f1, f2, f3, f4, k1, m1, k2, m2, k3, m3, k4, AB, PL, RG, LP, TY, Nat.reduceEqDiff, Nat.reduceAdd, Nat.reduceSub, Nat.reduceMul, Nat.reduceLT, Nat.reduceLeDiff, Nat.reduceMod, Nat.reduceDiv, reduceCtorEq, Int.reduceEq, Int.reduceNe, Int.reduceLT, Int.reduceLE, Int.reduceNeg, Int.reduceToNat, Int.reduceAdd, Int.reduceSub, Int.reduceMul, ↓reduceIte, forall_const, eq_self, ne_eq, Option.some.injEq, beq_self_eq_true]) | refine fin_ndec (fun hc => ?_) (fun hc => ?_) | refine fin_dec (fun hc => ?_) (fun hc => ?_) | refine cnd_ndec (fun hc => ?_) (fun hc => ?_) | refine cnd_dec' (fun hc => ?_) (fun hc => ?_) | refine fin_nsplit (fun hc => ?_) (fun hc => ?_) | refine fin_split (fun hc => ?_) (fun hc => ?_) | refine cnd_nsplit (fun hc => ?_) (fun hc => ?_) | refine cnd_split (fun hc => ?_) (fun hc => ?_) | refine blk_exit_id ?_)
    all_goals simp [hs]
  · have hs : dateF d = [45] := by unfold dateF; rw [if_neg hD]
    have hd : d < 0 ∨ 795364 ≤ d := by
      have : ¬ (0 ≤ d ∧ d < 795364) := fun h => hD (isD_iff.2 h)
      omega
    by_cases h1 : d < 0
    · skip
      have hc := Nat.zero_add 0
      repeat' (first | (simp only [hc, Tryd.f33, SX, h1, AB, PL, RG, LP, TY, Nat.reduceEqDiff, Nat.reduceAdd, Nat.reduceSub, Nat.reduceMul, Nat.reduceLT, Nat.reduceLeDiff, Nat.reduceMod, Nat.reduceDiv, reduceCtorEq, Int.reduceEq, Int.reduceNe, Int.reduceLT, Int.reduceLE, Int.reduceNeg, Int.reduceToNat, Int.reduceAdd, Int.reduceSub, Int.reduceMul, ↓reduceIte, forall_const, eq_self, ne_eq, Option.some.injEq, beq_self_eq_true]) | refine fin_ndec (fun hc => ?_) (fun hc => ?_) | refine fin_dec (fun hc => ?_) (fun hc => ?_) | refine cnd_ndec (fun hc => ?_) (fun hc => ?_) | refine cnd_dec' (fun hc => ?_) (fun hc => ?_) | refine fin_nsplit (fun hc => ?_) (fun hc => ?_) | refine fin_split (fun hc => ?_) (fun hc => ?_) | refine cnd_nsplit (fun hc => ?_) (fun hc => ?_) | refine cnd_split (fun hc => ?_) (fun hc => ?_) | refine blk_exit_id ?_)
      all_goals simp [hs]
    · have h2 : (795364 ≤ d) = True := eq_true (by omega)
      have hc := Nat.zero_add 0
      repeat' (first | (simp only [hc, Tryd.f33, SX, h1, h2, AB, PL, RG, LP, TY, Nat.reduceEqDiff, Nat.reduceAdd, Nat.reduceSub, Nat.reduceMul, Nat.reduceLT, Nat.reduceLeDiff, Nat.reduceMod, Nat.reduceDiv, reduceCtorEq, Int.reduceEq, Int.reduceNe, Int.reduceLT, Int.reduceLE, Int.reduceNeg, Int.reduceToNat, Int.reduceAdd, Int.reduceSub, Int.reduceMul, ↓reduceIte, forall_const, eq_self, ne_eq, Option.some.injEq, beq_self_eq_true]) | refine fin_ndec (fun hc => ?_) (fun hc => ?_) | refine fin_dec (fun hc => ?_) (fun hc => ?_) | refine cnd_ndec (fun hc => ?_) (fun hc => ?_) | refine cnd_dec' (fun hc => ?_) (fun hc => ?_) | refine fin_nsplit (fun hc => ?_) (fun hc => ?_) | refine fin_split (fun hc => ?_) (fun hc => ?_) | refine cnd_nsplit (fun hc => ?_) (fun hc => ?_) | refine cnd_split (fun hc => ?_) (fun hc => ?_) | refine blk_exit_id ?_)
      all_goals simp [hs]

theorem rtdate_ok : PureC Tryd.prog Gt 37 rtdate_m := by
  refine pure_of_awp (X := ctx Tryd.prog Gt [(36, risDay_m), (66, rdate_m), (31, rfmt_m), (67, rtwo_m)]) Tryd.func37 rfl rfl (by kernel_rfl) (by kernel_rfl) (AllOk.cons risDay_ok (AllOk.cons rdate_ok (AllOk.cons rfmt_ok (AllOk.cons rtwo_ok AllOk.nil)))).kok ?_
  intro args r h0
  obtain ⟨d, rfl, h⟩ := m1_inv h0
  refine ⟨Nat.le_of_ble_eq_true rfl, ?_⟩
  cases h
  by_cases hD : isD d = true
  · obtain ⟨y, m, q, e, hs, b1, b2, b3, b4, b5, b6⟩ := date_vals hD
    have f1 : rdate_m [.c (.int .i64 d)] = some [.i y, .i m, .i q] := by rw [rdate_m, m1_eq, if_pos hD, e]
    have f2 := rfmt_at (n := y) (inI_iff.2 (by omega))
    have f3 := rtwo_at (n := m) (by omega)
    have f4 := rtwo_at (n := q) (by omega)
    have l2 := itoa_le (n := y) (inI_iff.2 (by omega))
    have l3 := two_le (n := m) (inI_iff.2 (by omega))
    have l4 := two_le (n := q) (inI_iff.2 (by omega))
    generalize Lib.itoa y = s1 at *
    generalize twoF m = s2 at *
    generalize twoF q = s3 at *
    have k1 : (s1.length + 1 ≤ 4611686018427387904) = True := eq_true (by omega)
    have m1 : (s1 ++ [45]).length = s1.length + 1 := by simp
    have k2 : (s1.length + 1 + s2.length ≤ 4611686018427387904) = True := eq_true (by omega)
    have m2 : (s1 ++ [45] ++ s2).length = s1.length + 1 + s2.length := by simp; omega
    have k3 : (s1.length + 1 + s2.length + 1 ≤ 4611686018427387904) = True := eq_true (by omega)
    have m3 : (s1 ++ [45] ++ s2 ++ [45]).length = s1.length + 1 + s2.length + 1 := by simp; omega
    have k4 : (s1.length + 1 + s2.length + 1 + s3.length ≤ 4611686018427387904) = True := eq_true (by omega)
    have hc := Nat.zero_add 0
    repeat' (first | (simp only [hc, Tryd.f37, SX, risDay_m, mEq, hD, f1, f2, f3, f4, k1, m1, k2, m2, k3, m3, k4, AB, PL, RG, LP, TY, Nat.reduceEqDiff, Nat.reduceAdd, Nat.reduceSub, Nat.reduceMul, Nat.reduceLT, Nat.reduceLeDiff, Nat.reduceMod, Nat.reduceDiv, reduceCtorEq, Int.reduceEq, Int.reduceNe, Int.reduceLT, Int.reduceLE, Int.reduceNeg, Int.reduceToNat, Int.reduceAdd, Int.reduceSub, Int.reduceMul, ↓reduceIte, forall_const, eq_self, ne_eq, Option.some.injEq, beq_self_eq_true]) | refine fin_ndec (fun hc => ?_) (fun hc => ?_) | refine fin_dec (fun hc => ?_) (fun hc => ?_) | refine cnd_ndec (fun hc => ?_) (fun hc => ?_) | refine cnd_dec' (fun hc => ?_) (fun hc => ?_) | refine fin_nsplit (fun hc => ?_) (fun hc => ?_) | refine fin_split (fun hc => ?_) (fun hc => ?_) | refine cnd_nsplit (fun hc => ?_) (fun hc => ?_) | refine cnd_split (fun hc => ?_) (fun hc => ?_) | refine blk_exit_id ?_)
    all_goals simp [hs]
  · have hs : dateF d = [45] := by unfold dateF; rw [if_neg hD]
    have hc := Nat.zero_add 0
    repeat' (first | (simp only [hc, Tryd.f37, SX, risDay_m, mEq, hD, AB, PL, RG, LP, TY, Nat.reduceEqDiff, Nat.reduceAdd, Nat.reduceSub, Nat.reduceMul, Nat.reduceLT, Nat.reduceLeDiff, Nat.reduceMod, Nat.reduceDiv, reduceCtorEq, Int.reduceEq, Int.reduceNe, Int.reduceLT, Int.reduceLE, Int.reduceNeg, Int.reduceToNat, Int.reduceAdd, Int.reduceSub, Int.reduceMul, ↓reduceIte, forall_const, eq_self, ne_eq, Option.some.injEq, beq_self_eq_true]) | refine fin_ndec (fun hc => ?_) (fun hc => ?_) | refine fin_dec (fun hc => ?_) (fun hc => ?_) | refine cnd_ndec (fun hc => ?_) (fun hc => ?_) | refine cnd_dec' (fun hc => ?_) (fun hc => ?_) | refine fin_nsplit (fun hc => ?_) (fun hc => ?_) | refine fin_split (fun hc => ?_) (fun hc => ?_) | refine cnd_nsplit (fun hc => ?_) (fun hc => ?_) | refine cnd_split (fun hc => ?_) (fun hc => ?_) | refine blk_exit_id ?_)
    all_goals simp [hs]

theorem tdate_at {n : Int} : tdate_m [.c (.int .i64 n)] = some [.s (dateF n)] := rfl
theorem rtdate_at {n : Int} : rtdate_m [.c (.int .i64 n)] = some [.s (dateF n)] := rfl

theorem rcount_ok : PureC Tryd.prog Gt 52 rcount_m := by
  refine pure_of_awp (X := ctx Tryd.prog Gt [(31, rfmt_m), (29, rline_m)]) Tryd.func52 rfl rfl (by kernel_rfl) (by kernel_rfl) (AllOk.cons rfmt_ok (AllOk.cons rline_ok AllOk.nil)).kok ?_
  intro args r h0
  obtain ⟨⟨w, n⟩, rfl, h⟩ := mE_inv h0
  refine ⟨Nat.le_of_ble_eq_true rfl, ?_⟩
  split at h
  · rename_i hn
    obtain ⟨hn1, hn2⟩ := hn
    have hn1 := of_decide_eq_true hn1
    dsimp only at hn1 hn2 h ⊢
    cases h
    have f1 := rfmt_at hn2
    have f2 := rln2 hn1 (b := Lib.itoa n) (by have := itoa_le hn2; omega)
    have hc := Nat.zero_add 0
    repeat' (first | (simp only [hc, Tryd.f52, SX, f1, f2, AB, PL, RG, LP, TY, Nat.reduceEqDiff, Nat.reduceAdd, Nat.reduceSub, Nat.reduceMul, Nat.reduceLT, Nat.reduceLeDiff, Nat.reduceMod, Nat.reduceDiv, reduceCtorEq, Int.reduceEq, Int.reduceNe, Int.reduceLT, Int.reduceLE, Int.reduceNeg, Int.reduceToNat, Int.reduceAdd, Int.reduceSub, Int.reduceMul, ↓reduceIte, forall_const, eq_self, ne_eq, Option.some.injEq, beq_self_eq_true]) | refine fin_ndec (fun hc => ?_) (fun hc => ?_) | refine fin_dec (fun hc => ?_) (fun hc => ?_) | refine cnd_ndec (fun hc => ?_) (fun hc => ?_) | refine cnd_dec' (fun hc => ?_) (fun hc => ?_) | refine fin_nsplit (fun hc => ?_) (fun hc => ?_) | refine fin_split (fun hc => ?_) (fun hc => ?_) | refine cnd_nsplit (fun hc => ?_) (fun hc => ?_) | refine cnd_split (fun hc => ?_) (fun hc => ?_) | refine blk_exit_id ?_)
    all_goals simp
  · cases h

theorem word_ok : PureC Tryd.prog Gt 44 word_m := by
  refine pure_of_awp (X := ctx Tryd.prog Gt []) Tryd.func44 rfl rfl (by kernel_rfl) (by kernel_rfl) AllOk.nil.kok ?_
  intro args r h0
  obtain ⟨⟨n, f, l⟩, rfl, h⟩ := mE_inv h0
  refine ⟨Nat.le_of_ble_eq_true rfl, ?_⟩
  split at h
  · rename_i hl
    have hl := of_decide_eq_true hl
    dsimp only at hl h ⊢
    cases h
    have l1 : ((l.map rowS).length : Int) = l.length := by simp
    by_cases h1 : n < 1
    · have hs : wordF n l = [45] := by unfold wordF; rw [if_pos (.inl h1)]
      have hc := Nat.zero_add 0
      repeat' (first | (simp only [hc, Tryd.f44, encWd, SX, h1, AB, PL, RG, LP, TY, Nat.reduceEqDiff, Nat.reduceAdd, Nat.reduceSub, Nat.reduceMul, Nat.reduceLT, Nat.reduceLeDiff, Nat.reduceMod, Nat.reduceDiv, reduceCtorEq, Int.reduceEq, Int.reduceNe, Int.reduceLT, Int.reduceLE, Int.reduceNeg, Int.reduceToNat, Int.reduceAdd, Int.reduceSub, Int.reduceMul, ↓reduceIte, forall_const, eq_self, ne_eq, Option.some.injEq, beq_self_eq_true]) | refine fin_ndec (fun hc => ?_) (fun hc => ?_) | refine fin_dec (fun hc => ?_) (fun hc => ?_) | refine cnd_ndec (fun hc => ?_) (fun hc => ?_) | refine cnd_dec' (fun hc => ?_) (fun hc => ?_) | refine fin_nsplit (fun hc => ?_) (fun hc => ?_) | refine fin_split (fun hc => ?_) (fun hc => ?_) | refine cnd_nsplit (fun hc => ?_) (fun hc => ?_) | refine cnd_split (fun hc => ?_) (fun hc => ?_) | refine blk_exit_id ?_)
      all_goals simp [hs]
    by_cases h2 : (l.length : Int) < n
    · have hs : wordF n l = [45] := by unfold wordF; rw [if_pos (.inr h2)]
      have hc := Nat.zero_add 0
      repeat' (first | (simp only [hc, Tryd.f44, encWd, SX, l1, h1, h2, AB, PL, RG, LP, TY, Nat.reduceEqDiff, Nat.reduceAdd, Nat.reduceSub, Nat.reduceMul, Nat.reduceLT, Nat.reduceLeDiff, Nat.reduceMod, Nat.reduceDiv, reduceCtorEq, Int.reduceEq, Int.reduceNe, Int.reduceLT, Int.reduceLE, Int.reduceNeg, Int.reduceToNat, Int.reduceAdd, Int.reduceSub, Int.reduceMul, ↓reduceIte, forall_const, eq_self, ne_eq, Option.some.injEq, beq_self_eq_true]) | refine fin_ndec (fun hc => ?_) (fun hc => ?_) | refine fin_dec (fun hc => ?_) (fun hc => ?_) | refine cnd_ndec (fun hc => ?_) (fun hc => ?_) | refine cnd_dec' (fun hc => ?_) (fun hc => ?_) | refine fin_nsplit (fun hc => ?_) (fun hc => ?_) | refine fin_split (fun hc => ?_) (fun hc => ?_) | refine cnd_nsplit (fun hc => ?_) (fun hc => ?_) | refine cnd_split (fun hc => ?_) (fun hc => ?_) | refine blk_exit_id ?_)
      all_goals simp [hs]
    obtain ⟨k, rfl⟩ : ∃ k : Nat, n = (k : Int) + 1 := ⟨n.toNat - 1, by omega⟩
    have hs : wordF ((k : Int) + 1) l = l.getD k [] := by unfold wordF; rw [if_neg (by omega)]; congr 1
    have hk : k < l.length := by omega
    have e1 : (l.map rowS)[k]? = some [.str (l.getD k [])] := by simp [hk, rowS, List.getD_eq_getElem?_getD]
    have w1 : IntKind.i64.wrap ((k : Int) + 1 - 1) = k := by rw [wI (by omega) (by omega)]; omega
    have hc := Nat.zero_add 0
    repeat' (first | (simp only [hc, Tryd.f44, encWd, SX, l1, h1, h2, w1, nn, e1, AB, PL, RG, LP, TY, Nat.reduceEqDiff, Nat.reduceAdd, Nat.reduceSub, Nat.reduceMul, Nat.reduceLT, Nat.reduceLeDiff, Nat.reduceMod, Nat.reduceDiv, reduceCtorEq, Int.reduceEq, Int.reduceNe, Int.reduceLT, Int.reduceLE, Int.reduceNeg, Int.reduceToNat, Int.reduceAdd, Int.reduceSub, Int.reduceMul, ↓reduceIte, forall_const, eq_self, ne_eq, Option.some.injEq, beq_self_eq_true]) | refine fin_ndec (fun hc => ?_) (fun hc => ?_) | refine fin_dec (fun hc => ?_) (fun hc => ?_) | refine cnd_ndec (fun hc => ?_) (fun hc => ?_) | refine cnd_dec' (fun hc => ?_) (fun hc => ?_) | refine fin_nsplit (fun hc => ?_) (fun hc => ?_) | refine fin_split (fun hc => ?_) (fun hc => ?_) | refine cnd_nsplit (fun hc => ?_) (fun hc => ?_) | refine cnd_split (fun hc => ?_) (fun hc => ?_) | refine blk_exit_id ?_)
    all_goals simp [hs]
  · cases h

theorem rword_ok : PureC Tryd.prog Gt 46 rword_m := by
  refine pure_of_awp (X := ctx Tryd.prog Gt []) Tryd.func46 rfl rfl (by kernel_rfl) (by kernel_rfl) AllOk.nil.kok ?_
  intro args r h0
  obtain ⟨⟨n, f, l⟩, rfl, h⟩ := mE_inv h0
  refine ⟨Nat.le_of_ble_eq_true rfl, ?_⟩
  split at h
  · rename_i hl
    have hl := of_decide_eq_true hl
    dsimp only at hl h ⊢
    cases h
    have l1 : ((l.map rowS).length : Int) = l.length := by simp
    by_cases h1 : n < 1
    · have hs : wordF n l = [45] := by unfold wordF; rw [if_pos (.inl h1)]
      have hc := Nat.zero_add 0
      repeat' (first | (simp only [hc, Tryd.f46, encDw, SX, h1, AB, PL, RG, LP, TY, Nat.reduceEqDiff, Nat.reduceAdd, Nat.reduceSub, Nat.reduceMul, Nat.reduceLT, Nat.reduceLeDiff, Nat.reduceMod, Nat.reduceDiv, reduceCtorEq, Int.reduceEq, Int.reduceNe, Int.reduceLT, Int.reduceLE, Int.reduceNeg, Int.reduceToNat, Int.reduceAdd, Int.reduceSub, Int.reduceMul, ↓reduceIte, forall_const, eq_self, ne_eq, Option.some.injEq, beq_self_eq_true]) | refine fin_ndec (fun hc => ?_) (fun hc => ?_) | refine fin_dec (fun hc => ?_) (fun hc => ?_) | refine cnd_ndec (fun hc => ?_) (fun hc => ?_) | refine cnd_dec' (fun hc => ?_) (fun hc => ?_) | refine fin_nsplit (fun hc => ?_) (fun hc => ?_) | refine fin_split (fun hc => ?_) (fun hc => ?_) | refine cnd_nsplit (fun hc => ?_) (fun hc => ?_) | refine cnd_split (fun hc => ?_) (fun hc => ?_) | refine blk_exit_id ?_)
      all_goals simp [hs]
    by_cases h2 : (l.length : Int) < n
    · have hs : wordF n l = [45] := by unfold wordF; rw [if_pos (.inr h2)]
      have hc := Nat.zero_add 0
      repeat' (first | (simp only [hc, Tryd.f46, encDw, SX, l1, h1, h2, AB, PL, RG, LP, TY, Nat.reduceEqDiff, Nat.reduceAdd, Nat.reduceSub, Nat.reduceMul, Nat.reduceLT, Nat.reduceLeDiff, Nat.reduceMod, Nat.reduceDiv, reduceCtorEq, Int.reduceEq, Int.reduceNe, Int.reduceLT, Int.reduceLE, Int.reduceNeg, Int.reduceToNat, Int.reduceAdd, Int.reduceSub, Int.reduceMul, ↓reduceIte, forall_const, eq_self, ne_eq, Option.some.injEq, beq_self_eq_true]) | refine fin_ndec (fun hc => ?_) (fun hc => ?_) | refine fin_dec (fun hc => ?_) (fun hc => ?_) | refine cnd_ndec (fun hc => ?_) (fun hc => ?_) | refine cnd_dec' (fun hc => ?_) (fun hc => ?_) | refine fin_nsplit (fun hc => ?_) (fun hc => ?_) | refine fin_split (fun hc => ?_) (fun hc => ?_) | refine cnd_nsplit (fun hc => ?_) (fun hc => ?_) | refine cnd_split (fun hc => ?_) (fun hc => ?_) | refine blk_exit_id ?_)
      all_goals simp [hs]
    obtain ⟨k, rfl⟩ : ∃ k : Nat, n = (k : Int) + 1 := ⟨n.toNat - 1, by omega⟩
    have hs : wordF ((k : Int) + 1) l = l.getD k [] := by unfold wordF; rw [if_neg (by omega)]; congr 1
    have hk : k < l.length := by omega
    have e1 : (l.map rowS)[k]? = some [.str (l.getD k [])] := by simp [hk, rowS, List.getD_eq_getElem?_getD]
    have w1 : IntKind.i64.wrap ((k : Int) + 1 - 1) = k := by rw [wI (by omega) (by omega)]; omega
    have hc := Nat.zero_add 0
    repeat' (first | (simp only [hc, Tryd.f46, encDw, SX, l1, h1, h2, w1, nn, e1, AB, PL, RG, LP, TY, Nat.reduceEqDiff, Nat.reduceAdd, Nat.reduceSub, Nat.reduceMul, Nat.reduceLT, Nat.reduceLeDiff, Nat.reduceMod, Nat.reduceDiv, reduceCtorEq, Int.reduceEq, Int.reduceNe, Int.reduceLT, Int.reduceLE, Int.reduceNeg, Int.reduceToNat, Int.reduceAdd, Int.reduceSub, Int.reduceMul, ↓reduceIte, forall_const, eq_self, ne_eq, Option.some.injEq, beq_self_eq_true]) | refine fin_ndec (fun hc => ?_) (fun hc => ?_) | refine fin_dec (fun hc => ?_) (fun hc => ?_) | refine cnd_ndec (fun hc => ?_) (fun hc => ?_) | refine cnd_dec' (fun hc => ?_) (fun hc => ?_) | refine fin_nsplit (fun hc => ?_) (fun hc => ?_) | refine fin_split (fun hc => ?_) (fun hc => ?_) | refine cnd_nsplit (fun hc => ?_) (fun hc => ?_) | refine cnd_split (fun hc => ?_) (fun hc => ?_) | refine blk_exit_id ?_)
    all_goals simp [hs]
  · cases h

theorem kind_ok : PureC Tryd.prog Gt 42 kind_m := by
  refine pure_of_awp (X := ctx Tryd.prog Gt []) Tryd.func42 rfl rfl (by kernel_rfl) (by kernel_rfl) AllOk.nil.kok ?_
  intro args r h0
  obtain ⟨a, rfl, h⟩ := mE_inv h0
  refine ⟨Nat.le_of_ble_eq_true rfl, ?_⟩
  cases h
  have hs : kindF a = if a.exempt = true then [101, 120, 101, 109, 112, 116] else if a.prepay = true then [112, 114, 101, 112, 97, 121] else [112, 111, 115, 116, 112, 97, 121] := rfl
  generalize he : a.exempt = e at *
  generalize hp : a.prepay = p at *
  cases e <;> cases p
  all_goals
    have hc := Nat.zero_add 0
    repeat' (first | (simp only [hc, Tryd.f42, encAcc, Acc.row, SX, he, hp, AB, PL, RG, LP, TY, Nat.reduceEqDiff, Nat.reduceAdd, Nat.reduceSub, Nat.reduceMul, Nat.reduceLT, Nat.reduceLeDiff, Nat.reduceMod, Nat.reduceDiv, reduceCtorEq, Int.reduceEq, Int.reduceNe, Int.reduceLT, Int.reduceLE, Int.reduceNeg, Int.reduceToNat, Int.reduceAdd, Int.reduceSub, Int.reduceMul, ↓reduceIte, forall_const, eq_self, ne_eq, Option.some.injEq, beq_self_eq_true]) | refine fin_ndec (fun hc => ?_) (fun hc => ?_) | refine fin_dec (fun hc => ?_) (fun hc => ?_) | refine cnd_ndec (fun hc => ?_) (fun hc => ?_) | refine cnd_dec' (fun hc => ?_) (fun hc => ?_) | refine fin_nsplit (fun hc => ?_) (fun hc => ?_) | refine fin_split (fun hc => ?_) (fun hc => ?_) | refine cnd_nsplit (fun hc => ?_) (fun hc => ?_) | refine cnd_split (fun hc => ?_) (fun hc => ?_) | refine blk_exit_id ?_)
  all_goals simp [hs]

end
end Go.Ab
