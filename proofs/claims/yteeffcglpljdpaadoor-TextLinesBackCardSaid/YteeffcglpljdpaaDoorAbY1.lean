/-
  What the functions of the texts compute: bytes, escapes.
-/
import Derived.Test.YteeffcglpljdpaaDoorAbS2
import Derived.Test.YteeffcglpljdpaaDoorAbS3
set_option linter.unusedSimpArgs false
set_option linter.unusedVariables false
namespace Go.Ab
open Go.RowKit Go.Proofs

theorem us {tab : Tab} : (ctx Tryd.prog Gt tab).P.underlying 9 = some .string := Tryd.underlying9
theorem u5 {tab : Tab} : (ctx Tryd.prog Gt tab).P.underlying 5 = some (.int .u8) := Tryd.underlying5
theorem sidx {tab : Tab} {s : List UInt8} {i : Int} : (ctx Tryd.prog Gt tab).indexA 9 (.v (.c (.d (.str s)))) i = siI i s[i.toNat]? := si_eq us
theorem scut {tab : Tab} {s : List UInt8} {lo hi : Option Int} : (ctx Tryd.prog Gt tab).sliceA 9 (.v (.c (.d (.str s)))) lo hi none = slS s (lo.getD 0) (hi.getD s.length) := ss_eq us
theorem su8 {tab : Tab} : (ctx Tryd.prog Gt tab).isU8 5 = true := u8_of u5
theorem SX : type_of% @sidx ∧ type_of% @scut ∧ type_of% @su8 ∧ type_of% ST := ⟨@sidx, @scut, @su8, ST⟩

def plainI (n : Int) : Bool := decide (33 ≤ n) && decide (n ≤ 126) && !decide (n = 37)
theorem plainI_eq (c : UInt8) : plainI (c.toNat : Int) = plainB c := by
  unfold plainI plainB
  have e1 : decide ((33 : Int) ≤ (c.toNat : Int)) = decide (33 ≤ c.toNat) := decide_eq_decide.2 (by omega)
  have e2 : decide ((c.toNat : Int) ≤ 126) = decide (c.toNat ≤ 126) := decide_eq_decide.2 (by omega)
  have e3 : decide ((c.toNat : Int) = 37) = decide (c.toNat = 37) := decide_eq_decide.2 (by omega)
  rw [e1, e2, e3]

def tplain_m : List PA → Option (List PA) := mb fun n => some [.b (plainI n)]
def rplain_m : List PA → Option (List PA) := mb fun n => some [.b (plainI n)]
def same_m : List PA → Option (List PA) := mll fun l k => if decide (l.length ≤ 1000000000000) = true then some [.b (decide (l = k))] else none

theorem tplain_ok : PureC Tryd.prog Gt 35 tplain_m := by
  refine pure_of_awp (X := ctx Tryd.prog Gt []) Tryd.func35 rfl rfl (by kernel_rfl) (by kernel_rfl) AllOk.nil.kok ?_
  intro args r h0
  obtain ⟨n, rfl, h⟩ := mb_inv h0
  refine ⟨Nat.le_of_ble_eq_true rfl, ?_⟩
  cases h
  have hc := Nat.zero_add 0
  repeat' (first | (simp only [hc, Tryd.f35, AB, PL, RG, LP, TY, Nat.reduceEqDiff, Nat.reduceAdd, Nat.reduceSub, Nat.reduceMul, Nat.reduceLT, Nat.reduceLeDiff, Nat.reduceMod, Nat.reduceDiv, reduceCtorEq, Int.reduceEq, Int.reduceNe, Int.reduceLT, Int.reduceLE, Int.reduceNeg, Int.reduceToNat, Int.reduceAdd, Int.reduceSub, Int.reduceMul, ↓reduceIte, forall_const, eq_self, ne_eq, Option.some.injEq, beq_self_eq_true]) | refine fin_ndec (fun hc => ?_) (fun hc => ?_) | refine fin_dec (fun hc => ?_) (fun hc => ?_) | refine cnd_ndec (fun hc => ?_) (fun hc => ?_) | refine cnd_dec' (fun hc => ?_) (fun hc => ?_) | refine fin_nsplit (fun hc => ?_) (fun hc => ?_) | refine fin_split (fun hc => ?_) (fun hc => ?_) | refine cnd_nsplit (fun hc => ?_) (fun hc => ?_) | refine cnd_split (fun hc => ?_) (fun hc => ?_) | refine blk_exit_id ?_)
  all_goals (simp_all [plainI, DV.b]; try omega)

theorem rplain_ok : PureC Tryd.prog Gt 37 rplain_m := by
  refine pure_of_awp (X := ctx Tryd.prog Gt []) Tryd.func37 rfl rfl (by kernel_rfl) (by kernel_rfl) AllOk.nil.kok ?_
  intro args r h0
  obtain ⟨n, rfl, h⟩ := mb_inv h0
  refine ⟨Nat.le_of_ble_eq_true rfl, ?_⟩
  cases h
  have hc := Nat.zero_add 0
  repeat' (first | (simp only [hc, Tryd.f37, AB, PL, RG, LP, TY, Nat.reduceEqDiff, Nat.reduceAdd, Nat.reduceSub, Nat.reduceMul, Nat.reduceLT, Nat.reduceLeDiff, Nat.reduceMod, Nat.reduceDiv, reduceCtorEq, Int.reduceEq, Int.reduceNe, Int.reduceLT, Int.reduceLE, Int.reduceNeg, Int.reduceToNat, Int.reduceAdd, Int.reduceSub, Int.reduceMul, ↓reduceIte, forall_const, eq_self, ne_eq, Option.some.injEq, beq_self_eq_true]) | refine fin_ndec (fun hc => ?_) (fun hc => ?_) | refine fin_dec (fun hc => ?_) (fun hc => ?_) | refine cnd_ndec (fun hc => ?_) (fun hc => ?_) | refine cnd_dec' (fun hc => ?_) (fun hc => ?_) | refine fin_nsplit (fun hc => ?_) (fun hc => ?_) | refine fin_split (fun hc => ?_) (fun hc => ?_) | refine cnd_nsplit (fun hc => ?_) (fun hc => ?_) | refine cnd_split (fun hc => ?_) (fun hc => ?_) | refine blk_exit_id ?_)
  all_goals (simp_all [plainI, DV.b]; try omega)

theorem same_ok : PureC Tryd.prog Gt 18 same_m := by
  refine pure_of_awp (X := ctx Tryd.prog Gt []) Tryd.func18 rfl rfl (by kernel_rfl) (by kernel_rfl) AllOk.nil.kok ?_
  intro args r h0
  obtain ⟨f, g, l, k, rfl, h⟩ := mll_inv h0
  refine ⟨Nat.le_of_ble_eq_true rfl, ?_⟩
  split at h
  · rename_i hlen
    have hlen := of_decide_eq_true hlen
    cases h
    have h1 : ((l.map rowS).length : Int) = l.length := by simp
    by_cases hlk : l.length = k.length
    · have h2 : ((k.map rowS).length : Int) = l.length := by simp [hlk]
      have hc := Nat.zero_add 0
      repeat' (first | (simp only [hc, Tryd.f18, h1, h2, AB, PL, RG, LP, TY, Nat.reduceEqDiff, Nat.reduceAdd, Nat.reduceSub, Nat.reduceMul, Nat.reduceLT, Nat.reduceLeDiff, Nat.reduceMod, Nat.reduceDiv, reduceCtorEq, Int.reduceEq, Int.reduceNe, Int.reduceLT, Int.reduceLE, Int.reduceNeg, Int.reduceToNat, Int.reduceAdd, Int.reduceSub, Int.reduceMul, ↓reduceIte, forall_const, eq_self, ne_eq, Option.some.injEq, beq_self_eq_true]) | refine fin_ndec (fun hc => ?_) (fun hc => ?_) | refine fin_dec (fun hc => ?_) (fun hc => ?_) | refine cnd_ndec (fun hc => ?_) (fun hc => ?_) | refine cnd_dec' (fun hc => ?_) (fun hc => ?_) | refine fin_nsplit (fun hc => ?_) (fun hc => ?_) | refine fin_split (fun hc => ?_) (fun hc => ?_) | refine cnd_nsplit (fun hc => ?_) (fun hc => ?_) | refine cnd_split (fun hc => ?_) (fun hc => ?_) | refine blk_exit_id ?_)
      refine awp_loop (σ := Nat) (fun j => j ≤ l.length ∧ l.take j = k.take j) (fun j => ⟨[(5, AV.i j), (0, AV.d (.sl f (l.map rowS))), (1, AV.d (.sl g (k.map rowS)))], []⟩) (fun j => l.length - j) 0 (Wk.sub (by simp [subT, look])) (by simp) ?_
      rintro j ⟨hj, hjt⟩
      by_cases hjl : j < l.length
      · have e1 : (l.map rowS)[j]? = some [.str l[j]] := by simp [hjl, rowS]
        have hjk : j < k.length := by omega
        have e2 : (k.map rowS)[j]? = some [.str k[j]] := by simp [hjk, rowS]
        have h0j : ((0 : Int) ≤ (j : Int)) = True := by simp
        have hlt : ((j : Int) < (l.length : Int)) = True := by simp; omega
        by_cases heq : l[j] = k[j]
        · have hb : (l[j] == k[j]) = true := by simp [heq]
          have hw := wI (n := (j : Int) + 1) (by omega) (by omega)
          have hc := Nat.zero_add 0
          repeat' (first | (simp only [hc, h1, h2, e1, e2, h0j, hlt, hb, Bool.not_true, AB, PL, RG, LP, TY, Nat.reduceEqDiff, Nat.reduceAdd, Nat.reduceSub, Nat.reduceMul, Nat.reduceLT, Nat.reduceLeDiff, Nat.reduceMod, Nat.reduceDiv, reduceCtorEq, Int.reduceEq, Int.reduceNe, Int.reduceLT, Int.reduceLE, Int.reduceNeg, Int.reduceToNat, Int.reduceAdd, Int.reduceSub, Int.reduceMul, ↓reduceIte, forall_const, eq_self, ne_eq, Option.some.injEq, beq_self_eq_true]) | refine fin_ndec (fun hc => ?_) (fun hc => ?_) | refine fin_dec (fun hc => ?_) (fun hc => ?_) | refine cnd_ndec (fun hc => ?_) (fun hc => ?_) | refine cnd_dec' (fun hc => ?_) (fun hc => ?_) | refine fin_nsplit (fun hc => ?_) (fun hc => ?_) | refine fin_split (fun hc => ?_) (fun hc => ?_) | refine cnd_nsplit (fun hc => ?_) (fun hc => ?_) | refine cnd_split (fun hc => ?_) (fun hc => ?_) | refine blk_exit_id ?_)
          refine lp_next (j + 1) (Wk.sub (by simp [subT, look, hw])) ⟨by omega, ?_⟩ (by omega)
          rw [List.take_succ_eq_append_getElem hjl, List.take_succ_eq_append_getElem hjk, hjt, heq]
        · have hb : (l[j] == k[j]) = false := by simp [heq]
          have hne : l ≠ k := fun h => by subst h; exact heq rfl
          have hc := Nat.zero_add 0
          repeat' (first | (simp only [hc, h1, h2, e1, e2, h0j, hlt, hb, Bool.not_false, AB, PL, RG, LP, TY, Nat.reduceEqDiff, Nat.reduceAdd, Nat.reduceSub, Nat.reduceMul, Nat.reduceLT, Nat.reduceLeDiff, Nat.reduceMod, Nat.reduceDiv, reduceCtorEq, Int.reduceEq, Int.reduceNe, Int.reduceLT, Int.reduceLE, Int.reduceNeg, Int.reduceToNat, Int.reduceAdd, Int.reduceSub, Int.reduceMul, ↓reduceIte, forall_const, eq_self, ne_eq, Option.some.injEq, beq_self_eq_true]) | refine fin_ndec (fun hc => ?_) (fun hc => ?_) | refine fin_dec (fun hc => ?_) (fun hc => ?_) | refine cnd_ndec (fun hc => ?_) (fun hc => ?_) | refine cnd_dec' (fun hc => ?_) (fun hc => ?_) | refine fin_nsplit (fun hc => ?_) (fun hc => ?_) | refine fin_split (fun hc => ?_) (fun hc => ?_) | refine cnd_nsplit (fun hc => ?_) (fun hc => ?_) | refine cnd_split (fun hc => ?_) (fun hc => ?_) | refine blk_exit_id ?_)
          simp [DV.b, hne]
      · have hlt : ((j : Int) < (l.length : Int)) = False := by simp; omega
        have hc := Nat.zero_add 0
        repeat' (first | (simp only [hc, h1, h2, hlt, AB, PL, RG, LP, TY, Nat.reduceEqDiff, Nat.reduceAdd, Nat.reduceSub, Nat.reduceMul, Nat.reduceLT, Nat.reduceLeDiff, Nat.reduceMod, Nat.reduceDiv, reduceCtorEq, Int.reduceEq, Int.reduceNe, Int.reduceLT, Int.reduceLE, Int.reduceNeg, Int.reduceToNat, Int.reduceAdd, Int.reduceSub, Int.reduceMul, ↓reduceIte, forall_const, eq_self, ne_eq, Option.some.injEq, beq_self_eq_true]) | refine fin_ndec (fun hc => ?_) (fun hc => ?_) | refine fin_dec (fun hc => ?_) (fun hc => ?_) | refine cnd_ndec (fun hc => ?_) (fun hc => ?_) | refine cnd_dec' (fun hc => ?_) (fun hc => ?_) | refine fin_nsplit (fun hc => ?_) (fun hc => ?_) | refine fin_split (fun hc => ?_) (fun hc => ?_) | refine cnd_nsplit (fun hc => ?_) (fun hc => ?_) | refine cnd_split (fun hc => ?_) (fun hc => ?_) | refine blk_exit_id ?_)
        have : l = k := by
          have e := hjt
          rwa [List.take_of_length_le (by omega), List.take_of_length_le (by omega)] at e
        simp [DV.b, this]
    · have h2 : ((k.map rowS).length : Int) = k.length := by simp
      have h3 : ((l.length : Int) = (k.length : Int)) = False := by simp; omega
      have hc := Nat.zero_add 0
      repeat' (first | (simp only [hc, Tryd.f18, h1, h2, h3, AB, PL, RG, LP, TY, Nat.reduceEqDiff, Nat.reduceAdd, Nat.reduceSub, Nat.reduceMul, Nat.reduceLT, Nat.reduceLeDiff, Nat.reduceMod, Nat.reduceDiv, reduceCtorEq, Int.reduceEq, Int.reduceNe, Int.reduceLT, Int.reduceLE, Int.reduceNeg, Int.reduceToNat, Int.reduceAdd, Int.reduceSub, Int.reduceMul, ↓reduceIte, forall_const, eq_self, ne_eq, Option.some.injEq, beq_self_eq_true]) | refine fin_ndec (fun hc => ?_) (fun hc => ?_) | refine fin_dec (fun hc => ?_) (fun hc => ?_) | refine cnd_ndec (fun hc => ?_) (fun hc => ?_) | refine cnd_dec' (fun hc => ?_) (fun hc => ?_) | refine fin_nsplit (fun hc => ?_) (fun hc => ?_) | refine fin_split (fun hc => ?_) (fun hc => ?_) | refine cnd_nsplit (fun hc => ?_) (fun hc => ?_) | refine cnd_split (fun hc => ?_) (fun hc => ?_) | refine blk_exit_id ?_)
      have : l ≠ k := fun h => hlk (by rw [h])
      all_goals simp_all [DV.b]
  · cases h

end Go.Ab
