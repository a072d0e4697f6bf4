/-
  What the functions of the calendar compute: lists of intervals.
-/
import Derived.Test.YtabfdaekbhccnaaDoorAbC5
set_option linter.unusedSimpArgs false
set_option linter.unusedVariables false
namespace Go.Ab
open Go.RowKit Go.Proofs

abbrev Iv := Int × Int
def rowI (p : Iv) : List D := [.int .i64 p.1, .int .i64 p.2]
def encI (l : List Iv) : List D := l.flatMap rowI
def decR : List D → Option Iv
  | [.int .i64 a, .int .i64 b] => some (a, b)
  | _ => none
def decI (es : List (List D)) : Option (List Iv) := es.mapM decR

theorem decR_inv {e : List D} {p : Iv} (h : decR e = some p) : e = rowI p := by
  unfold decR at h
  split at h
  · cases h; rfl
  · cases h
theorem decI_inv : ∀ {es : List (List D)} {l : List Iv}, decI es = some l → es = l.map rowI
  | [], l, h => by simp [decI] at h; subst h; rfl
  | e :: es, l, h => by
    simp only [decI, List.mapM_cons, Option.bind_eq_bind, Option.bind_eq_some_iff, Option.pure_def, Option.some.injEq] at h
    obtain ⟨p, hp, ps, hps, rfl⟩ := h
    rw [decR_inv hp, decI_inv (es := es) hps]
    rfl
theorem decI_map : ∀ (l : List Iv), decI (l.map rowI) = some l
  | [] => rfl
  | p :: l => by
    have := decI_map l
    simp only [decI] at this
    simp [decI, decR, rowI, this]
theorem encI_len : ∀ (l : List Iv), (encI l).length = l.length * 2
  | [] => rfl
  | p :: l => by have := encI_len l; simp only [encI, List.flatMap_cons, List.length_append] at *; rw [this]; simp [rowI]; omega
theorem encI_append (l k : List Iv) : encI (l ++ k) = encI l ++ encI k := by simp [encI]
theorem chunk_enc : ∀ (l : List Iv), chunk 2 l.length (encI l) = l.map rowI
  | [] => rfl
  | p :: l => by simp [chunk, encI, rowI, ← chunk_enc l]

/-- SameIntervals on two lists. -/
def msame : List PA → Option (List PA)
  | [.c (.sl _ a), .c (.sl _ b)] => (decI a).bind fun l => (decI b).bind fun k => if l.length ≤ 1000000000000 then some [.b (decide (l = k))] else none
  | _ => none
theorem msame_inv {args r : List PA} (h : msame args = some r) : ∃ (f g : Bool) (l k : List Iv), args = [.c (.sl f (l.map rowI)), .c (.sl g (k.map rowI))] ∧ l.length ≤ 1000000000000 ∧ [.b (decide (l = k))] = r := by
  unfold msame at h
  split at h
  · simp only [Option.bind_eq_some_iff] at h
    obtain ⟨l, hl, k, hk, h⟩ := h
    split at h
    · cases h
      exact ⟨_, _, l, k, by rw [decI_inv hl, decI_inv hk], by assumption, rfl⟩
    · cases h
  · cases h

def same_m : List PA → Option (List PA) := msame

theorem same_ok : PureC Tryd.prog Gt 28 same_m := by
  refine pure_of_awp (X := ctx Tryd.prog Gt []) Tryd.func28 rfl rfl (by kernel_rfl) (by kernel_rfl) AllOk.nil.kok ?_
  intro args r h0
  obtain ⟨f, g, l, k, rfl, hlen, rfl⟩ := msame_inv h0
  refine ⟨Nat.le_of_ble_eq_true rfl, ?_⟩
  by_cases hlk : l.length = k.length
  · have h1 : ((l.map rowI).length : Int) = l.length := by simp
    have h2 : ((k.map rowI).length : Int) = l.length := by simp [hlk]
    have hc := Nat.zero_add 0
    repeat' (first | (simp only [hc, Tryd.f28, h1, h2, AB, PL, RG, LP, TY, Nat.reduceEqDiff, Nat.reduceAdd, Nat.reduceSub, Nat.reduceMul, Nat.reduceLT, Nat.reduceLeDiff, Nat.reduceMod, Nat.reduceDiv, reduceCtorEq, Int.reduceEq, Int.reduceNe, Int.reduceLT, Int.reduceLE, Int.reduceNeg, Int.reduceToNat, Int.reduceAdd, Int.reduceSub, Int.reduceMul, ↓reduceIte, forall_const, eq_self, ne_eq, Option.some.injEq, beq_self_eq_true]) | refine fin_ndec (fun hc => ?_) (fun hc => ?_) | refine fin_dec (fun hc => ?_) (fun hc => ?_) | refine cnd_ndec (fun hc => ?_) (fun hc => ?_) | refine cnd_dec' (fun hc => ?_) (fun hc => ?_) | refine fin_nsplit (fun hc => ?_) (fun hc => ?_) | refine fin_split (fun hc => ?_) (fun hc => ?_) | refine cnd_nsplit (fun hc => ?_) (fun hc => ?_) | refine cnd_split (fun hc => ?_) (fun hc => ?_) | refine blk_exit_id ?_)
    refine awp_loop (σ := Nat) (fun j => j ≤ l.length ∧ l.take j = k.take j) (fun j => ⟨[(5, AV.i j), (0, AV.d (.sl f (l.map rowI))), (1, AV.d (.sl g (k.map rowI)))], []⟩) (fun j => l.length - j) 0 (Wk.sub (by simp [subT, look])) (by simp) ?_
    rintro j ⟨hj, hjt⟩
    by_cases hjl : j < l.length
    · have e1 : (l.map rowI)[j]? = some [.int .i64 l[j].1, .int .i64 l[j].2] := by simp [hjl, rowI]
      have hjk : j < k.length := by omega
      have e2 : (k.map rowI)[j]? = some [.int .i64 k[j].1, .int .i64 k[j].2] := by simp [hjk, rowI]
      have h0j : ((0 : Int) ≤ (j : Int)) = True := by simp
      have hlt : ((j : Int) < (l.length : Int)) = True := by simp; omega
      have hne : l[j] ≠ k[j] → l ≠ k := fun hn h => by subst h; exact hn rfl
      have hc := Nat.zero_add 0
      repeat' (first | (simp only [hc, h1, h2, e1, e2, h0j, hlt, AB, PL, RG, LP, TY, Nat.reduceEqDiff, Nat.reduceAdd, Nat.reduceSub, Nat.reduceMul, Nat.reduceLT, Nat.reduceLeDiff, Nat.reduceMod, Nat.reduceDiv, reduceCtorEq, Int.reduceEq, Int.reduceNe, Int.reduceLT, Int.reduceLE, Int.reduceNeg, Int.reduceToNat, Int.reduceAdd, Int.reduceSub, Int.reduceMul, ↓reduceIte, forall_const, eq_self, ne_eq, Option.some.injEq, beq_self_eq_true]) | refine fin_ndec (fun hc => ?_) (fun hc => ?_) | refine fin_dec (fun hc => ?_) (fun hc => ?_) | refine cnd_ndec (fun hc => ?_) (fun hc => ?_) | refine cnd_dec' (fun hc => ?_) (fun hc => ?_) | refine fin_nsplit (fun hc => ?_) (fun hc => ?_) | refine fin_split (fun hc => ?_) (fun hc => ?_) | refine cnd_nsplit (fun hc => ?_) (fun hc => ?_) | refine cnd_split (fun hc => ?_) (fun hc => ?_) | refine blk_exit_id ?_)
      · have : l ≠ k := hne fun h => hc (by rw [h])
        simp [DV.b, this]
      · have : l ≠ k := hne fun h => hc (by rw [h])
        simp [DV.b, this]
      · rename_i hc1
        have hw := wI (n := (j : Int) + 1) (by omega) (by omega)
        refine lp_next (j + 1) (Wk.sub (by simp [subT, look, hw])) ⟨by omega, ?_⟩ (by omega)
        have heq : l[j] = k[j] := Prod.ext (Classical.not_not.1 hc1) (Classical.not_not.1 hc)
        rw [List.take_succ_eq_append_getElem hjl, List.take_succ_eq_append_getElem hjk, hjt, heq]
    · have hlt : ((j : Int) < (l.length : Int)) = False := by simp; omega
      have hc := Nat.zero_add 0
      repeat' (first | (simp only [hc, h1, h2, hlt, AB, PL, RG, LP, TY, Nat.reduceEqDiff, Nat.reduceAdd, Nat.reduceSub, Nat.reduceMul, Nat.reduceLT, Nat.reduceLeDiff, Nat.reduceMod, Nat.reduceDiv, reduceCtorEq, Int.reduceEq, Int.reduceNe, Int.reduceLT, Int.reduceLE, Int.reduceNeg, Int.reduceToNat, Int.reduceAdd, Int.reduceSub, Int.reduceMul, ↓reduceIte, forall_const, eq_self, ne_eq, Option.some.injEq, beq_self_eq_true]) | refine fin_ndec (fun hc => ?_) (fun hc => ?_) | refine fin_dec (fun hc => ?_) (fun hc => ?_) | refine cnd_ndec (fun hc => ?_) (fun hc => ?_) | refine cnd_dec' (fun hc => ?_) (fun hc => ?_) | refine fin_nsplit (fun hc => ?_) (fun hc => ?_) | refine fin_split (fun hc => ?_) (fun hc => ?_) | refine cnd_nsplit (fun hc => ?_) (fun hc => ?_) | refine cnd_split (fun hc => ?_) (fun hc => ?_) | refine blk_exit_id ?_)
      have : l = k := by
        have e := hjt
        rwa [List.take_of_length_le (by omega), List.take_of_length_le (by omega)] at e
      simp [DV.b, this]
  · have h1 : ((l.map rowI).length : Int) = l.length := by simp
    have h2 : ((k.map rowI).length : Int) = k.length := by simp
    have h3 : ((l.length : Int) = (k.length : Int)) = False := by simp; omega
    have hc := Nat.zero_add 0
    repeat' (first | (simp only [hc, Tryd.f28, h1, h2, h3, AB, PL, RG, LP, TY, Nat.reduceEqDiff, Nat.reduceAdd, Nat.reduceSub, Nat.reduceMul, Nat.reduceLT, Nat.reduceLeDiff, Nat.reduceMod, Nat.reduceDiv, reduceCtorEq, Int.reduceEq, Int.reduceNe, Int.reduceLT, Int.reduceLE, Int.reduceNeg, Int.reduceToNat, Int.reduceAdd, Int.reduceSub, Int.reduceMul, ↓reduceIte, forall_const, eq_self, ne_eq, Option.some.injEq, beq_self_eq_true]) | refine fin_ndec (fun hc => ?_) (fun hc => ?_) | refine fin_dec (fun hc => ?_) (fun hc => ?_) | refine cnd_ndec (fun hc => ?_) (fun hc => ?_) | refine cnd_dec' (fun hc => ?_) (fun hc => ?_) | refine fin_nsplit (fun hc => ?_) (fun hc => ?_) | refine fin_split (fun hc => ?_) (fun hc => ?_) | refine cnd_nsplit (fun hc => ?_) (fun hc => ?_) | refine cnd_split (fun hc => ?_) (fun hc => ?_) | refine blk_exit_id ?_)
    have : l ≠ k := fun h => hlk (by rw [h])
    all_goals simp_all [DV.b]

end Go.Ab
