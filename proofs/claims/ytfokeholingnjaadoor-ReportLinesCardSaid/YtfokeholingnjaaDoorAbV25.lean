/-
  Texts of the layer and of the laws, put together: AbC10. No law is stated here.
-/
import Derived.Test.YtfokeholingnjaaDoorAbV24
import Derived.Test.YtfokeholingnjaaDoorAbV12
set_option linter.unusedSimpArgs false
set_option linter.unusedVariables false
set_option maxRecDepth 100000

/-
  What the functions of the calendar compute: business days.
-/
namespace Go.Ab
open Go.RowKit Go.Proofs

def rowN (n : Int) : List D := [.int .i64 n]
def decN1 : List D → Option Int
  | [.int .i64 a] => some a
  | _ => none
def decN (es : List (List D)) : Option (List Int) := es.mapM decN1
theorem decN1_inv {e : List D} {p : Int} (h : decN1 e = some p) : e = rowN p := by
  unfold decN1 at h
  split at h
  · cases h; rfl
  · cases h
theorem decN_inv : ∀ {es : List (List D)} {l : List Int}, decN es = some l → es = l.map rowN
  | [], l, h => by simp [decN] at h; subst h; rfl
  | e :: es, l, h => by
    simp only [decN, List.mapM_cons, Option.bind_eq_bind, Option.bind_eq_some_iff, Option.pure_def, Option.some.injEq] at h
    obtain ⟨p, hp, ps, hps, rfl⟩ := h
    rw [decN1_inv hp, decN_inv (es := es) hps]
    rfl
theorem decN_map : ∀ (l : List Int), decN (l.map rowN) = some l
  | [] => rfl
  | p :: l => by
    have := decN_map l
    simp only [decN] at this
    simp [decN, decN1, rowN, this]

def mli (g : List Int → Int → Option (List PA)) : List PA → Option (List PA)
  | [.c (.sl _ es), .c (.int .i64 a)] => (decN es).bind fun l => g l a
  | _ => none
theorem mli_inv {g : List Int → Int → Option (List PA)} {args r : List PA} (h : mli g args = some r) : ∃ f l a, args = [.c (.sl f (l.map rowN)), .c (.int .i64 a)] ∧ g l a = some r := by
  unfold mli at h
  split at h
  · simp only [Option.bind_eq_some_iff] at h
    obtain ⟨l, hl, h⟩ := h
    exact ⟨_, l, _, by rw [decN_inv hl], h⟩
  · cases h
theorem mli_eq {g : List Int → Int → Option (List PA)} {f : Bool} {l : List Int} {a : Int} : mli g [.c (.sl f (l.map rowN)), .c (.int .i64 a)] = g l a := by
  simp only [mli, decN_map, Option.bind_some]
def mlii (g : List Int → Int → Int → Option (List PA)) : List PA → Option (List PA)
  | [.c (.sl _ es), .c (.int .i64 a), .c (.int .i64 b)] => (decN es).bind fun l => g l a b
  | _ => none
theorem mlii_inv {g : List Int → Int → Int → Option (List PA)} {args r : List PA} (h : mlii g args = some r) : ∃ f l a b, args = [.c (.sl f (l.map rowN)), .c (.int .i64 a), .c (.int .i64 b)] ∧ g l a b = some r := by
  unfold mlii at h
  split at h
  · simp only [Option.bind_eq_some_iff] at h
    obtain ⟨l, hl, h⟩ := h
    exact ⟨_, l, _, _, by rw [decN_inv hl], h⟩
  · cases h
theorem mlii_eq {g : List Int → Int → Int → Option (List PA)} {f : Bool} {l : List Int} {a b : Int} : mlii g [.c (.sl f (l.map rowN)), .c (.int .i64 a), .c (.int .i64 b)] = g l a b := by
  simp only [mlii, decN_map, Option.bind_some]

def busB (l : List Int) (d : Int) : Bool := isD d && decide (d.tmod 7 ≤ 4) && !decide (d ∈ l)

def lateF (l : List Int) : Nat → Int → Nat → Option Int
  | _, d, 0 => some d
  | 0, _, _ + 1 => none
  | k + 1, d, n + 1 => if isD (d + 1) = true then lateF l k (d + 1) (if busB l (d + 1) = true then n else n + 1) else none

def laterOf (l : List Int) (d n : Int) : List PA :=
  if isD d = true then (if n < 0 ∨ 4096 < n then [.i 0, .i 1] else
    match lateF l (795364 - d).toNat d n.toNat with
    | some x => [.i x, .i 0]
    | none => [.i 0, .i 12]) else [.i 0, .i 12]

def bus_m : List PA → Option (List PA) := mli fun l d => if l.length ≤ 1000000000000 then some [.b (busB l d)] else none
def clater_m : List PA → Option (List PA) := mlii fun l d n => if l.length ≤ 1000 then some (laterOf l d n) else none
def rlater_m : List PA → Option (List PA) := mlii fun l d n => if l.length ≤ 1000 then some (laterOf l d n) else none

theorem bus_ok : PureC Tryd.prog Gt 89 bus_m := by
  refine pure_of_awp (X := ctx Tryd.prog Gt [(36, risDay_m)]) Tryd.func89 rfl rfl (by kernel_rfl) (by kernel_rfl) (AllOk.cons risDay_ok AllOk.nil).kok ?_
  intro args r h0
  obtain ⟨f, l, d, rfl, h⟩ := mli_inv h0
  refine ⟨Nat.le_of_ble_eq_true rfl, ?_⟩
  split at h
  · rename_i hlen
    cases h
    have h1 : ((l.map rowN).length : Int) = l.length := by simp
    by_cases hD : isD d = true
    · by_cases h7 : 4 < d.tmod 7
      · skip
        have hc := Nat.zero_add 0
        repeat' (first | (simp only [hc, Tryd.f89, risDay_m, mEq, hD, h7, AB, PL, RG, LP, TY, Nat.reduceEqDiff, Nat.reduceAdd, Nat.reduceSub, Nat.reduceMul, Nat.reduceLT, Nat.reduceLeDiff, Nat.reduceMod, Nat.reduceDiv, reduceCtorEq, Int.reduceEq, Int.reduceNe, Int.reduceLT, Int.reduceLE, Int.reduceNeg, Int.reduceToNat, Int.reduceAdd, Int.reduceSub, Int.reduceMul, ↓reduceIte, forall_const, eq_self, ne_eq, Option.some.injEq, beq_self_eq_true]) | refine fin_ndec (fun hc => ?_) (fun hc => ?_) | refine fin_dec (fun hc => ?_) (fun hc => ?_) | refine cnd_ndec (fun hc => ?_) (fun hc => ?_) | refine cnd_dec' (fun hc => ?_) (fun hc => ?_) | refine fin_nsplit (fun hc => ?_) (fun hc => ?_) | refine fin_split (fun hc => ?_) (fun hc => ?_) | refine cnd_nsplit (fun hc => ?_) (fun hc => ?_) | refine cnd_split (fun hc => ?_) (fun hc => ?_) | refine blk_exit_id ?_)
        all_goals (simp [busB, DV.b]; omega)
      · skip
        have hc := Nat.zero_add 0
        repeat' (first | (simp only [hc, Tryd.f89, risDay_m, mEq, hD, h7, AB, PL, RG, LP, TY, Nat.reduceEqDiff, Nat.reduceAdd, Nat.reduceSub, Nat.reduceMul, Nat.reduceLT, Nat.reduceLeDiff, Nat.reduceMod, Nat.reduceDiv, reduceCtorEq, Int.reduceEq, Int.reduceNe, Int.reduceLT, Int.reduceLE, Int.reduceNeg, Int.reduceToNat, Int.reduceAdd, Int.reduceSub, Int.reduceMul, ↓reduceIte, forall_const, eq_self, ne_eq, Option.some.injEq, beq_self_eq_true]) | refine fin_ndec (fun hc => ?_) (fun hc => ?_) | refine fin_dec (fun hc => ?_) (fun hc => ?_) | refine cnd_ndec (fun hc => ?_) (fun hc => ?_) | refine cnd_dec' (fun hc => ?_) (fun hc => ?_) | refine fin_nsplit (fun hc => ?_) (fun hc => ?_) | refine fin_split (fun hc => ?_) (fun hc => ?_) | refine cnd_nsplit (fun hc => ?_) (fun hc => ?_) | refine cnd_split (fun hc => ?_) (fun hc => ?_) | refine blk_exit_id ?_)
        refine awp_loop (σ := Nat) (fun j => j ≤ l.length ∧ d ∉ l.take j) (fun j => ⟨[(5, AV.i j), (0, AV.d (.sl f (l.map rowN))), (1, AV.i d)], []⟩) (fun j => l.length - j) 0 (Wk.sub (by simp [subT, look])) (by simp) ?_
        rintro j ⟨hj, hjt⟩
        by_cases hjl : j < l.length
        · have e1 : (l.map rowN)[j]? = some [.int .i64 l[j]] := by simp [hjl, rowN]
          have h0j : ((0 : Int) ≤ (j : Int)) = True := by simp
          have hlt : ((j : Int) < (l.length : Int)) = True := by simp; omega
          have hc := Nat.zero_add 0
          repeat' (first | (simp only [hc, h1, e1, h0j, hlt, AB, PL, RG, LP, TY, Nat.reduceEqDiff, Nat.reduceAdd, Nat.reduceSub, Nat.reduceMul, Nat.reduceLT, Nat.reduceLeDiff, Nat.reduceMod, Nat.reduceDiv, reduceCtorEq, Int.reduceEq, Int.reduceNe, Int.reduceLT, Int.reduceLE, Int.reduceNeg, Int.reduceToNat, Int.reduceAdd, Int.reduceSub, Int.reduceMul, ↓reduceIte, forall_const, eq_self, ne_eq, Option.some.injEq, beq_self_eq_true]) | refine fin_ndec (fun hc => ?_) (fun hc => ?_) | refine fin_dec (fun hc => ?_) (fun hc => ?_) | refine cnd_ndec (fun hc => ?_) (fun hc => ?_) | refine cnd_dec' (fun hc => ?_) (fun hc => ?_) | refine fin_nsplit (fun hc => ?_) (fun hc => ?_) | refine fin_split (fun hc => ?_) (fun hc => ?_) | refine cnd_nsplit (fun hc => ?_) (fun hc => ?_) | refine cnd_split (fun hc => ?_) (fun hc => ?_) | refine blk_exit_id ?_)
          · have : d ∈ l := by rw [← hc]; exact List.getElem_mem hjl
            simp [busB, DV.b, this]
          · have hw := wI (n := (j : Int) + 1) (by omega) (by omega)
            refine lp_next (j + 1) (Wk.sub (by simp [subT, look, hw])) ⟨by omega, ?_⟩ (by omega)
            rw [List.take_succ_eq_append_getElem hjl, List.mem_append]
            rintro (h | h)
            · exact hjt h
            · simp at h; exact hc h.symm
        · have hlt : ((j : Int) < (l.length : Int)) = False := by simp; omega
          have hc := Nat.zero_add 0
          repeat' (first | (simp only [hc, h1, hlt, AB, PL, RG, LP, TY, Nat.reduceEqDiff, Nat.reduceAdd, Nat.reduceSub, Nat.reduceMul, Nat.reduceLT, Nat.reduceLeDiff, Nat.reduceMod, Nat.reduceDiv, reduceCtorEq, Int.reduceEq, Int.reduceNe, Int.reduceLT, Int.reduceLE, Int.reduceNeg, Int.reduceToNat, Int.reduceAdd, Int.reduceSub, Int.reduceMul, ↓reduceIte, forall_const, eq_self, ne_eq, Option.some.injEq, beq_self_eq_true]) | refine fin_ndec (fun hc => ?_) (fun hc => ?_) | refine fin_dec (fun hc => ?_) (fun hc => ?_) | refine cnd_ndec (fun hc => ?_) (fun hc => ?_) | refine cnd_dec' (fun hc => ?_) (fun hc => ?_) | refine fin_nsplit (fun hc => ?_) (fun hc => ?_) | refine fin_split (fun hc => ?_) (fun hc => ?_) | refine cnd_nsplit (fun hc => ?_) (fun hc => ?_) | refine cnd_split (fun hc => ?_) (fun hc => ?_) | refine blk_exit_id ?_)
          rw [List.take_of_length_le (by omega)] at hjt
          simp [busB, DV.b, hjt, hD]; omega
    · skip
      have hc := Nat.zero_add 0
      repeat' (first | (simp only [hc, Tryd.f89, risDay_m, mEq, hD, AB, PL, RG, LP, TY, Nat.reduceEqDiff, Nat.reduceAdd, Nat.reduceSub, Nat.reduceMul, Nat.reduceLT, Nat.reduceLeDiff, Nat.reduceMod, Nat.reduceDiv, reduceCtorEq, Int.reduceEq, Int.reduceNe, Int.reduceLT, Int.reduceLE, Int.reduceNeg, Int.reduceToNat, Int.reduceAdd, Int.reduceSub, Int.reduceMul, ↓reduceIte, forall_const, eq_self, ne_eq, Option.some.injEq, beq_self_eq_true]) | refine fin_ndec (fun hc => ?_) (fun hc => ?_) | refine fin_dec (fun hc => ?_) (fun hc => ?_) | refine cnd_ndec (fun hc => ?_) (fun hc => ?_) | refine cnd_dec' (fun hc => ?_) (fun hc => ?_) | refine fin_nsplit (fun hc => ?_) (fun hc => ?_) | refine fin_split (fun hc => ?_) (fun hc => ?_) | refine cnd_nsplit (fun hc => ?_) (fun hc => ?_) | refine cnd_split (fun hc => ?_) (fun hc => ?_) | refine blk_exit_id ?_)
      all_goals (simp [busB, DV.b, hD])
  · cases h

theorem late_zero (l : List Int) (k : Nat) (d : Int) : lateF l k d 0 = some d := by cases k <;> rfl

theorem clater_ok : PureC Tryd.prog Gt 74 clater_m := by
  refine pure_of_awp (X := ctx Tryd.prog Gt [(83, isDay_m)]) Tryd.func74 rfl rfl (by kernel_rfl) (by kernel_rfl) (AllOk.cons isDay_ok AllOk.nil).kok ?_
  intro args r h0
  obtain ⟨f, l, d0, n0, rfl, h⟩ := mlii_inv h0
  refine ⟨Nat.le_of_ble_eq_true rfl, ?_⟩
  split at h
  · rename_i hlen
    cases h
    have h1 : ((l.map rowN).length : Int) = l.length := by simp
    by_cases hD : isD d0 = true
    · by_cases hn1 : n0 < 0
      · skip
        have hc := Nat.zero_add 0
        repeat' (first | (simp only [hc, Tryd.f74, isDay_m, mEq, hD, hn1, AB, PL, RG, LP, TY, Nat.reduceEqDiff, Nat.reduceAdd, Nat.reduceSub, Nat.reduceMul, Nat.reduceLT, Nat.reduceLeDiff, Nat.reduceMod, Nat.reduceDiv, reduceCtorEq, Int.reduceEq, Int.reduceNe, Int.reduceLT, Int.reduceLE, Int.reduceNeg, Int.reduceToNat, Int.reduceAdd, Int.reduceSub, Int.reduceMul, ↓reduceIte, forall_const, eq_self, ne_eq, Option.some.injEq, beq_self_eq_true]) | refine fin_ndec (fun hc => ?_) (fun hc => ?_) | refine fin_dec (fun hc => ?_) (fun hc => ?_) | refine cnd_ndec (fun hc => ?_) (fun hc => ?_) | refine cnd_dec' (fun hc => ?_) (fun hc => ?_) | refine fin_nsplit (fun hc => ?_) (fun hc => ?_) | refine fin_split (fun hc => ?_) (fun hc => ?_) | refine cnd_nsplit (fun hc => ?_) (fun hc => ?_) | refine cnd_split (fun hc => ?_) (fun hc => ?_) | refine blk_exit_id ?_)
        all_goals simp_all [laterOf, DV.i]
      by_cases hn2 : 4096 < n0
      · skip
        have hc := Nat.zero_add 0
        repeat' (first | (simp only [hc, Tryd.f74, isDay_m, mEq, hD, hn1, hn2, AB, PL, RG, LP, TY, Nat.reduceEqDiff, Nat.reduceAdd, Nat.reduceSub, Nat.reduceMul, Nat.reduceLT, Nat.reduceLeDiff, Nat.reduceMod, Nat.reduceDiv, reduceCtorEq, Int.reduceEq, Int.reduceNe, Int.reduceLT, Int.reduceLE, Int.reduceNeg, Int.reduceToNat, Int.reduceAdd, Int.reduceSub, Int.reduceMul, ↓reduceIte, forall_const, eq_self, ne_eq, Option.some.injEq, beq_self_eq_true]) | refine fin_ndec (fun hc => ?_) (fun hc => ?_) | refine fin_dec (fun hc => ?_) (fun hc => ?_) | refine cnd_ndec (fun hc => ?_) (fun hc => ?_) | refine cnd_dec' (fun hc => ?_) (fun hc => ?_) | refine fin_nsplit (fun hc => ?_) (fun hc => ?_) | refine fin_split (fun hc => ?_) (fun hc => ?_) | refine cnd_nsplit (fun hc => ?_) (fun hc => ?_) | refine cnd_split (fun hc => ?_) (fun hc => ?_) | refine blk_exit_id ?_)
        all_goals simp_all [laterOf, DV.i]
      have hc := Nat.zero_add 0
      repeat' (first | (simp only [hc, Tryd.f74, isDay_m, mEq, hD, hn1, hn2, h1, AB, PL, RG, LP, TY, Nat.reduceEqDiff, Nat.reduceAdd, Nat.reduceSub, Nat.reduceMul, Nat.reduceLT, Nat.reduceLeDiff, Nat.reduceMod, Nat.reduceDiv, reduceCtorEq, Int.reduceEq, Int.reduceNe, Int.reduceLT, Int.reduceLE, Int.reduceNeg, Int.reduceToNat, Int.reduceAdd, Int.reduceSub, Int.reduceMul, ↓reduceIte, forall_const, eq_self, ne_eq, Option.some.injEq, beq_self_eq_true]) | refine fin_ndec (fun hc => ?_) (fun hc => ?_) | refine fin_dec (fun hc => ?_) (fun hc => ?_) | refine cnd_ndec (fun hc => ?_) (fun hc => ?_) | refine cnd_dec' (fun hc => ?_) (fun hc => ?_) | refine fin_nsplit (fun hc => ?_) (fun hc => ?_) | refine fin_split (fun hc => ?_) (fun hc => ?_) | refine cnd_nsplit (fun hc => ?_) (fun hc => ?_) | refine cnd_split (fun hc => ?_) (fun hc => ?_) | refine blk_exit_id ?_)
      refine awp_loop (σ := Nat × MapA × Nat) (fun p => p.1 ≤ l.length ∧ KeysD (.int .i64) p.2.1 ∧ ∀ x : Int, getM p.2.1 (.c (.int .i64 x)) = if x ∈ l.take p.1 then some (.c (.bool true)) else none)
        (fun p => ⟨[(21, AV.d (.sl f (l.map rowN))), (22, AV.i l.length), (23, AV.i p.1), (8, .v (.c (.mp 0))), (1, AV.i d0), (2, AV.i n0)], [.map p.2.1 p.2.2]⟩) (fun p => l.length - p.1) (0, [], 0) (Wk.sub (by simp [subT, look])) ⟨by simp, (fun e he => by cases he), (fun x => by simp [getM_nil])⟩ ?_
      rintro ⟨j, es, ck⟩ ⟨hj, hks, hget⟩
      dsimp only at hj hks hget ⊢
      by_cases hjl : j < l.length
      · have e1 : (l.map rowN)[j]? = some [.int .i64 l[j]] := by simp [hjl, rowN]
        have h0j : ((0 : Int) ≤ (j : Int)) = True := by simp
        have hlt : ((j : Int) < (l.length : Int)) = True := by simp; omega
        have hkey : isKeyA (.int .i64) (.c (.int .i64 l[j])) = true := rfl
        have hk := keysOk_of hkey hks
        obtain ⟨es', ck', hput, hks', _, hget'⟩ := putA_spec (y := .c (.bool true)) (c := ck) hkey hks
        have hc := Nat.zero_add 0
        repeat' (first | (simp only [hc, h1, e1, h0j, hlt, MP, hk, hput, AB, PL, RG, LP, TY, Nat.reduceEqDiff, Nat.reduceAdd, Nat.reduceSub, Nat.reduceMul, Nat.reduceLT, Nat.reduceLeDiff, Nat.reduceMod, Nat.reduceDiv, reduceCtorEq, Int.reduceEq, Int.reduceNe, Int.reduceLT, Int.reduceLE, Int.reduceNeg, Int.reduceToNat, Int.reduceAdd, Int.reduceSub, Int.reduceMul, ↓reduceIte, forall_const, eq_self, ne_eq, Option.some.injEq, beq_self_eq_true]) | refine fin_ndec (fun hc => ?_) (fun hc => ?_) | refine fin_dec (fun hc => ?_) (fun hc => ?_) | refine cnd_ndec (fun hc => ?_) (fun hc => ?_) | refine cnd_dec' (fun hc => ?_) (fun hc => ?_) | refine fin_nsplit (fun hc => ?_) (fun hc => ?_) | refine fin_split (fun hc => ?_) (fun hc => ?_) | refine cnd_nsplit (fun hc => ?_) (fun hc => ?_) | refine cnd_split (fun hc => ?_) (fun hc => ?_) | refine blk_exit_id ?_)
        have hw := wI (n := (j : Int) + 1) (by omega) (by omega)
        refine lp_next (j + 1, es', ck') (Wk.sub' (by simp [subT, look, hw]) rfl) ⟨by simp only []; omega, hks', fun x => ?_⟩ (by simp only []; omega)
        dsimp only
        have hmem : x ∈ l.take (j + 1) ↔ x ∈ l.take j ∨ x = l[j] := by rw [List.take_succ_eq_append_getElem hjl, List.mem_append, List.mem_singleton]
        rw [hget' _ rfl, hget]
        by_cases hx : l[j] = x
        · subst hx; simp [hmem]
        · have : ¬ (DV.c (D.int .i64 l[j]) = DV.c (D.int .i64 x)) := fun h => hx (by cases h; rfl)
          rw [if_neg this]
          have hx' : ¬ x = l[j] := fun h => hx h.symm
          simp [hmem, hx']
      · have hlt : ((j : Int) < (l.length : Int)) = False := by simp; omega
        rw [List.take_of_length_le (by omega)] at hget
        have hc := Nat.zero_add 0
        repeat' (first | (simp only [hc, h1, hlt, AB, PL, RG, LP, TY, Nat.reduceEqDiff, Nat.reduceAdd, Nat.reduceSub, Nat.reduceMul, Nat.reduceLT, Nat.reduceLeDiff, Nat.reduceMod, Nat.reduceDiv, reduceCtorEq, Int.reduceEq, Int.reduceNe, Int.reduceLT, Int.reduceLE, Int.reduceNeg, Int.reduceToNat, Int.reduceAdd, Int.reduceSub, Int.reduceMul, ↓reduceIte, forall_const, eq_self, ne_eq, Option.some.injEq, beq_self_eq_true]) | refine fin_ndec (fun hc => ?_) (fun hc => ?_) | refine fin_dec (fun hc => ?_) (fun hc => ?_) | refine cnd_ndec (fun hc => ?_) (fun hc => ?_) | refine cnd_dec' (fun hc => ?_) (fun hc => ?_) | refine fin_nsplit (fun hc => ?_) (fun hc => ?_) | refine fin_split (fun hc => ?_) (fun hc => ?_) | refine cnd_nsplit (fun hc => ?_) (fun hc => ?_) | refine cnd_split (fun hc => ?_) (fun hc => ?_) | refine blk_exit_id ?_)
        have hd := isD_iff.1 hD
        refine awp_loop (σ := Nat × Int × Nat) (fun p => p.2.1 + p.1 = 795364 ∧ 0 ≤ p.2.1 ∧ p.2.1 < 795364 ∧ p.2.2 ≤ 4096 ∧ lateF l p.1 p.2.1 p.2.2 = lateF l (795364 - d0).toNat d0 n0.toNat) (fun p => ⟨[(1, AV.i p.2.1), (2, AV.i p.2.2), (8, .v (.c (.mp 0)))], [.map es ck]⟩) (fun p => p.1) ((795364 - d0).toNat, d0, n0.toNat) (Wk.sub (by simp [subT, look]; omega)) ⟨by simp only []; omega, by simp only []; omega, by simp only []; omega, by simp only []; omega, rfl⟩ ?_
        rintro ⟨k, d, n⟩ ⟨g1, g2, g5, g3, g4⟩
        dsimp only at g1 g2 g3 g4 g5 ⊢
        have v1 := wI (n := d + 1) (by omega) (by omega)
        cases n with
        | zero =>
          have hz : ((0 : Int) < ((0 : Nat) : Int)) = False := by simp
          have hc := Nat.zero_add 0
          repeat' (first | (simp only [hc, hz, AB, PL, RG, LP, TY, Nat.reduceEqDiff, Nat.reduceAdd, Nat.reduceSub, Nat.reduceMul, Nat.reduceLT, Nat.reduceLeDiff, Nat.reduceMod, Nat.reduceDiv, reduceCtorEq, Int.reduceEq, Int.reduceNe, Int.reduceLT, Int.reduceLE, Int.reduceNeg, Int.reduceToNat, Int.reduceAdd, Int.reduceSub, Int.reduceMul, ↓reduceIte, forall_const, eq_self, ne_eq, Option.some.injEq, beq_self_eq_true]) | refine fin_ndec (fun hc => ?_) (fun hc => ?_) | refine fin_dec (fun hc => ?_) (fun hc => ?_) | refine cnd_ndec (fun hc => ?_) (fun hc => ?_) | refine cnd_dec' (fun hc => ?_) (fun hc => ?_) | refine fin_nsplit (fun hc => ?_) (fun hc => ?_) | refine fin_split (fun hc => ?_) (fun hc => ?_) | refine cnd_nsplit (fun hc => ?_) (fun hc => ?_) | refine cnd_split (fun hc => ?_) (fun hc => ?_) | refine blk_exit_id ?_)
          rw [late_zero] at g4
          simp [laterOf, hD, hn1, hn2, ← g4, DV.i]
        | succ n =>
          have hz : ((0 : Int) < ((n + 1 : Nat) : Int)) = True := by simp
          obtain ⟨k, rfl⟩ : ∃ k', k = k' + 1 := ⟨k - 1, by omega⟩
          simp only [lateF] at g4
          by_cases hD1 : isD (d + 1) = true
          · rw [if_pos hD1] at g4
            have hd1 := isD_iff.1 hD1
            have v2 := wI (n := ((n + 1 : Nat) : Int) - 1) (by omega) (by omega)
            have hk : keysOk (.int .i64) (.c (.int .i64 (d + 1))) es = true := keysOk_of rfl hks
            have hpk : pkV es (.c (.int .i64 (d + 1))) (.c (.d (.bool false))) = .c (.d (.bool (decide (d + 1 ∈ l)))) := by
              rw [pkV_eq, hget]
              by_cases hm : d + 1 ∈ l <;> simp [hm, DV.V]
            by_cases hb : busB l (d + 1) = true
            · rw [if_pos hb] at g4
              simp only [busB, Bool.and_eq_true, decide_eq_true_eq, Bool.not_eq_true', decide_eq_false_iff_not] at hb
              have hb7 : ((d + 1).tmod 7 < 5) = True := eq_true (by omega)
              have hbm : (d + 1 ∈ l) = False := by simp [hb.2]
              have hc := Nat.zero_add 0
              repeat' (first | (simp only [hc, isDay_m, mEq, v1, v2, hz, hD1, hk, hpk, MP, hb7, hbm, AB, PL, RG, LP, TY, Nat.reduceEqDiff, Nat.reduceAdd, Nat.reduceSub, Nat.reduceMul, Nat.reduceLT, Nat.reduceLeDiff, Nat.reduceMod, Nat.reduceDiv, reduceCtorEq, Int.reduceEq, Int.reduceNe, Int.reduceLT, Int.reduceLE, Int.reduceNeg, Int.reduceToNat, Int.reduceAdd, Int.reduceSub, Int.reduceMul, ↓reduceIte, forall_const, eq_self, ne_eq, Option.some.injEq, beq_self_eq_true]) | refine fin_ndec (fun hc => ?_) (fun hc => ?_) | refine fin_dec (fun hc => ?_) (fun hc => ?_) | refine cnd_ndec (fun hc => ?_) (fun hc => ?_) | refine cnd_dec' (fun hc => ?_) (fun hc => ?_) | refine fin_nsplit (fun hc => ?_) (fun hc => ?_) | refine fin_split (fun hc => ?_) (fun hc => ?_) | refine cnd_nsplit (fun hc => ?_) (fun hc => ?_) | refine cnd_split (fun hc => ?_) (fun hc => ?_) | refine blk_exit_id ?_)
              refine lp_next (k, d + 1, n) (Wk.sub (by simp [subT, look])) ⟨by simp only []; omega, by simp only []; omega, by simp only []; omega, by simp only []; omega, g4⟩ (by simp only []; omega)
            · have hb' : ¬ ((d + 1).tmod 7 < 5) ∨ d + 1 ∈ l := by
                simp only [busB, hD1, Bool.true_and, Bool.and_eq_true, decide_eq_true_eq, Bool.not_eq_true', decide_eq_false_iff_not] at hb
                by_cases hm : d + 1 ∈ l
                · exact .inr hm
                · left; intro h; exact hb ⟨by omega, hm⟩
              rw [if_neg hb] at g4
              have fin : (k : Nat) < k + 1 ∧ (d + 1 + (k : Int) = 795364 ∧ 0 ≤ d + 1 ∧ d + 1 < 795364 ∧ n + 1 ≤ 4096 ∧ lateF l k (d + 1) (n + 1) = lateF l (795364 - d0).toNat d0 n0.toNat) := ⟨by omega, by omega, by omega, by omega, by omega, g4⟩
              by_cases hb7 : (d + 1).tmod 7 < 5
              · have hm : d + 1 ∈ l := by
                  rcases hb' with h | h
                  · exact absurd hb7 h
                  · exact h
                have hc := Nat.zero_add 0
                repeat' (first | (simp only [hc, isDay_m, mEq, v1, v2, hz, hD1, hk, hpk, MP, hb7, hm, AB, PL, RG, LP, TY, Nat.reduceEqDiff, Nat.reduceAdd, Nat.reduceSub, Nat.reduceMul, Nat.reduceLT, Nat.reduceLeDiff, Nat.reduceMod, Nat.reduceDiv, reduceCtorEq, Int.reduceEq, Int.reduceNe, Int.reduceLT, Int.reduceLE, Int.reduceNeg, Int.reduceToNat, Int.reduceAdd, Int.reduceSub, Int.reduceMul, ↓reduceIte, forall_const, eq_self, ne_eq, Option.some.injEq, beq_self_eq_true]) | refine fin_ndec (fun hc => ?_) (fun hc => ?_) | refine fin_dec (fun hc => ?_) (fun hc => ?_) | refine cnd_ndec (fun hc => ?_) (fun hc => ?_) | refine cnd_dec' (fun hc => ?_) (fun hc => ?_) | refine fin_nsplit (fun hc => ?_) (fun hc => ?_) | refine fin_split (fun hc => ?_) (fun hc => ?_) | refine cnd_nsplit (fun hc => ?_) (fun hc => ?_) | refine cnd_split (fun hc => ?_) (fun hc => ?_) | refine blk_exit_id ?_)
                exact lp_next (k, d + 1, n + 1) (Wk.sub (by simp [subT, look])) fin.2 fin.1
              · skip
                have hc := Nat.zero_add 0
                repeat' (first | (simp only [hc, isDay_m, mEq, v1, v2, hz, hD1, hk, hpk, MP, hb7, AB, PL, RG, LP, TY, Nat.reduceEqDiff, Nat.reduceAdd, Nat.reduceSub, Nat.reduceMul, Nat.reduceLT, Nat.reduceLeDiff, Nat.reduceMod, Nat.reduceDiv, reduceCtorEq, Int.reduceEq, Int.reduceNe, Int.reduceLT, Int.reduceLE, Int.reduceNeg, Int.reduceToNat, Int.reduceAdd, Int.reduceSub, Int.reduceMul, ↓reduceIte, forall_const, eq_self, ne_eq, Option.some.injEq, beq_self_eq_true]) | refine fin_ndec (fun hc => ?_) (fun hc => ?_) | refine fin_dec (fun hc => ?_) (fun hc => ?_) | refine cnd_ndec (fun hc => ?_) (fun hc => ?_) | refine cnd_dec' (fun hc => ?_) (fun hc => ?_) | refine fin_nsplit (fun hc => ?_) (fun hc => ?_) | refine fin_split (fun hc => ?_) (fun hc => ?_) | refine cnd_nsplit (fun hc => ?_) (fun hc => ?_) | refine cnd_split (fun hc => ?_) (fun hc => ?_) | refine blk_exit_id ?_)
                exact lp_next (k, d + 1, n + 1) (Wk.sub (by simp [subT, look])) fin.2 fin.1
          · rw [if_neg hD1] at g4
            have hc := Nat.zero_add 0
            repeat' (first | (simp only [hc, isDay_m, mEq, v1, hz, hD1, AB, PL, RG, LP, TY, Nat.reduceEqDiff, Nat.reduceAdd, Nat.reduceSub, Nat.reduceMul, Nat.reduceLT, Nat.reduceLeDiff, Nat.reduceMod, Nat.reduceDiv, reduceCtorEq, Int.reduceEq, Int.reduceNe, Int.reduceLT, Int.reduceLE, Int.reduceNeg, Int.reduceToNat, Int.reduceAdd, Int.reduceSub, Int.reduceMul, ↓reduceIte, forall_const, eq_self, ne_eq, Option.some.injEq, beq_self_eq_true]) | refine fin_ndec (fun hc => ?_) (fun hc => ?_) | refine fin_dec (fun hc => ?_) (fun hc => ?_) | refine cnd_ndec (fun hc => ?_) (fun hc => ?_) | refine cnd_dec' (fun hc => ?_) (fun hc => ?_) | refine fin_nsplit (fun hc => ?_) (fun hc => ?_) | refine fin_split (fun hc => ?_) (fun hc => ?_) | refine cnd_nsplit (fun hc => ?_) (fun hc => ?_) | refine cnd_split (fun hc => ?_) (fun hc => ?_) | refine blk_exit_id ?_)
            simp [laterOf, hD, hn1, hn2, ← g4, DV.i]
    · skip
      have hc := Nat.zero_add 0
      repeat' (first | (simp only [hc, Tryd.f74, isDay_m, mEq, hD, AB, PL, RG, LP, TY, Nat.reduceEqDiff, Nat.reduceAdd, Nat.reduceSub, Nat.reduceMul, Nat.reduceLT, Nat.reduceLeDiff, Nat.reduceMod, Nat.reduceDiv, reduceCtorEq, Int.reduceEq, Int.reduceNe, Int.reduceLT, Int.reduceLE, Int.reduceNeg, Int.reduceToNat, Int.reduceAdd, Int.reduceSub, Int.reduceMul, ↓reduceIte, forall_const, eq_self, ne_eq, Option.some.injEq, beq_self_eq_true]) | refine fin_ndec (fun hc => ?_) (fun hc => ?_) | refine fin_dec (fun hc => ?_) (fun hc => ?_) | refine cnd_ndec (fun hc => ?_) (fun hc => ?_) | refine cnd_dec' (fun hc => ?_) (fun hc => ?_) | refine fin_nsplit (fun hc => ?_) (fun hc => ?_) | refine fin_split (fun hc => ?_) (fun hc => ?_) | refine cnd_nsplit (fun hc => ?_) (fun hc => ?_) | refine cnd_split (fun hc => ?_) (fun hc => ?_) | refine blk_exit_id ?_)
      all_goals simp_all [laterOf, DV.i]
  · cases h

def innF (l : List Int) (k : Nat) (d : Int) (m : Nat) : Option Int := if isD d = true then lateF l k d (if busB l d = true then m else m + 1) else none

theorem rlater_ok : PureC Tryd.prog Gt 76 rlater_m := by
  refine pure_of_awp (X := ctx Tryd.prog Gt [(36, risDay_m), (89, bus_m)]) Tryd.func76 rfl rfl (by kernel_rfl) (by kernel_rfl) (AllOk.cons risDay_ok (AllOk.cons bus_ok AllOk.nil)).kok ?_
  intro args r h0
  obtain ⟨f, l, d0, n0, rfl, h⟩ := mlii_inv h0
  refine ⟨Nat.le_of_ble_eq_true rfl, ?_⟩
  split at h
  · rename_i hlen
    cases h
    have hll : (l.length ≤ 1000000000000) = True := by simp; omega
    by_cases hD : isD d0 = true
    · by_cases hn1 : n0 < 0
      · skip
        have hc := Nat.zero_add 0
        repeat' (first | (simp only [hc, Tryd.f76, risDay_m, mEq, hD, hn1, AB, PL, RG, LP, TY, Nat.reduceEqDiff, Nat.reduceAdd, Nat.reduceSub, Nat.reduceMul, Nat.reduceLT, Nat.reduceLeDiff, Nat.reduceMod, Nat.reduceDiv, reduceCtorEq, Int.reduceEq, Int.reduceNe, Int.reduceLT, Int.reduceLE, Int.reduceNeg, Int.reduceToNat, Int.reduceAdd, Int.reduceSub, Int.reduceMul, ↓reduceIte, forall_const, eq_self, ne_eq, Option.some.injEq, beq_self_eq_true]) | refine fin_ndec (fun hc => ?_) (fun hc => ?_) | refine fin_dec (fun hc => ?_) (fun hc => ?_) | refine cnd_ndec (fun hc => ?_) (fun hc => ?_) | refine cnd_dec' (fun hc => ?_) (fun hc => ?_) | refine fin_nsplit (fun hc => ?_) (fun hc => ?_) | refine fin_split (fun hc => ?_) (fun hc => ?_) | refine cnd_nsplit (fun hc => ?_) (fun hc => ?_) | refine cnd_split (fun hc => ?_) (fun hc => ?_) | refine blk_exit_id ?_)
        all_goals simp_all [laterOf, DV.i]
      by_cases hn2 : 4096 < n0
      · skip
        have hc := Nat.zero_add 0
        repeat' (first | (simp only [hc, Tryd.f76, risDay_m, mEq, hD, hn1, hn2, AB, PL, RG, LP, TY, Nat.reduceEqDiff, Nat.reduceAdd, Nat.reduceSub, Nat.reduceMul, Nat.reduceLT, Nat.reduceLeDiff, Nat.reduceMod, Nat.reduceDiv, reduceCtorEq, Int.reduceEq, Int.reduceNe, Int.reduceLT, Int.reduceLE, Int.reduceNeg, Int.reduceToNat, Int.reduceAdd, Int.reduceSub, Int.reduceMul, ↓reduceIte, forall_const, eq_self, ne_eq, Option.some.injEq, beq_self_eq_true]) | refine fin_ndec (fun hc => ?_) (fun hc => ?_) | refine fin_dec (fun hc => ?_) (fun hc => ?_) | refine cnd_ndec (fun hc => ?_) (fun hc => ?_) | refine cnd_dec' (fun hc => ?_) (fun hc => ?_) | refine fin_nsplit (fun hc => ?_) (fun hc => ?_) | refine fin_split (fun hc => ?_) (fun hc => ?_) | refine cnd_nsplit (fun hc => ?_) (fun hc => ?_) | refine cnd_split (fun hc => ?_) (fun hc => ?_) | refine blk_exit_id ?_)
        all_goals simp_all [laterOf, DV.i]
      have hc := Nat.zero_add 0
      repeat' (first | (simp only [hc, Tryd.f76, risDay_m, mEq, hD, hn1, hn2, AB, PL, RG, LP, TY, Nat.reduceEqDiff, Nat.reduceAdd, Nat.reduceSub, Nat.reduceMul, Nat.reduceLT, Nat.reduceLeDiff, Nat.reduceMod, Nat.reduceDiv, reduceCtorEq, Int.reduceEq, Int.reduceNe, Int.reduceLT, Int.reduceLE, Int.reduceNeg, Int.reduceToNat, Int.reduceAdd, Int.reduceSub, Int.reduceMul, ↓reduceIte, forall_const, eq_self, ne_eq, Option.some.injEq, beq_self_eq_true]) | refine fin_ndec (fun hc => ?_) (fun hc => ?_) | refine fin_dec (fun hc => ?_) (fun hc => ?_) | refine cnd_ndec (fun hc => ?_) (fun hc => ?_) | refine cnd_dec' (fun hc => ?_) (fun hc => ?_) | refine fin_nsplit (fun hc => ?_) (fun hc => ?_) | refine fin_split (fun hc => ?_) (fun hc => ?_) | refine cnd_nsplit (fun hc => ?_) (fun hc => ?_) | refine cnd_split (fun hc => ?_) (fun hc => ?_) | refine blk_exit_id ?_)
      have hd := isD_iff.1 hD
      refine awp_loop (σ := Nat × Int × Nat) (fun p => p.2.1 + p.1 = 795364 ∧ 0 ≤ p.2.1 ∧ p.2.1 < 795364 ∧ p.2.2 ≤ n0.toNat ∧ lateF l p.1 p.2.1 p.2.2 = lateF l (795364 - d0).toNat d0 n0.toNat) (fun p => ⟨[(8, AV.i p.2.1), (9, AV.i (n0 - p.2.2)), (2, AV.i n0), (0, AV.d (.sl f (l.map rowN)))], []⟩) (fun p => p.2.2) ((795364 - d0).toNat, d0, n0.toNat) (Wk.sub (by simp [subT, look]; omega)) ⟨by simp only []; omega, by simp only []; omega, by simp only []; omega, by simp only []; omega, rfl⟩ ?_
      rintro ⟨k, d, n⟩ ⟨g1, g2, g5, g3, g4⟩
      dsimp only at g1 g2 g3 g4 g5 ⊢
      cases n with
      | zero =>
        have hc := Nat.zero_add 0
        repeat' (first | (simp only [hc, Int.natCast_zero, Int.sub_zero, Int.lt_irrefl, AB, PL, RG, LP, TY, Nat.reduceEqDiff, Nat.reduceAdd, Nat.reduceSub, Nat.reduceMul, Nat.reduceLT, Nat.reduceLeDiff, Nat.reduceMod, Nat.reduceDiv, reduceCtorEq, Int.reduceEq, Int.reduceNe, Int.reduceLT, Int.reduceLE, Int.reduceNeg, Int.reduceToNat, Int.reduceAdd, Int.reduceSub, Int.reduceMul, ↓reduceIte, forall_const, eq_self, ne_eq, Option.some.injEq, beq_self_eq_true]) | refine fin_ndec (fun hc => ?_) (fun hc => ?_) | refine fin_dec (fun hc => ?_) (fun hc => ?_) | refine cnd_ndec (fun hc => ?_) (fun hc => ?_) | refine cnd_dec' (fun hc => ?_) (fun hc => ?_) | refine fin_nsplit (fun hc => ?_) (fun hc => ?_) | refine fin_split (fun hc => ?_) (fun hc => ?_) | refine cnd_nsplit (fun hc => ?_) (fun hc => ?_) | refine cnd_split (fun hc => ?_) (fun hc => ?_) | refine blk_exit_id ?_)
        rw [late_zero] at g4
        simp [laterOf, hD, hn1, hn2, ← g4, DV.i]
      | succ n =>
        have hz : (n0 - ((n + 1 : Nat) : Int) < n0) = True := by simp; omega
        obtain ⟨k, rfl⟩ : ∃ k', k = k' + 1 := ⟨k - 1, by omega⟩
        have g6 : innF l k (d + 1) n = lateF l (795364 - d0).toNat d0 n0.toNat := g4
        have v1 := wI (n := d + 1) (by omega) (by omega)
        have hc := Nat.zero_add 0
        repeat' (first | (simp only [hc, hz, v1, AB, PL, RG, LP, TY, Nat.reduceEqDiff, Nat.reduceAdd, Nat.reduceSub, Nat.reduceMul, Nat.reduceLT, Nat.reduceLeDiff, Nat.reduceMod, Nat.reduceDiv, reduceCtorEq, Int.reduceEq, Int.reduceNe, Int.reduceLT, Int.reduceLE, Int.reduceNeg, Int.reduceToNat, Int.reduceAdd, Int.reduceSub, Int.reduceMul, ↓reduceIte, forall_const, eq_self, ne_eq, Option.some.injEq, beq_self_eq_true]) | refine fin_ndec (fun hc => ?_) (fun hc => ?_) | refine fin_dec (fun hc => ?_) (fun hc => ?_) | refine cnd_ndec (fun hc => ?_) (fun hc => ?_) | refine cnd_dec' (fun hc => ?_) (fun hc => ?_) | refine fin_nsplit (fun hc => ?_) (fun hc => ?_) | refine fin_split (fun hc => ?_) (fun hc => ?_) | refine cnd_nsplit (fun hc => ?_) (fun hc => ?_) | refine cnd_split (fun hc => ?_) (fun hc => ?_) | refine blk_exit_id ?_)
        refine awp_loop (σ := Nat × Int) (fun p => p.2 + p.1 = 795364 ∧ 0 ≤ p.2 ∧ innF l p.1 p.2 n = lateF l (795364 - d0).toNat d0 n0.toNat) (fun p => ⟨[(8, AV.i p.2), (9, AV.i (n0 - ((n + 1 : Nat) : Int))), (2, AV.i n0), (0, AV.d (.sl f (l.map rowN)))], []⟩) (fun p => p.1) (k, d + 1) (Wk.sub (by simp [subT, look])) ⟨by simp only []; omega, by simp only []; omega, g6⟩ ?_
        rintro ⟨q, e⟩ ⟨a1, a2, a3⟩
        dsimp only at a1 a2 a3 ⊢
        by_cases hE : isD e = true
        · have he := isD_iff.1 hE
          simp only [innF, if_pos hE] at a3
          by_cases hb : busB l e = true
          · rw [if_pos hb] at a3
            have v2 : IntKind.i64.wrap (n0 - ((n : Int) + 1) + 1) = n0 - n := by rw [wI (by omega) (by omega)]; omega
            have hc := Nat.zero_add 0
            repeat' (first | (simp only [hc, risDay_m, bus_m, mli_eq, mEq, hE, hb, hll, AB, PL, RG, LP, TY, Nat.reduceEqDiff, Nat.reduceAdd, Nat.reduceSub, Nat.reduceMul, Nat.reduceLT, Nat.reduceLeDiff, Nat.reduceMod, Nat.reduceDiv, reduceCtorEq, Int.reduceEq, Int.reduceNe, Int.reduceLT, Int.reduceLE, Int.reduceNeg, Int.reduceToNat, Int.reduceAdd, Int.reduceSub, Int.reduceMul, ↓reduceIte, forall_const, eq_self, ne_eq, Option.some.injEq, beq_self_eq_true]) | refine fin_ndec (fun hc => ?_) (fun hc => ?_) | refine fin_dec (fun hc => ?_) (fun hc => ?_) | refine cnd_ndec (fun hc => ?_) (fun hc => ?_) | refine cnd_dec' (fun hc => ?_) (fun hc => ?_) | refine fin_nsplit (fun hc => ?_) (fun hc => ?_) | refine fin_split (fun hc => ?_) (fun hc => ?_) | refine cnd_nsplit (fun hc => ?_) (fun hc => ?_) | refine cnd_split (fun hc => ?_) (fun hc => ?_) | refine blk_exit_id ?_)
            refine lp_next (q, e, n) (Wk.sub (by simp [subT, look, v2])) ⟨by simp only []; omega, by simp only []; omega, by simp only []; omega, by simp only []; omega, a3⟩ (by simp only []; omega)
          · rw [if_neg hb] at a3
            have v2 := wI (n := e + 1) (by omega) (by omega)
            obtain ⟨q, rfl⟩ : ∃ q', q = q' + 1 := ⟨q - 1, by omega⟩
            have hc := Nat.zero_add 0
            repeat' (first | (simp only [hc, risDay_m, bus_m, mli_eq, mEq, hE, hb, hll, AB, PL, RG, LP, TY, Nat.reduceEqDiff, Nat.reduceAdd, Nat.reduceSub, Nat.reduceMul, Nat.reduceLT, Nat.reduceLeDiff, Nat.reduceMod, Nat.reduceDiv, reduceCtorEq, Int.reduceEq, Int.reduceNe, Int.reduceLT, Int.reduceLE, Int.reduceNeg, Int.reduceToNat, Int.reduceAdd, Int.reduceSub, Int.reduceMul, ↓reduceIte, forall_const, eq_self, ne_eq, Option.some.injEq, beq_self_eq_true]) | refine fin_ndec (fun hc => ?_) (fun hc => ?_) | refine fin_dec (fun hc => ?_) (fun hc => ?_) | refine cnd_ndec (fun hc => ?_) (fun hc => ?_) | refine cnd_dec' (fun hc => ?_) (fun hc => ?_) | refine fin_nsplit (fun hc => ?_) (fun hc => ?_) | refine fin_split (fun hc => ?_) (fun hc => ?_) | refine cnd_nsplit (fun hc => ?_) (fun hc => ?_) | refine cnd_split (fun hc => ?_) (fun hc => ?_) | refine blk_exit_id ?_)
            exact lp_next (q, e + 1) (Wk.sub (by simp [subT, look, v2])) ⟨by simp only []; omega, by simp only []; omega, a3⟩ (by simp only []; omega)
        · simp only [innF, if_neg hE] at a3
          have hc := Nat.zero_add 0
          repeat' (first | (simp only [hc, risDay_m, bus_m, mli_eq, mEq, hE, AB, PL, RG, LP, TY, Nat.reduceEqDiff, Nat.reduceAdd, Nat.reduceSub, Nat.reduceMul, Nat.reduceLT, Nat.reduceLeDiff, Nat.reduceMod, Nat.reduceDiv, reduceCtorEq, Int.reduceEq, Int.reduceNe, Int.reduceLT, Int.reduceLE, Int.reduceNeg, Int.reduceToNat, Int.reduceAdd, Int.reduceSub, Int.reduceMul, ↓reduceIte, forall_const, eq_self, ne_eq, Option.some.injEq, beq_self_eq_true]) | refine fin_ndec (fun hc => ?_) (fun hc => ?_) | refine fin_dec (fun hc => ?_) (fun hc => ?_) | refine cnd_ndec (fun hc => ?_) (fun hc => ?_) | refine cnd_dec' (fun hc => ?_) (fun hc => ?_) | refine fin_nsplit (fun hc => ?_) (fun hc => ?_) | refine fin_split (fun hc => ?_) (fun hc => ?_) | refine cnd_nsplit (fun hc => ?_) (fun hc => ?_) | refine cnd_split (fun hc => ?_) (fun hc => ?_) | refine blk_exit_id ?_)
          simp [laterOf, hD, hn1, hn2, ← a3, DV.i]
    · skip
      have hc := Nat.zero_add 0
      repeat' (first | (simp only [hc, Tryd.f76, risDay_m, mEq, hD, AB, PL, RG, LP, TY, Nat.reduceEqDiff, Nat.reduceAdd, Nat.reduceSub, Nat.reduceMul, Nat.reduceLT, Nat.reduceLeDiff, Nat.reduceMod, Nat.reduceDiv, reduceCtorEq, Int.reduceEq, Int.reduceNe, Int.reduceLT, Int.reduceLE, Int.reduceNeg, Int.reduceToNat, Int.reduceAdd, Int.reduceSub, Int.reduceMul, ↓reduceIte, forall_const, eq_self, ne_eq, Option.some.injEq, beq_self_eq_true]) | refine fin_ndec (fun hc => ?_) (fun hc => ?_) | refine fin_dec (fun hc => ?_) (fun hc => ?_) | refine cnd_ndec (fun hc => ?_) (fun hc => ?_) | refine cnd_dec' (fun hc => ?_) (fun hc => ?_) | refine fin_nsplit (fun hc => ?_) (fun hc => ?_) | refine fin_split (fun hc => ?_) (fun hc => ?_) | refine cnd_nsplit (fun hc => ?_) (fun hc => ?_) | refine cnd_split (fun hc => ?_) (fun hc => ?_) | refine blk_exit_id ?_)
      all_goals simp_all [laterOf, DV.i]
  · cases h

end Go.Ab
