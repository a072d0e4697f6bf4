/-
  Texts of the layer and of the laws, put together: AbQ11. No law is stated here.
-/
import Derived.Test.YtfokeholingnjaaDoorAbV34
set_option linter.unusedSimpArgs false
set_option linter.unusedVariables false
set_option maxRecDepth 100000

/-
  What the functions of reports compute: rules, deadlines, totals of a ledger.
-/
namespace Go.Ab
open Go.RowKit Go.Proofs

noncomputable section
open Classical

def encLw (w : Lw) : List PA := [.agg w.row]
theorem encLw_inj (a b : Lw) (h : encLw a = encLw b) : a = b := by
  obtain ⟨a1, a2, a3, a4, a5⟩ := a
  obtain ⟨b1, b2, b3, b4, b5⟩ := b
  simp [encLw, Lw.row, mapN_inj] at h
  simp [h]
def encK (x : Cas) : List PA := [.agg x.row]
theorem encK_inj (a b : Cas) (h : encK a = encK b) : a = b := Cas.inj a b (by simpa [encK] using h)
def encDue (p : Lw × (Bool × List Int) × Cas) : List PA := [.agg p.1.row, .c (.sl p.2.1.1 (p.2.1.2.map rowN)), .agg p.2.2.row]
theorem encDue_inj (a b : Lw × (Bool × List Int) × Cas) (h : encDue a = encDue b) : a = b := by
  obtain ⟨a1, ⟨a2, a3⟩, a4⟩ := a
  obtain ⟨b1, ⟨b2, b3⟩, b4⟩ := b
  simp only [encDue, List.cons.injEq, DV.agg.injEq, DV.c.injEq, D.sl.injEq, mapN_inj, and_true] at h
  obtain ⟨h1, ⟨h2, h3⟩, h4⟩ := h
  have e1 := encLw_inj a1 b1 (by rw [encLw, encLw, h1])
  have e4 := Cas.inj _ _ h4
  rw [e1, h2, h3, e4]

def ncheck_m : List PA → Option (List PA) := mE encLw fun w => some [.i (lawOk w)]
def rncheck_m : List PA → Option (List PA) := mE encLw fun w => some [.i (lawOk w)]
def nopen_m : List PA → Option (List PA) := mE encK fun x => some [.b (openB x.stage)]
def rnopen_m : List PA → Option (List PA) := mE encK fun x => some [.b (openB x.stage)]
def ndue_m : List PA → Option (List PA) := mE encDue fun p => if p.2.1.2.length ≤ 1000 then some [.i (dueF p.1 p.2.1.2 p.2.2).1, .b (dueF p.1 p.2.1.2 p.2.2).2] else none
def rndue_m : List PA → Option (List PA) := mE encDue fun p => if p.2.1.2.length ≤ 1000 then some [.i (dueF p.1 p.2.1.2 p.2.2).1, .b (dueF p.1 p.2.1.2 p.2.2).2] else none

theorem nopen_ok : PureC Tryd.prog Gt 49 nopen_m := by
  refine pure_of_awp (X := ctx Tryd.prog Gt []) Tryd.func49 rfl rfl (by kernel_rfl) (by kernel_rfl) AllOk.nil.kok ?_
  intro args r h0
  obtain ⟨x, rfl, h⟩ := mE_inv h0
  refine ⟨Nat.le_of_ble_eq_true rfl, ?_⟩
  cases h
  have hc := Nat.zero_add 0
  repeat' (first | (simp only [hc, Tryd.f49, encK, Cas.row, AB, PL, RG, LP, TY, Nat.reduceEqDiff, Nat.reduceAdd, Nat.reduceSub, Nat.reduceMul, Nat.reduceLT, Nat.reduceLeDiff, Nat.reduceMod, Nat.reduceDiv, reduceCtorEq, Int.reduceEq, Int.reduceNe, Int.reduceLT, Int.reduceLE, Int.reduceNeg, Int.reduceToNat, Int.reduceAdd, Int.reduceSub, Int.reduceMul, ↓reduceIte, forall_const, eq_self, ne_eq, Option.some.injEq, beq_self_eq_true]) | refine fin_ndec (fun hc => ?_) (fun hc => ?_) | refine fin_dec (fun hc => ?_) (fun hc => ?_) | refine cnd_ndec (fun hc => ?_) (fun hc => ?_) | refine cnd_dec' (fun hc => ?_) (fun hc => ?_) | refine fin_nsplit (fun hc => ?_) (fun hc => ?_) | refine fin_split (fun hc => ?_) (fun hc => ?_) | refine cnd_nsplit (fun hc => ?_) (fun hc => ?_) | refine cnd_split (fun hc => ?_) (fun hc => ?_) | refine blk_exit_id ?_)
  all_goals (simp_all [openB, DV.b]; try omega)

theorem rnopen_ok : PureC Tryd.prog Gt 50 rnopen_m := by
  refine pure_of_awp (X := ctx Tryd.prog Gt []) Tryd.func50 rfl rfl (by kernel_rfl) (by kernel_rfl) AllOk.nil.kok ?_
  intro args r h0
  obtain ⟨x, rfl, h⟩ := mE_inv h0
  refine ⟨Nat.le_of_ble_eq_true rfl, ?_⟩
  cases h
  have hc := Nat.zero_add 0
  repeat' (first | (simp only [hc, Tryd.f50, encK, Cas.row, AB, PL, RG, LP, TY, Nat.reduceEqDiff, Nat.reduceAdd, Nat.reduceSub, Nat.reduceMul, Nat.reduceLT, Nat.reduceLeDiff, Nat.reduceMod, Nat.reduceDiv, reduceCtorEq, Int.reduceEq, Int.reduceNe, Int.reduceLT, Int.reduceLE, Int.reduceNeg, Int.reduceToNat, Int.reduceAdd, Int.reduceSub, Int.reduceMul, ↓reduceIte, forall_const, eq_self, ne_eq, Option.some.injEq, beq_self_eq_true]) | refine fin_ndec (fun hc => ?_) (fun hc => ?_) | refine fin_dec (fun hc => ?_) (fun hc => ?_) | refine cnd_ndec (fun hc => ?_) (fun hc => ?_) | refine cnd_dec' (fun hc => ?_) (fun hc => ?_) | refine fin_nsplit (fun hc => ?_) (fun hc => ?_) | refine fin_split (fun hc => ?_) (fun hc => ?_) | refine cnd_nsplit (fun hc => ?_) (fun hc => ?_) | refine cnd_split (fun hc => ?_) (fun hc => ?_) | refine blk_exit_id ?_)
  all_goals (simp_all [openB, DV.b]; try omega)

theorem law3 {w : Lw} (h : w.days.length ≠ 4 ∨ w.fees.length ≠ 4) : lawOk w = 3 := by unfold lawOk; rw [if_pos h]
theorem law1 {w : Lw} (h1 : w.days.length = 4) (h2 : w.fees.length = 4) {d : Int} (hd : d ∈ w.days) (h : d < 1 ∨ 4096 < d) : lawOk w = 1 := by
  unfold lawOk
  rw [if_neg (by omega), if_pos]
  rw [List.any_eq_true]
  exact ⟨d, hd, by simp; omega⟩
theorem law13 {w : Lw} (h1 : w.days.length = 4) (h2 : w.fees.length = 4) (hd : ∀ d ∈ w.days, 1 ≤ d ∧ d ≤ 4096) {n : Int} (hn : n ∈ w.fees) (h : n < 0 ∨ 2147483648 < n) : lawOk w = 13 := by
  unfold lawOk
  rw [if_neg (by omega), if_neg, if_pos]
  · rw [List.any_eq_true]
    exact ⟨n, hn, by simp; omega⟩
  · rw [List.any_eq_true]
    rintro ⟨d, h3, h4⟩
    have := hd d h3
    simp at h4
    omega
theorem law_end {w : Lw} (h1 : w.days.length = 4) (h2 : w.fees.length = 4) (hd : ∀ d ∈ w.days, 1 ≤ d ∧ d ≤ 4096) (hn : ∀ n ∈ w.fees, 0 ≤ n ∧ n ≤ 2147483648) : lawOk w = if w.limit < 1 ∨ 795364 ≤ w.limit then 12 else 0 := by
  unfold lawOk
  rw [if_neg (by omega), if_neg, if_neg]
  · rw [List.any_eq_true]
    rintro ⟨n, h3, h4⟩
    have := hn n h3
    simp at h4
    omega
  · rw [List.any_eq_true]
    rintro ⟨d, h3, h4⟩
    have := hd d h3
    simp at h4
    omega
theorem all_snoc {α : Type} {P : α → Prop} {l : List α} {j : Nat} (h : j < l.length) (ha : ∀ x ∈ l.take j, P x) (hx : P l[j]) : ∀ x ∈ l.take (j + 1), P x := fun x hm => by
  rw [List.take_succ_eq_append_getElem h, List.mem_append, List.mem_singleton] at hm
  rcases hm with hm | rfl
  · exact ha x hm
  · exact hx

theorem ncheck_ok : PureC Tryd.prog Gt 73 ncheck_m := by
  refine pure_of_awp (X := ctx Tryd.prog Gt []) Tryd.func73 rfl rfl (by kernel_rfl) (by kernel_rfl) AllOk.nil.kok ?_
  intro args r h0
  obtain ⟨w, rfl, h⟩ := mE_inv h0
  refine ⟨Nat.le_of_ble_eq_true rfl, ?_⟩
  cases h
  have h3 := @law3 w
  have h1 := @law1 w
  have h13 := @law13 w
  have hend := @law_end w
  generalize lawOk w = r at *
  obtain ⟨df, days, ff, fees, lim⟩ := w
  dsimp only at h3 h1 h13 hend
  have l1 : ((days.map rowN).length : Int) = days.length := by simp
  have l2 : ((fees.map rowN).length : Int) = fees.length := by simp
  by_cases c1 : days.length = 4
  · have c1' : ((days.length : Int) = 4) = True := eq_true (by omega)
    by_cases c2 : fees.length = 4
    · have c2' : ((fees.length : Int) = 4) = True := eq_true (by omega)
      have hc := Nat.zero_add 0
      repeat' (first | (simp only [hc, Tryd.f73, encLw, Lw.row, SX, l1, l2, c1', c2', AB, PL, RG, LP, TY, Nat.reduceEqDiff, Nat.reduceAdd, Nat.reduceSub, Nat.reduceMul, Nat.reduceLT, Nat.reduceLeDiff, Nat.reduceMod, Nat.reduceDiv, reduceCtorEq, Int.reduceEq, Int.reduceNe, Int.reduceLT, Int.reduceLE, Int.reduceNeg, Int.reduceToNat, Int.reduceAdd, Int.reduceSub, Int.reduceMul, ↓reduceIte, forall_const, eq_self, ne_eq, Option.some.injEq, beq_self_eq_true]) | refine fin_ndec (fun hc => ?_) (fun hc => ?_) | refine fin_dec (fun hc => ?_) (fun hc => ?_) | refine cnd_ndec (fun hc => ?_) (fun hc => ?_) | refine cnd_dec' (fun hc => ?_) (fun hc => ?_) | refine fin_nsplit (fun hc => ?_) (fun hc => ?_) | refine fin_split (fun hc => ?_) (fun hc => ?_) | refine cnd_nsplit (fun hc => ?_) (fun hc => ?_) | refine cnd_split (fun hc => ?_) (fun hc => ?_) | refine blk_exit_id ?_)
      refine awp_loop (σ := Nat) (fun j => j ≤ days.length ∧ ∀ d ∈ days.take j, 1 ≤ d ∧ d ≤ 4096) (fun j => ⟨[(20, AV.i j), (19, AV.i days.length), (18, AV.d (.sl df (days.map rowN))), (1, .v (.c (.ptr 0 0)))], [.box [.d (.sl df (days.map rowN)), .d (.sl ff (fees.map rowN)), .d (.int .i64 lim)]]⟩) (fun j => days.length - j) 0 (Wk.sub' (by simp [subT, look]) rfl) (by simp) ?_
      rintro j ⟨hj, hall⟩
      by_cases hjl : j < days.length
      · have e1 : (days.map rowN)[j]? = some [.int .i64 days[j]] := by simp [hjl, rowN]
        have hlt : ((j : Int) < (days.length : Int)) = True := eq_true (by omega)
        have hw := wI (n := (j : Int) + 1) (by omega) (by omega)
        have hmem := List.getElem_mem hjl
        have hs := all_snoc (P := fun d => 1 ≤ d ∧ d ≤ 4096) hjl hall
        generalize days[j] = y at *
        by_cases b1 : y < 1
        · have hr := h1 c1 c2 hmem (.inl b1)
          have hc := Nat.zero_add 0
          repeat' (first | (simp only [hc, SX, l1, e1, hlt, nn, b1, AB, PL, RG, LP, TY, Nat.reduceEqDiff, Nat.reduceAdd, Nat.reduceSub, Nat.reduceMul, Nat.reduceLT, Nat.reduceLeDiff, Nat.reduceMod, Nat.reduceDiv, reduceCtorEq, Int.reduceEq, Int.reduceNe, Int.reduceLT, Int.reduceLE, Int.reduceNeg, Int.reduceToNat, Int.reduceAdd, Int.reduceSub, Int.reduceMul, ↓reduceIte, forall_const, eq_self, ne_eq, Option.some.injEq, beq_self_eq_true]) | refine fin_ndec (fun hc => ?_) (fun hc => ?_) | refine fin_dec (fun hc => ?_) (fun hc => ?_) | refine cnd_ndec (fun hc => ?_) (fun hc => ?_) | refine cnd_dec' (fun hc => ?_) (fun hc => ?_) | refine fin_nsplit (fun hc => ?_) (fun hc => ?_) | refine fin_split (fun hc => ?_) (fun hc => ?_) | refine cnd_nsplit (fun hc => ?_) (fun hc => ?_) | refine cnd_split (fun hc => ?_) (fun hc => ?_) | refine blk_exit_id ?_)
          all_goals simp [hr, DV.i]
        by_cases b2 : 4096 < y
        · have hr := h1 c1 c2 hmem (.inr b2)
          have hc := Nat.zero_add 0
          repeat' (first | (simp only [hc, SX, l1, e1, hlt, nn, b1, b2, AB, PL, RG, LP, TY, Nat.reduceEqDiff, Nat.reduceAdd, Nat.reduceSub, Nat.reduceMul, Nat.reduceLT, Nat.reduceLeDiff, Nat.reduceMod, Nat.reduceDiv, reduceCtorEq, Int.reduceEq, Int.reduceNe, Int.reduceLT, Int.reduceLE, Int.reduceNeg, Int.reduceToNat, Int.reduceAdd, Int.reduceSub, Int.reduceMul, ↓reduceIte, forall_const, eq_self, ne_eq, Option.some.injEq, beq_self_eq_true]) | refine fin_ndec (fun hc => ?_) (fun hc => ?_) | refine fin_dec (fun hc => ?_) (fun hc => ?_) | refine cnd_ndec (fun hc => ?_) (fun hc => ?_) | refine cnd_dec' (fun hc => ?_) (fun hc => ?_) | refine fin_nsplit (fun hc => ?_) (fun hc => ?_) | refine fin_split (fun hc => ?_) (fun hc => ?_) | refine cnd_nsplit (fun hc => ?_) (fun hc => ?_) | refine cnd_split (fun hc => ?_) (fun hc => ?_) | refine blk_exit_id ?_)
          all_goals simp [hr, DV.i]
        have hc := Nat.zero_add 0
        repeat' (first | (simp only [hc, SX, l1, e1, hlt, nn, hw, b1, b2, AB, PL, RG, LP, TY, Nat.reduceEqDiff, Nat.reduceAdd, Nat.reduceSub, Nat.reduceMul, Nat.reduceLT, Nat.reduceLeDiff, Nat.reduceMod, Nat.reduceDiv, reduceCtorEq, Int.reduceEq, Int.reduceNe, Int.reduceLT, Int.reduceLE, Int.reduceNeg, Int.reduceToNat, Int.reduceAdd, Int.reduceSub, Int.reduceMul, ↓reduceIte, forall_const, eq_self, ne_eq, Option.some.injEq, beq_self_eq_true]) | refine fin_ndec (fun hc => ?_) (fun hc => ?_) | refine fin_dec (fun hc => ?_) (fun hc => ?_) | refine cnd_ndec (fun hc => ?_) (fun hc => ?_) | refine cnd_dec' (fun hc => ?_) (fun hc => ?_) | refine fin_nsplit (fun hc => ?_) (fun hc => ?_) | refine fin_split (fun hc => ?_) (fun hc => ?_) | refine cnd_nsplit (fun hc => ?_) (fun hc => ?_) | refine cnd_split (fun hc => ?_) (fun hc => ?_) | refine blk_exit_id ?_)
        exact lp_next (j + 1) (Wk.sub' (by simp [subT, look]) rfl) ⟨by omega, hs ⟨by omega, by omega⟩⟩ (by omega)
      have hlt : ((j : Int) < (days.length : Int)) = False := eq_false (by omega)
      rw [List.take_of_length_le (by omega)] at hall
      have hc := Nat.zero_add 0
      repeat' (first | (simp only [hc, SX, l1, l2, hlt, AB, PL, RG, LP, TY, Nat.reduceEqDiff, Nat.reduceAdd, Nat.reduceSub, Nat.reduceMul, Nat.reduceLT, Nat.reduceLeDiff, Nat.reduceMod, Nat.reduceDiv, reduceCtorEq, Int.reduceEq, Int.reduceNe, Int.reduceLT, Int.reduceLE, Int.reduceNeg, Int.reduceToNat, Int.reduceAdd, Int.reduceSub, Int.reduceMul, ↓reduceIte, forall_const, eq_self, ne_eq, Option.some.injEq, beq_self_eq_true]) | refine fin_ndec (fun hc => ?_) (fun hc => ?_) | refine fin_dec (fun hc => ?_) (fun hc => ?_) | refine cnd_ndec (fun hc => ?_) (fun hc => ?_) | refine cnd_dec' (fun hc => ?_) (fun hc => ?_) | refine fin_nsplit (fun hc => ?_) (fun hc => ?_) | refine fin_split (fun hc => ?_) (fun hc => ?_) | refine cnd_nsplit (fun hc => ?_) (fun hc => ?_) | refine cnd_split (fun hc => ?_) (fun hc => ?_) | refine blk_exit_id ?_)
      refine awp_loop (σ := Nat) (fun j => j ≤ fees.length ∧ ∀ d ∈ fees.take j, 0 ≤ d ∧ d ≤ 2147483648) (fun j => ⟨[(34, AV.i j), (33, AV.i fees.length), (32, AV.d (.sl ff (fees.map rowN))), (1, .v (.c (.ptr 0 0)))], [.box [.d (.sl df (days.map rowN)), .d (.sl ff (fees.map rowN)), .d (.int .i64 lim)]]⟩) (fun j => fees.length - j) 0 (Wk.sub' (by simp [subT, look]) rfl) (by simp) ?_
      rintro i ⟨hi, hall2⟩
      by_cases hil : i < fees.length
      · have e1 : (fees.map rowN)[i]? = some [.int .i64 fees[i]] := by simp [hil, rowN]
        have hlt : ((i : Int) < (fees.length : Int)) = True := eq_true (by omega)
        have hw := wI (n := (i : Int) + 1) (by omega) (by omega)
        have hmem := List.getElem_mem hil
        have hs := all_snoc (P := fun d => 0 ≤ d ∧ d ≤ 2147483648) hil hall2
        generalize fees[i] = y at *
        by_cases b1 : y < 0
        · have hr := h13 c1 c2 hall hmem (.inl b1)
          have hc := Nat.zero_add 0
          repeat' (first | (simp only [hc, SX, l2, e1, hlt, nn, b1, AB, PL, RG, LP, TY, Nat.reduceEqDiff, Nat.reduceAdd, Nat.reduceSub, Nat.reduceMul, Nat.reduceLT, Nat.reduceLeDiff, Nat.reduceMod, Nat.reduceDiv, reduceCtorEq, Int.reduceEq, Int.reduceNe, Int.reduceLT, Int.reduceLE, Int.reduceNeg, Int.reduceToNat, Int.reduceAdd, Int.reduceSub, Int.reduceMul, ↓reduceIte, forall_const, eq_self, ne_eq, Option.some.injEq, beq_self_eq_true]) | refine fin_ndec (fun hc => ?_) (fun hc => ?_) | refine fin_dec (fun hc => ?_) (fun hc => ?_) | refine cnd_ndec (fun hc => ?_) (fun hc => ?_) | refine cnd_dec' (fun hc => ?_) (fun hc => ?_) | refine fin_nsplit (fun hc => ?_) (fun hc => ?_) | refine fin_split (fun hc => ?_) (fun hc => ?_) | refine cnd_nsplit (fun hc => ?_) (fun hc => ?_) | refine cnd_split (fun hc => ?_) (fun hc => ?_) | refine blk_exit_id ?_)
          all_goals simp [hr, DV.i]
        by_cases b2 : 2147483648 < y
        · have hr := h13 c1 c2 hall hmem (.inr b2)
          have hc := Nat.zero_add 0
          repeat' (first | (simp only [hc, SX, l2, e1, hlt, nn, b1, b2, AB, PL, RG, LP, TY, Nat.reduceEqDiff, Nat.reduceAdd, Nat.reduceSub, Nat.reduceMul, Nat.reduceLT, Nat.reduceLeDiff, Nat.reduceMod, Nat.reduceDiv, reduceCtorEq, Int.reduceEq, Int.reduceNe, Int.reduceLT, Int.reduceLE, Int.reduceNeg, Int.reduceToNat, Int.reduceAdd, Int.reduceSub, Int.reduceMul, ↓reduceIte, forall_const, eq_self, ne_eq, Option.some.injEq, beq_self_eq_true]) | refine fin_ndec (fun hc => ?_) (fun hc => ?_) | refine fin_dec (fun hc => ?_) (fun hc => ?_) | refine cnd_ndec (fun hc => ?_) (fun hc => ?_) | refine cnd_dec' (fun hc => ?_) (fun hc => ?_) | refine fin_nsplit (fun hc => ?_) (fun hc => ?_) | refine fin_split (fun hc => ?_) (fun hc => ?_) | refine cnd_nsplit (fun hc => ?_) (fun hc => ?_) | refine cnd_split (fun hc => ?_) (fun hc => ?_) | refine blk_exit_id ?_)
          all_goals simp [hr, DV.i]
        have hc := Nat.zero_add 0
        repeat' (first | (simp only [hc, SX, l2, e1, hlt, nn, hw, b1, b2, AB, PL, RG, LP, TY, Nat.reduceEqDiff, Nat.reduceAdd, Nat.reduceSub, Nat.reduceMul, Nat.reduceLT, Nat.reduceLeDiff, Nat.reduceMod, Nat.reduceDiv, reduceCtorEq, Int.reduceEq, Int.reduceNe, Int.reduceLT, Int.reduceLE, Int.reduceNeg, Int.reduceToNat, Int.reduceAdd, Int.reduceSub, Int.reduceMul, ↓reduceIte, forall_const, eq_self, ne_eq, Option.some.injEq, beq_self_eq_true]) | refine fin_ndec (fun hc => ?_) (fun hc => ?_) | refine fin_dec (fun hc => ?_) (fun hc => ?_) | refine cnd_ndec (fun hc => ?_) (fun hc => ?_) | refine cnd_dec' (fun hc => ?_) (fun hc => ?_) | refine fin_nsplit (fun hc => ?_) (fun hc => ?_) | refine fin_split (fun hc => ?_) (fun hc => ?_) | refine cnd_nsplit (fun hc => ?_) (fun hc => ?_) | refine cnd_split (fun hc => ?_) (fun hc => ?_) | refine blk_exit_id ?_)
        exact lp_next (i + 1) (Wk.sub' (by simp [subT, look]) rfl) ⟨by omega, hs ⟨by omega, by omega⟩⟩ (by omega)
      have hlt : ((i : Int) < (fees.length : Int)) = False := eq_false (by omega)
      rw [List.take_of_length_le (by omega)] at hall2
      have hr := hend c1 c2 hall hall2
      by_cases b1 : lim < 1
      · rw [if_pos (.inl b1)] at hr
        have hc := Nat.zero_add 0
        repeat' (first | (simp only [hc, SX, l2, hlt, b1, AB, PL, RG, LP, TY, Nat.reduceEqDiff, Nat.reduceAdd, Nat.reduceSub, Nat.reduceMul, Nat.reduceLT, Nat.reduceLeDiff, Nat.reduceMod, Nat.reduceDiv, reduceCtorEq, Int.reduceEq, Int.reduceNe, Int.reduceLT, Int.reduceLE, Int.reduceNeg, Int.reduceToNat, Int.reduceAdd, Int.reduceSub, Int.reduceMul, ↓reduceIte, forall_const, eq_self, ne_eq, Option.some.injEq, beq_self_eq_true]) | refine fin_ndec (fun hc => ?_) (fun hc => ?_) | refine fin_dec (fun hc => ?_) (fun hc => ?_) | refine cnd_ndec (fun hc => ?_) (fun hc => ?_) | refine cnd_dec' (fun hc => ?_) (fun hc => ?_) | refine fin_nsplit (fun hc => ?_) (fun hc => ?_) | refine fin_split (fun hc => ?_) (fun hc => ?_) | refine cnd_nsplit (fun hc => ?_) (fun hc => ?_) | refine cnd_split (fun hc => ?_) (fun hc => ?_) | refine blk_exit_id ?_)
        all_goals simp [hr, DV.i]
      by_cases b2 : 795364 ≤ lim
      · rw [if_pos (.inr b2)] at hr
        have hc := Nat.zero_add 0
        repeat' (first | (simp only [hc, SX, l2, hlt, b1, b2, AB, PL, RG, LP, TY, Nat.reduceEqDiff, Nat.reduceAdd, Nat.reduceSub, Nat.reduceMul, Nat.reduceLT, Nat.reduceLeDiff, Nat.reduceMod, Nat.reduceDiv, reduceCtorEq, Int.reduceEq, Int.reduceNe, Int.reduceLT, Int.reduceLE, Int.reduceNeg, Int.reduceToNat, Int.reduceAdd, Int.reduceSub, Int.reduceMul, ↓reduceIte, forall_const, eq_self, ne_eq, Option.some.injEq, beq_self_eq_true]) | refine fin_ndec (fun hc => ?_) (fun hc => ?_) | refine fin_dec (fun hc => ?_) (fun hc => ?_) | refine cnd_ndec (fun hc => ?_) (fun hc => ?_) | refine cnd_dec' (fun hc => ?_) (fun hc => ?_) | refine fin_nsplit (fun hc => ?_) (fun hc => ?_) | refine fin_split (fun hc => ?_) (fun hc => ?_) | refine cnd_nsplit (fun hc => ?_) (fun hc => ?_) | refine cnd_split (fun hc => ?_) (fun hc => ?_) | refine blk_exit_id ?_)
        all_goals simp [hr, DV.i]
      rw [if_neg (by omega)] at hr
      have hc := Nat.zero_add 0
      repeat' (first | (simp only [hc, SX, l2, hlt, b1, b2, AB, PL, RG, LP, TY, Nat.reduceEqDiff, Nat.reduceAdd, Nat.reduceSub, Nat.reduceMul, Nat.reduceLT, Nat.reduceLeDiff, Nat.reduceMod, Nat.reduceDiv, reduceCtorEq, Int.reduceEq, Int.reduceNe, Int.reduceLT, Int.reduceLE, Int.reduceNeg, Int.reduceToNat, Int.reduceAdd, Int.reduceSub, Int.reduceMul, ↓reduceIte, forall_const, eq_self, ne_eq, Option.some.injEq, beq_self_eq_true]) | refine fin_ndec (fun hc => ?_) (fun hc => ?_) | refine fin_dec (fun hc => ?_) (fun hc => ?_) | refine cnd_ndec (fun hc => ?_) (fun hc => ?_) | refine cnd_dec' (fun hc => ?_) (fun hc => ?_) | refine fin_nsplit (fun hc => ?_) (fun hc => ?_) | refine fin_split (fun hc => ?_) (fun hc => ?_) | refine cnd_nsplit (fun hc => ?_) (fun hc => ?_) | refine cnd_split (fun hc => ?_) (fun hc => ?_) | refine blk_exit_id ?_)
      all_goals simp [hr, DV.i]
    · have c2' : ((fees.length : Int) = 4) = False := eq_false (by omega)
      have hr := h3 (.inr c2)
      have hc := Nat.zero_add 0
      repeat' (first | (simp only [hc, Tryd.f73, encLw, Lw.row, SX, l1, l2, c1', c2', AB, PL, RG, LP, TY, Nat.reduceEqDiff, Nat.reduceAdd, Nat.reduceSub, Nat.reduceMul, Nat.reduceLT, Nat.reduceLeDiff, Nat.reduceMod, Nat.reduceDiv, reduceCtorEq, Int.reduceEq, Int.reduceNe, Int.reduceLT, Int.reduceLE, Int.reduceNeg, Int.reduceToNat, Int.reduceAdd, Int.reduceSub, Int.reduceMul, ↓reduceIte, forall_const, eq_self, ne_eq, Option.some.injEq, beq_self_eq_true]) | refine fin_ndec (fun hc => ?_) (fun hc => ?_) | refine fin_dec (fun hc => ?_) (fun hc => ?_) | refine cnd_ndec (fun hc => ?_) (fun hc => ?_) | refine cnd_dec' (fun hc => ?_) (fun hc => ?_) | refine fin_nsplit (fun hc => ?_) (fun hc => ?_) | refine fin_split (fun hc => ?_) (fun hc => ?_) | refine cnd_nsplit (fun hc => ?_) (fun hc => ?_) | refine cnd_split (fun hc => ?_) (fun hc => ?_) | refine blk_exit_id ?_)
      all_goals simp [hr, DV.i]
  · have c1' : ((days.length : Int) = 4) = False := eq_false (by omega)
    have hr := h3 (.inl c1)
    have hc := Nat.zero_add 0
    repeat' (first | (simp only [hc, Tryd.f73, encLw, Lw.row, SX, l1, l2, c1', AB, PL, RG, LP, TY, Nat.reduceEqDiff, Nat.reduceAdd, Nat.reduceSub, Nat.reduceMul, Nat.reduceLT, Nat.reduceLeDiff, Nat.reduceMod, Nat.reduceDiv, reduceCtorEq, Int.reduceEq, Int.reduceNe, Int.reduceLT, Int.reduceLE, Int.reduceNeg, Int.reduceToNat, Int.reduceAdd, Int.reduceSub, Int.reduceMul, ↓reduceIte, forall_const, eq_self, ne_eq, Option.some.injEq, beq_self_eq_true]) | refine fin_ndec (fun hc => ?_) (fun hc => ?_) | refine fin_dec (fun hc => ?_) (fun hc => ?_) | refine cnd_ndec (fun hc => ?_) (fun hc => ?_) | refine cnd_dec' (fun hc => ?_) (fun hc => ?_) | refine fin_nsplit (fun hc => ?_) (fun hc => ?_) | refine fin_split (fun hc => ?_) (fun hc => ?_) | refine cnd_nsplit (fun hc => ?_) (fun hc => ?_) | refine cnd_split (fun hc => ?_) (fun hc => ?_) | refine blk_exit_id ?_)
    all_goals simp [hr, DV.i]

theorem rncheck_ok : PureC Tryd.prog Gt 75 rncheck_m := by
  refine pure_of_awp (X := ctx Tryd.prog Gt []) Tryd.func75 rfl rfl (by kernel_rfl) (by kernel_rfl) AllOk.nil.kok ?_
  intro args r h0
  obtain ⟨w, rfl, h⟩ := mE_inv h0
  refine ⟨Nat.le_of_ble_eq_true rfl, ?_⟩
  cases h
  have h3 := @law3 w
  have h1 := @law1 w
  have h13 := @law13 w
  have hend := @law_end w
  generalize lawOk w = r at *
  obtain ⟨df, days, ff, fees, lim⟩ := w
  dsimp only at h3 h1 h13 hend
  have l1 : ((days.map rowN).length : Int) = days.length := by simp
  have l2 : ((fees.map rowN).length : Int) = fees.length := by simp
  by_cases c1 : days.length = 4
  · have c1' : ((days.length : Int) = 4) = True := eq_true (by omega)
    by_cases c2 : fees.length = 4
    · have c2' : ((fees.length : Int) = 4) = True := eq_true (by omega)
      have hc := Nat.zero_add 0
      repeat' (first | (simp only [hc, Tryd.f75, encLw, Lw.row, SX, l1, l2, c1', c2', AB, PL, RG, LP, TY, Nat.reduceEqDiff, Nat.reduceAdd, Nat.reduceSub, Nat.reduceMul, Nat.reduceLT, Nat.reduceLeDiff, Nat.reduceMod, Nat.reduceDiv, reduceCtorEq, Int.reduceEq, Int.reduceNe, Int.reduceLT, Int.reduceLE, Int.reduceNeg, Int.reduceToNat, Int.reduceAdd, Int.reduceSub, Int.reduceMul, ↓reduceIte, forall_const, eq_self, ne_eq, Option.some.injEq, beq_self_eq_true]) | refine fin_ndec (fun hc => ?_) (fun hc => ?_) | refine fin_dec (fun hc => ?_) (fun hc => ?_) | refine cnd_ndec (fun hc => ?_) (fun hc => ?_) | refine cnd_dec' (fun hc => ?_) (fun hc => ?_) | refine fin_nsplit (fun hc => ?_) (fun hc => ?_) | refine fin_split (fun hc => ?_) (fun hc => ?_) | refine cnd_nsplit (fun hc => ?_) (fun hc => ?_) | refine cnd_split (fun hc => ?_) (fun hc => ?_) | refine blk_exit_id ?_)
      refine awp_loop (σ := Nat) (fun j => j ≤ days.length ∧ ∀ d ∈ days.take j, 1 ≤ d ∧ d ≤ 4096) (fun j => ⟨[(3, AV.i j), (1, .v (.c (.ptr 0 0)))], [.box [.d (.sl df (days.map rowN)), .d (.sl ff (fees.map rowN)), .d (.int .i64 lim)]]⟩) (fun j => days.length - j) 0 (Wk.sub' (by simp [subT, look]) rfl) (by simp) ?_
      rintro j ⟨hj, hall⟩
      by_cases hjl : j < days.length
      · have e1 : (days.map rowN)[j]? = some [.int .i64 days[j]] := by simp [hjl, rowN]
        have hlt : ((j : Int) < 4) = True := eq_true (by omega)
        have hw := wI (n := (j : Int) + 1) (by omega) (by omega)
        have hmem := List.getElem_mem hjl
        have hs := all_snoc (P := fun d => 1 ≤ d ∧ d ≤ 4096) hjl hall
        generalize days[j] = y at *
        by_cases b1 : y < 1
        · have hr := h1 c1 c2 hmem (.inl b1)
          have hc := Nat.zero_add 0
          repeat' (first | (simp only [hc, SX, l1, e1, hlt, nn, b1, AB, PL, RG, LP, TY, Nat.reduceEqDiff, Nat.reduceAdd, Nat.reduceSub, Nat.reduceMul, Nat.reduceLT, Nat.reduceLeDiff, Nat.reduceMod, Nat.reduceDiv, reduceCtorEq, Int.reduceEq, Int.reduceNe, Int.reduceLT, Int.reduceLE, Int.reduceNeg, Int.reduceToNat, Int.reduceAdd, Int.reduceSub, Int.reduceMul, ↓reduceIte, forall_const, eq_self, ne_eq, Option.some.injEq, beq_self_eq_true]) | refine fin_ndec (fun hc => ?_) (fun hc => ?_) | refine fin_dec (fun hc => ?_) (fun hc => ?_) | refine cnd_ndec (fun hc => ?_) (fun hc => ?_) | refine cnd_dec' (fun hc => ?_) (fun hc => ?_) | refine fin_nsplit (fun hc => ?_) (fun hc => ?_) | refine fin_split (fun hc => ?_) (fun hc => ?_) | refine cnd_nsplit (fun hc => ?_) (fun hc => ?_) | refine cnd_split (fun hc => ?_) (fun hc => ?_) | refine blk_exit_id ?_)
          all_goals simp [hr, DV.i]
        by_cases b2 : 4096 < y
        · have hr := h1 c1 c2 hmem (.inr b2)
          have hc := Nat.zero_add 0
          repeat' (first | (simp only [hc, SX, l1, e1, hlt, nn, b1, b2, AB, PL, RG, LP, TY, Nat.reduceEqDiff, Nat.reduceAdd, Nat.reduceSub, Nat.reduceMul, Nat.reduceLT, Nat.reduceLeDiff, Nat.reduceMod, Nat.reduceDiv, reduceCtorEq, Int.reduceEq, Int.reduceNe, Int.reduceLT, Int.reduceLE, Int.reduceNeg, Int.reduceToNat, Int.reduceAdd, Int.reduceSub, Int.reduceMul, ↓reduceIte, forall_const, eq_self, ne_eq, Option.some.injEq, beq_self_eq_true]) | refine fin_ndec (fun hc => ?_) (fun hc => ?_) | refine fin_dec (fun hc => ?_) (fun hc => ?_) | refine cnd_ndec (fun hc => ?_) (fun hc => ?_) | refine cnd_dec' (fun hc => ?_) (fun hc => ?_) | refine fin_nsplit (fun hc => ?_) (fun hc => ?_) | refine fin_split (fun hc => ?_) (fun hc => ?_) | refine cnd_nsplit (fun hc => ?_) (fun hc => ?_) | refine cnd_split (fun hc => ?_) (fun hc => ?_) | refine blk_exit_id ?_)
          all_goals simp [hr, DV.i]
        have hc := Nat.zero_add 0
        repeat' (first | (simp only [hc, SX, l1, e1, hlt, nn, hw, b1, b2, AB, PL, RG, LP, TY, Nat.reduceEqDiff, Nat.reduceAdd, Nat.reduceSub, Nat.reduceMul, Nat.reduceLT, Nat.reduceLeDiff, Nat.reduceMod, Nat.reduceDiv, reduceCtorEq, Int.reduceEq, Int.reduceNe, Int.reduceLT, Int.reduceLE, Int.reduceNeg, Int.reduceToNat, Int.reduceAdd, Int.reduceSub, Int.reduceMul, ↓reduceIte, forall_const, eq_self, ne_eq, Option.some.injEq, beq_self_eq_true]) | refine fin_ndec (fun hc => ?_) (fun hc => ?_) | refine fin_dec (fun hc => ?_) (fun hc => ?_) | refine cnd_ndec (fun hc => ?_) (fun hc => ?_) | refine cnd_dec' (fun hc => ?_) (fun hc => ?_) | refine fin_nsplit (fun hc => ?_) (fun hc => ?_) | refine fin_split (fun hc => ?_) (fun hc => ?_) | refine cnd_nsplit (fun hc => ?_) (fun hc => ?_) | refine cnd_split (fun hc => ?_) (fun hc => ?_) | refine blk_exit_id ?_)
        exact lp_next (j + 1) (Wk.sub' (by simp [subT, look]) rfl) ⟨by omega, hs ⟨by omega, by omega⟩⟩ (by omega)
      have hlt : ((j : Int) < 4) = False := eq_false (by omega)
      rw [List.take_of_length_le (by omega)] at hall
      have hc := Nat.zero_add 0
      repeat' (first | (simp only [hc, SX, l1, l2, hlt, AB, PL, RG, LP, TY, Nat.reduceEqDiff, Nat.reduceAdd, Nat.reduceSub, Nat.reduceMul, Nat.reduceLT, Nat.reduceLeDiff, Nat.reduceMod, Nat.reduceDiv, reduceCtorEq, Int.reduceEq, Int.reduceNe, Int.reduceLT, Int.reduceLE, Int.reduceNeg, Int.reduceToNat, Int.reduceAdd, Int.reduceSub, Int.reduceMul, ↓reduceIte, forall_const, eq_self, ne_eq, Option.some.injEq, beq_self_eq_true]) | refine fin_ndec (fun hc => ?_) (fun hc => ?_) | refine fin_dec (fun hc => ?_) (fun hc => ?_) | refine cnd_ndec (fun hc => ?_) (fun hc => ?_) | refine cnd_dec' (fun hc => ?_) (fun hc => ?_) | refine fin_nsplit (fun hc => ?_) (fun hc => ?_) | refine fin_split (fun hc => ?_) (fun hc => ?_) | refine cnd_nsplit (fun hc => ?_) (fun hc => ?_) | refine cnd_split (fun hc => ?_) (fun hc => ?_) | refine blk_exit_id ?_)
      refine awp_loop (σ := Nat) (fun j => j ≤ fees.length ∧ ∀ d ∈ fees.take j, 0 ≤ d ∧ d ≤ 2147483648) (fun j => ⟨[(4, AV.i j), (1, .v (.c (.ptr 0 0)))], [.box [.d (.sl df (days.map rowN)), .d (.sl ff (fees.map rowN)), .d (.int .i64 lim)]]⟩) (fun j => fees.length - j) 0 (Wk.sub' (by simp [subT, look]) rfl) (by simp) ?_
      rintro i ⟨hi, hall2⟩
      by_cases hil : i < fees.length
      · have e1 : (fees.map rowN)[i]? = some [.int .i64 fees[i]] := by simp [hil, rowN]
        have hlt : ((i : Int) < 4) = True := eq_true (by omega)
        have hw := wI (n := (i : Int) + 1) (by omega) (by omega)
        have hmem := List.getElem_mem hil
        have hs := all_snoc (P := fun d => 0 ≤ d ∧ d ≤ 2147483648) hil hall2
        generalize fees[i] = y at *
        by_cases b1 : y < 0
        · have hr := h13 c1 c2 hall hmem (.inl b1)
          have hc := Nat.zero_add 0
          repeat' (first | (simp only [hc, SX, l2, e1, hlt, nn, b1, AB, PL, RG, LP, TY, Nat.reduceEqDiff, Nat.reduceAdd, Nat.reduceSub, Nat.reduceMul, Nat.reduceLT, Nat.reduceLeDiff, Nat.reduceMod, Nat.reduceDiv, reduceCtorEq, Int.reduceEq, Int.reduceNe, Int.reduceLT, Int.reduceLE, Int.reduceNeg, Int.reduceToNat, Int.reduceAdd, Int.reduceSub, Int.reduceMul, ↓reduceIte, forall_const, eq_self, ne_eq, Option.some.injEq, beq_self_eq_true]) | refine fin_ndec (fun hc => ?_) (fun hc => ?_) | refine fin_dec (fun hc => ?_) (fun hc => ?_) | refine cnd_ndec (fun hc => ?_) (fun hc => ?_) | refine cnd_dec' (fun hc => ?_) (fun hc => ?_) | refine fin_nsplit (fun hc => ?_) (fun hc => ?_) | refine fin_split (fun hc => ?_) (fun hc => ?_) | refine cnd_nsplit (fun hc => ?_) (fun hc => ?_) | refine cnd_split (fun hc => ?_) (fun hc => ?_) | refine blk_exit_id ?_)
          all_goals simp [hr, DV.i]
        by_cases b2 : 2147483648 < y
        · have hr := h13 c1 c2 hall hmem (.inr b2)
          have hc := Nat.zero_add 0
          repeat' (first | (simp only [hc, SX, l2, e1, hlt, nn, b1, b2, AB, PL, RG, LP, TY, Nat.reduceEqDiff, Nat.reduceAdd, Nat.reduceSub, Nat.reduceMul, Nat.reduceLT, Nat.reduceLeDiff, Nat.reduceMod, Nat.reduceDiv, reduceCtorEq, Int.reduceEq, Int.reduceNe, Int.reduceLT, Int.reduceLE, Int.reduceNeg, Int.reduceToNat, Int.reduceAdd, Int.reduceSub, Int.reduceMul, ↓reduceIte, forall_const, eq_self, ne_eq, Option.some.injEq, beq_self_eq_true]) | refine fin_ndec (fun hc => ?_) (fun hc => ?_) | refine fin_dec (fun hc => ?_) (fun hc => ?_) | refine cnd_ndec (fun hc => ?_) (fun hc => ?_) | refine cnd_dec' (fun hc => ?_) (fun hc => ?_) | refine fin_nsplit (fun hc => ?_) (fun hc => ?_) | refine fin_split (fun hc => ?_) (fun hc => ?_) | refine cnd_nsplit (fun hc => ?_) (fun hc => ?_) | refine cnd_split (fun hc => ?_) (fun hc => ?_) | refine blk_exit_id ?_)
          all_goals simp [hr, DV.i]
        have hc := Nat.zero_add 0
        repeat' (first | (simp only [hc, SX, l2, e1, hlt, nn, hw, b1, b2, AB, PL, RG, LP, TY, Nat.reduceEqDiff, Nat.reduceAdd, Nat.reduceSub, Nat.reduceMul, Nat.reduceLT, Nat.reduceLeDiff, Nat.reduceMod, Nat.reduceDiv, reduceCtorEq, Int.reduceEq, Int.reduceNe, Int.reduceLT, Int.reduceLE, Int.reduceNeg, Int.reduceToNat, Int.reduceAdd, Int.reduceSub, Int.reduceMul, ↓reduceIte, forall_const, eq_self, ne_eq, Option.some.injEq, beq_self_eq_true]) | refine fin_ndec (fun hc => ?_) (fun hc => ?_) | refine fin_dec (fun hc => ?_) (fun hc => ?_) | refine cnd_ndec (fun hc => ?_) (fun hc => ?_) | refine cnd_dec' (fun hc => ?_) (fun hc => ?_) | refine fin_nsplit (fun hc => ?_) (fun hc => ?_) | refine fin_split (fun hc => ?_) (fun hc => ?_) | refine cnd_nsplit (fun hc => ?_) (fun hc => ?_) | refine cnd_split (fun hc => ?_) (fun hc => ?_) | refine blk_exit_id ?_)
        exact lp_next (i + 1) (Wk.sub' (by simp [subT, look]) rfl) ⟨by omega, hs ⟨by omega, by omega⟩⟩ (by omega)
      have hlt : ((i : Int) < 4) = False := eq_false (by omega)
      rw [List.take_of_length_le (by omega)] at hall2
      have hr := hend c1 c2 hall hall2
      by_cases b1 : lim < 1
      · rw [if_pos (.inl b1)] at hr
        have hc := Nat.zero_add 0
        repeat' (first | (simp only [hc, SX, l2, hlt, b1, AB, PL, RG, LP, TY, Nat.reduceEqDiff, Nat.reduceAdd, Nat.reduceSub, Nat.reduceMul, Nat.reduceLT, Nat.reduceLeDiff, Nat.reduceMod, Nat.reduceDiv, reduceCtorEq, Int.reduceEq, Int.reduceNe, Int.reduceLT, Int.reduceLE, Int.reduceNeg, Int.reduceToNat, Int.reduceAdd, Int.reduceSub, Int.reduceMul, ↓reduceIte, forall_const, eq_self, ne_eq, Option.some.injEq, beq_self_eq_true]) | refine fin_ndec (fun hc => ?_) (fun hc => ?_) | refine fin_dec (fun hc => ?_) (fun hc => ?_) | refine cnd_ndec (fun hc => ?_) (fun hc => ?_) | refine cnd_dec' (fun hc => ?_) (fun hc => ?_) | refine fin_nsplit (fun hc => ?_) (fun hc => ?_) | refine fin_split (fun hc => ?_) (fun hc => ?_) | refine cnd_nsplit (fun hc => ?_) (fun hc => ?_) | refine cnd_split (fun hc => ?_) (fun hc => ?_) | refine blk_exit_id ?_)
        all_goals simp [hr, DV.i]
      by_cases b2 : 795363 < lim
      · rw [if_pos (.inr (by omega))] at hr
        have hc := Nat.zero_add 0
        repeat' (first | (simp only [hc, SX, l2, hlt, b1, b2, AB, PL, RG, LP, TY, Nat.reduceEqDiff, Nat.reduceAdd, Nat.reduceSub, Nat.reduceMul, Nat.reduceLT, Nat.reduceLeDiff, Nat.reduceMod, Nat.reduceDiv, reduceCtorEq, Int.reduceEq, Int.reduceNe, Int.reduceLT, Int.reduceLE, Int.reduceNeg, Int.reduceToNat, Int.reduceAdd, Int.reduceSub, Int.reduceMul, ↓reduceIte, forall_const, eq_self, ne_eq, Option.some.injEq, beq_self_eq_true]) | refine fin_ndec (fun hc => ?_) (fun hc => ?_) | refine fin_dec (fun hc => ?_) (fun hc => ?_) | refine cnd_ndec (fun hc => ?_) (fun hc => ?_) | refine cnd_dec' (fun hc => ?_) (fun hc => ?_) | refine fin_nsplit (fun hc => ?_) (fun hc => ?_) | refine fin_split (fun hc => ?_) (fun hc => ?_) | refine cnd_nsplit (fun hc => ?_) (fun hc => ?_) | refine cnd_split (fun hc => ?_) (fun hc => ?_) | refine blk_exit_id ?_)
        all_goals simp [hr, DV.i]
      rw [if_neg (by omega)] at hr
      have hc := Nat.zero_add 0
      repeat' (first | (simp only [hc, SX, l2, hlt, b1, b2, AB, PL, RG, LP, TY, Nat.reduceEqDiff, Nat.reduceAdd, Nat.reduceSub, Nat.reduceMul, Nat.reduceLT, Nat.reduceLeDiff, Nat.reduceMod, Nat.reduceDiv, reduceCtorEq, Int.reduceEq, Int.reduceNe, Int.reduceLT, Int.reduceLE, Int.reduceNeg, Int.reduceToNat, Int.reduceAdd, Int.reduceSub, Int.reduceMul, ↓reduceIte, forall_const, eq_self, ne_eq, Option.some.injEq, beq_self_eq_true]) | refine fin_ndec (fun hc => ?_) (fun hc => ?_) | refine fin_dec (fun hc => ?_) (fun hc => ?_) | refine cnd_ndec (fun hc => ?_) (fun hc => ?_) | refine cnd_dec' (fun hc => ?_) (fun hc => ?_) | refine fin_nsplit (fun hc => ?_) (fun hc => ?_) | refine fin_split (fun hc => ?_) (fun hc => ?_) | refine cnd_nsplit (fun hc => ?_) (fun hc => ?_) | refine cnd_split (fun hc => ?_) (fun hc => ?_) | refine blk_exit_id ?_)
      all_goals simp [hr, DV.i]
    · have c2' : ((fees.length : Int) = 4) = False := eq_false (by omega)
      have hr := h3 (.inr c2)
      have hc := Nat.zero_add 0
      repeat' (first | (simp only [hc, Tryd.f75, encLw, Lw.row, SX, l1, l2, c1', c2', AB, PL, RG, LP, TY, Nat.reduceEqDiff, Nat.reduceAdd, Nat.reduceSub, Nat.reduceMul, Nat.reduceLT, Nat.reduceLeDiff, Nat.reduceMod, Nat.reduceDiv, reduceCtorEq, Int.reduceEq, Int.reduceNe, Int.reduceLT, Int.reduceLE, Int.reduceNeg, Int.reduceToNat, Int.reduceAdd, Int.reduceSub, Int.reduceMul, ↓reduceIte, forall_const, eq_self, ne_eq, Option.some.injEq, beq_self_eq_true]) | refine fin_ndec (fun hc => ?_) (fun hc => ?_) | refine fin_dec (fun hc => ?_) (fun hc => ?_) | refine cnd_ndec (fun hc => ?_) (fun hc => ?_) | refine cnd_dec' (fun hc => ?_) (fun hc => ?_) | refine fin_nsplit (fun hc => ?_) (fun hc => ?_) | refine fin_split (fun hc => ?_) (fun hc => ?_) | refine cnd_nsplit (fun hc => ?_) (fun hc => ?_) | refine cnd_split (fun hc => ?_) (fun hc => ?_) | refine blk_exit_id ?_)
      all_goals simp [hr, DV.i]
  · have c1' : ((days.length : Int) = 4) = False := eq_false (by omega)
    have hr := h3 (.inl c1)
    have hc := Nat.zero_add 0
    repeat' (first | (simp only [hc, Tryd.f75, encLw, Lw.row, SX, l1, l2, c1', AB, PL, RG, LP, TY, Nat.reduceEqDiff, Nat.reduceAdd, Nat.reduceSub, Nat.reduceMul, Nat.reduceLT, Nat.reduceLeDiff, Nat.reduceMod, Nat.reduceDiv, reduceCtorEq, Int.reduceEq, Int.reduceNe, Int.reduceLT, Int.reduceLE, Int.reduceNeg, Int.reduceToNat, Int.reduceAdd, Int.reduceSub, Int.reduceMul, ↓reduceIte, forall_const, eq_self, ne_eq, Option.some.injEq, beq_self_eq_true]) | refine fin_ndec (fun hc => ?_) (fun hc => ?_) | refine fin_dec (fun hc => ?_) (fun hc => ?_) | refine cnd_ndec (fun hc => ?_) (fun hc => ?_) | refine cnd_dec' (fun hc => ?_) (fun hc => ?_) | refine fin_nsplit (fun hc => ?_) (fun hc => ?_) | refine fin_split (fun hc => ?_) (fun hc => ?_) | refine cnd_nsplit (fun hc => ?_) (fun hc => ?_) | refine cnd_split (fun hc => ?_) (fun hc => ?_) | refine blk_exit_id ?_)
    all_goals simp [hr, DV.i]

theorem later_two (l : List Int) (d n : Int) : laterOf l d n = [.c (.int .i64 (laterP l d n).1), .c (.int .i64 (laterP l d n).2)] := by
  unfold laterP laterOf
  split
  · split
    · rfl
    · split <;> rfl
  · rfl
theorem ncheck_at {w : Lw} : ncheck_m [.agg w.row] = some [.i (lawOk w)] := by rw [ncheck_m, show ([.agg w.row] : List PA) = encLw w from rfl, mE_eq encLw_inj]
theorem rncheck_at {w : Lw} : rncheck_m [.agg w.row] = some [.i (lawOk w)] := by rw [rncheck_m, show ([.agg w.row] : List PA) = encLw w from rfl, mE_eq encLw_inj]
theorem nopen_at {w : Cas} : nopen_m [.agg w.row] = some [.b (openB w.stage)] := by rw [nopen_m, show ([.agg w.row] : List PA) = encK w from rfl, mE_eq encK_inj]
theorem rnopen_at {w : Cas} : rnopen_m [.agg w.row] = some [.b (openB w.stage)] := by rw [rnopen_m, show ([.agg w.row] : List PA) = encK w from rfl, mE_eq encK_inj]
theorem clater_at {f : Bool} {l : List Int} {d n : Int} (h : l.length ≤ 1000) : clater_m [.c (.sl f (l.map rowN)), .c (.int .i64 d), .c (.int .i64 n)] = some [.c (.int .i64 (laterP l d n).1), .c (.int .i64 (laterP l d n).2)] := by
  rw [clater_m, mlii_eq, if_pos h, later_two]
theorem rlater_at {f : Bool} {l : List Int} {d n : Int} (h : l.length ≤ 1000) : rlater_m [.c (.sl f (l.map rowN)), .c (.int .i64 d), .c (.int .i64 n)] = some [.c (.int .i64 (laterP l d n).1), .c (.int .i64 (laterP l d n).2)] := by
  rw [rlater_m, mlii_eq, if_pos h, later_two]
theorem law_len {w : Lw} (h : lawOk w = 0) : w.days.length = 4 := by
  unfold lawOk at h
  split at h
  · cases h
  · omega
theorem due_no {w : Lw} {l : List Int} {x : Cas} (h : ¬ (lawOk w = 0 ∧ openB x.stage = true ∧ x.stage ≤ 4 ∧ x.ast ≠ 1)) : dueF w l x = (0, false) := by unfold dueF; rw [if_neg h]
theorem due_yes {w : Lw} {l : List Int} {x : Cas} (h : lawOk w = 0 ∧ openB x.stage = true ∧ x.stage ≤ 4 ∧ x.ast ≠ 1) : dueF w l x = ((laterP l x.since (w.days.getD (x.stage.toNat - 1) 0)).1, decide ((laterP l x.since (w.days.getD (x.stage.toNat - 1) 0)).2 = 0)) := by unfold dueF; rw [if_pos h]
theorem open_iff {n : Int} : openB n = true ↔ 1 ≤ n ∧ n ≤ 5 := by simp [openB]

theorem ndue_ok : PureC Tryd.prog Gt 45 ndue_m := by
  refine pure_of_awp (X := ctx Tryd.prog Gt [(73, ncheck_m), (49, nopen_m), (74, clater_m)]) Tryd.func45 rfl rfl (by kernel_rfl) (by kernel_rfl) (AllOk.cons ncheck_ok (AllOk.cons nopen_ok (AllOk.cons clater_ok AllOk.nil))).kok ?_
  intro args r h0
  obtain ⟨⟨w, ⟨f, l⟩, x⟩, rfl, h⟩ := mE_inv h0
  refine ⟨Nat.le_of_ble_eq_true rfl, ?_⟩
  split at h
  · rename_i hl
    dsimp only at hl h ⊢
    cases h
    have f1 := @ncheck_at w
    have f2 := @nopen_at x
    have hno := @due_no w l x
    have hyes := @due_yes w l x
    have hw4 := @law_len w
    generalize dueF w l x = r at *
    obtain ⟨r1, r2⟩ := r
    dsimp only
    generalize lawOk w = ok at *
    have ho := @open_iff x.stage
    generalize openB x.stage = op at *
    simp only [Lw.row] at f1
    simp only [Cas.row] at f2
    by_cases c1 : ok = 0
    · cases op with
      | true =>
        have hst := ho.1 rfl
        by_cases c3 : 4 < x.stage
        · obtain ⟨rfl, rfl⟩ := Prod.mk.inj (hno (fun h => by omega))
          have hc := Nat.zero_add 0
          repeat' (first | (simp only [hc, Tryd.f45, encDue, Lw.row, Cas.row, SX, f1, f2, c1, c3, AB, PL, RG, LP, TY, Nat.reduceEqDiff, Nat.reduceAdd, Nat.reduceSub, Nat.reduceMul, Nat.reduceLT, Nat.reduceLeDiff, Nat.reduceMod, Nat.reduceDiv, reduceCtorEq, Int.reduceEq, Int.reduceNe, Int.reduceLT, Int.reduceLE, Int.reduceNeg, Int.reduceToNat, Int.reduceAdd, Int.reduceSub, Int.reduceMul, ↓reduceIte, forall_const, eq_self, ne_eq, Option.some.injEq, beq_self_eq_true]) | refine fin_ndec (fun hc => ?_) (fun hc => ?_) | refine fin_dec (fun hc => ?_) (fun hc => ?_) | refine cnd_ndec (fun hc => ?_) (fun hc => ?_) | refine cnd_dec' (fun hc => ?_) (fun hc => ?_) | refine fin_nsplit (fun hc => ?_) (fun hc => ?_) | refine fin_split (fun hc => ?_) (fun hc => ?_) | refine cnd_nsplit (fun hc => ?_) (fun hc => ?_) | refine cnd_split (fun hc => ?_) (fun hc => ?_) | refine blk_exit_id ?_)
          all_goals simp [DV.i, DV.b]
        by_cases c4 : x.ast = 1
        · obtain ⟨rfl, rfl⟩ := Prod.mk.inj (hno (fun h => h.2.2.2 c4))
          rw [c4] at f2
          have hc := Nat.zero_add 0
          repeat' (first | (simp only [hc, Tryd.f45, encDue, Lw.row, Cas.row, SX, f1, f2, c1, c3, c4, AB, PL, RG, LP, TY, Nat.reduceEqDiff, Nat.reduceAdd, Nat.reduceSub, Nat.reduceMul, Nat.reduceLT, Nat.reduceLeDiff, Nat.reduceMod, Nat.reduceDiv, reduceCtorEq, Int.reduceEq, Int.reduceNe, Int.reduceLT, Int.reduceLE, Int.reduceNeg, Int.reduceToNat, Int.reduceAdd, Int.reduceSub, Int.reduceMul, ↓reduceIte, forall_const, eq_self, ne_eq, Option.some.injEq, beq_self_eq_true]) | refine fin_ndec (fun hc => ?_) (fun hc => ?_) | refine fin_dec (fun hc => ?_) (fun hc => ?_) | refine cnd_ndec (fun hc => ?_) (fun hc => ?_) | refine cnd_dec' (fun hc => ?_) (fun hc => ?_) | refine fin_nsplit (fun hc => ?_) (fun hc => ?_) | refine fin_split (fun hc => ?_) (fun hc => ?_) | refine cnd_nsplit (fun hc => ?_) (fun hc => ?_) | refine cnd_split (fun hc => ?_) (fun hc => ?_) | refine blk_exit_id ?_)
          all_goals simp [DV.i, DV.b]
        obtain ⟨rfl, rfl⟩ := Prod.mk.inj (hyes ⟨c1, rfl, by omega, c4⟩)
        obtain ⟨k, hk⟩ : ∃ k : Nat, x.stage = (k : Int) + 1 := ⟨x.stage.toNat - 1, by omega⟩
        have hd4 := hw4 c1
        have hk4 : k < w.days.length := by omega
        have e1 : (w.days.map rowN)[k]? = some [.int .i64 (w.days.getD k 0)] := by simp [hk4, rowN, List.getD_eq_getElem?_getD]
        have w1 : IntKind.i64.wrap (x.stage - 1) = k := by rw [wI (by omega) (by omega)]; omega
        have g := clater_at (f := f) (l := l) (d := x.since) (n := w.days.getD k 0) hl
        rw [show x.stage.toNat - 1 = k by omega]
        generalize laterP l x.since (w.days.getD k 0) = q at *
        have hc := Nat.zero_add 0
        repeat' (first | (simp only [hc, Tryd.f45, encDue, Lw.row, Cas.row, SX, f1, f2, c1, c3, c4, w1, nn, e1, g, AB, PL, RG, LP, TY, Nat.reduceEqDiff, Nat.reduceAdd, Nat.reduceSub, Nat.reduceMul, Nat.reduceLT, Nat.reduceLeDiff, Nat.reduceMod, Nat.reduceDiv, reduceCtorEq, Int.reduceEq, Int.reduceNe, Int.reduceLT, Int.reduceLE, Int.reduceNeg, Int.reduceToNat, Int.reduceAdd, Int.reduceSub, Int.reduceMul, ↓reduceIte, forall_const, eq_self, ne_eq, Option.some.injEq, beq_self_eq_true]) | refine fin_ndec (fun hc => ?_) (fun hc => ?_) | refine fin_dec (fun hc => ?_) (fun hc => ?_) | refine cnd_ndec (fun hc => ?_) (fun hc => ?_) | refine cnd_dec' (fun hc => ?_) (fun hc => ?_) | refine fin_nsplit (fun hc => ?_) (fun hc => ?_) | refine fin_split (fun hc => ?_) (fun hc => ?_) | refine cnd_nsplit (fun hc => ?_) (fun hc => ?_) | refine cnd_split (fun hc => ?_) (fun hc => ?_) | refine blk_exit_id ?_)
        all_goals simp [DV.i, DV.b]
      | false =>
        obtain ⟨rfl, rfl⟩ := Prod.mk.inj (hno (fun h => by cases h.2.1))
        have hc := Nat.zero_add 0
        repeat' (first | (simp only [hc, Tryd.f45, encDue, Lw.row, Cas.row, SX, f1, f2, c1, AB, PL, RG, LP, TY, Nat.reduceEqDiff, Nat.reduceAdd, Nat.reduceSub, Nat.reduceMul, Nat.reduceLT, Nat.reduceLeDiff, Nat.reduceMod, Nat.reduceDiv, reduceCtorEq, Int.reduceEq, Int.reduceNe, Int.reduceLT, Int.reduceLE, Int.reduceNeg, Int.reduceToNat, Int.reduceAdd, Int.reduceSub, Int.reduceMul, ↓reduceIte, forall_const, eq_self, ne_eq, Option.some.injEq, beq_self_eq_true]) | refine fin_ndec (fun hc => ?_) (fun hc => ?_) | refine fin_dec (fun hc => ?_) (fun hc => ?_) | refine cnd_ndec (fun hc => ?_) (fun hc => ?_) | refine cnd_dec' (fun hc => ?_) (fun hc => ?_) | refine fin_nsplit (fun hc => ?_) (fun hc => ?_) | refine fin_split (fun hc => ?_) (fun hc => ?_) | refine cnd_nsplit (fun hc => ?_) (fun hc => ?_) | refine cnd_split (fun hc => ?_) (fun hc => ?_) | refine blk_exit_id ?_)
        all_goals simp [DV.i, DV.b]
    · obtain ⟨rfl, rfl⟩ := Prod.mk.inj (hno (fun h => c1 h.1))
      have hc := Nat.zero_add 0
      repeat' (first | (simp only [hc, Tryd.f45, encDue, Lw.row, Cas.row, SX, f1, c1, AB, PL, RG, LP, TY, Nat.reduceEqDiff, Nat.reduceAdd, Nat.reduceSub, Nat.reduceMul, Nat.reduceLT, Nat.reduceLeDiff, Nat.reduceMod, Nat.reduceDiv, reduceCtorEq, Int.reduceEq, Int.reduceNe, Int.reduceLT, Int.reduceLE, Int.reduceNeg, Int.reduceToNat, Int.reduceAdd, Int.reduceSub, Int.reduceMul, ↓reduceIte, forall_const, eq_self, ne_eq, Option.some.injEq, beq_self_eq_true]) | refine fin_ndec (fun hc => ?_) (fun hc => ?_) | refine fin_dec (fun hc => ?_) (fun hc => ?_) | refine cnd_ndec (fun hc => ?_) (fun hc => ?_) | refine cnd_dec' (fun hc => ?_) (fun hc => ?_) | refine fin_nsplit (fun hc => ?_) (fun hc => ?_) | refine fin_split (fun hc => ?_) (fun hc => ?_) | refine cnd_nsplit (fun hc => ?_) (fun hc => ?_) | refine cnd_split (fun hc => ?_) (fun hc => ?_) | refine blk_exit_id ?_)
      all_goals simp [DV.i, DV.b]
  · cases h

theorem rndue_ok : PureC Tryd.prog Gt 47 rndue_m := by
  refine pure_of_awp (X := ctx Tryd.prog Gt [(75, rncheck_m), (76, rlater_m)]) Tryd.func47 rfl rfl (by kernel_rfl) (by kernel_rfl) (AllOk.cons rncheck_ok (AllOk.cons rlater_ok AllOk.nil)).kok ?_
  intro args r h0
  obtain ⟨⟨w, ⟨f, l⟩, x⟩, rfl, h⟩ := mE_inv h0
  refine ⟨Nat.le_of_ble_eq_true rfl, ?_⟩
  split at h
  · rename_i hl
    dsimp only at hl h ⊢
    cases h
    have f1 := @rncheck_at w
    have hno := @due_no w l x
    have hyes := @due_yes w l x
    have hw4 := @law_len w
    generalize dueF w l x = r at *
    obtain ⟨r1, r2⟩ := r
    dsimp only
    generalize lawOk w = ok at *
    have ho := @open_iff x.stage
    generalize openB x.stage = op at *
    simp only [Lw.row] at f1
    by_cases c1 : ok = 0
    · by_cases c2 : x.stage < 1
      · obtain ⟨rfl, rfl⟩ := Prod.mk.inj (hno (fun h => by have := ho.1 h.2.1; omega))
        have hc := Nat.zero_add 0
        repeat' (first | (simp only [hc, Tryd.f47, encDue, Lw.row, Cas.row, SX, f1, c1, c2, AB, PL, RG, LP, TY, Nat.reduceEqDiff, Nat.reduceAdd, Nat.reduceSub, Nat.reduceMul, Nat.reduceLT, Nat.reduceLeDiff, Nat.reduceMod, Nat.reduceDiv, reduceCtorEq, Int.reduceEq, Int.reduceNe, Int.reduceLT, Int.reduceLE, Int.reduceNeg, Int.reduceToNat, Int.reduceAdd, Int.reduceSub, Int.reduceMul, ↓reduceIte, forall_const, eq_self, ne_eq, Option.some.injEq, beq_self_eq_true]) | refine fin_ndec (fun hc => ?_) (fun hc => ?_) | refine fin_dec (fun hc => ?_) (fun hc => ?_) | refine cnd_ndec (fun hc => ?_) (fun hc => ?_) | refine cnd_dec' (fun hc => ?_) (fun hc => ?_) | refine fin_nsplit (fun hc => ?_) (fun hc => ?_) | refine fin_split (fun hc => ?_) (fun hc => ?_) | refine cnd_nsplit (fun hc => ?_) (fun hc => ?_) | refine cnd_split (fun hc => ?_) (fun hc => ?_) | refine blk_exit_id ?_)
        all_goals simp [DV.i, DV.b]
      by_cases c3 : 4 < x.stage
      · obtain ⟨rfl, rfl⟩ := Prod.mk.inj (hno (fun h => by omega))
        have hc := Nat.zero_add 0
        repeat' (first | (simp only [hc, Tryd.f47, encDue, Lw.row, Cas.row, SX, f1, c1, c2, c3, AB, PL, RG, LP, TY, Nat.reduceEqDiff, Nat.reduceAdd, Nat.reduceSub, Nat.reduceMul, Nat.reduceLT, Nat.reduceLeDiff, Nat.reduceMod, Nat.reduceDiv, reduceCtorEq, Int.reduceEq, Int.reduceNe, Int.reduceLT, Int.reduceLE, Int.reduceNeg, Int.reduceToNat, Int.reduceAdd, Int.reduceSub, Int.reduceMul, ↓reduceIte, forall_const, eq_self, ne_eq, Option.some.injEq, beq_self_eq_true]) | refine fin_ndec (fun hc => ?_) (fun hc => ?_) | refine fin_dec (fun hc => ?_) (fun hc => ?_) | refine cnd_ndec (fun hc => ?_) (fun hc => ?_) | refine cnd_dec' (fun hc => ?_) (fun hc => ?_) | refine fin_nsplit (fun hc => ?_) (fun hc => ?_) | refine fin_split (fun hc => ?_) (fun hc => ?_) | refine cnd_nsplit (fun hc => ?_) (fun hc => ?_) | refine cnd_split (fun hc => ?_) (fun hc => ?_) | refine blk_exit_id ?_)
        all_goals simp [DV.i, DV.b]
      by_cases c4 : x.ast = 1
      · obtain ⟨rfl, rfl⟩ := Prod.mk.inj (hno (fun h => h.2.2.2 c4))
        have hc := Nat.zero_add 0
        repeat' (first | (simp only [hc, Tryd.f47, encDue, Lw.row, Cas.row, SX, f1, c1, c2, c3, c4, AB, PL, RG, LP, TY, Nat.reduceEqDiff, Nat.reduceAdd, Nat.reduceSub, Nat.reduceMul, Nat.reduceLT, Nat.reduceLeDiff, Nat.reduceMod, Nat.reduceDiv, reduceCtorEq, Int.reduceEq, Int.reduceNe, Int.reduceLT, Int.reduceLE, Int.reduceNeg, Int.reduceToNat, Int.reduceAdd, Int.reduceSub, Int.reduceMul, ↓reduceIte, forall_const, eq_self, ne_eq, Option.some.injEq, beq_self_eq_true]) | refine fin_ndec (fun hc => ?_) (fun hc => ?_) | refine fin_dec (fun hc => ?_) (fun hc => ?_) | refine cnd_ndec (fun hc => ?_) (fun hc => ?_) | refine cnd_dec' (fun hc => ?_) (fun hc => ?_) | refine fin_nsplit (fun hc => ?_) (fun hc => ?_) | refine fin_split (fun hc => ?_) (fun hc => ?_) | refine cnd_nsplit (fun hc => ?_) (fun hc => ?_) | refine cnd_split (fun hc => ?_) (fun hc => ?_) | refine blk_exit_id ?_)
        all_goals simp [DV.i, DV.b]
      obtain ⟨rfl, rfl⟩ := Prod.mk.inj (hyes ⟨c1, ho.2 (by omega), by omega, c4⟩)
      obtain ⟨k, hk⟩ : ∃ k : Nat, x.stage = (k : Int) + 1 := ⟨x.stage.toNat - 1, by omega⟩
      have hd4 := hw4 c1
      have hk4 : k < w.days.length := by omega
      have e1 : (w.days.map rowN)[k]? = some [.int .i64 (w.days.getD k 0)] := by simp [hk4, rowN, List.getD_eq_getElem?_getD]
      have w1 : IntKind.i64.wrap (x.stage - 1) = k := by rw [wI (by omega) (by omega)]; omega
      have g := rlater_at (f := f) (l := l) (d := x.since) (n := w.days.getD k 0) hl
      rw [show x.stage.toNat - 1 = k by omega]
      generalize laterP l x.since (w.days.getD k 0) = q at *
      have hc := Nat.zero_add 0
      repeat' (first | (simp only [hc, Tryd.f47, encDue, Lw.row, Cas.row, SX, f1, c1, c2, c3, c4, w1, nn, e1, g, AB, PL, RG, LP, TY, Nat.reduceEqDiff, Nat.reduceAdd, Nat.reduceSub, Nat.reduceMul, Nat.reduceLT, Nat.reduceLeDiff, Nat.reduceMod, Nat.reduceDiv, reduceCtorEq, Int.reduceEq, Int.reduceNe, Int.reduceLT, Int.reduceLE, Int.reduceNeg, Int.reduceToNat, Int.reduceAdd, Int.reduceSub, Int.reduceMul, ↓reduceIte, forall_const, eq_self, ne_eq, Option.some.injEq, beq_self_eq_true]) | refine fin_ndec (fun hc => ?_) (fun hc => ?_) | refine fin_dec (fun hc => ?_) (fun hc => ?_) | refine cnd_ndec (fun hc => ?_) (fun hc => ?_) | refine cnd_dec' (fun hc => ?_) (fun hc => ?_) | refine fin_nsplit (fun hc => ?_) (fun hc => ?_) | refine fin_split (fun hc => ?_) (fun hc => ?_) | refine cnd_nsplit (fun hc => ?_) (fun hc => ?_) | refine cnd_split (fun hc => ?_) (fun hc => ?_) | refine blk_exit_id ?_)
      all_goals simp [DV.i, DV.b]
    · obtain ⟨rfl, rfl⟩ := Prod.mk.inj (hno (fun h => c1 h.1))
      have hc := Nat.zero_add 0
      repeat' (first | (simp only [hc, Tryd.f47, encDue, Lw.row, Cas.row, SX, f1, c1, AB, PL, RG, LP, TY, Nat.reduceEqDiff, Nat.reduceAdd, Nat.reduceSub, Nat.reduceMul, Nat.reduceLT, Nat.reduceLeDiff, Nat.reduceMod, Nat.reduceDiv, reduceCtorEq, Int.reduceEq, Int.reduceNe, Int.reduceLT, Int.reduceLE, Int.reduceNeg, Int.reduceToNat, Int.reduceAdd, Int.reduceSub, Int.reduceMul, ↓reduceIte, forall_const, eq_self, ne_eq, Option.some.injEq, beq_self_eq_true]) | refine fin_ndec (fun hc => ?_) (fun hc => ?_) | refine fin_dec (fun hc => ?_) (fun hc => ?_) | refine cnd_ndec (fun hc => ?_) (fun hc => ?_) | refine cnd_dec' (fun hc => ?_) (fun hc => ?_) | refine fin_nsplit (fun hc => ?_) (fun hc => ?_) | refine fin_split (fun hc => ?_) (fun hc => ?_) | refine cnd_nsplit (fun hc => ?_) (fun hc => ?_) | refine cnd_split (fun hc => ?_) (fun hc => ?_) | refine blk_exit_id ?_)
      all_goals simp [DV.i, DV.b]
  · cases h

theorem ndue_at {w : Lw} {f : Bool} {l : List Int} {x : Cas} (h : l.length ≤ 1000) : ndue_m [.agg w.row, .c (.sl f (l.map rowN)), .agg x.row] = some [.i (dueF w l x).1, .b (dueF w l x).2] := by
  rw [ndue_m, show ([.agg w.row, .c (.sl f (l.map rowN)), .agg x.row] : List PA) = encDue (w, (f, l), x) from rfl, mE_eq encDue_inj, if_pos h]
theorem rndue_at {w : Lw} {f : Bool} {l : List Int} {x : Cas} (h : l.length ≤ 1000) : rndue_m [.agg w.row, .c (.sl f (l.map rowN)), .agg x.row] = some [.i (dueF w l x).1, .b (dueF w l x).2] := by
  rw [rndue_m, show ([.agg w.row, .c (.sl f (l.map rowN)), .agg x.row] : List PA) = encDue (w, (f, l), x) from rfl, mE_eq encDue_inj, if_pos h]

end
end Go.Ab
