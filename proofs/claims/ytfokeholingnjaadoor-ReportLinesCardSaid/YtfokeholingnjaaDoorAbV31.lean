/-
  Texts of the layer and of the laws, put together: AbQ6. No law is stated here.
-/
import Derived.Test.YtfokeholingnjaaDoorAbV30
set_option linter.unusedSimpArgs false
set_option linter.unusedVariables false
set_option maxRecDepth 100000

/-
  What the functions of reports compute: states that the statements speak of, the report of a day.
-/
namespace Go.Ab
open Go.RowKit Go.Proofs

noncomputable section
open Classical

def Ent.sm (e : Ent) : Bool := decide (e.posts.length ≤ 40) && decide (e.key.length ≤ 200) && e.posts.all fun p => fitsB p.2
def Cas.sm (c : Cas) : Bool := decide (c.id.length ≤ 200) && decide (c.plate.length ≤ 200) && decide (c.key.length ≤ 200)
structure St.Small (s : St) : Prop where
  chs : s.chs.length ≤ 40
  accs : s.accs.length ≤ 40
  ents : s.ents.length ≤ 40
  cases : s.cases.length ≤ 40
  hol : s.hol.length ≤ 40
  days : s.law.days.length ≤ 40
  fees : s.law.fees.length ≤ 40
  ones : ∀ x ∈ s.chs, x.one = true
  esm : ∀ e ∈ s.ents, e.sm = true
  csm : ∀ c ∈ s.cases, c.sm = true

/-- Its numbers are ints, its lists are as long as lists can be. -/
structure St.Wf (s : St) : Prop where
  chl : s.chs.length ≤ 9223372036854775807
  acl : s.accs.length ≤ 9223372036854775807
  enl : s.ents.length ≤ 9223372036854775807
  cal : s.cases.length ≤ 9223372036854775807
  hol : s.hol.length ≤ 9223372036854775807
  day : s.law.days.length ≤ 9223372036854775807
  fee : s.law.fees.length ≤ 9223372036854775807
  psl : s.ps.length ≤ 9223372036854775807
  rsl : s.rs.length ≤ 9223372036854775807
  tsl : s.ts.length ≤ 9223372036854775807
  ssl : s.ss.length ≤ 9223372036854775807
  xsl : s.xs.length ≤ 9223372036854775807
  dsl : s.ds.length ≤ 9223372036854775807
  chr : ∀ x ∈ s.chs, x.rng = true ∧ x.lines.length ≤ 9223372036854775807
  enr : ∀ e ∈ s.ents, inI e.time = true ∧ e.posts.length ≤ 9223372036854775807 ∧ ∀ p ∈ e.posts, inI p.2 = true
  car : ∀ c ∈ s.cases, inI c.begun = true ∧ inI c.since = true ∧ inI c.stage = true ∧ inI c.owed = true ∧ inI c.paid = true ∧ inI c.ast = true ∧ inI c.aday = true
  clo : inI s.closed = true
  cou : inI s.count = true

theorem Ent.sm_iff {e : Ent} : e.sm = true ↔ e.posts.length ≤ 40 ∧ e.key.length ≤ 200 ∧ ∀ p ∈ e.posts, fitsB p.2 = true := by
  simp only [Ent.sm, Bool.and_eq_true, decide_eq_true_eq, List.all_eq_true, and_assoc]
theorem Cas.sm_iff {c : Cas} : c.sm = true ↔ c.id.length ≤ 200 ∧ c.plate.length ≤ 200 ∧ c.key.length ≤ 200 := by
  simp only [Cas.sm, Bool.and_eq_true, decide_eq_true_eq, and_assoc]

def small_m : List PA → Option (List PA) := mR stA fun s => if s.Wf then some [.b (decide s.Small)] else none

theorem wkbox {n : Nat} : n ≤ n := Nat.le_refl n

theorem small_ok : PureC Tryd.prog Gt 14 small_m := by
  refine pure_of_awp (X := ctx Tryd.prog Gt [(10, one_m), (24, fits_m)]) Tryd.func14 rfl rfl (by kernel_rfl) (by kernel_rfl) (AllOk.cons one_ok (AllOk.cons fits_ok AllOk.nil)).kok ?_
  intro args r h0
  obtain ⟨s, ⟨hs, rfl⟩, h⟩ := mR_inv h0
  refine ⟨Nat.le_of_ble_eq_true rfl, ?_⟩
  split at h
  · rename_i hw
    cases h
    have hno : ¬ s.Small → decide s.Small = false := fun h => decide_eq_false h
    have hyes : s.Small → decide s.Small = true := fun h => decide_eq_true h
    generalize decide s.Small = r at *
    have l33 : ((s.chs.map Chg.row).length : Int) = s.chs.length := by simp
    have l17 : ((s.accs.map Acc.row).length : Int) = s.accs.length := by simp
    have l35 : ((s.ents.map Ent.row).length : Int) = s.ents.length := by simp
    have l37 : ((s.cases.map Cas.row).length : Int) = s.cases.length := by simp
    have l19 : ((s.hol.map rowN).length : Int) = s.hol.length := by simp
    have l20 : ((s.law.days.map rowN).length : Int) = s.law.days.length := by simp
    have l21 : ((s.law.fees.map rowN).length : Int) = s.law.fees.length := by simp
    have F := And.intro l33 (And.intro l17 (And.intro l35 (And.intro l37 (And.intro l19 (And.intro l20 (And.intro l21 (And.intro hs.c33 (And.intro hs.c17 (And.intro hs.c35 (And.intro hs.c37 (And.intro hs.c19 (And.intro hs.c20 hs.c21))))))))))))
    have hchl := hw.chl
    have henl := hw.enl
    have hcal := hw.cal
    clear l33 l17 l35 l37 l19 l20 l21
    by_cases c1 : (40 : Int) < s.chs.length
    · have hr := hno (fun h => by have := h.chs; omega)
      have hc := Nat.zero_add 0
      repeat' (first | (simp only [hc, Tryd.f14, SX, WH, F, c1, AB, PL, RG, LP, TY, Nat.reduceEqDiff, Nat.reduceAdd, Nat.reduceSub, Nat.reduceMul, Nat.reduceLT, Nat.reduceLeDiff, Nat.reduceMod, Nat.reduceDiv, reduceCtorEq, Int.reduceEq, Int.reduceNe, Int.reduceLT, Int.reduceLE, Int.reduceNeg, Int.reduceToNat, Int.reduceAdd, Int.reduceSub, Int.reduceMul, ↓reduceIte, forall_const, eq_self, ne_eq, Option.some.injEq, beq_self_eq_true]) | refine fin_ndec (fun hc => ?_) (fun hc => ?_) | refine fin_dec (fun hc => ?_) (fun hc => ?_) | refine cnd_ndec (fun hc => ?_) (fun hc => ?_) | refine cnd_dec' (fun hc => ?_) (fun hc => ?_) | refine fin_nsplit (fun hc => ?_) (fun hc => ?_) | refine fin_split (fun hc => ?_) (fun hc => ?_) | refine cnd_nsplit (fun hc => ?_) (fun hc => ?_) | refine cnd_split (fun hc => ?_) (fun hc => ?_) | refine blk_exit_id ?_)
      all_goals simp [hr, DV.b]
    by_cases c2 : (40 : Int) < s.accs.length
    · have hr := hno (fun h => by have := h.accs; omega)
      have hc := Nat.zero_add 0
      repeat' (first | (simp only [hc, Tryd.f14, SX, WH, F, c1, c2, AB, PL, RG, LP, TY, Nat.reduceEqDiff, Nat.reduceAdd, Nat.reduceSub, Nat.reduceMul, Nat.reduceLT, Nat.reduceLeDiff, Nat.reduceMod, Nat.reduceDiv, reduceCtorEq, Int.reduceEq, Int.reduceNe, Int.reduceLT, Int.reduceLE, Int.reduceNeg, Int.reduceToNat, Int.reduceAdd, Int.reduceSub, Int.reduceMul, ↓reduceIte, forall_const, eq_self, ne_eq, Option.some.injEq, beq_self_eq_true]) | refine fin_ndec (fun hc => ?_) (fun hc => ?_) | refine fin_dec (fun hc => ?_) (fun hc => ?_) | refine cnd_ndec (fun hc => ?_) (fun hc => ?_) | refine cnd_dec' (fun hc => ?_) (fun hc => ?_) | refine fin_nsplit (fun hc => ?_) (fun hc => ?_) | refine fin_split (fun hc => ?_) (fun hc => ?_) | refine cnd_nsplit (fun hc => ?_) (fun hc => ?_) | refine cnd_split (fun hc => ?_) (fun hc => ?_) | refine blk_exit_id ?_)
      all_goals simp [hr, DV.b]
    by_cases c3 : (40 : Int) < s.ents.length
    · have hr := hno (fun h => by have := h.ents; omega)
      have hc := Nat.zero_add 0
      repeat' (first | (simp only [hc, Tryd.f14, SX, WH, F, c1, c2, c3, AB, PL, RG, LP, TY, Nat.reduceEqDiff, Nat.reduceAdd, Nat.reduceSub, Nat.reduceMul, Nat.reduceLT, Nat.reduceLeDiff, Nat.reduceMod, Nat.reduceDiv, reduceCtorEq, Int.reduceEq, Int.reduceNe, Int.reduceLT, Int.reduceLE, Int.reduceNeg, Int.reduceToNat, Int.reduceAdd, Int.reduceSub, Int.reduceMul, ↓reduceIte, forall_const, eq_self, ne_eq, Option.some.injEq, beq_self_eq_true]) | refine fin_ndec (fun hc => ?_) (fun hc => ?_) | refine fin_dec (fun hc => ?_) (fun hc => ?_) | refine cnd_ndec (fun hc => ?_) (fun hc => ?_) | refine cnd_dec' (fun hc => ?_) (fun hc => ?_) | refine fin_nsplit (fun hc => ?_) (fun hc => ?_) | refine fin_split (fun hc => ?_) (fun hc => ?_) | refine cnd_nsplit (fun hc => ?_) (fun hc => ?_) | refine cnd_split (fun hc => ?_) (fun hc => ?_) | refine blk_exit_id ?_)
      all_goals simp [hr, DV.b]
    by_cases c4 : (40 : Int) < s.cases.length
    · have hr := hno (fun h => by have := h.cases; omega)
      have hc := Nat.zero_add 0
      repeat' (first | (simp only [hc, Tryd.f14, SX, WH, F, c1, c2, c3, c4, AB, PL, RG, LP, TY, Nat.reduceEqDiff, Nat.reduceAdd, Nat.reduceSub, Nat.reduceMul, Nat.reduceLT, Nat.reduceLeDiff, Nat.reduceMod, Nat.reduceDiv, reduceCtorEq, Int.reduceEq, Int.reduceNe, Int.reduceLT, Int.reduceLE, Int.reduceNeg, Int.reduceToNat, Int.reduceAdd, Int.reduceSub, Int.reduceMul, ↓reduceIte, forall_const, eq_self, ne_eq, Option.some.injEq, beq_self_eq_true]) | refine fin_ndec (fun hc => ?_) (fun hc => ?_) | refine fin_dec (fun hc => ?_) (fun hc => ?_) | refine cnd_ndec (fun hc => ?_) (fun hc => ?_) | refine cnd_dec' (fun hc => ?_) (fun hc => ?_) | refine fin_nsplit (fun hc => ?_) (fun hc => ?_) | refine fin_split (fun hc => ?_) (fun hc => ?_) | refine cnd_nsplit (fun hc => ?_) (fun hc => ?_) | refine cnd_split (fun hc => ?_) (fun hc => ?_) | refine blk_exit_id ?_)
      all_goals simp [hr, DV.b]
    by_cases c5 : (40 : Int) < s.hol.length
    · have hr := hno (fun h => by have := h.hol; omega)
      have hc := Nat.zero_add 0
      repeat' (first | (simp only [hc, Tryd.f14, SX, WH, F, c1, c2, c3, c4, c5, AB, PL, RG, LP, TY, Nat.reduceEqDiff, Nat.reduceAdd, Nat.reduceSub, Nat.reduceMul, Nat.reduceLT, Nat.reduceLeDiff, Nat.reduceMod, Nat.reduceDiv, reduceCtorEq, Int.reduceEq, Int.reduceNe, Int.reduceLT, Int.reduceLE, Int.reduceNeg, Int.reduceToNat, Int.reduceAdd, Int.reduceSub, Int.reduceMul, ↓reduceIte, forall_const, eq_self, ne_eq, Option.some.injEq, beq_self_eq_true]) | refine fin_ndec (fun hc => ?_) (fun hc => ?_) | refine fin_dec (fun hc => ?_) (fun hc => ?_) | refine cnd_ndec (fun hc => ?_) (fun hc => ?_) | refine cnd_dec' (fun hc => ?_) (fun hc => ?_) | refine fin_nsplit (fun hc => ?_) (fun hc => ?_) | refine fin_split (fun hc => ?_) (fun hc => ?_) | refine cnd_nsplit (fun hc => ?_) (fun hc => ?_) | refine cnd_split (fun hc => ?_) (fun hc => ?_) | refine blk_exit_id ?_)
      all_goals simp [hr, DV.b]
    by_cases c6 : (40 : Int) < s.law.days.length
    · have hr := hno (fun h => by have := h.days; omega)
      have hc := Nat.zero_add 0
      repeat' (first | (simp only [hc, Tryd.f14, SX, WH, F, c1, c2, c3, c4, c5, c6, AB, PL, RG, LP, TY, Nat.reduceEqDiff, Nat.reduceAdd, Nat.reduceSub, Nat.reduceMul, Nat.reduceLT, Nat.reduceLeDiff, Nat.reduceMod, Nat.reduceDiv, reduceCtorEq, Int.reduceEq, Int.reduceNe, Int.reduceLT, Int.reduceLE, Int.reduceNeg, Int.reduceToNat, Int.reduceAdd, Int.reduceSub, Int.reduceMul, ↓reduceIte, forall_const, eq_self, ne_eq, Option.some.injEq, beq_self_eq_true]) | refine fin_ndec (fun hc => ?_) (fun hc => ?_) | refine fin_dec (fun hc => ?_) (fun hc => ?_) | refine cnd_ndec (fun hc => ?_) (fun hc => ?_) | refine cnd_dec' (fun hc => ?_) (fun hc => ?_) | refine fin_nsplit (fun hc => ?_) (fun hc => ?_) | refine fin_split (fun hc => ?_) (fun hc => ?_) | refine cnd_nsplit (fun hc => ?_) (fun hc => ?_) | refine cnd_split (fun hc => ?_) (fun hc => ?_) | refine blk_exit_id ?_)
      all_goals simp [hr, DV.b]
    by_cases c7 : (40 : Int) < s.law.fees.length
    · have hr := hno (fun h => by have := h.fees; omega)
      have hc := Nat.zero_add 0
      repeat' (first | (simp only [hc, Tryd.f14, SX, WH, F, c1, c2, c3, c4, c5, c6, c7, AB, PL, RG, LP, TY, Nat.reduceEqDiff, Nat.reduceAdd, Nat.reduceSub, Nat.reduceMul, Nat.reduceLT, Nat.reduceLeDiff, Nat.reduceMod, Nat.reduceDiv, reduceCtorEq, Int.reduceEq, Int.reduceNe, Int.reduceLT, Int.reduceLE, Int.reduceNeg, Int.reduceToNat, Int.reduceAdd, Int.reduceSub, Int.reduceMul, ↓reduceIte, forall_const, eq_self, ne_eq, Option.some.injEq, beq_self_eq_true]) | refine fin_ndec (fun hc => ?_) (fun hc => ?_) | refine fin_dec (fun hc => ?_) (fun hc => ?_) | refine cnd_ndec (fun hc => ?_) (fun hc => ?_) | refine cnd_dec' (fun hc => ?_) (fun hc => ?_) | refine fin_nsplit (fun hc => ?_) (fun hc => ?_) | refine fin_split (fun hc => ?_) (fun hc => ?_) | refine cnd_nsplit (fun hc => ?_) (fun hc => ?_) | refine cnd_split (fun hc => ?_) (fun hc => ?_) | refine blk_exit_id ?_)
      all_goals simp [hr, DV.b]
    have hc := Nat.zero_add 0
    repeat' (first | (simp only [hc, Tryd.f14, SX, WH, F, c1, c2, c3, c4, c5, c6, c7, AB, PL, RG, LP, TY, Nat.reduceEqDiff, Nat.reduceAdd, Nat.reduceSub, Nat.reduceMul, Nat.reduceLT, Nat.reduceLeDiff, Nat.reduceMod, Nat.reduceDiv, reduceCtorEq, Int.reduceEq, Int.reduceNe, Int.reduceLT, Int.reduceLE, Int.reduceNeg, Int.reduceToNat, Int.reduceAdd, Int.reduceSub, Int.reduceMul, ↓reduceIte, forall_const, eq_self, ne_eq, Option.some.injEq, beq_self_eq_true]) | refine fin_ndec (fun hc => ?_) (fun hc => ?_) | refine fin_dec (fun hc => ?_) (fun hc => ?_) | refine cnd_ndec (fun hc => ?_) (fun hc => ?_) | refine cnd_dec' (fun hc => ?_) (fun hc => ?_) | refine fin_nsplit (fun hc => ?_) (fun hc => ?_) | refine fin_split (fun hc => ?_) (fun hc => ?_) | refine cnd_nsplit (fun hc => ?_) (fun hc => ?_) | refine cnd_split (fun hc => ?_) (fun hc => ?_) | refine blk_exit_id ?_)
    refine awp_loop (σ := Nat) (fun j => j ≤ s.chs.length ∧ ∀ x ∈ s.chs.take j, x.one = true) (fun j => ⟨[(3, AV.i j), (1, .v (.c (.ptr 0 0)))], [.box (s.cells.map .d)]⟩) (fun j => s.chs.length - j) 0 (Wk.sub' (by simp [subT, look]) rfl) (by simp) ?_
    rintro j ⟨hj, hall⟩
    by_cases hjl : j < s.chs.length
    · have e1 : (s.chs.map Chg.row)[j]? = some s.chs[j].row := by simp [hjl]
      have hlt : ((j : Int) < (s.chs.length : Int)) = True := eq_true (by omega)
      have hw1 := wI (n := (j : Int) + 1) (by omega) (by omega)
      have hmem : s.chs[j] ∈ s.chs := List.getElem_mem hjl
      have hstep : s.chs.take (j + 1) = s.chs.take j ++ [s.chs[j]] := List.take_succ_eq_append_getElem hjl
      have f1 := one_at (hw.chr _ hmem).2
      generalize s.chs[j] = y at *
      simp only [Chg.row] at e1 f1
      by_cases c8 : y.one = true
      · skip
        have hc := Nat.zero_add 0
        repeat' (first | (simp only [hc, SX, WH, F, e1, hlt, nn, hw1, f1, c8, AB, PL, RG, LP, TY, Nat.reduceEqDiff, Nat.reduceAdd, Nat.reduceSub, Nat.reduceMul, Nat.reduceLT, Nat.reduceLeDiff, Nat.reduceMod, Nat.reduceDiv, reduceCtorEq, Int.reduceEq, Int.reduceNe, Int.reduceLT, Int.reduceLE, Int.reduceNeg, Int.reduceToNat, Int.reduceAdd, Int.reduceSub, Int.reduceMul, ↓reduceIte, forall_const, eq_self, ne_eq, Option.some.injEq, beq_self_eq_true]) | refine fin_ndec (fun hc => ?_) (fun hc => ?_) | refine fin_dec (fun hc => ?_) (fun hc => ?_) | refine cnd_ndec (fun hc => ?_) (fun hc => ?_) | refine cnd_dec' (fun hc => ?_) (fun hc => ?_) | refine fin_nsplit (fun hc => ?_) (fun hc => ?_) | refine fin_split (fun hc => ?_) (fun hc => ?_) | refine cnd_nsplit (fun hc => ?_) (fun hc => ?_) | refine cnd_split (fun hc => ?_) (fun hc => ?_) | refine blk_exit_id ?_)
        refine lp_next (j + 1) (Wk.sub' (by simp [subT, look]) rfl) ⟨by omega, ?_⟩ (by omega)
        intro l hm
        rw [hstep, List.mem_append] at hm
        rcases hm with hm | hm
        · exact hall l hm
        · rw [List.mem_singleton] at hm; subst hm; exact c8
      · have hr := hno (fun h => c8 (h.ones y hmem))
        have hc := Nat.zero_add 0
        repeat' (first | (simp only [hc, SX, WH, F, e1, hlt, nn, hw1, f1, c8, AB, PL, RG, LP, TY, Nat.reduceEqDiff, Nat.reduceAdd, Nat.reduceSub, Nat.reduceMul, Nat.reduceLT, Nat.reduceLeDiff, Nat.reduceMod, Nat.reduceDiv, reduceCtorEq, Int.reduceEq, Int.reduceNe, Int.reduceLT, Int.reduceLE, Int.reduceNeg, Int.reduceToNat, Int.reduceAdd, Int.reduceSub, Int.reduceMul, ↓reduceIte, forall_const, eq_self, ne_eq, Option.some.injEq, beq_self_eq_true]) | refine fin_ndec (fun hc => ?_) (fun hc => ?_) | refine fin_dec (fun hc => ?_) (fun hc => ?_) | refine cnd_ndec (fun hc => ?_) (fun hc => ?_) | refine cnd_dec' (fun hc => ?_) (fun hc => ?_) | refine fin_nsplit (fun hc => ?_) (fun hc => ?_) | refine fin_split (fun hc => ?_) (fun hc => ?_) | refine cnd_nsplit (fun hc => ?_) (fun hc => ?_) | refine cnd_split (fun hc => ?_) (fun hc => ?_) | refine blk_exit_id ?_)
        all_goals simp [hr, DV.b]
    have hlt : ((j : Int) < (s.chs.length : Int)) = False := eq_false (by omega)
    rw [List.take_of_length_le (by omega)] at hall
    have hc := Nat.zero_add 0
    repeat' (first | (simp only [hc, SX, WH, F, hlt, AB, PL, RG, LP, TY, Nat.reduceEqDiff, Nat.reduceAdd, Nat.reduceSub, Nat.reduceMul, Nat.reduceLT, Nat.reduceLeDiff, Nat.reduceMod, Nat.reduceDiv, reduceCtorEq, Int.reduceEq, Int.reduceNe, Int.reduceLT, Int.reduceLE, Int.reduceNeg, Int.reduceToNat, Int.reduceAdd, Int.reduceSub, Int.reduceMul, ↓reduceIte, forall_const, eq_self, ne_eq, Option.some.injEq, beq_self_eq_true]) | refine fin_ndec (fun hc => ?_) (fun hc => ?_) | refine fin_dec (fun hc => ?_) (fun hc => ?_) | refine cnd_ndec (fun hc => ?_) (fun hc => ?_) | refine cnd_dec' (fun hc => ?_) (fun hc => ?_) | refine fin_nsplit (fun hc => ?_) (fun hc => ?_) | refine fin_split (fun hc => ?_) (fun hc => ?_) | refine cnd_nsplit (fun hc => ?_) (fun hc => ?_) | refine cnd_split (fun hc => ?_) (fun hc => ?_) | refine blk_exit_id ?_)
    refine awp_loop (σ := Nat) (fun j => j ≤ s.ents.length ∧ ∀ x ∈ s.ents.take j, x.sm = true) (fun j => ⟨[(4, AV.i j), (1, .v (.c (.ptr 0 0)))], [.box (s.cells.map .d)]⟩) (fun j => s.ents.length - j) 0 (Wk.sub' (by simp [subT, look]) rfl) (by simp) ?_
    rintro i ⟨hi, halle⟩
    by_cases hil : i < s.ents.length
    · have e2 : (s.ents.map Ent.row)[i]? = some s.ents[i].row := by simp [hil]
      have hlti : ((i : Int) < (s.ents.length : Int)) = True := eq_true (by omega)
      have hw2 := wI (n := (i : Int) + 1) (by omega) (by omega)
      have hmem : s.ents[i] ∈ s.ents := List.getElem_mem hil
      have hstepe : s.ents.take (i + 1) = s.ents.take i ++ [s.ents[i]] := List.take_succ_eq_append_getElem hil
      have hk : s.ents[i].sm = true → ∀ l ∈ s.ents.take (i + 1), l.sm = true := fun h l hm => by
        rw [hstepe, List.mem_append] at hm
        rcases hm with hm | hm
        · exact halle l hm
        · rw [List.mem_singleton] at hm; subst hm; exact h
      clear hstepe
      have hno2 : s.ents[i].sm = false → r = false := fun h => hno (fun h2 => by have := h2.esm _ hmem; rw [h] at this; cases this)
      generalize s.ents[i] = y at *
      have hns : ¬ (y.posts.length ≤ 40 ∧ y.key.length ≤ 200 ∧ ∀ p ∈ y.posts, fitsB p.2 = true) → y.sm = false := fun h => by
        rw [Bool.eq_false_iff]; exact fun h2 => h (Ent.sm_iff.1 h2)
      have hys := @Ent.sm_iff y
      generalize y.sm = ysm at *
      obtain ⟨k, tm, pf, ps⟩ := y
      simp only [Ent.row] at e2
      dsimp only at hns hys
      have lp : ((ps.map rowL).length : Int) = ps.length := by simp
      by_cases d1 : (40 : Int) < ps.length
      · have hr := hno2 (hns (fun h => by omega))
        have hc := Nat.zero_add 0
        repeat' (first | (simp only [hc, SX, WH, F, hlti, nn, e2, lp, d1, AB, PL, RG, LP, TY, Nat.reduceEqDiff, Nat.reduceAdd, Nat.reduceSub, Nat.reduceMul, Nat.reduceLT, Nat.reduceLeDiff, Nat.reduceMod, Nat.reduceDiv, reduceCtorEq, Int.reduceEq, Int.reduceNe, Int.reduceLT, Int.reduceLE, Int.reduceNeg, Int.reduceToNat, Int.reduceAdd, Int.reduceSub, Int.reduceMul, ↓reduceIte, forall_const, eq_self, ne_eq, Option.some.injEq, beq_self_eq_true]) | refine fin_ndec (fun hc => ?_) (fun hc => ?_) | refine fin_dec (fun hc => ?_) (fun hc => ?_) | refine cnd_ndec (fun hc => ?_) (fun hc => ?_) | refine cnd_dec' (fun hc => ?_) (fun hc => ?_) | refine fin_nsplit (fun hc => ?_) (fun hc => ?_) | refine fin_split (fun hc => ?_) (fun hc => ?_) | refine cnd_nsplit (fun hc => ?_) (fun hc => ?_) | refine cnd_split (fun hc => ?_) (fun hc => ?_) | refine blk_exit_id ?_)
        all_goals simp [hr, DV.b]
      by_cases d2 : (200 : Int) < k.length
      · have hr := hno2 (hns (fun h => by omega))
        have hc := Nat.zero_add 0
        repeat' (first | (simp only [hc, SX, WH, F, hlti, nn, e2, lp, d1, d2, AB, PL, RG, LP, TY, Nat.reduceEqDiff, Nat.reduceAdd, Nat.reduceSub, Nat.reduceMul, Nat.reduceLT, Nat.reduceLeDiff, Nat.reduceMod, Nat.reduceDiv, reduceCtorEq, Int.reduceEq, Int.reduceNe, Int.reduceLT, Int.reduceLE, Int.reduceNeg, Int.reduceToNat, Int.reduceAdd, Int.reduceSub, Int.reduceMul, ↓reduceIte, forall_const, eq_self, ne_eq, Option.some.injEq, beq_self_eq_true]) | refine fin_ndec (fun hc => ?_) (fun hc => ?_) | refine fin_dec (fun hc => ?_) (fun hc => ?_) | refine cnd_ndec (fun hc => ?_) (fun hc => ?_) | refine cnd_dec' (fun hc => ?_) (fun hc => ?_) | refine fin_nsplit (fun hc => ?_) (fun hc => ?_) | refine fin_split (fun hc => ?_) (fun hc => ?_) | refine cnd_nsplit (fun hc => ?_) (fun hc => ?_) | refine cnd_split (fun hc => ?_) (fun hc => ?_) | refine blk_exit_id ?_)
        all_goals simp [hr, DV.b]
      have hc := Nat.zero_add 0
      repeat' (first | (simp only [hc, SX, WH, F, hlti, nn, e2, lp, d1, d2, AB, PL, RG, LP, TY, Nat.reduceEqDiff, Nat.reduceAdd, Nat.reduceSub, Nat.reduceMul, Nat.reduceLT, Nat.reduceLeDiff, Nat.reduceMod, Nat.reduceDiv, reduceCtorEq, Int.reduceEq, Int.reduceNe, Int.reduceLT, Int.reduceLE, Int.reduceNeg, Int.reduceToNat, Int.reduceAdd, Int.reduceSub, Int.reduceMul, ↓reduceIte, forall_const, eq_self, ne_eq, Option.some.injEq, beq_self_eq_true]) | refine fin_ndec (fun hc => ?_) (fun hc => ?_) | refine fin_dec (fun hc => ?_) (fun hc => ?_) | refine cnd_ndec (fun hc => ?_) (fun hc => ?_) | refine cnd_dec' (fun hc => ?_) (fun hc => ?_) | refine fin_nsplit (fun hc => ?_) (fun hc => ?_) | refine fin_split (fun hc => ?_) (fun hc => ?_) | refine cnd_nsplit (fun hc => ?_) (fun hc => ?_) | refine cnd_split (fun hc => ?_) (fun hc => ?_) | refine blk_exit_id ?_)
      refine awp_loop (σ := Nat) (fun q => q ≤ ps.length ∧ ∀ x ∈ ps.take q, fitsB x.2 = true) (fun q => ⟨[(6, AV.i q), (5, .v (.c (.ptr 1 0))), (4, AV.i i), (1, .v (.c (.ptr 0 0)))], [.box (s.cells.map .d), .box [.d (.str k), .d (.int .i64 tm), .d (.sl pf (ps.map rowL))]]⟩) (fun q => ps.length - q) 0 (Wk.sub' (by simp [subT, look]) rfl) (by simp) ?_
      rintro q ⟨hq, hallp⟩
      by_cases hql : q < ps.length
      · have e3 : (ps.map rowL)[q]? = some [.str ps[q].1, .int .i64 ps[q].2] := by simp [hql, rowL]
        have hltq : ((q : Int) < (ps.length : Int)) = True := eq_true (by omega)
        have hw3 := wI (n := (q : Int) + 1) (by omega) (by omega)
        have hmem3 : ps[q] ∈ ps := List.getElem_mem hql
        have hstep3 : ps.take (q + 1) = ps.take q ++ [ps[q]] := List.take_succ_eq_append_getElem hql
        generalize ps[q] = z at *
        have f3 := @fits_at z.2
        by_cases d3 : fitsB z.2 = true
        · skip
          have hc := Nat.zero_add 0
          repeat' (first | (simp only [hc, SX, WH, F, hltq, nn, e3, lp, hw3, f3, d3, AB, PL, RG, LP, TY, Nat.reduceEqDiff, Nat.reduceAdd, Nat.reduceSub, Nat.reduceMul, Nat.reduceLT, Nat.reduceLeDiff, Nat.reduceMod, Nat.reduceDiv, reduceCtorEq, Int.reduceEq, Int.reduceNe, Int.reduceLT, Int.reduceLE, Int.reduceNeg, Int.reduceToNat, Int.reduceAdd, Int.reduceSub, Int.reduceMul, ↓reduceIte, forall_const, eq_self, ne_eq, Option.some.injEq, beq_self_eq_true]) | refine fin_ndec (fun hc => ?_) (fun hc => ?_) | refine fin_dec (fun hc => ?_) (fun hc => ?_) | refine cnd_ndec (fun hc => ?_) (fun hc => ?_) | refine cnd_dec' (fun hc => ?_) (fun hc => ?_) | refine fin_nsplit (fun hc => ?_) (fun hc => ?_) | refine fin_split (fun hc => ?_) (fun hc => ?_) | refine cnd_nsplit (fun hc => ?_) (fun hc => ?_) | refine cnd_split (fun hc => ?_) (fun hc => ?_) | refine blk_exit_id ?_)
          refine lp_next (q + 1) (Wk.sub' (by simp [subT, look]) rfl) ⟨by omega, ?_⟩ (by omega)
          intro l hm
          rw [hstep3, List.mem_append] at hm
          rcases hm with hm | hm
          · exact hallp l hm
          · rw [List.mem_singleton] at hm; subst hm; exact d3
        · have hr := hno2 (hns (fun h => d3 (h.2.2 z hmem3)))
          have hc := Nat.zero_add 0
          repeat' (first | (simp only [hc, SX, WH, F, hltq, nn, e3, lp, hw3, f3, d3, AB, PL, RG, LP, TY, Nat.reduceEqDiff, Nat.reduceAdd, Nat.reduceSub, Nat.reduceMul, Nat.reduceLT, Nat.reduceLeDiff, Nat.reduceMod, Nat.reduceDiv, reduceCtorEq, Int.reduceEq, Int.reduceNe, Int.reduceLT, Int.reduceLE, Int.reduceNeg, Int.reduceToNat, Int.reduceAdd, Int.reduceSub, Int.reduceMul, ↓reduceIte, forall_const, eq_self, ne_eq, Option.some.injEq, beq_self_eq_true]) | refine fin_ndec (fun hc => ?_) (fun hc => ?_) | refine fin_dec (fun hc => ?_) (fun hc => ?_) | refine cnd_ndec (fun hc => ?_) (fun hc => ?_) | refine cnd_dec' (fun hc => ?_) (fun hc => ?_) | refine fin_nsplit (fun hc => ?_) (fun hc => ?_) | refine fin_split (fun hc => ?_) (fun hc => ?_) | refine cnd_nsplit (fun hc => ?_) (fun hc => ?_) | refine cnd_split (fun hc => ?_) (fun hc => ?_) | refine blk_exit_id ?_)
          all_goals simp [hr, DV.b]
      · have hltq : ((q : Int) < (ps.length : Int)) = False := eq_false (by omega)
        rw [List.take_of_length_le (by omega)] at hallp
        have hsm := hys.2 ⟨by omega, by omega, hallp⟩
        have hc := Nat.zero_add 0
        repeat' (first | (simp only [hc, SX, WH, F, hltq, nn, lp, hw2, AB, PL, RG, LP, TY, Nat.reduceEqDiff, Nat.reduceAdd, Nat.reduceSub, Nat.reduceMul, Nat.reduceLT, Nat.reduceLeDiff, Nat.reduceMod, Nat.reduceDiv, reduceCtorEq, Int.reduceEq, Int.reduceNe, Int.reduceLT, Int.reduceLE, Int.reduceNeg, Int.reduceToNat, Int.reduceAdd, Int.reduceSub, Int.reduceMul, ↓reduceIte, forall_const, eq_self, ne_eq, Option.some.injEq, beq_self_eq_true]) | refine fin_ndec (fun hc => ?_) (fun hc => ?_) | refine fin_dec (fun hc => ?_) (fun hc => ?_) | refine cnd_ndec (fun hc => ?_) (fun hc => ?_) | refine cnd_dec' (fun hc => ?_) (fun hc => ?_) | refine fin_nsplit (fun hc => ?_) (fun hc => ?_) | refine fin_split (fun hc => ?_) (fun hc => ?_) | refine cnd_nsplit (fun hc => ?_) (fun hc => ?_) | refine cnd_split (fun hc => ?_) (fun hc => ?_) | refine blk_exit_id ?_)
        exact lp_next (i + 1) (Wk.cutk (k := 1) (by simp) (by simp) (by simp) (by simp [subT, look]) (by first | rfl | simp [AV.low, V.low, C1.low]) (by first | rfl | simp [Ob.low, C1.low, all_low_d])) ⟨by omega, hk hsm⟩ (by omega)
    have hlti : ((i : Int) < (s.ents.length : Int)) = False := eq_false (by omega)
    rw [List.take_of_length_le (by omega)] at halle
    have hc := Nat.zero_add 0
    repeat' (first | (simp only [hc, SX, WH, F, hlti, AB, PL, RG, LP, TY, Nat.reduceEqDiff, Nat.reduceAdd, Nat.reduceSub, Nat.reduceMul, Nat.reduceLT, Nat.reduceLeDiff, Nat.reduceMod, Nat.reduceDiv, reduceCtorEq, Int.reduceEq, Int.reduceNe, Int.reduceLT, Int.reduceLE, Int.reduceNeg, Int.reduceToNat, Int.reduceAdd, Int.reduceSub, Int.reduceMul, ↓reduceIte, forall_const, eq_self, ne_eq, Option.some.injEq, beq_self_eq_true]) | refine fin_ndec (fun hc => ?_) (fun hc => ?_) | refine fin_dec (fun hc => ?_) (fun hc => ?_) | refine cnd_ndec (fun hc => ?_) (fun hc => ?_) | refine cnd_dec' (fun hc => ?_) (fun hc => ?_) | refine fin_nsplit (fun hc => ?_) (fun hc => ?_) | refine fin_split (fun hc => ?_) (fun hc => ?_) | refine cnd_nsplit (fun hc => ?_) (fun hc => ?_) | refine cnd_split (fun hc => ?_) (fun hc => ?_) | refine blk_exit_id ?_)
    refine awp_loop (σ := Nat) (fun j => j ≤ s.cases.length ∧ ∀ x ∈ s.cases.take j, x.sm = true) (fun j => ⟨[(7, AV.i j), (1, .v (.c (.ptr 0 0)))], [.box (s.cells.map .d)]⟩) (fun j => s.cases.length - j) 0 (Wk.sub' (by simp [subT, look]) rfl) (by simp) ?_
    rintro q ⟨hq, hallq⟩
    by_cases hql : q < s.cases.length
    · have e4 : (s.cases.map Cas.row)[q]? = some s.cases[q].row := by simp [hql]
      have hltq : ((q : Int) < (s.cases.length : Int)) = True := eq_true (by omega)
      have hw4 := wI (n := (q : Int) + 1) (by omega) (by omega)
      have hmem : s.cases[q] ∈ s.cases := List.getElem_mem hql
      have hstep4 : s.cases.take (q + 1) = s.cases.take q ++ [s.cases[q]] := List.take_succ_eq_append_getElem hql
      have hk : s.cases[q].sm = true → ∀ l ∈ s.cases.take (q + 1), l.sm = true := fun h l hm => by
        rw [hstep4, List.mem_append] at hm
        rcases hm with hm | hm
        · exact hallq l hm
        · rw [List.mem_singleton] at hm; subst hm; exact h
      clear hstep4
      have hno2 : s.cases[q].sm = false → r = false := fun h => hno (fun h2 => by have := h2.csm _ hmem; rw [h] at this; cases this)
      generalize s.cases[q] = y at *
      have hns : ¬ (y.id.length ≤ 200 ∧ y.plate.length ≤ 200 ∧ y.key.length ≤ 200) → y.sm = false := fun h => by
        rw [Bool.eq_false_iff]; exact fun h2 => h (Cas.sm_iff.1 h2)
      have hys := @Cas.sm_iff y
      generalize y.sm = ysm at *
      simp only [Cas.row] at e4
      by_cases d1 : (200 : Int) < y.id.length
      · have hr := hno2 (hns (fun h => by omega))
        have hc := Nat.zero_add 0
        repeat' (first | (simp only [hc, SX, WH, F, hltq, nn, e4, d1, AB, PL, RG, LP, TY, Nat.reduceEqDiff, Nat.reduceAdd, Nat.reduceSub, Nat.reduceMul, Nat.reduceLT, Nat.reduceLeDiff, Nat.reduceMod, Nat.reduceDiv, reduceCtorEq, Int.reduceEq, Int.reduceNe, Int.reduceLT, Int.reduceLE, Int.reduceNeg, Int.reduceToNat, Int.reduceAdd, Int.reduceSub, Int.reduceMul, ↓reduceIte, forall_const, eq_self, ne_eq, Option.some.injEq, beq_self_eq_true]) | refine fin_ndec (fun hc => ?_) (fun hc => ?_) | refine fin_dec (fun hc => ?_) (fun hc => ?_) | refine cnd_ndec (fun hc => ?_) (fun hc => ?_) | refine cnd_dec' (fun hc => ?_) (fun hc => ?_) | refine fin_nsplit (fun hc => ?_) (fun hc => ?_) | refine fin_split (fun hc => ?_) (fun hc => ?_) | refine cnd_nsplit (fun hc => ?_) (fun hc => ?_) | refine cnd_split (fun hc => ?_) (fun hc => ?_) | refine blk_exit_id ?_)
        all_goals simp [hr, DV.b]
      by_cases d2 : (200 : Int) < y.plate.length
      · have hr := hno2 (hns (fun h => by omega))
        have hc := Nat.zero_add 0
        repeat' (first | (simp only [hc, SX, WH, F, hltq, nn, e4, d1, d2, AB, PL, RG, LP, TY, Nat.reduceEqDiff, Nat.reduceAdd, Nat.reduceSub, Nat.reduceMul, Nat.reduceLT, Nat.reduceLeDiff, Nat.reduceMod, Nat.reduceDiv, reduceCtorEq, Int.reduceEq, Int.reduceNe, Int.reduceLT, Int.reduceLE, Int.reduceNeg, Int.reduceToNat, Int.reduceAdd, Int.reduceSub, Int.reduceMul, ↓reduceIte, forall_const, eq_self, ne_eq, Option.some.injEq, beq_self_eq_true]) | refine fin_ndec (fun hc => ?_) (fun hc => ?_) | refine fin_dec (fun hc => ?_) (fun hc => ?_) | refine cnd_ndec (fun hc => ?_) (fun hc => ?_) | refine cnd_dec' (fun hc => ?_) (fun hc => ?_) | refine fin_nsplit (fun hc => ?_) (fun hc => ?_) | refine fin_split (fun hc => ?_) (fun hc => ?_) | refine cnd_nsplit (fun hc => ?_) (fun hc => ?_) | refine cnd_split (fun hc => ?_) (fun hc => ?_) | refine blk_exit_id ?_)
        all_goals simp [hr, DV.b]
      by_cases d3 : (200 : Int) < y.key.length
      · have hr := hno2 (hns (fun h => by omega))
        have hc := Nat.zero_add 0
        repeat' (first | (simp only [hc, SX, WH, F, hltq, nn, e4, d1, d2, d3, AB, PL, RG, LP, TY, Nat.reduceEqDiff, Nat.reduceAdd, Nat.reduceSub, Nat.reduceMul, Nat.reduceLT, Nat.reduceLeDiff, Nat.reduceMod, Nat.reduceDiv, reduceCtorEq, Int.reduceEq, Int.reduceNe, Int.reduceLT, Int.reduceLE, Int.reduceNeg, Int.reduceToNat, Int.reduceAdd, Int.reduceSub, Int.reduceMul, ↓reduceIte, forall_const, eq_self, ne_eq, Option.some.injEq, beq_self_eq_true]) | refine fin_ndec (fun hc => ?_) (fun hc => ?_) | refine fin_dec (fun hc => ?_) (fun hc => ?_) | refine cnd_ndec (fun hc => ?_) (fun hc => ?_) | refine cnd_dec' (fun hc => ?_) (fun hc => ?_) | refine fin_nsplit (fun hc => ?_) (fun hc => ?_) | refine fin_split (fun hc => ?_) (fun hc => ?_) | refine cnd_nsplit (fun hc => ?_) (fun hc => ?_) | refine cnd_split (fun hc => ?_) (fun hc => ?_) | refine blk_exit_id ?_)
        all_goals simp [hr, DV.b]
      have hsm := hys.2 ⟨by omega, by omega, by omega⟩
      have hc := Nat.zero_add 0
      repeat' (first | (simp only [hc, SX, WH, F, hltq, nn, e4, d1, d2, d3, hw4, AB, PL, RG, LP, TY, Nat.reduceEqDiff, Nat.reduceAdd, Nat.reduceSub, Nat.reduceMul, Nat.reduceLT, Nat.reduceLeDiff, Nat.reduceMod, Nat.reduceDiv, reduceCtorEq, Int.reduceEq, Int.reduceNe, Int.reduceLT, Int.reduceLE, Int.reduceNeg, Int.reduceToNat, Int.reduceAdd, Int.reduceSub, Int.reduceMul, ↓reduceIte, forall_const, eq_self, ne_eq, Option.some.injEq, beq_self_eq_true]) | refine fin_ndec (fun hc => ?_) (fun hc => ?_) | refine fin_dec (fun hc => ?_) (fun hc => ?_) | refine cnd_ndec (fun hc => ?_) (fun hc => ?_) | refine cnd_dec' (fun hc => ?_) (fun hc => ?_) | refine fin_nsplit (fun hc => ?_) (fun hc => ?_) | refine fin_split (fun hc => ?_) (fun hc => ?_) | refine cnd_nsplit (fun hc => ?_) (fun hc => ?_) | refine cnd_split (fun hc => ?_) (fun hc => ?_) | refine blk_exit_id ?_)
      exact lp_next (q + 1) (Wk.cutk (k := 1) (by simp) (by simp) (by simp) (by simp [subT, look]) (by first | rfl | simp [AV.low, V.low, C1.low]) (by first | rfl | simp [Ob.low, C1.low, all_low_d])) ⟨by omega, hk hsm⟩ (by omega)
    have hltq : ((q : Int) < (s.cases.length : Int)) = False := eq_false (by omega)
    rw [List.take_of_length_le (by omega)] at hallq
    have hr := hyes ⟨by omega, by omega, by omega, by omega, by omega, by omega, by omega, hall, halle, hallq⟩
    have hc := Nat.zero_add 0
    repeat' (first | (simp only [hc, SX, WH, F, hltq, AB, PL, RG, LP, TY, Nat.reduceEqDiff, Nat.reduceAdd, Nat.reduceSub, Nat.reduceMul, Nat.reduceLT, Nat.reduceLeDiff, Nat.reduceMod, Nat.reduceDiv, reduceCtorEq, Int.reduceEq, Int.reduceNe, Int.reduceLT, Int.reduceLE, Int.reduceNeg, Int.reduceToNat, Int.reduceAdd, Int.reduceSub, Int.reduceMul, ↓reduceIte, forall_const, eq_self, ne_eq, Option.some.injEq, beq_self_eq_true]) | refine fin_ndec (fun hc => ?_) (fun hc => ?_) | refine fin_dec (fun hc => ?_) (fun hc => ?_) | refine cnd_ndec (fun hc => ?_) (fun hc => ?_) | refine cnd_dec' (fun hc => ?_) (fun hc => ?_) | refine fin_nsplit (fun hc => ?_) (fun hc => ?_) | refine fin_split (fun hc => ?_) (fun hc => ?_) | refine cnd_nsplit (fun hc => ?_) (fun hc => ?_) | refine cnd_split (fun hc => ?_) (fun hc => ?_) | refine blk_exit_id ?_)
    all_goals simp [hr, DV.b]
  · cases h

theorem small_at {s : St} (h : s.is) (hw : s.Wf) : small_m [.agg s.cells] = some [.b (decide s.Small)] := by
  rw [small_m, stA_eq h, if_pos hw]

/-! Days -/

def tday_m : List PA → Option (List PA) := mR stI fun p => if p.1.Wf ∧ p.1.Small then some (if isD p.2 = true then [.s (dayRep p.1.chs p.2), .i 0] else [.s [], .i 12]) else none
def rtday_m : List PA → Option (List PA) := mR stI fun p => if p.1.Wf ∧ p.1.Small then some (if isD p.2 = true then [.s (dayRep p.1.chs p.2), .i 0] else [.s [], .i 12]) else none

theorem inI_W (n : Int) : inI (W n) = true := inI_iff.2 (by simp only [IntKind.wrap_i64]; omega)
theorem inI_sum : ∀ (l : List Chg), inI (sumC l) = true := fun l => by
  rcases List.eq_nil_or_concat l with rfl | ⟨k, x, rfl⟩
  · exact inI_iff.2 (by simp [sumC])
  · rw [List.concat_eq_append, sum_snoc]; exact inI_W _
theorem on_snoc_t {d : Int} {l : List Chg} {x : Chg} (h : dayF x.time = d) : onDay d (l ++ [x]) = onDay d l ++ [x] := by simp [onDay, h]
theorem on_snoc_f {d : Int} {l : List Chg} {x : Chg} (h : ¬ dayF x.time = d) : onDay d (l ++ [x]) = onDay d l := by simp [onDay, h]
theorem day_len {l : List Chg} (d : Int) (h : l.length ≤ 40) (h1 : ∀ x ∈ l, x.one = true) (h2 : ∀ x ∈ l, x.rng = true) (j : Nat) : (onDay d (l.take j)).length ≤ 40 ∧ ((onDay d (l.take j)).flatMap chargeF).length ≤ 8000000 := by
  have e1 : (onDay d (l.take j)).length ≤ (l.take j).length := List.length_filter_le _ _
  have e2 : (l.take j).length ≤ 40 := by rw [List.length_take]; omega
  have e3 := fl_le chargeF 200000 (onDay d (l.take j)) (fun x hx => by
    have := List.mem_of_mem_take (List.mem_filter.1 hx).1
    exact chargeF_le (h1 x this) (h2 x this))
  exact ⟨by omega, by omega⟩

theorem tday_ok : PureC Tryd.prog Gt 15 tday_m := by
  refine pure_of_awp (X := ctx Tryd.prog Gt [(33, tdate_m), (25, line_m), (34, cday_m), (11, charge_m), (27, count_m), (35, tsum_m), (28, mshow_m)]) Tryd.func15 rfl rfl (by kernel_rfl) (by kernel_rfl) (AllOk.cons tdate_ok (AllOk.cons line_ok (AllOk.cons cday_ok (AllOk.cons charge_ok (AllOk.cons count_ok (AllOk.cons tsum_ok (AllOk.cons mshow_ok AllOk.nil))))))).kok ?_
  intro args r h0
  obtain ⟨⟨s, d⟩, ⟨hs, rfl⟩, h⟩ := mR_inv h0
  refine ⟨Nat.le_of_ble_eq_true rfl, ?_⟩
  split at h
  · rename_i hw
    obtain ⟨hw, hsm⟩ := hw
    dsimp only at hs hw hsm h ⊢
    cases h
    by_cases hD : isD d = true
    · have hd := isD_iff.1 hD
      rw [if_pos hD]
      have h1 : (d < 0) = False := eq_false (by omega)
      have h2 : (795364 ≤ d) = False := eq_false (by omega)
      have l33 : ((s.chs.map Chg.row).length : Int) = s.chs.length := by simp
      have c33 := hs.c33
      have f1 := @tdate_at d
      have hdl := date_le d
      have f2 := ln2 (a := [100, 97, 121]) (by simp) (b := dateF d) (by omega)
      have hR : dayRep s.chs d = lineF [[100, 97, 121], dateF d] ++ (onDay d s.chs).flatMap chargeF ++ lineF [[115, 117, 109], Lib.itoa (onDay d s.chs).length, showF (sumC (onDay d s.chs))] := rfl
      have hHl : (lineF [[100, 97, 121], dateF d]).length ≤ 2003 := line_le (l := [_, _]) (le2 (by simp) (by omega))
      generalize dayRep s.chs d = R at *
      generalize lineF [[100, 97, 121], dateF d] = Hd at *
      have hlen := day_len d hsm.chs hsm.ones (fun x hx => (hw.chr x hx).1)
      have hcl := hsm.chs
      have hc := Nat.zero_add 0
      repeat' (first | (simp only [hc, Tryd.f15, SX, WH, h1, h2, c33, l33, f1, f2, AB, PL, RG, LP, TY, Nat.reduceEqDiff, Nat.reduceAdd, Nat.reduceSub, Nat.reduceMul, Nat.reduceLT, Nat.reduceLeDiff, Nat.reduceMod, Nat.reduceDiv, reduceCtorEq, Int.reduceEq, Int.reduceNe, Int.reduceLT, Int.reduceLE, Int.reduceNeg, Int.reduceToNat, Int.reduceAdd, Int.reduceSub, Int.reduceMul, ↓reduceIte, forall_const, eq_self, ne_eq, Option.some.injEq, beq_self_eq_true]) | refine fin_ndec (fun hc => ?_) (fun hc => ?_) | refine fin_dec (fun hc => ?_) (fun hc => ?_) | refine cnd_ndec (fun hc => ?_) (fun hc => ?_) | refine cnd_dec' (fun hc => ?_) (fun hc => ?_) | refine fin_nsplit (fun hc => ?_) (fun hc => ?_) | refine fin_split (fun hc => ?_) (fun hc => ?_) | refine cnd_nsplit (fun hc => ?_) (fun hc => ?_) | refine cnd_split (fun hc => ?_) (fun hc => ?_) | refine blk_exit_id ?_)
      refine awp_loop (σ := Nat) (fun j => j ≤ s.chs.length)
        (fun j => ⟨[(24, AV.i j), (23, AV.i s.chs.length), (22, AV.d (.sl s.cf (s.chs.map Chg.row))), (7, .v (.c (.own 1 ((onDay d (s.chs.take j)).map Chg.row)))), (6, AV.s (Hd ++ (onDay d (s.chs.take j)).flatMap chargeF)), (1, AV.i d)], [.box (s.cells.map .d), .tok (onDay d (s.chs.take j)).length 7 none]⟩)
        (fun j => s.chs.length - j) 0 (Wk.trans (Wk.own 7 7 (by omega) (by simp [look])) (Wk.sub' (by simp [subT, look, onDay]) (by simp [onDay]))) (by simp) ?_
      intro j hj
      obtain ⟨k0, k1⟩ := hlen j
      have lo : ((onDay d (s.chs.take j)).map Chg.row).length = (onDay d (s.chs.take j)).length := by simp
      by_cases hjl : j < s.chs.length
      · have e1 : (s.chs.map Chg.row)[j]? = some s.chs[j].row := by simp [hjl]
        have hlt : ((j : Int) < (s.chs.length : Int)) = True := eq_true (by omega)
        have hw1 := wI (n := (j : Int) + 1) (by omega) (by omega)
        have hmem : s.chs[j] ∈ s.chs := List.getElem_mem hjl
        have hstep : s.chs.take (j + 1) = s.chs.take j ++ [s.chs[j]] := List.take_succ_eq_append_getElem hjl
        have g1 := charge_at (hsm.ones _ hmem) (hw.chr _ hmem).1
        have g4 := chargeF_le (hsm.ones _ hmem) (hw.chr _ hmem).1
        generalize s.chs[j] = y at *
        by_cases hy : dayF y.time = d
        · have q1 := on_snoc_t (l := s.chs.take j) hy
          rw [← hstep] at q1
          have k3 : (((onDay d (s.chs.take j)).length + 1) * 96 ≤ 140737488355328) = True := eq_true (by omega)
          have k4 : ((onDay d (s.chs.take j)).length + 1 ≤ 4611686018427387904) = True := eq_true (by omega)
          have k5 : ((Hd ++ (onDay d (s.chs.take j)).flatMap chargeF).length + (chargeF y).length ≤ 4611686018427387904) = True := eq_true (by rw [List.length_append]; omega)
          simp only [Chg.row] at e1 g1
          have hc := Nat.zero_add 0
          repeat' (first | (simp only [hc, SX, e1, l33, hlt, nn, hw1, cday_m, mEq, hy, g1, lo, k3, k4, k5, AB, PL, RG, LP, TY, Nat.reduceEqDiff, Nat.reduceAdd, Nat.reduceSub, Nat.reduceMul, Nat.reduceLT, Nat.reduceLeDiff, Nat.reduceMod, Nat.reduceDiv, reduceCtorEq, Int.reduceEq, Int.reduceNe, Int.reduceLT, Int.reduceLE, Int.reduceNeg, Int.reduceToNat, Int.reduceAdd, Int.reduceSub, Int.reduceMul, ↓reduceIte, forall_const, eq_self, ne_eq, Option.some.injEq, beq_self_eq_true]) | refine fin_ndec (fun hc => ?_) (fun hc => ?_) | refine fin_dec (fun hc => ?_) (fun hc => ?_) | refine cnd_ndec (fun hc => ?_) (fun hc => ?_) | refine cnd_dec' (fun hc => ?_) (fun hc => ?_) | refine fin_nsplit (fun hc => ?_) (fun hc => ?_) | refine fin_split (fun hc => ?_) (fun hc => ?_) | refine cnd_nsplit (fun hc => ?_) (fun hc => ?_) | refine cnd_split (fun hc => ?_) (fun hc => ?_) | refine blk_exit_id ?_)
          exact lp_next (j + 1) (Wk.cutk (k := 2) (by simp) (by simp) (by simp [q1, Chg.row]) (by simp [subT, look, q1, Chg.row]) (by first | rfl | simp [AV.low, V.low, C1.low]) (by first | rfl | simp [Ob.low, C1.low, all_low_d])) (by omega) (by omega)
        · have q1 := on_snoc_f (l := s.chs.take j) hy
          rw [← hstep] at q1
          simp only [Chg.row] at e1
          have hc := Nat.zero_add 0
          repeat' (first | (simp only [hc, SX, e1, l33, hlt, nn, hw1, cday_m, mEq, hy, AB, PL, RG, LP, TY, Nat.reduceEqDiff, Nat.reduceAdd, Nat.reduceSub, Nat.reduceMul, Nat.reduceLT, Nat.reduceLeDiff, Nat.reduceMod, Nat.reduceDiv, reduceCtorEq, Int.reduceEq, Int.reduceNe, Int.reduceLT, Int.reduceLE, Int.reduceNeg, Int.reduceToNat, Int.reduceAdd, Int.reduceSub, Int.reduceMul, ↓reduceIte, forall_const, eq_self, ne_eq, Option.some.injEq, beq_self_eq_true]) | refine fin_ndec (fun hc => ?_) (fun hc => ?_) | refine fin_dec (fun hc => ?_) (fun hc => ?_) | refine cnd_ndec (fun hc => ?_) (fun hc => ?_) | refine cnd_dec' (fun hc => ?_) (fun hc => ?_) | refine fin_nsplit (fun hc => ?_) (fun hc => ?_) | refine fin_split (fun hc => ?_) (fun hc => ?_) | refine cnd_nsplit (fun hc => ?_) (fun hc => ?_) | refine cnd_split (fun hc => ?_) (fun hc => ?_) | refine blk_exit_id ?_)
          exact lp_next (j + 1) (Wk.cutk (k := 2) (by simp) (by simp) (by simp [q1]) (by simp [subT, look, q1]) (by first | rfl | simp [AV.low, V.low, C1.low]) (by first | rfl | simp [Ob.low, C1.low, all_low_d])) (by omega) (by omega)
      · have hlt : ((j : Int) < (s.chs.length : Int)) = False := eq_false (by omega)
        have et : s.chs.take j = s.chs := List.take_of_length_le (by omega)
        simp only [et] at lo k0 k1 ⊢
        have g1 := tsum_at (f := false) (l := onDay d s.chs) (by omega)
        have g2 := mshow_at (inI_sum (onDay d s.chs))
        have g3 := count_at (n := ((onDay d s.chs).length : Int)) (inI_iff.2 (by omega))
        have g4 := ln3 (a := [115, 117, 109]) (by simp) (b := Lib.itoa ((onDay d s.chs).length : Int)) (by have := itoa_le (n := ((onDay d s.chs).length : Int)) (inI_iff.2 (by omega)); omega) (c := showF (sumC (onDay d s.chs))) (by have := show_le (inI_sum (onDay d s.chs)); omega)
        have g5 : (lineF [[115, 117, 109], Lib.itoa ((onDay d s.chs).length : Int), showF (sumC (onDay d s.chs))]).length ≤ 3004 := line_le (l := [_, _, _]) (le3 (by simp) (by have := itoa_le (n := ((onDay d s.chs).length : Int)) (inI_iff.2 (by omega)); omega) (by have := show_le (inI_sum (onDay d s.chs)); omega))
        have k5 : ((Hd ++ (onDay d s.chs).flatMap chargeF).length + (lineF [[115, 117, 109], Lib.itoa ((onDay d s.chs).length : Int), showF (sumC (onDay d s.chs))]).length ≤ 4611686018427387904) = True := eq_true (by rw [List.length_append]; omega)
        have hc := Nat.zero_add 0
        repeat' (first | (simp only [hc, SX, l33, hlt, lo, g1, g2, g3, g4, k5, AB, PL, RG, LP, TY, Nat.reduceEqDiff, Nat.reduceAdd, Nat.reduceSub, Nat.reduceMul, Nat.reduceLT, Nat.reduceLeDiff, Nat.reduceMod, Nat.reduceDiv, reduceCtorEq, Int.reduceEq, Int.reduceNe, Int.reduceLT, Int.reduceLE, Int.reduceNeg, Int.reduceToNat, Int.reduceAdd, Int.reduceSub, Int.reduceMul, ↓reduceIte, forall_const, eq_self, ne_eq, Option.some.injEq, beq_self_eq_true]) | refine fin_ndec (fun hc => ?_) (fun hc => ?_) | refine fin_dec (fun hc => ?_) (fun hc => ?_) | refine cnd_ndec (fun hc => ?_) (fun hc => ?_) | refine cnd_dec' (fun hc => ?_) (fun hc => ?_) | refine fin_nsplit (fun hc => ?_) (fun hc => ?_) | refine fin_split (fun hc => ?_) (fun hc => ?_) | refine cnd_nsplit (fun hc => ?_) (fun hc => ?_) | refine cnd_split (fun hc => ?_) (fun hc => ?_) | refine blk_exit_id ?_)
        all_goals simp [hR, DV.i]
    · rw [if_neg hD]
      have hd : d < 0 ∨ 795364 ≤ d := by
        have : ¬ (0 ≤ d ∧ d < 795364) := fun h => hD (isD_iff.2 h)
        omega
      by_cases h1 : d < 0
      · skip
        have hc := Nat.zero_add 0
        repeat' (first | (simp only [hc, Tryd.f15, SX, WH, h1, AB, PL, RG, LP, TY, Nat.reduceEqDiff, Nat.reduceAdd, Nat.reduceSub, Nat.reduceMul, Nat.reduceLT, Nat.reduceLeDiff, Nat.reduceMod, Nat.reduceDiv, reduceCtorEq, Int.reduceEq, Int.reduceNe, Int.reduceLT, Int.reduceLE, Int.reduceNeg, Int.reduceToNat, Int.reduceAdd, Int.reduceSub, Int.reduceMul, ↓reduceIte, forall_const, eq_self, ne_eq, Option.some.injEq, beq_self_eq_true]) | refine fin_ndec (fun hc => ?_) (fun hc => ?_) | refine fin_dec (fun hc => ?_) (fun hc => ?_) | refine cnd_ndec (fun hc => ?_) (fun hc => ?_) | refine cnd_dec' (fun hc => ?_) (fun hc => ?_) | refine fin_nsplit (fun hc => ?_) (fun hc => ?_) | refine fin_split (fun hc => ?_) (fun hc => ?_) | refine cnd_nsplit (fun hc => ?_) (fun hc => ?_) | refine cnd_split (fun hc => ?_) (fun hc => ?_) | refine blk_exit_id ?_)
        all_goals simp [DV.i]
      · have h2 : (795364 ≤ d) = True := eq_true (by omega)
        have hc := Nat.zero_add 0
        repeat' (first | (simp only [hc, Tryd.f15, SX, WH, h1, h2, AB, PL, RG, LP, TY, Nat.reduceEqDiff, Nat.reduceAdd, Nat.reduceSub, Nat.reduceMul, Nat.reduceLT, Nat.reduceLeDiff, Nat.reduceMod, Nat.reduceDiv, reduceCtorEq, Int.reduceEq, Int.reduceNe, Int.reduceLT, Int.reduceLE, Int.reduceNeg, Int.reduceToNat, Int.reduceAdd, Int.reduceSub, Int.reduceMul, ↓reduceIte, forall_const, eq_self, ne_eq, Option.some.injEq, beq_self_eq_true]) | refine fin_ndec (fun hc => ?_) (fun hc => ?_) | refine fin_dec (fun hc => ?_) (fun hc => ?_) | refine cnd_ndec (fun hc => ?_) (fun hc => ?_) | refine cnd_dec' (fun hc => ?_) (fun hc => ?_) | refine fin_nsplit (fun hc => ?_) (fun hc => ?_) | refine fin_split (fun hc => ?_) (fun hc => ?_) | refine cnd_nsplit (fun hc => ?_) (fun hc => ?_) | refine cnd_split (fun hc => ?_) (fun hc => ?_) | refine blk_exit_id ?_)
        all_goals simp [DV.i]
  · cases h

end
end Go.Ab
