/-
  Texts of the layer and of the laws, put together: AbU25, AbV12. No law is stated here.
-/
import Derived.Test.YtckjmdppjealdaaGreatDoorAbVol46
set_option linter.unusedSimpArgs false
set_option linter.unusedVariables false
set_option maxRecDepth 100000

/-
  Sessions, the reference's reading: All; the bounds of SessionSteps.
-/
namespace Go.Ab
open Go.RowKit Go.Proofs

def some1 (s : Ses) : Bool := decide (s.id.length ≤ 200 ∧ s.zone.length ≤ 40 ∧ s.plate.length ≤ 40 ∧ s.seen.length ≤ 20)
def someB (l : List Ses) : Bool := l.all some1 && decide (l.length ≤ 20)
def encSs (p : Bool × List Ses) : List PA := [.c (.sl p.1 (p.2.map Ses.row))]
theorem encSs_inj (a b : Bool × List Ses) (h : encSs a = encSs b) : a = b := by
  obtain ⟨a1, a2⟩ := a
  obtain ⟨b1, b2⟩ := b
  simpa [encSs, mapS_inj] using h
theorem some_ok {l : List Ses} (h : someB l = true) : l.length ≤ 1000000 ∧ ∀ s ∈ l, s.seen.length ≤ 1000000 := by
  unfold someB at h
  rw [Bool.and_eq_true, List.all_eq_true, decide_eq_true_eq] at h
  refine ⟨by omega, fun s hs => ?_⟩
  have h := of_decide_eq_true (h.1 s hs)
  omega
theorem FewS.rstep {n : Nat} {a : List Ses × List Exc} {zs : List Zon} {p : Par} (h : FewS n a) : FewS (n + 1) (rstepX zs a p) := by
  have h' : FewS n (a.1.map cpS, a.2) := ⟨by simpa using h.ss, fun s hs => by obtain ⟨x, hx, rfl⟩ := List.mem_map.1 hs; exact h.sn x hx, h.xs⟩
  have h2 := h'.step (zs := zs) (p := p)
  unfold stepX at h2
  unfold rstepX
  dsimp only at h2
  split
  · rename_i hc
    rw [if_pos hc] at h2
    exact h2
  · rename_i hc
    rw [if_neg hc] at h2
    exact ⟨Nat.le_succ_of_le h.ss, fun s hs => Nat.le_succ_of_le (h.sn s hs), h2.xs⟩

noncomputable section
open Classical

theorem r7step_at {f : Bool} {l : List Ses} {p : Par} {g : Bool} {zs : List Zon} (h1 : l.length ≤ 1000000) (h2 : ∀ s ∈ l, s.seen.length ≤ 1000000) (hp : p.Ok) (hz : zonesOk zs) :
    r7step_m [.c (.sl f (l.map Ses.row)), .agg p.row, .c (.sl g (zs.map Zon.row))] = some (stepR f l p zs) := by
  have := mE_eq encStep_inj (g := fun q => if q.1.2.length ≤ 1000000 ∧ (∀ s ∈ q.1.2, s.seen.length ≤ 1000000) ∧ q.2.1.Ok ∧ zonesOk q.2.2.2 then some (stepR q.1.1 q.1.2 q.2.1 q.2.2.2) else none) (a := ((f, l), p, g, zs))
  exact this.trans (if_pos ⟨h1, h2, hp, hz⟩)

def someS_m : List PA → Option (List PA) := mE encSs fun p => if decide (p.2.length ≤ 9223372036854775807) = true then some [.b (someB p.2)] else none
def r7all_m : List PA → Option (List PA) := mE encPsZs fun p => if p.1.2.length ≤ 1000000 ∧ (∀ q ∈ p.1.2, q.Ok) ∧ zonesOk p.2.2 then some [.c (.sl false ((rAll p.2.2 p.1.2).1.map Ses.row)), .c (.sl false ((rAll p.2.2 p.1.2).2.map Exc.row))] else none

theorem someS_ok : PureC Tryz.prog Gt 9 someS_m := by
  refine pure_of_awp (X := ctx Tryz.prog Gt []) Tryz.func9 rfl rfl (by kernel_rfl) (by kernel_rfl) AllOk.nil.kok ?_
  intro args r h0
  obtain ⟨⟨f, l⟩, rfl, h⟩ := mE_inv h0
  refine ⟨Nat.le_of_ble_eq_true rfl, ?_⟩
  split at h
  · rename_i hl
    have hl := of_decide_eq_true hl
    dsimp only at hl h
    cases h
    have l1 := @lenSs l
    have hR : someB l = (l.all some1 && decide (l.length ≤ 20)) := rfl
    generalize someB l = R at *
    have hc := Nat.zero_add 0
    repeat' (first | simp only [hc, Tryz.f9, encSs, SX, l1, AB, PL, RG, LP, TY, simprocAttr, ↓reduceIte, forall_const, eq_self, ne_eq, Option.some.injEq, beq_self_eq_true] | ((first | apply fin_ndec | apply fin_dec | apply cnd_ndec | apply cnd_dec' | apply fin_nsplit | apply fin_split | apply cnd_nsplit | apply cnd_split) <;> intro hc) | refine blk_exit_id ?_)
    refine awp_loop (σ := Nat) (fun j => j ≤ l.length ∧ (l.take j).all some1 = true) (fun j => ⟨[(3, AV.i j), (0, AV.d (.sl f (l.map Ses.row)))], []⟩) (fun j => l.length - j) 0 (Wk.sub' (by simp [subT, look]) rfl) (by simp) ?_
    rintro j ⟨hj, hall⟩
    by_cases hjl : j < l.length
    · have hlt : ((j : Int) < (l.length : Int)) = True := eq_true (by omega)
      have hw := wI (n := (j : Int) + 1) (by omega) (by omega)
      have e1 := ss_at hjl
      have h1 := all_next (p := some1) hjl hall
      have h2 := all_bad (p := some1) hjl
      have h3 : some1 l[j] = decide (l[j].id.length ≤ 200 ∧ l[j].zone.length ≤ 40 ∧ l[j].plate.length ≤ 40 ∧ l[j].seen.length ≤ 20) := rfl
      have m2 := @lenIs l[j].seen
      rw [h3] at h1 h2
      generalize l[j] = x at *
      by_cases c1 : x.id.length ≤ 200 ∧ x.zone.length ≤ 40 ∧ x.plate.length ≤ 40 ∧ x.seen.length ≤ 20
      · have d1 : ¬ ((200 : Int) < x.id.length) := by omega
        have d2 : ¬ ((40 : Int) < x.zone.length) := by omega
        have d3 : ¬ ((40 : Int) < x.plate.length) := by omega
        have d4 : ¬ ((20 : Int) < x.seen.length) := by omega
        have hc := Nat.zero_add 0
        repeat' (first | simp only [hc, SX, l1, hlt, nn, hw, e1, m2, d1, d2, d3, d4, AB, PL, RG, LP, TY, simprocAttr, ↓reduceIte, forall_const, eq_self, ne_eq, Option.some.injEq, beq_self_eq_true] | ((first | apply fin_ndec | apply fin_dec | apply cnd_ndec | apply cnd_dec' | apply fin_nsplit | apply fin_split | apply cnd_nsplit | apply cnd_split) <;> intro hc) | refine blk_exit_id ?_)
        exact lp_next (j + 1) (Wk.sub' (by simp [subT, look]) rfl) ⟨by omega, h1 (decide_eq_true c1)⟩ (by omega)
      · have hR : R = false := by rw [hR, h2 (decide_eq_false c1)]; rfl
        have hc := Nat.zero_add 0
        repeat' (first | simp only [hc, SX, l1, hlt, nn, hw, e1, m2, AB, PL, RG, LP, TY, simprocAttr, ↓reduceIte, forall_const, eq_self, ne_eq, Option.some.injEq, beq_self_eq_true] | ((first | apply fin_ndec | apply fin_dec | apply cnd_ndec | apply cnd_dec' | apply fin_nsplit | apply fin_split | apply cnd_nsplit | apply cnd_split) <;> intro hc) | refine blk_exit_id ?_)
        all_goals first
          | (exfalso; omega)
          | (simp [hR, DV.b]; done)
    · have hlt : ((j : Int) < (l.length : Int)) = False := eq_false (by omega)
      rw [List.take_of_length_le (by omega)] at hall
      have hR : R = decide ((l.length : Int) ≤ 20) := by rw [hR, hall, Bool.true_and]; congr 1; apply propext; omega
      have hc := Nat.zero_add 0
      repeat' (first | simp only [hc, SX, l1, hlt, AB, PL, RG, LP, TY, simprocAttr, ↓reduceIte, forall_const, eq_self, ne_eq, Option.some.injEq, beq_self_eq_true] | ((first | apply fin_ndec | apply fin_dec | apply cnd_ndec | apply cnd_dec' | apply fin_nsplit | apply fin_split | apply cnd_nsplit | apply cnd_split) <;> intro hc) | refine blk_exit_id ?_)
      all_goals simp [hR, DV.b]
  · cases h
theorem someS_at {f : Bool} {l : List Ses} (h : l.length ≤ 9223372036854775807) : someS_m [.c (.sl f (l.map Ses.row))] = some [.b (someB l)] := by
  have := mE_eq encSs_inj (g := fun p => if decide (p.2.length ≤ 9223372036854775807) = true then some [DV.b (someB p.2)] else none) (a := (f, l))
  exact this.trans (if_pos (decide_eq_true h))

theorem r7all_ok : PureC Tryz.prog Gt 16 r7all_m := by
  refine pure_of_awp (X := ctx Tryz.prog Gt [(42, r7sort_m), (12, r7step_m), (34, r7check_m), (38, r7key_m)]) Tryz.func16 rfl rfl (by kernel_rfl) (by kernel_rfl) (AllOk.cons r7sort_ok (AllOk.cons r7step_ok (AllOk.cons r7check_ok (AllOk.cons r7key_ok AllOk.nil)))).kok ?_
  intro args r h0
  obtain ⟨⟨⟨f, ps⟩, g, zs⟩, rfl, h⟩ := mE_inv h0
  refine ⟨Nat.le_of_ble_eq_true rfl, ?_⟩
  split at h
  · rename_i hl
    obtain ⟨hl1, hl2, hz⟩ := hl
    dsimp only at hl1 hl2 hz h
    cases h
    have f1 := r7sort_at (f := f) (l := ps) ⟨hl1, hl2⟩
    have hsl := sortR_len ps
    have hok : ∀ p ∈ sortR ps, p.Ok := fun p hp => hl2 p (mem_sortR.1 hp)
    have hR : rAll zs ps = (sortR ps).foldl (rstepX zs) ([], []) := rfl
    generalize rAll zs ps = R at *
    generalize sortR ps = sorted at *
    have l1 := @lenPr sorted
    have hc := Nat.zero_add 0
    repeat' (first | simp only [hc, Tryz.f16, encPsZs, SX, f1, l1, AB, PL, RG, LP, TY, simprocAttr, ↓reduceIte, forall_const, eq_self, ne_eq, Option.some.injEq, beq_self_eq_true] | ((first | apply fin_ndec | apply fin_dec | apply cnd_ndec | apply cnd_dec' | apply fin_nsplit | apply fin_split | apply cnd_nsplit | apply cnd_split) <;> intro hc) | refine blk_exit_id ?_)
    refine awp_loop (σ := Nat × List Ses × List Exc) (fun s => s.1 ≤ sorted.length ∧ FewS s.1 s.2 ∧ s.2 = (sorted.take s.1).foldl (rstepX zs) ([], [])) (fun s => ⟨[(9, AV.i s.1), (8, .v (.c (.own 0 (s.2.2.map Exc.row)))), (7, AV.d (.sl false (s.2.1.map Ses.row))), (6, AV.d (.sl false (sorted.map Par.row))), (1, AV.d (.sl g (zs.map Zon.row)))], [.tok s.2.2.length 2 none]⟩) (fun s => sorted.length - s.1) (0, [], [])
      ((Wk.own 8 2 (by decide) (by simp [look])).trans ((Wk.ofFull 7 true [] (by simp [look])).trans (Wk.sub' (by simp [subT, look]) rfl)))
      ⟨Nat.zero_le _, ⟨Nat.le_refl _, fun s hs => by simp at hs, Nat.le_refl _⟩, rfl⟩ ?_
    rintro ⟨j, L, X⟩ ⟨hj, hfew, hres⟩
    dsimp only at hj hfew hres ⊢
    by_cases hjl : j < sorted.length
    · have hlt : ((j : Int) < (sorted.length : Int)) = True := eq_true (by omega)
      have hw := wI (n := (j : Int) + 1) (by omega) (by omega)
      have e1 := pr_at hjl
      have hpo := hok _ (List.getElem_mem hjl)
      have hnext := foldl_take (f := rstepX zs) (b := ([], [])) hjl
      rw [← hres] at hnext
      have hfn := hfew.rstep (zs := zs) (p := sorted[j])
      generalize sorted[j] = p at *
      have f2 := r7step_at (f := false) (g := g) (l := L) (p := p) (zs := zs) (by have := hfew.ss; dsimp only at this; omega) (fun s hs => by have := hfew.sn s hs; omega) hpo hz
      have f3 := r7check_at (f := g) hz hpo
      have f4 := r7key_at hpo
      have hxs := hfew.xs
      dsimp only at hxs
      unfold stepR at f2
      unfold rstepX at hnext hfn
      dsimp only at hnext hfn
      generalize applyF zs (L.map cpS) p = A at *
      by_cases c1 : A.2 = 0
      · rw [if_pos c1] at f2 hnext hfn
        simp only [Par.row] at f2
        have hc := Nat.zero_add 0
        repeat' (first | simp only [hc, SX, l1, hlt, nn, e1, f2, hw, AB, PL, RG, LP, TY, simprocAttr, ↓reduceIte, forall_const, eq_self, ne_eq, Option.some.injEq, beq_self_eq_true] | ((first | apply fin_ndec | apply fin_dec | apply cnd_ndec | apply cnd_dec' | apply fin_nsplit | apply fin_split | apply cnd_nsplit | apply cnd_split) <;> intro hc) | refine blk_exit_id ?_)
        exact lp_next (j + 1, A.1, X) (Wk.sub' (by simp [subT, look]) rfl) ⟨by simp only []; omega, hfn, hnext.symm⟩ (by simp only []; omega)
      · rw [if_neg c1] at f2 hnext hfn
        have c1' : (A.2 = 0) = False := eq_false c1
        have ap : ∀ (h : Hp) (key : List UInt8) (w : Int), apTok h 0 2 24 (X.map Exc.row) [[.str key, .int .i64 w]] (some (.tok X.length 2 none)) = some (.v (.c (.own 0 ((X ++ [(⟨key, w⟩ : Exc)]).map Exc.row))), h.set 0 (.tok (X ++ [(⟨key, w⟩ : Exc)]).length 2 none)) := fun h key w => by
          rw [apTok_ok (eq_true (by simp)) (eq_true (by simp [allLen])) (eq_true (by simp; omega)) (eq_true (by simp; omega))]
          simp [Exc.row]
        by_cases c2 : errP zs p = 0
        · rw [c2] at f3
          rw [if_neg (by simpa using c2)] at hnext hfn
          generalize keyF p = key at *
          simp only [Par.row] at f2 f3 f4
          have hc := Nat.zero_add 0
          repeat' (first | simp only [hc, SX, l1, hlt, nn, e1, f2, f3, f4, hw, c1', ap, AB, PL, RG, LP, TY, simprocAttr, ↓reduceIte, forall_const, eq_self, ne_eq, Option.some.injEq, beq_self_eq_true] | ((first | apply fin_ndec | apply fin_dec | apply cnd_ndec | apply cnd_dec' | apply fin_nsplit | apply fin_split | apply cnd_nsplit | apply cnd_split) <;> intro hc) | refine blk_exit_id ?_)
          exact lp_next (j + 1, L, X ++ [⟨key, 4⟩]) (Wk.sub' (by simp [subT, look]) rfl) ⟨by simp only []; omega, hfn, hnext.symm⟩ (by simp only []; omega)
        · have c2' : (errP zs p = 0) = False := eq_false c2
          rw [if_pos (by simpa using c2)] at hnext hfn
          generalize keyF p = key at *
          generalize errP zs p = er at *
          simp only [Par.row] at f2 f3 f4
          have hc := Nat.zero_add 0
          repeat' (first | simp only [hc, SX, l1, hlt, nn, e1, f2, f3, f4, hw, c1', c2', ap, AB, PL, RG, LP, TY, simprocAttr, ↓reduceIte, forall_const, eq_self, ne_eq, Option.some.injEq, beq_self_eq_true] | ((first | apply fin_ndec | apply fin_dec | apply cnd_ndec | apply cnd_dec' | apply fin_nsplit | apply fin_split | apply cnd_nsplit | apply cnd_split) <;> intro hc) | refine blk_exit_id ?_)
          exact lp_next (j + 1, L, X ++ [⟨key, 3⟩]) (Wk.sub' (by simp [subT, look]) rfl) ⟨by simp only []; omega, hfn, hnext.symm⟩ (by simp only []; omega)
    · have hlt : ((j : Int) < (sorted.length : Int)) = False := eq_false (by omega)
      rw [List.take_of_length_le (by omega), ← hR] at hres
      have hr1 : L = R.1 := by rw [← hres]
      have hr2 : X = R.2 := by rw [← hres]
      have hc := Nat.zero_add 0
      repeat' (first | simp only [hc, SX, l1, hlt, AB, PL, RG, LP, TY, simprocAttr, ↓reduceIte, forall_const, eq_self, ne_eq, Option.some.injEq, beq_self_eq_true] | ((first | apply fin_ndec | apply fin_dec | apply cnd_ndec | apply cnd_dec' | apply fin_nsplit | apply fin_split | apply cnd_nsplit | apply cnd_split) <;> intro hc) | refine blk_exit_id ?_)
      all_goals simp [hr1, hr2]
  · cases h
theorem r7all_at {f g : Bool} {ps : List Par} {zs : List Zon} (h1 : ps.length ≤ 1000000) (h2 : ∀ q ∈ ps, q.Ok) (hz : zonesOk zs) :
    r7all_m [.c (.sl f (ps.map Par.row)), .c (.sl g (zs.map Zon.row))] = some [.c (.sl false ((rAll zs ps).1.map Ses.row)), .c (.sl false ((rAll zs ps).2.map Exc.row))] := by
  have := mE_eq encPsZs_inj (g := fun p => if p.1.2.length ≤ 1000000 ∧ (∀ q ∈ p.1.2, q.Ok) ∧ zonesOk p.2.2 then some [.c (.sl false ((rAll p.2.2 p.1.2).1.map Ses.row)), .c (.sl false ((rAll p.2.2 p.1.2).2.map Exc.row))] else none) (a := ((f, ps), g, zs))
  exact this.trans (if_pos ⟨h1, h2, hz⟩)

end
end Go.Ab

/-
  Sessions: the laws on steps and on all events.
-/
namespace Go.Ab
open Go.RowKit Go.Proofs

noncomputable section
open Classical

def lSteps_m : List PA → Option (List PA) := mE encStep fun q => if q.1.2.length ≤ 9223372036854775807 ∧ q.2.1.In ∧ q.2.2.2.length ≤ 9223372036854775807 then some [.b true] else none
def lAll_m : List PA → Option (List PA) := mE encPsZs fun p => if (∀ q ∈ p.1.2, q.In) ∧ p.1.2.length ≤ 9223372036854775807 ∧ p.2.2.length ≤ 9223372036854775807 then some [.b true] else none

theorem lSteps_ok : PureC Tryz.prog Gt 3 lSteps_m := by
  refine pure_of_awp (X := ctx Tryz.prog Gt [(7, fewZs_m), (8, shortP_m), (9, someS_m), (11, sstep_m), (12, r7step_m), (13, sameSs_m), (10, sawake_m)]) Tryz.func3 rfl rfl (by kernel_rfl) (by kernel_rfl) (AllOk.cons fewZs_ok (AllOk.cons shortP_ok (AllOk.cons someS_ok (AllOk.cons sstep_ok (AllOk.cons r7step_ok (AllOk.cons sameSs_ok (AllOk.cons sawake_ok AllOk.nil))))))).kok ?_
  intro args r h0
  obtain ⟨⟨⟨f, l⟩, p, g, zs⟩, rfl, h⟩ := mE_inv h0
  refine ⟨Nat.le_of_ble_eq_true rfl, ?_⟩
  split at h
  · rename_i hl
    obtain ⟨hl1, hl2, hl3⟩ := hl
    dsimp only at hl1 hl2 hl3 h
    cases h
    have e0 := sawake_at
    have f1 := fewZs_at (f := g) hl3
    have f2 := @shortP_at p
    have f3 := someS_at (f := f) hl1
    cases c1 : fewZB zs
    · rw [c1] at f1
      simp only [Par.row] at f2
      have hc := Nat.zero_add 0
      repeat' (first | simp only [hc, Tryz.f3, encStep, Par.row, SX, e0, f1, f2, f3, AB, PL, RG, LP, TY, simprocAttr, ↓reduceIte, forall_const, eq_self, ne_eq, Option.some.injEq, beq_self_eq_true] | ((first | apply fin_ndec | apply fin_dec | apply cnd_ndec | apply cnd_dec' | apply fin_nsplit | apply fin_split | apply cnd_nsplit | apply cnd_split) <;> intro hc) | refine blk_exit_id ?_)
      all_goals simp [DV.b]
    rw [c1] at f1
    cases c2 : shortB p
    · rw [c2] at f2
      simp only [Par.row] at f2
      have hc := Nat.zero_add 0
      repeat' (first | simp only [hc, Tryz.f3, encStep, Par.row, SX, e0, f1, f2, f3, AB, PL, RG, LP, TY, simprocAttr, ↓reduceIte, forall_const, eq_self, ne_eq, Option.some.injEq, beq_self_eq_true] | ((first | apply fin_ndec | apply fin_dec | apply cnd_ndec | apply cnd_dec' | apply fin_nsplit | apply fin_split | apply cnd_nsplit | apply cnd_split) <;> intro hc) | refine blk_exit_id ?_)
      all_goals simp [DV.b]
    rw [c2] at f2
    cases c3 : someB l
    · rw [c3] at f3
      simp only [Par.row] at f2
      have hc := Nat.zero_add 0
      repeat' (first | simp only [hc, Tryz.f3, encStep, Par.row, SX, e0, f1, f2, f3, AB, PL, RG, LP, TY, simprocAttr, ↓reduceIte, forall_const, eq_self, ne_eq, Option.some.injEq, beq_self_eq_true] | ((first | apply fin_ndec | apply fin_dec | apply cnd_ndec | apply cnd_dec' | apply fin_nsplit | apply fin_split | apply cnd_nsplit | apply cnd_split) <;> intro hc) | refine blk_exit_id ?_)
      all_goals simp [DV.b]
    rw [c3] at f3
    obtain ⟨hs1, hs2⟩ := some_ok c3
    have hp := short_ok c2 hl2
    have hz := fewZ_ok c1
    have f4 := sstep_at (f := f) (l := l) (p := p) (g := g) (zs := zs) hs1 hs2 hp hz
    have f5 := r7step_at (f := f) (l := l) (p := p) (g := g) (zs := zs) hs1 hs2 hp hz
    have hfew : FewS 1000000 (l.map cpS, []) := ⟨by simpa using hs1, fun s hs => by obtain ⟨x, hx, rfl⟩ := List.mem_map.1 hs; exact hs2 x hx, Nat.zero_le _⟩
    have hfw := hfew.step (zs := zs) (p := p)
    unfold stepX at hfw
    dsimp only at hfw
    have f6 := sameSs_at (f := false) (g := false) (a := (applyF zs (l.map cpS) p).1) (b := (applyF zs (l.map cpS) p).1) (by have := hfw.ss; dsimp only at this; omega) (fun s hs => by have := hfw.sn s hs; omega)
    have f7 := sameSs_at (f := f) (g := f) (a := l) (b := l) (by omega) (fun s hs => by have := hs2 s hs; omega)
    rw [sameL_refl Ses.same_refl] at f6 f7
    unfold stepR at f4 f5
    clear hfw hfew
    generalize applyF zs (l.map cpS) p = A at *
    obtain ⟨l', c⟩ := A
    dsimp only at f4 f5 f6
    simp only [Par.row] at f2 f4 f5
    by_cases c4 : c = 0
    · rw [if_pos c4] at f4 f5
      have hc := Nat.zero_add 0
      repeat' (first | simp only [hc, Tryz.f3, encStep, Par.row, SX, e0, f1, f2, f3, f4, f5, f6, AB, PL, RG, LP, TY, simprocAttr, ↓reduceIte, forall_const, eq_self, ne_eq, Option.some.injEq, beq_self_eq_true] | ((first | apply fin_ndec | apply fin_dec | apply cnd_ndec | apply cnd_dec' | apply fin_nsplit | apply fin_split | apply cnd_nsplit | apply cnd_split) <;> intro hc) | refine blk_exit_id ?_)
      all_goals simp [DV.b]
    · rw [if_neg c4] at f4 f5
      have hc := Nat.zero_add 0
      repeat' (first | simp only [hc, Tryz.f3, encStep, Par.row, SX, e0, f1, f2, f3, f4, f5, f7, AB, PL, RG, LP, TY, simprocAttr, ↓reduceIte, forall_const, eq_self, ne_eq, Option.some.injEq, beq_self_eq_true] | ((first | apply fin_ndec | apply fin_dec | apply cnd_ndec | apply cnd_dec' | apply fin_nsplit | apply fin_split | apply cnd_nsplit | apply cnd_split) <;> intro hc) | refine blk_exit_id ?_)
      all_goals simp [DV.b]
  · cases h

theorem lAll_ok : PureC Tryz.prog Gt 4 lAll_m := by
  refine pure_of_awp (X := ctx Tryz.prog Gt [(7, fewZs_m), (14, fewP_m), (15, sall_m), (16, r7all_m), (13, sameSs_m), (17, sameEx_m), (10, sawake_m)]) Tryz.func4 rfl rfl (by kernel_rfl) (by kernel_rfl) (AllOk.cons fewZs_ok (AllOk.cons fewP_ok (AllOk.cons sall_ok (AllOk.cons r7all_ok (AllOk.cons sameSs_ok (AllOk.cons sameEx_ok (AllOk.cons sawake_ok AllOk.nil))))))).kok ?_
  intro args r h0
  obtain ⟨⟨⟨f, l⟩, g, zs⟩, rfl, h⟩ := mE_inv h0
  refine ⟨Nat.le_of_ble_eq_true rfl, ?_⟩
  split at h
  · rename_i hl
    obtain ⟨hi, hl1, hl2⟩ := hl
    dsimp only at hi hl1 hl2 h
    cases h
    have e0 := sawake_at
    have f1 := fewZs_at (f := g) hl2
    have f2 := fewP_at (f := f) hl1
    cases c1 : fewZB zs
    · rw [c1] at f1
      have hc := Nat.zero_add 0
      repeat' (first | simp only [hc, Tryz.f4, encPsZs, SX, e0, f1, f2, AB, PL, RG, LP, TY, simprocAttr, ↓reduceIte, forall_const, eq_self, ne_eq, Option.some.injEq, beq_self_eq_true] | ((first | apply fin_ndec | apply fin_dec | apply cnd_ndec | apply cnd_dec' | apply fin_nsplit | apply fin_split | apply cnd_nsplit | apply cnd_split) <;> intro hc) | refine blk_exit_id ?_)
      all_goals simp [DV.b]
    rw [c1] at f1
    cases c2 : fewB l
    · rw [c2] at f2
      have hc := Nat.zero_add 0
      repeat' (first | simp only [hc, Tryz.f4, encPsZs, SX, e0, f1, f2, AB, PL, RG, LP, TY, simprocAttr, ↓reduceIte, forall_const, eq_self, ne_eq, Option.some.injEq, beq_self_eq_true] | ((first | apply fin_ndec | apply fin_dec | apply cnd_ndec | apply cnd_dec' | apply fin_nsplit | apply fin_split | apply cnd_nsplit | apply cnd_split) <;> intro hc) | refine blk_exit_id ?_)
      all_goals simp [DV.b]
    rw [c2] at f2
    have hp := few_ok c2 hi
    have hz := fewZ_ok c1
    have hfe := few_le c2
    have f3 := sall_at (f := f) (g := g) hp hz
    have f4 := r7all_at (f := f) (g := g) hp.1 hp.2 hz
    have hF := allF_few zs l
    obtain ⟨hs1, hs2⟩ := rall_same zs l
    rw [hs2] at f4
    have f5 := sameSs_at (f := false) (g := false) (a := (allF zs l).1) (b := (rAll zs l).1) (by have := hF.ss; omega) (fun s hs => by have := hF.sn s hs; omega)
    have f6 := sameEx_at (f := false) (g := false) (a := (allF zs l).2) (b := (allF zs l).2) (by have := hF.xs; omega)
    rw [hs1] at f5
    rw [sameL_refl Exc.same_refl] at f6
    clear hs1 hs2 hF
    generalize (allF zs l).1 = L at *
    generalize (allF zs l).2 = X at *
    generalize (rAll zs l).1 = M at *
    have hc := Nat.zero_add 0
    repeat' (first | simp only [hc, Tryz.f4, encPsZs, SX, e0, f1, f2, f3, f4, f5, f6, AB, PL, RG, LP, TY, simprocAttr, ↓reduceIte, forall_const, eq_self, ne_eq, Option.some.injEq, beq_self_eq_true] | ((first | apply fin_ndec | apply fin_dec | apply cnd_ndec | apply cnd_dec' | apply fin_nsplit | apply fin_split | apply cnd_nsplit | apply cnd_split) <;> intro hc) | refine blk_exit_id ?_)
    all_goals simp [DV.b]
  · cases h

end
end Go.Ab
