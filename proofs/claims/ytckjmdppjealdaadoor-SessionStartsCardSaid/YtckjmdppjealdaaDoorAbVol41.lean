/-
  Texts of the layer and of the laws, put together: AbV10. No law is stated here.
-/
import Derived.Test.YtckjmdppjealdaaDoorAbVol40
set_option linter.unusedSimpArgs false
set_option linter.unusedVariables false
set_option maxRecDepth 100000

/-
  Sessions: the law that they are apart.
-/
namespace Go.Ab
open Go.RowKit Go.Proofs

theorem paid_apart {a b : Ses} (h : b.til ≤ a.fr) : ¬ ((paidF a).1 < (paidF b).2 ∧ (paidF b).1 < (paidF a).2) := by
  unfold paidF ivalB
  split <;> split <;> rename_i h1 h2 <;> simp only [Bool.and_eq_true, decide_eq_true_eq] at h1 h2 <;> dsimp only <;> omega

noncomputable section
open Classical

def lApart_m : List PA → Option (List PA) := mE encPsZs fun p => if (∀ q ∈ p.1.2, q.In) ∧ p.1.2.length ≤ 9223372036854775807 ∧ p.2.2.length ≤ 9223372036854775807 then some [.b true] else none

theorem lApart_ok : PureC Tryd.prog Gt 7 lApart_m := by
  refine pure_of_awpS (X := ctxN Tryd.prog Gt [(9, fewZs_m), (16, fewP_m), (24, sall_m), (20, sPaid_m), (11, sawake_m)] [] [] none (uL []) (uL [12])) Tryd.func7 rfl rfl (by kernel_rfl) (by kernel_rfl) (kok_n (AllOk.cons fewZs_ok (AllOk.cons fewP_ok (AllOk.cons sall_ok (AllOk.cons sPaid_ok (AllOk.cons sawake_ok AllOk.nil))))) AllK.nil AllN.nil) ?_
  intro args r h0
  obtain ⟨⟨⟨f, l⟩, g, zs⟩, rfl, h⟩ := mE_inv h0
  refine ⟨Nat.le_of_ble_eq_true rfl, ?_⟩
  split at h
  · rename_i hl
    obtain ⟨hi, hl1, hl2⟩ := hl
    dsimp only at hi hl1 hl2 h
    cases h
    have e0 := sawake_at
    have f1 := fewZs_at (f := g) hl2
    have f2 := fewP_at (f := f) hl1
    cases c1 : fewZB zs
    · rw [c1] at f1
      have hc := Nat.zero_add 0
      repeat' (first | simp only [hc, AS, Tryd.f7, encPsZs, NX, SX, e0, f1, f2, AB, PL, RG, LP, TY, simprocAttr, ↓reduceIte, forall_const, eq_self, ne_eq, Option.some.injEq, beq_self_eq_true] | ((first | apply fin_ndec | apply fin_dec | apply cnd_ndec | apply cnd_dec' | apply fin_nsplit | apply fin_split | apply cnd_nsplit | apply cnd_split) <;> intro hc) | refine seqS_id ?_ | refine blk_exit_id ?_)
      all_goals simp [DV.b]
    rw [c1] at f1
    cases c2 : fewB l
    · rw [c2] at f2
      have hc := Nat.zero_add 0
      repeat' (first | simp only [hc, AS, Tryd.f7, encPsZs, NX, SX, e0, f1, f2, AB, PL, RG, LP, TY, simprocAttr, ↓reduceIte, forall_const, eq_self, ne_eq, Option.some.injEq, beq_self_eq_true] | ((first | apply fin_ndec | apply fin_dec | apply cnd_ndec | apply cnd_dec' | apply fin_nsplit | apply fin_split | apply cnd_nsplit | apply cnd_split) <;> intro hc) | refine seqS_id ?_ | refine blk_exit_id ?_)
      all_goals simp [DV.b]
    rw [c2] at f2
    have f3 := sall_at (f := f) (g := g) (few_ok c2 hi) (fewZ_ok c1)
    have hF := (allF_few zs l).ss
    have hfe := few_le c2
    obtain ⟨T, hA, _⟩ := all_inv zs l
    have hpair := hA.pair
    have hids := hA.ids
    generalize (allF zs l).1 = L at *
    generalize (allF zs l).2 = X at *
    have l1 := @lenSs L
    have hc := Nat.zero_add 0
    repeat' (first | simp only [hc, AS, Tryd.f7, encPsZs, NX, SX, e0, f1, f2, f3, l1, AB, PL, RG, LP, TY, simprocAttr, ↓reduceIte, forall_const, eq_self, ne_eq, Option.some.injEq, beq_self_eq_true] | ((first | apply fin_ndec | apply fin_dec | apply cnd_ndec | apply cnd_dec' | apply fin_nsplit | apply fin_split | apply cnd_nsplit | apply cnd_split) <;> intro hc) | refine seqS_id ?_ | refine blk_exit_id ?_)
    refine awpS_loop (σ := Nat) (fun i => i ≤ L.length) (fun i => ⟨[(7, AV.i i), (5, AV.d (.sl false (L.map Ses.row)))], []⟩) (fun i => L.length - i) 0 (Wk.sub' (by simp [subT, look]) rfl) (by simp) ?_
    intro i hil
    by_cases hi2 : i < L.length
    · have hlt : ((i : Int) < (L.length : Int)) = True := eq_true (by omega)
      have hw := wI (n := (i : Int) + 1) (by omega) (by omega)
      have e1 := ss_at hi2
      have hc := Nat.zero_add 0
      repeat' (first | simp only [hc, AS, NX, SX, l1, hlt, AB, PL, RG, LP, TY, simprocAttr, ↓reduceIte, forall_const, eq_self, ne_eq, Option.some.injEq, beq_self_eq_true] | ((first | apply fin_ndec | apply fin_dec | apply cnd_ndec | apply cnd_dec' | apply fin_nsplit | apply fin_split | apply cnd_nsplit | apply cnd_split) <;> intro hc) | refine seqS_id ?_ | refine blk_exit_id ?_)
      refine awpS_loop (σ := Nat) (fun k => k ≤ i) (fun k => ⟨[(8, AV.i k), (7, AV.i i), (5, AV.d (.sl false (L.map Ses.row)))], []⟩) (fun k => i - k) 0 (Wk.sub' (by simp [subT, look]) rfl) (by simp) ?_
      intro k hki
      by_cases hk2 : k < i
      · have hlt2 : ((k : Int) < (i : Int)) = True := eq_true (by omega)
        have hw2 := wI (n := (k : Int) + 1) (by omega) (by omega)
        have hkL : k < L.length := by omega
        have e2 := ss_at hkL
        have hp := hpair k i L[k] L[i] (by simp [hkL]) (by simp [hi2]) hk2
        have hd := hids k i L[k] L[i] (by simp [hkL]) (by simp [hi2])
        have f4 := @sPaid_at L[i]
        have f5 := @sPaid_at L[k]
        have hap := @paid_apart L[i] L[k]
        generalize L[i] = a at *
        generalize L[k] = b at *
        generalize paidF a = A at *
        generalize paidF b = B at *
        simp only [Ses.row, rowIv] at f4 f5
        have hne : (a.id = b.id) = False := eq_false fun h => by have := hd h.symm; omega
        have hc := Nat.zero_add 0
        repeat' (first | simp only [hc, AS, NX, SX, l1, hlt2, nn, e1, e2, f4, f5, hne, hw2, AB, PL, RG, LP, TY, simprocAttr, ↓reduceIte, forall_const, eq_self, ne_eq, Option.some.injEq, beq_self_eq_true] | ((first | apply fin_ndec | apply fin_dec | apply cnd_ndec | apply cnd_dec' | apply fin_nsplit | apply fin_split | apply cnd_nsplit | apply cnd_split) <;> intro hc) | refine seqS_id ?_ | refine blk_exit_id ?_)
        · exact absurd (beq_iff_eq.1 hc) (fun h => by rw [← eq_iff_iff.1 hne] <;> exact h)
        refine awp_two [0, 1, 2, 3, 4, 5, 6, 7, 8, 9] 10 [11, 12, 13] 11 [10, 12, 13] rfl (by kernel_rfl) ?_
        have hc := Nat.zero_add 0
        repeat' (first | simp only [hc, AS, TW, NX, SX, l1, nn, e1, e2, f4, f5, AB, PL, RG, LP, TY, simprocAttr, ↓reduceIte, forall_const, eq_self, ne_eq, Option.some.injEq, beq_self_eq_true] | ((first | apply fin_ndec | apply fin_dec | apply cnd_ndec | apply cnd_dec' | apply fin_nsplit | apply fin_split | apply cnd_nsplit | apply cnd_split) <;> intro hc) | refine seqS_id ?_ | refine blk_exit_id ?_)
        refine ⟨seqS_id ?_, seqS_id ?_⟩
        all_goals
          have hc := Nat.zero_add 0
          repeat' (first | simp only [hc, AS, NX, SX, l1, hlt2, nn, e1, e2, f4, f5, hw2, AB, PL, RG, LP, TY, simprocAttr, ↓reduceIte, forall_const, eq_self, ne_eq, Option.some.injEq, beq_self_eq_true] | ((first | apply fin_ndec | apply fin_dec | apply cnd_ndec | apply cnd_dec' | apply fin_nsplit | apply fin_split | apply cnd_nsplit | apply cnd_split) <;> intro hc) | refine seqS_id ?_ | refine blk_exit_id ?_)

        all_goals first
          | (refine lp_next (k + 1) (Wk.cutk (k := 0) (by simp) (by simp) (by simp) (by simp [subT, look]) (by first | rfl | simp [AV.low, V.low, C1.low]) (by first | rfl | simp [Ob.low, C1.low, all_low_d])) (by omega) (by omega); done)
          | exact (hap (hp (beq_iff_eq.1 ‹(a.zone == b.zone) = true›).symm (beq_iff_eq.1 ‹(a.plate == b.plate) = true›).symm).1 ⟨by assumption, by assumption⟩).elim
      · have hlt2 : ((k : Int) < (i : Int)) = False := eq_false (by omega)
        have hc := Nat.zero_add 0
        repeat' (first | simp only [hc, AS, NX, SX, l1, hlt2, hw, AB, PL, RG, LP, TY, simprocAttr, ↓reduceIte, forall_const, eq_self, ne_eq, Option.some.injEq, beq_self_eq_true] | ((first | apply fin_ndec | apply fin_dec | apply cnd_ndec | apply cnd_dec' | apply fin_nsplit | apply fin_split | apply cnd_nsplit | apply cnd_split) <;> intro hc) | refine seqS_id ?_ | refine blk_exit_id ?_)
        exact lp_next (i + 1) (Wk.sub' (by simp [subT, look]) rfl) (by omega) (by omega)
    · have hlt : ((i : Int) < (L.length : Int)) = False := eq_false (by omega)
      have hc := Nat.zero_add 0
      repeat' (first | simp only [hc, AS, NX, SX, l1, hlt, e0, AB, PL, RG, LP, TY, simprocAttr, ↓reduceIte, forall_const, eq_self, ne_eq, Option.some.injEq, beq_self_eq_true] | ((first | apply fin_ndec | apply fin_dec | apply cnd_ndec | apply cnd_dec' | apply fin_nsplit | apply fin_split | apply cnd_nsplit | apply cnd_split) <;> intro hc) | refine seqS_id ?_ | refine blk_exit_id ?_)
      all_goals simp [DV.b]
  · cases h

end
end Go.Ab
