/-
  Texts of the layer and of the laws, put together: AbV11. No law is stated here.
-/
import Derived.Test.YtckjmdppjealdaaDoorAbVol41
set_option linter.unusedSimpArgs false
set_option linter.unusedVariables false
set_option maxRecDepth 100000

/-
  Sessions: the law that each start begins one or is excluded.
-/
namespace Go.Ab
open Go.RowKit Go.Proofs

theorem count_next {l : List (List UInt8)} {k : List UInt8} {j : Nat} (h : j < l.length) : (l.take (j + 1)).count k = (l.take j).count k + (if l[j] = k then 1 else 0) := by
  rw [List.take_succ_eq_append_getElem h, List.count_append, List.count_singleton]
  simp
theorem sumC_next {zs : List Zon} {l : List Par} {L : List (List UInt8)} {j : Nat} (h : j < l.length) : sumC ((l.take (j + 1)).filter (begB zs)) L = sumC ((l.take j).filter (begB zs)) L + (if begB zs l[j] = true then L.count (keyF l[j]) else 0) := by
  rw [List.take_succ_eq_append_getElem h, List.filter_append]
  split
  · rename_i hb
    rw [List.filter_cons_of_pos hb, List.filter_nil, sumC_snoc]
  · rename_i hb
    rw [List.filter_cons_of_neg hb, List.filter_nil, List.append_nil, Nat.add_zero]

noncomputable section
open Classical

def lStarts_m : List PA → Option (List PA) := mE encPsZs fun p => if (∀ q ∈ p.1.2, q.In) ∧ p.1.2.length ≤ 9223372036854775807 ∧ p.2.2.length ≤ 9223372036854775807 then some [.b true] else none

theorem lStarts_ok : PureC Tryd.prog Gt 8 lStarts_m := by
  refine pure_of_awp (X := ctx Tryd.prog Gt [(9, fewZs_m), (16, fewP_m), (24, sall_m), (19, r7sort_m), (13, r7check_m), (14, skey_m), (11, sawake_m)]) Tryd.func8 rfl rfl (by kernel_rfl) (by kernel_rfl) (AllOk.cons fewZs_ok (AllOk.cons fewP_ok (AllOk.cons sall_ok (AllOk.cons r7sort_ok (AllOk.cons r7check_ok (AllOk.cons skey_ok (AllOk.cons sawake_ok AllOk.nil))))))).kok ?_
  intro args r h0
  obtain ⟨⟨⟨f, l⟩, g, zs⟩, rfl, h⟩ := mE_inv h0
  refine ⟨Nat.le_of_ble_eq_true rfl, ?_⟩
  split at h
  · rename_i hl
    obtain ⟨hi, hl1, hl2⟩ := hl
    dsimp only at hi hl1 hl2 h
    cases h
    have e0 := sawake_at
    have f1 := fewZs_at (f := g) hl2
    have f2 := fewP_at (f := f) hl1
    cases c1 : fewZB zs
    · rw [c1] at f1
      have hc := Nat.zero_add 0
      repeat' (first | simp only [hc, Tryd.f8, encPsZs, SX, e0, f1, f2, AB, PL, RG, LP, TY, simprocAttr, ↓reduceIte, forall_const, eq_self, ne_eq, Option.some.injEq, beq_self_eq_true] | ((first | apply fin_ndec | apply fin_dec | apply cnd_ndec | apply cnd_dec' | apply fin_nsplit | apply fin_split | apply cnd_nsplit | apply cnd_split) <;> intro hc) | refine blk_exit_id ?_)
      all_goals simp [DV.b]
    rw [c1] at f1
    cases c2 : fewB l
    · rw [c2] at f2
      have hc := Nat.zero_add 0
      repeat' (first | simp only [hc, Tryd.f8, encPsZs, SX, e0, f1, f2, AB, PL, RG, LP, TY, simprocAttr, ↓reduceIte, forall_const, eq_self, ne_eq, Option.some.injEq, beq_self_eq_true] | ((first | apply fin_ndec | apply fin_dec | apply cnd_ndec | apply cnd_dec' | apply fin_nsplit | apply fin_split | apply cnd_nsplit | apply cnd_split) <;> intro hc) | refine blk_exit_id ?_)
      all_goals simp [DV.b]
    rw [c2] at f2
    have hpok := few_ok c2 hi
    have hzok := fewZ_ok c1
    have f3 := sall_at (f := f) (g := g) hpok hzok
    have f4 := r7sort_at (f := f) hpok
    have hF := allF_few zs l
    have hfe := few_le c2
    have hsl := sortR_len l
    have hsok := (sortR_ok hpok).2
    obtain ⟨T, hA, hB⟩ := all_inv zs l
    have hsrc := hA.src
    have hone := hB.one
    have hsum := hB.sum
    have hF1 := hF.ss
    have hF2 := hF.xs
    generalize (allF zs l).1 = L at *
    generalize (allF zs l).2 = X at *
    generalize sortR l = vs at *
    have l1 := @lenSs L
    have l2 := @lenEx X
    have l3 := @lenPr vs
    have hc := Nat.zero_add 0
    repeat' (first | simp only [hc, Tryd.f8, encPsZs, SX, e0, f1, f2, f3, f4, l1, l2, l3, AB, PL, RG, LP, TY, simprocAttr, ↓reduceIte, forall_const, eq_self, ne_eq, Option.some.injEq, beq_self_eq_true] | ((first | apply fin_ndec | apply fin_dec | apply cnd_ndec | apply cnd_dec' | apply fin_nsplit | apply fin_split | apply cnd_nsplit | apply cnd_split) <;> intro hc) | refine blk_exit_id ?_)
    refine awp_loop (σ := Nat × Nat) (fun s => s.1 ≤ vs.length ∧ s.2 ≤ 1000 * s.1 ∧ s.2 = sumC ((vs.take s.1).filter (begB zs)) (L.map Ses.id)) (fun s => ⟨[(9, AV.i s.1), (8, AV.i s.2), (7, AV.d (.sl false (vs.map Par.row))), (6, AV.d (.sl false (X.map Exc.row))), (5, AV.d (.sl false (L.map Ses.row))), (1, AV.d (.sl g (zs.map Zon.row)))], []⟩) (fun s => vs.length - s.1) (0, 0) (Wk.sub' (by simp [subT, look]) rfl) (by simp [sumC]) ?_
    rintro ⟨j, n⟩ ⟨hj, hn0, hn⟩
    dsimp only at hj hn0 hn ⊢
    by_cases hjl : j < vs.length
    · have hlt : ((j : Int) < (vs.length : Int)) = True := eq_true (by omega)
      have hw := wI (n := (j : Int) + 1) (by omega) (by omega)
      have e1 := pr_at hjl
      have hmem : vs[j] ∈ vs := List.getElem_mem hjl
      have hpo := hsok _ hmem
      have hsn := sumC_next (zs := zs) (L := L.map Ses.id) hjl
      rw [← hn] at hsn
      have f5 := r7check_at (f := g) hzok hpo
      have f6 := skey_at' hpo
      have hone1 := hone _ hmem
      generalize hp : vs[j] = p at *
      have hbeg : begB zs p = decide (p.kind = 1 ∧ errP zs p = 0) := rfl
      by_cases c3 : p.kind = 1
      · by_cases c4 : errP zs p = 0
        · have hb : begB zs p = true := by rw [hbeg]; exact decide_eq_true ⟨c3, c4⟩
          rw [if_pos hb] at hsn
          have hone2 := hone1 hb
          obtain ⟨d1, d2⟩ := begB_dots hb
          have hsrc2 : ∀ s ∈ L, s.id = keyF p → s.zone = p.zone ∧ s.plate = p.plate ∧ s.fr = p.time := fun s hs he => by
            obtain ⟨e, _, _, _, h4, h5, h6, h7⟩ := hsrc s hs
            have := key_inj d1 d2 (h4.symm.trans he)
            subst this
            exact ⟨h5, h6, h7⟩
          rw [c4] at f5
          simp only [Par.row] at f5 f6
          rw [c3] at f5 f6
          generalize keyF p = key at *
          obtain ⟨pk, pz, pp, pt, pu⟩ := p
          dsimp only at c3 e1 f5 f6 hsrc2
          subst c3
          have hc := Nat.zero_add 0
          repeat' (first | simp only [hc, SX, l3, hlt, nn, e1, f5, f6, AB, PL, RG, LP, TY, simprocAttr, ↓reduceIte, forall_const, eq_self, ne_eq, Option.some.injEq, beq_self_eq_true] | ((first | apply fin_ndec | apply fin_dec | apply cnd_ndec | apply cnd_dec' | apply fin_nsplit | apply fin_split | apply cnd_nsplit | apply cnd_split) <;> intro hc) | refine blk_exit_id ?_)
          refine awp_loop (σ := Nat) (fun k => k ≤ X.length) (fun k => ⟨[(14, AV.i k), (13, AV.i 0), (12, AV.i (((X.map Exc.id).take k).count key : Nat)), (11, .v (.c (.d (.str key)))), (10, .v (.c (.ptr 0 0))), (9, AV.i j), (8, AV.i n), (7, AV.d (.sl false (vs.map Par.row))), (6, AV.d (.sl false (X.map Exc.row))), (5, AV.d (.sl false (L.map Ses.row))), (1, AV.d (.sl g (zs.map Zon.row)))], [.box [.d (.int .i64 1), .d (.str pz), .d (.str pp), .d (.int .i64 pt), .d (.int .i64 pu)]]⟩) (fun k => X.length - k) 0 (Wk.sub' (by simp [subT, look]) rfl) (by simp) ?_
          intro k hk
          by_cases hkl : k < X.length
          · have hlt2 : ((k : Int) < (X.length : Int)) = True := eq_true (by omega)
            have hw2 := wI (n := (k : Int) + 1) (by omega) (by omega)
            have e2 := ex_at hkl
            have hcn := count_next (l := X.map Exc.id) (k := key) (j := k) (by simpa using hkl)
            have hcl : ((X.map Exc.id).take k).count key ≤ k := Nat.le_trans List.count_le_length (by simp; omega)
            rw [List.getElem_map] at hcn
            generalize ((X.map Exc.id).take k).count key = o at *
            have hw3 := wI (n := (o : Int) + 1) (by omega) (by omega)
            by_cases c5 : X[k].id = key
            · have c5' : (X[k].id == key) = true := beq_iff_eq.2 c5
              rw [if_pos c5] at hcn
              have hc := Nat.zero_add 0
              repeat' (first | simp only [hc, SX, l2, hlt2, nn, e2, c5', hw2, hw3, AB, PL, RG, LP, TY, simprocAttr, ↓reduceIte, forall_const, eq_self, ne_eq, Option.some.injEq, beq_self_eq_true] | ((first | apply fin_ndec | apply fin_dec | apply cnd_ndec | apply cnd_dec' | apply fin_nsplit | apply fin_split | apply cnd_nsplit | apply cnd_split) <;> intro hc) | refine blk_exit_id ?_)
              exact lp_next (k + 1) (Wk.sub' (by simp [subT, look, hcn]) rfl) (by omega) (by omega)
            · have c5' : (X[k].id == key) = false := beq_eq_false_iff_ne.2 c5
              rw [if_neg c5] at hcn
              have hc := Nat.zero_add 0
              repeat' (first | simp only [hc, SX, l2, hlt2, nn, e2, c5', hw2, AB, PL, RG, LP, TY, simprocAttr, ↓reduceIte, forall_const, eq_self, ne_eq, Option.some.injEq, beq_self_eq_true] | ((first | apply fin_ndec | apply fin_dec | apply cnd_ndec | apply cnd_dec' | apply fin_nsplit | apply fin_split | apply cnd_nsplit | apply cnd_split) <;> intro hc) | refine blk_exit_id ?_)
              exact lp_next (k + 1) (Wk.sub' (by simp [subT, look, hcn]) rfl) (by omega) (by omega)
          have hlt2 : ((k : Int) < (X.length : Int)) = False := eq_false (by omega)
          have hto : ((X.map Exc.id).take k).count key = (X.map Exc.id).count key := by rw [List.take_of_length_le (by simp; omega)]
          rw [hto]
          have hole : (X.map Exc.id).count key ≤ X.length := Nat.le_trans List.count_le_length (by simp)
          generalize (X.map Exc.id).count key = o at *
          have hc := Nat.zero_add 0
          repeat' (first | simp only [hc, SX, l2, hlt2, AB, PL, RG, LP, TY, simprocAttr, ↓reduceIte, forall_const, eq_self, ne_eq, Option.some.injEq, beq_self_eq_true] | ((first | apply fin_ndec | apply fin_dec | apply cnd_ndec | apply cnd_dec' | apply fin_nsplit | apply fin_split | apply cnd_nsplit | apply cnd_split) <;> intro hc) | refine blk_exit_id ?_)
          refine awp_loop (σ := Nat) (fun k => k ≤ L.length) (fun k => ⟨[(15, AV.i k), (13, AV.i (((L.map Ses.id).take k).count key : Nat)), (12, AV.i o), (11, .v (.c (.d (.str key)))), (10, .v (.c (.ptr 0 0))), (9, AV.i j), (8, AV.i n), (7, AV.d (.sl false (vs.map Par.row))), (6, AV.d (.sl false (X.map Exc.row))), (5, AV.d (.sl false (L.map Ses.row))), (1, AV.d (.sl g (zs.map Zon.row)))], [.box [.d (.int .i64 1), .d (.str pz), .d (.str pp), .d (.int .i64 pt), .d (.int .i64 pu)]]⟩) (fun k => L.length - k) 0 (Wk.sub' (by simp [subT, look]) rfl) (by simp) ?_
          intro k hk
          by_cases hkl : k < L.length
          · have hlt2 : ((k : Int) < (L.length : Int)) = True := eq_true (by omega)
            have hw2 := wI (n := (k : Int) + 1) (by omega) (by omega)
            have e2 := ss_at hkl
            have hcn := count_next (l := L.map Ses.id) (k := key) (j := k) (by simpa using hkl)
            have hcl : ((L.map Ses.id).take k).count key ≤ k := Nat.le_trans List.count_le_length (by simp; omega)
            rw [List.getElem_map] at hcn
            have hs2 := hsrc2 L[k] (List.getElem_mem hkl)
            generalize ((L.map Ses.id).take k).count key = q at *
            have hw3 := wI (n := (q : Int) + 1) (by omega) (by omega)
            generalize L[k] = s at *
            by_cases c5 : s.id = key
            · have c5' : (s.id == key) = true := beq_iff_eq.2 c5
              rw [if_pos c5] at hcn
              obtain ⟨z1, z2, z3⟩ := hs2 c5
              rw [z1, z2, z3] at e2
              have y1 : (pz == pz) = true := beq_self_eq_true _
              have y2 : (pp == pp) = true := beq_self_eq_true _
              have hc := Nat.zero_add 0
              repeat' (first | simp only [hc, SX, l1, hlt2, nn, e2, c5', hw2, hw3, y1, y2, AB, PL, RG, LP, TY, simprocAttr, ↓reduceIte, forall_const, eq_self, ne_eq, Option.some.injEq, beq_self_eq_true] | ((first | apply fin_ndec | apply fin_dec | apply cnd_ndec | apply cnd_dec' | apply fin_nsplit | apply fin_split | apply cnd_nsplit | apply cnd_split) <;> intro hc) | refine blk_exit_id ?_)
              exact lp_next (k + 1) (Wk.sub' (by simp [subT, look, hcn]) rfl) (by omega) (by omega)
            · have c5' : (s.id == key) = false := beq_eq_false_iff_ne.2 c5
              rw [if_neg c5] at hcn
              have hc := Nat.zero_add 0
              repeat' (first | simp only [hc, SX, l1, hlt2, nn, e2, c5', hw2, AB, PL, RG, LP, TY, simprocAttr, ↓reduceIte, forall_const, eq_self, ne_eq, Option.some.injEq, beq_self_eq_true] | ((first | apply fin_ndec | apply fin_dec | apply cnd_ndec | apply cnd_dec' | apply fin_nsplit | apply fin_split | apply cnd_nsplit | apply cnd_split) <;> intro hc) | refine blk_exit_id ?_)
              exact lp_next (k + 1) (Wk.sub' (by simp [subT, look, hcn]) rfl) (by omega) (by omega)
          have hlt2 : ((k : Int) < (L.length : Int)) = False := eq_false (by omega)
          have htq : ((L.map Ses.id).take k).count key = (L.map Ses.id).count key := by rw [List.take_of_length_le (by simp; omega)]
          rw [htq]
          generalize (L.map Ses.id).count key = q at *
          have hw4 := wI (n := (o : Int) + q) (by omega) (by omega)
          have hw5 := wI (n := (n : Int) + q) (by omega) (by omega)
          rw [show (o : Int) + q = 1 by omega] at hw4
          have hw4 : IntKind.i64.wrap ((o : Int) + q) = 1 := by rw [show (o : Int) + q = 1 by omega]; exact hw4
          have hc := Nat.zero_add 0
          repeat' (first | simp only [hc, SX, l1, hlt2, hw4, hw5, hw, AB, PL, RG, LP, TY, simprocAttr, ↓reduceIte, forall_const, eq_self, ne_eq, Option.some.injEq, beq_self_eq_true] | ((first | apply fin_ndec | apply fin_dec | apply cnd_ndec | apply cnd_dec' | apply fin_nsplit | apply fin_split | apply cnd_nsplit | apply cnd_split) <;> intro hc) | refine blk_exit_id ?_)
          exact lp_next (j + 1, n + q) (Wk.cutk (k := 0) (by simp) (by simp) (by simp) (by simp [subT, look]) (by simp [AV.low, V.low, C1.low]) (by simp [Ob.low, C1.low])) ⟨by simp only []; omega, by simp only []; omega, hsn.symm⟩ (by simp only []; omega)
        · have hb : begB zs p = false := by rw [hbeg]; exact decide_eq_false (fun h => c4 h.2)
          rw [hb] at hsn
          simp only [Par.row] at f5 f6
          rw [c3] at f5 f6
          obtain ⟨pk, pz, pp, pt, pu⟩ := p
          dsimp only at c3 e1 f5 f6
          subst c3
          generalize errP zs ⟨1, pz, pp, pt, pu⟩ = er at *
          have hc := Nat.zero_add 0
          repeat' (first | simp only [hc, SX, l3, hlt, nn, e1, f5, f6, c4, hw, AB, PL, RG, LP, TY, simprocAttr, ↓reduceIte, forall_const, eq_self, ne_eq, Option.some.injEq, beq_self_eq_true] | ((first | apply fin_ndec | apply fin_dec | apply cnd_ndec | apply cnd_dec' | apply fin_nsplit | apply fin_split | apply cnd_nsplit | apply cnd_split) <;> intro hc) | refine blk_exit_id ?_)
          exact lp_next (j + 1, n) (Wk.cutk (k := 0) (by simp) (by simp) (by simp) (by simp [subT, look]) (by first | rfl | simp [AV.low, V.low, C1.low]) (by first | rfl | simp [Ob.low, C1.low, all_low_d])) ⟨by simp only []; omega, by simp only []; omega, by simpa using hsn.symm⟩ (by simp only []; omega)
      · have hb : begB zs p = false := by rw [hbeg]; exact decide_eq_false (fun h => c3 h.1)
        rw [hb] at hsn
        simp only [Par.row] at f5 f6
        have c3' : (p.kind = 1) = False := eq_false c3
        have hc := Nat.zero_add 0
        repeat' (first | simp only [hc, SX, l3, hlt, nn, e1, f5, f6, c3', hw, AB, PL, RG, LP, TY, simprocAttr, ↓reduceIte, forall_const, eq_self, ne_eq, Option.some.injEq, beq_self_eq_true] | ((first | apply fin_ndec | apply fin_dec | apply cnd_ndec | apply cnd_dec' | apply fin_nsplit | apply fin_split | apply cnd_nsplit | apply cnd_split) <;> intro hc) | refine blk_exit_id ?_)
        exact lp_next (j + 1, n) (Wk.cutk (k := 0) (by simp) (by simp) (by simp) (by simp [subT, look]) (by first | rfl | simp [AV.low, V.low, C1.low]) (by first | rfl | simp [Ob.low, C1.low, all_low_d])) ⟨by simp only []; omega, by simp only []; omega, by simpa using hsn.symm⟩ (by simp only []; omega)
    · have hlt : ((j : Int) < (vs.length : Int)) = False := eq_false (by omega)
      rw [List.take_of_length_le (by omega), hsum] at hn
      have hn2 : ((n : Int) = (L.length : Int)) = True := eq_true (by simp at hn; omega)
      have hc := Nat.zero_add 0
      repeat' (first | simp only [hc, SX, l3, l1, hlt, hn2, e0, AB, PL, RG, LP, TY, simprocAttr, ↓reduceIte, forall_const, eq_self, ne_eq, Option.some.injEq, beq_self_eq_true] | ((first | apply fin_ndec | apply fin_dec | apply cnd_ndec | apply cnd_dec' | apply fin_nsplit | apply fin_split | apply cnd_nsplit | apply cnd_split) <;> intro hc) | refine blk_exit_id ?_)
      all_goals simp [DV.b]
  · cases h

end
end Go.Ab
