/-
  Texts of the layer and of the laws, put together: AbTF22.
-/
import Derived.Test.YtbcklcmhmbfgnaaGreatDoorAbF48
set_option linter.unusedSimpArgs false
set_option linter.unusedVariables false
set_option maxRecDepth 100000
namespace Go.Ab
open Go.RowKit Go.Proofs
def tree11 : Tr := .run [0] (.br3 1 (.br 2 (.run [3, 4, 5] .fin) 3 (.run [2, 4, 5] .fin)) 2 (.br 1 (.run [3, 4, 5] .fin) 3 (.br 1 (.run [4, 5] .fin) 4 (.run [1, 5] .fin))) 3 (.br 1 (.run [2, 4, 5] .fin) 2 (.br 1 (.run [4, 5] .fin) 4 (.run [1, 5] .fin))))
def tree19 : Tr := .run [0] (.br 1 (.run [2, 3] .fin) 2 (.run [1, 3] .fin))
theorem posts_ok {l : List Snd} (h : postsF l = true) : l.length ≤ 8 ∧ ∀ x ∈ l, x.recs.length ≤ 5 ∧ x.lost.length ≤ 40 ∧ ∀ r ∈ x.recs, okRec r := by
  unfold postsF at h
  rw [Bool.and_eq_true, List.all_eq_true, decide_eq_true_eq] at h
  refine ⟨h.2, fun x hx => ?_⟩
  have := h.1 x hx
  simp only [postB, Bool.and_eq_true, decide_eq_true_eq, List.all_eq_true, okB] at this
  exact ⟨this.1, this.2.1, fun r hr => ⟨(this.2.2 r hr).2.1, (this.2.2 r hr).1, (this.2.2 r hr).2.2⟩⟩
theorem same_back {f : Fil} {b : Bool} : sameF f ⟨f.fr, f.dst, f.seq, b, f.recs⟩ = true := by simp [sameF]
theorem settle_le {c : List Rec → Int} {p : Ptn} : -1125899906842624 ≤ (setF c p).1 ∧ (setF c p).1 ≤ 1125899906842624 := by
  unfold setF
  split
  · rename_i h
    exact afit_iff.1 h.2.2
  dsimp only; omega
noncomputable section
open Classical
def lFiles_m : List PA → Option (List PA) := mE encSd fun p => if p.2.length ≤ 9223372036854775807 then some [.b true] else none
set_option maxHeartbeats 8000000 in
theorem lFiles_ok : PureC Tryz.prog Gt 3 lFiles_m := by
  refine pure_of_awpS (X := ctxN Tryz.prog Gt [(4, fposts_m), (5, xawake_m), (6, xnewN_m), (7, xsend_m), (8, xround_m), (9, aprint_m), (10, aparse_m), (11, rsame_m), (12, xrec_m), (13, xagree_m), (14, xsettle_m)] [] [] none (uL []) (uL [11, 19])) Tryz.func3 rfl rfl (by kernel_rfl) (by kernel_rfl) (kok_n (AllOk.cons fposts_ok (AllOk.cons xawake_ok (AllOk.cons xnewN_ok (AllOk.cons xsend_ok (AllOk.cons xround_ok (AllOk.cons aprint_ok (AllOk.cons aparse_ok (AllOk.cons rsame_ok (AllOk.cons xrec_ok (AllOk.cons xagree_ok (AllOk.cons xsettle_ok AllOk.nil))))))))))) AllK.nil AllN.nil) ?_
  intro args r h0
  obtain ⟨⟨f, l⟩, rfl, h⟩ := mE_inv h0
  refine ⟨Nat.le_of_ble_eq_true rfl, ?_⟩
  split at h
  · rename_i hl
    dsimp only at hl h
    simp only [Option.some.injEq] at h
    have fp := fposts_at (f := f) hl
    have fa : xawake_m [] = some [.b true] := rfl
    cases hp : postsF l
    · rw [hp] at fp
      have hc := Nat.zero_add 0
      repeat' (first | simp only [hc, AS, Tryz.f3, encSd, NX, NPV, SX, fp, fa, ZZ, simprocAttr, ↓reduceIte] | ((first | apply Za | apply Zb | apply Zc | apply Zd | apply Ze | apply Zf | apply Zg | apply Zh) <;> intro hc) | refine Zi ?_ | refine Zj ?_)
      rw [← h]
    rw [hp] at fp
    obtain ⟨hl8, hpo⟩ := posts_ok hp
    clear hp
    have f1 := xnewN_at (s := nB) (by decide)
    have f2 := xnewN_at (s := nA) (by decide)
    have l1 := @lenSd l
    have hc := Nat.zero_add 0
    repeat' (first | simp only [hc, AS, Tryz.f3, encSd, pr, prow, NX, NPV, SX, fp, f1, f2, ZZ, simprocAttr, ↓reduceIte] | ((first | apply Za | apply Zb | apply Zc | apply Zd | apply Ze | apply Zf | apply Zg | apply Zh) <;> intro hc) | refine Zi ?_ | refine Zj ?_)
    refine awpS_loop (σ := Nat × Ptn × Ptn) (fun s => s.1 ≤ l.length ∧ TI s.2.1 s.2.2 s.1 ∧ s.2.1.name = nB ∧ s.2.2.name = nA)
      (fun s => ⟨[(7, AV.i s.1), (0, AV.d (.sl f (l.map Snd.row))), (3, .v (.c (.ptr 0 0))), (5, .v (.c (.ptr 1 0)))], [.box ((pr s.2.1).map .d), .box ((pr s.2.2).map .d)]⟩)
      (fun s => l.length - s.1) (0, newP nB, newP nA) (Wk.sub' (by simp [subT, look]) rfl) ⟨Nat.zero_le _, ti_new nB nA, rfl, rfl⟩ ?_
    rintro ⟨i, a, b⟩ ⟨hi, hT, na, nb⟩
    dsimp only at hi hT na nb
    by_cases hil : i < l.length
    · have c1 : ((i : Int) < (l.length : Int)) = True := eq_true (by omega)
      have e1 := sd_at hil
      have w1 := wI (n := (i : Int) + 1) (by omega) (by omega)
      obtain ⟨z1, z2, z3⟩ := hpo _ (List.getElem_mem hil)
      have hc := Nat.zero_add 0
      repeat' (first | simp only [hc, AS, pr, prow, List.map_cons, List.map_nil, NX, NPV, SX, l1, c1, ZZ, simprocAttr, ↓reduceIte] | ((first | apply Za | apply Zb | apply Zc | apply Zd | apply Ze | apply Zf | apply Zg | apply Zh) <;> intro hc) | refine Zi ?_ | refine Zj ?_)
      refine awp_one tree11 ⟨[(7, AV.i i), (0, AV.d (.sl f (l.map Snd.row))), (3, .v (.c (.ptr 0 0))), (5, .v (.c (.ptr 1 0))), (8, .v (.c (.ptr 2 0))), (9, .v (.c (.ptr 3 0))), (10, .v (.c (.ptr 4 0)))], [.box ((pr a).map .d), .box ((pr b).map .d), .box ((Fil.nil).row.map .d), .box ((pr a).map .d), .box ((pr b).map .d)]⟩ rfl (by kernel_rfl) ?_ ?_
      · skip
        have hc := Nat.zero_add 0
        repeat' (first | simp only [hc, AS, tree11, TRE, NX, SX, ZZ, simprocAttr, ↓reduceIte] | ((first | apply Za | apply Zb | apply Zc | apply Zd | apply Ze | apply Zf | apply Zg | apply Zh) <;> intro hc) | refine Zi ?_ | refine Zj ?_)
        repeat' (first | exact Wk.sub' (by simp [subT, look]) rfl | exact Wk.renk (h := [.box ((pr a).map .d), .box ((pr b).map .d), .box ((Fil.nil).row.map .d)]) (g' := [.box ((pr a).map .d), .box ((pr b).map .d)]) [1, 0] rfl (by simp) (by simp [LowH, Ob.low, C1.low, pr, prow, Fil.row]) (by decide) ⟨rfl, rfl, trivial⟩ ⟨rfl, rfl, rfl, rfl, rfl, rfl, rfl, trivial⟩ (by simp [AV.low, V.low, C1.low]) (by simp [Ob.low, C1.low, pr, prow, Fil.row]) | apply And.intro)
      generalize l[i] = z at *
      obtain ⟨zs, zrf, zr, zlf, zl⟩ := z
      dsimp only at e1 z1 z2 z3
      by_cases s0 : zs = 0
      · subst s0
        have f3 := xsend_at (p := a) (fr := nA) (rf := zrf) (l := zr) (hT.sd (by omega) z1 z3)
        obtain ⟨_, hs2⟩ := @send_iff a nA zr
        generalize sendO a nA zr = R at *
        obtain ⟨x, fl, e⟩ := R
        dsimp only at f3 hs2
        simp only [pr, prow, Fil.row] at f3
        by_cases he : e = 0
        · subst he
          have hsend := hs2 rfl
          rw [← nb] at hsend
          obtain ⟨hT2, nx, hfe, hck⟩ := hT.send z1 z3 hsend
          have hfr : fl.recs = zr := by rw [hfe]
          have f4 := aprint_at (f := fl) ⟨by rw [hfr]; omega, fun r hr => by rw [hfr] at hr; have := (z3 r hr).2.2; omega⟩
          obtain ⟨hpr, hpa⟩ := print_few hck (by rw [hfr]; exact z1)
          have htl := text_few hck (by rw [hfr]; exact z1)
          rw [hpr] at f4
          have f5 := aparse_at (s := textF fl) (by omega)
          rw [hpa] at f5
          have f6 := rsame_at (a := fl) (b := ⟨fl.fr, fl.dst, fl.seq, decide (fl.recs = []), fl.recs⟩) (by rw [hfr]; omega)
          rw [same_back] at f6
          simp only [Fil.row] at f4 f5 f6
          clear hpr hpa htl hfe hck hsend hs2
          have hc := Nat.zero_add 0
          repeat' (first | simp only [hc, AS, pr, prow, Fil.row, List.map_cons, List.map_nil, NX, NPV, SX, l1, e1, c1, nn, f3, ZZ, simprocAttr, ↓reduceIte] | ((first | apply Za | apply Zb | apply Zc | apply Zd | apply Ze | apply Zf | apply Zg | apply Zh) <;> intro hc) | refine Zi ?_ | refine Zj ?_)
          refine awp_one tree19 ⟨[(7, AV.i i), (0, AV.d (.sl f (l.map Snd.row))), (3, .v (.c (.ptr 0 0))), (5, .v (.c (.ptr 1 0))), (8, .v (.c (.ptr 2 0)))], [.box ((pr x).map .d), .box ((pr b).map .d), .box (fl.row.map .d), .box ((pr x).map .d), .box ((pr b).map .d)]⟩ rfl (by kernel_rfl) ?_ ?_
          · skip
            have hc := Nat.zero_add 0
            repeat' (first | simp only [hc, AS, tree19, TRE, NX, SX, ZZ, simprocAttr, ↓reduceIte] | ((first | apply Za | apply Zb | apply Zc | apply Zd | apply Ze | apply Zf | apply Zg | apply Zh) <;> intro hc) | refine Zi ?_ | refine Zj ?_)
            repeat' (first | exact Wk.sub' (by simp [subT, look]) rfl | apply And.intro)
          have hc := Nat.zero_add 0
          repeat' (first | simp only [hc, AS, pr, prow, Fil.row, List.map_cons, List.map_nil, NX, NPV, SX, l1, e1, c1, nn, f4, f5, f6, w1, ZZ, simprocAttr, ↓reduceIte] | ((first | apply Za | apply Zb | apply Zc | apply Zd | apply Ze | apply Zf | apply Zg | apply Zh) <;> intro hc) | refine Zi ?_ | refine Zj ?_)
          exact lp_next (i + 1, x, b) (Wk.cutk (k := 2) (by simp) (by simp) rfl (by simp [subT, look]) (by simp [AV.low, V.low, C1.low]) (by simp [Ob.low, C1.low, pr, prow])) ⟨by simp only []; omega, hT2, nx.trans na, nb⟩ (by simp only []; omega)
        have he' := eq_false he
        have hc := Nat.zero_add 0
        repeat' (first | simp only [hc, AS, pr, prow, Fil.row, List.map_cons, List.map_nil, NX, NPV, SX, l1, e1, c1, nn, f3, he', w1, ZZ, simprocAttr, ↓reduceIte] | ((first | apply Za | apply Zb | apply Zc | apply Zd | apply Ze | apply Zf | apply Zg | apply Zh) <;> intro hc) | refine Zi ?_ | refine Zj ?_)
        exact lp_next (i + 1, a, b) (Wk.cutk (k := 2) (by simp) (by simp) rfl (by simp [subT, look]) (by simp [AV.low, V.low, C1.low]) (by simp [Ob.low, C1.low, pr, prow])) ⟨by simp only []; omega, hT.more (by omega), na, nb⟩ (by simp only []; omega)
      have s0' := eq_false s0
      by_cases s1 : zs = 1
      · subst s1
        have f3 := xsend_at (p := b) (fr := nB) (rf := zrf) (l := zr) (hT.symm.sd (by omega) z1 z3)
        obtain ⟨_, hs2⟩ := @send_iff b nB zr
        generalize sendO b nB zr = R at *
        obtain ⟨x, fl, e⟩ := R
        dsimp only at f3 hs2
        simp only [pr, prow, Fil.row] at f3
        by_cases he : e = 0
        · subst he
          have hsend := hs2 rfl
          rw [← na] at hsend
          obtain ⟨hT2, nx, hfe, hck⟩ := hT.symm.send z1 z3 hsend
          have hfr : fl.recs = zr := by rw [hfe]
          have f4 := aprint_at (f := fl) ⟨by rw [hfr]; omega, fun r hr => by rw [hfr] at hr; have := (z3 r hr).2.2; omega⟩
          obtain ⟨hpr, hpa⟩ := print_few hck (by rw [hfr]; exact z1)
          have htl := text_few hck (by rw [hfr]; exact z1)
          rw [hpr] at f4
          have f5 := aparse_at (s := textF fl) (by omega)
          rw [hpa] at f5
          have f6 := rsame_at (a := fl) (b := ⟨fl.fr, fl.dst, fl.seq, decide (fl.recs = []), fl.recs⟩) (by rw [hfr]; omega)
          rw [same_back] at f6
          simp only [Fil.row] at f4 f5 f6
          clear hpr hpa htl hfe hck hsend hs2
          have hc := Nat.zero_add 0
          repeat' (first | simp only [hc, AS, pr, prow, Fil.row, List.map_cons, List.map_nil, NX, NPV, SX, l1, e1, c1, nn, f3, ZZ, simprocAttr, ↓reduceIte] | ((first | apply Za | apply Zb | apply Zc | apply Zd | apply Ze | apply Zf | apply Zg | apply Zh) <;> intro hc) | refine Zi ?_ | refine Zj ?_)
          refine awp_one tree19 ⟨[(7, AV.i i), (0, AV.d (.sl f (l.map Snd.row))), (3, .v (.c (.ptr 0 0))), (5, .v (.c (.ptr 1 0))), (8, .v (.c (.ptr 2 0)))], [.box ((pr a).map .d), .box ((pr x).map .d), .box (fl.row.map .d), .box ((pr a).map .d), .box ((pr x).map .d)]⟩ rfl (by kernel_rfl) ?_ ?_
          · skip
            have hc := Nat.zero_add 0
            repeat' (first | simp only [hc, AS, tree19, TRE, NX, SX, ZZ, simprocAttr, ↓reduceIte] | ((first | apply Za | apply Zb | apply Zc | apply Zd | apply Ze | apply Zf | apply Zg | apply Zh) <;> intro hc) | refine Zi ?_ | refine Zj ?_)
            repeat' (first | exact Wk.sub' (by simp [subT, look]) rfl | apply And.intro)
          have hc := Nat.zero_add 0
          repeat' (first | simp only [hc, AS, pr, prow, Fil.row, List.map_cons, List.map_nil, NX, NPV, SX, l1, e1, c1, nn, f4, f5, f6, w1, ZZ, simprocAttr, ↓reduceIte] | ((first | apply Za | apply Zb | apply Zc | apply Zd | apply Ze | apply Zf | apply Zg | apply Zh) <;> intro hc) | refine Zi ?_ | refine Zj ?_)
          exact lp_next (i + 1, a, x) (Wk.cutk (k := 2) (by simp) (by simp) rfl (by simp [subT, look]) (by simp [AV.low, V.low, C1.low]) (by simp [Ob.low, C1.low, pr, prow])) ⟨by simp only []; omega, hT2.symm, na, nx.trans nb⟩ (by simp only []; omega)
        have he' := eq_false he
        have hc := Nat.zero_add 0
        repeat' (first | simp only [hc, AS, pr, prow, Fil.row, List.map_cons, List.map_nil, NX, NPV, SX, l1, e1, c1, nn, f3, he', w1, ZZ, simprocAttr, ↓reduceIte] | ((first | apply Za | apply Zb | apply Zc | apply Zd | apply Ze | apply Zf | apply Zg | apply Zh) <;> intro hc) | refine Zi ?_ | refine Zj ?_)
        exact lp_next (i + 1, a, b) (Wk.cutk (k := 2) (by simp) (by simp) rfl (by simp [subT, look]) (by simp [AV.low, V.low, C1.low]) (by simp [Ob.low, C1.low, pr, prow])) ⟨by simp only []; omega, hT.more (by omega), na, nb⟩ (by simp only []; omega)
      have s1' := eq_false s1
      have f3 := xround_at (hT.rn (by omega) (g := zlf) (lost := zl) (by omega))
      obtain ⟨x, y, er, hT2, nx, ny⟩ := hT.round zl
      rw [er] at f3
      dsimp only at f3
      simp only [pr, prow] at f3
      have hc := Nat.zero_add 0
      repeat' (first | simp only [hc, AS, pr, prow, Fil.row, List.map_cons, List.map_nil, NX, NPV, SX, l1, e1, c1, nn, f3, s0', s1', ZZ, simprocAttr, ↓reduceIte] | ((first | apply Za | apply Zb | apply Zc | apply Zd | apply Ze | apply Zf | apply Zg | apply Zh) <;> intro hc) | refine Zi ?_ | refine Zj ?_)
      refine awp_one tree19 ⟨[(7, AV.i i), (0, AV.d (.sl f (l.map Snd.row))), (3, .v (.c (.ptr 0 0))), (5, .v (.c (.ptr 1 0))), (8, .v (.c (.ptr 2 0)))], [.box ((pr x).map .d), .box ((pr y).map .d), .box ((Fil.nil).row.map .d), .box ((pr x).map .d), .box ((pr y).map .d)]⟩ rfl (by kernel_rfl) ?_ ?_
      · skip
        have hc := Nat.zero_add 0
        repeat' (first | simp only [hc, AS, tree19, TRE, NX, SX, ZZ, simprocAttr, ↓reduceIte] | ((first | apply Za | apply Zb | apply Zc | apply Zd | apply Ze | apply Zf | apply Zg | apply Zh) <;> intro hc) | refine Zi ?_ | refine Zj ?_)
        repeat' (first | exact Wk.sub' (by simp [subT, look]) rfl | apply And.intro)
      have hc := Nat.zero_add 0
      repeat' (first | simp only [hc, AS, pr, prow, Fil.row, List.map_cons, List.map_nil, NX, NPV, SX, l1, e1, c1, nn, s0', s1', w1, ZZ, simprocAttr, ↓reduceIte] | ((first | apply Za | apply Zb | apply Zc | apply Zd | apply Ze | apply Zf | apply Zg | apply Zh) <;> intro hc) | refine Zi ?_ | refine Zj ?_)
      exact lp_next (i + 1, x, y) (Wk.cutk (k := 2) (by simp) (by simp) rfl (by simp [subT, look]) (by simp [AV.low, V.low, C1.low]) (by simp [Ob.low, C1.low, pr, prow])) ⟨by simp only []; omega, hT2.more (by omega), nx.trans na, ny.trans nb⟩ (by simp only []; omega)
    have c1 : ((i : Int) < (l.length : Int)) = False := eq_false (by omega)
    obtain ⟨x, y, hrc, o1, o2, _, _, k1, k2⟩ := hT.rc (by omega)
    have g1 := xrec_at hrc
    have g2 := xagree_at hrc.d1 hrc.d2
    have g3 := xsettle_at (w := false) (o := false) (t := false) k1
    have g4 := xsettle_at (w := false) (o := false) (t := false) k2
    obtain ⟨q1, q2⟩ := set_opp (c := claimsF) o1 o2
    have hb := @settle_le claimsF y
    rw [q1, q2] at g3
    generalize setF claimsF y = Y at *
    obtain ⟨Y1, Y2⟩ := Y
    dsimp only at g3 g4 hb
    have w2 : IntKind.i64.wrap (0 - Y1) = -Y1 := by rw [wI (by omega) (by omega)]; omega
    clear hrc o1 o2 k1 k2 q1 q2
    simp only [pr, prow] at g1 g2 g3 g4
    have hc := Nat.zero_add 0
    repeat' (first | simp only [hc, AS, pr, prow, List.map_cons, List.map_nil, NX, NPV, SX, l1, c1, g1, g2, g3, g4, w2, fa, ZZ, simprocAttr, ↓reduceIte] | ((first | apply Za | apply Zb | apply Zc | apply Zd | apply Ze | apply Zf | apply Zg | apply Zh) <;> intro hc) | refine Zi ?_ | refine Zj ?_)
    rw [← h]
  cases h
end
end Go.Ab
