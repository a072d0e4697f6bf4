/-
  Texts of the layer and of the laws, put together: AbF35. No law is stated here.
-/
import Derived.Test.YteeepgnhkfmnaaaDoorAbVol42
set_option linter.unusedSimpArgs false
set_option linter.unusedVariables false
set_option maxRecDepth 100000

/-
  The reference's Parse; law Parses. Printed by tools/genf35.py.
-/
namespace Go.Ab
open Go.RowKit Go.Proofs

theorem zright {k : Int} (h : kindB k = true) : rightE (zEvt k) = true := by
  rcases kind_cases h with rfl | rfl | rfl | rfl | rfl <;> kernel_rfl
theorem slF_mapE (o : Option (List (List UInt8))) : ∃ f, slT false o = .sl f ((o.getD []).map rowS) := by
  cases o with
  | none => exact ⟨true, rfl⟩
  | some l => exact ⟨false, rfl⟩

noncomputable section
open Classical

theorem rtext_at {h : Hp} {id n : Nat} {f bd : Bool} {l : List (List UInt8)} (h1 : h[id]? = some (rdrS f l n bd)) (h2 : n < l.length) (h3 : l.length ≤ 1000) (h4 : (l.getD n []).length ≤ 100000) :
    rtext_k [.v (.c (.ptr id 0))] h = some (.ret (AV.s (unescF (l.getD n [])).1) (h.set id (rdrS f l (n + 1 : Nat) (bd || decide ((unescF (l.getD n [])).2 ≠ 0))))) := by
  have := kR_eq (R := rsbR) (g := fun a : RsB => if rsOk a then some (COut.ret (AV.s (unescF (a.l.getD a.n [])).1) (a.h.set a.id (rdrS a.f a.l (a.n + 1 : Nat) (a.bd || decide ((unescF (a.l.getD a.n [])).2 ≠ 0))))) else none) (a := ⟨h, id, f, l, n, bd⟩)
    (args := [.v (.c (.ptr id 0))]) (h := h) (fun b' hb => by rw [rsbR_inj (a := ⟨h, id, f, l, n, bd⟩) ⟨rfl, rfl, h1⟩ hb]) ⟨rfl, rfl, h1⟩
  exact this.trans (if_pos ⟨h2, h3, h4⟩)
theorem rnumr_at {h : Hp} {id n : Nat} {f bd : Bool} {l : List (List UInt8)} (h1 : h[id]? = some (rdrS f l n bd)) (h2 : n < l.length) (h3 : l.length ≤ 1000) (h4 : (l.getD n []).length ≤ 100000) :
    rnumr_k [.v (.c (.ptr id 0))] h = some (.ret (AV.i (numV (l.getD n [])).1) (h.set id (rdrS f l (n + 1 : Nat) (bd || (numV (l.getD n [])).2)))) := by
  have := kR_eq (R := rsbR) (g := fun a : RsB => if rsOk a then some (COut.ret (AV.i (numV (a.l.getD a.n [])).1) (a.h.set a.id (rdrS a.f a.l (a.n + 1 : Nat) (a.bd || (numV (a.l.getD a.n [])).2)))) else none) (a := ⟨h, id, f, l, n, bd⟩)
    (args := [.v (.c (.ptr id 0))]) (h := h) (fun b' hb => by rw [rsbR_inj (a := ⟨h, id, f, l, n, bd⟩) ⟨rfl, rfl, h1⟩ hb]) ⟨rfl, rfl, h1⟩
  exact this.trans (if_pos ⟨h2, h3, h4⟩)

def r6parse_m : List PA → Option (List PA) := ms fun s => some [.agg (parseE s).1.row, .i (parseE s).2]

set_option maxHeartbeats 4000000 in
theorem r6parse_ok : PureC Tryd.prog Gt 18 r6parse_m := by
  refine pure_of_awpS (X := ctxN Tryd.prog Gt [(37, rfields_m), (29, r6words_m), (13, r6right_m)] [(38, rtext_k), (39, rnumr_k)] [] none) Tryd.func18 rfl rfl (by kernel_rfl) (by kernel_rfl) (kok_n (AllOk.cons rfields_ok (AllOk.cons r6words_ok (AllOk.cons r6right_ok AllOk.nil))) (AllK.cons rtext_kok (AllK.cons rnumr_kok AllK.nil)) AllN.nil) ?_
  intro args r h0
  obtain ⟨s, rfl, h⟩ := ms_inv h0
  refine ⟨Nat.le_of_ble_eq_true rfl, ?_⟩
  simp only [Option.some.injEq] at h
  obtain ⟨fl, hfl⟩ := slF_mapE (fieldsF s).1
  have g1 : rfields_m [.c (.str s)] = some [.c (.sl fl (((fieldsF s).1.getD []).map rowS)), .i (fieldsF s).2] := by rw [rfields_m, ms_eq, hfl]
  have hP : parseE s = if (fieldsF s).2 = 0 then tryK ((fieldsF s).1.getD []) 5 1 else (zEvt 0, (fieldsF s).2) := rfl
  rw [hP] at h
  have hlin := @fields_linE s
  have hcnt := @fields_cntE s
  clear hfl hP h0
  generalize (fieldsF s).1.getD [] = l at *
  generalize (fieldsF s).2 = er at *
  by_cases he : er = 0
  · subst he
    have hlin := hlin rfl
    have hcnt := hcnt rfl
    rw [if_pos rfl] at h
    have l1 := @lenS l
    have hc := Nat.zero_add 0
    repeat' (first | simp only [hc, AS, Tryd.f18, NX, NPV, SX, NW, g1, zRow0_eq, AB, PL, RG, LP, TY, simprocAttr, ↓reduceIte, forall_const, eq_self, ne_eq, Option.some.injEq, beq_self_eq_true] | ((first | apply fin_ndec | apply fin_dec | apply cnd_ndec | apply cnd_dec' | apply fin_nsplit | apply fin_split | apply cnd_nsplit | apply cnd_split) <;> intro hc) | refine seqS_id ?_ | refine blk_exit_id ?_)
    refine awpS_loop (σ := Nat) (fun i => i ≤ 5) (fun i => ⟨[(7, AV.i ((i : Int) + 1)), (6, .v (.c (.ptr 1 0))), (4, AV.d (.sl fl (l.map rowS))), (2, .v (.c (.ptr 0 0)))], [.box zRow0, .box ((zEvt (lastM l i)).row.map .d)]⟩) (fun i => 5 - i) 0 (Wk.sub' (by simp [subT, look]) rfl) (by omega) ?_
    intro i hi
    by_cases hi5 : i < 5
    · have hle5 : ((i : Int) + 1 ≤ 5) = True := eq_true (by omega)
      have hwk : IntKind.i64.wrap ((i : Int) + 1 + 1) = ((i + 1 : Nat) : Int) + 1 := by rw [wI (by omega) (by omega)]; omega
      have hk : kindB ((i : Int) + 1) = true := decide_eq_true (by omega)
      have g2 := r6words_at (zright hk)
      have hL : lastM l (i + 1) = if matchK l ((i : Int) + 1) = true then (i : Int) + 1 else lastM l i := rfl
      have hM : matchK l ((i : Int) + 1) = (decide (l.length = (fldK ((i : Int) + 1)).length + 1) && (l.headD [] == wrdK ((i : Int) + 1))) := rfl
      have l2 : (((wordsE (zEvt ((i : Int) + 1))).map rowS).length : Int) = ((fldK ((i : Int) + 1)).length : Int) + 1 := by simp [wordsE, zEvt]
      have e2 : ((wordsE (zEvt ((i : Int) + 1))).map rowS)[0]? = some [.str (wrdK ((i : Int) + 1))] := rfl
      generalize (wordsE (zEvt ((i : Int) + 1))).map rowS = WS at *
      simp only [zEvt, Evt.row] at g2
      rw [hM] at hL
      generalize (fldK ((i : Int) + 1)).length = fn at *
      generalize wrdK ((i : Int) + 1) = wd at *
      by_cases hml : l.length = fn + 1
      · have hml' : ((l.length : Int) = (fn : Int) + 1) = True := eq_true (by omega)
        have e0 := strRow (l := l) (j := 0) (by omega)
        have hh0 : l.headD [] = l.getD 0 [] := by cases l <;> rfl
        rw [decide_eq_true hml, Bool.true_and, hh0] at hL
        generalize l.getD 0 [] = w0 at *
        cases hwd : (w0 == wd) with
        | false =>
          rw [hwd, if_neg (by simp)] at hL
          have hc := Nat.zero_add 0
          repeat' (first | simp only [hc, AS, NX, NPV, SX, NW, hle5, g2, l1, l2, hml', e0, e2, hwd, hwk, zEvt, Evt.row, List.map_cons, List.map_nil, AB, PL, RG, LP, TY, simprocAttr, ↓reduceIte, forall_const, eq_self, ne_eq, Option.some.injEq, beq_self_eq_true] | ((first | apply fin_ndec | apply fin_dec | apply cnd_ndec | apply cnd_dec' | apply fin_nsplit | apply fin_split | apply cnd_nsplit | apply cnd_split) <;> intro hc) | refine seqS_id ?_ | refine blk_exit_id ?_)
          exact lp_next (i + 1) (Wk.sub' (by simp [subT, look]) (by rw [hL])) (by omega) (by omega)
        | true =>
          rw [hwd, if_pos rfl] at hL
          have hc := Nat.zero_add 0
          repeat' (first | simp only [hc, AS, NX, NPV, SX, NW, hle5, g2, l1, l2, hml', e0, e2, hwd, hwk, zEvt, Evt.row, List.map_cons, List.map_nil, AB, PL, RG, LP, TY, simprocAttr, ↓reduceIte, forall_const, eq_self, ne_eq, Option.some.injEq, beq_self_eq_true] | ((first | apply fin_ndec | apply fin_dec | apply cnd_ndec | apply cnd_dec' | apply fin_nsplit | apply fin_split | apply cnd_nsplit | apply cnd_split) <;> intro hc) | refine seqS_id ?_ | refine blk_exit_id ?_)
          exact lp_next (i + 1) (Wk.sub' (by simp [subT, look]) (by rw [hL])) (by omega) (by omega)
      · have hml' : ((l.length : Int) = (fn : Int) + 1) = False := eq_false (by omega)
        rw [decide_eq_false hml, Bool.false_and, if_neg (by simp)] at hL
        have hc := Nat.zero_add 0
        repeat' (first | simp only [hc, AS, NX, NPV, SX, NW, hle5, g2, l1, l2, hml', hwk, zEvt, Evt.row, List.map_cons, List.map_nil, AB, PL, RG, LP, TY, simprocAttr, ↓reduceIte, forall_const, eq_self, ne_eq, Option.some.injEq, beq_self_eq_true] | ((first | apply fin_ndec | apply fin_dec | apply cnd_ndec | apply cnd_dec' | apply fin_nsplit | apply fin_split | apply cnd_nsplit | apply cnd_split) <;> intro hc) | refine seqS_id ?_ | refine blk_exit_id ?_)
        exact lp_next (i + 1) (Wk.sub' (by simp [subT, look]) (by rw [hL])) (by omega) (by omega)
    · have hle5 : ((i : Int) + 1 ≤ 5) = False := eq_false (by omega)
      obtain rfl : i = 5 := by omega
      rcases @lastM_spec l with ⟨hK, hT⟩ | ⟨hK, hm, hT⟩
      · rw [hT] at h
        subst h
        rw [hK]
        have hc := Nat.zero_add 0
        repeat' (first | simp only [hc, AS, NX, NPV, SX, NW, hle5, zEvt, Evt.row, List.map_cons, List.map_nil, zRow0_eq, AB, PL, RG, LP, TY, simprocAttr, ↓reduceIte, forall_const, eq_self, ne_eq, Option.some.injEq, beq_self_eq_true] | ((first | apply fin_ndec | apply fin_dec | apply cnd_ndec | apply cnd_dec' | apply fin_nsplit | apply fin_split | apply cnd_nsplit | apply cnd_split) <;> intro hc) | refine seqS_id ?_ | refine blk_exit_id ?_)
        all_goals rfl
      · rw [hT, readP_end] at h
        clear hT
        generalize lastM l 5 = K at *
        have hlen : l.length = (fldK K).length + 1 := by
          unfold matchK at hm
          rw [Bool.and_eq_true] at hm
          exact of_decide_eq_true hm.1
        have hgl : ∀ j, j < l.length → (l.getD j []).length ≤ 100000 := fun j hj => by
          have := hlin (l.getD j []) (by rw [List.getD_eq_getElem?_getD, List.getElem?_eq_getElem hj]; exact List.getElem_mem _)
          omega
        have hl1000 : l.length ≤ 1000 := by omega
        clear hm hlin hcnt l1 g1
        rcases kind_cases hK with rfl | rfl | rfl | rfl | rfl
        · have hlen : l.length = 8 := hlen
          have g1 : ∀ A C, rtext_k [.v (.c (.ptr 2 0))] [A, C, rdrS fl l 1 false] = some (.ret (AV.s (unescF (l.getD 1 [])).1) [A, C, rdrS fl l 2 (false || decide ((unescF (l.getD 1 [])).2 ≠ 0))]) := fun A C => rtext_at (h := [A, C, rdrS fl l 1 false]) (id := 2) (n := 1) rfl (by omega) hl1000 (hgl 1 (by omega))
          generalize hw1 : l.getD 1 [] = w1 at *
          generalize hb1 : (false || decide ((unescF w1).2 ≠ 0)) = b1 at *
          generalize hx1 : (unescF w1).1 = x1 at *
          have g2 : ∀ A C, rnumr_k [.v (.c (.ptr 2 0))] [A, C, rdrS fl l 2 b1] = some (.ret (AV.i (numV (l.getD 2 [])).1) [A, C, rdrS fl l 3 (b1 || (numV (l.getD 2 [])).2)]) := fun A C => rnumr_at (h := [A, C, rdrS fl l 2 b1]) (id := 2) (n := 2) rfl (by omega) hl1000 (hgl 2 (by omega))
          generalize hw2 : l.getD 2 [] = w2 at *
          generalize hb2 : (b1 || (numV w2).2) = b2 at *
          generalize hx2 : (numV w2).1 = x2 at *
          have g3 : ∀ A C, rnumr_k [.v (.c (.ptr 2 0))] [A, C, rdrS fl l 3 b2] = some (.ret (AV.i (numV (l.getD 3 [])).1) [A, C, rdrS fl l 4 (b2 || (numV (l.getD 3 [])).2)]) := fun A C => rnumr_at (h := [A, C, rdrS fl l 3 b2]) (id := 2) (n := 3) rfl (by omega) hl1000 (hgl 3 (by omega))
          generalize hw3 : l.getD 3 [] = w3 at *
          generalize hb3 : (b2 || (numV w3).2) = b3 at *
          generalize hx3 : (numV w3).1 = x3 at *
          have g4 : ∀ A C, rtext_k [.v (.c (.ptr 2 0))] [A, C, rdrS fl l 4 b3] = some (.ret (AV.s (unescF (l.getD 4 [])).1) [A, C, rdrS fl l 5 (b3 || decide ((unescF (l.getD 4 [])).2 ≠ 0))]) := fun A C => rtext_at (h := [A, C, rdrS fl l 4 b3]) (id := 2) (n := 4) rfl (by omega) hl1000 (hgl 4 (by omega))
          generalize hw4 : l.getD 4 [] = w4 at *
          generalize hb4 : (b3 || decide ((unescF w4).2 ≠ 0)) = b4 at *
          generalize hx4 : (unescF w4).1 = x4 at *
          have g5 : ∀ A C, rtext_k [.v (.c (.ptr 2 0))] [A, C, rdrS fl l 5 b4] = some (.ret (AV.s (unescF (l.getD 5 [])).1) [A, C, rdrS fl l 6 (b4 || decide ((unescF (l.getD 5 [])).2 ≠ 0))]) := fun A C => rtext_at (h := [A, C, rdrS fl l 5 b4]) (id := 2) (n := 5) rfl (by omega) hl1000 (hgl 5 (by omega))
          generalize hw5 : l.getD 5 [] = w5 at *
          generalize hb5 : (b4 || decide ((unescF w5).2 ≠ 0)) = b5 at *
          generalize hx5 : (unescF w5).1 = x5 at *
          have g6 : ∀ A C, rnumr_k [.v (.c (.ptr 2 0))] [A, C, rdrS fl l 6 b5] = some (.ret (AV.i (numV (l.getD 6 [])).1) [A, C, rdrS fl l 7 (b5 || (numV (l.getD 6 [])).2)]) := fun A C => rnumr_at (h := [A, C, rdrS fl l 6 b5]) (id := 2) (n := 6) rfl (by omega) hl1000 (hgl 6 (by omega))
          generalize hw6 : l.getD 6 [] = w6 at *
          generalize hb6 : (b5 || (numV w6).2) = b6 at *
          generalize hx6 : (numV w6).1 = x6 at *
          have g7 : ∀ A C, rnumr_k [.v (.c (.ptr 2 0))] [A, C, rdrS fl l 7 b6] = some (.ret (AV.i (numV (l.getD 7 [])).1) [A, C, rdrS fl l 8 (b6 || (numV (l.getD 7 [])).2)]) := fun A C => rnumr_at (h := [A, C, rdrS fl l 7 b6]) (id := 2) (n := 7) rfl (by omega) hl1000 (hgl 7 (by omega))
          generalize hw7 : l.getD 7 [] = w7 at *
          generalize hb7 : (b6 || (numV w7).2) = b7 at *
          generalize hx7 : (numV w7).1 = x7 at *
          have hS : readP l (fldK 1) 1 (zEvt 1) false = ((⟨1, x1, x2, x3, x4, x5, x6, x7, 0, [], [], 0, 0, 0, [], 0⟩ : Evt), b7) := by
            show readP l [(true, 1), (false, 2), (false, 3), (true, 4), (true, 5), (false, 6), (false, 7)] 1 (zEvt 1) false = _
            simp only [readP, stepP, if_true, Bool.false_eq_true, if_false, Nat.reduceAdd, hw1, hb1, hx1, hw2, hb2, hx2, hw3, hb3, hx3, hw4, hb4, hx4, hw5, hb5, hx5, hw6, hb6, hx6, hw7, hb7, hx7]
            rfl
          rw [hS] at h
          have gr := @r6right_at (⟨1, x1, x2, x3, x4, x5, x6, x7, 0, [], [], 0, 0, 0, [], 0⟩ : Evt)
          generalize hr : rightE (⟨1, x1, x2, x3, x4, x5, x6, x7, 0, [], [], 0, 0, 0, [], 0⟩ : Evt) = rr at *
          unfold endP at h
          dsimp only at h
          simp only [Evt.row] at gr
          clear hb1 hx1 hb2 hx2 hb3 hx3 hb4 hx4 hb5 hx5 hb6 hx6 hb7 hx7
          cases b7 with
          | true =>
            rw [if_pos rfl] at h
            subst h
            have hc := Nat.zero_add 0
            repeat' (first | simp only [hc, AS, NX, NPV, SX, NW, HX, hle5, g1, g2, g3, g4, g5, g6, g7, zEvt, Evt.row, List.map_cons, List.map_nil, zRow0_eq, AB, PL, RG, LP, TY, simprocAttr, ↓reduceIte, forall_const, eq_self, ne_eq, Option.some.injEq, beq_self_eq_true] | ((first | apply fin_ndec | apply fin_dec | apply cnd_ndec | apply cnd_dec' | apply fin_nsplit | apply fin_split | apply cnd_nsplit | apply cnd_split) <;> intro hc) | refine seqS_id ?_ | refine blk_exit_id ?_)
            all_goals rfl
          | false =>
            rw [if_neg (by simp), hr] at h
            cases rr with
            | true =>
              rw [if_pos rfl] at h
              subst h
              have hc := Nat.zero_add 0
              repeat' (first | simp only [hc, AS, NX, NPV, SX, NW, HX, hle5, g1, g2, g3, g4, g5, g6, g7, gr, zEvt, Evt.row, List.map_cons, List.map_nil, zRow0_eq, AB, PL, RG, LP, TY, simprocAttr, ↓reduceIte, forall_const, eq_self, ne_eq, Option.some.injEq, beq_self_eq_true] | ((first | apply fin_ndec | apply fin_dec | apply cnd_ndec | apply cnd_dec' | apply fin_nsplit | apply fin_split | apply cnd_nsplit | apply cnd_split) <;> intro hc) | refine seqS_id ?_ | refine blk_exit_id ?_)
              all_goals rfl
            | false =>
              rw [if_neg (by simp)] at h
              subst h
              have hc := Nat.zero_add 0
              repeat' (first | simp only [hc, AS, NX, NPV, SX, NW, HX, hle5, g1, g2, g3, g4, g5, g6, g7, gr, zEvt, Evt.row, List.map_cons, List.map_nil, zRow0_eq, AB, PL, RG, LP, TY, simprocAttr, ↓reduceIte, forall_const, eq_self, ne_eq, Option.some.injEq, beq_self_eq_true] | ((first | apply fin_ndec | apply fin_dec | apply cnd_ndec | apply cnd_dec' | apply fin_nsplit | apply fin_split | apply cnd_nsplit | apply cnd_split) <;> intro hc) | refine seqS_id ?_ | refine blk_exit_id ?_)
              all_goals rfl
        · have hlen : l.length = 6 := hlen
          have g1 : ∀ A C, rnumr_k [.v (.c (.ptr 2 0))] [A, C, rdrS fl l 1 false] = some (.ret (AV.i (numV (l.getD 1 [])).1) [A, C, rdrS fl l 2 (false || (numV (l.getD 1 [])).2)]) := fun A C => rnumr_at (h := [A, C, rdrS fl l 1 false]) (id := 2) (n := 1) rfl (by omega) hl1000 (hgl 1 (by omega))
          generalize hw1 : l.getD 1 [] = w1 at *
          generalize hb1 : (false || (numV w1).2) = b1 at *
          generalize hx1 : (numV w1).1 = x1 at *
          have g2 : ∀ A C, rtext_k [.v (.c (.ptr 2 0))] [A, C, rdrS fl l 2 b1] = some (.ret (AV.s (unescF (l.getD 2 [])).1) [A, C, rdrS fl l 3 (b1 || decide ((unescF (l.getD 2 [])).2 ≠ 0))]) := fun A C => rtext_at (h := [A, C, rdrS fl l 2 b1]) (id := 2) (n := 2) rfl (by omega) hl1000 (hgl 2 (by omega))
          generalize hw2 : l.getD 2 [] = w2 at *
          generalize hb2 : (b1 || decide ((unescF w2).2 ≠ 0)) = b2 at *
          generalize hx2 : (unescF w2).1 = x2 at *
          have g3 : ∀ A C, rtext_k [.v (.c (.ptr 2 0))] [A, C, rdrS fl l 3 b2] = some (.ret (AV.s (unescF (l.getD 3 [])).1) [A, C, rdrS fl l 4 (b2 || decide ((unescF (l.getD 3 [])).2 ≠ 0))]) := fun A C => rtext_at (h := [A, C, rdrS fl l 3 b2]) (id := 2) (n := 3) rfl (by omega) hl1000 (hgl 3 (by omega))
          generalize hw3 : l.getD 3 [] = w3 at *
          generalize hb3 : (b2 || decide ((unescF w3).2 ≠ 0)) = b3 at *
          generalize hx3 : (unescF w3).1 = x3 at *
          have g4 : ∀ A C, rnumr_k [.v (.c (.ptr 2 0))] [A, C, rdrS fl l 4 b3] = some (.ret (AV.i (numV (l.getD 4 [])).1) [A, C, rdrS fl l 5 (b3 || (numV (l.getD 4 [])).2)]) := fun A C => rnumr_at (h := [A, C, rdrS fl l 4 b3]) (id := 2) (n := 4) rfl (by omega) hl1000 (hgl 4 (by omega))
          generalize hw4 : l.getD 4 [] = w4 at *
          generalize hb4 : (b3 || (numV w4).2) = b4 at *
          generalize hx4 : (numV w4).1 = x4 at *
          have g5 : ∀ A C, rnumr_k [.v (.c (.ptr 2 0))] [A, C, rdrS fl l 5 b4] = some (.ret (AV.i (numV (l.getD 5 [])).1) [A, C, rdrS fl l 6 (b4 || (numV (l.getD 5 [])).2)]) := fun A C => rnumr_at (h := [A, C, rdrS fl l 5 b4]) (id := 2) (n := 5) rfl (by omega) hl1000 (hgl 5 (by omega))
          generalize hw5 : l.getD 5 [] = w5 at *
          generalize hb5 : (b4 || (numV w5).2) = b5 at *
          generalize hx5 : (numV w5).1 = x5 at *
          have hS : readP l (fldK 2) 1 (zEvt 2) false = ((⟨2, [], 0, 0, [], [], 0, 0, x1, x2, x3, x4, x5, 0, [], 0⟩ : Evt), b5) := by
            show readP l [(false, 8), (true, 9), (true, 10), (false, 11), (false, 12)] 1 (zEvt 2) false = _
            simp only [readP, stepP, if_true, Bool.false_eq_true, if_false, Nat.reduceAdd, hw1, hb1, hx1, hw2, hb2, hx2, hw3, hb3, hx3, hw4, hb4, hx4, hw5, hb5, hx5]
            rfl
          rw [hS] at h
          have gr := @r6right_at (⟨2, [], 0, 0, [], [], 0, 0, x1, x2, x3, x4, x5, 0, [], 0⟩ : Evt)
          generalize hr : rightE (⟨2, [], 0, 0, [], [], 0, 0, x1, x2, x3, x4, x5, 0, [], 0⟩ : Evt) = rr at *
          unfold endP at h
          dsimp only at h
          simp only [Evt.row] at gr
          clear hb1 hx1 hb2 hx2 hb3 hx3 hb4 hx4 hb5 hx5
          cases b5 with
          | true =>
            rw [if_pos rfl] at h
            subst h
            have hc := Nat.zero_add 0
            repeat' (first | simp only [hc, AS, NX, NPV, SX, NW, HX, hle5, g1, g2, g3, g4, g5, zEvt, Evt.row, List.map_cons, List.map_nil, zRow0_eq, AB, PL, RG, LP, TY, simprocAttr, ↓reduceIte, forall_const, eq_self, ne_eq, Option.some.injEq, beq_self_eq_true] | ((first | apply fin_ndec | apply fin_dec | apply cnd_ndec | apply cnd_dec' | apply fin_nsplit | apply fin_split | apply cnd_nsplit | apply cnd_split) <;> intro hc) | refine seqS_id ?_ | refine blk_exit_id ?_)
            all_goals rfl
          | false =>
            rw [if_neg (by simp), hr] at h
            cases rr with
            | true =>
              rw [if_pos rfl] at h
              subst h
              have hc := Nat.zero_add 0
              repeat' (first | simp only [hc, AS, NX, NPV, SX, NW, HX, hle5, g1, g2, g3, g4, g5, gr, zEvt, Evt.row, List.map_cons, List.map_nil, zRow0_eq, AB, PL, RG, LP, TY, simprocAttr, ↓reduceIte, forall_const, eq_self, ne_eq, Option.some.injEq, beq_self_eq_true] | ((first | apply fin_ndec | apply fin_dec | apply cnd_ndec | apply cnd_dec' | apply fin_nsplit | apply fin_split | apply cnd_nsplit | apply cnd_split) <;> intro hc) | refine seqS_id ?_ | refine blk_exit_id ?_)
              all_goals rfl
            | false =>
              rw [if_neg (by simp)] at h
              subst h
              have hc := Nat.zero_add 0
              repeat' (first | simp only [hc, AS, NX, NPV, SX, NW, HX, hle5, g1, g2, g3, g4, g5, gr, zEvt, Evt.row, List.map_cons, List.map_nil, zRow0_eq, AB, PL, RG, LP, TY, simprocAttr, ↓reduceIte, forall_const, eq_self, ne_eq, Option.some.injEq, beq_self_eq_true] | ((first | apply fin_ndec | apply fin_dec | apply cnd_ndec | apply cnd_dec' | apply fin_nsplit | apply fin_split | apply cnd_nsplit | apply cnd_split) <;> intro hc) | refine seqS_id ?_ | refine blk_exit_id ?_)
              all_goals rfl
        · have hlen : l.length = 2 := hlen
          have g1 : ∀ A C, rnumr_k [.v (.c (.ptr 2 0))] [A, C, rdrS fl l 1 false] = some (.ret (AV.i (numV (l.getD 1 [])).1) [A, C, rdrS fl l 2 (false || (numV (l.getD 1 [])).2)]) := fun A C => rnumr_at (h := [A, C, rdrS fl l 1 false]) (id := 2) (n := 1) rfl (by omega) hl1000 (hgl 1 (by omega))
          generalize hw1 : l.getD 1 [] = w1 at *
          generalize hb1 : (false || (numV w1).2) = b1 at *
          generalize hx1 : (numV w1).1 = x1 at *
          have hS : readP l (fldK 3) 1 (zEvt 3) false = ((⟨3, [], 0, 0, [], [], 0, 0, 0, [], [], 0, 0, x1, [], 0⟩ : Evt), b1) := by
            show readP l [(false, 13)] 1 (zEvt 3) false = _
            simp only [readP, stepP, if_true, Bool.false_eq_true, if_false, Nat.reduceAdd, hw1, hb1, hx1]
            rfl
          rw [hS] at h
          have gr := @r6right_at (⟨3, [], 0, 0, [], [], 0, 0, 0, [], [], 0, 0, x1, [], 0⟩ : Evt)
          generalize hr : rightE (⟨3, [], 0, 0, [], [], 0, 0, 0, [], [], 0, 0, x1, [], 0⟩ : Evt) = rr at *
          unfold endP at h
          dsimp only at h
          simp only [Evt.row] at gr
          clear hb1 hx1
          cases b1 with
          | true =>
            rw [if_pos rfl] at h
            subst h
            have hc := Nat.zero_add 0
            repeat' (first | simp only [hc, AS, NX, NPV, SX, NW, HX, hle5, g1, zEvt, Evt.row, List.map_cons, List.map_nil, zRow0_eq, AB, PL, RG, LP, TY, simprocAttr, ↓reduceIte, forall_const, eq_self, ne_eq, Option.some.injEq, beq_self_eq_true] | ((first | apply fin_ndec | apply fin_dec | apply cnd_ndec | apply cnd_dec' | apply fin_nsplit | apply fin_split | apply cnd_nsplit | apply cnd_split) <;> intro hc) | refine seqS_id ?_ | refine blk_exit_id ?_)
            all_goals rfl
          | false =>
            rw [if_neg (by simp), hr] at h
            cases rr with
            | true =>
              rw [if_pos rfl] at h
              subst h
              have hc := Nat.zero_add 0
              repeat' (first | simp only [hc, AS, NX, NPV, SX, NW, HX, hle5, g1, gr, zEvt, Evt.row, List.map_cons, List.map_nil, zRow0_eq, AB, PL, RG, LP, TY, simprocAttr, ↓reduceIte, forall_const, eq_self, ne_eq, Option.some.injEq, beq_self_eq_true] | ((first | apply fin_ndec | apply fin_dec | apply cnd_ndec | apply cnd_dec' | apply fin_nsplit | apply fin_split | apply cnd_nsplit | apply cnd_split) <;> intro hc) | refine seqS_id ?_ | refine blk_exit_id ?_)
              all_goals rfl
            | false =>
              rw [if_neg (by simp)] at h
              subst h
              have hc := Nat.zero_add 0
              repeat' (first | simp only [hc, AS, NX, NPV, SX, NW, HX, hle5, g1, gr, zEvt, Evt.row, List.map_cons, List.map_nil, zRow0_eq, AB, PL, RG, LP, TY, simprocAttr, ↓reduceIte, forall_const, eq_self, ne_eq, Option.some.injEq, beq_self_eq_true] | ((first | apply fin_ndec | apply fin_dec | apply cnd_ndec | apply cnd_dec' | apply fin_nsplit | apply fin_split | apply cnd_nsplit | apply cnd_split) <;> intro hc) | refine seqS_id ?_ | refine blk_exit_id ?_)
              all_goals rfl
        · have hlen : l.length = 3 := hlen
          have g1 : ∀ A C, rtext_k [.v (.c (.ptr 2 0))] [A, C, rdrS fl l 1 false] = some (.ret (AV.s (unescF (l.getD 1 [])).1) [A, C, rdrS fl l 2 (false || decide ((unescF (l.getD 1 [])).2 ≠ 0))]) := fun A C => rtext_at (h := [A, C, rdrS fl l 1 false]) (id := 2) (n := 1) rfl (by omega) hl1000 (hgl 1 (by omega))
          generalize hw1 : l.getD 1 [] = w1 at *
          generalize hb1 : (false || decide ((unescF w1).2 ≠ 0)) = b1 at *
          generalize hx1 : (unescF w1).1 = x1 at *
          have g2 : ∀ A C, rnumr_k [.v (.c (.ptr 2 0))] [A, C, rdrS fl l 2 b1] = some (.ret (AV.i (numV (l.getD 2 [])).1) [A, C, rdrS fl l 3 (b1 || (numV (l.getD 2 [])).2)]) := fun A C => rnumr_at (h := [A, C, rdrS fl l 2 b1]) (id := 2) (n := 2) rfl (by omega) hl1000 (hgl 2 (by omega))
          generalize hw2 : l.getD 2 [] = w2 at *
          generalize hb2 : (b1 || (numV w2).2) = b2 at *
          generalize hx2 : (numV w2).1 = x2 at *
          have hS : readP l (fldK 4) 1 (zEvt 4) false = ((⟨4, [], 0, 0, [], [], 0, 0, 0, [], [], 0, 0, 0, x1, x2⟩ : Evt), b2) := by
            show readP l [(true, 14), (false, 15)] 1 (zEvt 4) false = _
            simp only [readP, stepP, if_true, Bool.false_eq_true, if_false, Nat.reduceAdd, hw1, hb1, hx1, hw2, hb2, hx2]
            rfl
          rw [hS] at h
          have gr := @r6right_at (⟨4, [], 0, 0, [], [], 0, 0, 0, [], [], 0, 0, 0, x1, x2⟩ : Evt)
          generalize hr : rightE (⟨4, [], 0, 0, [], [], 0, 0, 0, [], [], 0, 0, 0, x1, x2⟩ : Evt) = rr at *
          unfold endP at h
          dsimp only at h
          simp only [Evt.row] at gr
          clear hb1 hx1 hb2 hx2
          cases b2 with
          | true =>
            rw [if_pos rfl] at h
            subst h
            have hc := Nat.zero_add 0
            repeat' (first | simp only [hc, AS, NX, NPV, SX, NW, HX, hle5, g1, g2, zEvt, Evt.row, List.map_cons, List.map_nil, zRow0_eq, AB, PL, RG, LP, TY, simprocAttr, ↓reduceIte, forall_const, eq_self, ne_eq, Option.some.injEq, beq_self_eq_true] | ((first | apply fin_ndec | apply fin_dec | apply cnd_ndec | apply cnd_dec' | apply fin_nsplit | apply fin_split | apply cnd_nsplit | apply cnd_split) <;> intro hc) | refine seqS_id ?_ | refine blk_exit_id ?_)
            all_goals rfl
          | false =>
            rw [if_neg (by simp), hr] at h
            cases rr with
            | true =>
              rw [if_pos rfl] at h
              subst h
              have hc := Nat.zero_add 0
              repeat' (first | simp only [hc, AS, NX, NPV, SX, NW, HX, hle5, g1, g2, gr, zEvt, Evt.row, List.map_cons, List.map_nil, zRow0_eq, AB, PL, RG, LP, TY, simprocAttr, ↓reduceIte, forall_const, eq_self, ne_eq, Option.some.injEq, beq_self_eq_true] | ((first | apply fin_ndec | apply fin_dec | apply cnd_ndec | apply cnd_dec' | apply fin_nsplit | apply fin_split | apply cnd_nsplit | apply cnd_split) <;> intro hc) | refine seqS_id ?_ | refine blk_exit_id ?_)
              all_goals rfl
            | false =>
              rw [if_neg (by simp)] at h
              subst h
              have hc := Nat.zero_add 0
              repeat' (first | simp only [hc, AS, NX, NPV, SX, NW, HX, hle5, g1, g2, gr, zEvt, Evt.row, List.map_cons, List.map_nil, zRow0_eq, AB, PL, RG, LP, TY, simprocAttr, ↓reduceIte, forall_const, eq_self, ne_eq, Option.some.injEq, beq_self_eq_true] | ((first | apply fin_ndec | apply fin_dec | apply cnd_ndec | apply cnd_dec' | apply fin_nsplit | apply fin_split | apply cnd_nsplit | apply cnd_split) <;> intro hc) | refine seqS_id ?_ | refine blk_exit_id ?_)
              all_goals rfl
        · have hlen : l.length = 2 := hlen
          have g1 : ∀ A C, rnumr_k [.v (.c (.ptr 2 0))] [A, C, rdrS fl l 1 false] = some (.ret (AV.i (numV (l.getD 1 [])).1) [A, C, rdrS fl l 2 (false || (numV (l.getD 1 [])).2)]) := fun A C => rnumr_at (h := [A, C, rdrS fl l 1 false]) (id := 2) (n := 1) rfl (by omega) hl1000 (hgl 1 (by omega))
          generalize hw1 : l.getD 1 [] = w1 at *
          generalize hb1 : (false || (numV w1).2) = b1 at *
          generalize hx1 : (numV w1).1 = x1 at *
          have hS : readP l (fldK 5) 1 (zEvt 5) false = ((⟨5, [], 0, 0, [], [], 0, 0, 0, [], [], 0, 0, x1, [], 0⟩ : Evt), b1) := by
            show readP l [(false, 13)] 1 (zEvt 5) false = _
            simp only [readP, stepP, if_true, Bool.false_eq_true, if_false, Nat.reduceAdd, hw1, hb1, hx1]
            rfl
          rw [hS] at h
          have gr := @r6right_at (⟨5, [], 0, 0, [], [], 0, 0, 0, [], [], 0, 0, x1, [], 0⟩ : Evt)
          generalize hr : rightE (⟨5, [], 0, 0, [], [], 0, 0, 0, [], [], 0, 0, x1, [], 0⟩ : Evt) = rr at *
          unfold endP at h
          dsimp only at h
          simp only [Evt.row] at gr
          clear hb1 hx1
          cases b1 with
          | true =>
            rw [if_pos rfl] at h
            subst h
            have hc := Nat.zero_add 0
            repeat' (first | simp only [hc, AS, NX, NPV, SX, NW, HX, hle5, g1, zEvt, Evt.row, List.map_cons, List.map_nil, zRow0_eq, AB, PL, RG, LP, TY, simprocAttr, ↓reduceIte, forall_const, eq_self, ne_eq, Option.some.injEq, beq_self_eq_true] | ((first | apply fin_ndec | apply fin_dec | apply cnd_ndec | apply cnd_dec' | apply fin_nsplit | apply fin_split | apply cnd_nsplit | apply cnd_split) <;> intro hc) | refine seqS_id ?_ | refine blk_exit_id ?_)
            all_goals rfl
          | false =>
            rw [if_neg (by simp), hr] at h
            cases rr with
            | true =>
              rw [if_pos rfl] at h
              subst h
              have hc := Nat.zero_add 0
              repeat' (first | simp only [hc, AS, NX, NPV, SX, NW, HX, hle5, g1, gr, zEvt, Evt.row, List.map_cons, List.map_nil, zRow0_eq, AB, PL, RG, LP, TY, simprocAttr, ↓reduceIte, forall_const, eq_self, ne_eq, Option.some.injEq, beq_self_eq_true] | ((first | apply fin_ndec | apply fin_dec | apply cnd_ndec | apply cnd_dec' | apply fin_nsplit | apply fin_split | apply cnd_nsplit | apply cnd_split) <;> intro hc) | refine seqS_id ?_ | refine blk_exit_id ?_)
              all_goals rfl
            | false =>
              rw [if_neg (by simp)] at h
              subst h
              have hc := Nat.zero_add 0
              repeat' (first | simp only [hc, AS, NX, NPV, SX, NW, HX, hle5, g1, gr, zEvt, Evt.row, List.map_cons, List.map_nil, zRow0_eq, AB, PL, RG, LP, TY, simprocAttr, ↓reduceIte, forall_const, eq_self, ne_eq, Option.some.injEq, beq_self_eq_true] | ((first | apply fin_ndec | apply fin_dec | apply cnd_ndec | apply cnd_dec' | apply fin_nsplit | apply fin_split | apply cnd_nsplit | apply cnd_split) <;> intro hc) | refine seqS_id ?_ | refine blk_exit_id ?_)
              all_goals rfl
  · have he' := eq_false he
    rw [if_neg he] at h
    subst h
    have hc := Nat.zero_add 0
    repeat' (first | simp only [hc, AS, Tryd.f18, NX, NPV, SX, NW, g1, he', zRow0_eq, AB, PL, RG, LP, TY, simprocAttr, ↓reduceIte, forall_const, eq_self, ne_eq, Option.some.injEq, beq_self_eq_true] | ((first | apply fin_ndec | apply fin_dec | apply cnd_ndec | apply cnd_dec' | apply fin_nsplit | apply fin_split | apply cnd_nsplit | apply cnd_split) <;> intro hc) | refine seqS_id ?_ | refine blk_exit_id ?_)
    all_goals rfl
theorem r6parse_at {s : List UInt8} : r6parse_m [.c (.str s)] = some [.agg (parseE s).1.row, .i (parseE s).2] := by rw [r6parse_m, ms_eq]

def lParses_m : List PA → Option (List PA) := ms fun _ => some [.b true]
set_option maxHeartbeats 2000000 in
theorem lParses_ok : PureC Tryd.prog Gt 4 lParses_m := by
  refine pure_of_awpS (X := ctx Tryd.prog Gt [(17, eparse_m), (18, r6parse_m), (16, alive46_m)]) Tryd.func4 rfl rfl (by kernel_rfl) (by kernel_rfl) (AllOk.cons eparse_ok (AllOk.cons r6parse_ok (AllOk.cons alive46_ok AllOk.nil))).kok ?_
  intro args r h0
  obtain ⟨s, rfl, h⟩ := ms_inv h0
  refine ⟨Nat.le_of_ble_eq_true rfl, ?_⟩
  cases h
  have f7 := alive_at
  by_cases c2 : (s.length : Int) > 1000
  · have c2' := eq_true c2
    have hc := Nat.zero_add 0
    repeat' (first | simp only [hc, AS, Tryd.f4, SX, NW, c2', AB, PL, RG, LP, TY, simprocAttr, ↓reduceIte, forall_const, eq_self, ne_eq, Option.some.injEq, beq_self_eq_true] | ((first | apply fin_ndec | apply fin_dec | apply cnd_ndec | apply cnd_dec' | apply fin_nsplit | apply fin_split | apply cnd_nsplit | apply cnd_split) <;> intro hc) | refine seqS_id ?_ | refine blk_exit_id ?_)
    all_goals simp [DV.b]
  have c2' := eq_false c2
  have f1 := @eparse_at s
  have f2 := @r6parse_at s
  generalize parseE s = G at *
  obtain ⟨x, k⟩ := G
  obtain ⟨k', a', b', c', d'', f', g', i', j', l', m', n'', o', p', q', r'⟩ := x
  simp only [Evt.row] at f1 f2
  have hc := Nat.zero_add 0
  repeat' (first | simp only [hc, AS, Tryd.f4, SX, NW, c2', f1, f2, f7, AB, PL, RG, LP, TY, simprocAttr, ↓reduceIte, forall_const, eq_self, ne_eq, Option.some.injEq, beq_self_eq_true] | ((first | apply fin_ndec | apply fin_dec | apply cnd_ndec | apply cnd_dec' | apply fin_nsplit | apply fin_split | apply cnd_nsplit | apply cnd_split) <;> intro hc) | refine seqS_id ?_ | refine blk_exit_id ?_)
  all_goals simp [DV.b]

end
end Go.Ab
