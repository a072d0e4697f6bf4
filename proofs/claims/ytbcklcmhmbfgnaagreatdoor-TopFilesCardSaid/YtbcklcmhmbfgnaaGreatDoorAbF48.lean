/-
  Texts of the layer and of the laws, put together: AbTF19, AbTF20, AbTF21.
-/
import Derived.Test.YtbcklcmhmbfgnaaGreatDoorAbF47
import Derived.Test.YtbcklcmhmbfgnaaGreatDoorAbF14
import Derived.Test.YtbcklcmhmbfgnaaGreatDoorAbF40
import Derived.Test.YtbcklcmhmbfgnaaGreatDoorAbF35
set_option linter.unusedSimpArgs false
set_option linter.unusedVariables false
set_option maxRecDepth 100000
namespace Go.Ab
open Go.RowKit Go.Proofs
structure RcOk (a b x y : Ptn) : Prop where
  r1 : RnOk ⟨a, b, true, []⟩
  e1 : roundF a b [] = (x, y, 0)
  d1 : DfOk (x, y)
  d2 : DfOk (y, x)
  r2 : RnOk ⟨x, y, true, []⟩
  e2 : roundF x y [] = (x, y, 0)
def tree18 : Tr := (.run [0, 2, 4] (.br4 1 (.br3 3 (.br 5 (.run [6, 7, 8, 9, 10] .fin) 7 (.br 5 (.run [6, 8, 9, 10] .fin) 8 (.run [5, 6, 9, 10] .fin))) 5 (.br 3 (.run [6, 7, 8, 9, 10] .fin) 7 (.br 3 (.run [6, 8, 9, 10] .fin) 8 (.run [3, 6, 9, 10] .fin))) 7 (.br3 3 (.br 5 (.run [6, 8, 9, 10] .fin) 8 (.run [5, 6, 9, 10] .fin)) 5 (.br 3 (.run [6, 8, 9, 10] .fin) 8 (.run [3, 6, 9, 10] .fin)) 8 (.run [3, 5, 6, 9, 10] .fin))) 3 (.br3 1 (.br 5 (.run [6, 7, 8, 9, 10] .fin) 7 (.br 5 (.run [6, 8, 9, 10] .fin) 8 (.run [5, 6, 9, 10] .fin))) 5 (.run [6] (.br 1 (.run [7, 8, 9, 10] .fin) 7 (.run [1, 8, 9, 10] .fin))) 7 (.run [1] (.br 5 (.run [6, 8, 9, 10] .fin) 8 (.run [5, 6, 9, 10] .fin)))) 5 (.br3 1 (.br 3 (.run [6, 7, 8, 9, 10] .fin) 7 (.br 3 (.run [6, 8, 9, 10] .fin) 8 (.run [3, 6, 9, 10] .fin))) 3 (.run [6] (.br 1 (.run [7, 8, 9, 10] .fin) 7 (.run [1, 8, 9, 10] .fin))) 7 (.run [1] (.br 3 (.run [6, 8, 9, 10] .fin) 8 (.run [3, 6, 9, 10] .fin)))) 7 (.run [1] (.br3 3 (.br 5 (.run [6, 8, 9, 10] .fin) 8 (.run [5, 6, 9, 10] .fin)) 5 (.br 3 (.run [6, 8, 9, 10] .fin) 8 (.run [3, 6, 9, 10] .fin)) 8 (.run [3, 5, 6, 9, 10] .fin)))))
noncomputable section
open Classical
def xagree_m : List PA → Option (List PA) := mE enc2P fun q => if DfOk q ∧ DfOk (q.2, q.1) then some [.b true] else none
def xrec_m : List PA → Option (List PA) := mE enc2P fun q => if RcOk q.1 q.2 (roundF q.1 q.2 []).1 (roundF q.1 q.2 []).2.1 then some [.agg (pr (roundF q.1 q.2 []).1), .agg (pr (roundF q.1 q.2 []).2.1), .i 0, .i 0] else none
theorem xagree_ok : PureC Tryz.prog Gt 13 xagree_m := by
  refine pure_of_awpS (X := ctxN Tryz.prog Gt [(34, xdiff_m)] [] [] none) Tryz.func13 rfl rfl (by kernel_rfl) (by kernel_rfl) (kok_n (AllOk.cons xdiff_ok AllOk.nil) AllK.nil AllN.nil) ?_
  intro args r h0
  obtain ⟨⟨p, q⟩, rfl, h⟩ := mE_inv h0
  refine ⟨Nat.le_of_ble_eq_true rfl, ?_⟩
  split at h
  · rename_i hok
    simp only [Option.some.injEq] at h
    have f1 := xdiff_at hok.1
    have f2 := xdiff_at hok.2
    clear hok
    obtain ⟨p1, p2, p3, p4, p5, p6⟩ := p
    obtain ⟨q1, q2, q3, q4, q5, q6⟩ := q
    simp only [pr, prow] at f1 f2
    have hc := Nat.zero_add 0
    repeat' (first | simp only [hc, AS, Tryz.f13, enc2P, pr, prow, NX, NPV, SX, f1, f2, ZZ, simprocAttr, ↓reduceIte] | ((first | apply Za | apply Zb | apply Zc | apply Zd | apply Ze | apply Zf | apply Zg | apply Zh) <;> intro hc) | refine Zi ?_ | refine Zj ?_)
    rw [← h]
  cases h
theorem xagree_at {p q : Ptn} (h : DfOk (p, q)) (g : DfOk (q, p)) : xagree_m [.agg (pr p), .agg (pr q)] = some [.b true] := by
  have := mE_eq enc2P_inj (g := fun q => if DfOk q ∧ DfOk (q.2, q.1) then some [DV.b true] else none) (a := (p, q))
  exact this.trans (if_pos ⟨h, g⟩)
set_option maxHeartbeats 4000000 in
theorem xrec_ok : PureC Tryz.prog Gt 12 xrec_m := by
  refine pure_of_awpS (X := ctxN Tryz.prog Gt [(8, xround_m), (34, xdiff_m), (13, xagree_m)] [] [] none (uL []) (uL [3, 6, 8, 10, 12, 15, 17, 18])) Tryz.func12 rfl rfl (by kernel_rfl) (by kernel_rfl) (kok_n (AllOk.cons xround_ok (AllOk.cons xdiff_ok (AllOk.cons xagree_ok AllOk.nil))) AllK.nil AllN.nil) ?_
  intro args r h0
  obtain ⟨⟨a, b⟩, rfl, h⟩ := mE_inv h0
  refine ⟨Nat.le_of_ble_eq_true rfl, ?_⟩
  split at h
  · rename_i hok
    dsimp only at hok h
    generalize (roundF a b []).1 = x at *
    generalize (roundF a b []).2.1 = y at *
    obtain ⟨r1, e1, d1, d2, r2, e2⟩ := hok
    simp only [Option.some.injEq] at h
    have f1 := xround_at r1
    have f2 := xdiff_at d1
    have f3 := xdiff_at d2
    have f4 := xround_at r2
    have f5 := xagree_at d1 d2
    rw [e1] at f1
    rw [e2] at f4
    dsimp only at f1 f4
    clear r1 e1 d1 d2 r2 e2
    obtain ⟨a1, a2, a3, a4, a5, a6⟩ := a
    obtain ⟨b1, b2, b3, b4, b5, b6⟩ := b
    obtain ⟨x1, x2, x3, x4, x5, x6⟩ := x
    obtain ⟨y1, y2, y3, y4, y5, y6⟩ := y
    simp only [pr, prow, List.map_nil] at f1 f2 f3 f4 f5
    have hc := Nat.zero_add 0
    repeat' (first | simp only [hc, AS, Tryz.f12, enc2P, pr, prow, NX, NPV, SX, f1, f2, f3, f4, f5, ZZ, simprocAttr, ↓reduceIte] | ((first | apply Za | apply Zb | apply Zc | apply Zd | apply Ze | apply Zf | apply Zg | apply Zh) <;> intro hc) | refine Zi ?_ | refine Zj ?_)
    refine awp_fork tree18 ⟨[(4, .v (.c (.ptr 2 0))), (5, .v (.c (.ptr 3 0))), (6, AV.i 0), (7, AV.i 0)], [.box [.d (.str a1), .d (.int .i64 a2), .d (.int .i64 a3), .d (.sl false (a4.map Fil.row)), .d (.sl false (a5.map Rec.row)), .d (.sl false (a6.map Rec.row))], .box [.d (.str b1), .d (.int .i64 b2), .d (.int .i64 b3), .d (.sl false (b4.map Fil.row)), .d (.sl false (b5.map Rec.row)), .d (.sl false (b6.map Rec.row))], .box [.d (.str x1), .d (.int .i64 x2), .d (.int .i64 x3), .d (.sl false (x4.map Fil.row)), .d (.sl false (x5.map Rec.row)), .d (.sl false (x6.map Rec.row))], .box [.d (.str y1), .d (.int .i64 y2), .d (.int .i64 y3), .d (.sl false (y4.map Fil.row)), .d (.sl false (y5.map Rec.row)), .d (.sl false (y6.map Rec.row))], .box [.d (.str x1), .d (.int .i64 x2), .d (.int .i64 x3), .d (.sl false (x4.map Fil.row)), .d (.sl false (x5.map Rec.row)), .d (.sl false (x6.map Rec.row))], .box [.d (.str y1), .d (.int .i64 y2), .d (.int .i64 y3), .d (.sl false (y4.map Fil.row)), .d (.sl false (y5.map Rec.row)), .d (.sl false (y6.map Rec.row))]]⟩ ⟨[(4, .v (.c (.ptr 2 0))), (5, .v (.c (.ptr 3 0))), (6, AV.i 0), (7, AV.i 0)], [.box [.d (.str a1), .d (.int .i64 a2), .d (.int .i64 a3), .d (.sl false (a4.map Fil.row)), .d (.sl false (a5.map Rec.row)), .d (.sl false (a6.map Rec.row))], .box [.d (.str b1), .d (.int .i64 b2), .d (.int .i64 b3), .d (.sl false (b4.map Fil.row)), .d (.sl false (b5.map Rec.row)), .d (.sl false (b6.map Rec.row))], .box [.d (.str x1), .d (.int .i64 x2), .d (.int .i64 x3), .d (.sl false (x4.map Fil.row)), .d (.sl false (x5.map Rec.row)), .d (.sl false (x6.map Rec.row))], .box [.d (.str y1), .d (.int .i64 y2), .d (.int .i64 y3), .d (.sl false (y4.map Fil.row)), .d (.sl false (y5.map Rec.row)), .d (.sl false (y6.map Rec.row))], .box [.d (.str x1), .d (.int .i64 x2), .d (.int .i64 x3), .d (.sl false (x4.map Fil.row)), .d (.sl false (x5.map Rec.row)), .d (.sl false (x6.map Rec.row))], .box [.d (.str y1), .d (.int .i64 y2), .d (.int .i64 y3), .d (.sl false (y4.map Fil.row)), .d (.sl false (y5.map Rec.row)), .d (.sl false (y6.map Rec.row))]]⟩ rfl (by kernel_rfl) ?_ ?_ ?_
    · skip
      have w0 : IntKind.i64.wrap 0 = 0 := wI (by omega) (by omega)
      have hc := Nat.zero_add 0
      repeat' (first | simp only [hc, AS, tree18, TRE, NX, SX, w0, ZZ, simprocAttr, ↓reduceIte] | ((first | apply Za | apply Zb | apply Zc | apply Zd | apply Ze | apply Zf | apply Zg | apply Zh) <;> intro hc) | refine Zi ?_ | refine Zj ?_)
      repeat' (first | exact .inl (Wk.sub' (by simp [subT, look]) rfl) | apply And.intro)
    · skip
      have hc := Nat.zero_add 0
      repeat' (first | simp only [hc, AS, NX, NPV, SX, ZZ, simprocAttr, ↓reduceIte] | ((first | apply Za | apply Zb | apply Zc | apply Zd | apply Ze | apply Zf | apply Zg | apply Zh) <;> intro hc) | refine Zi ?_ | refine Zj ?_)
      rw [← h]
      rfl
    · skip
      have hc := Nat.zero_add 0
      repeat' (first | simp only [hc, AS, NX, NPV, SX, ZZ, simprocAttr, ↓reduceIte] | ((first | apply Za | apply Zb | apply Zc | apply Zd | apply Ze | apply Zf | apply Zg | apply Zh) <;> intro hc) | refine Zi ?_ | refine Zj ?_)
      rw [← h]
      rfl
  cases h
theorem xrec_at {a b x y : Ptn} (h : RcOk a b x y) : xrec_m [.agg (pr a), .agg (pr b)] = some [.agg (pr x), .agg (pr y), .i 0, .i 0] := by
  have := mE_eq enc2P_inj (g := fun q : Ptn × Ptn => if RcOk q.1 q.2 (roundF q.1 q.2 []).1 (roundF q.1 q.2 []).2.1 then some [DV.agg (pr (roundF q.1 q.2 []).1), .agg (pr (roundF q.1 q.2 []).2.1), .i 0, .i 0] else none) (a := (a, b))
  rw [h.e1] at this
  exact this.trans (if_pos h)
end
end Go.Ab
namespace Go.Ab
open Go.RowKit Go.Proofs
theorem after_le {n : Int} {x : Rec} {B : Int} (hB : 0 ≤ B) (hB2 : B ≤ 1125899906842624) (hn : -B ≤ n ∧ n ≤ B) (hx : okRec x) : -(B + 1099511627776) ≤ afterF n x ∧ afterF n x ≤ B + 1099511627776 := by
  obtain ⟨h1, h2, _⟩ := hx
  unfold afterF
  split
  · rw [wI (by omega) (by omega)]; omega
  split
  · rw [wI (by omega) (by omega)]; omega
  split
  · omega
  omega
theorem amt_le {k : List UInt8} : ∀ {l : List Rec} {n B : Int}, 0 ≤ B → B + 1099511627776 * l.length ≤ 1125899906842624 → -B ≤ n ∧ n ≤ B → (∀ x ∈ l, okRec x) → -(B + 1099511627776 * l.length) ≤ amtF k n l ∧ amtF k n l ≤ B + 1099511627776 * l.length
  | [], n, B, h1, h2, h3, h4 => by
    simp only [amtF, List.length_nil]
    omega
  | x :: l, n, B, h1, h2, h3, h4 => by
    rw [List.length_cons] at h2 ⊢
    rw [amtF]
    have hx := after_le h1 (by omega) h3 (h4 x List.mem_cons_self)
    have := amt_le (k := k) (l := l) (n := if x.key = k then afterF n x else n) (B := B + 1099511627776) (by omega) (by omega) (by split <;> omega) (fun y hy => h4 y (List.mem_cons_of_mem _ hy))
    omega
theorem claim_few {l : List Rec} (hl : l.length ≤ 100) (h : ∀ x ∈ l, okRec x) : claimOk l := by
  refine ⟨by omega, Nat.le_trans (netR_len l) (by omega), ?_⟩
  rw [List.all_eq_true]
  intro y hy
  obtain ⟨k, _, rfl⟩ := List.mem_map.1 (show y ∈ (keysR l).map (recK l) from hy)
  have := amt_le (k := k) (l := l) (n := 0) (B := 0) (by omega) (by omega) (by omega) h
  show afit (amtF k 0 l) = true
  rw [afit_iff]
  omega
theorem file_ok {S : List Fil} {f : Fil} (hf : f ∈ S) (h : ∀ x ∈ recsOf S, okRec x) (hl : (recsOf S).length ≤ 1024) : f.Ok := by
  obtain ⟨j, hj, rfl⟩ := List.mem_iff_getElem.1 hf
  have hs : ∀ x ∈ S[j].recs, x ∈ recsOf S := fun x hx => List.mem_flatMap.2 ⟨_, hf, hx⟩
  refine ⟨?_, fun x hx => by have := (h x (hs x hx)).2.2; omega⟩
  have h1 : (recsOf (S.take (j + 1))).length ≤ (recsOf S).length := recsOf_le
  rw [recsOf_take hj, List.length_append] at h1
  omega
theorem TI.ok {a b : Ptn} {i : Nat} (h : TI a b i) (hi : i ≤ 8) : PtB a ∧ (∀ f ∈ a.wait, f.Ok) ∧ a.inn ≤ 10 ∧ (∀ x ∈ a.theirs, okRec x) ∧ a.theirs.length ≤ 40 := by
  obtain ⟨S, T, m, w, k, v, h1, h2⟩ := h.ch
  have hr : ∀ x ∈ recsOf S, okRec x := by rw [← h1.ours]; exact h.ra
  have hwS : ∀ f ∈ a.wait, f ∈ S := fun f hf => by rw [h1.wait] at hf; exact List.mem_of_mem_drop hf
  have hfo : ∀ f ∈ a.wait, f.Ok := fun f hf => file_ok (hwS f hf) hr h1.sent.few
  obtain ⟨t1, t2⟩ := h.symm.theirs
  have la := h.la
  have wa := h.wa
  have oa := h.oa
  have ob := h.ob
  have o1 := h1.out
  have o2 := h2.out
  have i2 := h2.inn
  have ml := h2.ml
  exact ⟨⟨⟨by omega, fun f hf => ⟨(hfo f hf).1, h1.sent.rf f (hwS f hf)⟩, by omega, by omega⟩, by omega, by omega, by omega, by omega⟩, hfo, by omega, t2, by omega⟩
theorem TI.rn {a b : Ptn} {i : Nat} (h : TI a b i) (hi : i ≤ 8) {g : Bool} {lost : List Bool} (hl : lost.length ≤ 1000000) : RnOk ⟨a, b, g, lost⟩ := by
  obtain ⟨a1, a2, a3, _, _⟩ := h.ok hi
  obtain ⟨b1, b2, b3, _, _⟩ := h.symm.ok hi
  obtain ⟨x, y, e, _⟩ := h.round lost
  have := h.wa
  have := h.wb
  exact ⟨a1, b1, a2, b2, by dsimp only; omega, by dsimp only; omega, hl, by rw [e]⟩
theorem TI.rc {a b : Ptn} {i : Nat} (h : TI a b i) (hi : i ≤ 8) : ∃ x y, RcOk a b x y ∧ x.ours = y.theirs ∧ y.ours = x.theirs ∧ x.ours = a.ours ∧ y.ours = b.ours ∧ cl2Ok x ∧ cl2Ok y := by
  obtain ⟨S, T, m, w, k, v, h1, h2⟩ := h.ch
  obtain ⟨x, y, e1, n1, n2, o1, o2, o3, o4, _, _, e2⟩ := all_in h1 h2
  obtain ⟨x', y', e', ht, _, _⟩ := h.round []
  rw [e1] at e'
  simp only [Prod.mk.injEq, and_true] at e'
  obtain ⟨rfl, rfl⟩ := e'
  have la := ht.la
  have lb := ht.lb
  have hk : ∀ {l : List Rec}, (∀ z ∈ l, okRec z) → ∀ z ∈ l, z.key.length ≤ 100000 := fun h z hz => by have := (h z hz).2.2; omega
  refine ⟨x, y, ⟨h.rn hi (by simp), e1, ⟨o1, by dsimp only; omega, hk ht.ra⟩, ⟨o2, by dsimp only; omega, hk ht.rb⟩, ht.rn hi (by simp), e2⟩, o1, o2, o3, o4, ⟨claim_few (by omega) ht.ra, ?_⟩, ⟨claim_few (by omega) ht.rb, ?_⟩⟩
  · rw [← o2]; exact claim_few (by omega) ht.rb
  rw [← o1]; exact claim_few (by omega) ht.ra
theorem TI.sd {a b : Ptn} {i : Nat} (h : TI a b i) (hi : i ≤ 8) {fr : List UInt8} {rf : Bool} {l : List Rec} (hl : l.length ≤ 5) (hr : ∀ x ∈ l, okRec x) : SdOk ⟨a, fr, rf, l⟩ :=
  ⟨(h.ok hi).1, by show l.length ≤ 100000; omega, fun x hx => by have := (hr x hx).2.2; omega⟩
end Go.Ab
namespace Go.Ab
open Go.RowKit Go.Proofs
abbrev nB : List UInt8 := [98, 98, 98]
abbrev nA : List UInt8 := [97, 97, 97]
abbrev kR0 : List UInt8 := [107]
def rec0 : Rec := ⟨1, kR0, 0, 500, 0⟩
def fil0 : Fil := ⟨nA, nB, 1, false, [rec0]⟩
def ptn1 : Ptn := ⟨nB, 2, 1, [fil0], [rec0], []⟩
theorem chk0 : checkF fil0 = 0 := by kernel_rfl
theorem send0 : sendO (newP nB) nA [rec0] = (ptn1, fil0, 0) := by
  unfold sendO
  rw [if_neg (by rw [show (⟨nA, (newP nB).name, (newP nB).out, false, [rec0]⟩ : Fil) = fil0 from rfl, chk0]; simp), if_neg (by decide)]
  rfl
theorem ok0 : ∀ x ∈ [rec0], okRec x := fun x hx => by
  rw [List.mem_singleton.1 hx]
  exact ⟨by decide, by decide, by decide⟩
theorem ti0 : TI ptn1 (newP nA) 1 := by
  have h := (@send_iff (newP nB) nA [rec0]).2 (by rw [send0])
  rw [send0] at h
  exact ((ti_new nB nA).send (by decide) ok0 h).1
theorem text0 : 10 < (textF fil0).length := by
  rw [text_lines]
  have h : (headText fil0).length + 1 ≤ (flatL (linesOf fil0)).length := by
    unfold linesOf flatL
    rw [List.flatMap_cons, List.length_append]
    simp
  rw [headText, int4_len] at h
  generalize (flatL (linesOf fil0)).length = L at *
  simp only [fil0, List.length_cons, List.length_nil] at h
  have h2 : (nA.length) = 3 ∧ nB.length = 3 := ⟨rfl, rfl⟩
  omega
theorem print0 : printF fil0 = (textF fil0, 0) := (print_few chk0 (by decide)).1
noncomputable section
open Classical
def xnewN_m : List PA → Option (List PA) := ms fun s => if nameB s = true then some [.agg (pr (newP s)), .i 0] else none
def xawake_m : List PA → Option (List PA) := m0 (some [.b true])
theorem xnewN_ok : PureC Tryz.prog Gt 6 xnewN_m := by
  refine pure_out xnew_ok fun args r ha => ?_
  obtain ⟨s, rfl, h⟩ := ms_inv ha
  split at h
  · rename_i hs
    cases h
    refine ⟨[.agg (prow true true true (newP s)), .i 0], ?_, rfl, fun j x y hx hy w F v hr => ?_⟩
    · rw [xnew_m, ms_eq, if_pos hs]
    match j, hx, hy with
    | 0, hx, hy =>
      cases hx
      cases hy
      obtain ⟨vs, e, hl, hc⟩ := hr
      refine ⟨vs, e, hl, fun i d hi => ?_⟩
      match i, hi with
      | 0, hi => exact hc 0 d hi
      | 1, hi => exact hc 1 d hi
      | 2, hi => exact hc 2 d hi
      | 3, hi => cases hi; obtain ⟨u, h1, h2⟩ := hc 3 _ rfl; exact ⟨u, h1, Rd.weak h2⟩
      | 4, hi => cases hi; obtain ⟨u, h1, h2⟩ := hc 4 _ rfl; exact ⟨u, h1, Rd.weak h2⟩
      | 5, hi => cases hi; obtain ⟨u, h1, h2⟩ := hc 5 _ rfl; exact ⟨u, h1, Rd.weak h2⟩
      | i + 6, hi => simp [pr, prow] at hi
    | 1, hx, hy => cases hx; cases hy; exact hr
    | j + 2, hx, hy => simp at hx
  cases h
theorem xnewN_at {s : List UInt8} (h : nameB s = true) : xnewN_m [.c (.str s)] = some [.agg (pr (newP s)), .i 0] := by
  rw [xnewN_m, ms_eq, if_pos h]
set_option maxHeartbeats 4000000 in
theorem xawake_ok : PureC Tryz.prog Gt 5 xawake_m := by
  refine pure_of_awpS (X := ctxN Tryz.prog Gt [(6, xnewN_m), (7, xsend_m), (9, aprint_m), (12, xrec_m), (15, aamt_m)] [] [] none) Tryz.func5 rfl rfl (by kernel_rfl) (by kernel_rfl) (kok_n (AllOk.cons xnewN_ok (AllOk.cons xsend_ok (AllOk.cons aprint_ok (AllOk.cons xrec_ok (AllOk.cons aamt_ok AllOk.nil))))) AllK.nil AllN.nil) ?_
  intro args r h0
  obtain ⟨rfl, h⟩ := m0_inv h0
  refine ⟨Nat.le_of_ble_eq_true rfl, ?_⟩
  cases h
  have f1 := xnewN_at (s := nB) (by decide)
  have f2 := xnewN_at (s := nA) (by decide)
  have f3 := xsend_at (p := newP nB) (fr := nA) (rf := true) (l := [rec0]) ((ti_new nB nA).sd (by omega) (by decide) ok0)
  have f4 := aprint_at (f := fil0) ⟨by decide, by decide⟩
  obtain ⟨x, y, hrc, e1, e2, e3, e4, _, _⟩ := ti0.rc (by omega)
  have f5 := xrec_at hrc
  have f6 := @aamt_at false [rec0] kR0 (by decide)
  rw [show amtF kR0 0 [rec0] = 500 by kernel_rfl] at f6
  rw [send0] at f3
  rw [print0] at f4
  have e3 : x.ours = [rec0] := e3
  have e5 : y.theirs = [rec0] := by rw [← e1, e3]
  have hT : ((textF fil0).length : Int) > 10 := by have := text0; omega
  have hT := eq_true hT
  clear hrc e1 e2 e4
  generalize textF fil0 = T at *
  obtain ⟨x1, x2, x3, x4, x5, x6⟩ := x
  obtain ⟨y1, y2, y3, y4, y5, y6⟩ := y
  dsimp only at e3 e5
  subst e3 e5
  simp only [pr, prow, newP, ptn1, fil0, rec0, Fil.row, Rec.row, List.map_cons, List.map_nil] at f1 f2 f3 f4 f5 f6
  have hc := Nat.zero_add 0
  repeat' (first | simp only [hc, AS, Tryz.f5, NX, NPV, SX, f1, f2, f3, f4, f5, f6, hT, ZZ, simprocAttr, ↓reduceIte] | ((first | apply Za | apply Zb | apply Zc | apply Zd | apply Ze | apply Zf | apply Zg | apply Zh) <;> intro hc) | refine Zi ?_ | refine Zj ?_)
end
end Go.Ab
