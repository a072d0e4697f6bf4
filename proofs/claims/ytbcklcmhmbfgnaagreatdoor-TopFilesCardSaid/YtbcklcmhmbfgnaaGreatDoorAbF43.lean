/-
  Texts of the layer and of the laws, put together: AbTF11, AbTF12.
-/
import Derived.Test.YtbcklcmhmbfgnaaGreatDoorAbF42
set_option linter.unusedSimpArgs false
set_option linter.unusedVariables false
set_option maxRecDepth 100000
namespace Go.Ab
open Go.RowKit Go.Proofs
def paC (k : Nat) (p : Ptn) : List C1 := [.d (.str p.name), .d (.int .i64 p.out), .d (.int .i64 p.inn), .msl k p.wait.length, .d (.sl false (p.ours.map Rec.row)), .d (.sl false (p.theirs.map Rec.row))]
def encPi (q : Ptn × Int) : List PA := [.agg (pr q.1), .c (.int .i64 q.2)]
theorem encPi_inj (a b : Ptn × Int) (h : encPi a = encPi b) : a = b := by
  obtain ⟨a1, a2⟩ := a
  obtain ⟨b1, b2⟩ := b
  simp only [encPi, List.cons.injEq, DV.agg.injEq, DV.c.injEq, D.int.injEq, true_and, and_true] at h
  rw [pr_inj h.1, h.2]
noncomputable section
open Classical
def xfilesM_k : List AV → Hp → Option COut := kR flRl fun a => if LowH a.h ∧ flOk a.l then some (.ret (.v (.c (.msl a.h.length a.l.length))) (a.h ++ [.tok a.l.length 4 (some (fcd (a.l.map nf)))])) else none
def xpartnerA_k : List AV → Hp → Option COut := kR ptRl fun a => if LowH a.1 ∧ PtOk a.2 then some (.ret (.v (.agg (paC a.1.length a.2))) (a.1 ++ [.tok a.2.wait.length 4 (some (fcd a.2.wait))])) else none
def xack_m : List PA → Option (List PA) := mE encPi fun q => if PtOk q.1 then some [.agg (pr (ackF q.1 q.2).1), .i (ackF q.1 q.2).2] else none
theorem xfilesM_kok : ImpC Tryz.prog Gt 41 xfilesM_k := by
  intro args h out h0
  refine fok_of_awpSW (X := ctxN Tryz.prog Gt [(19, xcopied_m)] [] [] none (uL [33])) Tryz.func41 rfl rfl (by kernel_rfl) (by kernel_rfl) (kok_n (AllOk.cons xcopied_ok AllOk.nil) AllK.nil AllN.nil) ?_ ?_
  · obtain ⟨a, ⟨rfl, _⟩, _⟩ := kR_inv h0
    exact Nat.le_of_ble_eq_true rfl
  obtain ⟨⟨h', f, l⟩, ⟨rfl, rfl⟩, hg⟩ := kR_inv h0
  dsimp only at hg ⊢
  split at hg
  · rename_i hc
    obtain ⟨hh, hlen, hsn⟩ := hc
    cases hg
    have l1 := @lenFl l
    have hc := Nat.zero_add 0
    repeat' (first | simp only [hc, AS, Tryz.f41, NX, NPV, SX, HX, l1, ZZ, simprocAttr, ↓reduceIte] | ((first | apply Za | apply Zb | apply Zc | apply Zd | apply Ze | apply Zf | apply Zg | apply Zh) <;> intro hc) | refine Zi ?_ | refine Zj ?_)
    refine awpS_loop (σ := Nat) (fun j => j ≤ l.length) (fun j => ⟨[(8, AV.i j), (7, AV.i l.length), (6, AV.d (.sl f (l.map Fil.row))), (3, .v (.c (.msl h.length j)))], h ++ [.tok j 4 (some (fcd ((l.take j).map nf)))]⟩) (fun j => l.length - j) 0 ((Wk.msl 3 4 (by decide) (by simp [look])).trans (Wk.sub' (by simp [subT, look]) rfl)) (Nat.zero_le _) ?_
    intro j hj
    by_cases hjl : j < l.length
    · have hlt : ((j : Int) < (l.length : Int)) = True := eq_true (by omega)
      have e1 := fl_at hjl
      have hw := wI (n := (j : Int) + 1) (by omega) (by omega)
      have f1 := xcopied_at (x := l[j]) (hsn _ (List.getElem_mem hjl))
      have hnx : (l.take (j + 1)).map nf = (l.take j).map nf ++ [nf l[j]] := by rw [List.take_succ_eq_append_getElem hjl, List.map_append]; rfl
      have hs : fcd ((l.take j).map nf) ++ rowF (nf l[j]) = fcd ((l.take (j + 1)).map nf) := by rw [hnx, fcd_snoc]
      have hb1 : ((j + 1) * 64 ≤ 140737488355328) = True := eq_true (by omega)
      have hb2 : (j + 1 ≤ 4611686018427387904) = True := eq_true (by omega)
      clear hnx
      generalize hR1 : fcd ((l.take (j + 1)).map nf) = R1 at *
      generalize fcd ((l.take j).map nf) = R0 at *
      generalize l[j] = x at *
      obtain ⟨a1, a2, a3, a4, a5⟩ := x
      simp only [nf, Fil.row, rowF] at f1 hs
      have hc := Nat.zero_add 0
      repeat' (first | simp only [hc, AS, NX, NPV, SX, HX, l1, hlt, hw, nn, e1, f1, hb1, hb2, hs, ZZ, simprocAttr, ↓reduceIte] | ((first | apply Za | apply Zb | apply Zc | apply Zd | apply Ze | apply Zf | apply Zg | apply Zh) <;> intro hc) | refine Zi ?_ | refine Zj ?_)
      refine lp_next (j + 1) ?_ (by omega) (by omega)
      rw [hR1]
      exact Wk.backs [.tok (j + 1) 4 (some R1)] [_, _] hh (Nat.le_refl _) (by simp [subT, look]) (by simp [AV.low, V.low, C1.low]) (by rw [← hR1]; simp [Ob.low, fcd_low])
    have hlt : ((j : Int) < (l.length : Int)) = False := eq_false (by omega)
    rw [List.take_of_length_le (by omega)]
    have hjj : j = l.length := by omega
    subst hjj
    have hc := Nat.zero_add 0
    repeat' (first | simp only [hc, AS, NX, NPV, SX, HX, l1, hlt, ZZ, simprocAttr, ↓reduceIte] | ((first | apply Za | apply Zb | apply Zc | apply Zd | apply Ze | apply Zf | apply Zg | apply Zh) <;> intro hc) | refine Zi ?_ | refine Zj ?_)
    exact ⟨_, Wk.refl, [.c (.msl h.length l.length)], by simp [resAllV, resOneV, S.get, look, AV.one], by simp [resVV]⟩
  cases hg
theorem xfilesM_at {h : Hp} {f : Bool} {l : List Fil} (hh : LowH h) (hl : flOk l) : xfilesM_k [.v (.c (.d (.sl f (l.map Fil.row))))] h = some (.ret (.v (.c (.msl h.length l.length))) (h ++ [.tok l.length 4 (some (fcd (l.map nf)))])) :=
  (kR_eq (R := flRl) (g := fun a : FlA => if LowH a.h ∧ flOk a.l then some (COut.ret (.v (.c (.msl a.h.length a.l.length))) (a.h ++ [Ob.tok a.l.length 4 (some (fcd (a.l.map nf)))])) else none) (a := ⟨h, f, l⟩) (fun b hb => by rw [flRl_inj (a := ⟨_, _, _⟩) ⟨rfl, rfl⟩ hb]) ⟨rfl, rfl⟩).trans (if_pos ⟨hh, hl⟩)
set_option maxHeartbeats 2000000 in
theorem xpartnerA_kok : ImpC Tryz.prog Gt 18 xpartnerA_k := by
  intro args h out h0
  refine fok_of_awpSZ (X := ctxN Tryz.prog Gt [(42, clP_m)] [(41, xfilesM_k)] [] none (uL [33])) Tryz.func18 rfl rfl (by kernel_rfl) (by kernel_rfl) (kok_n (AllOk.cons clP_ok AllOk.nil) (AllK.cons xfilesM_kok AllK.nil) AllN.nil) ?_ ?_
  · obtain ⟨a, ⟨rfl, _⟩, _⟩ := kR_inv h0
    exact Nat.le_of_ble_eq_true rfl
  obtain ⟨⟨h', p⟩, ⟨rfl, rfl⟩, hg⟩ := kR_inv h0
  dsimp only at hg ⊢
  split at hg
  · rename_i hc
    obtain ⟨hh, hp⟩ := hc
    cases hg
    have hnf := hp.nf
    have hfl := hp.fl
    have b1 := hp.ours
    have b2 := hp.theirs
    clear hp
    obtain ⟨p1, p2, p3, p4, p5, p6⟩ := p
    dsimp only at hnf hfl b1 b2
    have f1 : ∀ (x y : List D), xfilesM_k [.v (.c (.d (.sl false (p4.map Fil.row))))] (h ++ [.box (x.map .d), .box (y.map .d)]) = some (.ret (.v (.c (.msl (h.length + 2) p4.length))) ((h ++ [.box (x.map .d), .box (y.map .d)]) ++ [.tok p4.length 4 (some (fcd p4))])) := fun x y => by
      have := xfilesM_at (h := h ++ [.box (x.map .d), .box (y.map .d)]) (f := false) (hh.app (by simp [Ob.low, C1.low])) hfl
      rw [hnf] at this
      simpa using this
    have f2 := clP_at (f := false) (l := p5) (by omega)
    have f3 := clP_at (f := false) (l := p6) (by omega)
    have f1' := f1 [.str p1, .int .i64 p2, .int .i64 p3, .sl false (p4.map Fil.row), .sl false (p5.map Rec.row), .sl false (p6.map Rec.row)] [.str [], .int .i64 0, .int .i64 0, .sl true [], .sl true [], .sl true []]
    simp only [List.map_cons, List.map_nil] at f1'
    have hc := Nat.zero_add 0
    repeat' (first | simp only [hc, AS, Tryz.f18, pr, prow, NX, NPV, RZ, SX, HX, List.map_cons, List.map_nil, f1', f2, f3, ZZ, simprocAttr, ↓reduceIte] | ((first | apply Za | apply Zb | apply Zc | apply Zd | apply Ze | apply Zf | apply Zg | apply Zh) <;> intro hc) | refine Zi ?_ | refine Zj ?_)
    refine ⟨[.agg (paC (h.length + 2) ⟨p1, p2, p3, p4, p5, p6⟩)], ?_, _, _, Wk.renk [2] rfl (Nat.le_refl _) hh (by decide) (g' := [.tok p4.length 4 (some (fcd p4))]) ?_ ?_ ?_ ?_, rfl⟩
    · simp only [resAllV, resOneV, S.get, look, AV.one, NX, SX, HX, ZZ, simprocAttr, ↓reduceIte]
      rfl
    · refine ⟨?_, trivial⟩
      show some _ = some (Ob.tok _ _ (some _))
      rw [C1.ren_all (m := 0) (fun i hi => by omega) fcd_low]
    · simp [subR, look, resVV, AV.ren, V.ren, C1.ren, paC, shf_add, shf_0]
    · simp [AV.low, V.low, C1.low, paC]
    simp [Ob.low, fcd_low]
  cases hg
theorem xpartnerA_at {h : Hp} {p : Ptn} (hh : LowH h) (hp : PtOk p) : xpartnerA_k [.v (.agg ((pr p).map .d))] h = some (.ret (.v (.agg (paC h.length p))) (h ++ [.tok p.wait.length 4 (some (fcd p.wait))])) :=
  (kR_eq (R := ptRl) (g := fun a : Hp × Ptn => if LowH a.1 ∧ PtOk a.2 then some (COut.ret (.v (.agg (paC a.1.length a.2))) (a.1 ++ [Ob.tok a.2.wait.length 4 (some (fcd a.2.wait))])) else none) (a := (h, p)) (fun b hb => by rw [ptRl_inj (a := (_, _)) ⟨rfl, rfl⟩ hb]) ⟨rfl, rfl⟩).trans (if_pos ⟨hh, hp⟩)
set_option maxHeartbeats 2000000 in
theorem xack_ok : PureC Tryz.prog Gt 44 xack_m := by
  refine pure_of_awpS (X := ctxN Tryz.prog Gt [] [(18, xpartnerA_k), (64, xdel_k)] [] none (uL [33])) Tryz.func44 rfl rfl (by kernel_rfl) (by kernel_rfl) (kok_n AllOk.nil (AllK.cons xpartnerA_kok (AllK.cons xdel_kok AllK.nil)) AllN.nil) ?_
  intro args r h0
  obtain ⟨⟨p, s⟩, rfl, h⟩ := mE_inv h0
  refine ⟨Nat.le_of_ble_eq_true rfl, ?_⟩
  split at h
  · rename_i hok
    dsimp only at hok h
    simp only [Option.some.injEq] at h
    have hw := hok.wait
    obtain ⟨p1, p2, p3, p4, p5, p6⟩ := p
    have f1 := fun (h : Hp) (hh : LowH h) => xpartnerA_at hh hok
    dsimp only at hw
    simp only [pr, prow, paC, List.map_cons, List.map_nil] at f1
    have hA : ackF ⟨p1, p2, p3, p4, p5, p6⟩ s = if s < 0 ∨ p2 ≤ s then (⟨p1, p2, p3, p4, p5, p6⟩, 31) else (⟨p1, p2, p3, keepF s p4, p5, p6⟩, 0) := rfl
    rw [hA] at h
    clear hA
    by_cases c1 : s < 0
    · rw [if_pos (.inl c1)] at h
      have c1' := eq_true c1
      have hc := Nat.zero_add 0
      repeat' (first | simp only [hc, AS, Tryz.f44, encPi, pr, prow, NX, NPV, SX, c1', ZZ, simprocAttr, ↓reduceIte] | ((first | apply Za | apply Zb | apply Zc | apply Zd | apply Ze | apply Zf | apply Zg | apply Zh) <;> intro hc) | refine Zi ?_ | refine Zj ?_)
      rw [← h]
      rfl
    have c1' := eq_false c1
    by_cases c2 : p2 ≤ s
    · rw [if_pos (.inr c2)] at h
      have c2' : (s ≥ p2) = True := eq_true c2
      have hc := Nat.zero_add 0
      repeat' (first | simp only [hc, AS, Tryz.f44, encPi, pr, prow, NX, NPV, SX, c1', c2', ZZ, simprocAttr, ↓reduceIte] | ((first | apply Za | apply Zb | apply Zc | apply Zd | apply Ze | apply Zf | apply Zg | apply Zh) <;> intro hc) | refine Zi ?_ | refine Zj ?_)
      rw [← h]
      rfl
    rw [if_neg (by omega)] at h
    have c2' : (s ≥ p2) = False := eq_false c2
    have f2 := f1 [.box [.d (.str p1), .d (.int .i64 p2), .d (.int .i64 p3), .d (.sl false (p4.map Fil.row)), .d (.sl false (p5.map Rec.row)), .d (.sl false (p6.map Rec.row))], .box [.d (.int .i64 s)], .box [.d (.str []), .d (.int .i64 0), .d (.int .i64 0), .d (.sl true []), .d (.sl true []), .d (.sl true [])]] (by simp [LowH, Ob.low, C1.low])
    simp only [List.length_cons, List.length_nil, Nat.zero_add, Nat.reduceAdd, List.cons_append, List.nil_append] at f2
    have f3 := xdel_at (h := [.box [.d (.str p1), .d (.int .i64 p2), .d (.int .i64 p3), .msl 3 p4.length, .d (.sl false (p5.map Rec.row)), .d (.sl false (p6.map Rec.row))], .box [.d (.int .i64 s)], .box [.d (.str []), .d (.int .i64 0), .d (.int .i64 0), .d (.sl true []), .d (.sl true []), .d (.sl true [])], .tok p4.length 4 (some (fcd p4))]) (id := 3) (bid := 1) (s := s) (l := p4) (by simp [LowH, Ob.low, C1.low, fcd_low]) (by omega) rfl rfl
    simp only [List.set_cons_succ, List.set_cons_zero] at f3
    generalize keepF s p4 = R at *
    have hc := Nat.zero_add 0
    repeat' (first | simp only [hc, AS, Tryz.f44, encPi, pr, prow, NX, NPV, NW, SX, c1', c2', f2, f3, ZZ, simprocAttr, ↓reduceIte] | ((first | apply Za | apply Zb | apply Zc | apply Zd | apply Ze | apply Zf | apply Zg | apply Zh) <;> intro hc) | refine Zi ?_ | refine Zj ?_)
    rw [← h]
    rfl
  cases h
theorem xack_at {p : Ptn} {s : Int} (h : PtOk p) : xack_m [.agg (pr p), .c (.int .i64 s)] = some [.agg (pr (ackF p s).1), .i (ackF p s).2] := by
  have := mE_eq encPi_inj (g := fun q => if PtOk q.1 then some [DV.agg (pr (ackF q.1 q.2).1), .i (ackF q.1 q.2).2] else none) (a := (p, s))
  exact this.trans (if_pos h)
end
end Go.Ab
namespace Go.Ab
open Go.RowKit Go.Proofs
def PtB (p : Ptn) : Prop := PtOk p ∧ 0 ≤ p.out ∧ p.out ≤ 1000000 ∧ 0 ≤ p.inn ∧ p.inn ≤ 1000000
def zfil : Fil := ⟨[], [], 0, true, []⟩
def sendO (p : Ptn) (fr : List UInt8) (l : List Rec) : Ptn × Fil × Int :=
  if checkF ⟨fr, p.name, p.out, false, l⟩ ≠ 0 then (p, zfil, checkF ⟨fr, p.name, p.out, false, l⟩)
  else if 1024 ≤ p.wait.length ∨ 1024 < p.ours.length + l.length then (p, zfil, 3)
  else ({ p with out := p.out + 1, wait := p.wait ++ [⟨fr, p.name, p.out, false, l⟩], ours := p.ours ++ l }, ⟨fr, p.name, p.out, false, l⟩, 0)
theorem send_iff {p : Ptn} {fr : List UInt8} {l : List Rec} : (sendO p fr l).2.2 = (sendF p fr l).2 ∧ ((sendO p fr l).2.2 = 0 → sendF p fr l = (some ((sendO p fr l).1, (sendO p fr l).2.1), 0)) := by
  unfold sendO sendF
  by_cases h1 : checkF ⟨fr, p.name, p.out, false, l⟩ ≠ 0
  · rw [if_pos h1, if_pos h1]
    exact ⟨rfl, fun h => absurd h h1⟩
  rw [if_neg h1, if_neg h1]
  by_cases h2 : 1024 ≤ p.wait.length ∨ 1024 < p.ours.length + l.length
  · rw [if_pos h2, if_pos h2]
    exact ⟨rfl, fun h => by cases h⟩
  rw [if_neg h2, if_neg h2]
  exact ⟨rfl, fun _ => rfl⟩
structure SdA where
  p : Ptn
  fr : List UInt8
  rf : Bool
  l : List Rec
def encSn (a : SdA) : List PA := [.agg (pr a.p), .c (.str a.fr), .c (.sl a.rf (a.l.map Rec.row))]
theorem encSn_inj (a b : SdA) (h : encSn a = encSn b) : a = b := by
  obtain ⟨a1, a2, a3, a4⟩ := a
  obtain ⟨b1, b2, b3, b4⟩ := b
  simp only [encSn, List.cons.injEq, DV.agg.injEq, DV.c.injEq, D.str.injEq, D.sl.injEq, and_true] at h
  rw [pr_inj h.1, h.2.1, h.2.2.1, mapR_inj.1 h.2.2.2]
def SdOk (a : SdA) : Prop := PtB a.p ∧ Fil.Ok ⟨a.fr, a.p.name, a.p.out, a.rf, a.l⟩
def encRv (a : Ptn × Fil) : List PA := [.agg (pr a.1), .agg a.2.row]
theorem encRv_inj (a b : Ptn × Fil) (h : encRv a = encRv b) : a = b := by
  obtain ⟨a1, a2⟩ := a
  obtain ⟨b1, b2⟩ := b
  simp only [encRv, List.cons.injEq, DV.agg.injEq, and_true] at h
  rw [pr_inj h.1, Fil.inj _ _ h.2]
noncomputable section
open Classical
def xsend_m : List PA → Option (List PA) := mE encSn fun a => if SdOk a then some [.agg (pr (sendO a.p a.fr a.l).1), .agg (sendO a.p a.fr a.l).2.1.row, .i (sendO a.p a.fr a.l).2.2] else none
def xrecv_m : List PA → Option (List PA) := mE encRv fun a => if PtB a.1 ∧ a.2.Ok then some [.agg (pr (recvF a.1 a.2).1), .i (recvF a.1 a.2).2] else none
set_option maxHeartbeats 4000000 in
theorem xsend_ok : PureC Tryz.prog Gt 7 xsend_m := by
  refine pure_of_awpS (X := ctxN Tryz.prog Gt [(17, acheck_m), (19, xcopied_m)] [(18, xpartner_k)] [] none) Tryz.func7 rfl rfl (by kernel_rfl) (by kernel_rfl) (kok_n (AllOk.cons acheck_ok (AllOk.cons xcopied_ok AllOk.nil)) (AllK.cons xpartner_kok AllK.nil) AllN.nil) ?_
  intro args r h0
  obtain ⟨⟨p, fr, rf, l⟩, rfl, h⟩ := mE_inv h0
  refine ⟨Nat.le_of_ble_eq_true rfl, ?_⟩
  split at h
  · rename_i hok
    obtain ⟨⟨hp, b1, b2, _⟩, hf⟩ := hok
    dsimp only at hp b1 b2 hf h
    simp only [Option.some.injEq] at h
    have f1 := acheck_at hf
    have f2 := xcopied_at (x := ⟨fr, p.name, p.out, rf, l⟩) (by have := hf.1; dsimp only at *; omega)
    have f3 := fun (h : Hp) (hh : LowH h) => xpartner_at hh hp
    have hw := hp.wait
    have ho := hp.ours
    have hl := hf.1
    dsimp only at hl
    rw [show checkF ⟨fr, p.name, p.out, rf, l⟩ = checkF ⟨fr, p.name, p.out, false, l⟩ from rfl] at f1
    have hS : sendO p fr l = if checkF ⟨fr, p.name, p.out, false, l⟩ ≠ 0 then (p, zfil, checkF ⟨fr, p.name, p.out, false, l⟩)
      else if 1024 ≤ p.wait.length ∨ 1024 < p.ours.length + l.length then (p, zfil, 3)
      else ({ p with out := p.out + 1, wait := p.wait ++ [⟨fr, p.name, p.out, false, l⟩], ours := p.ours ++ l }, ⟨fr, p.name, p.out, false, l⟩, 0) := rfl
    clear hp hf
    obtain ⟨p1, p2, p3, p4, p5, p6⟩ := p
    dsimp only at f1 f2 f3 hS hw ho b1 b2
    simp only [pr, prow, ptC, ptH, Fil.row, nf, List.map_cons, List.map_nil] at f1 f2 f3
    generalize checkF ⟨fr, p1, p2, false, l⟩ = C at *
    generalize sendO ⟨p1, p2, p3, p4, p5, p6⟩ fr l = R at *
    by_cases hC : C = 0
    · subst hC
      rw [if_neg (by simp)] at hS
      have l4 := @lenFl p4
      have l5 := @lenRc p5
      have l6 := @lenRc l
      have w1 := wI (n := (p5.length : Int) + l.length) (by omega) (by omega)
      have w2 := wI (n := p2 + 1) (by omega) (by omega)
      by_cases c1 : 1024 ≤ p4.length
      · have c1' : ((p4.length : Int) ≥ 1024) = True := eq_true (by omega)
        rw [if_pos (.inl c1)] at hS
        subst hS
        have hc := Nat.zero_add 0
        repeat' (first | simp only [hc, AS, Tryz.f7, encSn, pr, prow, NX, NPV, SX, f1, l4, c1', ZZ, simprocAttr, ↓reduceIte] | ((first | apply Za | apply Zb | apply Zc | apply Zd | apply Ze | apply Zf | apply Zg | apply Zh) <;> intro hc) | refine Zi ?_ | refine Zj ?_)
        rw [← h]
        rfl
      have c1' : ((p4.length : Int) ≥ 1024) = False := eq_false (by omega)
      by_cases c2 : 1024 < p5.length + l.length
      · have c2' : ((p5.length : Int) + l.length > 1024) = True := eq_true (by omega)
        rw [if_pos (.inr c2)] at hS
        subst hS
        have hc := Nat.zero_add 0
        repeat' (first | simp only [hc, AS, Tryz.f7, encSn, pr, prow, NX, NPV, SX, f1, l4, l5, l6, w1, c1', c2', ZZ, simprocAttr, ↓reduceIte] | ((first | apply Za | apply Zb | apply Zc | apply Zd | apply Ze | apply Zf | apply Zg | apply Zh) <;> intro hc) | refine Zi ?_ | refine Zj ?_)
        rw [← h]
        rfl
      have c2' : ((p5.length : Int) + l.length > 1024) = False := eq_false (by omega)
      rw [if_neg (by omega)] at hS
      subst hS
      have f4 := f3 [.box [.d (.str p1), .d (.int .i64 p2), .d (.int .i64 p3), .d (.sl false (p4.map Fil.row)), .d (.sl false (p5.map Rec.row)), .d (.sl false (p6.map Rec.row))], .box [.d (.str []), .d (.int .i64 0), .d (.int .i64 0), .d (.sl true []), .d (.sl true []), .d (.sl true [])], .box [.d (.str []), .d (.str []), .d (.int .i64 0), .d (.sl true [])], .box [.d (.str fr), .d (.str p1), .d (.int .i64 p2), .d (.sl rf (l.map Rec.row))]] (by simp [LowH, Ob.low, C1.low])
      simp only [List.length_cons, List.length_nil, Nat.zero_add, Nat.reduceAdd, List.cons_append, List.nil_append] at f4
      have ap1 : ∀ g : Hp, apTok g 4 4 64 (p4.map Fil.row) [[.str fr, .str p1, .int .i64 p2, .sl false (l.map Rec.row)]] (some (.tok p4.length 4 none)) = some (.v (.c (.own 4 ((p4 ++ [(⟨fr, p1, p2, false, l⟩ : Fil)]).map Fil.row))), g.set 4 (.tok (p4.length + 1) 4 none)) := fun g => by
        rw [apTok_ok (eq_true (by simp)) (eq_true (by simp [allLen])) (eq_true (by simp; omega)) (eq_true (by simp; omega)), List.map_append, List.length_map]
        rfl
      have ap2 : ∀ g : Hp, apTok g 5 5 48 (p5.map Rec.row) (l.map Rec.row) (some (.tok p5.length 5 none)) = some (.v (.c (.own 5 ((p5 ++ l).map Rec.row))), g.set 5 (.tok (p5.length + l.length) 5 none)) := fun g => by
        rw [apTok_ok (eq_true (by simp)) (eq_true allLen_rc) (eq_true (by simp; omega)) (eq_true (by simp; omega)), List.map_append, List.length_map, List.length_map]
      generalize hW : (p4 ++ [(⟨fr, p1, p2, false, l⟩ : Fil)]).map Fil.row = W at *
      generalize hO : (p5 ++ l).map Rec.row = O at *
      have hc := Nat.zero_add 0
      repeat' (first | simp only [hc, AS, Tryz.f7, encSn, pr, prow, NX, NPV, SX, f1, f2, f4, l4, l5, l6, w1, w2, c1', c2', ap1, ap2, ZZ, simprocAttr, ↓reduceIte] | ((first | apply Za | apply Zb | apply Zc | apply Zd | apply Ze | apply Zf | apply Zg | apply Zh) <;> intro hc) | refine Zi ?_ | refine Zj ?_)
      rw [← h]
      simp only [pr, prow, hW, hO]
      rfl
    have hC' := eq_false hC
    rw [if_pos hC] at hS
    subst hS
    have hc := Nat.zero_add 0
    repeat' (first | simp only [hc, AS, Tryz.f7, encSn, pr, prow, NX, NPV, SX, f1, hC', ZZ, simprocAttr, ↓reduceIte] | ((first | apply Za | apply Zb | apply Zc | apply Zd | apply Ze | apply Zf | apply Zg | apply Zh) <;> intro hc) | refine Zi ?_ | refine Zj ?_)
    rw [← h]
    rfl
  cases h
theorem xsend_at {p : Ptn} {fr : List UInt8} {rf : Bool} {l : List Rec} (h : SdOk ⟨p, fr, rf, l⟩) : xsend_m [.agg (pr p), .c (.str fr), .c (.sl rf (l.map Rec.row))] = some [.agg (pr (sendO p fr l).1), .agg (sendO p fr l).2.1.row, .i (sendO p fr l).2.2] := by
  have := mE_eq encSn_inj (g := fun a => if SdOk a then some [DV.agg (pr (sendO a.p a.fr a.l).1), .agg (sendO a.p a.fr a.l).2.1.row, .i (sendO a.p a.fr a.l).2.2] else none) (a := ⟨p, fr, rf, l⟩)
  exact this.trans (if_pos h)
end
end Go.Ab
