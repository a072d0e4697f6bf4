/-
  Texts of the layer and of the laws, put together: AbF31, AbF32. No law is stated here.
-/
import Derived.Test.YteeepgnhkfmnaaaDoorAbVol40
set_option linter.unusedSimpArgs false
set_option linter.unusedVariables false
set_option maxRecDepth 100000

/-
  The reference's Decoder.
-/
namespace Go.Ab
open Go.RowKit Go.Proofs

/-- A field decoded, up to the first error. -/
def decN (b : List UInt8) (p er : Int) : Int × Int × Int := if er = 0 then decI b p else (0, p, er)
def decX (b : List UInt8) (p er : Int) : List UInt8 × Int × Int := if er = 0 then decT b p else ([], p, er)
abbrev dcdB (f : Bool) (b : List UInt8) (p er : Int) : Ob := .box [.d (.sl f (b.map rowB)), .d (.int .i64 p), .d (.int .i64 er)]

noncomputable section
open Classical

structure DcB where
  h : Hp
  id : Nat
  f : Bool
  b : List UInt8
  n : Int
  e : Int
def dcbR (a : DcB) (args : List AV) (h : Hp) : Prop := args = [.v (.c (.ptr a.id 0))] ∧ h = a.h ∧ a.h[a.id]? = some (dcdB a.f a.b a.n a.e)
theorem dcbR_inj {a b : DcB} {args : List AV} {h : Hp} (ha : dcbR a args h) (hb : dcbR b args h) : b = a := by
  obtain ⟨a1, a2, a3, a4, a5, a6⟩ := a
  obtain ⟨b1, b2, b3, b4, b5, b6⟩ := b
  obtain ⟨h1, h2, h3⟩ := ha
  obtain ⟨g1, g2, g3⟩ := hb
  dsimp only at *
  subst h2 g2
  rw [h1] at g1
  simp only [List.cons.injEq, AV.v.injEq, V.c.injEq, C1.ptr.injEq, and_true] at g1
  subst g1
  rw [h3] at g3
  simp only [Option.some.injEq, Ob.box.injEq, List.cons.injEq, C1.d.injEq, D.sl.injEq, D.int.injEq, and_true, true_and] at g3
  obtain ⟨⟨g4, g5⟩, g6, g7⟩ := g3
  rw [g4, mapB_inj.1 g5, g6, g7]

def dnum_k : List AV → Hp → Option COut := kR dcbR fun a => if a.b.length ≤ 1000000 then some (.ret (AV.i (decN a.b a.n a.e).1) (a.h.set a.id (dcdB a.f a.b (decN a.b a.n a.e).2.1 (decN a.b a.n a.e).2.2))) else none
def dtxt_k : List AV → Hp → Option COut := kR dcbR fun a => if a.b.length ≤ 1000000 then some (.ret (AV.s (decX a.b a.n a.e).1) (a.h.set a.id (dcdB a.f a.b (decX a.b a.n a.e).2.1 (decX a.b a.n a.e).2.2))) else none

theorem set_self {h : Hp} {id : Nat} {o : Ob} (hid : h[id]? = some o) : h.set id o = h := List.ext_getElem? fun j => by
  rw [List.getElem?_set]
  split
  · rename_i e
    subst e
    rw [hid, if_pos (lt_of_get hid)]
  · rfl

theorem dnum_kok : ImpC Tryd.prog Gt 46 dnum_k := by
  intro args h out h0
  refine fok_of_awpSW (X := ctxN Tryd.prog Gt [(63, r2int_m)] [] [] none) Tryd.func46 rfl rfl (by kernel_rfl) (by kernel_rfl) (kok_n (AllOk.cons r2int_ok AllOk.nil) AllK.nil AllN.nil) ?_ ?_
  · obtain ⟨a, ⟨rfl, _⟩, _⟩ := kR_inv h0
    exact Nat.le_of_ble_eq_true rfl
  obtain ⟨⟨h', id, f, b, n, e⟩, ⟨rfl, rfl, hid⟩, hg⟩ := kR_inv h0
  dsimp only at hid hg ⊢
  split at hg
  · rename_i hb
    have hidl := lt_of_get hid
    simp only [Option.some.injEq] at hg
    have hrow : ∀ o, (h.set id o)[id]? = some o := fun o => by simp [hidl]
    have hss : ∀ o o', (h.set id o).set id o' = h.set id o' := fun o o' => by rw [List.set_set]
    by_cases he : e = 0
    · subst he
      have g1 := r2int_at (f := f) (b := b) (p := n) hb
      have hD : decN b n 0 = decI b n := if_pos rfl
      rw [hD] at hg
      generalize decI b n = d at *
      obtain ⟨v, m, er⟩ := d
      dsimp only at hg g1
      subst hg
      have hc := Nat.zero_add 0
      repeat' (first | simp only [hc, AS, Tryd.f46, NX, NPV, SX, HX, hid, g1, hrow, hss, AB, PL, RG, LP, TY, simprocAttr, ↓reduceIte, forall_const, eq_self, ne_eq, Option.some.injEq, beq_self_eq_true] | ((first | apply fin_ndec | apply fin_dec | apply cnd_ndec | apply cnd_dec' | apply fin_nsplit | apply fin_split | apply cnd_nsplit | apply cnd_split) <;> intro hc) | refine seqS_id ?_ | refine blk_exit_id ?_)
      exact ⟨_, Wk.refl, [.c (.d (.int .i64 v))], by simp [resAllV, resOneV, S.get, look, AV.one], by simp [resVV]⟩
    · have he' := eq_false he
      have hD : decN b n e = (0, n, e) := if_neg he
      rw [hD] at hg
      dsimp only at hg
      rw [set_self hid] at hg
      subst hg
      have hc := Nat.zero_add 0
      repeat' (first | simp only [hc, AS, Tryd.f46, NX, NPV, SX, HX, hid, he', AB, PL, RG, LP, TY, simprocAttr, ↓reduceIte, forall_const, eq_self, ne_eq, Option.some.injEq, beq_self_eq_true] | ((first | apply fin_ndec | apply fin_dec | apply cnd_ndec | apply cnd_dec' | apply fin_nsplit | apply fin_split | apply cnd_nsplit | apply cnd_split) <;> intro hc) | refine seqS_id ?_ | refine blk_exit_id ?_)
      exact ⟨_, Wk.refl, [.c (.d (.int .i64 0))], by simp [resAllV, resOneV, S.get, look, AV.one], by simp [resVV]⟩
  · cases hg

theorem dtxt_kok : ImpC Tryd.prog Gt 47 dtxt_k := by
  intro args h out h0
  refine fok_of_awpSW (X := ctxN Tryd.prog Gt [(64, r2txt_m)] [] [] none) Tryd.func47 rfl rfl (by kernel_rfl) (by kernel_rfl) (kok_n (AllOk.cons r2txt_ok AllOk.nil) AllK.nil AllN.nil) ?_ ?_
  · obtain ⟨a, ⟨rfl, _⟩, _⟩ := kR_inv h0
    exact Nat.le_of_ble_eq_true rfl
  obtain ⟨⟨h', id, f, b, n, e⟩, ⟨rfl, rfl, hid⟩, hg⟩ := kR_inv h0
  dsimp only at hid hg ⊢
  split at hg
  · rename_i hb
    have hidl := lt_of_get hid
    simp only [Option.some.injEq] at hg
    have hrow : ∀ o, (h.set id o)[id]? = some o := fun o => by simp [hidl]
    have hss : ∀ o o', (h.set id o).set id o' = h.set id o' := fun o o' => by rw [List.set_set]
    by_cases he : e = 0
    · subst he
      have g1 := r2txt_at (f := f) (b := b) (p := n) hb
      have hD : decX b n 0 = decT b n := if_pos rfl
      rw [hD] at hg
      generalize decT b n = d at *
      obtain ⟨v, m, er⟩ := d
      dsimp only at hg g1
      subst hg
      have hc := Nat.zero_add 0
      repeat' (first | simp only [hc, AS, Tryd.f47, NX, NPV, SX, HX, hid, g1, hrow, hss, AB, PL, RG, LP, TY, simprocAttr, ↓reduceIte, forall_const, eq_self, ne_eq, Option.some.injEq, beq_self_eq_true] | ((first | apply fin_ndec | apply fin_dec | apply cnd_ndec | apply cnd_dec' | apply fin_nsplit | apply fin_split | apply cnd_nsplit | apply cnd_split) <;> intro hc) | refine seqS_id ?_ | refine blk_exit_id ?_)
      exact ⟨_, Wk.refl, [.c (.d (.str v))], by simp [resAllV, resOneV, S.get, look, AV.one], by simp [resVV]⟩
    · have he' := eq_false he
      have hD : decX b n e = ([], n, e) := if_neg he
      rw [hD] at hg
      dsimp only at hg
      rw [set_self hid] at hg
      subst hg
      have hc := Nat.zero_add 0
      repeat' (first | simp only [hc, AS, Tryd.f47, NX, NPV, SX, HX, hid, he', AB, PL, RG, LP, TY, simprocAttr, ↓reduceIte, forall_const, eq_self, ne_eq, Option.some.injEq, beq_self_eq_true] | ((first | apply fin_ndec | apply fin_dec | apply cnd_ndec | apply cnd_dec' | apply fin_nsplit | apply fin_split | apply cnd_nsplit | apply cnd_split) <;> intro hc) | refine seqS_id ?_ | refine blk_exit_id ?_)
      exact ⟨_, Wk.refl, [.c (.d (.str []))], by simp [resAllV, resOneV, S.get, look, AV.one], by simp [resVV]⟩
  · cases hg
theorem dnum_at {h : Hp} {id : Nat} {f : Bool} {b : List UInt8} {n e v m k : Int} (h1 : h[id]? = some (dcdB f b n e)) (h2 : b.length ≤ 1000000) (h3 : decN b n e = (v, m, k)) :
    dnum_k [.v (.c (.ptr id 0))] h = some (.ret (AV.i v) (h.set id (dcdB f b m k))) := by
  have := kR_eq (R := dcbR) (g := fun a : DcB => if a.b.length ≤ 1000000 then some (COut.ret (AV.i (decN a.b a.n a.e).1) (a.h.set a.id (dcdB a.f a.b (decN a.b a.n a.e).2.1 (decN a.b a.n a.e).2.2))) else none) (a := ⟨h, id, f, b, n, e⟩)
    (args := [.v (.c (.ptr id 0))]) (h := h) (fun b' hb => by rw [dcbR_inj (a := ⟨h, id, f, b, n, e⟩) ⟨rfl, rfl, h1⟩ hb]) ⟨rfl, rfl, h1⟩
  dsimp only at this
  rw [if_pos h2, h3] at this
  exact this
theorem dtxt_at {h : Hp} {id : Nat} {f : Bool} {b : List UInt8} {n e m k : Int} {v : List UInt8} (h1 : h[id]? = some (dcdB f b n e)) (h2 : b.length ≤ 1000000) (h3 : decX b n e = (v, m, k)) :
    dtxt_k [.v (.c (.ptr id 0))] h = some (.ret (AV.s v) (h.set id (dcdB f b m k))) := by
  have := kR_eq (R := dcbR) (g := fun a : DcB => if a.b.length ≤ 1000000 then some (COut.ret (AV.s (decX a.b a.n a.e).1) (a.h.set a.id (dcdB a.f a.b (decX a.b a.n a.e).2.1 (decX a.b a.n a.e).2.2))) else none) (a := ⟨h, id, f, b, n, e⟩)
    (args := [.v (.c (.ptr id 0))]) (h := h) (fun b' hb => by rw [dcbR_inj (a := ⟨h, id, f, b, n, e⟩) ⟨rfl, rfl, h1⟩ hb]) ⟨rfl, rfl, h1⟩
  dsimp only at this
  rw [if_pos h2, h3] at this
  exact this

end
end Go.Ab

/-
  The reference's Get; law Gets. Printed by tools/genf32.py.
-/
namespace Go.Ab
open Go.RowKit Go.Proofs

/-- The fields of an event decoded by the reference: behind the first error nothing is read. -/
def readR (b : List UInt8) : List Fld → Evt → Int → Int → Evt × Int × Int
  | [], e, n, er => (e, n, er)
  | p :: r, e, n, er => if p.1 = true then readR b r (setE e p.2 (decX b n er).1 0) (decX b n er).2.1 (decX b n er).2.2
    else readR b r (setE e p.2 [] (decN b n er).1) (decN b n er).2.1 (decN b n er).2.2
def endR (x : Evt × Int × Int) : Evt × Int × Int := if x.2.2 = 0 then (if rightE x.1 = true then (x.1, x.2.1, 0) else (zEvt 0, 0, 1)) else (zEvt 0, 0, x.2.2)
theorem readR_err {b : List UInt8} : ∀ {F : List Fld} {e : Evt} {n er : Int}, er ≠ 0 → (readR b F e n er).2.2 = er
  | [], e, n, er, _ => rfl
  | p :: F, e, n, er, h => by
    rw [readR]
    split
    · have : decX b n er = ([], n, er) := if_neg h
      rw [this]
      exact readR_err h
    · have : decN b n er = (0, n, er) := if_neg h
      rw [this]
      exact readR_err h
theorem readR_fl {b : List UInt8} : ∀ {F : List Fld} {e : Evt} {n : Int}, match readFl b F e n with | .ok (e', m) => readR b F e n 0 = (e', m, 0) | .error k => (readR b F e n 0).2.2 = k ∧ k ≠ 0
  | [], e, n => rfl
  | p :: F, e, n => by
    rw [readFl, readR]
    have h1 : decX b n 0 = decT b n := if_pos rfl
    have h2 : decN b n 0 = decI b n := if_pos rfl
    rw [h1, h2]
    by_cases ht : p.1 = true
    · rw [if_pos ht, if_pos ht]
      by_cases hz : (decT b n).2.2 = 0
      · rw [if_pos hz, hz]
        exact readR_fl
      · rw [if_neg hz]
        exact ⟨readR_err hz, hz⟩
    · rw [if_neg ht, if_neg ht]
      by_cases hz : (decI b n).2.2 = 0
      · rw [if_pos hz, hz]
        exact readR_fl
      · rw [if_neg hz]
        exact ⟨readR_err hz, hz⟩
theorem getE_R {b : List UInt8} {p v n : Int} (h : decI b p = (v, n, 0)) (hk : kindB v = true) : getE b p = endR (readR b (fldK v) (zEvt v) n 0) := by
  unfold getE readE
  rw [h]
  dsimp only
  rw [if_pos rfl, if_pos hk]
  have := @readR_fl b (fldK v) (zEvt v) n
  cases hF : readFl b (fldK v) (zEvt v) n with
  | error k =>
    rw [hF] at this
    obtain ⟨h1, h2⟩ := this
    unfold okRd endR
    dsimp only
    rw [if_neg (by rw [h1]; exact h2), h1]
  | ok q =>
    obtain ⟨e, m⟩ := q
    rw [hF] at this
    dsimp only at this
    rw [this]
    unfold okRd endR
    dsimp only
    rw [if_pos rfl]
    by_cases hr : rightE e = true
    · rw [if_pos hr, if_pos hr]
    · rw [if_neg hr, if_neg hr]
theorem decI_zero {b : List UInt8} {p v n er : Int} (h : decI b p = (v, n, er)) (he : er ≠ 0) : v = 0 := by
  unfold decI at h
  split at h
  · cases h; rfl
  · split at h
    · cases h; rfl
    · cases h
      exact absurd rfl he

noncomputable section
open Classical

abbrev treeGR : Tr := .run [0, 1] (.br 2 (.run [3, 4, 5] .fin) 3 (.run [2, 4, 5] .fin))
def r6get_m : List PA → Option (List PA) := mE encBI fun p => if p.1.2.length ≤ 1000000 then some [.agg (getE p.1.2 p.2).1.row, .i (getE p.1.2 p.2).2.1, .i (getE p.1.2 p.2).2.2] else none

set_option maxHeartbeats 4000000 in
theorem r6get_ok : PureC Tryd.prog Gt 24 r6get_m := by
  refine pure_of_awpS (X := ctxN Tryd.prog Gt [(13, r6right_m)] [(46, dnum_k), (47, dtxt_k)] [] none (uL []) (uL [27, 30])) Tryd.func24 rfl rfl (by kernel_rfl) (by kernel_rfl) (kok_n (AllOk.cons r6right_ok AllOk.nil) (AllK.cons dnum_kok (AllK.cons dtxt_kok AllK.nil)) AllN.nil) ?_
  intro args r h0
  obtain ⟨⟨⟨f, b⟩, p⟩, rfl, h⟩ := mE_inv h0
  refine ⟨Nat.le_of_ble_eq_true rfl, ?_⟩
  split at h
  · rename_i hb
    simp only [Option.some.injEq] at h
    have hN : decN b p 0 = decI b p := if_pos rfl
    have hg0 : ∀ k n, decI b p = (k, n, 0) → kindB k = true → getE b p = endR (readR b (fldK k) (zEvt k) n 0) := fun k n h1 h2 => getE_R h1 h2
    have hz0 : ∀ k n er, decI b p = (k, n, er) → er ≠ 0 → k = 0 := fun k n er h1 h2 => decI_zero h1 h2
    have hG : getE b p = getE b p := rfl
    conv at hG => rhs; unfold getE readE
    generalize hq0 : decI b p = d0 at *
    obtain ⟨k, n0, e0⟩ := d0
    have g0 : ∀ A, dnum_k [.v (.c (.ptr 1 0))] [A, dcdB f b p 0] = some (.ret (AV.i k) [A, dcdB f b n0 e0]) := fun A => dnum_at rfl hb hN
    by_cases he : e0 = 0
    · subst he
      have hg0 := hg0 k n0 rfl
      by_cases hk : kindB k = true
      · have hg0 := hg0 hk
        rw [hg0] at h
        clear hg0 hG hz0 hq0
        rcases kind_cases hk with rfl | rfl | rfl | rfl | rfl
        · skip
          generalize hq1 : decX b n0 0 = d1 at *
          obtain ⟨x1, n1, e1⟩ := d1
          have g1 : ∀ A C, dtxt_k [.v (.c (.ptr 1 0))] [A, dcdB f b n0 0, C] = some (.ret (AV.s x1) [A, dcdB f b n1 e1, C]) := fun A C => dtxt_at rfl hb hq1
          generalize hq2 : decN b n1 e1 = d2 at *
          obtain ⟨x2, n2, e2⟩ := d2
          have g2 : ∀ A C, dnum_k [.v (.c (.ptr 1 0))] [A, dcdB f b n1 e1, C] = some (.ret (AV.i x2) [A, dcdB f b n2 e2, C]) := fun A C => dnum_at rfl hb hq2
          generalize hq3 : decN b n2 e2 = d3 at *
          obtain ⟨x3, n3, e3⟩ := d3
          have g3 : ∀ A C, dnum_k [.v (.c (.ptr 1 0))] [A, dcdB f b n2 e2, C] = some (.ret (AV.i x3) [A, dcdB f b n3 e3, C]) := fun A C => dnum_at rfl hb hq3
          generalize hq4 : decX b n3 e3 = d4 at *
          obtain ⟨x4, n4, e4⟩ := d4
          have g4 : ∀ A C, dtxt_k [.v (.c (.ptr 1 0))] [A, dcdB f b n3 e3, C] = some (.ret (AV.s x4) [A, dcdB f b n4 e4, C]) := fun A C => dtxt_at rfl hb hq4
          generalize hq5 : decX b n4 e4 = d5 at *
          obtain ⟨x5, n5, e5⟩ := d5
          have g5 : ∀ A C, dtxt_k [.v (.c (.ptr 1 0))] [A, dcdB f b n4 e4, C] = some (.ret (AV.s x5) [A, dcdB f b n5 e5, C]) := fun A C => dtxt_at rfl hb hq5
          generalize hq6 : decN b n5 e5 = d6 at *
          obtain ⟨x6, n6, e6⟩ := d6
          have g6 : ∀ A C, dnum_k [.v (.c (.ptr 1 0))] [A, dcdB f b n5 e5, C] = some (.ret (AV.i x6) [A, dcdB f b n6 e6, C]) := fun A C => dnum_at rfl hb hq6
          generalize hq7 : decN b n6 e6 = d7 at *
          obtain ⟨x7, n7, e7⟩ := d7
          have g7 : ∀ A C, dnum_k [.v (.c (.ptr 1 0))] [A, dcdB f b n6 e6, C] = some (.ret (AV.i x7) [A, dcdB f b n7 e7, C]) := fun A C => dnum_at rfl hb hq7
          have hS : readR b (fldK 1) (zEvt 1) n0 0 = ((⟨1, x1, x2, x3, x4, x5, x6, x7, 0, [], [], 0, 0, 0, [], 0⟩ : Evt), n7, e7) := by
            show readR b [(true, 1), (false, 2), (false, 3), (true, 4), (true, 5), (false, 6), (false, 7)] (zEvt 1) n0 0 = _
            simp only [readR, if_true, Bool.false_eq_true, if_false, hq1, hq2, hq3, hq4, hq5, hq6, hq7]
            rfl
          rw [hS] at h
          have gr := @r6right_at (⟨1, x1, x2, x3, x4, x5, x6, x7, 0, [], [], 0, 0, 0, [], 0⟩ : Evt)
          generalize hr : rightE (⟨1, x1, x2, x3, x4, x5, x6, x7, 0, [], [], 0, 0, 0, [], 0⟩ : Evt) = rr at *
          unfold endR at h
          dsimp only at h
          simp only [Evt.row] at gr
          by_cases hfin : e7 = 0
          · subst hfin
            rw [if_pos rfl, hr] at h
            cases rr with
            | true =>
              rw [if_pos rfl] at h
              subst h
              have hc := Nat.zero_add 0
              repeat' (first | simp only [hc, AS, Tryd.f24, encBI, NX, NPV, SX, NW, HX, g0, g1, g2, g3, g4, g5, g6, g7, gr, zRow0_eq, AB, PL, RG, LP, TY, simprocAttr, ↓reduceIte, forall_const, eq_self, ne_eq, Option.some.injEq, beq_self_eq_true] | ((first | apply fin_ndec | apply fin_dec | apply cnd_ndec | apply cnd_dec' | apply fin_nsplit | apply fin_split | apply cnd_nsplit | apply cnd_split) <;> intro hc) | refine seqS_id ?_ | refine blk_exit_id ?_)
              refine awp_fork treeGR ⟨[(4, .v (.c (.ptr 0 0))), (5, AV.i n7), (6, AV.i 0)], [.box ((Evt.row ⟨1, x1, x2, x3, x4, x5, x6, x7, 0, [], [], 0, 0, 0, [], 0⟩).map .d), dcdB f b n7 0, .box ((Evt.row ⟨1, x1, x2, x3, x4, x5, x6, x7, 0, [], [], 0, 0, 0, [], 0⟩).map .d)]⟩ ⟨[(4, .v (.c (.ptr 0 0))), (5, AV.i n7), (6, AV.i 0)], [.box ((Evt.row ⟨1, x1, x2, x3, x4, x5, x6, x7, 0, [], [], 0, 0, 0, [], 0⟩).map .d), dcdB f b n7 0, .box ((Evt.row ⟨1, x1, x2, x3, x4, x5, x6, x7, 0, [], [], 0, 0, 0, [], 0⟩).map .d)]⟩ rfl (by kernel_rfl) ?_ ?_ ?_
              · skip
                have hc := Nat.zero_add 0
                repeat' (first | simp only [hc, AS, treeGR, TRE, NX, NPV, NW, SX, HX, AB, PL, RG, LP, TY, simprocAttr, ↓reduceIte, forall_const, eq_self, ne_eq, Option.some.injEq, beq_self_eq_true] | ((first | apply fin_ndec | apply fin_dec | apply cnd_ndec | apply cnd_dec' | apply fin_nsplit | apply fin_split | apply cnd_nsplit | apply cnd_split) <;> intro hc) | refine seqS_id ?_ | refine blk_exit_id ?_)
                constructor <;> exact .inl (Wk.sub' (by simp [subT, look]) rfl)
              all_goals
                have hc := Nat.zero_add 0
                repeat' (first | simp only [hc, AS, NX, NPV, NW, SX, HX, Evt.row, List.map_cons, List.map_nil, AB, PL, RG, LP, TY, simprocAttr, ↓reduceIte, forall_const, eq_self, ne_eq, Option.some.injEq, beq_self_eq_true] | ((first | apply fin_ndec | apply fin_dec | apply cnd_ndec | apply cnd_dec' | apply fin_nsplit | apply fin_split | apply cnd_nsplit | apply cnd_split) <;> intro hc) | refine seqS_id ?_ | refine blk_exit_id ?_)
                all_goals rfl
            | false =>
              rw [if_neg (by simp)] at h
              subst h
              have hc := Nat.zero_add 0
              repeat' (first | simp only [hc, AS, Tryd.f24, encBI, NX, NPV, SX, NW, HX, g0, g1, g2, g3, g4, g5, g6, g7, gr, zRow0_eq, AB, PL, RG, LP, TY, simprocAttr, ↓reduceIte, forall_const, eq_self, ne_eq, Option.some.injEq, beq_self_eq_true] | ((first | apply fin_ndec | apply fin_dec | apply cnd_ndec | apply cnd_dec' | apply fin_nsplit | apply fin_split | apply cnd_nsplit | apply cnd_split) <;> intro hc) | refine seqS_id ?_ | refine blk_exit_id ?_)
              all_goals rfl
          · have hf := eq_false hfin
            rw [if_neg hfin] at h
            subst h
            have hc := Nat.zero_add 0
            repeat' (first | simp only [hc, AS, Tryd.f24, encBI, NX, NPV, SX, NW, HX, g0, g1, g2, g3, g4, g5, g6, g7, hf, zRow0_eq, AB, PL, RG, LP, TY, simprocAttr, ↓reduceIte, forall_const, eq_self, ne_eq, Option.some.injEq, beq_self_eq_true] | ((first | apply fin_ndec | apply fin_dec | apply cnd_ndec | apply cnd_dec' | apply fin_nsplit | apply fin_split | apply cnd_nsplit | apply cnd_split) <;> intro hc) | refine seqS_id ?_ | refine blk_exit_id ?_)
            refine awp_fork treeGR ⟨[(4, .v (.c (.ptr 0 0))), (5, AV.i 0), (6, AV.i e7)], [.box zRow0, dcdB f b n7 e7, .box ((Evt.row ⟨1, x1, x2, x3, x4, x5, x6, x7, 0, [], [], 0, 0, 0, [], 0⟩).map .d)]⟩ ⟨[(4, .v (.c (.ptr 0 0))), (5, AV.i 0), (6, AV.i e7)], [.box zRow0, dcdB f b n7 e7, .box ((Evt.row ⟨1, x1, x2, x3, x4, x5, x6, x7, 0, [], [], 0, 0, 0, [], 0⟩).map .d)]⟩ rfl (by kernel_rfl) ?_ ?_ ?_
            · skip
              have hc := Nat.zero_add 0
              repeat' (first | simp only [hc, AS, treeGR, TRE, NX, NPV, NW, SX, HX, AB, PL, RG, LP, TY, simprocAttr, ↓reduceIte, forall_const, eq_self, ne_eq, Option.some.injEq, beq_self_eq_true] | ((first | apply fin_ndec | apply fin_dec | apply cnd_ndec | apply cnd_dec' | apply fin_nsplit | apply fin_split | apply cnd_nsplit | apply cnd_split) <;> intro hc) | refine seqS_id ?_ | refine blk_exit_id ?_)
              constructor <;> exact .inl (Wk.sub' (by simp [subT, look]) rfl)
            all_goals
              have hc := Nat.zero_add 0
              repeat' (first | simp only [hc, AS, NX, NPV, NW, SX, HX, zRow0_eq, AB, PL, RG, LP, TY, simprocAttr, ↓reduceIte, forall_const, eq_self, ne_eq, Option.some.injEq, beq_self_eq_true] | ((first | apply fin_ndec | apply fin_dec | apply cnd_ndec | apply cnd_dec' | apply fin_nsplit | apply fin_split | apply cnd_nsplit | apply cnd_split) <;> intro hc) | refine seqS_id ?_ | refine blk_exit_id ?_)
              all_goals rfl
        · skip
          generalize hq1 : decN b n0 0 = d1 at *
          obtain ⟨x1, n1, e1⟩ := d1
          have g1 : ∀ A C, dnum_k [.v (.c (.ptr 1 0))] [A, dcdB f b n0 0, C] = some (.ret (AV.i x1) [A, dcdB f b n1 e1, C]) := fun A C => dnum_at rfl hb hq1
          generalize hq2 : decX b n1 e1 = d2 at *
          obtain ⟨x2, n2, e2⟩ := d2
          have g2 : ∀ A C, dtxt_k [.v (.c (.ptr 1 0))] [A, dcdB f b n1 e1, C] = some (.ret (AV.s x2) [A, dcdB f b n2 e2, C]) := fun A C => dtxt_at rfl hb hq2
          generalize hq3 : decX b n2 e2 = d3 at *
          obtain ⟨x3, n3, e3⟩ := d3
          have g3 : ∀ A C, dtxt_k [.v (.c (.ptr 1 0))] [A, dcdB f b n2 e2, C] = some (.ret (AV.s x3) [A, dcdB f b n3 e3, C]) := fun A C => dtxt_at rfl hb hq3
          generalize hq4 : decN b n3 e3 = d4 at *
          obtain ⟨x4, n4, e4⟩ := d4
          have g4 : ∀ A C, dnum_k [.v (.c (.ptr 1 0))] [A, dcdB f b n3 e3, C] = some (.ret (AV.i x4) [A, dcdB f b n4 e4, C]) := fun A C => dnum_at rfl hb hq4
          generalize hq5 : decN b n4 e4 = d5 at *
          obtain ⟨x5, n5, e5⟩ := d5
          have g5 : ∀ A C, dnum_k [.v (.c (.ptr 1 0))] [A, dcdB f b n4 e4, C] = some (.ret (AV.i x5) [A, dcdB f b n5 e5, C]) := fun A C => dnum_at rfl hb hq5
          have hS : readR b (fldK 2) (zEvt 2) n0 0 = ((⟨2, [], 0, 0, [], [], 0, 0, x1, x2, x3, x4, x5, 0, [], 0⟩ : Evt), n5, e5) := by
            show readR b [(false, 8), (true, 9), (true, 10), (false, 11), (false, 12)] (zEvt 2) n0 0 = _
            simp only [readR, if_true, Bool.false_eq_true, if_false, hq1, hq2, hq3, hq4, hq5]
            rfl
          rw [hS] at h
          have gr := @r6right_at (⟨2, [], 0, 0, [], [], 0, 0, x1, x2, x3, x4, x5, 0, [], 0⟩ : Evt)
          generalize hr : rightE (⟨2, [], 0, 0, [], [], 0, 0, x1, x2, x3, x4, x5, 0, [], 0⟩ : Evt) = rr at *
          unfold endR at h
          dsimp only at h
          simp only [Evt.row] at gr
          by_cases hfin : e5 = 0
          · subst hfin
            rw [if_pos rfl, hr] at h
            cases rr with
            | true =>
              rw [if_pos rfl] at h
              subst h
              have hc := Nat.zero_add 0
              repeat' (first | simp only [hc, AS, Tryd.f24, encBI, NX, NPV, SX, NW, HX, g0, g1, g2, g3, g4, g5, gr, zRow0_eq, AB, PL, RG, LP, TY, simprocAttr, ↓reduceIte, forall_const, eq_self, ne_eq, Option.some.injEq, beq_self_eq_true] | ((first | apply fin_ndec | apply fin_dec | apply cnd_ndec | apply cnd_dec' | apply fin_nsplit | apply fin_split | apply cnd_nsplit | apply cnd_split) <;> intro hc) | refine seqS_id ?_ | refine blk_exit_id ?_)
              refine awp_fork treeGR ⟨[(4, .v (.c (.ptr 0 0))), (5, AV.i n5), (6, AV.i 0)], [.box ((Evt.row ⟨2, [], 0, 0, [], [], 0, 0, x1, x2, x3, x4, x5, 0, [], 0⟩).map .d), dcdB f b n5 0, .box ((Evt.row ⟨2, [], 0, 0, [], [], 0, 0, x1, x2, x3, x4, x5, 0, [], 0⟩).map .d)]⟩ ⟨[(4, .v (.c (.ptr 0 0))), (5, AV.i n5), (6, AV.i 0)], [.box ((Evt.row ⟨2, [], 0, 0, [], [], 0, 0, x1, x2, x3, x4, x5, 0, [], 0⟩).map .d), dcdB f b n5 0, .box ((Evt.row ⟨2, [], 0, 0, [], [], 0, 0, x1, x2, x3, x4, x5, 0, [], 0⟩).map .d)]⟩ rfl (by kernel_rfl) ?_ ?_ ?_
              · skip
                have hc := Nat.zero_add 0
                repeat' (first | simp only [hc, AS, treeGR, TRE, NX, NPV, NW, SX, HX, AB, PL, RG, LP, TY, simprocAttr, ↓reduceIte, forall_const, eq_self, ne_eq, Option.some.injEq, beq_self_eq_true] | ((first | apply fin_ndec | apply fin_dec | apply cnd_ndec | apply cnd_dec' | apply fin_nsplit | apply fin_split | apply cnd_nsplit | apply cnd_split) <;> intro hc) | refine seqS_id ?_ | refine blk_exit_id ?_)
                constructor <;> exact .inl (Wk.sub' (by simp [subT, look]) rfl)
              all_goals
                have hc := Nat.zero_add 0
                repeat' (first | simp only [hc, AS, NX, NPV, NW, SX, HX, Evt.row, List.map_cons, List.map_nil, AB, PL, RG, LP, TY, simprocAttr, ↓reduceIte, forall_const, eq_self, ne_eq, Option.some.injEq, beq_self_eq_true] | ((first | apply fin_ndec | apply fin_dec | apply cnd_ndec | apply cnd_dec' | apply fin_nsplit | apply fin_split | apply cnd_nsplit | apply cnd_split) <;> intro hc) | refine seqS_id ?_ | refine blk_exit_id ?_)
                all_goals rfl
            | false =>
              rw [if_neg (by simp)] at h
              subst h
              have hc := Nat.zero_add 0
              repeat' (first | simp only [hc, AS, Tryd.f24, encBI, NX, NPV, SX, NW, HX, g0, g1, g2, g3, g4, g5, gr, zRow0_eq, AB, PL, RG, LP, TY, simprocAttr, ↓reduceIte, forall_const, eq_self, ne_eq, Option.some.injEq, beq_self_eq_true] | ((first | apply fin_ndec | apply fin_dec | apply cnd_ndec | apply cnd_dec' | apply fin_nsplit | apply fin_split | apply cnd_nsplit | apply cnd_split) <;> intro hc) | refine seqS_id ?_ | refine blk_exit_id ?_)
              all_goals rfl
          · have hf := eq_false hfin
            rw [if_neg hfin] at h
            subst h
            have hc := Nat.zero_add 0
            repeat' (first | simp only [hc, AS, Tryd.f24, encBI, NX, NPV, SX, NW, HX, g0, g1, g2, g3, g4, g5, hf, zRow0_eq, AB, PL, RG, LP, TY, simprocAttr, ↓reduceIte, forall_const, eq_self, ne_eq, Option.some.injEq, beq_self_eq_true] | ((first | apply fin_ndec | apply fin_dec | apply cnd_ndec | apply cnd_dec' | apply fin_nsplit | apply fin_split | apply cnd_nsplit | apply cnd_split) <;> intro hc) | refine seqS_id ?_ | refine blk_exit_id ?_)
            refine awp_fork treeGR ⟨[(4, .v (.c (.ptr 0 0))), (5, AV.i 0), (6, AV.i e5)], [.box zRow0, dcdB f b n5 e5, .box ((Evt.row ⟨2, [], 0, 0, [], [], 0, 0, x1, x2, x3, x4, x5, 0, [], 0⟩).map .d)]⟩ ⟨[(4, .v (.c (.ptr 0 0))), (5, AV.i 0), (6, AV.i e5)], [.box zRow0, dcdB f b n5 e5, .box ((Evt.row ⟨2, [], 0, 0, [], [], 0, 0, x1, x2, x3, x4, x5, 0, [], 0⟩).map .d)]⟩ rfl (by kernel_rfl) ?_ ?_ ?_
            · skip
              have hc := Nat.zero_add 0
              repeat' (first | simp only [hc, AS, treeGR, TRE, NX, NPV, NW, SX, HX, AB, PL, RG, LP, TY, simprocAttr, ↓reduceIte, forall_const, eq_self, ne_eq, Option.some.injEq, beq_self_eq_true] | ((first | apply fin_ndec | apply fin_dec | apply cnd_ndec | apply cnd_dec' | apply fin_nsplit | apply fin_split | apply cnd_nsplit | apply cnd_split) <;> intro hc) | refine seqS_id ?_ | refine blk_exit_id ?_)
              constructor <;> exact .inl (Wk.sub' (by simp [subT, look]) rfl)
            all_goals
              have hc := Nat.zero_add 0
              repeat' (first | simp only [hc, AS, NX, NPV, NW, SX, HX, zRow0_eq, AB, PL, RG, LP, TY, simprocAttr, ↓reduceIte, forall_const, eq_self, ne_eq, Option.some.injEq, beq_self_eq_true] | ((first | apply fin_ndec | apply fin_dec | apply cnd_ndec | apply cnd_dec' | apply fin_nsplit | apply fin_split | apply cnd_nsplit | apply cnd_split) <;> intro hc) | refine seqS_id ?_ | refine blk_exit_id ?_)
              all_goals rfl
        · skip
          generalize hq1 : decN b n0 0 = d1 at *
          obtain ⟨x1, n1, e1⟩ := d1
          have g1 : ∀ A C, dnum_k [.v (.c (.ptr 1 0))] [A, dcdB f b n0 0, C] = some (.ret (AV.i x1) [A, dcdB f b n1 e1, C]) := fun A C => dnum_at rfl hb hq1
          have hS : readR b (fldK 3) (zEvt 3) n0 0 = ((⟨3, [], 0, 0, [], [], 0, 0, 0, [], [], 0, 0, x1, [], 0⟩ : Evt), n1, e1) := by
            show readR b [(false, 13)] (zEvt 3) n0 0 = _
            simp only [readR, if_true, Bool.false_eq_true, if_false, hq1]
            rfl
          rw [hS] at h
          have gr := @r6right_at (⟨3, [], 0, 0, [], [], 0, 0, 0, [], [], 0, 0, x1, [], 0⟩ : Evt)
          generalize hr : rightE (⟨3, [], 0, 0, [], [], 0, 0, 0, [], [], 0, 0, x1, [], 0⟩ : Evt) = rr at *
          unfold endR at h
          dsimp only at h
          simp only [Evt.row] at gr
          by_cases hfin : e1 = 0
          · subst hfin
            rw [if_pos rfl, hr] at h
            cases rr with
            | true =>
              rw [if_pos rfl] at h
              subst h
              have hc := Nat.zero_add 0
              repeat' (first | simp only [hc, AS, Tryd.f24, encBI, NX, NPV, SX, NW, HX, g0, g1, gr, zRow0_eq, AB, PL, RG, LP, TY, simprocAttr, ↓reduceIte, forall_const, eq_self, ne_eq, Option.some.injEq, beq_self_eq_true] | ((first | apply fin_ndec | apply fin_dec | apply cnd_ndec | apply cnd_dec' | apply fin_nsplit | apply fin_split | apply cnd_nsplit | apply cnd_split) <;> intro hc) | refine seqS_id ?_ | refine blk_exit_id ?_)
              refine awp_fork treeGR ⟨[(4, .v (.c (.ptr 0 0))), (5, AV.i n1), (6, AV.i 0)], [.box ((Evt.row ⟨3, [], 0, 0, [], [], 0, 0, 0, [], [], 0, 0, x1, [], 0⟩).map .d), dcdB f b n1 0, .box ((Evt.row ⟨3, [], 0, 0, [], [], 0, 0, 0, [], [], 0, 0, x1, [], 0⟩).map .d)]⟩ ⟨[(4, .v (.c (.ptr 0 0))), (5, AV.i n1), (6, AV.i 0)], [.box ((Evt.row ⟨3, [], 0, 0, [], [], 0, 0, 0, [], [], 0, 0, x1, [], 0⟩).map .d), dcdB f b n1 0, .box ((Evt.row ⟨3, [], 0, 0, [], [], 0, 0, 0, [], [], 0, 0, x1, [], 0⟩).map .d)]⟩ rfl (by kernel_rfl) ?_ ?_ ?_
              · skip
                have hc := Nat.zero_add 0
                repeat' (first | simp only [hc, AS, treeGR, TRE, NX, NPV, NW, SX, HX, AB, PL, RG, LP, TY, simprocAttr, ↓reduceIte, forall_const, eq_self, ne_eq, Option.some.injEq, beq_self_eq_true] | ((first | apply fin_ndec | apply fin_dec | apply cnd_ndec | apply cnd_dec' | apply fin_nsplit | apply fin_split | apply cnd_nsplit | apply cnd_split) <;> intro hc) | refine seqS_id ?_ | refine blk_exit_id ?_)
                constructor <;> exact .inl (Wk.sub' (by simp [subT, look]) rfl)
              all_goals
                have hc := Nat.zero_add 0
                repeat' (first | simp only [hc, AS, NX, NPV, NW, SX, HX, Evt.row, List.map_cons, List.map_nil, AB, PL, RG, LP, TY, simprocAttr, ↓reduceIte, forall_const, eq_self, ne_eq, Option.some.injEq, beq_self_eq_true] | ((first | apply fin_ndec | apply fin_dec | apply cnd_ndec | apply cnd_dec' | apply fin_nsplit | apply fin_split | apply cnd_nsplit | apply cnd_split) <;> intro hc) | refine seqS_id ?_ | refine blk_exit_id ?_)
                all_goals rfl
            | false =>
              rw [if_neg (by simp)] at h
              subst h
              have hc := Nat.zero_add 0
              repeat' (first | simp only [hc, AS, Tryd.f24, encBI, NX, NPV, SX, NW, HX, g0, g1, gr, zRow0_eq, AB, PL, RG, LP, TY, simprocAttr, ↓reduceIte, forall_const, eq_self, ne_eq, Option.some.injEq, beq_self_eq_true] | ((first | apply fin_ndec | apply fin_dec | apply cnd_ndec | apply cnd_dec' | apply fin_nsplit | apply fin_split | apply cnd_nsplit | apply cnd_split) <;> intro hc) | refine seqS_id ?_ | refine blk_exit_id ?_)
              all_goals rfl
          · have hf := eq_false hfin
            rw [if_neg hfin] at h
            subst h
            have hc := Nat.zero_add 0
            repeat' (first | simp only [hc, AS, Tryd.f24, encBI, NX, NPV, SX, NW, HX, g0, g1, hf, zRow0_eq, AB, PL, RG, LP, TY, simprocAttr, ↓reduceIte, forall_const, eq_self, ne_eq, Option.some.injEq, beq_self_eq_true] | ((first | apply fin_ndec | apply fin_dec | apply cnd_ndec | apply cnd_dec' | apply fin_nsplit | apply fin_split | apply cnd_nsplit | apply cnd_split) <;> intro hc) | refine seqS_id ?_ | refine blk_exit_id ?_)
            refine awp_fork treeGR ⟨[(4, .v (.c (.ptr 0 0))), (5, AV.i 0), (6, AV.i e1)], [.box zRow0, dcdB f b n1 e1, .box ((Evt.row ⟨3, [], 0, 0, [], [], 0, 0, 0, [], [], 0, 0, x1, [], 0⟩).map .d)]⟩ ⟨[(4, .v (.c (.ptr 0 0))), (5, AV.i 0), (6, AV.i e1)], [.box zRow0, dcdB f b n1 e1, .box ((Evt.row ⟨3, [], 0, 0, [], [], 0, 0, 0, [], [], 0, 0, x1, [], 0⟩).map .d)]⟩ rfl (by kernel_rfl) ?_ ?_ ?_
            · skip
              have hc := Nat.zero_add 0
              repeat' (first | simp only [hc, AS, treeGR, TRE, NX, NPV, NW, SX, HX, AB, PL, RG, LP, TY, simprocAttr, ↓reduceIte, forall_const, eq_self, ne_eq, Option.some.injEq, beq_self_eq_true] | ((first | apply fin_ndec | apply fin_dec | apply cnd_ndec | apply cnd_dec' | apply fin_nsplit | apply fin_split | apply cnd_nsplit | apply cnd_split) <;> intro hc) | refine seqS_id ?_ | refine blk_exit_id ?_)
              constructor <;> exact .inl (Wk.sub' (by simp [subT, look]) rfl)
            all_goals
              have hc := Nat.zero_add 0
              repeat' (first | simp only [hc, AS, NX, NPV, NW, SX, HX, zRow0_eq, AB, PL, RG, LP, TY, simprocAttr, ↓reduceIte, forall_const, eq_self, ne_eq, Option.some.injEq, beq_self_eq_true] | ((first | apply fin_ndec | apply fin_dec | apply cnd_ndec | apply cnd_dec' | apply fin_nsplit | apply fin_split | apply cnd_nsplit | apply cnd_split) <;> intro hc) | refine seqS_id ?_ | refine blk_exit_id ?_)
              all_goals rfl
        · skip
          generalize hq1 : decX b n0 0 = d1 at *
          obtain ⟨x1, n1, e1⟩ := d1
          have g1 : ∀ A C, dtxt_k [.v (.c (.ptr 1 0))] [A, dcdB f b n0 0, C] = some (.ret (AV.s x1) [A, dcdB f b n1 e1, C]) := fun A C => dtxt_at rfl hb hq1
          generalize hq2 : decN b n1 e1 = d2 at *
          obtain ⟨x2, n2, e2⟩ := d2
          have g2 : ∀ A C, dnum_k [.v (.c (.ptr 1 0))] [A, dcdB f b n1 e1, C] = some (.ret (AV.i x2) [A, dcdB f b n2 e2, C]) := fun A C => dnum_at rfl hb hq2
          have hS : readR b (fldK 4) (zEvt 4) n0 0 = ((⟨4, [], 0, 0, [], [], 0, 0, 0, [], [], 0, 0, 0, x1, x2⟩ : Evt), n2, e2) := by
            show readR b [(true, 14), (false, 15)] (zEvt 4) n0 0 = _
            simp only [readR, if_true, Bool.false_eq_true, if_false, hq1, hq2]
            rfl
          rw [hS] at h
          have gr := @r6right_at (⟨4, [], 0, 0, [], [], 0, 0, 0, [], [], 0, 0, 0, x1, x2⟩ : Evt)
          generalize hr : rightE (⟨4, [], 0, 0, [], [], 0, 0, 0, [], [], 0, 0, 0, x1, x2⟩ : Evt) = rr at *
          unfold endR at h
          dsimp only at h
          simp only [Evt.row] at gr
          by_cases hfin : e2 = 0
          · subst hfin
            rw [if_pos rfl, hr] at h
            cases rr with
            | true =>
              rw [if_pos rfl] at h
              subst h
              have hc := Nat.zero_add 0
              repeat' (first | simp only [hc, AS, Tryd.f24, encBI, NX, NPV, SX, NW, HX, g0, g1, g2, gr, zRow0_eq, AB, PL, RG, LP, TY, simprocAttr, ↓reduceIte, forall_const, eq_self, ne_eq, Option.some.injEq, beq_self_eq_true] | ((first | apply fin_ndec | apply fin_dec | apply cnd_ndec | apply cnd_dec' | apply fin_nsplit | apply fin_split | apply cnd_nsplit | apply cnd_split) <;> intro hc) | refine seqS_id ?_ | refine blk_exit_id ?_)
              refine awp_fork treeGR ⟨[(4, .v (.c (.ptr 0 0))), (5, AV.i n2), (6, AV.i 0)], [.box ((Evt.row ⟨4, [], 0, 0, [], [], 0, 0, 0, [], [], 0, 0, 0, x1, x2⟩).map .d), dcdB f b n2 0, .box ((Evt.row ⟨4, [], 0, 0, [], [], 0, 0, 0, [], [], 0, 0, 0, x1, x2⟩).map .d)]⟩ ⟨[(4, .v (.c (.ptr 0 0))), (5, AV.i n2), (6, AV.i 0)], [.box ((Evt.row ⟨4, [], 0, 0, [], [], 0, 0, 0, [], [], 0, 0, 0, x1, x2⟩).map .d), dcdB f b n2 0, .box ((Evt.row ⟨4, [], 0, 0, [], [], 0, 0, 0, [], [], 0, 0, 0, x1, x2⟩).map .d)]⟩ rfl (by kernel_rfl) ?_ ?_ ?_
              · skip
                have hc := Nat.zero_add 0
                repeat' (first | simp only [hc, AS, treeGR, TRE, NX, NPV, NW, SX, HX, AB, PL, RG, LP, TY, simprocAttr, ↓reduceIte, forall_const, eq_self, ne_eq, Option.some.injEq, beq_self_eq_true] | ((first | apply fin_ndec | apply fin_dec | apply cnd_ndec | apply cnd_dec' | apply fin_nsplit | apply fin_split | apply cnd_nsplit | apply cnd_split) <;> intro hc) | refine seqS_id ?_ | refine blk_exit_id ?_)
                constructor <;> exact .inl (Wk.sub' (by simp [subT, look]) rfl)
              all_goals
                have hc := Nat.zero_add 0
                repeat' (first | simp only [hc, AS, NX, NPV, NW, SX, HX, Evt.row, List.map_cons, List.map_nil, AB, PL, RG, LP, TY, simprocAttr, ↓reduceIte, forall_const, eq_self, ne_eq, Option.some.injEq, beq_self_eq_true] | ((first | apply fin_ndec | apply fin_dec | apply cnd_ndec | apply cnd_dec' | apply fin_nsplit | apply fin_split | apply cnd_nsplit | apply cnd_split) <;> intro hc) | refine seqS_id ?_ | refine blk_exit_id ?_)
                all_goals rfl
            | false =>
              rw [if_neg (by simp)] at h
              subst h
              have hc := Nat.zero_add 0
              repeat' (first | simp only [hc, AS, Tryd.f24, encBI, NX, NPV, SX, NW, HX, g0, g1, g2, gr, zRow0_eq, AB, PL, RG, LP, TY, simprocAttr, ↓reduceIte, forall_const, eq_self, ne_eq, Option.some.injEq, beq_self_eq_true] | ((first | apply fin_ndec | apply fin_dec | apply cnd_ndec | apply cnd_dec' | apply fin_nsplit | apply fin_split | apply cnd_nsplit | apply cnd_split) <;> intro hc) | refine seqS_id ?_ | refine blk_exit_id ?_)
              all_goals rfl
          · have hf := eq_false hfin
            rw [if_neg hfin] at h
            subst h
            have hc := Nat.zero_add 0
            repeat' (first | simp only [hc, AS, Tryd.f24, encBI, NX, NPV, SX, NW, HX, g0, g1, g2, hf, zRow0_eq, AB, PL, RG, LP, TY, simprocAttr, ↓reduceIte, forall_const, eq_self, ne_eq, Option.some.injEq, beq_self_eq_true] | ((first | apply fin_ndec | apply fin_dec | apply cnd_ndec | apply cnd_dec' | apply fin_nsplit | apply fin_split | apply cnd_nsplit | apply cnd_split) <;> intro hc) | refine seqS_id ?_ | refine blk_exit_id ?_)
            refine awp_fork treeGR ⟨[(4, .v (.c (.ptr 0 0))), (5, AV.i 0), (6, AV.i e2)], [.box zRow0, dcdB f b n2 e2, .box ((Evt.row ⟨4, [], 0, 0, [], [], 0, 0, 0, [], [], 0, 0, 0, x1, x2⟩).map .d)]⟩ ⟨[(4, .v (.c (.ptr 0 0))), (5, AV.i 0), (6, AV.i e2)], [.box zRow0, dcdB f b n2 e2, .box ((Evt.row ⟨4, [], 0, 0, [], [], 0, 0, 0, [], [], 0, 0, 0, x1, x2⟩).map .d)]⟩ rfl (by kernel_rfl) ?_ ?_ ?_
            · skip
              have hc := Nat.zero_add 0
              repeat' (first | simp only [hc, AS, treeGR, TRE, NX, NPV, NW, SX, HX, AB, PL, RG, LP, TY, simprocAttr, ↓reduceIte, forall_const, eq_self, ne_eq, Option.some.injEq, beq_self_eq_true] | ((first | apply fin_ndec | apply fin_dec | apply cnd_ndec | apply cnd_dec' | apply fin_nsplit | apply fin_split | apply cnd_nsplit | apply cnd_split) <;> intro hc) | refine seqS_id ?_ | refine blk_exit_id ?_)
              constructor <;> exact .inl (Wk.sub' (by simp [subT, look]) rfl)
            all_goals
              have hc := Nat.zero_add 0
              repeat' (first | simp only [hc, AS, NX, NPV, NW, SX, HX, zRow0_eq, AB, PL, RG, LP, TY, simprocAttr, ↓reduceIte, forall_const, eq_self, ne_eq, Option.some.injEq, beq_self_eq_true] | ((first | apply fin_ndec | apply fin_dec | apply cnd_ndec | apply cnd_dec' | apply fin_nsplit | apply fin_split | apply cnd_nsplit | apply cnd_split) <;> intro hc) | refine seqS_id ?_ | refine blk_exit_id ?_)
              all_goals rfl
        · skip
          generalize hq1 : decN b n0 0 = d1 at *
          obtain ⟨x1, n1, e1⟩ := d1
          have g1 : ∀ A C, dnum_k [.v (.c (.ptr 1 0))] [A, dcdB f b n0 0, C] = some (.ret (AV.i x1) [A, dcdB f b n1 e1, C]) := fun A C => dnum_at rfl hb hq1
          have hS : readR b (fldK 5) (zEvt 5) n0 0 = ((⟨5, [], 0, 0, [], [], 0, 0, 0, [], [], 0, 0, x1, [], 0⟩ : Evt), n1, e1) := by
            show readR b [(false, 13)] (zEvt 5) n0 0 = _
            simp only [readR, if_true, Bool.false_eq_true, if_false, hq1]
            rfl
          rw [hS] at h
          have gr := @r6right_at (⟨5, [], 0, 0, [], [], 0, 0, 0, [], [], 0, 0, x1, [], 0⟩ : Evt)
          generalize hr : rightE (⟨5, [], 0, 0, [], [], 0, 0, 0, [], [], 0, 0, x1, [], 0⟩ : Evt) = rr at *
          unfold endR at h
          dsimp only at h
          simp only [Evt.row] at gr
          by_cases hfin : e1 = 0
          · subst hfin
            rw [if_pos rfl, hr] at h
            cases rr with
            | true =>
              rw [if_pos rfl] at h
              subst h
              have hc := Nat.zero_add 0
              repeat' (first | simp only [hc, AS, Tryd.f24, encBI, NX, NPV, SX, NW, HX, g0, g1, gr, zRow0_eq, AB, PL, RG, LP, TY, simprocAttr, ↓reduceIte, forall_const, eq_self, ne_eq, Option.some.injEq, beq_self_eq_true] | ((first | apply fin_ndec | apply fin_dec | apply cnd_ndec | apply cnd_dec' | apply fin_nsplit | apply fin_split | apply cnd_nsplit | apply cnd_split) <;> intro hc) | refine seqS_id ?_ | refine blk_exit_id ?_)
              refine awp_fork treeGR ⟨[(4, .v (.c (.ptr 0 0))), (5, AV.i n1), (6, AV.i 0)], [.box ((Evt.row ⟨5, [], 0, 0, [], [], 0, 0, 0, [], [], 0, 0, x1, [], 0⟩).map .d), dcdB f b n1 0, .box ((Evt.row ⟨5, [], 0, 0, [], [], 0, 0, 0, [], [], 0, 0, x1, [], 0⟩).map .d)]⟩ ⟨[(4, .v (.c (.ptr 0 0))), (5, AV.i n1), (6, AV.i 0)], [.box ((Evt.row ⟨5, [], 0, 0, [], [], 0, 0, 0, [], [], 0, 0, x1, [], 0⟩).map .d), dcdB f b n1 0, .box ((Evt.row ⟨5, [], 0, 0, [], [], 0, 0, 0, [], [], 0, 0, x1, [], 0⟩).map .d)]⟩ rfl (by kernel_rfl) ?_ ?_ ?_
              · skip
                have hc := Nat.zero_add 0
                repeat' (first | simp only [hc, AS, treeGR, TRE, NX, NPV, NW, SX, HX, AB, PL, RG, LP, TY, simprocAttr, ↓reduceIte, forall_const, eq_self, ne_eq, Option.some.injEq, beq_self_eq_true] | ((first | apply fin_ndec | apply fin_dec | apply cnd_ndec | apply cnd_dec' | apply fin_nsplit | apply fin_split | apply cnd_nsplit | apply cnd_split) <;> intro hc) | refine seqS_id ?_ | refine blk_exit_id ?_)
                constructor <;> exact .inl (Wk.sub' (by simp [subT, look]) rfl)
              all_goals
                have hc := Nat.zero_add 0
                repeat' (first | simp only [hc, AS, NX, NPV, NW, SX, HX, Evt.row, List.map_cons, List.map_nil, AB, PL, RG, LP, TY, simprocAttr, ↓reduceIte, forall_const, eq_self, ne_eq, Option.some.injEq, beq_self_eq_true] | ((first | apply fin_ndec | apply fin_dec | apply cnd_ndec | apply cnd_dec' | apply fin_nsplit | apply fin_split | apply cnd_nsplit | apply cnd_split) <;> intro hc) | refine seqS_id ?_ | refine blk_exit_id ?_)
                all_goals rfl
            | false =>
              rw [if_neg (by simp)] at h
              subst h
              have hc := Nat.zero_add 0
              repeat' (first | simp only [hc, AS, Tryd.f24, encBI, NX, NPV, SX, NW, HX, g0, g1, gr, zRow0_eq, AB, PL, RG, LP, TY, simprocAttr, ↓reduceIte, forall_const, eq_self, ne_eq, Option.some.injEq, beq_self_eq_true] | ((first | apply fin_ndec | apply fin_dec | apply cnd_ndec | apply cnd_dec' | apply fin_nsplit | apply fin_split | apply cnd_nsplit | apply cnd_split) <;> intro hc) | refine seqS_id ?_ | refine blk_exit_id ?_)
              all_goals rfl
          · have hf := eq_false hfin
            rw [if_neg hfin] at h
            subst h
            have hc := Nat.zero_add 0
            repeat' (first | simp only [hc, AS, Tryd.f24, encBI, NX, NPV, SX, NW, HX, g0, g1, hf, zRow0_eq, AB, PL, RG, LP, TY, simprocAttr, ↓reduceIte, forall_const, eq_self, ne_eq, Option.some.injEq, beq_self_eq_true] | ((first | apply fin_ndec | apply fin_dec | apply cnd_ndec | apply cnd_dec' | apply fin_nsplit | apply fin_split | apply cnd_nsplit | apply cnd_split) <;> intro hc) | refine seqS_id ?_ | refine blk_exit_id ?_)
            refine awp_fork treeGR ⟨[(4, .v (.c (.ptr 0 0))), (5, AV.i 0), (6, AV.i e1)], [.box zRow0, dcdB f b n1 e1, .box ((Evt.row ⟨5, [], 0, 0, [], [], 0, 0, 0, [], [], 0, 0, x1, [], 0⟩).map .d)]⟩ ⟨[(4, .v (.c (.ptr 0 0))), (5, AV.i 0), (6, AV.i e1)], [.box zRow0, dcdB f b n1 e1, .box ((Evt.row ⟨5, [], 0, 0, [], [], 0, 0, 0, [], [], 0, 0, x1, [], 0⟩).map .d)]⟩ rfl (by kernel_rfl) ?_ ?_ ?_
            · skip
              have hc := Nat.zero_add 0
              repeat' (first | simp only [hc, AS, treeGR, TRE, NX, NPV, NW, SX, HX, AB, PL, RG, LP, TY, simprocAttr, ↓reduceIte, forall_const, eq_self, ne_eq, Option.some.injEq, beq_self_eq_true] | ((first | apply fin_ndec | apply fin_dec | apply cnd_ndec | apply cnd_dec' | apply fin_nsplit | apply fin_split | apply cnd_nsplit | apply cnd_split) <;> intro hc) | refine seqS_id ?_ | refine blk_exit_id ?_)
              constructor <;> exact .inl (Wk.sub' (by simp [subT, look]) rfl)
            all_goals
              have hc := Nat.zero_add 0
              repeat' (first | simp only [hc, AS, NX, NPV, NW, SX, HX, zRow0_eq, AB, PL, RG, LP, TY, simprocAttr, ↓reduceIte, forall_const, eq_self, ne_eq, Option.some.injEq, beq_self_eq_true] | ((first | apply fin_ndec | apply fin_dec | apply cnd_ndec | apply cnd_dec' | apply fin_nsplit | apply fin_split | apply cnd_nsplit | apply cnd_split) <;> intro hc) | refine seqS_id ?_ | refine blk_exit_id ?_)
              all_goals rfl
      · have hk1 : ¬ (1 ≤ k ∧ k ≤ 5) := fun hh => hk (decide_eq_true hh)
        rw [hG, if_pos rfl, if_neg hk] at h
        dsimp only at h
        subst h
        by_cases k1 : k < 1
        · have k1' := eq_true k1
          have hc := Nat.zero_add 0
          repeat' (first | simp only [hc, AS, Tryd.f24, encBI, NX, NPV, SX, NW, HX, g0, k1', zRow0_eq, AB, PL, RG, LP, TY, simprocAttr, ↓reduceIte, forall_const, eq_self, ne_eq, Option.some.injEq, beq_self_eq_true] | ((first | apply fin_ndec | apply fin_dec | apply cnd_ndec | apply cnd_dec' | apply fin_nsplit | apply fin_split | apply cnd_nsplit | apply cnd_split) <;> intro hc) | refine seqS_id ?_ | refine blk_exit_id ?_)
          all_goals rfl
        · have k1' := eq_false k1
          have k2' : (k > 5) = True := eq_true (by omega)
          have hc := Nat.zero_add 0
          repeat' (first | simp only [hc, AS, Tryd.f24, encBI, NX, NPV, SX, NW, HX, g0, k1', k2', zRow0_eq, AB, PL, RG, LP, TY, simprocAttr, ↓reduceIte, forall_const, eq_self, ne_eq, Option.some.injEq, beq_self_eq_true] | ((first | apply fin_ndec | apply fin_dec | apply cnd_ndec | apply cnd_dec' | apply fin_nsplit | apply fin_split | apply cnd_nsplit | apply cnd_split) <;> intro hc) | refine seqS_id ?_ | refine blk_exit_id ?_)
          all_goals rfl
    · have hk0 := hz0 k n0 e0 rfl he
      subst hk0
      have hf := eq_false he
      dsimp only at hG
      rw [hG, if_neg he] at h
      dsimp only at h
      subst h
      have hc := Nat.zero_add 0
      repeat' (first | simp only [hc, AS, Tryd.f24, encBI, NX, NPV, SX, NW, HX, g0, hf, zRow0_eq, AB, PL, RG, LP, TY, simprocAttr, ↓reduceIte, forall_const, eq_self, ne_eq, Option.some.injEq, beq_self_eq_true] | ((first | apply fin_ndec | apply fin_dec | apply cnd_ndec | apply cnd_dec' | apply fin_nsplit | apply fin_split | apply cnd_nsplit | apply cnd_split) <;> intro hc) | refine seqS_id ?_ | refine blk_exit_id ?_)
      refine awp_fork treeGR ⟨[(4, .v (.c (.ptr 0 0))), (5, AV.i 0), (6, AV.i e0)], [.box zRow0, dcdB f b n0 e0, .box zRow0]⟩ ⟨[(4, .v (.c (.ptr 0 0))), (5, AV.i 0), (6, AV.i e0)], [.box zRow0, dcdB f b n0 e0, .box zRow0]⟩ rfl (by kernel_rfl) ?_ ?_ ?_
      · skip
        have hc := Nat.zero_add 0
        repeat' (first | simp only [hc, AS, treeGR, TRE, NX, NPV, NW, SX, HX, AB, PL, RG, LP, TY, simprocAttr, ↓reduceIte, forall_const, eq_self, ne_eq, Option.some.injEq, beq_self_eq_true] | ((first | apply fin_ndec | apply fin_dec | apply cnd_ndec | apply cnd_dec' | apply fin_nsplit | apply fin_split | apply cnd_nsplit | apply cnd_split) <;> intro hc) | refine seqS_id ?_ | refine blk_exit_id ?_)
        constructor <;> exact .inl (Wk.sub' (by simp [subT, look]) rfl)
      all_goals
        have hc := Nat.zero_add 0
        repeat' (first | simp only [hc, AS, NX, NPV, NW, SX, HX, zRow0_eq, AB, PL, RG, LP, TY, simprocAttr, ↓reduceIte, forall_const, eq_self, ne_eq, Option.some.injEq, beq_self_eq_true] | ((first | apply fin_ndec | apply fin_dec | apply cnd_ndec | apply cnd_dec' | apply fin_nsplit | apply fin_split | apply cnd_nsplit | apply cnd_split) <;> intro hc) | refine seqS_id ?_ | refine blk_exit_id ?_)
        all_goals rfl
  · cases h
theorem r6get_at {f : Bool} {b : List UInt8} {p : Int} (h : b.length ≤ 1000000) : r6get_m [.c (.sl f (b.map rowB)), .c (.int .i64 p)] = some [.agg (getE b p).1.row, .i (getE b p).2.1, .i (getE b p).2.2] := by
  have := mE_eq encBI_inj (g := fun p => if p.1.2.length ≤ 1000000 then some [DV.agg (getE p.1.2 p.2).1.row, .i (getE p.1.2 p.2).2.1, .i (getE p.1.2 p.2).2.2] else none) (a := ((f, b), p))
  exact this.trans (if_pos h)

def lGets_m : List PA → Option (List PA) := mE encBI fun _ => some [.b true]
set_option maxHeartbeats 2000000 in
theorem lGets_ok : PureC Tryd.prog Gt 6 lGets_m := by
  refine pure_of_awpS (X := ctx Tryd.prog Gt [(23, eget_m), (24, r6get_m), (16, alive46_m)]) Tryd.func6 rfl rfl (by kernel_rfl) (by kernel_rfl) (AllOk.cons eget_ok (AllOk.cons r6get_ok (AllOk.cons alive46_ok AllOk.nil))).kok ?_
  intro args r h0
  obtain ⟨⟨⟨f, b⟩, p⟩, rfl, h⟩ := mE_inv h0
  refine ⟨Nat.le_of_ble_eq_true rfl, ?_⟩
  cases h
  have f7 := alive_at
  have l1 := @lenB b
  by_cases c2 : (b.length : Int) > 1000
  · have c2' := eq_true c2
    have hc := Nat.zero_add 0
    repeat' (first | simp only [hc, AS, Tryd.f6, encBI, SX, NW, l1, c2', AB, PL, RG, LP, TY, simprocAttr, ↓reduceIte, forall_const, eq_self, ne_eq, Option.some.injEq, beq_self_eq_true] | ((first | apply fin_ndec | apply fin_dec | apply cnd_ndec | apply cnd_dec' | apply fin_nsplit | apply fin_split | apply cnd_nsplit | apply cnd_split) <;> intro hc) | refine seqS_id ?_ | refine blk_exit_id ?_)
    all_goals simp [DV.b]
  have c2' := eq_false c2
  have f1 := @eget_at f b p (by omega)
  have f2 := @r6get_at f b p (by omega)
  generalize getE b p = G at *
  obtain ⟨x, n, k⟩ := G
  obtain ⟨k', a', b', c', d'', f', g', i', j', l', m', n'', o', p', q', r'⟩ := x
  simp only [Evt.row] at f1 f2
  have hc := Nat.zero_add 0
  repeat' (first | simp only [hc, AS, Tryd.f6, encBI, SX, NW, l1, c2', f1, f2, f7, AB, PL, RG, LP, TY, simprocAttr, ↓reduceIte, forall_const, eq_self, ne_eq, Option.some.injEq, beq_self_eq_true] | ((first | apply fin_ndec | apply fin_dec | apply cnd_ndec | apply cnd_dec' | apply fin_nsplit | apply fin_split | apply cnd_nsplit | apply cnd_split) <;> intro hc) | refine seqS_id ?_ | refine blk_exit_id ?_)
  all_goals simp [DV.b]

end
end Go.Ab
