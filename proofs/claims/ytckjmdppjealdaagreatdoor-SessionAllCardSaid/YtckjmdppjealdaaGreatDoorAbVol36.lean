/-
  Texts of the layer and of the laws, put together: AbU13. No law is stated here.
-/
import Derived.Test.YtckjmdppjealdaaGreatDoorAbVol35
set_option linter.unusedSimpArgs false
set_option linter.unusedVariables false
set_option maxRecDepth 100000

/-
  session.running, session.see.
-/
namespace Go.Ab
open Go.RowKit Go.Proofs

theorem lastI_snoc {α : Type} {c : α → Bool} {x : α} : ∀ {l : List α}, lastI c (l ++ [x]) = if c x = true then some l.length else lastI c l
  | [] => by simp [lastI]
  | y :: l => by
    rw [List.cons_append, lastI, lastI_snoc (l := l)]
    by_cases h : c x = true
    · simp [h]
    · simp [h, lastI]
theorem lastI_take {α : Type} {c : α → Bool} {l : List α} {m : Nat} (h : m < l.length) : lastI c (l.take (m + 1)) = if c l[m] = true then some m else lastI c (l.take m) := by
  rw [List.take_succ_eq_append_getElem h, lastI_snoc, List.length_take, Nat.min_eq_left (by omega)]

abbrev Par.av (p : Par) : AV := .v (.agg (p.row.map .d))
abbrev Zon.av (z : Zon) : AV := .v (.agg (z.row.map .d))
/-- The sessions themselves. -/
abbrev ssOf (L : List SesO) : List Ses := L.map (·.1)

theorem scC_inj {x y : SesO} (h : scC x = scC y) (hx : ∀ i, x.2 = some i → x.1.sf = false) (hy : ∀ i, y.2 = some i → y.1.sf = false) : x = y := by
  obtain ⟨⟨a1, b1, c1, d1, e1, f1, g1, s1⟩, o1⟩ := x
  obtain ⟨⟨a2, b2, c2, d2, e2, f2, g2, s2⟩, o2⟩ := y
  simp only [scC, List.cons.injEq, C1.d.injEq, D.str.injEq, D.int.injEq, true_and, and_true] at h
  obtain ⟨h1, h2, h3, h4, h5, h6, h7⟩ := h
  cases o1 <;> cases o2 <;> simp [seenC] at h7
  · obtain ⟨h7, h8⟩ := h7
    have := mapI_inj.1 h8
    subst h1 h2 h3 h4 h5 h6 h7 this
    rfl
  · rename_i i j
    obtain ⟨h7, h8⟩ := h7
    have := mapI_inj.1 h8
    have k1 := hx i rfl
    have k2 := hy j rfl
    dsimp only at k1 k2
    subst h1 h2 h3 h4 h5 h6 h7 this k1 k2
    rfl
theorem sc_inj : ∀ {L M : List SesO}, L.length = M.length → sc L = sc M → (∀ x ∈ L, ∀ i, x.2 = some i → x.1.sf = false) → (∀ x ∈ M, ∀ i, x.2 = some i → x.1.sf = false) → L = M
  | [], [], _, _, _, _ => rfl
  | [], _ :: _, h, _, _, _ => by simp at h
  | _ :: _, [], h, _, _, _ => by simp at h
  | x :: L, y :: M, hl, h, h1, h2 => by
    rw [sc_cons, sc_cons] at h
    have h3 := List.append_inj h rfl
    rw [scC_inj h3.1 (h1 x (by simp)) (h2 y (by simp)), sc_inj (by simpa using hl) h3.2 (fun z hz => h1 z (by simp [hz])) (fun z hz => h2 z (by simp [hz]))]
theorem LiveS.sf {h : Hp} {id : Nat} {L : List SesO} (hL : LiveS h id L) : ∀ x ∈ L, ∀ i, x.2 = some i → x.1.sf = false := fun x hx i hi => by
  obtain ⟨k, hk⟩ := List.getElem?_of_mem hx
  obtain ⟨s, o⟩ := x
  dsimp only at hi
  subst hi
  exact (hL.own k s i hk).1
theorem LiveS.inj {h : Hp} {id : Nat} {L M : List SesO} (hL : LiveS h id L) (hM : LiveS h id M) : L = M := by
  have h1 := hL.row
  rw [hM.row] at h1
  simp only [Option.some.injEq, Ob.tok.injEq] at h1
  exact sc_inj h1.1.symm h1.2.2.symm hL.sf hM.sf

structure RnA where
  h : Hp
  id : Nat
  L : List SesO
  p : Par
  z : Zon
  now : Bool
def rnR (a : RnA) (args : List AV) (h : Hp) : Prop := args = [.v (.c (.msl a.id a.L.length)), a.p.av, a.z.av, AV.b a.now] ∧ h = a.h ∧ LiveS a.h a.id a.L ∧ LowH a.h
theorem rnR_inj {a b : RnA} {args : List AV} {h : Hp} (ha : rnR a args h) (hb : rnR b args h) : b = a := by
  obtain ⟨a1, a2, a3, a4, a5, a6⟩ := a
  obtain ⟨b1, b2, b3, b4, b5, b6⟩ := b
  obtain ⟨h1, h2, h3, _⟩ := ha
  obtain ⟨g1, g2, g3, _⟩ := hb
  dsimp only at *
  subst h2 g2
  rw [h1] at g1
  simp only [List.cons.injEq, AV.v.injEq, V.c.injEq, C1.msl.injEq, V.agg.injEq, C1.d.injEq, D.bool.injEq, and_true] at g1
  obtain ⟨⟨rfl, g4⟩, g5, g6, rfl⟩ := g1
  rw [h3.inj g3]
  have e1 : a4.row = b4.row := map_inj (fun x y h => by cases h; rfl) g5
  have e2 : a5.row = b5.row := map_inj (fun x y h => by cases h; rfl) g6
  rw [Par.inj _ _ e1, Zon.inj _ _ e2]
def lasN : Option Nat → Int
  | some i => i
  | none => -1

noncomputable section
open Classical

def srun_k : List AV → Hp → Option COut := kR rnR fun a => if a.L.length ≤ 1000000000 then some (.ret (AV.i (lasN (lastI (curB a.p a.z a.now) (ssOf a.L)))) a.h) else none

theorem srun_kok : ImpC Tryz.prog Gt 67 srun_k := by
  intro args h out h0
  refine fok_of_awpSW (X := ctxN Tryz.prog Gt [(58, sover_m)] [] [] none (uL [60])) Tryz.func67 rfl rfl (by kernel_rfl) (by kernel_rfl) (kok_n (AllOk.cons sover_ok AllOk.nil) AllK.nil AllN.nil) ?_ ?_
  · obtain ⟨a, ⟨rfl, _⟩, _⟩ := kR_inv h0
    exact Nat.le_of_ble_eq_true rfl
  obtain ⟨⟨h', id, L, p, z, now⟩, ⟨rfl, rfl, hL, hlow⟩, hg⟩ := kR_inv h0
  dsimp only at hL hlow hg ⊢
  split at hg
  · rename_i hlen
    cases hg
    have hrow : ∀ r : Hp, (h ++ r)[id]? = some (.tok L.length 7 (some (sc L))) := fun r => get_ext hL.row
    have hw0 : IntKind.i64.wrap ((L.length : Int) - 1) = (L.length : Int) - 1 := wI (by omega) (by omega)
    obtain ⟨k1, z1, p1, t1, u1⟩ := p
    obtain ⟨zn, zhf, zhr, zsf, zst, zgr, zfr, zdm, zsy⟩ := z
    have hsl : (ssOf L).length = L.length := List.length_map _
    have hc := Nat.zero_add 0
    repeat' (first | simp only [hc, AS, Tryz.f67, NX, NPV, SX, HX, hrow, hw0, Par.row, Zon.row, List.map_cons, List.map_nil, AB, PL, RG, LP, TY, simprocAttr, ↓reduceIte, forall_const, eq_self, ne_eq, Option.some.injEq, beq_self_eq_true] | ((first | apply fin_ndec | apply fin_dec | apply cnd_ndec | apply cnd_dec' | apply fin_nsplit | apply fin_split | apply cnd_nsplit | apply cnd_split) <;> intro hc) | refine seqS_id ?_ | refine blk_exit_id ?_)
    refine awpS_loop (σ := Nat) (fun m => m ≤ L.length ∧ lastI (curB ⟨k1, z1, p1, t1, u1⟩ ⟨zn, zhf, zhr, zsf, zst, zgr, zfr, zdm, zsy⟩ now) (ssOf L) = lastI (curB ⟨k1, z1, p1, t1, u1⟩ ⟨zn, zhf, zhr, zsf, zst, zgr, zfr, zdm, zsy⟩ now) ((ssOf L).take m))
      (fun m => ⟨[(9, AV.i ((m : Int) - 1)), (6, .v (.c (.ptr (h.length + 1) 0))), (5, .v (.c (.ptr h.length 0))), (0, .v (.c (.msl id L.length))), (3, AV.b now)], h ++ [.box [.d (.int .i64 k1), .d (.str z1), .d (.str p1), .d (.int .i64 t1), .d (.int .i64 u1)], .box [.d (.str zn), .d (.sl zhf (zhr.map Win.row)), .d (.sl zsf (zst.map Stf.row)), .d (.int .i64 zgr), .d (.int .i64 zfr), .d (.int .i64 zdm), .d (.int .i64 zsy)]]⟩)
      (fun m => m) L.length (Wk.sub' (by simp [subT, look]) rfl) ⟨Nat.le_refl _, by rw [List.take_of_length_le (by omega)]⟩ ?_
    rintro m ⟨hm, hout⟩
    have hcut : ∀ (t : List (Nat × AV)) (r : Hp) (v : Int), look t 8 = AV.i v → Wk h.length ⟨t, h ++ r⟩ ⟨[(8, AV.i v)], h⟩ := fun t r v hv => Wk.back hlow (Nat.le_refl _) (by simp [subT, hv]) (by simp [AV.low, V.low, C1.low])
    match m, hm, hout with
    | 0, hm, hout =>
      have hlt : ((0 : Int) ≤ ((0 : Nat) : Int) - 1) = False := eq_false (by omega)
      have hlt' : (((0 : Nat) : Int) - 1 ≥ 0) = False := eq_false (by omega)
      have hc := Nat.zero_add 0
      repeat' (first | simp only [hc, AS, NX, NPV, SX, HX, hlt, hlt', AB, PL, RG, LP, TY, simprocAttr, ↓reduceIte, forall_const, eq_self, ne_eq, Option.some.injEq, beq_self_eq_true] | ((first | apply fin_ndec | apply fin_dec | apply cnd_ndec | apply cnd_dec' | apply fin_nsplit | apply fin_split | apply cnd_nsplit | apply cnd_split) <;> intro hc) | refine seqS_id ?_ | refine blk_exit_id ?_)
      exact ⟨_, hcut _ _ (-1) (by simp [look]), [.c (.d (.int .i64 (-1)))], by simp [resAllV, resOneV, S.get, look, AV.one], by simp [resVV, hout, lastI, lasN]⟩
    | m + 1, hm, hout =>
      have em : (((m + 1 : Nat) : Int)) - 1 = (m : Int) := by omega
      have hw := wI (n := (m : Int) - 1) (by omega) (by omega)
      have hlm : m < L.length := hm
      have hlt : ((m : Int) < (L.length : Int)) = True := eq_true (by omega)
      have hlt' : ((m : Int) ≥ 0) = True := eq_true (by omega)
      obtain ⟨⟨⟨id', zo, pl, fr, ti, st, sf, sn⟩, o⟩, hx⟩ : ∃ x, L[m]? = some x := ⟨L[m], List.getElem?_eq_getElem hlm⟩
      have d1 := sc_at hx
      have hle : (m * 7 + 7 ≤ (sc L).length) = True := eq_true (by rw [sc_len]; omega)
      have hsm : (ssOf L)[m]'(by omega) = ⟨id', zo, pl, fr, ti, st, sf, sn⟩ := by
        have : (ssOf L)[m]? = some ⟨id', zo, pl, fr, ti, st, sf, sn⟩ := by simp [hx]
        rw [List.getElem?_eq_getElem (by omega)] at this
        exact Option.some.inj this
      rw [lastI_take (by omega), hsm] at hout
      have hnext : curB ⟨k1, z1, p1, t1, u1⟩ ⟨zn, zhf, zhr, zsf, zst, zgr, zfr, zdm, zsy⟩ now ⟨id', zo, pl, fr, ti, st, sf, sn⟩ = false → lastI (curB ⟨k1, z1, p1, t1, u1⟩ ⟨zn, zhf, zhr, zsf, zst, zgr, zfr, zdm, zsy⟩ now) (ssOf L) = lastI (curB ⟨k1, z1, p1, t1, u1⟩ ⟨zn, zhf, zhr, zsf, zst, zgr, zfr, zdm, zsy⟩ now) ((ssOf L).take m) := fun h => by rw [hout, h]; simp
      have hhit : curB ⟨k1, z1, p1, t1, u1⟩ ⟨zn, zhf, zhr, zsf, zst, zgr, zfr, zdm, zsy⟩ now ⟨id', zo, pl, fr, ti, st, sf, sn⟩ = true → lastI (curB ⟨k1, z1, p1, t1, u1⟩ ⟨zn, zhf, zhr, zsf, zst, zgr, zfr, zdm, zsy⟩ now) (ssOf L) = some m := fun h => by rw [hout, h]; simp
      have f2 := @sover_at ⟨zn, zhf, zhr, zsf, zst, zgr, zfr, zdm, zsy⟩ ⟨id', zo, pl, fr, ti, st, sf, sn⟩ t1
      simp only [Zon.row, Ses.row] at f2
      have hcb : curB ⟨k1, z1, p1, t1, u1⟩ ⟨zn, zhf, zhr, zsf, zst, zgr, zfr, zdm, zsy⟩ now ⟨id', zo, pl, fr, ti, st, sf, sn⟩ = (decide (zo = z1 ∧ pl = p1 ∧ st = 1) && (!now || (decide (fr ≤ t1) && !overB ⟨zn, zhf, zhr, zsf, zst, zgr, zfr, zdm, zsy⟩ ⟨id', zo, pl, fr, ti, st, sf, sn⟩ t1))) := rfl
      generalize overB ⟨zn, zhf, zhr, zsf, zst, zgr, zfr, zdm, zsy⟩ ⟨id', zo, pl, fr, ti, st, sf, sn⟩ t1 = ov at *
      have hsn : ∃ v, seenC ⟨id', zo, pl, fr, ti, st, sf, sn⟩ o = v ∧ v.toD = some (.sl sf (sn.map rowI)) := by
        cases o with
        | none => exact ⟨_, rfl, rfl⟩
        | some i =>
          have := (hL.own m _ i hx).1
          dsimp only at this
          subst this
          exact ⟨_, rfl, rfl⟩
      obtain ⟨v, hv, hvd⟩ := hsn
      simp only [scC, hv] at d1
      have next := fun (he : curB ⟨k1, z1, p1, t1, u1⟩ ⟨zn, zhf, zhr, zsf, zst, zgr, zfr, zdm, zsy⟩ now ⟨id', zo, pl, fr, ti, st, sf, sn⟩ = false) => hnext he
      have hlow2 : LowH (h ++ [.box [.d (.int .i64 k1), .d (.str z1), .d (.str p1), .d (.int .i64 t1), .d (.int .i64 u1)], .box [.d (.str zn), .d (.sl zhf (zhr.map Win.row)), .d (.sl zsf (zst.map Stf.row)), .d (.int .i64 zgr), .d (.int .i64 zfr), .d (.int .i64 zdm), .d (.int .i64 zsy)]]) := LowH.app hlow (by simp [Ob.low, C1.low])
      by_cases c1 : zo = z1
      · have b1 : (zo == z1) = true := by simpa using c1
        by_cases c2 : pl = p1
        · have b2 : (pl == p1) = true := by simpa using c2
          by_cases c3 : st = 1
          · cases hnow : now
            · subst hnow
              have hc := Nat.zero_add 0
              repeat' (first | simp only [hc, AS, NX, NPV, SX, HX, em, hrow, hlt, hlt', nn, d1, hle, Int.toNat_natCast, b1, b2, c3, AB, PL, RG, LP, TY, simprocAttr, ↓reduceIte, forall_const, eq_self, ne_eq, Option.some.injEq, beq_self_eq_true] | ((first | apply fin_ndec | apply fin_dec | apply cnd_ndec | apply cnd_dec' | apply fin_nsplit | apply fin_split | apply cnd_nsplit | apply cnd_split) <;> intro hc) | refine seqS_id ?_ | refine blk_exit_id ?_)
              exact ⟨_, hcut _ _ m (by simp [look]), [.c (.d (.int .i64 m))], by simp [resAllV, resOneV, S.get, look, AV.one], by rw [hhit (by rw [hcb]; simp [c1, c2, c3])]; rfl⟩
            · subst hnow
              by_cases c4 : fr ≤ t1
              · have c4' : (fr ≤ t1) = True := eq_true c4
                cases ho : ov
                · subst ho
                  have hc := Nat.zero_add 0
                  repeat' (first | simp only [hc, AS, NX, NPV, SX, HX, em, hrow, hlt, hlt', nn, d1, hle, Int.toNat_natCast, b1, b2, c3, c4', hvd, c3 ▸ f2, AB, PL, RG, LP, TY, simprocAttr, ↓reduceIte, forall_const, eq_self, ne_eq, Option.some.injEq, beq_self_eq_true] | ((first | apply fin_ndec | apply fin_dec | apply cnd_ndec | apply cnd_dec' | apply fin_nsplit | apply fin_split | apply cnd_nsplit | apply cnd_split) <;> intro hc) | refine seqS_id ?_ | refine blk_exit_id ?_)
                  exact ⟨_, hcut _ _ m (by simp [look]), [.c (.d (.int .i64 m))], by simp [resAllV, resOneV, S.get, look, AV.one], by rw [hhit (by rw [hcb]; simp [c1, c2, c3, c4])]; rfl⟩
                · subst ho
                  have hc := Nat.zero_add 0
                  repeat' (first | simp only [hc, AS, NX, NPV, SX, HX, em, hrow, hlt, hlt', nn, d1, hle, Int.toNat_natCast, b1, b2, c3, c4', hvd, c3 ▸ f2, hw, AB, PL, RG, LP, TY, simprocAttr, ↓reduceIte, forall_const, eq_self, ne_eq, Option.some.injEq, beq_self_eq_true] | ((first | apply fin_ndec | apply fin_dec | apply cnd_ndec | apply cnd_dec' | apply fin_nsplit | apply fin_split | apply cnd_nsplit | apply cnd_split) <;> intro hc) | refine seqS_id ?_ | refine blk_exit_id ?_)
                  exact lp_next m (Wk.back' hlow2 (by rw [happ]; rfl) (by simp) (by simp [subT, look]) (by simp [AV.low, V.low, C1.low]; have := hL.lt; omega)) ⟨by omega, hnext (by rw [hcb]; simp)⟩ (by omega)
              · have c4' : (fr ≤ t1) = False := eq_false c4
                have hc := Nat.zero_add 0
                repeat' (first | simp only [hc, AS, NX, NPV, SX, HX, em, hrow, hlt, hlt', nn, d1, hle, Int.toNat_natCast, b1, b2, c3, c4', hw, AB, PL, RG, LP, TY, simprocAttr, ↓reduceIte, forall_const, eq_self, ne_eq, Option.some.injEq, beq_self_eq_true] | ((first | apply fin_ndec | apply fin_dec | apply cnd_ndec | apply cnd_dec' | apply fin_nsplit | apply fin_split | apply cnd_nsplit | apply cnd_split) <;> intro hc) | refine seqS_id ?_ | refine blk_exit_id ?_)
                exact lp_next m (Wk.back' hlow2 (by rw [happ]; rfl) (by simp) (by simp [subT, look]) (by simp [AV.low, V.low, C1.low]; have := hL.lt; omega)) ⟨by omega, hnext (by rw [hcb]; simp [c4])⟩ (by omega)
          · skip
            have hc := Nat.zero_add 0
            repeat' (first | simp only [hc, AS, NX, NPV, SX, HX, em, hrow, hlt, hlt', nn, d1, hle, Int.toNat_natCast, b1, b2, c3, hw, AB, PL, RG, LP, TY, simprocAttr, ↓reduceIte, forall_const, eq_self, ne_eq, Option.some.injEq, beq_self_eq_true] | ((first | apply fin_ndec | apply fin_dec | apply cnd_ndec | apply cnd_dec' | apply fin_nsplit | apply fin_split | apply cnd_nsplit | apply cnd_split) <;> intro hc) | refine seqS_id ?_ | refine blk_exit_id ?_)
            exact lp_next m (Wk.back' hlow2 (by rw [happ]; rfl) (by simp) (by simp [subT, look]) (by simp [AV.low, V.low, C1.low]; have := hL.lt; omega)) ⟨by omega, hnext (by rw [hcb]; simp [c3])⟩ (by omega)
        · have b2 : (pl == p1) = false := by simpa using c2
          have hc := Nat.zero_add 0
          repeat' (first | simp only [hc, AS, NX, NPV, SX, HX, em, hrow, hlt, hlt', nn, d1, hle, Int.toNat_natCast, b1, b2, hw, AB, PL, RG, LP, TY, simprocAttr, ↓reduceIte, forall_const, eq_self, ne_eq, Option.some.injEq, beq_self_eq_true] | ((first | apply fin_ndec | apply fin_dec | apply cnd_ndec | apply cnd_dec' | apply fin_nsplit | apply fin_split | apply cnd_nsplit | apply cnd_split) <;> intro hc) | refine seqS_id ?_ | refine blk_exit_id ?_)
          exact lp_next m (Wk.back' hlow2 (by rw [happ]; rfl) (by simp) (by simp [subT, look]) (by simp [AV.low, V.low, C1.low]; have := hL.lt; omega)) ⟨by omega, hnext (by rw [hcb]; simp [c2])⟩ (by omega)
      · have b1 : (zo == z1) = false := by simpa using c1
        have hc := Nat.zero_add 0
        repeat' (first | simp only [hc, AS, NX, NPV, SX, HX, em, hrow, hlt, hlt', nn, d1, hle, Int.toNat_natCast, b1, hw, AB, PL, RG, LP, TY, simprocAttr, ↓reduceIte, forall_const, eq_self, ne_eq, Option.some.injEq, beq_self_eq_true] | ((first | apply fin_ndec | apply fin_dec | apply cnd_ndec | apply cnd_dec' | apply fin_nsplit | apply fin_split | apply cnd_nsplit | apply cnd_split) <;> intro hc) | refine seqS_id ?_ | refine blk_exit_id ?_)
        exact lp_next m (Wk.back' hlow2 (by rw [happ]; rfl) (by simp) (by simp [subT, look]) (by simp [AV.low, V.low, C1.low]; have := hL.lt; omega)) ⟨by omega, hnext (by rw [hcb]; simp [c1])⟩ (by omega)
  · cases hg

end
end Go.Ab
