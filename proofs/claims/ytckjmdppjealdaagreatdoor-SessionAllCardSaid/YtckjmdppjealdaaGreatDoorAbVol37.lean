/-
  Texts of the layer and of the laws, put together: AbU14. No law is stated here.
-/
import Derived.Test.YtckjmdppjealdaaGreatDoorAbVol36
set_option linter.unusedSimpArgs false
set_option linter.unusedVariables false
set_option maxRecDepth 100000

/-
  session.see.
-/
namespace Go.Ab
open Go.RowKit Go.Proofs

theorem LiveS.lowC {h : Hp} {id : Nat} {L : List SesO} (hL : LiveS h id L) : ((sc L).all (C1.low h.length)) = true := by
  rw [List.all_eq_true]
  intro c hc
  simp only [sc, List.mem_flatMap] at hc
  obtain ⟨⟨s, o⟩, hx, hc⟩ := hc
  obtain ⟨k, hk⟩ := List.getElem?_of_mem hx
  cases o with
  | none =>
    simp only [scC, seenC, List.mem_cons, List.not_mem_nil, or_false] at hc
    rcases hc with rfl | rfl | rfl | rfl | rfl | rfl | rfl <;> rfl
  | some i =>
    have := lt_of_get (hL.own k s i hk).2
    simp only [scC, seenC, List.mem_cons, List.not_mem_nil, or_false] at hc
    rcases hc with rfl | rfl | rfl | rfl | rfl | rfl | rfl <;> first | rfl | (simp [C1.low]; omega)

abbrev rowO (L : List SesO) : Ob := .tok L.length 7 (some (sc L))
theorem stP_ses {h : Hp} {id k : Nat} {L : List SesO} {x x' : SesO} (hx : L[k]? = some x) {j : Nat} (hj : j < 7) {v : C1} (hs : (scC x).set j v = scC x') :
    stP h id (k * 7 + j) L.length 7 (sc L) (some [v]) (some 1) = some (h.set id (rowO (L.set k x'))) := by
  have hk := lt_of_get hx
  rw [stP_ok (dx := [v]) (k := 1) (eq_true rfl) (eq_true (by rw [sc_len]; omega))]
  unfold setAt
  rw [rowO, List.length_set, ← sc_put hx hj hs]
  rfl

abbrev topsP : Ob := .box [.top, .top, .top, .top, .top]
abbrev topsZ : Ob := .box [.top, .top, .top, .top, .top, .top, .top]
def seenS (s : Ses) (t : Int) : Ses := { s with sf := false, seen := s.seen ++ [t] }
/-- What is seen: the sessions, and the heap; n: where a first thing seen would lie; g: what stands between. -/
def seeO (h : Hp) (id n : Nat) (g : Hp) (L : List SesO) (p : Par) (z : Zon) : List SesO × Hp :=
  match lastI (curB p z false) (ssOf L) with
  | none => (L, h)
  | some k => match L[k]? with
    | none => (L, h)
    | some (s, o) =>
      if overB z s p.time = true then (L.set k ({ s with state := 3 }, o), h.set id (rowO (L.set k ({ s with state := 3 }, o))))
      else if s.fr ≤ p.time then (match o with
        | none => (L.set k (seenS s p.time, some n), h.set id (rowO (L.set k (seenS s p.time, some n))) ++ (g ++ [.tok 1 1 none]))
        | some i => (L.set k (seenS s p.time, some i), (h.set i (.tok (s.seen.length + 1) 1 none)).set id (rowO (L.set k (seenS s p.time, some i)))))
      else (L, h)

structure SeA where
  h : Hp
  id : Nat
  L : List SesO
  p : Par
  z : Zon
def seR (a : SeA) (args : List AV) (h : Hp) : Prop := args = [.v (.c (.msl a.id a.L.length)), a.p.av, a.z.av] ∧ h = a.h ∧ LiveS a.h a.id a.L ∧ LowH a.h
theorem seR_inj {a b : SeA} {args : List AV} {h : Hp} (ha : seR a args h) (hb : seR b args h) : b = a := by
  obtain ⟨a1, a2, a3, a4, a5⟩ := a
  obtain ⟨b1, b2, b3, b4, b5⟩ := b
  obtain ⟨h1, h2, h3, h4⟩ := ha
  obtain ⟨g1, g2, g3, g4⟩ := hb
  have := rnR_inj (a := ⟨a1, a2, a3, a4, a5, true⟩) (b := ⟨b1, b2, b3, b4, b5, true⟩) (args := args ++ [AV.b true]) (h := h) ⟨by rw [h1]; rfl, h2, h3, h4⟩ ⟨by rw [g1]; rfl, g2, g3, g4⟩
  cases this
  rfl

noncomputable section
open Classical

theorem srun_at {h : Hp} {id : Nat} {L : List SesO} {p : Par} {z : Zon} {now : Bool} (hL : LiveS h id L) (hh : LowH h) (hl : L.length ≤ 1000000000) :
    srun_k [.v (.c (.msl id L.length)), p.av, z.av, AV.b now] h = some (.ret (AV.i (lasN (lastI (curB p z now) (ssOf L)))) h) := by
  have := kR_eq (R := rnR) (g := fun a : RnA => if a.L.length ≤ 1000000000 then some (.ret (AV.i (lasN (lastI (curB a.p a.z a.now) (ssOf a.L)))) a.h) else none) (a := ⟨h, id, L, p, z, now⟩)
    (args := [.v (.c (.msl id L.length)), p.av, z.av, AV.b now]) (h := h) (fun b hb => by rw [rnR_inj (a := ⟨h, id, L, p, z, now⟩) ⟨rfl, rfl, hL, hh⟩ hb]) ⟨rfl, rfl, hL, hh⟩
  exact this.trans (if_pos hl)

def ssee_k : List AV → Hp → Option COut := kR seR fun a => if a.L.length ≤ 1000000000 ∧ ∀ x ∈ a.L, x.1.seen.length ≤ 1000000000 then some (.ret (.tup []) (seeO a.h a.id (a.h.length + 2) [topsP, topsZ] a.L a.p a.z).2) else none

theorem ssee_kok : ImpC Tryz.prog Gt 68 ssee_k := by
  intro args h out h0
  refine fok_of_awpSW (X := ctxN Tryz.prog Gt [(58, sover_m)] [(67, srun_k)] [] none (uL [60])) Tryz.func68 rfl rfl (by kernel_rfl) (by kernel_rfl) (kok_n (AllOk.cons sover_ok AllOk.nil) (AllK.cons srun_kok AllK.nil) AllN.nil) ?_ ?_
  · obtain ⟨a, ⟨rfl, _⟩, _⟩ := kR_inv h0
    exact Nat.le_of_ble_eq_true rfl
  obtain ⟨⟨h', id, L, p, z⟩, ⟨rfl, rfl, hL, hlow⟩, hg⟩ := kR_inv h0
  dsimp only at hL hlow hg ⊢
  split at hg
  · rename_i hlen
    obtain ⟨hlen, hsn⟩ := hlen
    cases hg
    have hidl := hL.lt
    have hrow : ∀ r : Hp, (h ++ r)[id]? = some (.tok L.length 7 (some (sc L))) := fun r => get_ext hL.row
    have hset : ∀ (r : Hp) (o : Ob), (h ++ r).set id o = h.set id o ++ r := fun r o => List.set_append_left _ _ hidl
    have hcut : ∀ (t : List (Nat × AV)) (r : Hp), Wk h.length ⟨t, h ++ r⟩ ⟨[], h⟩ := fun t r => Wk.back hlow (Nat.le_refl _) (by simp [subT]) rfl
    have f1 := srun_at (h := h ++ [.box (p.row.map .d), .box (z.row.map .d)]) (p := p) (z := z) (now := false) hL.ext (LowH.app hlow (by simp [Ob.low, Par.row, Zon.row, C1.low])) hlen
    have hS : seeO h id (h.length + 2) [topsP, topsZ] L p z = seeO h id (h.length + 2) [topsP, topsZ] L p z := rfl
    conv at hS => rhs; unfold seeO
    generalize hR : seeO h id (h.length + 2) [topsP, topsZ] L p z = R at *
    have hov := fun s => @sover_at z s p.time
    obtain ⟨k1, z1, p1, t1, u1⟩ := p
    cases hla : lastI (curB ⟨k1, z1, p1, t1, u1⟩ z false) (ssOf L) with
    | none =>
      rw [hla] at f1 hS
      obtain ⟨zn, zhf, zhr, zsf, zst, zgr, zfr, zdm, zsy⟩ := z
      simp only [Par.av, Zon.av, lasN, Par.row, Zon.row, List.map_cons, List.map_nil] at f1
      dsimp only at hS
      subst hS
      have hc := Nat.zero_add 0
      repeat' (first | simp only [hc, AS, Tryz.f68, NX, NPV, SX, HX, Par.row, Zon.row, List.map_cons, List.map_nil, f1, AB, PL, RG, LP, TY, simprocAttr, ↓reduceIte, forall_const, eq_self, ne_eq, Option.some.injEq, beq_self_eq_true] | ((first | apply fin_ndec | apply fin_dec | apply cnd_ndec | apply cnd_dec' | apply fin_nsplit | apply fin_split | apply cnd_nsplit | apply cnd_split) <;> intro hc) | refine seqS_id ?_ | refine blk_exit_id ?_)
      exact ⟨_, hcut _ _, [], rfl, rfl⟩
    | some k =>
      rw [hla] at f1 hS
      obtain ⟨x, hx, hcur⟩ := lastI_some hla
      obtain ⟨⟨⟨id', zo, pl, fr, ti, st, sf, sn⟩, o⟩, hx⟩ : ∃ x, L[k]? = some x := by
        simp only [List.getElem?_map, Option.map_eq_some_iff] at hx
        obtain ⟨y, hy, _⟩ := hx
        exact ⟨y, hy⟩
      dsimp only at hS
      rw [hx] at hS
      dsimp only at hS
      have hkl := lt_of_get hx
      have hov := hov ⟨id', zo, pl, fr, ti, st, sf, sn⟩
      generalize overB z ⟨id', zo, pl, fr, ti, st, sf, sn⟩ t1 = ov at *
      obtain ⟨zn, zhf, zhr, zsf, zst, zgr, zfr, zdm, zsy⟩ := z
      simp only [Par.av, Zon.av, lasN, Par.row, Zon.row, Ses.row, List.map_cons, List.map_nil] at f1 hov
      have hlt : ((k : Int) < (L.length : Int)) = True := eq_true (by omega)
      have hlt0 : ((k : Int) < 0) = False := eq_false (by omega)
      have d1 := sc_at hx
      have hle : (k * 7 + 7 ≤ (sc L).length) = True := eq_true (by rw [sc_len]; omega)
      have hsn' : ∃ v, seenC ⟨id', zo, pl, fr, ti, st, sf, sn⟩ o = v ∧ v.toD = some (.sl sf (sn.map rowI)) := by
        cases o with
        | none => exact ⟨_, rfl, rfl⟩
        | some i =>
          have := (hL.own k _ i hx).1
          dsimp only at this
          subst this
          exact ⟨_, rfl, rfl⟩
      obtain ⟨v, hv, hvd⟩ := hsn'
      simp only [scC, hv] at d1
      cases ov with
      | true =>
        rw [if_pos rfl] at hS
        subst hS
        have hL' := hL.put hx (s' := ⟨id', zo, pl, fr, ti, 3, sf, sn⟩) rfl rfl
        have hlow' : LowH (h.set id (rowO (L.set k (⟨id', zo, pl, fr, ti, 3, sf, sn⟩, o)))) := LowH.set hlow (by have := hL'.lowC; rw [List.length_set] at this; exact this)
        have hput := fun h => stP_ses (h := h) (id := id) hx (j := 5) (by decide) (v := .d (.int .i64 3)) (x' := (⟨id', zo, pl, fr, ti, 3, sf, sn⟩, o)) rfl
        have hc := Nat.zero_add 0
        repeat' (first | simp only [hc, AS, Tryz.f68, NX, NPV, SX, HX, Par.row, Zon.row, List.map_cons, List.map_nil, f1, hlt, hlt0, nn, d1, hle, hrow, hset, hvd, hov, Int.toNat_natCast, hput, AB, PL, RG, LP, TY, simprocAttr, ↓reduceIte, forall_const, eq_self, ne_eq, Option.some.injEq, beq_self_eq_true] | ((first | apply fin_ndec | apply fin_dec | apply cnd_ndec | apply cnd_dec' | apply fin_nsplit | apply fin_split | apply cnd_nsplit | apply cnd_split) <;> intro hc) | refine seqS_id ?_ | refine blk_exit_id ?_)
        exact ⟨_, Wk.back hlow' (by simp) (t' := []) (by simp [subT]) rfl, [], rfl, rfl⟩
      | false =>
        rw [if_neg (by decide)] at hS
        have hc3 := sc_cell hx (j := 3) (by decide)
        have hc6 := sc_cell hx (j := 6) (by decide)
        simp only [scC, hv, List.getElem?_cons_succ, List.getElem?_cons_zero] at hc3 hc6
        by_cases c4 : fr ≤ t1
        · have c4' : (fr ≤ t1) = True := eq_true c4
          rw [if_pos c4] at hS
          cases o with
          | none =>
            dsimp only at hS
            subst hS
            obtain ⟨e1, e2⟩ := hL.non k _ hx
            dsimp only at e1 e2
            subst e1 e2 hv
            have ap := fun h => @apSl_new h 1 8 [[.int .i64 t1]] (by simp [allLen]) (by simp) (by simp)
            have hput := fun h' => stP_ses (h := h') (id := id) hx (j := 6) (by decide) (v := .own (h.length + 2) [[.int .i64 t1]]) (x' := (seenS ⟨id', zo, pl, fr, ti, st, true, []⟩ t1, some (h.length + 2))) rfl
            simp only [seenC, List.map_nil] at hc6 d1 hov
            have w1 : ∀ (g : Hp) (a b c d e : C1), Wk h.length ⟨[], (h.set id (rowO (L.set k (seenS ⟨id', zo, pl, fr, ti, st, true, []⟩ t1, some (h.length + 2))))) ++ .box [a, b, c, d, e] :: g⟩ ⟨[], (h.set id (rowO (L.set k (seenS ⟨id', zo, pl, fr, ti, st, true, []⟩ t1, some (h.length + 2))))) ++ topsP :: g⟩ := fun g a b c d e => Wk.tops (id := h.length) (cs := [a, b, c, d, e]) (by simp) trivial rfl (by simp)
            have w2 : ∀ (g : Hp) (o : Ob) (a b c d e f e2 : C1), Wk h.length ⟨[], (h.set id (rowO (L.set k (seenS ⟨id', zo, pl, fr, ti, st, true, []⟩ t1, some (h.length + 2))))) ++ o :: .box [a, b, c, d, e, f, e2] :: g⟩ ⟨[], (h.set id (rowO (L.set k (seenS ⟨id', zo, pl, fr, ti, st, true, []⟩ t1, some (h.length + 2))))) ++ o :: topsZ :: g⟩ := fun g o a b c d e f e2 => Wk.tops (id := h.length + 1) (cs := [a, b, c, d, e, f, e2]) (by simp) trivial rfl (by simp)
            have hc := Nat.zero_add 0
            repeat' (first | simp only [hc, AS, Tryz.f68, NX, NPV, SX, HX, Par.row, Zon.row, List.map_cons, List.map_nil, f1, hlt, hlt0, nn, d1, hle, hrow, hset, hov, Int.toNat_natCast, hc3, hc6, c4', List.map_nil, hput, ap, AB, PL, RG, LP, TY, simprocAttr, ↓reduceIte, forall_const, eq_self, ne_eq, Option.some.injEq, beq_self_eq_true] | ((first | apply fin_ndec | apply fin_dec | apply cnd_ndec | apply cnd_dec' | apply fin_nsplit | apply fin_split | apply cnd_nsplit | apply cnd_split) <;> intro hc) | refine seqS_id ?_ | refine blk_exit_id ?_)
            exact ⟨_, (Wk.sub (t' := []) (by simp [subT])).trans ((w1 _ _ _ _ _ _).trans (w2 _ _ _ _ _ _ _ _ _)), [], rfl, rfl⟩
          | some i =>
            dsimp only at hS
            subst hS
            obtain ⟨e1, e2⟩ := hL.own k _ i hx
            dsimp only at e1 e2
            subst e1 hv
            have hil := lt_of_get e2
            have hne := hL.ne hx
            have hsnl : sn.length ≤ 1000000000 := hsn _ (List.mem_of_getElem? hx)
            have hgi : ∀ r : Hp, (h ++ r)[i]? = some (.tok sn.length 1 none) := fun r => get_ext e2
            have hseti : ∀ (r : Hp) (o : Ob), (h ++ r).set i o = h.set i o ++ r := fun r o => List.set_append_left _ _ hil
            have hset2 : ∀ (r : Hp) (o o' : Ob), (h.set i o' ++ r).set id o = (h.set i o').set id o ++ r := fun r o o' => List.set_append_left _ _ (by simpa using hidl)
            have hrow2 : ∀ (r : Hp) (o : Ob), (h.set i o ++ r)[id]? = some (.tok L.length 7 (some (sc L))) := fun r o => get_ext (by rw [List.getElem?_set_ne hne]; exact hL.row)
            have ap : ∀ h : Hp, apTok h i 1 8 (sn.map rowI) [[.int .i64 t1]] (some (.tok sn.length 1 none)) = some (.v (.c (.own i (sn.map rowI ++ [[.int .i64 t1]]))), h.set i (.tok (sn.length + 1) 1 none)) := fun h => by
              rw [apTok_ok (eq_true (by simp)) (eq_true (by simp [allLen])) (eq_true (by simp; omega)) (eq_true (by simp; omega))]
              simp
            have hput := fun h' => stP_ses (h := h') (id := id) hx (j := 6) (by decide) (v := .own i (sn.map rowI ++ [[.int .i64 t1]])) (x' := (seenS ⟨id', zo, pl, fr, ti, st, false, sn⟩ t1, some i)) (by simp [scC, seenC, seenS, rowI])
            have hL' := hL.see1 hx (s' := seenS ⟨id', zo, pl, fr, ti, st, false, sn⟩ t1) rfl
            simp only [seenC] at hc6 d1 hov
            have hc := Nat.zero_add 0
            repeat' (first | simp only [hc, AS, Tryz.f68, NX, NPV, SX, HX, Par.row, Zon.row, List.map_cons, List.map_nil, f1, hlt, hlt0, nn, d1, hle, hrow, hset, hov, Int.toNat_natCast, hc3, hc6, c4', List.map_nil, hput, ap, hgi, hseti, hset2, hrow2, AB, PL, RG, LP, TY, simprocAttr, ↓reduceIte, forall_const, eq_self, ne_eq, Option.some.injEq, beq_self_eq_true] | ((first | apply fin_ndec | apply fin_dec | apply cnd_ndec | apply cnd_dec' | apply fin_nsplit | apply fin_split | apply cnd_nsplit | apply cnd_split) <;> intro hc) | refine seqS_id ?_ | refine blk_exit_id ?_)
            have hlow' : LowH ((h.set i (.tok (sn.length + 1) 1 none)).set id (rowO (L.set k (seenS ⟨id', zo, pl, fr, ti, st, false, sn⟩ t1, some i)))) := LowH.set (LowH.set hlow rfl) (by have := hL'.lowC; rw [List.length_set, List.length_set] at this; rw [List.length_set]; exact this)
            exact ⟨_, Wk.back hlow' (by simp) (t' := []) (by simp [subT]) rfl, [], rfl, rfl⟩
        · have c4' : (fr ≤ t1) = False := eq_false c4
          rw [if_neg c4] at hS
          subst hS
          have hc := Nat.zero_add 0
          repeat' (first | simp only [hc, AS, Tryz.f68, NX, NPV, SX, HX, Par.row, Zon.row, List.map_cons, List.map_nil, f1, hlt, hlt0, nn, d1, hle, hrow, hset, hvd, hov, Int.toNat_natCast, hc3, c4', AB, PL, RG, LP, TY, simprocAttr, ↓reduceIte, forall_const, eq_self, ne_eq, Option.some.injEq, beq_self_eq_true] | ((first | apply fin_ndec | apply fin_dec | apply cnd_ndec | apply cnd_dec' | apply fin_nsplit | apply fin_split | apply cnd_nsplit | apply cnd_split) <;> intro hc) | refine seqS_id ?_ | refine blk_exit_id ?_)
          exact ⟨_, hcut _ _, [], rfl, rfl⟩
  · cases hg

end
end Go.Ab
