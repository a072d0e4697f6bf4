/-
  Texts of the layer and of the laws, put together: AbU23. No law is stated here.
-/
import Derived.Test.YtckjmdppjealdaaGreatDoorAbVol44
set_option linter.unusedSimpArgs false
set_option linter.unusedVariables false
set_option maxRecDepth 100000

/-
  Sessions, the reference's reading: extend, seen.
-/
namespace Go.Ab
open Go.RowKit Go.Proofs

structure ExA where
  h : Hp
  f : Bool
  l : List Ses
  p : Par
  z : Zon
  k : Nat
def exR (a : ExA) (args : List AV) (h : Hp) : Prop := args = [.v (.c (.d (.sl a.f (a.l.map Ses.row)))), a.p.av, a.z.av, AV.i a.k] ∧ h = a.h
theorem exR_inj {a b : ExA} {args : List AV} {h : Hp} (ha : exR a args h) (hb : exR b args h) : b = a := by
  obtain ⟨a1, a2, a3, a4, a5, a6⟩ := a
  obtain ⟨b1, b2, b3, b4, b5, b6⟩ := b
  obtain ⟨h1, h2⟩ := ha
  obtain ⟨g1, g2⟩ := hb
  dsimp only at *
  subst h2 g2
  rw [h1] at g1
  simp only [List.cons.injEq, AV.v.injEq, V.c.injEq, C1.d.injEq, D.sl.injEq, V.agg.injEq, D.int.injEq, true_and, and_true, Int.natCast_inj] at g1
  obtain ⟨⟨rfl, g3⟩, g5, g6, rfl⟩ := g1
  have e1 : a4.row = b4.row := map_inj (fun x y h => by cases h; rfl) g5
  have e2 : a5.row = b5.row := map_inj (fun x y h => by cases h; rfl) g6
  rw [mapS_inj.1 g3, Par.inj _ _ e1, Zon.inj _ _ e2]
def boxPZ (p : Par) (z : Zon) : Hp := [.box (p.row.map .d), .box (z.row.map .d)]
/-- One session paid for longer. -/
def exO (L : List SesO) (k : Nat) (t : Int) : List SesO := match L[k]? with
  | none => L
  | some (s, o) => L.set k ({ s with til := t }, o)
def xtR (a : ExA) (s : Ses) : COut :=
  if a.p.til ≤ s.til then .ret (.tup [.c (.d (.sl a.f (a.l.map Ses.row))), .c (.d (.int .i64 15))]) (a.h ++ boxPZ a.p a.z)
  else if a.z.stay ≠ 0 ∧ s.fr < a.p.til - a.z.stay then .ret (.tup [.c (.d (.sl a.f (a.l.map Ses.row))), .c (.d (.int .i64 3))]) (a.h ++ boxPZ a.p a.z)
  else .ret (.tup [.c (.msl (a.h.length + 2) a.l.length), .c (.d (.int .i64 0))]) ((rcpH (a.h ++ boxPZ a.p a.z) a.l).set (a.h.length + 2) (rowO (exO (rcpL (a.h.length + 3) a.l) a.k a.p.til)))

structure SnA where
  h : Hp
  f : Bool
  l : List Ses
  p : Par
  z : Zon
def snR (a : SnA) (args : List AV) (h : Hp) : Prop := args = [.v (.c (.d (.sl a.f (a.l.map Ses.row)))), a.p.av, a.z.av] ∧ h = a.h
theorem snR_inj {a b : SnA} {args : List AV} {h : Hp} (ha : snR a args h) (hb : snR b args h) : b = a := by
  obtain ⟨a1, a2, a3, a4, a5⟩ := a
  obtain ⟨b1, b2, b3, b4, b5⟩ := b
  have := exR_inj (a := ⟨a1, a2, a3, a4, a5, 0⟩) (b := ⟨b1, b2, b3, b4, b5, 0⟩) (args := args ++ [AV.i (0 : Nat)]) (h := h) ⟨by rw [ha.1]; rfl, ha.2⟩ ⟨by rw [hb.1]; rfl, hb.2⟩
  cases this
  rfl

noncomputable section
open Classical

theorem rcopied_at {h : Hp} {f : Bool} {l : List Ses} (h1 : l.length ≤ 1000000000) (h2 : ∀ s ∈ l, s.seen.length ≤ 1000000000) : rcopied_k [.v (.c (.d (.sl f (l.map Ses.row))))] h = some (.ret (.v (.c (.msl h.length l.length))) (rcpH h l)) := by
  have := kR_eq (R := cpRl) (g := fun a : CpA => if a.l.length ≤ 1000000000 ∧ ∀ s ∈ a.l, s.seen.length ≤ 1000000000 then some (COut.ret (.v (.c (.msl a.h.length a.l.length))) (rcpH a.h a.l)) else none) (a := ⟨h, f, l⟩)
    (args := [.v (.c (.d (.sl f (l.map Ses.row))))]) (h := h) (fun b hb => by rw [cpRl_inj (a := ⟨h, f, l⟩) ⟨rfl, rfl⟩ hb]) ⟨rfl, rfl⟩
  exact this.trans (if_pos ⟨h1, h2⟩)

def rextend_k : List AV → Hp → Option COut := kR exR fun a => (a.l[a.k]?).bind fun s => if a.l.length ≤ 1000000000 ∧ (∀ s ∈ a.l, s.seen.length ≤ 1000000000) ∧ IntKind.i64.wrap (a.p.til - a.z.stay) = a.p.til - a.z.stay then some (xtR a s) else none
def rseen_k : List AV → Hp → Option COut := kR snR fun a => if a.l.length ≤ 1000000000 ∧ ∀ s ∈ a.l, s.seen.length ≤ 1000000000 then
  some (.ret (.v (.c (.msl (a.h.length + 2) a.l.length))) (seeO (rcpH (a.h ++ boxPZ a.p a.z) a.l) (a.h.length + 2) (rcpH (a.h ++ boxPZ a.p a.z) a.l).length [] (rcpL (a.h.length + 3) a.l) a.p a.z).2) else none

set_option maxHeartbeats 2000000 in
theorem rextend_kok : ImpC Tryz.prog Gt 39 rextend_k := by
  intro args h out h0
  refine fok_of_awpSW (X := ctxN Tryz.prog Gt [] [(37, rcopied_k)] [] none (uL [60])) Tryz.func39 rfl rfl (by kernel_rfl) (by kernel_rfl) (kok_n AllOk.nil (AllK.cons rcopied_kok AllK.nil) AllN.nil) ?_ ?_
  · obtain ⟨a, ⟨rfl, _⟩, _⟩ := kR_inv h0
    exact Nat.le_of_ble_eq_true rfl
  obtain ⟨⟨h', f, l, p, z, k⟩, ⟨rfl, rfl⟩, hg⟩ := kR_inv h0
  simp only [Option.bind_eq_some_iff] at hg
  obtain ⟨s, hs, hg⟩ := hg
  split at hg
  · rename_i hc
    obtain ⟨hlen, hsn, hwz⟩ := hc
    dsimp only at hlen hsn hwz hs hg ⊢
    simp only [Option.some.injEq] at hg
    have hkl := lt_of_get hs
    have l1 := @lenSs l
    have hcp := rcpL_live (h := h ++ boxPZ p z) (l := l)
    have f1 := rcopied_at (h := h ++ boxPZ p z) (f := f) hlen hsn
    have hsk : l[k] = s := by rw [List.getElem?_eq_getElem hkl] at hs; exact Option.some.inj hs
    have e1 := ss_at hkl
    rw [hsk] at e1
    have hL0 : (rcpL (h.length + 3) l).length = l.length := rcpL_len _ _
    have eh : (h ++ boxPZ p z).length = h.length + 2 := by simp [boxPZ]
    have hb4 : (rcpH (h ++ boxPZ p z) l)[h.length]? = some (.box (p.row.map .d)) := get_ext (by simp [boxPZ])
    rw [eh] at hcp f1
    have hk2 : k < (rcpL (h.length + 3) l).length := by omega
    obtain ⟨x, hx⟩ : ∃ x, (rcpL (h.length + 3) l)[k]? = some x := ⟨_, List.getElem?_eq_getElem hk2⟩
    unfold xtR at hg
    dsimp only at hg
    generalize hH : rcpH (h ++ boxPZ p z) l = H at *
    generalize hLL : rcpL (h.length + 3) l = L at *
    have hrow : H[h.length + 2]? = some (.tok L.length 7 (some (sc L))) := hcp.row
    rw [← hL0] at f1 hg
    obtain ⟨x1, x2⟩ := x
    have hput := fun h' => stP_ses (h := h') (id := h.length + 2) hx (j := 4) (by decide) (v := .d (.int .i64 p.til)) (x' := ({ x1 with til := p.til }, x2)) (by obtain ⟨⟩ := x1; cases x2 <;> rfl)
    have hex : exO L k p.til = L.set k ({ x1 with til := p.til }, x2) := by unfold exO; rw [hx]
    rw [hex] at hg
    have hlt : ((k : Int) < (L.length : Int)) = True := eq_true (by omega)
    obtain ⟨k1, z1, p1, t1, u1⟩ := p
    obtain ⟨zn, zhf, zhr, zsf, zst, zgr, zfr, zdm, zsy⟩ := z
    obtain ⟨id, zo, pl, fr, ti, st, sf, sn⟩ := s
    simp only [boxPZ, Par.row, Zon.row, List.map_cons, List.map_nil] at f1 hg hb4
    dsimp only at hwz hput e1 hg
    by_cases c1 : u1 ≤ ti
    · rw [if_pos c1] at hg
      subst hg
      have hc := Nat.zero_add 0
      repeat' (first | simp only [hc, AS, Tryz.f39, NX, NPV, SX, HX, Par.row, Zon.row, List.map_cons, List.map_nil, l1, e1, nn, Int.toNat_natCast, c1, AB, PL, RG, LP, TY, simprocAttr, ↓reduceIte, forall_const, eq_self, ne_eq, Option.some.injEq, beq_self_eq_true] | ((first | apply fin_ndec | apply fin_dec | apply cnd_ndec | apply cnd_dec' | apply fin_nsplit | apply fin_split | apply cnd_nsplit | apply cnd_split) <;> intro hc) | refine seqS_id ?_ | refine blk_exit_id ?_)
      exact ⟨_, Wk.refl, [.c (.d (.sl f (l.map Ses.row))), .c (.d (.int .i64 15))], by simp [resAllV, resOneV, S.get, look, AV.one], by simp [resVV]⟩
    · rw [if_neg c1] at hg
      by_cases c2 : zsy = 0
      · rw [if_neg (by simp [c2])] at hg
        subst hg
        subst c2
        have hc := Nat.zero_add 0
        repeat' (first | simp only [hc, AS, Tryz.f39, NX, NPV, SX, HX, Par.row, Zon.row, List.map_cons, List.map_nil, l1, e1, nn, Int.toNat_natCast, c1, f1, hlt, hrow, hput, hb4, AB, PL, RG, LP, TY, simprocAttr, ↓reduceIte, forall_const, eq_self, ne_eq, Option.some.injEq, beq_self_eq_true] | ((first | apply fin_ndec | apply fin_dec | apply cnd_ndec | apply cnd_dec' | apply fin_nsplit | apply fin_split | apply cnd_nsplit | apply cnd_split) <;> intro hc) | refine seqS_id ?_ | refine blk_exit_id ?_)
        exact ⟨_, Wk.refl, [.c (.msl (h.length + 2) L.length), .c (.d (.int .i64 0))], by simp [resAllV, resOneV, S.get, look, AV.one], by simp [resVV]⟩
      · have c2' : (zsy = 0) = False := eq_false c2
        by_cases c3 : fr < u1 - zsy
        · rw [if_pos ⟨c2, c3⟩] at hg
          subst hg
          have hc := Nat.zero_add 0
          repeat' (first | simp only [hc, AS, Tryz.f39, NX, NPV, SX, HX, Par.row, Zon.row, List.map_cons, List.map_nil, l1, e1, nn, Int.toNat_natCast, c1, c2', hwz, c3, AB, PL, RG, LP, TY, simprocAttr, ↓reduceIte, forall_const, eq_self, ne_eq, Option.some.injEq, beq_self_eq_true] | ((first | apply fin_ndec | apply fin_dec | apply cnd_ndec | apply cnd_dec' | apply fin_nsplit | apply fin_split | apply cnd_nsplit | apply cnd_split) <;> intro hc) | refine seqS_id ?_ | refine blk_exit_id ?_)
          exact ⟨_, Wk.refl, [.c (.d (.sl f (l.map Ses.row))), .c (.d (.int .i64 3))], by simp [resAllV, resOneV, S.get, look, AV.one], by simp [resVV]⟩
        · rw [if_neg (fun h => c3 h.2)] at hg
          subst hg
          have hc := Nat.zero_add 0
          repeat' (first | simp only [hc, AS, Tryz.f39, NX, NPV, SX, HX, Par.row, Zon.row, List.map_cons, List.map_nil, l1, e1, nn, Int.toNat_natCast, c1, c2', hwz, c3, f1, hlt, hrow, hput, hb4, AB, PL, RG, LP, TY, simprocAttr, ↓reduceIte, forall_const, eq_self, ne_eq, Option.some.injEq, beq_self_eq_true] | ((first | apply fin_ndec | apply fin_dec | apply cnd_ndec | apply cnd_dec' | apply fin_nsplit | apply fin_split | apply cnd_nsplit | apply cnd_split) <;> intro hc) | refine seqS_id ?_ | refine blk_exit_id ?_)
          exact ⟨_, Wk.refl, [.c (.msl (h.length + 2) L.length), .c (.d (.int .i64 0))], by simp [resAllV, resOneV, S.get, look, AV.one], by simp [resVV]⟩
  · cases hg

set_option maxHeartbeats 2000000 in
theorem rseen_kok : ImpC Tryz.prog Gt 40 rseen_k := by
  intro args h out h0
  refine fok_of_awpSW (X := ctxN Tryz.prog Gt [(75, rmine_m)] [(37, rcopied_k)] [] none (uL [60])) Tryz.func40 rfl rfl (by kernel_rfl) (by kernel_rfl) (kok_n (AllOk.cons rmine_ok AllOk.nil) (AllK.cons rcopied_kok AllK.nil) AllN.nil) ?_ ?_
  · obtain ⟨a, ⟨rfl, _⟩, _⟩ := kR_inv h0
    exact Nat.le_of_ble_eq_true rfl
  obtain ⟨⟨h', f, l, p, z⟩, ⟨rfl, rfl⟩, hg⟩ := kR_inv h0
  dsimp only at hg
  split at hg
  · rename_i hc
    obtain ⟨hlen, hsn⟩ := hc
    dsimp only at hlen hsn hg ⊢
    cases hg
    have l1 := @lenSs l
    have hL := rcpL_live (h := h ++ boxPZ p z) (l := l)
    have f1 := rcopied_at (h := h ++ boxPZ p z) (f := f) hlen hsn
    have hL0 : (rcpL (h.length + 3) l).length = l.length := rcpL_len _ _
    have hss : ssOf (rcpL (h.length + 3) l) = l.map cpS := rcpL_ss
    have eh : (h ++ boxPZ p z).length = h.length + 2 := by simp [boxPZ]
    have hb4 : (rcpH (h ++ boxPZ p z) l)[h.length]? = some (.box (p.row.map .d)) := get_ext (by simp [boxPZ])
    have hb5 : (rcpH (h ++ boxPZ p z) l)[h.length + 1]? = some (.box (z.row.map .d)) := get_ext (by simp [boxPZ])
    rw [eh] at hL f1
    have hsnL : ∀ x ∈ rcpL (h.length + 3) l, x.1.seen.length ≤ 1000000000 := fun x hx => by
      have : x.1 ∈ ssOf (rcpL (h.length + 3) l) := List.mem_map.2 ⟨x, hx, rfl⟩
      rw [hss] at this
      obtain ⟨s, hs, he⟩ := List.mem_map.1 this
      rw [← he]
      exact hsn s hs
    generalize hH : rcpH (h ++ boxPZ p z) l = H at *
    generalize hLL : rcpL (h.length + 3) l = L at *
    have hC : ∀ s, curB p z false s = mineB s p := cur_mine p z
    have hla : lastI (curB p z false) (ssOf L) = lastI (curB p z false) l := by rw [hss, lastI_map]; rfl
    rw [← hL0] at f1
    have hrow := hL.row
    have hidl := hL.lt
    have hrowx : ∀ r : Hp, (H ++ r)[h.length + 2]? = some (.tok L.length 7 (some (sc L))) := fun r => get_ext hrow
    have hset : ∀ (r : Hp) (o : Ob), (H ++ r).set (h.length + 2) o = H.set (h.length + 2) o ++ r := fun r o => List.set_append_left _ _ hidl
    have hS : seeO H (h.length + 2) H.length [] L p z = seeO H (h.length + 2) H.length [] L p z := rfl
    conv at hS => rhs; unfold seeO
    generalize hR : seeO H (h.length + 2) H.length [] L p z = R at *
    rw [hla] at hS
    generalize hCC : curB p z false = C at *
    have hov : ∀ s, overB z s p.time = decide (s.til ≤ IntKind.i64.wrap (p.time - z.grace)) := fun s => rfl
    obtain ⟨k1, z1, p1, t1, u1⟩ := p
    obtain ⟨zn, zhf, zhr, zsf, zst, zgr, zfr, zdm, zsy⟩ := z
    dsimp only at hov
    generalize hW : IntKind.i64.wrap (t1 - zgr) = W at *
    simp only [boxPZ, Par.row, Zon.row, List.map_cons, List.map_nil] at f1 hb4 hb5
    rw [← hL0]
    have hc := Nat.zero_add 0
    repeat' (first | simp only [hc, AS, Tryz.f40, NX, NPV, SX, HX, Par.row, Zon.row, List.map_cons, List.map_nil, l1, f1, AB, PL, RG, LP, TY, simprocAttr, ↓reduceIte, forall_const, eq_self, ne_eq, Option.some.injEq, beq_self_eq_true] | ((first | apply fin_ndec | apply fin_dec | apply cnd_ndec | apply cnd_dec' | apply fin_nsplit | apply fin_split | apply cnd_nsplit | apply cnd_split) <;> intro hc) | refine seqS_id ?_ | refine blk_exit_id ?_)
    refine awpS_loop (σ := Nat) (fun j => j ≤ l.length) (fun j => ⟨[(9, AV.i j), (8, AV.i (atI (lastI C (l.take j)))), (7, .v (.c (.msl (h.length + 2) L.length))), (5, .v (.c (.ptr (h.length + 1) 0))), (4, .v (.c (.ptr h.length 0))), (0, AV.d (.sl f (l.map Ses.row)))], H⟩) (fun j => l.length - j) 0 (Wk.sub' (by simp [subT, look, lastI, atI]) rfl) (Nat.zero_le _) ?_
    intro j hj
    by_cases hjl : j < l.length
    · have hlt : ((j : Int) < (l.length : Int)) = True := eq_true (by omega)
      have hw := wI (n := (j : Int) + 1) (by omega) (by omega)
      have e1 := ss_at hjl
      have hnx := lastI_take (c := C) hjl
      rw [hC] at hnx
      have f2 := @rmine_at l[j] ⟨k1, z1, p1, t1, u1⟩
      simp only [Ses.row, Par.row] at f2
      cases c1 : mineB l[j] ⟨k1, z1, p1, t1, u1⟩
      · rw [c1] at f2 hnx
        rw [if_neg (by simp)] at hnx
        have hc := Nat.zero_add 0
        repeat' (first | simp only [hc, AS, NX, NPV, SX, HX, l1, hlt, nn, e1, f2, hb4, hw, AB, PL, RG, LP, TY, simprocAttr, ↓reduceIte, forall_const, eq_self, ne_eq, Option.some.injEq, beq_self_eq_true] | ((first | apply fin_ndec | apply fin_dec | apply cnd_ndec | apply cnd_dec' | apply fin_nsplit | apply fin_split | apply cnd_nsplit | apply cnd_split) <;> intro hc) | refine seqS_id ?_ | refine blk_exit_id ?_)
        exact lp_next (j + 1) (Wk.sub' (by simp [subT, look, hnx]) rfl) (by omega) (by omega)
      · rw [c1] at f2 hnx
        rw [if_pos rfl] at hnx
        have hc := Nat.zero_add 0
        repeat' (first | simp only [hc, AS, NX, NPV, SX, HX, l1, hlt, nn, e1, f2, hb4, hw, AB, PL, RG, LP, TY, simprocAttr, ↓reduceIte, forall_const, eq_self, ne_eq, Option.some.injEq, beq_self_eq_true] | ((first | apply fin_ndec | apply fin_dec | apply cnd_ndec | apply cnd_dec' | apply fin_nsplit | apply fin_split | apply cnd_nsplit | apply cnd_split) <;> intro hc) | refine seqS_id ?_ | refine blk_exit_id ?_)
        exact lp_next (j + 1) (Wk.sub' (by simp [subT, look, hnx, atI]) rfl) (by omega) (by omega)
    have hlt : ((j : Int) < (l.length : Int)) = False := eq_false (by omega)
    rw [List.take_of_length_le (by omega)]
    cases hlc : lastI C l with
    | none =>
      rw [hlc] at hS
      dsimp only at hS
      rw [hS]
      simp only [atI]
      have hc := Nat.zero_add 0
      repeat' (first | simp only [hc, AS, NX, NPV, SX, HX, l1, hlt, AB, PL, RG, LP, TY, simprocAttr, ↓reduceIte, forall_const, eq_self, ne_eq, Option.some.injEq, beq_self_eq_true] | ((first | apply fin_ndec | apply fin_dec | apply cnd_ndec | apply cnd_dec' | apply fin_nsplit | apply fin_split | apply cnd_nsplit | apply cnd_split) <;> intro hc) | refine seqS_id ?_ | refine blk_exit_id ?_)
      exact ⟨_, Wk.refl, [.c (.msl (h.length + 2) L.length)], by simp [resAllV, resOneV, S.get, look, AV.one], by simp [resVV]⟩
    | some k =>
      rw [hlc] at hS
      obtain ⟨x, hx, _⟩ := lastI_some hlc
      have hkl := lt_of_get hx
      obtain ⟨⟨⟨id', zo, pl, fr, ti, st, sf, sn⟩, o⟩, hx⟩ : ∃ x, L[k]? = some x := ⟨L[k]'(by omega), List.getElem?_eq_getElem (by omega)⟩
      dsimp only at hS
      rw [hx] at hS
      dsimp only at hS
      rw [hov] at hS
      simp only [atI]
      have hlt2 : ((k : Int) < (L.length : Int)) = True := eq_true (by omega)
      have hlt0 : ((k : Int) < 0) = False := eq_false (by omega)
      have hc3 := sc_cell hx (j := 3) (by decide)
      have hc4 := sc_cell hx (j := 4) (by decide)
      have hc6 := sc_cell hx (j := 6) (by decide)
      simp only [scC, List.getElem?_cons_succ, List.getElem?_cons_zero] at hc3 hc4 hc6
      by_cases c2 : ti ≤ W
      · rw [if_pos (decide_eq_true c2)] at hS
        rw [hS]
        have c2' : (W ≥ ti) = True := eq_true c2
        have hput := fun h' => stP_ses (h := h') (id := h.length + 2) hx (j := 5) (by decide) (v := .d (.int .i64 3)) (x' := (⟨id', zo, pl, fr, ti, 3, sf, sn⟩, o)) rfl
        have hc := Nat.zero_add 0
        repeat' (first | simp only [hc, AS, NX, NPV, SX, HX, l1, hlt, hlt0, hlt2, nn, Int.toNat_natCast, hb4, hb5, hrow, hc4, hW, c2', c2, hput, AB, PL, RG, LP, TY, simprocAttr, ↓reduceIte, forall_const, eq_self, ne_eq, Option.some.injEq, beq_self_eq_true] | ((first | apply fin_ndec | apply fin_dec | apply cnd_ndec | apply cnd_dec' | apply fin_nsplit | apply fin_split | apply cnd_nsplit | apply cnd_split) <;> intro hc) | refine seqS_id ?_ | refine blk_exit_id ?_)
        exact ⟨_, Wk.refl, [.c (.msl (h.length + 2) L.length)], by simp [resAllV, resOneV, S.get, look, AV.one], by simp [resVV]⟩
      · rw [if_neg (by simpa using c2)] at hS
        have c2' : (W ≥ ti) = False := eq_false (by omega)
        have c2'' : (ti ≤ W) = False := eq_false c2
        by_cases c4 : fr ≤ t1
        · rw [if_pos c4] at hS
          cases o with
          | none =>
            dsimp only at hS
            rw [hS]
            obtain ⟨e1, e2⟩ := hL.non k _ hx
            dsimp only at e1 e2
            subst e1 e2
            have ap := fun h => @apSl_new h 1 8 [[.int .i64 t1]] (by simp [allLen]) (by simp) (by simp)
            have hput := fun h' => stP_ses (h := h') (id := h.length + 2) hx (j := 6) (by decide) (v := .own H.length [[.int .i64 t1]]) (x' := (seenS ⟨id', zo, pl, fr, ti, st, true, []⟩ t1, some H.length)) rfl
            simp only [seenC, List.map_nil] at hc6
            have hc := Nat.zero_add 0
            repeat' (first | simp only [hc, AS, NX, NPV, SX, HX, l1, hlt, hlt0, hlt2, nn, Int.toNat_natCast, hb4, hb5, hrow, hrowx, hset, hc3, hc4, hc6, hW, c2', c2'', c4, hput, ap, AB, PL, RG, LP, TY, simprocAttr, ↓reduceIte, forall_const, eq_self, ne_eq, Option.some.injEq, beq_self_eq_true] | ((first | apply fin_ndec | apply fin_dec | apply cnd_ndec | apply cnd_dec' | apply fin_nsplit | apply fin_split | apply cnd_nsplit | apply cnd_split) <;> intro hc) | refine seqS_id ?_ | refine blk_exit_id ?_)
            exact ⟨_, Wk.refl, [.c (.msl (h.length + 2) L.length)], by simp [resAllV, resOneV, S.get, look, AV.one], by simp [resVV]⟩
          | some i =>
            dsimp only at hS
            rw [hS]
            obtain ⟨e1, e2⟩ := hL.own k _ i hx
            dsimp only at e1 e2
            subst e1
            have hil := lt_of_get e2
            have hne := hL.ne hx
            have hsnl : sn.length ≤ 1000000000 := hsnL _ (List.mem_of_getElem? hx)
            have hrow2 : ∀ o : Ob, (H.set i o)[h.length + 2]? = some (.tok L.length 7 (some (sc L))) := fun o => by rw [List.getElem?_set_ne hne]; exact hrow
            have ap : ∀ h : Hp, apTok h i 1 8 (sn.map rowI) [[.int .i64 t1]] (some (.tok sn.length 1 none)) = some (.v (.c (.own i (sn.map rowI ++ [[.int .i64 t1]]))), h.set i (.tok (sn.length + 1) 1 none)) := fun h => by
              rw [apTok_ok (eq_true (by simp)) (eq_true (by simp [allLen])) (eq_true (by simp; omega)) (eq_true (by simp; omega))]
              simp
            have hput := fun h' => stP_ses (h := h') (id := h.length + 2) hx (j := 6) (by decide) (v := .own i (sn.map rowI ++ [[.int .i64 t1]])) (x' := (seenS ⟨id', zo, pl, fr, ti, st, false, sn⟩ t1, some i)) (by simp [scC, seenC, seenS, rowI])
            simp only [seenC] at hc6
            have hc := Nat.zero_add 0
            repeat' (first | simp only [hc, AS, NX, NPV, SX, HX, l1, hlt, hlt0, hlt2, nn, Int.toNat_natCast, hb4, hb5, hrow, hrow2, e2, hc3, hc4, hc6, hW, c2', c2'', c4, hput, ap, AB, PL, RG, LP, TY, simprocAttr, ↓reduceIte, forall_const, eq_self, ne_eq, Option.some.injEq, beq_self_eq_true] | ((first | apply fin_ndec | apply fin_dec | apply cnd_ndec | apply cnd_dec' | apply fin_nsplit | apply fin_split | apply cnd_nsplit | apply cnd_split) <;> intro hc) | refine seqS_id ?_ | refine blk_exit_id ?_)
            exact ⟨_, Wk.refl, [.c (.msl (h.length + 2) L.length)], by simp [resAllV, resOneV, S.get, look, AV.one], by simp [resVV]⟩
        · rw [if_neg c4] at hS
          rw [hS]
          have c4' : (fr ≤ t1) = False := eq_false c4
          have hc := Nat.zero_add 0
          repeat' (first | simp only [hc, AS, NX, NPV, SX, HX, l1, hlt, hlt0, hlt2, nn, Int.toNat_natCast, hb4, hb5, hrow, hc3, hc4, hW, c2', c2'', c4', AB, PL, RG, LP, TY, simprocAttr, ↓reduceIte, forall_const, eq_self, ne_eq, Option.some.injEq, beq_self_eq_true] | ((first | apply fin_ndec | apply fin_dec | apply cnd_ndec | apply cnd_dec' | apply fin_nsplit | apply fin_split | apply cnd_nsplit | apply cnd_split) <;> intro hc) | refine seqS_id ?_ | refine blk_exit_id ?_)
          exact ⟨_, Wk.refl, [.c (.msl (h.length + 2) L.length)], by simp [resAllV, resOneV, S.get, look, AV.one], by simp [resVV]⟩
  · cases hg

end
end Go.Ab
