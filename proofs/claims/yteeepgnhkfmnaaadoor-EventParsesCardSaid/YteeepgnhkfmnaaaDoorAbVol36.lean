/-
  Texts of the layer and of the laws, put together: AbF16, AbF17. No law is stated here.
-/
import Derived.Test.YteeepgnhkfmnaaaDoorAbVol35
import Derived.Test.YteeepgnhkfmnaaaDoorAbVol16
import Derived.Test.YteeepgnhkfmnaaaDoorAbVol14
set_option linter.unusedSimpArgs false
set_option linter.unusedVariables false
set_option maxRecDepth 100000

/-
  codec's reader: next, number.
-/
namespace Go.Ab
open Go.RowKit Go.Proofs

theorem or64 {a c m : Nat} (ha : a < 2 ^ m) (hc : a + c * 2 ^ m ≤ 18446744073709551615) : bits .or .u64 (a : Int) ((c * 2 ^ m : Nat) : Int) = ((a + c * 2 ^ m : Nat) : Int) := by
  have h1 : (BitVec.ofInt 64 (a : Int)).toNat = a := by rw [BitVec.ofInt_natCast, BitVec.toNat_ofNat, Nat.mod_eq_of_lt (by omega)]
  have h2 : (BitVec.ofInt 64 ((c * 2 ^ m : Nat) : Int)).toNat = c * 2 ^ m := by rw [BitVec.ofInt_natCast, BitVec.toNat_ofNat, Nat.mod_eq_of_lt (by omega)]
  have h3 : a ||| c * 2 ^ m = a + c * 2 ^ m := by
    have := Nat.two_pow_add_eq_or_of_lt ha c
    rw [Nat.or_comm, Nat.mul_comm c, ← this, Nat.add_comm]
  show IntKind.u64.wrap ((BitVec.ofInt 64 (a : Int) ||| BitVec.ofInt 64 ((c * 2 ^ m : Nat) : Int)).toNat : Int) = _
  rw [BitVec.toNat_or, h1, h2, h3, eU64 (by omega) (by omega)]

/-- A number decoded: its code, and how many bytes it takes. -/
def numG (i acc : Nat) : List UInt8 → Except Int (Nat × Nat)
  | [] => .error 7
  | c :: r => if i = 9 ∧ 1 < c.toNat then .error 5
    else if 128 ≤ c.toNat then numG (i + 1) (acc + c.toNat % 128 * 2 ^ (7 * i)) r
    else if 0 < i ∧ c.toNat = 0 then .error 5 else .ok (acc + c.toNat % 128 * 2 ^ (7 * i), i + 1)
def valI (u : Nat) : Int := if u % 2 = 1 then -((u / 2 : Nat) : Int) - 1 else ((u / 2 : Nat) : Int)

abbrev rdrB (f : Bool) (b : List UInt8) (at' : Int) : Ob := .box [.d (.sl f (b.map rowB)), .d (.int .i64 at')]
abbrev topB : Ob := .box [.top, .top]
structure RdB where
  h : Hp
  id : Nat
  f : Bool
  b : List UInt8
  n : Nat
def rdbR (a : RdB) (args : List AV) (h : Hp) : Prop := args = [.v (.c (.ptr a.id 0))] ∧ h = a.h ∧ a.h[a.id]? = some (rdrB a.f a.b a.n)
theorem rdbR_inj {a b : RdB} {args : List AV} {h : Hp} (ha : rdbR a args h) (hb : rdbR b args h) : b = a := by
  obtain ⟨a1, a2, a3, a4, a5⟩ := a
  obtain ⟨b1, b2, b3, b4, b5⟩ := b
  obtain ⟨h1, h2, h3⟩ := ha
  obtain ⟨g1, g2, g3⟩ := hb
  dsimp only at *
  subst h2 g2
  rw [h1] at g1
  simp only [List.cons.injEq, AV.v.injEq, V.c.injEq, C1.ptr.injEq, and_true] at g1
  subst g1
  rw [h3] at g3
  simp only [Option.some.injEq, Ob.box.injEq, List.cons.injEq, C1.d.injEq, D.sl.injEq, D.int.injEq, and_true, true_and] at g3
  obtain ⟨⟨g4, g5⟩, g6⟩ := g3
  rw [g4, mapB_inj.1 g5, show a5 = b5 by omega]
def eno (k : Int) : C1 := .ifc 29 [.int .i64 k] false
def rdOk (a : RdB) : Prop := a.n ≤ a.b.length ∧ a.b.length ≤ 1000000

noncomputable section
open Classical

theorem mkErr {t : TypeId} {x : D} {h : Hp} : mkI (some (.int .i64)) t (.v (.c (.d x))) h = some (.val (.v (.c (.ifc t [x] false))) h) := by kernel_rfl

def cnext_k : List AV → Hp → Option COut := kR rdbR fun a => if rdOk a then some (match a.b[a.n]? with | some c => .ret (.v (.c (.d (.int .u8 c.toNat)))) (a.h.set a.id (rdrB a.f a.b (a.n + 1 : Nat))) | none => .pan (eno 7) a.h) else none
def cnum_k : List AV → Hp → Option COut := kR rdbR fun a => if rdOk a then some (match numG 0 0 (a.b.drop a.n) with | .ok (u, k) => .ret (AV.i (valI u)) (a.h.set a.id (rdrB a.f a.b (a.n + k : Nat))) | .error e => .pan (eno e) (a.h.set a.id topB)) else none

theorem cnext_kok : ImpC Tryd.prog Gt 80 cnext_k := by
  intro args h out h0
  refine fok_of_awpSW (X := ctxN Tryd.prog Gt [] [] [] none) Tryd.func80 rfl rfl (by kernel_rfl) (by kernel_rfl) (kok_n AllOk.nil AllK.nil AllN.nil) ?_ ?_
  · obtain ⟨a, ⟨rfl, _⟩, _⟩ := kR_inv h0
    exact Nat.le_of_ble_eq_true rfl
  obtain ⟨⟨h', id, f, b, n⟩, ⟨rfl, rfl, hid⟩, hg⟩ := kR_inv h0
  dsimp only at hid hg ⊢
  split at hg
  · rename_i hok
    obtain ⟨h1, h2⟩ := hok
    dsimp only at h1 h2
    have hidl := lt_of_get hid
    have l1 := @lenB b
    have hrow : ∀ o, (h.set id o)[id]? = some o := fun o => by simp [hidl]
    simp only [Option.some.injEq] at hg
    by_cases hn : n < b.length
    · have e1 := b_at hn
      have hbn : b[n]? = some b[n] := List.getElem?_eq_getElem hn
      rw [hbn] at hg
      dsimp only at hg
      generalize b[n] = c at *
      subst hg
      have hge : ((n : Int) ≥ (b.length : Int)) = False := eq_false (by omega)
      have hw : IntKind.i64.wrap ((n : Int) + 1) = ((n + 1 : Nat) : Int) := by rw [wI (by omega) (by omega)]; omega
      have hw2 : IntKind.i64.wrap (((n + 1 : Nat) : Int) - 1) = (n : Int) := by rw [wI (by omega) (by omega)]; omega
      have hc := Nat.zero_add 0
      repeat' (first | simp only [hc, AS, Tryd.f80, NX, NPV, SX, HX, hid, l1, hge, hw, hw2, hrow, nn, e1, Int.toNat_natCast, AB, PL, RG, LP, TY, simprocAttr, ↓reduceIte, forall_const, eq_self, ne_eq, Option.some.injEq, beq_self_eq_true] | ((first | apply fin_ndec | apply fin_dec | apply cnd_ndec | apply cnd_dec' | apply fin_nsplit | apply fin_split | apply cnd_nsplit | apply cnd_split) <;> intro hc) | refine seqS_id ?_ | refine blk_exit_id ?_)
      exact ⟨_, Wk.refl, [.c (.d (.int .u8 c.toNat))], by simp [resAllV, resOneV, S.get, look, AV.one], by simp [resVV]⟩
    · have hbn : b[n]? = none := List.getElem?_eq_none (by omega)
      rw [hbn] at hg
      dsimp only at hg
      subst hg
      have hge : ((n : Int) ≥ (b.length : Int)) = True := eq_true (by omega)
      have hc := Nat.zero_add 0
      repeat' (first | simp only [hc, AS, Tryd.f80, NX, NPV, SX, HX, mkErr, RetsW_pan, hid, l1, hge, nn, AB, PL, RG, LP, TY, simprocAttr, ↓reduceIte, forall_const, eq_self, ne_eq, Option.some.injEq, beq_self_eq_true] | ((first | apply fin_ndec | apply fin_dec | apply cnd_ndec | apply cnd_dec' | apply fin_nsplit | apply fin_split | apply cnd_nsplit | apply cnd_split) <;> intro hc) | refine seqS_id ?_ | refine blk_exit_id ?_)
      exact ⟨_, _, _, h, rfl, Wk.sub' (by simp [subT]) rfl, rfl⟩
  · cases hg
theorem cnext_at {h : Hp} {id n : Nat} {f : Bool} {b : List UInt8} (h1 : h[id]? = some (rdrB f b n)) (h2 : n ≤ b.length) (h3 : b.length ≤ 1000000) :
    cnext_k [.v (.c (.ptr id 0))] h = some (match b[n]? with | some c => .ret (.v (.c (.d (.int .u8 c.toNat)))) (h.set id (rdrB f b (n + 1 : Nat))) | none => .pan (eno 7) h) := by
  have := kR_eq (R := rdbR) (g := fun a : RdB => if rdOk a then some (match a.b[a.n]? with | some c => COut.ret (.v (.c (.d (.int .u8 c.toNat)))) (a.h.set a.id (rdrB a.f a.b (a.n + 1 : Nat))) | none => .pan (eno 7) a.h) else none) (a := ⟨h, id, f, b, n⟩)
    (args := [.v (.c (.ptr id 0))]) (h := h) (fun b' hb => by rw [rdbR_inj (a := ⟨h, id, f, b, n⟩) ⟨rfl, rfl, h1⟩ hb]) ⟨rfl, rfl, h1⟩
  exact this.trans (if_pos ⟨h2, h3⟩)

theorem tops_pan {h : Hp} {id n : Nat} {t : List (Nat × AV)} {o : Ob} {cs : List C1} (hid : id < h.length) (ho : o = .box cs) (hc : cs.length = 2) : Wk n ⟨t, h.set id o⟩ ⟨[], h.set id topB⟩ := by
  subst ho
  refine Wk.tops (id := id) (cs := cs) (by simp [hid]) (by simp [subT]) rfl ?_
  rw [List.set_set]
  congr 1
  match cs, hc with
  | [a, b], _ => rfl

set_option maxHeartbeats 1000000 in
theorem cnum_kok : ImpC Tryd.prog Gt 71 cnum_k := by
  intro args h out h0
  refine fok_of_awpSW (X := ctxN Tryd.prog Gt [] [(80, cnext_k)] [] none) Tryd.func71 rfl rfl (by kernel_rfl) (by kernel_rfl) (kok_n AllOk.nil (AllK.cons cnext_kok AllK.nil) AllN.nil) ?_ ?_
  · obtain ⟨a, ⟨rfl, _⟩, _⟩ := kR_inv h0
    exact Nat.le_of_ble_eq_true rfl
  obtain ⟨⟨h', id, f, b, n⟩, ⟨rfl, rfl, hid⟩, hg⟩ := kR_inv h0
  dsimp only at hid hg ⊢
  split at hg
  · rename_i hok
    obtain ⟨h1, h2⟩ := hok
    dsimp only at h1 h2
    have hidl := lt_of_get hid
    simp only [Option.some.injEq] at hg
    generalize hR : numG 0 0 (b.drop n) = R at *
    have hself : h.set id (rdrB f b n) = h := List.ext_getElem? fun j => by
      rw [List.getElem?_set]
      split
      · rename_i e
        subst e
        exact hid.symm
      · rfl
    have hc := Nat.zero_add 0
    repeat' (first | simp only [hc, AS, Tryd.f71, NX, NPV, SX, HX, AB, PL, RG, LP, TY, simprocAttr, ↓reduceIte, forall_const, eq_self, ne_eq, Option.some.injEq, beq_self_eq_true] | ((first | apply fin_ndec | apply fin_dec | apply cnd_ndec | apply cnd_dec' | apply fin_nsplit | apply fin_split | apply cnd_nsplit | apply cnd_split) <;> intro hc) | refine seqS_id ?_ | refine blk_exit_id ?_)
    refine awpS_loop (σ := Nat × Nat) (fun x => x.1 ≤ 9 ∧ n + x.1 ≤ b.length ∧ x.2 < 2 ^ (7 * x.1) ∧ numG x.1 x.2 (b.drop (n + x.1)) = R) (fun x => ⟨[(4, AV.i x.1), (3, .v (.c (.d (.int .u64 x.2)))), (0, .v (.c (.ptr id 0)))], h.set id (rdrB f b (n + x.1 : Nat))⟩) (fun x => 9 - x.1) (0, 0) (Wk.sub' (by simp [subT, look]) (by simpa using hself.symm)) ⟨by omega, h1, by simp, by simpa using hR⟩ ?_
    rintro ⟨i, acc⟩ ⟨hi, hni, hacc, hRi⟩
    dsimp only at hi hni hacc hRi ⊢
    have f1 := cnext_at (h := h.set id (rdrB f b (n + i : Nat))) (id := id) (n := n + i) (f := f) (b := b) (by simp [hidl]) hni h2
    rw [List.set_set] at f1
    by_cases hnl : n + i < b.length
    · have hbn : b[n + i]? = some b[n + i] := List.getElem?_eq_getElem hnl
      rw [List.drop_eq_getElem_cons hnl, numG] at hRi
      rw [hbn] at f1
      dsimp only at f1
      generalize b[n + i] = c at *
      have hc256 := c.toNat_lt
      by_cases h91 : i = 9 ∧ 1 < c.toNat
      · rw [if_pos h91] at hRi
        rw [← hRi] at hg
        dsimp only at hg
        subst hg
        have b1 : ((i : Int) = 9) = True := eq_true (by omega)
        have b2 : ((c.toNat : Int) > 1) = True := eq_true (by omega)
        have hc := Nat.zero_add 0
        repeat' (first | simp only [hc, AS, NX, NPV, SX, HX, mkErr, RetsW_pan, f1, b1, b2, AB, PL, RG, LP, TY, simprocAttr, ↓reduceIte, forall_const, eq_self, ne_eq, Option.some.injEq, beq_self_eq_true] | ((first | apply fin_ndec | apply fin_dec | apply cnd_ndec | apply cnd_dec' | apply fin_nsplit | apply fin_split | apply cnd_nsplit | apply cnd_split) <;> intro hc) | refine seqS_id ?_ | refine blk_exit_id ?_)
        exact ⟨_, _, _, _, rfl, tops_pan hidl rfl rfl, rfl⟩
      · rw [if_neg h91] at hRi
        have m1 : (c.toNat % 128) ≤ 127 := by omega
        have m1b : i = 9 → c.toNat % 128 ≤ 1 := fun h => by omega
        have hp64 : acc + c.toNat % 128 * 2 ^ (7 * i) ≤ 18446744073709551615 := by
          by_cases hi9 : i = 9
          · have := m1b hi9
            subst hi9
            have e : (2 : Nat) ^ (7 * 9) = 9223372036854775808 := by decide
            rw [e] at hacc ⊢
            omega
          · have hle : 2 ^ (7 * i) ≤ 2 ^ 56 := Nat.pow_le_pow_right (by decide) (by omega)
            have e : (2 : Nat) ^ 56 = 72057594037927936 := by decide
            have := Nat.mul_le_mul m1 hle
            rw [e] at this hle
            omega
        have hor := or64 hacc hp64
        have e1 := tm128 c.toNat
        have w1 := eU64 (n := ((c.toNat % 128 : Nat) : Int)) (by omega) (by omega)
        have w2 : IntKind.i64.wrap (7 * (i : Int)) = ((7 * i : Nat) : Int) := by rw [wI (by omega) (by omega)]; omega
        have hsh : IntKind.u64.wrap (((c.toNat % 128 : Nat) : Int) * 2 ^ (min (7 * i) IntKind.u64.bits)) = ((c.toNat % 128 * 2 ^ (7 * i) : Nat) : Int) := by
          rw [show min (7 * i) IntKind.u64.bits = 7 * i from Nat.min_eq_left (by show 7 * i ≤ 64; omega)]
          have hcast : ((c.toNat % 128 : Nat) : Int) * 2 ^ (7 * i) = ((c.toNat % 128 * 2 ^ (7 * i) : Nat) : Int) := by simp
          rw [hcast, eU64 (by omega) (by omega)]
        have hneg : (((7 * i : Nat) : Int) < 0) = False := eq_false (by omega)
        have hw : IntKind.i64.wrap ((i : Int) + 1) = ((i + 1 : Nat) : Int) := by rw [wI (by omega) (by omega)]; omega
        have h9 : (((i : Int) = 9) = True ∧ ((c.toNat : Int) > 1) = False) ∨ ((i : Int) = 9) = False := by
          by_cases hi9 : i = 9
          · exact .inl ⟨eq_true (by omega), eq_false (by omega)⟩
          · exact .inr (eq_false (by omega))
        by_cases hge : 128 ≤ c.toNat
        · rw [if_pos hge] at hRi
          have hge' : ((c.toNat : Int) ≥ 128) = True := eq_true (by omega)
          have hi8 : i ≤ 8 := by
            rcases Nat.lt_or_ge i 9 with h | h
            · omega
            · exact absurd ⟨by omega, by omega⟩ h91
          have hb9 : ((i : Int) = 9) = False := eq_false (by omega)
          have hacc2 : acc + c.toNat % 128 * 2 ^ (7 * i) < 2 ^ (7 * (i + 1)) := by
            have e : (2 : Nat) ^ (7 * (i + 1)) = 128 * 2 ^ (7 * i) := by rw [Nat.mul_add, Nat.pow_add, Nat.mul_comm]
            have := Nat.mul_le_mul_right (2 ^ (7 * i)) m1
            omega
          generalize acc + c.toNat % 128 * 2 ^ (7 * i) = acc' at *
          generalize c.toNat % 128 * 2 ^ (7 * i) = sh at *
          have hc := Nat.zero_add 0
          repeat' (first | simp only [hc, AS, NX, NPV, SX, HX, f1, hb9, e1, w1, w2, hsh, hneg, hor, hge', hw, Int.toNat_natCast, AB, PL, RG, LP, TY, simprocAttr, ↓reduceIte, forall_const, eq_self, ne_eq, Option.some.injEq, beq_self_eq_true] | ((first | apply fin_ndec | apply fin_dec | apply cnd_ndec | apply cnd_dec' | apply fin_nsplit | apply fin_split | apply cnd_nsplit | apply cnd_split) <;> intro hc) | refine seqS_id ?_ | refine blk_exit_id ?_)
          refine lp_next (i + 1, acc') ?_ ⟨by dsimp only; omega, by dsimp only; omega, hacc2, by rw [← hRi]; rfl⟩ (by dsimp only; omega)
          exact Wk.sub' (by simp [subT, look]) rfl
        · rw [if_neg hge] at hRi
          have hge' : ((c.toNat : Int) ≥ 128) = False := eq_false (by omega)
          have hU : acc + c.toNat % 128 * 2 ^ (7 * i) ≤ 18446744073709551615 := hp64
          by_cases h0 : 0 < i ∧ c.toNat = 0
          · rw [if_pos h0] at hRi
            rw [← hRi] at hg
            dsimp only at hg
            subst hg
            have g1 : ((i : Int) > 0) = True := eq_true (by omega)
            have g2 : ((c.toNat : Int) = 0) = True := eq_true (by omega)
            generalize acc + c.toNat % 128 * 2 ^ (7 * i) = acc' at *
            generalize c.toNat % 128 * 2 ^ (7 * i) = sh at *
            rcases h9 with ⟨b1, b2⟩ | b1
            · skip
              have hc := Nat.zero_add 0
              repeat' (first | simp only [hc, AS, NX, NPV, SX, HX, mkErr, RetsW_pan, f1, b1, b2, e1, w1, w2, hsh, hneg, hor, hge', g1, g2, Int.toNat_natCast, AB, PL, RG, LP, TY, simprocAttr, ↓reduceIte, forall_const, eq_self, ne_eq, Option.some.injEq, beq_self_eq_true] | ((first | apply fin_ndec | apply fin_dec | apply cnd_ndec | apply cnd_dec' | apply fin_nsplit | apply fin_split | apply cnd_nsplit | apply cnd_split) <;> intro hc) | refine seqS_id ?_ | refine blk_exit_id ?_)
              exact ⟨_, _, _, _, rfl, tops_pan hidl rfl rfl, rfl⟩
            · skip
              have hc := Nat.zero_add 0
              repeat' (first | simp only [hc, AS, NX, NPV, SX, HX, mkErr, RetsW_pan, f1, b1, e1, w1, w2, hsh, hneg, hor, hge', g1, g2, Int.toNat_natCast, AB, PL, RG, LP, TY, simprocAttr, ↓reduceIte, forall_const, eq_self, ne_eq, Option.some.injEq, beq_self_eq_true] | ((first | apply fin_ndec | apply fin_dec | apply cnd_ndec | apply cnd_dec' | apply fin_nsplit | apply fin_split | apply cnd_nsplit | apply cnd_split) <;> intro hc) | refine seqS_id ?_ | refine blk_exit_id ?_)
              exact ⟨_, _, _, _, rfl, tops_pan hidl rfl rfl, rfl⟩
          · rw [if_neg h0] at hRi
            rw [← hRi] at hg
            dsimp only at hg
            have hg0 : ((i : Int) > 0) = False ∨ (((i : Int) > 0) = True ∧ ((c.toNat : Int) = 0) = False) := by
              by_cases hi0 : 0 < i
              · exact .inr ⟨eq_true (by omega), eq_false (by omega)⟩
              · exact .inl (eq_false (by omega))
            generalize acc + c.toNat % 128 * 2 ^ (7 * i) = u at *
            generalize c.toNat % 128 * 2 ^ (7 * i) = sh at *
            have t1 := tm2 u
            have t2 := td2 u
            have t3 := eU64 (n := ((u / 2 : Nat) : Int)) (by omega) (by omega)
            have t4 := wI (n := ((u / 2 : Nat) : Int)) (by omega) (by omega)
            have t5 : IntKind.i64.wrap (0 - ((u / 2 : Nat) : Int)) = -((u / 2 : Nat) : Int) := by rw [wI (by omega) (by omega)]; omega
            have t6 := wI (n := -((u / 2 : Nat) : Int) - 1) (by omega) (by omega)
            have hV : valI u = if u % 2 = 1 then -((u / 2 : Nat) : Int) - 1 else ((u / 2 : Nat) : Int) := rfl
            have hodd : (((u % 2 : Nat) : Int) = 1) = True ∨ (((u % 2 : Nat) : Int) = 1) = False := by
              by_cases h : u % 2 = 1
              · exact .inl (eq_true (by omega))
              · exact .inr (eq_false (by omega))
            have hVt : (((u % 2 : Nat) : Int) = 1) = True → valI u = -((u / 2 : Nat) : Int) - 1 := fun h => by rw [hV, if_pos (by have := of_eq_true h; omega)]
            have hVf : (((u % 2 : Nat) : Int) = 1) = False → valI u = ((u / 2 : Nat) : Int) := fun h => by rw [hV, if_neg (by have := of_eq_false h; omega)]
            generalize valI u = V at *
            subst hg
            rcases h9 with ⟨b1, b2⟩ | b1 <;> rcases hg0 with g1 | ⟨g1, g2⟩ <;> rcases hodd with od | od
            all_goals
              first
                | (have hV := hVt od; subst hV)
                | (have hV := hVf od; subst hV)
            all_goals first
              | (exfalso; have := of_eq_true b1; have := of_eq_false g1; omega)
              | skip
            · skip
              have hc := Nat.zero_add 0
              repeat' (first | simp only [hc, AS, NX, NPV, SX, HX, f1, b1, b2, e1, w1, w2, hsh, hneg, hor, hge', g1, g2, t1, t2, t3, t4, t5, t6, od, Int.toNat_natCast, AB, PL, RG, LP, TY, simprocAttr, ↓reduceIte, forall_const, eq_self, ne_eq, Option.some.injEq, beq_self_eq_true] | ((first | apply fin_ndec | apply fin_dec | apply cnd_ndec | apply cnd_dec' | apply fin_nsplit | apply fin_split | apply cnd_nsplit | apply cnd_split) <;> intro hc) | refine seqS_id ?_ | refine blk_exit_id ?_)
              exact ⟨_, Wk.refl, [.c (.d (.int .i64 (-((u / 2 : Nat) : Int) - 1)))], by simp [resAllV, resOneV, S.get, look, AV.one], rfl⟩
            · skip
              have hc := Nat.zero_add 0
              repeat' (first | simp only [hc, AS, NX, NPV, SX, HX, f1, b1, b2, e1, w1, w2, hsh, hneg, hor, hge', g1, g2, t1, t2, t3, t4, od, Int.toNat_natCast, AB, PL, RG, LP, TY, simprocAttr, ↓reduceIte, forall_const, eq_self, ne_eq, Option.some.injEq, beq_self_eq_true] | ((first | apply fin_ndec | apply fin_dec | apply cnd_ndec | apply cnd_dec' | apply fin_nsplit | apply fin_split | apply cnd_nsplit | apply cnd_split) <;> intro hc) | refine seqS_id ?_ | refine blk_exit_id ?_)
              exact ⟨_, Wk.refl, [.c (.d (.int .i64 ((u / 2 : Nat) : Int)))], by simp [resAllV, resOneV, S.get, look, AV.one], rfl⟩
            · skip
              have hc := Nat.zero_add 0
              repeat' (first | simp only [hc, AS, NX, NPV, SX, HX, f1, b1, e1, w1, w2, hsh, hneg, hor, hge', g1, t1, t2, t3, t4, t5, t6, od, Int.toNat_natCast, AB, PL, RG, LP, TY, simprocAttr, ↓reduceIte, forall_const, eq_self, ne_eq, Option.some.injEq, beq_self_eq_true] | ((first | apply fin_ndec | apply fin_dec | apply cnd_ndec | apply cnd_dec' | apply fin_nsplit | apply fin_split | apply cnd_nsplit | apply cnd_split) <;> intro hc) | refine seqS_id ?_ | refine blk_exit_id ?_)
              exact ⟨_, Wk.refl, [.c (.d (.int .i64 (-((u / 2 : Nat) : Int) - 1)))], by simp [resAllV, resOneV, S.get, look, AV.one], rfl⟩
            · skip
              have hc := Nat.zero_add 0
              repeat' (first | simp only [hc, AS, NX, NPV, SX, HX, f1, b1, e1, w1, w2, hsh, hneg, hor, hge', g1, t1, t2, t3, t4, od, Int.toNat_natCast, AB, PL, RG, LP, TY, simprocAttr, ↓reduceIte, forall_const, eq_self, ne_eq, Option.some.injEq, beq_self_eq_true] | ((first | apply fin_ndec | apply fin_dec | apply cnd_ndec | apply cnd_dec' | apply fin_nsplit | apply fin_split | apply cnd_nsplit | apply cnd_split) <;> intro hc) | refine seqS_id ?_ | refine blk_exit_id ?_)
              exact ⟨_, Wk.refl, [.c (.d (.int .i64 ((u / 2 : Nat) : Int)))], by simp [resAllV, resOneV, S.get, look, AV.one], rfl⟩
            · skip
              have hc := Nat.zero_add 0
              repeat' (first | simp only [hc, AS, NX, NPV, SX, HX, f1, b1, e1, w1, w2, hsh, hneg, hor, hge', g1, g2, t1, t2, t3, t4, t5, t6, od, Int.toNat_natCast, AB, PL, RG, LP, TY, simprocAttr, ↓reduceIte, forall_const, eq_self, ne_eq, Option.some.injEq, beq_self_eq_true] | ((first | apply fin_ndec | apply fin_dec | apply cnd_ndec | apply cnd_dec' | apply fin_nsplit | apply fin_split | apply cnd_nsplit | apply cnd_split) <;> intro hc) | refine seqS_id ?_ | refine blk_exit_id ?_)
              exact ⟨_, Wk.refl, [.c (.d (.int .i64 (-((u / 2 : Nat) : Int) - 1)))], by simp [resAllV, resOneV, S.get, look, AV.one], rfl⟩
            · skip
              have hc := Nat.zero_add 0
              repeat' (first | simp only [hc, AS, NX, NPV, SX, HX, f1, b1, e1, w1, w2, hsh, hneg, hor, hge', g1, g2, t1, t2, t3, t4, od, Int.toNat_natCast, AB, PL, RG, LP, TY, simprocAttr, ↓reduceIte, forall_const, eq_self, ne_eq, Option.some.injEq, beq_self_eq_true] | ((first | apply fin_ndec | apply fin_dec | apply cnd_ndec | apply cnd_dec' | apply fin_nsplit | apply fin_split | apply cnd_nsplit | apply cnd_split) <;> intro hc) | refine seqS_id ?_ | refine blk_exit_id ?_)
              exact ⟨_, Wk.refl, [.c (.d (.int .i64 ((u / 2 : Nat) : Int)))], by simp [resAllV, resOneV, S.get, look, AV.one], rfl⟩
    · have hbn : b[n + i]? = none := List.getElem?_eq_none (by omega)
      rw [List.drop_of_length_le (by omega), numG] at hRi
      rw [hbn] at f1
      dsimp only at f1
      rw [← hRi] at hg
      dsimp only at hg
      subst hg
      have hc := Nat.zero_add 0
      repeat' (first | simp only [hc, AS, NX, NPV, SX, HX, mkErr, RetsW_pan, f1, AB, PL, RG, LP, TY, simprocAttr, ↓reduceIte, forall_const, eq_self, ne_eq, Option.some.injEq, beq_self_eq_true] | ((first | apply fin_ndec | apply fin_dec | apply cnd_ndec | apply cnd_dec' | apply fin_nsplit | apply fin_split | apply cnd_nsplit | apply cnd_split) <;> intro hc) | refine seqS_id ?_ | refine blk_exit_id ?_)
      exact ⟨_, _, _, _, rfl, tops_pan hidl rfl rfl, rfl⟩
  · cases hg

end
end Go.Ab

/-
  codec's reader: text, begin.
-/
namespace Go.Ab
open Go.RowKit Go.Proofs

theorem numG_bd : ∀ {l : List UInt8} {i acc u k : Nat}, numG i acc l = .ok (u, k) → i < k ∧ k ≤ i + l.length
  | [], i, acc, u, k, h => by simp [numG] at h
  | c :: l, i, acc, u, k, h => by
    rw [numG] at h
    split at h
    · cases h
    · split at h
      · obtain ⟨h1, h2⟩ := numG_bd h
        rw [List.length_cons]
        omega
      · split at h
        · cases h
        · simp only [Except.ok.injEq, Prod.mk.injEq] at h
          rw [List.length_cons]
          omega
/-- A text decoded: itself, and where it ends. -/
def txtG (b : List UInt8) (n : Nat) : Except Int (List UInt8 × Nat) :=
  match numG 0 0 (b.drop n) with
  | .error e => .error e
  | .ok (u, k) => if valI u < 0 then .error 5 else if 65536 < valI u then .error 4 else if (b.length : Int) - ((n + k : Nat) : Int) < valI u then .error 7
    else .ok ((b.drop (n + k)).take (valI u).toNat, n + k + (valI u).toNat)

noncomputable section
open Classical

theorem cnum_at {h : Hp} {id n : Nat} {f : Bool} {b : List UInt8} (h1 : h[id]? = some (rdrB f b n)) (h2 : n ≤ b.length) (h3 : b.length ≤ 1000000) :
    cnum_k [.v (.c (.ptr id 0))] h = some (match numG 0 0 (b.drop n) with | .ok (u, k) => .ret (AV.i (valI u)) (h.set id (rdrB f b (n + k : Nat))) | .error e => .pan (eno e) (h.set id topB)) := by
  have := kR_eq (R := rdbR) (g := fun a : RdB => if rdOk a then some (match numG 0 0 (a.b.drop a.n) with | .ok (u, k) => COut.ret (AV.i (valI u)) (a.h.set a.id (rdrB a.f a.b (a.n + k : Nat))) | .error e => .pan (eno e) (a.h.set a.id topB)) else none) (a := ⟨h, id, f, b, n⟩)
    (args := [.v (.c (.ptr id 0))]) (h := h) (fun b' hb => by rw [rdbR_inj (a := ⟨h, id, f, b, n⟩) ⟨rfl, rfl, h1⟩ hb]) ⟨rfl, rfl, h1⟩
  exact this.trans (if_pos ⟨h2, h3⟩)

def ctext_k : List AV → Hp → Option COut := kR rdbR fun a => if rdOk a then some (match txtG a.b a.n with | .ok (s, m) => .ret (.v (.c (.d (.sl (a.f && decide ((m : Int) = a.b.length)) (s.map rowB))))) (a.h.set a.id (rdrB a.f a.b m)) | .error e => .pan (eno e) (a.h.set a.id topB)) else none

set_option maxHeartbeats 1000000 in
theorem ctext_kok : ImpC Tryd.prog Gt 73 ctext_k := by
  intro args h out h0
  refine fok_of_awpSW (X := ctxN Tryd.prog Gt [] [(71, cnum_k)] [] none) Tryd.func73 rfl rfl (by kernel_rfl) (by kernel_rfl) (kok_n AllOk.nil (AllK.cons cnum_kok AllK.nil) AllN.nil) ?_ ?_
  · obtain ⟨a, ⟨rfl, _⟩, _⟩ := kR_inv h0
    exact Nat.le_of_ble_eq_true rfl
  obtain ⟨⟨h', id, f, b, n⟩, ⟨rfl, rfl, hid⟩, hg⟩ := kR_inv h0
  dsimp only at hid hg ⊢
  split at hg
  · rename_i hok
    obtain ⟨h1, h2⟩ := hok
    dsimp only at h1 h2
    have hidl := lt_of_get hid
    simp only [Option.some.injEq] at hg
    have f1 := cnum_at hid h1 h2
    have l1 := @lenB b
    have hrow : ∀ o, (h.set id o)[id]? = some o := fun o => by simp [hidl]
    have hss : ∀ o o', (h.set id o).set id o' = h.set id o' := fun o o' => by rw [List.set_set]
    have hT : txtG b n = txtG b n := rfl
    conv at hT => rhs; unfold txtG
    cases hN : numG 0 0 (b.drop n) with
    | error e =>
      rw [hN] at f1 hT
      dsimp only at f1 hT
      rw [hT] at hg
      dsimp only at hg
      subst hg
      have hc := Nat.zero_add 0
      repeat' (first | simp only [hc, AS, Tryd.f73, NX, NPV, SX, HX, RetsW_pan, eno, f1, AB, PL, RG, LP, TY, simprocAttr, ↓reduceIte, forall_const, eq_self, ne_eq, Option.some.injEq, beq_self_eq_true] | ((first | apply fin_ndec | apply fin_dec | apply cnd_ndec | apply cnd_dec' | apply fin_nsplit | apply fin_split | apply cnd_nsplit | apply cnd_split) <;> intro hc) | refine seqS_id ?_ | refine blk_exit_id ?_)
      exact ⟨_, _, _, _, rfl, Wk.sub' (by simp [subT]) rfl, rfl⟩
    | ok p =>
      obtain ⟨u, k⟩ := p
      obtain ⟨hk1, hk2⟩ := numG_bd hN
      rw [List.length_drop] at hk2
      rw [hN] at f1 hT
      dsimp only at f1 hT
      rw [hT] at hg
      clear hT
      generalize hv : valI u = v at *
      by_cases c1 : v < 0
      · have c1' : (v < 0) = True := eq_true c1
        rw [if_pos c1] at hg
        dsimp only at hg
        subst hg
        have hc := Nat.zero_add 0
        repeat' (first | simp only [hc, AS, Tryd.f73, NX, NPV, SX, HX, mkErr, RetsW_pan, f1, c1', AB, PL, RG, LP, TY, simprocAttr, ↓reduceIte, forall_const, eq_self, ne_eq, Option.some.injEq, beq_self_eq_true] | ((first | apply fin_ndec | apply fin_dec | apply cnd_ndec | apply cnd_dec' | apply fin_nsplit | apply fin_split | apply cnd_nsplit | apply cnd_split) <;> intro hc) | refine seqS_id ?_ | refine blk_exit_id ?_)
        exact ⟨_, _, _, _, rfl, tops_pan hidl rfl rfl, rfl⟩
      have c1' : (v < 0) = False := eq_false c1
      rw [if_neg c1] at hg
      by_cases c2 : 65536 < v
      · have c2' : (v > 65536) = True := eq_true c2
        rw [if_pos c2] at hg
        dsimp only at hg
        subst hg
        have hc := Nat.zero_add 0
        repeat' (first | simp only [hc, AS, Tryd.f73, NX, NPV, SX, HX, mkErr, RetsW_pan, f1, c1', c2', AB, PL, RG, LP, TY, simprocAttr, ↓reduceIte, forall_const, eq_self, ne_eq, Option.some.injEq, beq_self_eq_true] | ((first | apply fin_ndec | apply fin_dec | apply cnd_ndec | apply cnd_dec' | apply fin_nsplit | apply fin_split | apply cnd_nsplit | apply cnd_split) <;> intro hc) | refine seqS_id ?_ | refine blk_exit_id ?_)
        exact ⟨_, _, _, _, rfl, tops_pan hidl rfl rfl, rfl⟩
      have c2' : (v > 65536) = False := eq_false c2
      rw [if_neg c2] at hg
      have w1 := wI (n := (b.length : Int) - ((n + k : Nat) : Int)) (by omega) (by omega)
      by_cases c3 : (b.length : Int) - ((n + k : Nat) : Int) < v
      · have c3' : (v > (b.length : Int) - ((n + k : Nat) : Int)) = True := eq_true c3
        rw [if_pos c3] at hg
        dsimp only at hg
        subst hg
        have hc := Nat.zero_add 0
        repeat' (first | simp only [hc, AS, Tryd.f73, NX, NPV, SX, HX, mkErr, RetsW_pan, f1, c1', c2', w1, c3', l1, hrow, AB, PL, RG, LP, TY, simprocAttr, ↓reduceIte, forall_const, eq_self, ne_eq, Option.some.injEq, beq_self_eq_true] | ((first | apply fin_ndec | apply fin_dec | apply cnd_ndec | apply cnd_dec' | apply fin_nsplit | apply fin_split | apply cnd_nsplit | apply cnd_split) <;> intro hc) | refine seqS_id ?_ | refine blk_exit_id ?_)
        exact ⟨_, _, _, _, rfl, tops_pan hidl rfl rfl, rfl⟩
      have c3' : (v > (b.length : Int) - ((n + k : Nat) : Int)) = False := eq_false c3
      rw [if_neg c3] at hg
      dsimp only at hg
      obtain ⟨m, rfl⟩ : ∃ m : Nat, v = (m : Int) := ⟨v.toNat, by omega⟩
      rw [Int.toNat_natCast] at hg
      have w2 : IntKind.i64.wrap (((n + k : Nat) : Int) + (m : Int)) = ((n + k + m : Nat) : Int) := by rw [wI (by omega) (by omega)]; omega
      have w3 : IntKind.i64.wrap (((n + k + m : Nat) : Int) - (m : Int)) = ((n + k : Nat) : Int) := by rw [wI (by omega) (by omega)]; omega
      have q1 : ∀ ful : Bool, slX ful 1 (b.map rowB) ((n + k : Nat) : Int) ((n + k + m : Nat) : Int) = some (.sl ful (((b.drop (n + k)).take m).map rowB)) := fun ful => by
        rw [slX_ok (eq_true (allB b)) (eq_true (by omega)) (eq_true (by omega)) (eq_true (by simp; omega)), Int.toNat_natCast, Int.toNat_natCast, show n + k + m - (n + k) = m by omega, ← List.map_drop, ← List.map_take]
      subst hg
      have hc := Nat.zero_add 0
      repeat' (first | simp only [hc, AS, Tryd.f73, NX, NPV, SX, HX, mkErr, RetsW_pan, f1, c1', c2', w1, c3', l1, hrow, hss, w2, w3, sla_eq, slT_sl, slZ_some, q1, Option.getD_some, AB, PL, RG, LP, TY, simprocAttr, ↓reduceIte, forall_const, eq_self, ne_eq, Option.some.injEq, beq_self_eq_true] | ((first | apply fin_ndec | apply fin_dec | apply cnd_ndec | apply cnd_dec' | apply fin_nsplit | apply fin_split | apply cnd_nsplit | apply cnd_split) <;> intro hc) | refine seqS_id ?_ | refine blk_exit_id ?_)
      exact ⟨_, Wk.refl, [.c (.d (.sl (f && decide (((n + k + m : Nat) : Int) = b.length)) (((b.drop (n + k)).take m).map rowB)))], by simp [resAllV, resOneV, S.get, look, AV.one], rfl⟩
  · cases hg

end
end Go.Ab
