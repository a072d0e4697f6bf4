/-
  Texts of the layer and of the laws, put together: AbF10, AbF11. No law is stated here.
-/
import Derived.Test.YteeepgnhkfmnaaaDoorAbVol31
set_option linter.unusedSimpArgs false
set_option linter.unusedVariables false
set_option maxRecDepth 100000

/-
  Encodings, the reference's: Copy, Same, PutInt. Printed by tools/genf9.py ref.
-/
namespace Go.Ab
open Go.RowKit Go.Proofs

noncomputable section
open Classical

def avB (p : Bool × List UInt8) : List AV := [.v (.c (.d (.sl p.1 (p.2.map rowB))))]
theorem avB_inj (a b : Bool × List UInt8) (h : avB a = avB b) : a = b := by
  obtain ⟨a1, a2⟩ := a
  obtain ⟨b1, b2⟩ := b
  simp only [avB, List.cons.injEq, AV.v.injEq, V.c.injEq, C1.d.injEq, D.sl.injEq, and_true] at h
  rw [h.1, mapB_inj.1 h.2]
def cpyK (args : List AV) (h : Hp) : Option COut :=
  if hx : ∃ p, avB p = args then (if hx.choose.2.length ≤ 1000000 then some (if hx.choose.2 = [] then .ret (.v (.c (.d (.sl true [])))) h else .ret (.v (.c (.own h.length (hx.choose.2.map rowB)))) (h ++ [.tok hx.choose.2.length 1 none])) else none) else none
def r2copy_k : List AV → Hp → Option COut := cpyK
theorem r2copy_at {f : Bool} {bs : List UInt8} {h : Hp} (hl : bs.length ≤ 1000000) : r2copy_k [.v (.c (.d (.sl f (bs.map rowB))))] h = some (if bs = [] then .ret (.v (.c (.d (.sl true [])))) h else .ret (.v (.c (.own h.length (bs.map rowB)))) (h ++ [.tok bs.length 1 none])) := by
  have hx : ∃ q, avB q = [.v (.c (.d (.sl f (bs.map rowB))))] := ⟨(f, bs), rfl⟩
  have e : r2copy_k [.v (.c (.d (.sl f (bs.map rowB))))] h = cpyK [.v (.c (.d (.sl f (bs.map rowB))))] h := rfl
  have hq : hx.choose = (f, bs) := avB_inj _ _ hx.choose_spec
  rw [e]
  unfold cpyK
  rw [dif_pos hx, hq, if_pos hl]
theorem r2copy_kok : ImpC Tryd.prog Gt 19 r2copy_k := by
  intro args h out h0
  refine fok_of_awpSW (X := ctxN Tryd.prog Gt [] [] [] none) Tryd.func19 rfl rfl (by kernel_rfl) (by kernel_rfl) (kok_n AllOk.nil AllK.nil AllN.nil) ?_ ?_
  · have h0 : cpyK args h = some out := h0
    unfold cpyK at h0
    split at h0
    · rename_i hx
      obtain ⟨p, rfl⟩ := hx
      exact Nat.le_of_ble_eq_true rfl
    · cases h0
  have hx : ∃ p, avB p = args := by
    have h0 : cpyK args h = some out := h0
    unfold cpyK at h0
    split at h0
    · assumption
    · cases h0
  obtain ⟨⟨f, bs⟩, rfl⟩ := hx
  have hl : bs.length ≤ 1000000 := by
    have h0 : cpyK (avB (f, bs)) h = some out := h0
    unfold cpyK at h0
    have hx : ∃ q, avB q = avB (f, bs) := ⟨_, rfl⟩
    rw [dif_pos hx, avB_inj _ _ hx.choose_spec] at h0
    split at h0
    · assumption
    · cases h0
  have h1 := r2copy_at (f := f) (bs := bs) (h := h) hl
  rw [show r2copy_k [.v (.c (.d (.sl f (bs.map rowB))))] h = some out from h0, Option.some.injEq] at h1
  subst h1
  by_cases hb : bs = []
  · rw [if_pos hb]
    have ap0 : ∀ h, apSl h 1 1 [] (bs.map rowB) = some (.d (.sl true []), h) := fun h => by
      rw [apSl_new (allB bs) (by subst hb; simp) (by subst hb; simp), if_pos (by subst hb; rfl)]
    have hc := Nat.zero_add 0
    repeat' (first | simp only [hc, AS, Tryd.f19, avB, NX, NPV, SX, HX, ap0, AB, PL, RG, LP, TY, simprocAttr, ↓reduceIte, forall_const, eq_self, ne_eq, Option.some.injEq, beq_self_eq_true] | ((first | apply fin_ndec | apply fin_dec | apply cnd_ndec | apply cnd_dec' | apply fin_nsplit | apply fin_split | apply cnd_nsplit | apply cnd_split) <;> intro hc) | refine seqS_id ?_ | refine blk_exit_id ?_)
    exact ⟨_, Wk.refl, [.c (.d (.sl true []))], by simp [resAllV, resOneV, S.get, look, AV.one], by simp [resVV]⟩
  · rw [if_neg hb]
    have ap0 : ∀ h, apSl h 1 1 [] (bs.map rowB) = some (.v (.c (.own h.length (bs.map rowB))), h ++ [.tok bs.length 1 none]) := fun h => by
      rw [apSl_new (allB bs) (by simp; omega) (by simp; omega), if_neg (by simpa using hb), List.length_map]
    have hc := Nat.zero_add 0
    repeat' (first | simp only [hc, AS, Tryd.f19, avB, NX, NPV, SX, HX, ap0, AB, PL, RG, LP, TY, simprocAttr, ↓reduceIte, forall_const, eq_self, ne_eq, Option.some.injEq, beq_self_eq_true] | ((first | apply fin_ndec | apply fin_dec | apply cnd_ndec | apply cnd_dec' | apply fin_nsplit | apply fin_split | apply cnd_nsplit | apply cnd_split) <;> intro hc) | refine seqS_id ?_ | refine blk_exit_id ?_)
    exact ⟨_, Wk.refl, [.c (.own h.length (bs.map rowB))], by simp [resAllV, resOneV, S.get, look, AV.one], by simp [resVV]⟩

def r2pint_m : List PA → Option (List PA) := mE encBI fun p => if intOk p.1.2 p.2 then some [.c (.sl false ((p.1.2 ++ encI p.2).map rowB))] else none
def r2pintK_k : List AV → Hp → Option COut := bK avBI fun b n => if intOk b n then some (b ++ encI n) else none

theorem r2pint_ok : PureC Tryd.prog Gt 42 r2pint_m := by
  refine pure_of_awpSW (X := ctxN Tryd.prog Gt [] [(19, r2copy_k)] [] none) Tryd.func42 rfl rfl (by kernel_rfl) (by kernel_rfl) (kok_n AllOk.nil (AllK.cons r2copy_kok AllK.nil) AllN.nil) ?_
  intro args r h0
  obtain ⟨⟨⟨f, bs⟩, n⟩, rfl, h⟩ := mE_inv h0
  refine ⟨Nat.le_of_ble_eq_true rfl, ?_⟩
  split at h
  · rename_i hn
    simp only [Option.some.injEq] at h
    dsimp only at hn h
    by_cases hneg : n < 0
    · have hlt : (n < 0) = True := eq_true hneg
      have w1 := wI (n := n + 1) (by have := hn.2; omega) (by have := hn.2; omega)
      have w2 : IntKind.i64.wrap (0 - (n + 1)) = -(n + 1) := by rw [wI (by omega) (by have := hn.2; omega)]; omega
      have w3 := eU64 (n := -(n + 1)) (by omega) (by have := hn.2; omega)
      have w4 := eU64 (n := 2 * -(n + 1)) (by omega) (by have := hn.2; omega)
      have w5 : IntKind.u64.wrap (2 * -(n + 1) + 1) = ((codeI n : Nat) : Int) := by
        rw [eU64 (by omega) (by have := hn.2; omega)]
        unfold codeI
        rw [if_pos hneg]
        omega
      have w6 : (0 : Int) = 0 := rfl
      by_cases hb : bs = []
      · have ap0 := r2copy_at (f := f) (bs := bs) (h := []) hn.1
        rw [if_pos hb] at ap0
        have hc := Nat.zero_add 0
        repeat' (first | simp only [hc, AS, Tryd.f42, encBI, NX, NPV, SX, hlt, w1, w2, w3, w4, w5, ap0, AB, PL, RG, LP, TY, simprocAttr, ↓reduceIte, forall_const, eq_self, ne_eq, Option.some.injEq, beq_self_eq_true] | ((first | apply fin_ndec | apply fin_dec | apply cnd_ndec | apply cnd_dec' | apply fin_nsplit | apply fin_split | apply cnd_nsplit | apply cnd_split) <;> intro hc) | refine seqS_id ?_ | refine blk_exit_id ?_)
        refine awpS_loop (σ := List UInt8 × Nat) (fun x => x.1 ++ encU x.2 = bs ++ encI n ∧ x.1.length ≤ (bs ++ encI n).length ∧ x.2 ≤ 18446744073709551615) (fun x => ⟨[(6, .v (.c (.d (.int .u64 x.2)))), (5, .v (.c (.own 0 (x.1.map rowB))))], [.tok x.1.length 1 none]⟩) (fun x => x.2) (bs, codeI n) ((Wk.own 5 1 (by decide) (by simp [look])).trans (Wk.sub' (by simp [subT, look, hb]) (by simp [hb]))) ⟨rfl, by simp, codeI_lt hn.2.1 hn.2.2⟩ ?_
        rintro ⟨pre, u⟩ ⟨hpre, hlp, hu⟩
        dsimp only at hpre hlp hu ⊢
        have hel : (bs ++ encI n).length ≤ 1000010 := by have := encI_len hn.2.1 hn.2.2; rw [List.length_append]; have := hn.1; omega
        have e1 := tm128 u
        have e2 := td128 u
        by_cases h128 : u < 128
        · have hge : ((u : Int) ≥ 128) = False := eq_false (by omega)
          have w1 := eU8 (n := (u : Int)) (by omega) (by omega)
          rw [encU_lo h128] at hpre
          have hlp2 : pre.length + 1 ≤ 1000010 := by have := congrArg List.length hpre; simp only [List.length_append, List.length_cons, List.length_nil] at this hel; omega
          have hend : bs ++ encI n = pre ++ [UInt8.ofNat u] := hpre.symm
          have hrow : ((pre ++ [UInt8.ofNat u]).map rowB) = pre.map rowB ++ [[.int .u8 (u : Int)]] := by rw [List.map_append, List.map_cons, List.map_nil, rowB_of (by omega)]
          have ap : ∀ g : Hp, apTok g 0 1 1 (pre.map rowB) [[.int .u8 (u : Int)]] (some (.tok pre.length 1 none)) = some (.v (.c (.own 0 ((pre ++ [UInt8.ofNat u]).map rowB))), g.set 0 (.tok (pre.length + 1) 1 none)) := fun g => by
            rw [apTok_ok (eq_true (by simp)) (eq_true (by simp [allLen])) (eq_true (by simp; omega)) (eq_true (by simp; omega)), hrow]
            simp
          have hc := Nat.zero_add 0
          repeat' (first | simp only [hc, AS, NX, NPV, SX, hge, w1, ap, AB, PL, RG, LP, TY, simprocAttr, ↓reduceIte, forall_const, eq_self, ne_eq, Option.some.injEq, beq_self_eq_true] | ((first | apply fin_ndec | apply fin_dec | apply cnd_ndec | apply cnd_dec' | apply fin_nsplit | apply fin_split | apply cnd_nsplit | apply cnd_split) <;> intro hc) | refine seqS_id ?_ | refine blk_exit_id ?_)
          exact ⟨_, Wk.refl, by rw [← h, hend]; rfl⟩
        · have hge : ((u : Int) ≥ 128) = True := eq_true (by omega)
          have w1 := eU8 (n := ((u % 128 : Nat) : Int)) (by omega) (by omega)
          have w2 : IntKind.u8.wrap (((u % 128 : Nat) : Int) + 128) = ((u % 128 + 128 : Nat) : Int) := by rw [eU8 (by omega) (by omega)]; omega
          have w3 := eU64 (n := ((u / 128 : Nat) : Int)) (by omega) (by omega)
          rw [encU_hi h128] at hpre
          have hpre2 : (pre ++ [UInt8.ofNat (u % 128 + 128)]) ++ encU (u / 128) = bs ++ encI n := by rw [← hpre]; simp
          have hlp2 : pre.length + 1 ≤ (bs ++ encI n).length := by rw [← hpre2]; simp
          have hrow : ((pre ++ [UInt8.ofNat (u % 128 + 128)]).map rowB) = pre.map rowB ++ [[.int .u8 ((u % 128 + 128 : Nat) : Int)]] := by rw [List.map_append, List.map_cons, List.map_nil, rowB_of (by omega)]
          have ap : ∀ g : Hp, apTok g 0 1 1 (pre.map rowB) [[.int .u8 ((u % 128 + 128 : Nat) : Int)]] (some (.tok pre.length 1 none)) = some (.v (.c (.own 0 ((pre ++ [UInt8.ofNat (u % 128 + 128)]).map rowB))), g.set 0 (.tok (pre.length + 1) 1 none)) := fun g => by
            rw [apTok_ok (eq_true (by simp)) (eq_true (by simp [allLen])) (eq_true (by simp; omega)) (eq_true (by simp; omega)), hrow]
            simp
          have hc := Nat.zero_add 0
          repeat' (first | simp only [hc, AS, NX, NPV, SX, hge, e1, e2, w1, w2, w3, ap, AB, PL, RG, LP, TY, simprocAttr, ↓reduceIte, forall_const, eq_self, ne_eq, Option.some.injEq, beq_self_eq_true] | ((first | apply fin_ndec | apply fin_dec | apply cnd_ndec | apply cnd_dec' | apply fin_nsplit | apply fin_split | apply cnd_nsplit | apply cnd_split) <;> intro hc) | refine seqS_id ?_ | refine blk_exit_id ?_)
          refine lp_next (pre ++ [UInt8.ofNat (u % 128 + 128)], u / 128) ?_ ⟨hpre2, by simpa using hlp2, by dsimp only; omega⟩ (by dsimp only; omega)
          dsimp only
          exact Wk.sub' (by simp [subT, look]) (by simp)
      · have ap0 := r2copy_at (f := f) (bs := bs) (h := []) hn.1
        rw [if_neg hb] at ap0
        simp only [List.length_nil, List.nil_append] at ap0
        have hc := Nat.zero_add 0
        repeat' (first | simp only [hc, AS, Tryd.f42, encBI, NX, NPV, SX, hlt, w1, w2, w3, w4, w5, ap0, AB, PL, RG, LP, TY, simprocAttr, ↓reduceIte, forall_const, eq_self, ne_eq, Option.some.injEq, beq_self_eq_true] | ((first | apply fin_ndec | apply fin_dec | apply cnd_ndec | apply cnd_dec' | apply fin_nsplit | apply fin_split | apply cnd_nsplit | apply cnd_split) <;> intro hc) | refine seqS_id ?_ | refine blk_exit_id ?_)
        refine awpS_loop (σ := List UInt8 × Nat) (fun x => x.1 ++ encU x.2 = bs ++ encI n ∧ x.1.length ≤ (bs ++ encI n).length ∧ x.2 ≤ 18446744073709551615) (fun x => ⟨[(6, .v (.c (.d (.int .u64 x.2)))), (5, .v (.c (.own 0 (x.1.map rowB))))], [.tok x.1.length 1 none]⟩) (fun x => x.2) (bs, codeI n) ((Wk.sub' (by simp [subT, look]) (by simp))) ⟨rfl, by simp, codeI_lt hn.2.1 hn.2.2⟩ ?_
        rintro ⟨pre, u⟩ ⟨hpre, hlp, hu⟩
        dsimp only at hpre hlp hu ⊢
        have hel : (bs ++ encI n).length ≤ 1000010 := by have := encI_len hn.2.1 hn.2.2; rw [List.length_append]; have := hn.1; omega
        have e1 := tm128 u
        have e2 := td128 u
        by_cases h128 : u < 128
        · have hge : ((u : Int) ≥ 128) = False := eq_false (by omega)
          have w1 := eU8 (n := (u : Int)) (by omega) (by omega)
          rw [encU_lo h128] at hpre
          have hlp2 : pre.length + 1 ≤ 1000010 := by have := congrArg List.length hpre; simp only [List.length_append, List.length_cons, List.length_nil] at this hel; omega
          have hend : bs ++ encI n = pre ++ [UInt8.ofNat u] := hpre.symm
          have hrow : ((pre ++ [UInt8.ofNat u]).map rowB) = pre.map rowB ++ [[.int .u8 (u : Int)]] := by rw [List.map_append, List.map_cons, List.map_nil, rowB_of (by omega)]
          have ap : ∀ g : Hp, apTok g 0 1 1 (pre.map rowB) [[.int .u8 (u : Int)]] (some (.tok pre.length 1 none)) = some (.v (.c (.own 0 ((pre ++ [UInt8.ofNat u]).map rowB))), g.set 0 (.tok (pre.length + 1) 1 none)) := fun g => by
            rw [apTok_ok (eq_true (by simp)) (eq_true (by simp [allLen])) (eq_true (by simp; omega)) (eq_true (by simp; omega)), hrow]
            simp
          have hc := Nat.zero_add 0
          repeat' (first | simp only [hc, AS, NX, NPV, SX, hge, w1, ap, AB, PL, RG, LP, TY, simprocAttr, ↓reduceIte, forall_const, eq_self, ne_eq, Option.some.injEq, beq_self_eq_true] | ((first | apply fin_ndec | apply fin_dec | apply cnd_ndec | apply cnd_dec' | apply fin_nsplit | apply fin_split | apply cnd_nsplit | apply cnd_split) <;> intro hc) | refine seqS_id ?_ | refine blk_exit_id ?_)
          exact ⟨_, Wk.refl, by rw [← h, hend]; rfl⟩
        · have hge : ((u : Int) ≥ 128) = True := eq_true (by omega)
          have w1 := eU8 (n := ((u % 128 : Nat) : Int)) (by omega) (by omega)
          have w2 : IntKind.u8.wrap (((u % 128 : Nat) : Int) + 128) = ((u % 128 + 128 : Nat) : Int) := by rw [eU8 (by omega) (by omega)]; omega
          have w3 := eU64 (n := ((u / 128 : Nat) : Int)) (by omega) (by omega)
          rw [encU_hi h128] at hpre
          have hpre2 : (pre ++ [UInt8.ofNat (u % 128 + 128)]) ++ encU (u / 128) = bs ++ encI n := by rw [← hpre]; simp
          have hlp2 : pre.length + 1 ≤ (bs ++ encI n).length := by rw [← hpre2]; simp
          have hrow : ((pre ++ [UInt8.ofNat (u % 128 + 128)]).map rowB) = pre.map rowB ++ [[.int .u8 ((u % 128 + 128 : Nat) : Int)]] := by rw [List.map_append, List.map_cons, List.map_nil, rowB_of (by omega)]
          have ap : ∀ g : Hp, apTok g 0 1 1 (pre.map rowB) [[.int .u8 ((u % 128 + 128 : Nat) : Int)]] (some (.tok pre.length 1 none)) = some (.v (.c (.own 0 ((pre ++ [UInt8.ofNat (u % 128 + 128)]).map rowB))), g.set 0 (.tok (pre.length + 1) 1 none)) := fun g => by
            rw [apTok_ok (eq_true (by simp)) (eq_true (by simp [allLen])) (eq_true (by simp; omega)) (eq_true (by simp; omega)), hrow]
            simp
          have hc := Nat.zero_add 0
          repeat' (first | simp only [hc, AS, NX, NPV, SX, hge, e1, e2, w1, w2, w3, ap, AB, PL, RG, LP, TY, simprocAttr, ↓reduceIte, forall_const, eq_self, ne_eq, Option.some.injEq, beq_self_eq_true] | ((first | apply fin_ndec | apply fin_dec | apply cnd_ndec | apply cnd_dec' | apply fin_nsplit | apply fin_split | apply cnd_nsplit | apply cnd_split) <;> intro hc) | refine seqS_id ?_ | refine blk_exit_id ?_)
          refine lp_next (pre ++ [UInt8.ofNat (u % 128 + 128)], u / 128) ?_ ⟨hpre2, by simpa using hlp2, by dsimp only; omega⟩ (by dsimp only; omega)
          dsimp only
          exact Wk.sub' (by simp [subT, look]) (by simp)
    · have hlt : (n < 0) = False := eq_false hneg
      have w1 := eU64 (n := n) (by omega) (by have := hn.2; omega)
      have w2 : IntKind.u64.wrap (2 * n) = ((codeI n : Nat) : Int) := by
        rw [eU64 (by omega) (by have := hn.2; omega)]
        unfold codeI
        rw [if_neg hneg]
        omega
      have w3 : (0 : Int) = 0 := rfl
      have w4 : (0 : Int) = 0 := rfl
      have w5 : (0 : Int) = 0 := rfl
      have w6 : (0 : Int) = 0 := rfl
      by_cases hb : bs = []
      · have ap0 := r2copy_at (f := f) (bs := bs) (h := []) hn.1
        rw [if_pos hb] at ap0
        have hc := Nat.zero_add 0
        repeat' (first | simp only [hc, AS, Tryd.f42, encBI, NX, NPV, SX, hlt, w1, w2, w3, w4, w5, ap0, AB, PL, RG, LP, TY, simprocAttr, ↓reduceIte, forall_const, eq_self, ne_eq, Option.some.injEq, beq_self_eq_true] | ((first | apply fin_ndec | apply fin_dec | apply cnd_ndec | apply cnd_dec' | apply fin_nsplit | apply fin_split | apply cnd_nsplit | apply cnd_split) <;> intro hc) | refine seqS_id ?_ | refine blk_exit_id ?_)
        refine awpS_loop (σ := List UInt8 × Nat) (fun x => x.1 ++ encU x.2 = bs ++ encI n ∧ x.1.length ≤ (bs ++ encI n).length ∧ x.2 ≤ 18446744073709551615) (fun x => ⟨[(6, .v (.c (.d (.int .u64 x.2)))), (5, .v (.c (.own 0 (x.1.map rowB))))], [.tok x.1.length 1 none]⟩) (fun x => x.2) (bs, codeI n) ((Wk.own 5 1 (by decide) (by simp [look])).trans (Wk.sub' (by simp [subT, look, hb]) (by simp [hb]))) ⟨rfl, by simp, codeI_lt hn.2.1 hn.2.2⟩ ?_
        rintro ⟨pre, u⟩ ⟨hpre, hlp, hu⟩
        dsimp only at hpre hlp hu ⊢
        have hel : (bs ++ encI n).length ≤ 1000010 := by have := encI_len hn.2.1 hn.2.2; rw [List.length_append]; have := hn.1; omega
        have e1 := tm128 u
        have e2 := td128 u
        by_cases h128 : u < 128
        · have hge : ((u : Int) ≥ 128) = False := eq_false (by omega)
          have w1 := eU8 (n := (u : Int)) (by omega) (by omega)
          rw [encU_lo h128] at hpre
          have hlp2 : pre.length + 1 ≤ 1000010 := by have := congrArg List.length hpre; simp only [List.length_append, List.length_cons, List.length_nil] at this hel; omega
          have hend : bs ++ encI n = pre ++ [UInt8.ofNat u] := hpre.symm
          have hrow : ((pre ++ [UInt8.ofNat u]).map rowB) = pre.map rowB ++ [[.int .u8 (u : Int)]] := by rw [List.map_append, List.map_cons, List.map_nil, rowB_of (by omega)]
          have ap : ∀ g : Hp, apTok g 0 1 1 (pre.map rowB) [[.int .u8 (u : Int)]] (some (.tok pre.length 1 none)) = some (.v (.c (.own 0 ((pre ++ [UInt8.ofNat u]).map rowB))), g.set 0 (.tok (pre.length + 1) 1 none)) := fun g => by
            rw [apTok_ok (eq_true (by simp)) (eq_true (by simp [allLen])) (eq_true (by simp; omega)) (eq_true (by simp; omega)), hrow]
            simp
          have hc := Nat.zero_add 0
          repeat' (first | simp only [hc, AS, NX, NPV, SX, hge, w1, ap, AB, PL, RG, LP, TY, simprocAttr, ↓reduceIte, forall_const, eq_self, ne_eq, Option.some.injEq, beq_self_eq_true] | ((first | apply fin_ndec | apply fin_dec | apply cnd_ndec | apply cnd_dec' | apply fin_nsplit | apply fin_split | apply cnd_nsplit | apply cnd_split) <;> intro hc) | refine seqS_id ?_ | refine blk_exit_id ?_)
          exact ⟨_, Wk.refl, by rw [← h, hend]; rfl⟩
        · have hge : ((u : Int) ≥ 128) = True := eq_true (by omega)
          have w1 := eU8 (n := ((u % 128 : Nat) : Int)) (by omega) (by omega)
          have w2 : IntKind.u8.wrap (((u % 128 : Nat) : Int) + 128) = ((u % 128 + 128 : Nat) : Int) := by rw [eU8 (by omega) (by omega)]; omega
          have w3 := eU64 (n := ((u / 128 : Nat) : Int)) (by omega) (by omega)
          rw [encU_hi h128] at hpre
          have hpre2 : (pre ++ [UInt8.ofNat (u % 128 + 128)]) ++ encU (u / 128) = bs ++ encI n := by rw [← hpre]; simp
          have hlp2 : pre.length + 1 ≤ (bs ++ encI n).length := by rw [← hpre2]; simp
          have hrow : ((pre ++ [UInt8.ofNat (u % 128 + 128)]).map rowB) = pre.map rowB ++ [[.int .u8 ((u % 128 + 128 : Nat) : Int)]] := by rw [List.map_append, List.map_cons, List.map_nil, rowB_of (by omega)]
          have ap : ∀ g : Hp, apTok g 0 1 1 (pre.map rowB) [[.int .u8 ((u % 128 + 128 : Nat) : Int)]] (some (.tok pre.length 1 none)) = some (.v (.c (.own 0 ((pre ++ [UInt8.ofNat (u % 128 + 128)]).map rowB))), g.set 0 (.tok (pre.length + 1) 1 none)) := fun g => by
            rw [apTok_ok (eq_true (by simp)) (eq_true (by simp [allLen])) (eq_true (by simp; omega)) (eq_true (by simp; omega)), hrow]
            simp
          have hc := Nat.zero_add 0
          repeat' (first | simp only [hc, AS, NX, NPV, SX, hge, e1, e2, w1, w2, w3, ap, AB, PL, RG, LP, TY, simprocAttr, ↓reduceIte, forall_const, eq_self, ne_eq, Option.some.injEq, beq_self_eq_true] | ((first | apply fin_ndec | apply fin_dec | apply cnd_ndec | apply cnd_dec' | apply fin_nsplit | apply fin_split | apply cnd_nsplit | apply cnd_split) <;> intro hc) | refine seqS_id ?_ | refine blk_exit_id ?_)
          refine lp_next (pre ++ [UInt8.ofNat (u % 128 + 128)], u / 128) ?_ ⟨hpre2, by simpa using hlp2, by dsimp only; omega⟩ (by dsimp only; omega)
          dsimp only
          exact Wk.sub' (by simp [subT, look]) (by simp)
      · have ap0 := r2copy_at (f := f) (bs := bs) (h := []) hn.1
        rw [if_neg hb] at ap0
        simp only [List.length_nil, List.nil_append] at ap0
        have hc := Nat.zero_add 0
        repeat' (first | simp only [hc, AS, Tryd.f42, encBI, NX, NPV, SX, hlt, w1, w2, w3, w4, w5, ap0, AB, PL, RG, LP, TY, simprocAttr, ↓reduceIte, forall_const, eq_self, ne_eq, Option.some.injEq, beq_self_eq_true] | ((first | apply fin_ndec | apply fin_dec | apply cnd_ndec | apply cnd_dec' | apply fin_nsplit | apply fin_split | apply cnd_nsplit | apply cnd_split) <;> intro hc) | refine seqS_id ?_ | refine blk_exit_id ?_)
        refine awpS_loop (σ := List UInt8 × Nat) (fun x => x.1 ++ encU x.2 = bs ++ encI n ∧ x.1.length ≤ (bs ++ encI n).length ∧ x.2 ≤ 18446744073709551615) (fun x => ⟨[(6, .v (.c (.d (.int .u64 x.2)))), (5, .v (.c (.own 0 (x.1.map rowB))))], [.tok x.1.length 1 none]⟩) (fun x => x.2) (bs, codeI n) ((Wk.sub' (by simp [subT, look]) (by simp))) ⟨rfl, by simp, codeI_lt hn.2.1 hn.2.2⟩ ?_
        rintro ⟨pre, u⟩ ⟨hpre, hlp, hu⟩
        dsimp only at hpre hlp hu ⊢
        have hel : (bs ++ encI n).length ≤ 1000010 := by have := encI_len hn.2.1 hn.2.2; rw [List.length_append]; have := hn.1; omega
        have e1 := tm128 u
        have e2 := td128 u
        by_cases h128 : u < 128
        · have hge : ((u : Int) ≥ 128) = False := eq_false (by omega)
          have w1 := eU8 (n := (u : Int)) (by omega) (by omega)
          rw [encU_lo h128] at hpre
          have hlp2 : pre.length + 1 ≤ 1000010 := by have := congrArg List.length hpre; simp only [List.length_append, List.length_cons, List.length_nil] at this hel; omega
          have hend : bs ++ encI n = pre ++ [UInt8.ofNat u] := hpre.symm
          have hrow : ((pre ++ [UInt8.ofNat u]).map rowB) = pre.map rowB ++ [[.int .u8 (u : Int)]] := by rw [List.map_append, List.map_cons, List.map_nil, rowB_of (by omega)]
          have ap : ∀ g : Hp, apTok g 0 1 1 (pre.map rowB) [[.int .u8 (u : Int)]] (some (.tok pre.length 1 none)) = some (.v (.c (.own 0 ((pre ++ [UInt8.ofNat u]).map rowB))), g.set 0 (.tok (pre.length + 1) 1 none)) := fun g => by
            rw [apTok_ok (eq_true (by simp)) (eq_true (by simp [allLen])) (eq_true (by simp; omega)) (eq_true (by simp; omega)), hrow]
            simp
          have hc := Nat.zero_add 0
          repeat' (first | simp only [hc, AS, NX, NPV, SX, hge, w1, ap, AB, PL, RG, LP, TY, simprocAttr, ↓reduceIte, forall_const, eq_self, ne_eq, Option.some.injEq, beq_self_eq_true] | ((first | apply fin_ndec | apply fin_dec | apply cnd_ndec | apply cnd_dec' | apply fin_nsplit | apply fin_split | apply cnd_nsplit | apply cnd_split) <;> intro hc) | refine seqS_id ?_ | refine blk_exit_id ?_)
          exact ⟨_, Wk.refl, by rw [← h, hend]; rfl⟩
        · have hge : ((u : Int) ≥ 128) = True := eq_true (by omega)
          have w1 := eU8 (n := ((u % 128 : Nat) : Int)) (by omega) (by omega)
          have w2 : IntKind.u8.wrap (((u % 128 : Nat) : Int) + 128) = ((u % 128 + 128 : Nat) : Int) := by rw [eU8 (by omega) (by omega)]; omega
          have w3 := eU64 (n := ((u / 128 : Nat) : Int)) (by omega) (by omega)
          rw [encU_hi h128] at hpre
          have hpre2 : (pre ++ [UInt8.ofNat (u % 128 + 128)]) ++ encU (u / 128) = bs ++ encI n := by rw [← hpre]; simp
          have hlp2 : pre.length + 1 ≤ (bs ++ encI n).length := by rw [← hpre2]; simp
          have hrow : ((pre ++ [UInt8.ofNat (u % 128 + 128)]).map rowB) = pre.map rowB ++ [[.int .u8 ((u % 128 + 128 : Nat) : Int)]] := by rw [List.map_append, List.map_cons, List.map_nil, rowB_of (by omega)]
          have ap : ∀ g : Hp, apTok g 0 1 1 (pre.map rowB) [[.int .u8 ((u % 128 + 128 : Nat) : Int)]] (some (.tok pre.length 1 none)) = some (.v (.c (.own 0 ((pre ++ [UInt8.ofNat (u % 128 + 128)]).map rowB))), g.set 0 (.tok (pre.length + 1) 1 none)) := fun g => by
            rw [apTok_ok (eq_true (by simp)) (eq_true (by simp [allLen])) (eq_true (by simp; omega)) (eq_true (by simp; omega)), hrow]
            simp
          have hc := Nat.zero_add 0
          repeat' (first | simp only [hc, AS, NX, NPV, SX, hge, e1, e2, w1, w2, w3, ap, AB, PL, RG, LP, TY, simprocAttr, ↓reduceIte, forall_const, eq_self, ne_eq, Option.some.injEq, beq_self_eq_true] | ((first | apply fin_ndec | apply fin_dec | apply cnd_ndec | apply cnd_dec' | apply fin_nsplit | apply fin_split | apply cnd_nsplit | apply cnd_split) <;> intro hc) | refine seqS_id ?_ | refine blk_exit_id ?_)
          refine lp_next (pre ++ [UInt8.ofNat (u % 128 + 128)], u / 128) ?_ ⟨hpre2, by simpa using hlp2, by dsimp only; omega⟩ (by dsimp only; omega)
          dsimp only
          exact Wk.sub' (by simp [subT, look]) (by simp)
  · cases h
theorem r2pintK_kok : ImpC Tryd.prog Gt 42 r2pintK_k := by
  intro args h out h0
  refine fok_of_awpSW (X := ctxN Tryd.prog Gt [] [(19, r2copy_k)] [] none) Tryd.func42 rfl rfl (by kernel_rfl) (by kernel_rfl) (kok_n AllOk.nil (AllK.cons r2copy_kok AllK.nil) AllN.nil) ?_ ?_
  · obtain ⟨p, bs, rfl, _⟩ := bK_inv avBI_inj h0
    exact Nat.le_of_ble_eq_true rfl
  obtain ⟨⟨⟨f, bs⟩, n⟩, out, rfl, hf, rfl⟩ := bK_inv avBI_inj h0
  split at hf
  · rename_i hn
    cases hf
    dsimp only at hn
    by_cases hneg : n < 0
    · have hlt : (n < 0) = True := eq_true hneg
      have w1 := wI (n := n + 1) (by have := hn.2; omega) (by have := hn.2; omega)
      have w2 : IntKind.i64.wrap (0 - (n + 1)) = -(n + 1) := by rw [wI (by omega) (by have := hn.2; omega)]; omega
      have w3 := eU64 (n := -(n + 1)) (by omega) (by have := hn.2; omega)
      have w4 := eU64 (n := 2 * -(n + 1)) (by omega) (by have := hn.2; omega)
      have w5 : IntKind.u64.wrap (2 * -(n + 1) + 1) = ((codeI n : Nat) : Int) := by
        rw [eU64 (by omega) (by have := hn.2; omega)]
        unfold codeI
        rw [if_pos hneg]
        omega
      have w6 : (0 : Int) = 0 := rfl
      by_cases hb : bs = []
      · have ap0 := r2copy_at (f := f) (bs := bs) (h := h) hn.1
        rw [if_pos hb] at ap0
        have hc := Nat.zero_add 0
        repeat' (first | simp only [hc, AS, Tryd.f42, avBI, NX, NPV, SX, HX, hlt, w1, w2, w3, w4, w5, ap0, AB, PL, RG, LP, TY, simprocAttr, ↓reduceIte, forall_const, eq_self, ne_eq, Option.some.injEq, beq_self_eq_true] | ((first | apply fin_ndec | apply fin_dec | apply cnd_ndec | apply cnd_dec' | apply fin_nsplit | apply fin_split | apply cnd_nsplit | apply cnd_split) <;> intro hc) | refine seqS_id ?_ | refine blk_exit_id ?_)
        refine awpS_loop (σ := List UInt8 × Nat) (fun x => x.1 ++ encU x.2 = bs ++ encI n ∧ x.1.length ≤ (bs ++ encI n).length ∧ x.2 ≤ 18446744073709551615) (fun x => ⟨[(6, .v (.c (.d (.int .u64 x.2)))), (5, .v (.c (.own h.length (x.1.map rowB))))], h ++ [.tok x.1.length 1 none]⟩) (fun x => x.2) (bs, codeI n) ((Wk.own 5 1 (by decide) (by simp [look])).trans (Wk.sub' (by simp [subT, look, hb]) (by simp [hb]))) ⟨rfl, by simp, codeI_lt hn.2.1 hn.2.2⟩ ?_
        rintro ⟨pre, u⟩ ⟨hpre, hlp, hu⟩
        dsimp only at hpre hlp hu ⊢
        have hel : (bs ++ encI n).length ≤ 1000010 := by have := encI_len hn.2.1 hn.2.2; rw [List.length_append]; have := hn.1; omega
        have e1 := tm128 u
        have e2 := td128 u
        by_cases h128 : u < 128
        · have hge : ((u : Int) ≥ 128) = False := eq_false (by omega)
          have w1 := eU8 (n := (u : Int)) (by omega) (by omega)
          rw [encU_lo h128] at hpre
          have hlp2 : pre.length + 1 ≤ 1000010 := by have := congrArg List.length hpre; simp only [List.length_append, List.length_cons, List.length_nil] at this hel; omega
          have hend : bs ++ encI n = pre ++ [UInt8.ofNat u] := hpre.symm
          have hrow : ((pre ++ [UInt8.ofNat u]).map rowB) = pre.map rowB ++ [[.int .u8 (u : Int)]] := by rw [List.map_append, List.map_cons, List.map_nil, rowB_of (by omega)]
          have ap : ∀ g : Hp, apTok g h.length 1 1 (pre.map rowB) [[.int .u8 (u : Int)]] (some (.tok pre.length 1 none)) = some (.v (.c (.own h.length ((pre ++ [UInt8.ofNat u]).map rowB))), g.set h.length (.tok (pre.length + 1) 1 none)) := fun g => by
            rw [apTok_ok (eq_true (by simp)) (eq_true (by simp [allLen])) (eq_true (by simp; omega)) (eq_true (by simp; omega)), hrow]
            simp
          have hc := Nat.zero_add 0
          repeat' (first | simp only [hc, AS, NX, NPV, SX, HX, hge, w1, ap, AB, PL, RG, LP, TY, simprocAttr, ↓reduceIte, forall_const, eq_self, ne_eq, Option.some.injEq, beq_self_eq_true] | ((first | apply fin_ndec | apply fin_dec | apply cnd_ndec | apply cnd_dec' | apply fin_nsplit | apply fin_split | apply cnd_nsplit | apply cnd_split) <;> intro hc) | refine seqS_id ?_ | refine blk_exit_id ?_)
          exact ⟨_, Wk.refl, [.c (.own h.length ((bs ++ encI n).map rowB))], by simp [resAllV, resOneV, S.get, look, AV.one, hend], by simp [resVV, hend]⟩
        · have hge : ((u : Int) ≥ 128) = True := eq_true (by omega)
          have w1 := eU8 (n := ((u % 128 : Nat) : Int)) (by omega) (by omega)
          have w2 : IntKind.u8.wrap (((u % 128 : Nat) : Int) + 128) = ((u % 128 + 128 : Nat) : Int) := by rw [eU8 (by omega) (by omega)]; omega
          have w3 := eU64 (n := ((u / 128 : Nat) : Int)) (by omega) (by omega)
          rw [encU_hi h128] at hpre
          have hpre2 : (pre ++ [UInt8.ofNat (u % 128 + 128)]) ++ encU (u / 128) = bs ++ encI n := by rw [← hpre]; simp
          have hlp2 : pre.length + 1 ≤ (bs ++ encI n).length := by rw [← hpre2]; simp
          have hrow : ((pre ++ [UInt8.ofNat (u % 128 + 128)]).map rowB) = pre.map rowB ++ [[.int .u8 ((u % 128 + 128 : Nat) : Int)]] := by rw [List.map_append, List.map_cons, List.map_nil, rowB_of (by omega)]
          have ap : ∀ g : Hp, apTok g h.length 1 1 (pre.map rowB) [[.int .u8 ((u % 128 + 128 : Nat) : Int)]] (some (.tok pre.length 1 none)) = some (.v (.c (.own h.length ((pre ++ [UInt8.ofNat (u % 128 + 128)]).map rowB))), g.set h.length (.tok (pre.length + 1) 1 none)) := fun g => by
            rw [apTok_ok (eq_true (by simp)) (eq_true (by simp [allLen])) (eq_true (by simp; omega)) (eq_true (by simp; omega)), hrow]
            simp
          have hc := Nat.zero_add 0
          repeat' (first | simp only [hc, AS, NX, NPV, SX, HX, hge, e1, e2, w1, w2, w3, ap, AB, PL, RG, LP, TY, simprocAttr, ↓reduceIte, forall_const, eq_self, ne_eq, Option.some.injEq, beq_self_eq_true] | ((first | apply fin_ndec | apply fin_dec | apply cnd_ndec | apply cnd_dec' | apply fin_nsplit | apply fin_split | apply cnd_nsplit | apply cnd_split) <;> intro hc) | refine seqS_id ?_ | refine blk_exit_id ?_)
          refine lp_next (pre ++ [UInt8.ofNat (u % 128 + 128)], u / 128) ?_ ⟨hpre2, by simpa using hlp2, by dsimp only; omega⟩ (by dsimp only; omega)
          dsimp only
          exact Wk.sub' (by simp [subT, look]) (by simp)
      · have ap0 := r2copy_at (f := f) (bs := bs) (h := h) hn.1
        rw [if_neg hb] at ap0
        have hc := Nat.zero_add 0
        repeat' (first | simp only [hc, AS, Tryd.f42, avBI, NX, NPV, SX, HX, hlt, w1, w2, w3, w4, w5, ap0, AB, PL, RG, LP, TY, simprocAttr, ↓reduceIte, forall_const, eq_self, ne_eq, Option.some.injEq, beq_self_eq_true] | ((first | apply fin_ndec | apply fin_dec | apply cnd_ndec | apply cnd_dec' | apply fin_nsplit | apply fin_split | apply cnd_nsplit | apply cnd_split) <;> intro hc) | refine seqS_id ?_ | refine blk_exit_id ?_)
        refine awpS_loop (σ := List UInt8 × Nat) (fun x => x.1 ++ encU x.2 = bs ++ encI n ∧ x.1.length ≤ (bs ++ encI n).length ∧ x.2 ≤ 18446744073709551615) (fun x => ⟨[(6, .v (.c (.d (.int .u64 x.2)))), (5, .v (.c (.own h.length (x.1.map rowB))))], h ++ [.tok x.1.length 1 none]⟩) (fun x => x.2) (bs, codeI n) ((Wk.sub' (by simp [subT, look]) (by simp))) ⟨rfl, by simp, codeI_lt hn.2.1 hn.2.2⟩ ?_
        rintro ⟨pre, u⟩ ⟨hpre, hlp, hu⟩
        dsimp only at hpre hlp hu ⊢
        have hel : (bs ++ encI n).length ≤ 1000010 := by have := encI_len hn.2.1 hn.2.2; rw [List.length_append]; have := hn.1; omega
        have e1 := tm128 u
        have e2 := td128 u
        by_cases h128 : u < 128
        · have hge : ((u : Int) ≥ 128) = False := eq_false (by omega)
          have w1 := eU8 (n := (u : Int)) (by omega) (by omega)
          rw [encU_lo h128] at hpre
          have hlp2 : pre.length + 1 ≤ 1000010 := by have := congrArg List.length hpre; simp only [List.length_append, List.length_cons, List.length_nil] at this hel; omega
          have hend : bs ++ encI n = pre ++ [UInt8.ofNat u] := hpre.symm
          have hrow : ((pre ++ [UInt8.ofNat u]).map rowB) = pre.map rowB ++ [[.int .u8 (u : Int)]] := by rw [List.map_append, List.map_cons, List.map_nil, rowB_of (by omega)]
          have ap : ∀ g : Hp, apTok g h.length 1 1 (pre.map rowB) [[.int .u8 (u : Int)]] (some (.tok pre.length 1 none)) = some (.v (.c (.own h.length ((pre ++ [UInt8.ofNat u]).map rowB))), g.set h.length (.tok (pre.length + 1) 1 none)) := fun g => by
            rw [apTok_ok (eq_true (by simp)) (eq_true (by simp [allLen])) (eq_true (by simp; omega)) (eq_true (by simp; omega)), hrow]
            simp
          have hc := Nat.zero_add 0
          repeat' (first | simp only [hc, AS, NX, NPV, SX, HX, hge, w1, ap, AB, PL, RG, LP, TY, simprocAttr, ↓reduceIte, forall_const, eq_self, ne_eq, Option.some.injEq, beq_self_eq_true] | ((first | apply fin_ndec | apply fin_dec | apply cnd_ndec | apply cnd_dec' | apply fin_nsplit | apply fin_split | apply cnd_nsplit | apply cnd_split) <;> intro hc) | refine seqS_id ?_ | refine blk_exit_id ?_)
          exact ⟨_, Wk.refl, [.c (.own h.length ((bs ++ encI n).map rowB))], by simp [resAllV, resOneV, S.get, look, AV.one, hend], by simp [resVV, hend]⟩
        · have hge : ((u : Int) ≥ 128) = True := eq_true (by omega)
          have w1 := eU8 (n := ((u % 128 : Nat) : Int)) (by omega) (by omega)
          have w2 : IntKind.u8.wrap (((u % 128 : Nat) : Int) + 128) = ((u % 128 + 128 : Nat) : Int) := by rw [eU8 (by omega) (by omega)]; omega
          have w3 := eU64 (n := ((u / 128 : Nat) : Int)) (by omega) (by omega)
          rw [encU_hi h128] at hpre
          have hpre2 : (pre ++ [UInt8.ofNat (u % 128 + 128)]) ++ encU (u / 128) = bs ++ encI n := by rw [← hpre]; simp
          have hlp2 : pre.length + 1 ≤ (bs ++ encI n).length := by rw [← hpre2]; simp
          have hrow : ((pre ++ [UInt8.ofNat (u % 128 + 128)]).map rowB) = pre.map rowB ++ [[.int .u8 ((u % 128 + 128 : Nat) : Int)]] := by rw [List.map_append, List.map_cons, List.map_nil, rowB_of (by omega)]
          have ap : ∀ g : Hp, apTok g h.length 1 1 (pre.map rowB) [[.int .u8 ((u % 128 + 128 : Nat) : Int)]] (some (.tok pre.length 1 none)) = some (.v (.c (.own h.length ((pre ++ [UInt8.ofNat (u % 128 + 128)]).map rowB))), g.set h.length (.tok (pre.length + 1) 1 none)) := fun g => by
            rw [apTok_ok (eq_true (by simp)) (eq_true (by simp [allLen])) (eq_true (by simp; omega)) (eq_true (by simp; omega)), hrow]
            simp
          have hc := Nat.zero_add 0
          repeat' (first | simp only [hc, AS, NX, NPV, SX, HX, hge, e1, e2, w1, w2, w3, ap, AB, PL, RG, LP, TY, simprocAttr, ↓reduceIte, forall_const, eq_self, ne_eq, Option.some.injEq, beq_self_eq_true] | ((first | apply fin_ndec | apply fin_dec | apply cnd_ndec | apply cnd_dec' | apply fin_nsplit | apply fin_split | apply cnd_nsplit | apply cnd_split) <;> intro hc) | refine seqS_id ?_ | refine blk_exit_id ?_)
          refine lp_next (pre ++ [UInt8.ofNat (u % 128 + 128)], u / 128) ?_ ⟨hpre2, by simpa using hlp2, by dsimp only; omega⟩ (by dsimp only; omega)
          dsimp only
          exact Wk.sub' (by simp [subT, look]) (by simp)
    · have hlt : (n < 0) = False := eq_false hneg
      have w1 := eU64 (n := n) (by omega) (by have := hn.2; omega)
      have w2 : IntKind.u64.wrap (2 * n) = ((codeI n : Nat) : Int) := by
        rw [eU64 (by omega) (by have := hn.2; omega)]
        unfold codeI
        rw [if_neg hneg]
        omega
      have w3 : (0 : Int) = 0 := rfl
      have w4 : (0 : Int) = 0 := rfl
      have w5 : (0 : Int) = 0 := rfl
      have w6 : (0 : Int) = 0 := rfl
      by_cases hb : bs = []
      · have ap0 := r2copy_at (f := f) (bs := bs) (h := h) hn.1
        rw [if_pos hb] at ap0
        have hc := Nat.zero_add 0
        repeat' (first | simp only [hc, AS, Tryd.f42, avBI, NX, NPV, SX, HX, hlt, w1, w2, w3, w4, w5, ap0, AB, PL, RG, LP, TY, simprocAttr, ↓reduceIte, forall_const, eq_self, ne_eq, Option.some.injEq, beq_self_eq_true] | ((first | apply fin_ndec | apply fin_dec | apply cnd_ndec | apply cnd_dec' | apply fin_nsplit | apply fin_split | apply cnd_nsplit | apply cnd_split) <;> intro hc) | refine seqS_id ?_ | refine blk_exit_id ?_)
        refine awpS_loop (σ := List UInt8 × Nat) (fun x => x.1 ++ encU x.2 = bs ++ encI n ∧ x.1.length ≤ (bs ++ encI n).length ∧ x.2 ≤ 18446744073709551615) (fun x => ⟨[(6, .v (.c (.d (.int .u64 x.2)))), (5, .v (.c (.own h.length (x.1.map rowB))))], h ++ [.tok x.1.length 1 none]⟩) (fun x => x.2) (bs, codeI n) ((Wk.own 5 1 (by decide) (by simp [look])).trans (Wk.sub' (by simp [subT, look, hb]) (by simp [hb]))) ⟨rfl, by simp, codeI_lt hn.2.1 hn.2.2⟩ ?_
        rintro ⟨pre, u⟩ ⟨hpre, hlp, hu⟩
        dsimp only at hpre hlp hu ⊢
        have hel : (bs ++ encI n).length ≤ 1000010 := by have := encI_len hn.2.1 hn.2.2; rw [List.length_append]; have := hn.1; omega
        have e1 := tm128 u
        have e2 := td128 u
        by_cases h128 : u < 128
        · have hge : ((u : Int) ≥ 128) = False := eq_false (by omega)
          have w1 := eU8 (n := (u : Int)) (by omega) (by omega)
          rw [encU_lo h128] at hpre
          have hlp2 : pre.length + 1 ≤ 1000010 := by have := congrArg List.length hpre; simp only [List.length_append, List.length_cons, List.length_nil] at this hel; omega
          have hend : bs ++ encI n = pre ++ [UInt8.ofNat u] := hpre.symm
          have hrow : ((pre ++ [UInt8.ofNat u]).map rowB) = pre.map rowB ++ [[.int .u8 (u : Int)]] := by rw [List.map_append, List.map_cons, List.map_nil, rowB_of (by omega)]
          have ap : ∀ g : Hp, apTok g h.length 1 1 (pre.map rowB) [[.int .u8 (u : Int)]] (some (.tok pre.length 1 none)) = some (.v (.c (.own h.length ((pre ++ [UInt8.ofNat u]).map rowB))), g.set h.length (.tok (pre.length + 1) 1 none)) := fun g => by
            rw [apTok_ok (eq_true (by simp)) (eq_true (by simp [allLen])) (eq_true (by simp; omega)) (eq_true (by simp; omega)), hrow]
            simp
          have hc := Nat.zero_add 0
          repeat' (first | simp only [hc, AS, NX, NPV, SX, HX, hge, w1, ap, AB, PL, RG, LP, TY, simprocAttr, ↓reduceIte, forall_const, eq_self, ne_eq, Option.some.injEq, beq_self_eq_true] | ((first | apply fin_ndec | apply fin_dec | apply cnd_ndec | apply cnd_dec' | apply fin_nsplit | apply fin_split | apply cnd_nsplit | apply cnd_split) <;> intro hc) | refine seqS_id ?_ | refine blk_exit_id ?_)
          exact ⟨_, Wk.refl, [.c (.own h.length ((bs ++ encI n).map rowB))], by simp [resAllV, resOneV, S.get, look, AV.one, hend], by simp [resVV, hend]⟩
        · have hge : ((u : Int) ≥ 128) = True := eq_true (by omega)
          have w1 := eU8 (n := ((u % 128 : Nat) : Int)) (by omega) (by omega)
          have w2 : IntKind.u8.wrap (((u % 128 : Nat) : Int) + 128) = ((u % 128 + 128 : Nat) : Int) := by rw [eU8 (by omega) (by omega)]; omega
          have w3 := eU64 (n := ((u / 128 : Nat) : Int)) (by omega) (by omega)
          rw [encU_hi h128] at hpre
          have hpre2 : (pre ++ [UInt8.ofNat (u % 128 + 128)]) ++ encU (u / 128) = bs ++ encI n := by rw [← hpre]; simp
          have hlp2 : pre.length + 1 ≤ (bs ++ encI n).length := by rw [← hpre2]; simp
          have hrow : ((pre ++ [UInt8.ofNat (u % 128 + 128)]).map rowB) = pre.map rowB ++ [[.int .u8 ((u % 128 + 128 : Nat) : Int)]] := by rw [List.map_append, List.map_cons, List.map_nil, rowB_of (by omega)]
          have ap : ∀ g : Hp, apTok g h.length 1 1 (pre.map rowB) [[.int .u8 ((u % 128 + 128 : Nat) : Int)]] (some (.tok pre.length 1 none)) = some (.v (.c (.own h.length ((pre ++ [UInt8.ofNat (u % 128 + 128)]).map rowB))), g.set h.length (.tok (pre.length + 1) 1 none)) := fun g => by
            rw [apTok_ok (eq_true (by simp)) (eq_true (by simp [allLen])) (eq_true (by simp; omega)) (eq_true (by simp; omega)), hrow]
            simp
          have hc := Nat.zero_add 0
          repeat' (first | simp only [hc, AS, NX, NPV, SX, HX, hge, e1, e2, w1, w2, w3, ap, AB, PL, RG, LP, TY, simprocAttr, ↓reduceIte, forall_const, eq_self, ne_eq, Option.some.injEq, beq_self_eq_true] | ((first | apply fin_ndec | apply fin_dec | apply cnd_ndec | apply cnd_dec' | apply fin_nsplit | apply fin_split | apply cnd_nsplit | apply cnd_split) <;> intro hc) | refine seqS_id ?_ | refine blk_exit_id ?_)
          refine lp_next (pre ++ [UInt8.ofNat (u % 128 + 128)], u / 128) ?_ ⟨hpre2, by simpa using hlp2, by dsimp only; omega⟩ (by dsimp only; omega)
          dsimp only
          exact Wk.sub' (by simp [subT, look]) (by simp)
      · have ap0 := r2copy_at (f := f) (bs := bs) (h := h) hn.1
        rw [if_neg hb] at ap0
        have hc := Nat.zero_add 0
        repeat' (first | simp only [hc, AS, Tryd.f42, avBI, NX, NPV, SX, HX, hlt, w1, w2, w3, w4, w5, ap0, AB, PL, RG, LP, TY, simprocAttr, ↓reduceIte, forall_const, eq_self, ne_eq, Option.some.injEq, beq_self_eq_true] | ((first | apply fin_ndec | apply fin_dec | apply cnd_ndec | apply cnd_dec' | apply fin_nsplit | apply fin_split | apply cnd_nsplit | apply cnd_split) <;> intro hc) | refine seqS_id ?_ | refine blk_exit_id ?_)
        refine awpS_loop (σ := List UInt8 × Nat) (fun x => x.1 ++ encU x.2 = bs ++ encI n ∧ x.1.length ≤ (bs ++ encI n).length ∧ x.2 ≤ 18446744073709551615) (fun x => ⟨[(6, .v (.c (.d (.int .u64 x.2)))), (5, .v (.c (.own h.length (x.1.map rowB))))], h ++ [.tok x.1.length 1 none]⟩) (fun x => x.2) (bs, codeI n) ((Wk.sub' (by simp [subT, look]) (by simp))) ⟨rfl, by simp, codeI_lt hn.2.1 hn.2.2⟩ ?_
        rintro ⟨pre, u⟩ ⟨hpre, hlp, hu⟩
        dsimp only at hpre hlp hu ⊢
        have hel : (bs ++ encI n).length ≤ 1000010 := by have := encI_len hn.2.1 hn.2.2; rw [List.length_append]; have := hn.1; omega
        have e1 := tm128 u
        have e2 := td128 u
        by_cases h128 : u < 128
        · have hge : ((u : Int) ≥ 128) = False := eq_false (by omega)
          have w1 := eU8 (n := (u : Int)) (by omega) (by omega)
          rw [encU_lo h128] at hpre
          have hlp2 : pre.length + 1 ≤ 1000010 := by have := congrArg List.length hpre; simp only [List.length_append, List.length_cons, List.length_nil] at this hel; omega
          have hend : bs ++ encI n = pre ++ [UInt8.ofNat u] := hpre.symm
          have hrow : ((pre ++ [UInt8.ofNat u]).map rowB) = pre.map rowB ++ [[.int .u8 (u : Int)]] := by rw [List.map_append, List.map_cons, List.map_nil, rowB_of (by omega)]
          have ap : ∀ g : Hp, apTok g h.length 1 1 (pre.map rowB) [[.int .u8 (u : Int)]] (some (.tok pre.length 1 none)) = some (.v (.c (.own h.length ((pre ++ [UInt8.ofNat u]).map rowB))), g.set h.length (.tok (pre.length + 1) 1 none)) := fun g => by
            rw [apTok_ok (eq_true (by simp)) (eq_true (by simp [allLen])) (eq_true (by simp; omega)) (eq_true (by simp; omega)), hrow]
            simp
          have hc := Nat.zero_add 0
          repeat' (first | simp only [hc, AS, NX, NPV, SX, HX, hge, w1, ap, AB, PL, RG, LP, TY, simprocAttr, ↓reduceIte, forall_const, eq_self, ne_eq, Option.some.injEq, beq_self_eq_true] | ((first | apply fin_ndec | apply fin_dec | apply cnd_ndec | apply cnd_dec' | apply fin_nsplit | apply fin_split | apply cnd_nsplit | apply cnd_split) <;> intro hc) | refine seqS_id ?_ | refine blk_exit_id ?_)
          exact ⟨_, Wk.refl, [.c (.own h.length ((bs ++ encI n).map rowB))], by simp [resAllV, resOneV, S.get, look, AV.one, hend], by simp [resVV, hend]⟩
        · have hge : ((u : Int) ≥ 128) = True := eq_true (by omega)
          have w1 := eU8 (n := ((u % 128 : Nat) : Int)) (by omega) (by omega)
          have w2 : IntKind.u8.wrap (((u % 128 : Nat) : Int) + 128) = ((u % 128 + 128 : Nat) : Int) := by rw [eU8 (by omega) (by omega)]; omega
          have w3 := eU64 (n := ((u / 128 : Nat) : Int)) (by omega) (by omega)
          rw [encU_hi h128] at hpre
          have hpre2 : (pre ++ [UInt8.ofNat (u % 128 + 128)]) ++ encU (u / 128) = bs ++ encI n := by rw [← hpre]; simp
          have hlp2 : pre.length + 1 ≤ (bs ++ encI n).length := by rw [← hpre2]; simp
          have hrow : ((pre ++ [UInt8.ofNat (u % 128 + 128)]).map rowB) = pre.map rowB ++ [[.int .u8 ((u % 128 + 128 : Nat) : Int)]] := by rw [List.map_append, List.map_cons, List.map_nil, rowB_of (by omega)]
          have ap : ∀ g : Hp, apTok g h.length 1 1 (pre.map rowB) [[.int .u8 ((u % 128 + 128 : Nat) : Int)]] (some (.tok pre.length 1 none)) = some (.v (.c (.own h.length ((pre ++ [UInt8.ofNat (u % 128 + 128)]).map rowB))), g.set h.length (.tok (pre.length + 1) 1 none)) := fun g => by
            rw [apTok_ok (eq_true (by simp)) (eq_true (by simp [allLen])) (eq_true (by simp; omega)) (eq_true (by simp; omega)), hrow]
            simp
          have hc := Nat.zero_add 0
          repeat' (first | simp only [hc, AS, NX, NPV, SX, HX, hge, e1, e2, w1, w2, w3, ap, AB, PL, RG, LP, TY, simprocAttr, ↓reduceIte, forall_const, eq_self, ne_eq, Option.some.injEq, beq_self_eq_true] | ((first | apply fin_ndec | apply fin_dec | apply cnd_ndec | apply cnd_dec' | apply fin_nsplit | apply fin_split | apply cnd_nsplit | apply cnd_split) <;> intro hc) | refine seqS_id ?_ | refine blk_exit_id ?_)
          refine lp_next (pre ++ [UInt8.ofNat (u % 128 + 128)], u / 128) ?_ ⟨hpre2, by simpa using hlp2, by dsimp only; omega⟩ (by dsimp only; omega)
          dsimp only
          exact Wk.sub' (by simp [subT, look]) (by simp)
  · cases hf

end
end Go.Ab

/-
  Encodings of texts; Same; event.Put, R46.Put.
-/
namespace Go.Ab
open Go.RowKit Go.Proofs

def encT (s : List UInt8) : List UInt8 := encI s.length ++ s
def txtOk (b s : List UInt8) : Prop := b.length ≤ 900000 ∧ s.length ≤ 2000
theorem rowB_lam (s : List UInt8) : (s.map fun b => [D.int .u8 b.toNat]) = s.map rowB := rfl
theorem b_at {s : List UInt8} {j : Nat} (h : j < s.length) : (s.map rowB)[j]? = some [.int .u8 s[j].toNat] := by simp [h, rowB]
/-- A right event's encoding. -/
def putFld (r : List D) (p : Fld) : List UInt8 := if p.1 = true then encT (rTx r p.2) else encI (rNm r p.2)
def encV (e : Evt) : List UInt8 := encI e.kind ++ (fldK e.kind).flatMap (putFld e.row)
def encBE (p : (Bool × List UInt8) × Evt) : List PA := [.c (.sl p.1.1 (p.1.2.map rowB)), .agg p.2.row]
theorem encBE_inj (a b : (Bool × List UInt8) × Evt) (h : encBE a = encBE b) : a = b := by
  obtain ⟨⟨a1, a2⟩, a3⟩ := a
  obtain ⟨⟨b1, b2⟩, b3⟩ := b
  simp only [encBE, List.cons.injEq, DV.c.injEq, DV.agg.injEq, D.sl.injEq, and_true] at h
  obtain ⟨⟨h1, h2⟩, h3⟩ := h
  rw [h1, mapB_inj.1 h2, Evt.inj _ _ h3]
def putE (b : List UInt8) (e : Evt) : List PA := if rightE e = true then [.c (.sl false ((b ++ encV e).map rowB)), .i 0] else [.c (.sl true []), .i 1]
theorem putFld_len {e : Evt} (h : rightE e = true) {p : Fld} (hp : p ∈ fldK e.kind) : (putFld e.row p).length ≤ 50 := by
  have hf := right_fit h hp
  obtain ⟨t, o⟩ := p
  unfold putFld
  cases t with
  | true =>
    have := fit_text hf
    have := encI_len (n := (rTx e.row o).length) (by omega) (by omega)
    rw [if_pos rfl]
    unfold encT
    rw [List.length_append]
    dsimp only
    omega
  | false =>
    have := fit_num hf
    have := encI_len (n := rNm e.row o) (by omega) (by omega)
    rw [if_neg (by simp)]
    dsimp only
    omega
theorem putFlds_len {e : Evt} (h : rightE e = true) : ∀ {F : List Fld}, (∀ p ∈ F, p ∈ fldK e.kind) → (F.flatMap (putFld e.row)).length ≤ 50 * F.length
  | [], _ => by simp
  | p :: F, hF => by
    have h1 := putFld_len h (hF p List.mem_cons_self)
    have h2 := putFlds_len h fun q hq => hF q (List.mem_cons_of_mem _ hq)
    rw [List.flatMap_cons, List.length_append, List.length_cons]
    omega

noncomputable section
open Classical

theorem cpintK_at {f : Bool} {bs : List UInt8} {n : Int} {h : Hp} (hn : intOk bs n) : cpintK_k [.v (.c (.d (.sl f (bs.map rowB)))), .v (.c (.d (.int .i64 n)))] h = some (.ret (.v (.c (.own h.length ((bs ++ encI n).map rowB)))) (h ++ [.tok (bs ++ encI n).length 1 none])) := by
  have := bK_eq avBI_inj (f := fun b n => if intOk b n then some (b ++ encI n) else none) (p := ((f, bs), n)) (h := h)
  refine this.trans ?_
  rw [if_pos hn]
  rfl
theorem r2pintK_at {f : Bool} {bs : List UInt8} {n : Int} {h : Hp} (hn : intOk bs n) : r2pintK_k [.v (.c (.d (.sl f (bs.map rowB)))), .v (.c (.d (.int .i64 n)))] h = some (.ret (.v (.c (.own h.length ((bs ++ encI n).map rowB)))) (h ++ [.tok (bs ++ encI n).length 1 none])) := by
  have := bK_eq avBI_inj (f := fun b n => if intOk b n then some (b ++ encI n) else none) (p := ((f, bs), n)) (h := h)
  refine this.trans ?_
  rw [if_pos hn]
  rfl
theorem cpint_at {f : Bool} {bs : List UInt8} {n : Int} (hn : intOk bs n) : cpint_m [.c (.sl f (bs.map rowB)), .c (.int .i64 n)] = some [.c (.sl false ((bs ++ encI n).map rowB))] := by
  have := mE_eq encBI_inj (g := fun p => if intOk p.1.2 p.2 then some [DV.c (.sl false ((p.1.2 ++ encI p.2).map rowB))] else none) (a := ((f, bs), n))
  exact this.trans (if_pos hn)
theorem r2pint_at {f : Bool} {bs : List UInt8} {n : Int} (hn : intOk bs n) : r2pint_m [.c (.sl f (bs.map rowB)), .c (.int .i64 n)] = some [.c (.sl false ((bs ++ encI n).map rowB))] := by
  have := mE_eq encBI_inj (g := fun p => if intOk p.1.2 p.2 then some [DV.c (.sl false ((p.1.2 ++ encI p.2).map rowB))] else none) (a := ((f, bs), n))
  exact this.trans (if_pos hn)

def cptext_m : List PA → Option (List PA) := mE encBS fun p => if txtOk p.1.2 p.2 then some [.c (.sl false ((p.1.2 ++ encT p.2).map rowB))] else none
def r2ptext_m : List PA → Option (List PA) := mE encBS fun p => if txtOk p.1.2 p.2 then some [.c (.sl false ((p.1.2 ++ encT p.2).map rowB))] else none
def sameB_m : List PA → Option (List PA) := mE encBB fun p => if p.1.2.length ≤ 1000000000 then some [.b (decide (p.1.2 = p.2.2))] else none

theorem cptext_ok : PureC Tryd.prog Gt 41 cptext_m := by
  refine pure_of_awpSW (X := ctxN Tryd.prog Gt [] [(40, cpintK_k)] [] none) Tryd.func41 rfl rfl (by kernel_rfl) (by kernel_rfl) (kok_n AllOk.nil (AllK.cons cpintK_kok AllK.nil) AllN.nil) ?_
  intro args r h0
  obtain ⟨⟨⟨f, bs⟩, s⟩, rfl, h⟩ := mE_inv h0
  refine ⟨Nat.le_of_ble_eq_true rfl, ?_⟩
  split at h
  · rename_i hn
    simp only [Option.some.injEq] at h
    dsimp only at hn h
    obtain ⟨h1, h2⟩ := hn
    have g1 := cpintK_at (f := f) (bs := bs) (n := (s.length : Int)) (h := []) ⟨by omega, by omega, by omega⟩
    have hl := encI_len (n := (s.length : Int)) (by omega) (by omega)
    have hT : bs ++ encT s = (bs ++ encI s.length) ++ s := by unfold encT; rw [List.append_assoc]
    have hXl : (bs ++ encI s.length).length ≤ 1000000 := by rw [List.length_append]; omega
    rw [hT] at h
    generalize bs ++ encI s.length = X at *
    have ap : ∀ g : Hp, apTok g 0 1 1 (X.map rowB) (s.map rowB) (some (.tok X.length 1 none)) = some (.v (.c (.own 0 ((X ++ s).map rowB))), g.set 0 (.tok (X.length + s.length) 1 none)) := fun g => by
      rw [apTok_ok (eq_true (by simp)) (eq_true (allB s)) (eq_true (by simp; omega)) (eq_true (by simp; omega)), List.map_append]
      simp
    simp only [List.length_nil, List.nil_append] at g1
    have hc := Nat.zero_add 0
    repeat' (first | simp only [hc, AS, Tryd.f41, encBS, NX, NPV, SX, g1, rowB_lam, ap, AB, PL, RG, LP, TY, simprocAttr, ↓reduceIte, forall_const, eq_self, ne_eq, Option.some.injEq, beq_self_eq_true] | ((first | apply fin_ndec | apply fin_dec | apply cnd_ndec | apply cnd_dec' | apply fin_nsplit | apply fin_split | apply cnd_nsplit | apply cnd_split) <;> intro hc) | refine seqS_id ?_ | refine blk_exit_id ?_)
    exact ⟨_, Wk.refl, by rw [← h]; rfl⟩
  · cases h
theorem cptext_at {f : Bool} {bs s : List UInt8} (hn : txtOk bs s) : cptext_m [.c (.sl f (bs.map rowB)), .c (.str s)] = some [.c (.sl false ((bs ++ encT s).map rowB))] := by
  have := mE_eq encBS_inj (g := fun p => if txtOk p.1.2 p.2 then some [DV.c (.sl false ((p.1.2 ++ encT p.2).map rowB))] else none) (a := ((f, bs), s))
  exact this.trans (if_pos hn)

theorem r2ptext_ok : PureC Tryd.prog Gt 43 r2ptext_m := by
  refine pure_of_awpSW (X := ctxN Tryd.prog Gt [] [(42, r2pintK_k)] [] none) Tryd.func43 rfl rfl (by kernel_rfl) (by kernel_rfl) (kok_n AllOk.nil (AllK.cons r2pintK_kok AllK.nil) AllN.nil) ?_
  intro args r h0
  obtain ⟨⟨⟨f, bs⟩, s⟩, rfl, h⟩ := mE_inv h0
  refine ⟨Nat.le_of_ble_eq_true rfl, ?_⟩
  split at h
  · rename_i hn
    simp only [Option.some.injEq] at h
    dsimp only at hn h
    obtain ⟨h1, h2⟩ := hn
    have g1 := r2pintK_at (f := f) (bs := bs) (n := (s.length : Int)) (h := []) ⟨by omega, by omega, by omega⟩
    have hl := encI_len (n := (s.length : Int)) (by omega) (by omega)
    have hT : bs ++ encT s = (bs ++ encI s.length) ++ s := by unfold encT; rw [List.append_assoc]
    have hXl : (bs ++ encI s.length).length ≤ 1000000 := by rw [List.length_append]; omega
    rw [hT] at h
    generalize bs ++ encI s.length = X at *
    simp only [List.length_nil, List.nil_append] at g1
    have hc := Nat.zero_add 0
    repeat' (first | simp only [hc, AS, Tryd.f43, encBS, NX, NPV, SX, g1, AB, PL, RG, LP, TY, simprocAttr, ↓reduceIte, forall_const, eq_self, ne_eq, Option.some.injEq, beq_self_eq_true] | ((first | apply fin_ndec | apply fin_dec | apply cnd_ndec | apply cnd_dec' | apply fin_nsplit | apply fin_split | apply cnd_nsplit | apply cnd_split) <;> intro hc) | refine seqS_id ?_ | refine blk_exit_id ?_)
    refine awpS_loop (σ := Nat) (fun j => j ≤ s.length) (fun j => ⟨[(6, AV.i j), (5, .v (.c (.own 0 ((X ++ s.take j).map rowB)))), (1, AV.s s)], [.tok (X ++ s.take j).length 1 none]⟩) (fun j => s.length - j) 0 (Wk.sub' (by simp [subT, look]) (by simp)) (Nat.zero_le _) ?_
    intro j hj
    by_cases hjl : j < s.length
    · have hlt : ((j : Int) < (s.length : Int)) = True := eq_true (by omega)
      have hw := wI (n := (j : Int) + 1) (by omega) (by omega)
      have e1 : s[j]? = some s[j] := by simp [hjl]
      have hnx : X ++ s.take (j + 1) = (X ++ s.take j) ++ [s[j]] := by rw [List.take_succ_eq_append_getElem hjl, List.append_assoc]
      have hYl : (X ++ s.take j).length ≤ 1002000 := by rw [List.length_append, List.length_take]; omega
      generalize s[j] = c at *
      generalize X ++ s.take j = Y at *
      have ap : ∀ g : Hp, apTok g 0 1 1 (Y.map rowB) [[.int .u8 (c.toNat : Int)]] (some (.tok Y.length 1 none)) = some (.v (.c (.own 0 ((Y ++ [c]).map rowB))), g.set 0 (.tok (Y ++ [c]).length 1 none)) := fun g => by
        rw [apTok_ok (eq_true (by simp)) (eq_true (by simp [allLen])) (eq_true (by simp; omega)) (eq_true (by simp; omega)), List.map_append]
        simp [rowB]
      have hc := Nat.zero_add 0
      repeat' (first | simp only [hc, AS, NX, NPV, SX, hlt, nn, hw, e1, ap, AB, PL, RG, LP, TY, simprocAttr, ↓reduceIte, forall_const, eq_self, ne_eq, Option.some.injEq, beq_self_eq_true] | ((first | apply fin_ndec | apply fin_dec | apply cnd_ndec | apply cnd_dec' | apply fin_nsplit | apply fin_split | apply cnd_nsplit | apply cnd_split) <;> intro hc) | refine seqS_id ?_ | refine blk_exit_id ?_)
      refine lp_next (j + 1) ?_ (by omega) (by omega)
      rw [hnx]
      exact Wk.sub' (by simp [subT, look]) (by simp)
    · have hlt : ((j : Int) < (s.length : Int)) = False := eq_false (by omega)
      rw [List.take_of_length_le (by omega)]
      have hc := Nat.zero_add 0
      repeat' (first | simp only [hc, AS, NX, NPV, SX, hlt, AB, PL, RG, LP, TY, simprocAttr, ↓reduceIte, forall_const, eq_self, ne_eq, Option.some.injEq, beq_self_eq_true] | ((first | apply fin_ndec | apply fin_dec | apply cnd_ndec | apply cnd_dec' | apply fin_nsplit | apply fin_split | apply cnd_nsplit | apply cnd_split) <;> intro hc) | refine seqS_id ?_ | refine blk_exit_id ?_)
      exact ⟨_, Wk.refl, by rw [← h]; rfl⟩
  · cases h
theorem r2ptext_at {f : Bool} {bs s : List UInt8} (hn : txtOk bs s) : r2ptext_m [.c (.sl f (bs.map rowB)), .c (.str s)] = some [.c (.sl false ((bs ++ encT s).map rowB))] := by
  have := mE_eq encBS_inj (g := fun p => if txtOk p.1.2 p.2 then some [DV.c (.sl false ((p.1.2 ++ encT p.2).map rowB))] else none) (a := ((f, bs), s))
  exact this.trans (if_pos hn)

theorem sameB_ok : PureC Tryd.prog Gt 22 sameB_m := by
  refine pure_of_awp (X := ctx Tryd.prog Gt []) Tryd.func22 rfl rfl (by kernel_rfl) (by kernel_rfl) AllOk.nil.kok ?_
  intro args r h0
  obtain ⟨⟨⟨f, a⟩, g, b⟩, rfl, h⟩ := mE_inv h0
  refine ⟨Nat.le_of_ble_eq_true rfl, ?_⟩
  split at h
  · rename_i hl
    dsimp only at hl
    simp only [Option.some.injEq] at h
    have l1 := @lenB a
    have l2 := @lenB b
    by_cases hne : a.length = b.length
    · have hne' : ((a.length : Int) = (b.length : Int)) = True := eq_true (by omega)
      have hc := Nat.zero_add 0
      repeat' (first | simp only [hc, Tryd.f22, encBB, SX, l1, l2, hne', AB, PL, RG, LP, TY, simprocAttr, ↓reduceIte, forall_const, eq_self, ne_eq, Option.some.injEq, beq_self_eq_true] | ((first | apply fin_ndec | apply fin_dec | apply cnd_ndec | apply cnd_dec' | apply fin_nsplit | apply fin_split | apply cnd_nsplit | apply cnd_split) <;> intro hc) | refine blk_exit_id ?_)
      refine awp_loop (σ := Nat) (fun j => j ≤ a.length ∧ a.take j = b.take j) (fun j => ⟨[(5, AV.i j), (1, AV.d (.sl g (b.map rowB))), (0, AV.d (.sl f (a.map rowB)))], []⟩) (fun j => a.length - j) 0 (Wk.sub' (by simp [subT, look]) rfl) (by simp) ?_
      rintro j ⟨hj, hjt⟩
      by_cases hjl : j < a.length
      · have e1 := b_at hjl
        have e2 := b_at (s := b) (j := j) (by omega)
        have hlt : ((j : Int) < (a.length : Int)) = True := eq_true (by omega)
        have hw := wI (n := (j : Int) + 1) (by omega) (by omega)
        by_cases hx : a[j] = b[j]'(by omega)
        · have hx' : ((a[j].toNat : Int) = ((b[j]'(by omega)).toNat : Int)) = True := eq_true (by rw [hx])
          have hc := Nat.zero_add 0
          repeat' (first | simp only [hc, SX, l1, l2, e1, e2, hlt, nn, hw, hx', AB, PL, RG, LP, TY, simprocAttr, ↓reduceIte, forall_const, eq_self, ne_eq, Option.some.injEq, beq_self_eq_true] | ((first | apply fin_ndec | apply fin_dec | apply cnd_ndec | apply cnd_dec' | apply fin_nsplit | apply fin_split | apply cnd_nsplit | apply cnd_split) <;> intro hc) | refine blk_exit_id ?_)
          exact lp_next (j + 1) (Wk.sub' (by simp [subT, look]) rfl) ⟨by omega, by rw [List.take_succ_eq_append_getElem hjl, List.take_succ_eq_append_getElem (by omega), hjt, hx]⟩ (by omega)
        · have hx' : ((a[j].toNat : Int) = ((b[j]'(by omega)).toNat : Int)) = False := eq_false fun e => hx (UInt8.toNat_inj.1 (by omega))
          have hab : a ≠ b := by rintro rfl; exact hx rfl
          have hc := Nat.zero_add 0
          repeat' (first | simp only [hc, SX, l1, l2, e1, e2, hlt, nn, hx', AB, PL, RG, LP, TY, simprocAttr, ↓reduceIte, forall_const, eq_self, ne_eq, Option.some.injEq, beq_self_eq_true] | ((first | apply fin_ndec | apply fin_dec | apply cnd_ndec | apply cnd_dec' | apply fin_nsplit | apply fin_split | apply cnd_nsplit | apply cnd_split) <;> intro hc) | refine blk_exit_id ?_)
          all_goals (rw [← h, decide_eq_false hab]; all_goals rfl)
      · have hlt : ((j : Int) < (a.length : Int)) = False := eq_false (by omega)
        rw [List.take_of_length_le (by omega), List.take_of_length_le (by omega)] at hjt
        have hc := Nat.zero_add 0
        repeat' (first | simp only [hc, SX, l1, l2, hlt, AB, PL, RG, LP, TY, simprocAttr, ↓reduceIte, forall_const, eq_self, ne_eq, Option.some.injEq, beq_self_eq_true] | ((first | apply fin_ndec | apply fin_dec | apply cnd_ndec | apply cnd_dec' | apply fin_nsplit | apply fin_split | apply cnd_nsplit | apply cnd_split) <;> intro hc) | refine blk_exit_id ?_)
        all_goals (rw [← h, decide_eq_true hjt]; all_goals rfl)
    · have hne' : ((a.length : Int) = (b.length : Int)) = False := eq_false (by omega)
      have hab : a ≠ b := by rintro rfl; exact hne rfl
      have hc := Nat.zero_add 0
      repeat' (first | simp only [hc, Tryd.f22, encBB, SX, l1, l2, hne', AB, PL, RG, LP, TY, simprocAttr, ↓reduceIte, forall_const, eq_self, ne_eq, Option.some.injEq, beq_self_eq_true] | ((first | apply fin_ndec | apply fin_dec | apply cnd_ndec | apply cnd_dec' | apply fin_nsplit | apply fin_split | apply cnd_nsplit | apply cnd_split) <;> intro hc) | refine blk_exit_id ?_)
      all_goals (rw [← h, decide_eq_false hab]; all_goals rfl)
  · cases h
theorem sameB_at {f g : Bool} {a b : List UInt8} (h : a.length ≤ 1000000000) : sameB_m [.c (.sl f (a.map rowB)), .c (.sl g (b.map rowB))] = some [.b (decide (a = b))] := by
  have := mE_eq encBB_inj (g := fun p => if p.1.2.length ≤ 1000000000 then some [DV.b (decide (p.1.2 = p.2.2))] else none) (a := ((f, a), g, b))
  exact this.trans (if_pos h)

end
end Go.Ab
