/-
  Texts of the layer and of the laws, put together: AbF9. No law is stated here.
-/
import Derived.Test.YteeepgnhkfmnaaaDoorAbVol30
import Derived.Test.YteeepgnhkfmnaaaDoorAbVol15
set_option linter.unusedSimpArgs false
set_option linter.unusedVariables false
set_option maxRecDepth 100000

/-
  Encodings of numbers. Printed by tools/genf9.py.
-/
namespace Go.Ab
open Go.RowKit Go.Proofs

theorem eU64 {n : Int} (h1 : 0 ≤ n) (h2 : n ≤ 18446744073709551615) : IntKind.u64.wrap n = n := by rw [IntKind.wrap_u64]; omega
theorem eU8 {n : Int} (h1 : 0 ≤ n) (h2 : n ≤ 255) : IntKind.u8.wrap n = n := by rw [IntKind.wrap_u8]; omega
theorem tm128 (a : Nat) : ((a : Int).tmod 128) = ((a % 128 : Nat) : Int) := by rw [Int.tmod_eq_emod_of_nonneg (by omega)]; omega
theorem td128 (a : Nat) : ((a : Int).tdiv 128) = ((a / 128 : Nat) : Int) := by rw [Int.tdiv_eq_ediv_of_nonneg (by omega)]; omega
theorem tm2 (a : Nat) : ((a : Int).tmod 2) = ((a % 2 : Nat) : Int) := by rw [Int.tmod_eq_emod_of_nonneg (by omega)]; omega
theorem td2 (a : Nat) : ((a : Int).tdiv 2) = ((a / 2 : Nat) : Int) := by rw [Int.tdiv_eq_ediv_of_nonneg (by omega)]; omega

def rowB (b : UInt8) : List D := [.int .u8 b.toNat]
theorem rowB_inj {a b : UInt8} (h : rowB a = rowB b) : a = b := by
  simp only [rowB, List.cons.injEq, D.int.injEq, true_and, and_true] at h
  exact UInt8.toNat_inj.1 (by omega)
theorem mapB_inj {l k : List UInt8} : l.map rowB = k.map rowB ↔ l = k := ⟨map_inj fun _ _ h => rowB_inj h, fun h => by rw [h]⟩
theorem rowB_of {n : Nat} (h : n < 256) : rowB (UInt8.ofNat n) = [.int .u8 n] := by
  unfold rowB
  rw [UInt8.toNat_ofNat', Nat.mod_eq_of_lt h]
theorem lenB {l : List UInt8} : ((l.map rowB).length : Int) = l.length := by simp
theorem allB (l : List UInt8) : allLen 1 (l.map rowB) := by
  intro r hr
  obtain ⟨b, _, rfl⟩ := List.mem_map.1 hr
  rfl

/-- A number's code, and its bytes. -/
def encU (u : Nat) : List UInt8 := if u < 128 then [UInt8.ofNat u] else UInt8.ofNat (u % 128 + 128) :: encU (u / 128)
termination_by u
decreasing_by omega
def codeI (n : Int) : Nat := if n < 0 then (2 * (-(n + 1)) + 1).toNat else (2 * n).toNat
def encI (n : Int) : List UInt8 := encU (codeI n)
theorem encU_lo {u : Nat} (h : u < 128) : encU u = [UInt8.ofNat u] := by rw [encU, if_pos h]
theorem encU_hi {u : Nat} (h : ¬ u < 128) : encU u = UInt8.ofNat (u % 128 + 128) :: encU (u / 128) := by rw [encU, if_neg h]
theorem encU_len : ∀ (k u : Nat), u < 128 ^ k → 0 < k → (encU u).length ≤ k
  | 0, u, _, h => by omega
  | k + 1, u, hu, _ => by
    by_cases hs : u < 128
    · rw [encU_lo hs]; simp
    · rw [encU_hi hs, List.length_cons]
      have hk : 0 < k := by
        rcases Nat.eq_zero_or_pos k with rfl | h
        · simp at hu; omega
        · exact h
      have := encU_len k (u / 128) (by rw [Nat.pow_succ] at hu; omega) hk
      omega
theorem codeI_lt {n : Int} (h1 : -9223372036854775808 ≤ n) (h2 : n ≤ 9223372036854775807) : codeI n ≤ 18446744073709551615 := by
  unfold codeI
  split <;> omega
theorem encI_len {n : Int} (h1 : -9223372036854775808 ≤ n) (h2 : n ≤ 9223372036854775807) : (encI n).length ≤ 10 := by
  have := codeI_lt h1 h2
  have e : (128 : Nat) ^ 10 = 1180591620717411303424 := by decide
  exact encU_len 10 _ (by omega) (by decide)

def encBI (p : (Bool × List UInt8) × Int) : List PA := [.c (.sl p.1.1 (p.1.2.map rowB)), .c (.int .i64 p.2)]
theorem encBI_inj (a b : (Bool × List UInt8) × Int) (h : encBI a = encBI b) : a = b := by
  obtain ⟨⟨a1, a2⟩, a3⟩ := a
  obtain ⟨⟨b1, b2⟩, b3⟩ := b
  simp only [encBI, List.cons.injEq, DV.c.injEq, D.sl.injEq, D.int.injEq, and_true, true_and] at h
  obtain ⟨⟨h1, h2⟩, h3⟩ := h
  rw [h1, mapB_inj.1 h2, h3]
def encBS (p : (Bool × List UInt8) × List UInt8) : List PA := [.c (.sl p.1.1 (p.1.2.map rowB)), .c (.str p.2)]
theorem encBS_inj (a b : (Bool × List UInt8) × List UInt8) (h : encBS a = encBS b) : a = b := by
  obtain ⟨⟨a1, a2⟩, a3⟩ := a
  obtain ⟨⟨b1, b2⟩, b3⟩ := b
  simp only [encBS, List.cons.injEq, DV.c.injEq, D.sl.injEq, D.str.injEq, and_true] at h
  obtain ⟨⟨h1, h2⟩, h3⟩ := h
  rw [h1, mapB_inj.1 h2, h3]
def encBB (p : (Bool × List UInt8) × Bool × List UInt8) : List PA := [.c (.sl p.1.1 (p.1.2.map rowB)), .c (.sl p.2.1 (p.2.2.map rowB))]
theorem encBB_inj (a b : (Bool × List UInt8) × Bool × List UInt8) (h : encBB a = encBB b) : a = b := by
  obtain ⟨⟨a1, a2⟩, a3, a4⟩ := a
  obtain ⟨⟨b1, b2⟩, b3, b4⟩ := b
  simp only [encBB, List.cons.injEq, DV.c.injEq, D.sl.injEq, and_true] at h
  obtain ⟨⟨h1, h2⟩, h3, h4⟩ := h
  rw [h1, mapB_inj.1 h2, h3, mapB_inj.1 h4]

noncomputable section
open Classical

/-- K-contracts on bytes: a new slice that can still be appended to. -/
def bK {β : Type} (enc : (Bool × List UInt8) × β → List AV) (f : List UInt8 → β → Option (List UInt8)) (args : List AV) (h : Hp) : Option COut :=
  if hx : ∃ p, enc p = args then (f hx.choose.1.2 hx.choose.2).map fun bs => .ret (.v (.c (.own h.length (bs.map rowB)))) (h ++ [.tok bs.length 1 none]) else none
def avBI (p : (Bool × List UInt8) × Int) : List AV := [.v (.c (.d (.sl p.1.1 (p.1.2.map rowB)))), .v (.c (.d (.int .i64 p.2)))]
theorem avBI_inj (a b : (Bool × List UInt8) × Int) (h : avBI a = avBI b) : a = b := by
  refine encBI_inj a b ?_
  simp only [avBI, encBI, List.cons.injEq, AV.v.injEq, V.c.injEq, C1.d.injEq, DV.c.injEq, and_true] at h ⊢
  exact h
theorem bK_eq {β : Type} {enc : (Bool × List UInt8) × β → List AV} (hi : ∀ a b, enc a = enc b → a = b) {f : List UInt8 → β → Option (List UInt8)} {p : (Bool × List UInt8) × β} {h : Hp} : bK enc f (enc p) h = (f p.1.2 p.2).map fun bs => .ret (.v (.c (.own h.length (bs.map rowB)))) (h ++ [.tok bs.length 1 none]) := by
  have hx : ∃ q, enc q = enc p := ⟨p, rfl⟩
  unfold bK
  rw [dif_pos hx, hi _ _ hx.choose_spec]
theorem bK_inv {β : Type} {enc : (Bool × List UInt8) × β → List AV} (hi : ∀ a b, enc a = enc b → a = b) {f : List UInt8 → β → Option (List UInt8)} {args : List AV} {h : Hp} {out : COut} (hm : bK enc f args h = some out) : ∃ p bs, args = enc p ∧ f p.1.2 p.2 = some bs ∧ out = .ret (.v (.c (.own h.length (bs.map rowB)))) (h ++ [.tok bs.length 1 none]) := by
  by_cases hx : ∃ p, enc p = args
  · obtain ⟨p, rfl⟩ := hx
    rw [bK_eq hi] at hm
    simp only [Option.map_eq_some_iff] at hm
    obtain ⟨bs, hb, rfl⟩ := hm
    exact ⟨p, bs, rfl, hb, rfl⟩
  · unfold bK at hm
    rw [dif_neg hx] at hm
    cases hm

def intOk (b : List UInt8) (n : Int) : Prop := b.length ≤ 1000000 ∧ -9223372036854775808 ≤ n ∧ n ≤ 9223372036854775807
def cpint_m : List PA → Option (List PA) := mE encBI fun p => if intOk p.1.2 p.2 then some [.c (.sl false ((p.1.2 ++ encI p.2).map rowB))] else none
def cpintK_k : List AV → Hp → Option COut := bK avBI fun b n => if intOk b n then some (b ++ encI n) else none

theorem cpint_ok : PureC Tryd.prog Gt 40 cpint_m := by
  refine pure_of_awpSW (X := ctxN Tryd.prog Gt [] [] [] none) Tryd.func40 rfl rfl (by kernel_rfl) (by kernel_rfl) (kok_n AllOk.nil AllK.nil AllN.nil) ?_
  intro args r h0
  obtain ⟨⟨⟨f, bs⟩, n⟩, rfl, h⟩ := mE_inv h0
  refine ⟨Nat.le_of_ble_eq_true rfl, ?_⟩
  split at h
  · rename_i hn
    simp only [Option.some.injEq] at h
    dsimp only at hn h
    by_cases hneg : n < 0
    · have hlt : (n < 0) = True := eq_true hneg
      have w1 := wI (n := n + 1) (by have := hn.2; omega) (by have := hn.2; omega)
      have w2 : IntKind.i64.wrap (0 - (n + 1)) = -(n + 1) := by rw [wI (by omega) (by have := hn.2; omega)]; omega
      have w3 := eU64 (n := -(n + 1)) (by omega) (by have := hn.2; omega)
      have w4 := eU64 (n := -(n + 1) * 2) (by omega) (by have := hn.2; omega)
      have w5 : IntKind.u64.wrap (-(n + 1) * 2 + 1) = ((codeI n : Nat) : Int) := by
        rw [eU64 (by omega) (by have := hn.2; omega)]
        unfold codeI
        rw [if_pos hneg]
        omega
      have w6 : (0 : Int) = 0 := rfl
      by_cases hb : bs = []
      · have ap0 : ∀ h, apSl h 1 1 [] (bs.map rowB) = some (.d (.sl true []), h) := fun h => by
          rw [apSl_new (allB bs) (by subst hb; simp) (by subst hb; simp), if_pos (by subst hb; rfl)]
        have hc := Nat.zero_add 0
        repeat' (first | simp only [hc, AS, Tryd.f40, encBI, NX, NPV, SX, hlt, w1, w2, w3, w4, w5, ap0, AB, PL, RG, LP, TY, simprocAttr, ↓reduceIte, forall_const, eq_self, ne_eq, Option.some.injEq, beq_self_eq_true] | ((first | apply fin_ndec | apply fin_dec | apply cnd_ndec | apply cnd_dec' | apply fin_nsplit | apply fin_split | apply cnd_nsplit | apply cnd_split) <;> intro hc) | refine seqS_id ?_ | refine blk_exit_id ?_)
        refine awpS_loop (σ := List UInt8 × Nat) (fun x => x.1 ++ encU x.2 = bs ++ encI n ∧ x.1.length ≤ (bs ++ encI n).length ∧ x.2 ≤ 18446744073709551615) (fun x => ⟨[(5, .v (.c (.d (.int .u64 x.2)))), (6, .v (.c (.own 0 (x.1.map rowB))))], [.tok x.1.length 1 none]⟩) (fun x => x.2) (bs, codeI n) ((Wk.own 6 1 (by decide) (by simp [look])).trans (Wk.sub' (by simp [subT, look, hb]) (by simp [hb]))) ⟨rfl, by simp, codeI_lt hn.2.1 hn.2.2⟩ ?_
        rintro ⟨pre, u⟩ ⟨hpre, hlp, hu⟩
        dsimp only at hpre hlp hu ⊢
        have hel : (bs ++ encI n).length ≤ 1000010 := by have := encI_len hn.2.1 hn.2.2; rw [List.length_append]; have := hn.1; omega
        have e1 := tm128 u
        have e2 := td128 u
        by_cases h128 : u < 128
        · have hge : ((u : Int) ≥ 128) = False := eq_false (by omega)
          have w1 := eU8 (n := (u : Int)) (by omega) (by omega)
          rw [encU_lo h128] at hpre
          have hlp2 : pre.length + 1 ≤ 1000010 := by have := congrArg List.length hpre; simp only [List.length_append, List.length_cons, List.length_nil] at this hel; omega
          have hend : bs ++ encI n = pre ++ [UInt8.ofNat u] := hpre.symm
          have hrow : ((pre ++ [UInt8.ofNat u]).map rowB) = pre.map rowB ++ [[.int .u8 (u : Int)]] := by rw [List.map_append, List.map_cons, List.map_nil, rowB_of (by omega)]
          have ap : ∀ g : Hp, apTok g 0 1 1 (pre.map rowB) [[.int .u8 (u : Int)]] (some (.tok pre.length 1 none)) = some (.v (.c (.own 0 ((pre ++ [UInt8.ofNat u]).map rowB))), g.set 0 (.tok (pre.length + 1) 1 none)) := fun g => by
            rw [apTok_ok (eq_true (by simp)) (eq_true (by simp [allLen])) (eq_true (by simp; omega)) (eq_true (by simp; omega)), hrow]
            simp
          have hc := Nat.zero_add 0
          repeat' (first | simp only [hc, AS, NX, NPV, SX, hge, w1, ap, AB, PL, RG, LP, TY, simprocAttr, ↓reduceIte, forall_const, eq_self, ne_eq, Option.some.injEq, beq_self_eq_true] | ((first | apply fin_ndec | apply fin_dec | apply cnd_ndec | apply cnd_dec' | apply fin_nsplit | apply fin_split | apply cnd_nsplit | apply cnd_split) <;> intro hc) | refine seqS_id ?_ | refine blk_exit_id ?_)
          exact ⟨_, Wk.refl, by rw [← h, hend]; rfl⟩
        · have hge : ((u : Int) ≥ 128) = True := eq_true (by omega)
          have w1 := eU8 (n := ((u % 128 : Nat) : Int)) (by omega) (by omega)
          have w2 : IntKind.u8.wrap (((u % 128 : Nat) : Int) + 128) = ((u % 128 + 128 : Nat) : Int) := by rw [eU8 (by omega) (by omega)]; omega
          have w3 := eU64 (n := ((u / 128 : Nat) : Int)) (by omega) (by omega)
          rw [encU_hi h128] at hpre
          have hpre2 : (pre ++ [UInt8.ofNat (u % 128 + 128)]) ++ encU (u / 128) = bs ++ encI n := by rw [← hpre]; simp
          have hlp2 : pre.length + 1 ≤ (bs ++ encI n).length := by rw [← hpre2]; simp
          have hrow : ((pre ++ [UInt8.ofNat (u % 128 + 128)]).map rowB) = pre.map rowB ++ [[.int .u8 ((u % 128 + 128 : Nat) : Int)]] := by rw [List.map_append, List.map_cons, List.map_nil, rowB_of (by omega)]
          have ap : ∀ g : Hp, apTok g 0 1 1 (pre.map rowB) [[.int .u8 ((u % 128 + 128 : Nat) : Int)]] (some (.tok pre.length 1 none)) = some (.v (.c (.own 0 ((pre ++ [UInt8.ofNat (u % 128 + 128)]).map rowB))), g.set 0 (.tok (pre.length + 1) 1 none)) := fun g => by
            rw [apTok_ok (eq_true (by simp)) (eq_true (by simp [allLen])) (eq_true (by simp; omega)) (eq_true (by simp; omega)), hrow]
            simp
          have hc := Nat.zero_add 0
          repeat' (first | simp only [hc, AS, NX, NPV, SX, hge, e1, e2, w1, w2, w3, ap, AB, PL, RG, LP, TY, simprocAttr, ↓reduceIte, forall_const, eq_self, ne_eq, Option.some.injEq, beq_self_eq_true] | ((first | apply fin_ndec | apply fin_dec | apply cnd_ndec | apply cnd_dec' | apply fin_nsplit | apply fin_split | apply cnd_nsplit | apply cnd_split) <;> intro hc) | refine seqS_id ?_ | refine blk_exit_id ?_)
          refine lp_next (pre ++ [UInt8.ofNat (u % 128 + 128)], u / 128) ?_ ⟨hpre2, by simpa using hlp2, by dsimp only; omega⟩ (by dsimp only; omega)
          dsimp only
          exact Wk.sub' (by simp [subT, look]) (by simp)
      · have ap0 : ∀ h, apSl h 1 1 [] (bs.map rowB) = some (.v (.c (.own h.length (bs.map rowB))), h ++ [.tok bs.length 1 none]) := fun h => by
          rw [apSl_new (allB bs) (by have := hn.1; simp; omega) (by have := hn.1; simp; omega), if_neg (by simpa using hb), List.length_map]
        have hc := Nat.zero_add 0
        repeat' (first | simp only [hc, AS, Tryd.f40, encBI, NX, NPV, SX, hlt, w1, w2, w3, w4, w5, ap0, AB, PL, RG, LP, TY, simprocAttr, ↓reduceIte, forall_const, eq_self, ne_eq, Option.some.injEq, beq_self_eq_true] | ((first | apply fin_ndec | apply fin_dec | apply cnd_ndec | apply cnd_dec' | apply fin_nsplit | apply fin_split | apply cnd_nsplit | apply cnd_split) <;> intro hc) | refine seqS_id ?_ | refine blk_exit_id ?_)
        refine awpS_loop (σ := List UInt8 × Nat) (fun x => x.1 ++ encU x.2 = bs ++ encI n ∧ x.1.length ≤ (bs ++ encI n).length ∧ x.2 ≤ 18446744073709551615) (fun x => ⟨[(5, .v (.c (.d (.int .u64 x.2)))), (6, .v (.c (.own 0 (x.1.map rowB))))], [.tok x.1.length 1 none]⟩) (fun x => x.2) (bs, codeI n) ((Wk.sub' (by simp [subT, look]) (by simp))) ⟨rfl, by simp, codeI_lt hn.2.1 hn.2.2⟩ ?_
        rintro ⟨pre, u⟩ ⟨hpre, hlp, hu⟩
        dsimp only at hpre hlp hu ⊢
        have hel : (bs ++ encI n).length ≤ 1000010 := by have := encI_len hn.2.1 hn.2.2; rw [List.length_append]; have := hn.1; omega
        have e1 := tm128 u
        have e2 := td128 u
        by_cases h128 : u < 128
        · have hge : ((u : Int) ≥ 128) = False := eq_false (by omega)
          have w1 := eU8 (n := (u : Int)) (by omega) (by omega)
          rw [encU_lo h128] at hpre
          have hlp2 : pre.length + 1 ≤ 1000010 := by have := congrArg List.length hpre; simp only [List.length_append, List.length_cons, List.length_nil] at this hel; omega
          have hend : bs ++ encI n = pre ++ [UInt8.ofNat u] := hpre.symm
          have hrow : ((pre ++ [UInt8.ofNat u]).map rowB) = pre.map rowB ++ [[.int .u8 (u : Int)]] := by rw [List.map_append, List.map_cons, List.map_nil, rowB_of (by omega)]
          have ap : ∀ g : Hp, apTok g 0 1 1 (pre.map rowB) [[.int .u8 (u : Int)]] (some (.tok pre.length 1 none)) = some (.v (.c (.own 0 ((pre ++ [UInt8.ofNat u]).map rowB))), g.set 0 (.tok (pre.length + 1) 1 none)) := fun g => by
            rw [apTok_ok (eq_true (by simp)) (eq_true (by simp [allLen])) (eq_true (by simp; omega)) (eq_true (by simp; omega)), hrow]
            simp
          have hc := Nat.zero_add 0
          repeat' (first | simp only [hc, AS, NX, NPV, SX, hge, w1, ap, AB, PL, RG, LP, TY, simprocAttr, ↓reduceIte, forall_const, eq_self, ne_eq, Option.some.injEq, beq_self_eq_true] | ((first | apply fin_ndec | apply fin_dec | apply cnd_ndec | apply cnd_dec' | apply fin_nsplit | apply fin_split | apply cnd_nsplit | apply cnd_split) <;> intro hc) | refine seqS_id ?_ | refine blk_exit_id ?_)
          exact ⟨_, Wk.refl, by rw [← h, hend]; rfl⟩
        · have hge : ((u : Int) ≥ 128) = True := eq_true (by omega)
          have w1 := eU8 (n := ((u % 128 : Nat) : Int)) (by omega) (by omega)
          have w2 : IntKind.u8.wrap (((u % 128 : Nat) : Int) + 128) = ((u % 128 + 128 : Nat) : Int) := by rw [eU8 (by omega) (by omega)]; omega
          have w3 := eU64 (n := ((u / 128 : Nat) : Int)) (by omega) (by omega)
          rw [encU_hi h128] at hpre
          have hpre2 : (pre ++ [UInt8.ofNat (u % 128 + 128)]) ++ encU (u / 128) = bs ++ encI n := by rw [← hpre]; simp
          have hlp2 : pre.length + 1 ≤ (bs ++ encI n).length := by rw [← hpre2]; simp
          have hrow : ((pre ++ [UInt8.ofNat (u % 128 + 128)]).map rowB) = pre.map rowB ++ [[.int .u8 ((u % 128 + 128 : Nat) : Int)]] := by rw [List.map_append, List.map_cons, List.map_nil, rowB_of (by omega)]
          have ap : ∀ g : Hp, apTok g 0 1 1 (pre.map rowB) [[.int .u8 ((u % 128 + 128 : Nat) : Int)]] (some (.tok pre.length 1 none)) = some (.v (.c (.own 0 ((pre ++ [UInt8.ofNat (u % 128 + 128)]).map rowB))), g.set 0 (.tok (pre.length + 1) 1 none)) := fun g => by
            rw [apTok_ok (eq_true (by simp)) (eq_true (by simp [allLen])) (eq_true (by simp; omega)) (eq_true (by simp; omega)), hrow]
            simp
          have hc := Nat.zero_add 0
          repeat' (first | simp only [hc, AS, NX, NPV, SX, hge, e1, e2, w1, w2, w3, ap, AB, PL, RG, LP, TY, simprocAttr, ↓reduceIte, forall_const, eq_self, ne_eq, Option.some.injEq, beq_self_eq_true] | ((first | apply fin_ndec | apply fin_dec | apply cnd_ndec | apply cnd_dec' | apply fin_nsplit | apply fin_split | apply cnd_nsplit | apply cnd_split) <;> intro hc) | refine seqS_id ?_ | refine blk_exit_id ?_)
          refine lp_next (pre ++ [UInt8.ofNat (u % 128 + 128)], u / 128) ?_ ⟨hpre2, by simpa using hlp2, by dsimp only; omega⟩ (by dsimp only; omega)
          dsimp only
          exact Wk.sub' (by simp [subT, look]) (by simp)
    · have hlt : (n < 0) = False := eq_false hneg
      have w1 := eU64 (n := n) (by omega) (by have := hn.2; omega)
      have w2 : IntKind.u64.wrap (n * 2) = ((codeI n : Nat) : Int) := by
        rw [eU64 (by omega) (by have := hn.2; omega)]
        unfold codeI
        rw [if_neg hneg]
        omega
      have w3 : (0 : Int) = 0 := rfl
      have w4 : (0 : Int) = 0 := rfl
      have w5 : (0 : Int) = 0 := rfl
      have w6 : (0 : Int) = 0 := rfl
      by_cases hb : bs = []
      · have ap0 : ∀ h, apSl h 1 1 [] (bs.map rowB) = some (.d (.sl true []), h) := fun h => by
          rw [apSl_new (allB bs) (by subst hb; simp) (by subst hb; simp), if_pos (by subst hb; rfl)]
        have hc := Nat.zero_add 0
        repeat' (first | simp only [hc, AS, Tryd.f40, encBI, NX, NPV, SX, hlt, w1, w2, w3, w4, w5, ap0, AB, PL, RG, LP, TY, simprocAttr, ↓reduceIte, forall_const, eq_self, ne_eq, Option.some.injEq, beq_self_eq_true] | ((first | apply fin_ndec | apply fin_dec | apply cnd_ndec | apply cnd_dec' | apply fin_nsplit | apply fin_split | apply cnd_nsplit | apply cnd_split) <;> intro hc) | refine seqS_id ?_ | refine blk_exit_id ?_)
        refine awpS_loop (σ := List UInt8 × Nat) (fun x => x.1 ++ encU x.2 = bs ++ encI n ∧ x.1.length ≤ (bs ++ encI n).length ∧ x.2 ≤ 18446744073709551615) (fun x => ⟨[(5, .v (.c (.d (.int .u64 x.2)))), (6, .v (.c (.own 0 (x.1.map rowB))))], [.tok x.1.length 1 none]⟩) (fun x => x.2) (bs, codeI n) ((Wk.own 6 1 (by decide) (by simp [look])).trans (Wk.sub' (by simp [subT, look, hb]) (by simp [hb]))) ⟨rfl, by simp, codeI_lt hn.2.1 hn.2.2⟩ ?_
        rintro ⟨pre, u⟩ ⟨hpre, hlp, hu⟩
        dsimp only at hpre hlp hu ⊢
        have hel : (bs ++ encI n).length ≤ 1000010 := by have := encI_len hn.2.1 hn.2.2; rw [List.length_append]; have := hn.1; omega
        have e1 := tm128 u
        have e2 := td128 u
        by_cases h128 : u < 128
        · have hge : ((u : Int) ≥ 128) = False := eq_false (by omega)
          have w1 := eU8 (n := (u : Int)) (by omega) (by omega)
          rw [encU_lo h128] at hpre
          have hlp2 : pre.length + 1 ≤ 1000010 := by have := congrArg List.length hpre; simp only [List.length_append, List.length_cons, List.length_nil] at this hel; omega
          have hend : bs ++ encI n = pre ++ [UInt8.ofNat u] := hpre.symm
          have hrow : ((pre ++ [UInt8.ofNat u]).map rowB) = pre.map rowB ++ [[.int .u8 (u : Int)]] := by rw [List.map_append, List.map_cons, List.map_nil, rowB_of (by omega)]
          have ap : ∀ g : Hp, apTok g 0 1 1 (pre.map rowB) [[.int .u8 (u : Int)]] (some (.tok pre.length 1 none)) = some (.v (.c (.own 0 ((pre ++ [UInt8.ofNat u]).map rowB))), g.set 0 (.tok (pre.length + 1) 1 none)) := fun g => by
            rw [apTok_ok (eq_true (by simp)) (eq_true (by simp [allLen])) (eq_true (by simp; omega)) (eq_true (by simp; omega)), hrow]
            simp
          have hc := Nat.zero_add 0
          repeat' (first | simp only [hc, AS, NX, NPV, SX, hge, w1, ap, AB, PL, RG, LP, TY, simprocAttr, ↓reduceIte, forall_const, eq_self, ne_eq, Option.some.injEq, beq_self_eq_true] | ((first | apply fin_ndec | apply fin_dec | apply cnd_ndec | apply cnd_dec' | apply fin_nsplit | apply fin_split | apply cnd_nsplit | apply cnd_split) <;> intro hc) | refine seqS_id ?_ | refine blk_exit_id ?_)
          exact ⟨_, Wk.refl, by rw [← h, hend]; rfl⟩
        · have hge : ((u : Int) ≥ 128) = True := eq_true (by omega)
          have w1 := eU8 (n := ((u % 128 : Nat) : Int)) (by omega) (by omega)
          have w2 : IntKind.u8.wrap (((u % 128 : Nat) : Int) + 128) = ((u % 128 + 128 : Nat) : Int) := by rw [eU8 (by omega) (by omega)]; omega
          have w3 := eU64 (n := ((u / 128 : Nat) : Int)) (by omega) (by omega)
          rw [encU_hi h128] at hpre
          have hpre2 : (pre ++ [UInt8.ofNat (u % 128 + 128)]) ++ encU (u / 128) = bs ++ encI n := by rw [← hpre]; simp
          have hlp2 : pre.length + 1 ≤ (bs ++ encI n).length := by rw [← hpre2]; simp
          have hrow : ((pre ++ [UInt8.ofNat (u % 128 + 128)]).map rowB) = pre.map rowB ++ [[.int .u8 ((u % 128 + 128 : Nat) : Int)]] := by rw [List.map_append, List.map_cons, List.map_nil, rowB_of (by omega)]
          have ap : ∀ g : Hp, apTok g 0 1 1 (pre.map rowB) [[.int .u8 ((u % 128 + 128 : Nat) : Int)]] (some (.tok pre.length 1 none)) = some (.v (.c (.own 0 ((pre ++ [UInt8.ofNat (u % 128 + 128)]).map rowB))), g.set 0 (.tok (pre.length + 1) 1 none)) := fun g => by
            rw [apTok_ok (eq_true (by simp)) (eq_true (by simp [allLen])) (eq_true (by simp; omega)) (eq_true (by simp; omega)), hrow]
            simp
          have hc := Nat.zero_add 0
          repeat' (first | simp only [hc, AS, NX, NPV, SX, hge, e1, e2, w1, w2, w3, ap, AB, PL, RG, LP, TY, simprocAttr, ↓reduceIte, forall_const, eq_self, ne_eq, Option.some.injEq, beq_self_eq_true] | ((first | apply fin_ndec | apply fin_dec | apply cnd_ndec | apply cnd_dec' | apply fin_nsplit | apply fin_split | apply cnd_nsplit | apply cnd_split) <;> intro hc) | refine seqS_id ?_ | refine blk_exit_id ?_)
          refine lp_next (pre ++ [UInt8.ofNat (u % 128 + 128)], u / 128) ?_ ⟨hpre2, by simpa using hlp2, by dsimp only; omega⟩ (by dsimp only; omega)
          dsimp only
          exact Wk.sub' (by simp [subT, look]) (by simp)
      · have ap0 : ∀ h, apSl h 1 1 [] (bs.map rowB) = some (.v (.c (.own h.length (bs.map rowB))), h ++ [.tok bs.length 1 none]) := fun h => by
          rw [apSl_new (allB bs) (by have := hn.1; simp; omega) (by have := hn.1; simp; omega), if_neg (by simpa using hb), List.length_map]
        have hc := Nat.zero_add 0
        repeat' (first | simp only [hc, AS, Tryd.f40, encBI, NX, NPV, SX, hlt, w1, w2, w3, w4, w5, ap0, AB, PL, RG, LP, TY, simprocAttr, ↓reduceIte, forall_const, eq_self, ne_eq, Option.some.injEq, beq_self_eq_true] | ((first | apply fin_ndec | apply fin_dec | apply cnd_ndec | apply cnd_dec' | apply fin_nsplit | apply fin_split | apply cnd_nsplit | apply cnd_split) <;> intro hc) | refine seqS_id ?_ | refine blk_exit_id ?_)
        refine awpS_loop (σ := List UInt8 × Nat) (fun x => x.1 ++ encU x.2 = bs ++ encI n ∧ x.1.length ≤ (bs ++ encI n).length ∧ x.2 ≤ 18446744073709551615) (fun x => ⟨[(5, .v (.c (.d (.int .u64 x.2)))), (6, .v (.c (.own 0 (x.1.map rowB))))], [.tok x.1.length 1 none]⟩) (fun x => x.2) (bs, codeI n) ((Wk.sub' (by simp [subT, look]) (by simp))) ⟨rfl, by simp, codeI_lt hn.2.1 hn.2.2⟩ ?_
        rintro ⟨pre, u⟩ ⟨hpre, hlp, hu⟩
        dsimp only at hpre hlp hu ⊢
        have hel : (bs ++ encI n).length ≤ 1000010 := by have := encI_len hn.2.1 hn.2.2; rw [List.length_append]; have := hn.1; omega
        have e1 := tm128 u
        have e2 := td128 u
        by_cases h128 : u < 128
        · have hge : ((u : Int) ≥ 128) = False := eq_false (by omega)
          have w1 := eU8 (n := (u : Int)) (by omega) (by omega)
          rw [encU_lo h128] at hpre
          have hlp2 : pre.length + 1 ≤ 1000010 := by have := congrArg List.length hpre; simp only [List.length_append, List.length_cons, List.length_nil] at this hel; omega
          have hend : bs ++ encI n = pre ++ [UInt8.ofNat u] := hpre.symm
          have hrow : ((pre ++ [UInt8.ofNat u]).map rowB) = pre.map rowB ++ [[.int .u8 (u : Int)]] := by rw [List.map_append, List.map_cons, List.map_nil, rowB_of (by omega)]
          have ap : ∀ g : Hp, apTok g 0 1 1 (pre.map rowB) [[.int .u8 (u : Int)]] (some (.tok pre.length 1 none)) = some (.v (.c (.own 0 ((pre ++ [UInt8.ofNat u]).map rowB))), g.set 0 (.tok (pre.length + 1) 1 none)) := fun g => by
            rw [apTok_ok (eq_true (by simp)) (eq_true (by simp [allLen])) (eq_true (by simp; omega)) (eq_true (by simp; omega)), hrow]
            simp
          have hc := Nat.zero_add 0
          repeat' (first | simp only [hc, AS, NX, NPV, SX, hge, w1, ap, AB, PL, RG, LP, TY, simprocAttr, ↓reduceIte, forall_const, eq_self, ne_eq, Option.some.injEq, beq_self_eq_true] | ((first | apply fin_ndec | apply fin_dec | apply cnd_ndec | apply cnd_dec' | apply fin_nsplit | apply fin_split | apply cnd_nsplit | apply cnd_split) <;> intro hc) | refine seqS_id ?_ | refine blk_exit_id ?_)
          exact ⟨_, Wk.refl, by rw [← h, hend]; rfl⟩
        · have hge : ((u : Int) ≥ 128) = True := eq_true (by omega)
          have w1 := eU8 (n := ((u % 128 : Nat) : Int)) (by omega) (by omega)
          have w2 : IntKind.u8.wrap (((u % 128 : Nat) : Int) + 128) = ((u % 128 + 128 : Nat) : Int) := by rw [eU8 (by omega) (by omega)]; omega
          have w3 := eU64 (n := ((u / 128 : Nat) : Int)) (by omega) (by omega)
          rw [encU_hi h128] at hpre
          have hpre2 : (pre ++ [UInt8.ofNat (u % 128 + 128)]) ++ encU (u / 128) = bs ++ encI n := by rw [← hpre]; simp
          have hlp2 : pre.length + 1 ≤ (bs ++ encI n).length := by rw [← hpre2]; simp
          have hrow : ((pre ++ [UInt8.ofNat (u % 128 + 128)]).map rowB) = pre.map rowB ++ [[.int .u8 ((u % 128 + 128 : Nat) : Int)]] := by rw [List.map_append, List.map_cons, List.map_nil, rowB_of (by omega)]
          have ap : ∀ g : Hp, apTok g 0 1 1 (pre.map rowB) [[.int .u8 ((u % 128 + 128 : Nat) : Int)]] (some (.tok pre.length 1 none)) = some (.v (.c (.own 0 ((pre ++ [UInt8.ofNat (u % 128 + 128)]).map rowB))), g.set 0 (.tok (pre.length + 1) 1 none)) := fun g => by
            rw [apTok_ok (eq_true (by simp)) (eq_true (by simp [allLen])) (eq_true (by simp; omega)) (eq_true (by simp; omega)), hrow]
            simp
          have hc := Nat.zero_add 0
          repeat' (first | simp only [hc, AS, NX, NPV, SX, hge, e1, e2, w1, w2, w3, ap, AB, PL, RG, LP, TY, simprocAttr, ↓reduceIte, forall_const, eq_self, ne_eq, Option.some.injEq, beq_self_eq_true] | ((first | apply fin_ndec | apply fin_dec | apply cnd_ndec | apply cnd_dec' | apply fin_nsplit | apply fin_split | apply cnd_nsplit | apply cnd_split) <;> intro hc) | refine seqS_id ?_ | refine blk_exit_id ?_)
          refine lp_next (pre ++ [UInt8.ofNat (u % 128 + 128)], u / 128) ?_ ⟨hpre2, by simpa using hlp2, by dsimp only; omega⟩ (by dsimp only; omega)
          dsimp only
          exact Wk.sub' (by simp [subT, look]) (by simp)
  · cases h
theorem cpintK_kok : ImpC Tryd.prog Gt 40 cpintK_k := by
  intro args h out h0
  refine fok_of_awpSW (X := ctxN Tryd.prog Gt [] [] [] none) Tryd.func40 rfl rfl (by kernel_rfl) (by kernel_rfl) (kok_n AllOk.nil AllK.nil AllN.nil) ?_ ?_
  · obtain ⟨p, bs, rfl, _⟩ := bK_inv avBI_inj h0
    exact Nat.le_of_ble_eq_true rfl
  obtain ⟨⟨⟨f, bs⟩, n⟩, out, rfl, hf, rfl⟩ := bK_inv avBI_inj h0
  split at hf
  · rename_i hn
    cases hf
    dsimp only at hn
    by_cases hneg : n < 0
    · have hlt : (n < 0) = True := eq_true hneg
      have w1 := wI (n := n + 1) (by have := hn.2; omega) (by have := hn.2; omega)
      have w2 : IntKind.i64.wrap (0 - (n + 1)) = -(n + 1) := by rw [wI (by omega) (by have := hn.2; omega)]; omega
      have w3 := eU64 (n := -(n + 1)) (by omega) (by have := hn.2; omega)
      have w4 := eU64 (n := -(n + 1) * 2) (by omega) (by have := hn.2; omega)
      have w5 : IntKind.u64.wrap (-(n + 1) * 2 + 1) = ((codeI n : Nat) : Int) := by
        rw [eU64 (by omega) (by have := hn.2; omega)]
        unfold codeI
        rw [if_pos hneg]
        omega
      have w6 : (0 : Int) = 0 := rfl
      by_cases hb : bs = []
      · have ap0 : ∀ h, apSl h 1 1 [] (bs.map rowB) = some (.d (.sl true []), h) := fun h => by
          rw [apSl_new (allB bs) (by subst hb; simp) (by subst hb; simp), if_pos (by subst hb; rfl)]
        have hc := Nat.zero_add 0
        repeat' (first | simp only [hc, AS, Tryd.f40, avBI, NX, NPV, SX, HX, hlt, w1, w2, w3, w4, w5, ap0, AB, PL, RG, LP, TY, simprocAttr, ↓reduceIte, forall_const, eq_self, ne_eq, Option.some.injEq, beq_self_eq_true] | ((first | apply fin_ndec | apply fin_dec | apply cnd_ndec | apply cnd_dec' | apply fin_nsplit | apply fin_split | apply cnd_nsplit | apply cnd_split) <;> intro hc) | refine seqS_id ?_ | refine blk_exit_id ?_)
        refine awpS_loop (σ := List UInt8 × Nat) (fun x => x.1 ++ encU x.2 = bs ++ encI n ∧ x.1.length ≤ (bs ++ encI n).length ∧ x.2 ≤ 18446744073709551615) (fun x => ⟨[(5, .v (.c (.d (.int .u64 x.2)))), (6, .v (.c (.own h.length (x.1.map rowB))))], h ++ [.tok x.1.length 1 none]⟩) (fun x => x.2) (bs, codeI n) ((Wk.own 6 1 (by decide) (by simp [look])).trans (Wk.sub' (by simp [subT, look, hb]) (by simp [hb]))) ⟨rfl, by simp, codeI_lt hn.2.1 hn.2.2⟩ ?_
        rintro ⟨pre, u⟩ ⟨hpre, hlp, hu⟩
        dsimp only at hpre hlp hu ⊢
        have hel : (bs ++ encI n).length ≤ 1000010 := by have := encI_len hn.2.1 hn.2.2; rw [List.length_append]; have := hn.1; omega
        have e1 := tm128 u
        have e2 := td128 u
        by_cases h128 : u < 128
        · have hge : ((u : Int) ≥ 128) = False := eq_false (by omega)
          have w1 := eU8 (n := (u : Int)) (by omega) (by omega)
          rw [encU_lo h128] at hpre
          have hlp2 : pre.length + 1 ≤ 1000010 := by have := congrArg List.length hpre; simp only [List.length_append, List.length_cons, List.length_nil] at this hel; omega
          have hend : bs ++ encI n = pre ++ [UInt8.ofNat u] := hpre.symm
          have hrow : ((pre ++ [UInt8.ofNat u]).map rowB) = pre.map rowB ++ [[.int .u8 (u : Int)]] := by rw [List.map_append, List.map_cons, List.map_nil, rowB_of (by omega)]
          have ap : ∀ g : Hp, apTok g h.length 1 1 (pre.map rowB) [[.int .u8 (u : Int)]] (some (.tok pre.length 1 none)) = some (.v (.c (.own h.length ((pre ++ [UInt8.ofNat u]).map rowB))), g.set h.length (.tok (pre.length + 1) 1 none)) := fun g => by
            rw [apTok_ok (eq_true (by simp)) (eq_true (by simp [allLen])) (eq_true (by simp; omega)) (eq_true (by simp; omega)), hrow]
            simp
          have hc := Nat.zero_add 0
          repeat' (first | simp only [hc, AS, NX, NPV, SX, HX, hge, w1, ap, AB, PL, RG, LP, TY, simprocAttr, ↓reduceIte, forall_const, eq_self, ne_eq, Option.some.injEq, beq_self_eq_true] | ((first | apply fin_ndec | apply fin_dec | apply cnd_ndec | apply cnd_dec' | apply fin_nsplit | apply fin_split | apply cnd_nsplit | apply cnd_split) <;> intro hc) | refine seqS_id ?_ | refine blk_exit_id ?_)
          exact ⟨_, Wk.refl, [.c (.own h.length ((bs ++ encI n).map rowB))], by simp [resAllV, resOneV, S.get, look, AV.one, hend], by simp [resVV, hend]⟩
        · have hge : ((u : Int) ≥ 128) = True := eq_true (by omega)
          have w1 := eU8 (n := ((u % 128 : Nat) : Int)) (by omega) (by omega)
          have w2 : IntKind.u8.wrap (((u % 128 : Nat) : Int) + 128) = ((u % 128 + 128 : Nat) : Int) := by rw [eU8 (by omega) (by omega)]; omega
          have w3 := eU64 (n := ((u / 128 : Nat) : Int)) (by omega) (by omega)
          rw [encU_hi h128] at hpre
          have hpre2 : (pre ++ [UInt8.ofNat (u % 128 + 128)]) ++ encU (u / 128) = bs ++ encI n := by rw [← hpre]; simp
          have hlp2 : pre.length + 1 ≤ (bs ++ encI n).length := by rw [← hpre2]; simp
          have hrow : ((pre ++ [UInt8.ofNat (u % 128 + 128)]).map rowB) = pre.map rowB ++ [[.int .u8 ((u % 128 + 128 : Nat) : Int)]] := by rw [List.map_append, List.map_cons, List.map_nil, rowB_of (by omega)]
          have ap : ∀ g : Hp, apTok g h.length 1 1 (pre.map rowB) [[.int .u8 ((u % 128 + 128 : Nat) : Int)]] (some (.tok pre.length 1 none)) = some (.v (.c (.own h.length ((pre ++ [UInt8.ofNat (u % 128 + 128)]).map rowB))), g.set h.length (.tok (pre.length + 1) 1 none)) := fun g => by
            rw [apTok_ok (eq_true (by simp)) (eq_true (by simp [allLen])) (eq_true (by simp; omega)) (eq_true (by simp; omega)), hrow]
            simp
          have hc := Nat.zero_add 0
          repeat' (first | simp only [hc, AS, NX, NPV, SX, HX, hge, e1, e2, w1, w2, w3, ap, AB, PL, RG, LP, TY, simprocAttr, ↓reduceIte, forall_const, eq_self, ne_eq, Option.some.injEq, beq_self_eq_true] | ((first | apply fin_ndec | apply fin_dec | apply cnd_ndec | apply cnd_dec' | apply fin_nsplit | apply fin_split | apply cnd_nsplit | apply cnd_split) <;> intro hc) | refine seqS_id ?_ | refine blk_exit_id ?_)
          refine lp_next (pre ++ [UInt8.ofNat (u % 128 + 128)], u / 128) ?_ ⟨hpre2, by simpa using hlp2, by dsimp only; omega⟩ (by dsimp only; omega)
          dsimp only
          exact Wk.sub' (by simp [subT, look]) (by simp)
      · have ap0 : ∀ h, apSl h 1 1 [] (bs.map rowB) = some (.v (.c (.own h.length (bs.map rowB))), h ++ [.tok bs.length 1 none]) := fun h => by
          rw [apSl_new (allB bs) (by have := hn.1; simp; omega) (by have := hn.1; simp; omega), if_neg (by simpa using hb), List.length_map]
        have hc := Nat.zero_add 0
        repeat' (first | simp only [hc, AS, Tryd.f40, avBI, NX, NPV, SX, HX, hlt, w1, w2, w3, w4, w5, ap0, AB, PL, RG, LP, TY, simprocAttr, ↓reduceIte, forall_const, eq_self, ne_eq, Option.some.injEq, beq_self_eq_true] | ((first | apply fin_ndec | apply fin_dec | apply cnd_ndec | apply cnd_dec' | apply fin_nsplit | apply fin_split | apply cnd_nsplit | apply cnd_split) <;> intro hc) | refine seqS_id ?_ | refine blk_exit_id ?_)
        refine awpS_loop (σ := List UInt8 × Nat) (fun x => x.1 ++ encU x.2 = bs ++ encI n ∧ x.1.length ≤ (bs ++ encI n).length ∧ x.2 ≤ 18446744073709551615) (fun x => ⟨[(5, .v (.c (.d (.int .u64 x.2)))), (6, .v (.c (.own h.length (x.1.map rowB))))], h ++ [.tok x.1.length 1 none]⟩) (fun x => x.2) (bs, codeI n) ((Wk.sub' (by simp [subT, look]) (by simp))) ⟨rfl, by simp, codeI_lt hn.2.1 hn.2.2⟩ ?_
        rintro ⟨pre, u⟩ ⟨hpre, hlp, hu⟩
        dsimp only at hpre hlp hu ⊢
        have hel : (bs ++ encI n).length ≤ 1000010 := by have := encI_len hn.2.1 hn.2.2; rw [List.length_append]; have := hn.1; omega
        have e1 := tm128 u
        have e2 := td128 u
        by_cases h128 : u < 128
        · have hge : ((u : Int) ≥ 128) = False := eq_false (by omega)
          have w1 := eU8 (n := (u : Int)) (by omega) (by omega)
          rw [encU_lo h128] at hpre
          have hlp2 : pre.length + 1 ≤ 1000010 := by have := congrArg List.length hpre; simp only [List.length_append, List.length_cons, List.length_nil] at this hel; omega
          have hend : bs ++ encI n = pre ++ [UInt8.ofNat u] := hpre.symm
          have hrow : ((pre ++ [UInt8.ofNat u]).map rowB) = pre.map rowB ++ [[.int .u8 (u : Int)]] := by rw [List.map_append, List.map_cons, List.map_nil, rowB_of (by omega)]
          have ap : ∀ g : Hp, apTok g h.length 1 1 (pre.map rowB) [[.int .u8 (u : Int)]] (some (.tok pre.length 1 none)) = some (.v (.c (.own h.length ((pre ++ [UInt8.ofNat u]).map rowB))), g.set h.length (.tok (pre.length + 1) 1 none)) := fun g => by
            rw [apTok_ok (eq_true (by simp)) (eq_true (by simp [allLen])) (eq_true (by simp; omega)) (eq_true (by simp; omega)), hrow]
            simp
          have hc := Nat.zero_add 0
          repeat' (first | simp only [hc, AS, NX, NPV, SX, HX, hge, w1, ap, AB, PL, RG, LP, TY, simprocAttr, ↓reduceIte, forall_const, eq_self, ne_eq, Option.some.injEq, beq_self_eq_true] | ((first | apply fin_ndec | apply fin_dec | apply cnd_ndec | apply cnd_dec' | apply fin_nsplit | apply fin_split | apply cnd_nsplit | apply cnd_split) <;> intro hc) | refine seqS_id ?_ | refine blk_exit_id ?_)
          exact ⟨_, Wk.refl, [.c (.own h.length ((bs ++ encI n).map rowB))], by simp [resAllV, resOneV, S.get, look, AV.one, hend], by simp [resVV, hend]⟩
        · have hge : ((u : Int) ≥ 128) = True := eq_true (by omega)
          have w1 := eU8 (n := ((u % 128 : Nat) : Int)) (by omega) (by omega)
          have w2 : IntKind.u8.wrap (((u % 128 : Nat) : Int) + 128) = ((u % 128 + 128 : Nat) : Int) := by rw [eU8 (by omega) (by omega)]; omega
          have w3 := eU64 (n := ((u / 128 : Nat) : Int)) (by omega) (by omega)
          rw [encU_hi h128] at hpre
          have hpre2 : (pre ++ [UInt8.ofNat (u % 128 + 128)]) ++ encU (u / 128) = bs ++ encI n := by rw [← hpre]; simp
          have hlp2 : pre.length + 1 ≤ (bs ++ encI n).length := by rw [← hpre2]; simp
          have hrow : ((pre ++ [UInt8.ofNat (u % 128 + 128)]).map rowB) = pre.map rowB ++ [[.int .u8 ((u % 128 + 128 : Nat) : Int)]] := by rw [List.map_append, List.map_cons, List.map_nil, rowB_of (by omega)]
          have ap : ∀ g : Hp, apTok g h.length 1 1 (pre.map rowB) [[.int .u8 ((u % 128 + 128 : Nat) : Int)]] (some (.tok pre.length 1 none)) = some (.v (.c (.own h.length ((pre ++ [UInt8.ofNat (u % 128 + 128)]).map rowB))), g.set h.length (.tok (pre.length + 1) 1 none)) := fun g => by
            rw [apTok_ok (eq_true (by simp)) (eq_true (by simp [allLen])) (eq_true (by simp; omega)) (eq_true (by simp; omega)), hrow]
            simp
          have hc := Nat.zero_add 0
          repeat' (first | simp only [hc, AS, NX, NPV, SX, HX, hge, e1, e2, w1, w2, w3, ap, AB, PL, RG, LP, TY, simprocAttr, ↓reduceIte, forall_const, eq_self, ne_eq, Option.some.injEq, beq_self_eq_true] | ((first | apply fin_ndec | apply fin_dec | apply cnd_ndec | apply cnd_dec' | apply fin_nsplit | apply fin_split | apply cnd_nsplit | apply cnd_split) <;> intro hc) | refine seqS_id ?_ | refine blk_exit_id ?_)
          refine lp_next (pre ++ [UInt8.ofNat (u % 128 + 128)], u / 128) ?_ ⟨hpre2, by simpa using hlp2, by dsimp only; omega⟩ (by dsimp only; omega)
          dsimp only
          exact Wk.sub' (by simp [subT, look]) (by simp)
    · have hlt : (n < 0) = False := eq_false hneg
      have w1 := eU64 (n := n) (by omega) (by have := hn.2; omega)
      have w2 : IntKind.u64.wrap (n * 2) = ((codeI n : Nat) : Int) := by
        rw [eU64 (by omega) (by have := hn.2; omega)]
        unfold codeI
        rw [if_neg hneg]
        omega
      have w3 : (0 : Int) = 0 := rfl
      have w4 : (0 : Int) = 0 := rfl
      have w5 : (0 : Int) = 0 := rfl
      have w6 : (0 : Int) = 0 := rfl
      by_cases hb : bs = []
      · have ap0 : ∀ h, apSl h 1 1 [] (bs.map rowB) = some (.d (.sl true []), h) := fun h => by
          rw [apSl_new (allB bs) (by subst hb; simp) (by subst hb; simp), if_pos (by subst hb; rfl)]
        have hc := Nat.zero_add 0
        repeat' (first | simp only [hc, AS, Tryd.f40, avBI, NX, NPV, SX, HX, hlt, w1, w2, w3, w4, w5, ap0, AB, PL, RG, LP, TY, simprocAttr, ↓reduceIte, forall_const, eq_self, ne_eq, Option.some.injEq, beq_self_eq_true] | ((first | apply fin_ndec | apply fin_dec | apply cnd_ndec | apply cnd_dec' | apply fin_nsplit | apply fin_split | apply cnd_nsplit | apply cnd_split) <;> intro hc) | refine seqS_id ?_ | refine blk_exit_id ?_)
        refine awpS_loop (σ := List UInt8 × Nat) (fun x => x.1 ++ encU x.2 = bs ++ encI n ∧ x.1.length ≤ (bs ++ encI n).length ∧ x.2 ≤ 18446744073709551615) (fun x => ⟨[(5, .v (.c (.d (.int .u64 x.2)))), (6, .v (.c (.own h.length (x.1.map rowB))))], h ++ [.tok x.1.length 1 none]⟩) (fun x => x.2) (bs, codeI n) ((Wk.own 6 1 (by decide) (by simp [look])).trans (Wk.sub' (by simp [subT, look, hb]) (by simp [hb]))) ⟨rfl, by simp, codeI_lt hn.2.1 hn.2.2⟩ ?_
        rintro ⟨pre, u⟩ ⟨hpre, hlp, hu⟩
        dsimp only at hpre hlp hu ⊢
        have hel : (bs ++ encI n).length ≤ 1000010 := by have := encI_len hn.2.1 hn.2.2; rw [List.length_append]; have := hn.1; omega
        have e1 := tm128 u
        have e2 := td128 u
        by_cases h128 : u < 128
        · have hge : ((u : Int) ≥ 128) = False := eq_false (by omega)
          have w1 := eU8 (n := (u : Int)) (by omega) (by omega)
          rw [encU_lo h128] at hpre
          have hlp2 : pre.length + 1 ≤ 1000010 := by have := congrArg List.length hpre; simp only [List.length_append, List.length_cons, List.length_nil] at this hel; omega
          have hend : bs ++ encI n = pre ++ [UInt8.ofNat u] := hpre.symm
          have hrow : ((pre ++ [UInt8.ofNat u]).map rowB) = pre.map rowB ++ [[.int .u8 (u : Int)]] := by rw [List.map_append, List.map_cons, List.map_nil, rowB_of (by omega)]
          have ap : ∀ g : Hp, apTok g h.length 1 1 (pre.map rowB) [[.int .u8 (u : Int)]] (some (.tok pre.length 1 none)) = some (.v (.c (.own h.length ((pre ++ [UInt8.ofNat u]).map rowB))), g.set h.length (.tok (pre.length + 1) 1 none)) := fun g => by
            rw [apTok_ok (eq_true (by simp)) (eq_true (by simp [allLen])) (eq_true (by simp; omega)) (eq_true (by simp; omega)), hrow]
            simp
          have hc := Nat.zero_add 0
          repeat' (first | simp only [hc, AS, NX, NPV, SX, HX, hge, w1, ap, AB, PL, RG, LP, TY, simprocAttr, ↓reduceIte, forall_const, eq_self, ne_eq, Option.some.injEq, beq_self_eq_true] | ((first | apply fin_ndec | apply fin_dec | apply cnd_ndec | apply cnd_dec' | apply fin_nsplit | apply fin_split | apply cnd_nsplit | apply cnd_split) <;> intro hc) | refine seqS_id ?_ | refine blk_exit_id ?_)
          exact ⟨_, Wk.refl, [.c (.own h.length ((bs ++ encI n).map rowB))], by simp [resAllV, resOneV, S.get, look, AV.one, hend], by simp [resVV, hend]⟩
        · have hge : ((u : Int) ≥ 128) = True := eq_true (by omega)
          have w1 := eU8 (n := ((u % 128 : Nat) : Int)) (by omega) (by omega)
          have w2 : IntKind.u8.wrap (((u % 128 : Nat) : Int) + 128) = ((u % 128 + 128 : Nat) : Int) := by rw [eU8 (by omega) (by omega)]; omega
          have w3 := eU64 (n := ((u / 128 : Nat) : Int)) (by omega) (by omega)
          rw [encU_hi h128] at hpre
          have hpre2 : (pre ++ [UInt8.ofNat (u % 128 + 128)]) ++ encU (u / 128) = bs ++ encI n := by rw [← hpre]; simp
          have hlp2 : pre.length + 1 ≤ (bs ++ encI n).length := by rw [← hpre2]; simp
          have hrow : ((pre ++ [UInt8.ofNat (u % 128 + 128)]).map rowB) = pre.map rowB ++ [[.int .u8 ((u % 128 + 128 : Nat) : Int)]] := by rw [List.map_append, List.map_cons, List.map_nil, rowB_of (by omega)]
          have ap : ∀ g : Hp, apTok g h.length 1 1 (pre.map rowB) [[.int .u8 ((u % 128 + 128 : Nat) : Int)]] (some (.tok pre.length 1 none)) = some (.v (.c (.own h.length ((pre ++ [UInt8.ofNat (u % 128 + 128)]).map rowB))), g.set h.length (.tok (pre.length + 1) 1 none)) := fun g => by
            rw [apTok_ok (eq_true (by simp)) (eq_true (by simp [allLen])) (eq_true (by simp; omega)) (eq_true (by simp; omega)), hrow]
            simp
          have hc := Nat.zero_add 0
          repeat' (first | simp only [hc, AS, NX, NPV, SX, HX, hge, e1, e2, w1, w2, w3, ap, AB, PL, RG, LP, TY, simprocAttr, ↓reduceIte, forall_const, eq_self, ne_eq, Option.some.injEq, beq_self_eq_true] | ((first | apply fin_ndec | apply fin_dec | apply cnd_ndec | apply cnd_dec' | apply fin_nsplit | apply fin_split | apply cnd_nsplit | apply cnd_split) <;> intro hc) | refine seqS_id ?_ | refine blk_exit_id ?_)
          refine lp_next (pre ++ [UInt8.ofNat (u % 128 + 128)], u / 128) ?_ ⟨hpre2, by simpa using hlp2, by dsimp only; omega⟩ (by dsimp only; omega)
          dsimp only
          exact Wk.sub' (by simp [subT, look]) (by simp)
      · have ap0 : ∀ h, apSl h 1 1 [] (bs.map rowB) = some (.v (.c (.own h.length (bs.map rowB))), h ++ [.tok bs.length 1 none]) := fun h => by
          rw [apSl_new (allB bs) (by have := hn.1; simp; omega) (by have := hn.1; simp; omega), if_neg (by simpa using hb), List.length_map]
        have hc := Nat.zero_add 0
        repeat' (first | simp only [hc, AS, Tryd.f40, avBI, NX, NPV, SX, HX, hlt, w1, w2, w3, w4, w5, ap0, AB, PL, RG, LP, TY, simprocAttr, ↓reduceIte, forall_const, eq_self, ne_eq, Option.some.injEq, beq_self_eq_true] | ((first | apply fin_ndec | apply fin_dec | apply cnd_ndec | apply cnd_dec' | apply fin_nsplit | apply fin_split | apply cnd_nsplit | apply cnd_split) <;> intro hc) | refine seqS_id ?_ | refine blk_exit_id ?_)
        refine awpS_loop (σ := List UInt8 × Nat) (fun x => x.1 ++ encU x.2 = bs ++ encI n ∧ x.1.length ≤ (bs ++ encI n).length ∧ x.2 ≤ 18446744073709551615) (fun x => ⟨[(5, .v (.c (.d (.int .u64 x.2)))), (6, .v (.c (.own h.length (x.1.map rowB))))], h ++ [.tok x.1.length 1 none]⟩) (fun x => x.2) (bs, codeI n) ((Wk.sub' (by simp [subT, look]) (by simp))) ⟨rfl, by simp, codeI_lt hn.2.1 hn.2.2⟩ ?_
        rintro ⟨pre, u⟩ ⟨hpre, hlp, hu⟩
        dsimp only at hpre hlp hu ⊢
        have hel : (bs ++ encI n).length ≤ 1000010 := by have := encI_len hn.2.1 hn.2.2; rw [List.length_append]; have := hn.1; omega
        have e1 := tm128 u
        have e2 := td128 u
        by_cases h128 : u < 128
        · have hge : ((u : Int) ≥ 128) = False := eq_false (by omega)
          have w1 := eU8 (n := (u : Int)) (by omega) (by omega)
          rw [encU_lo h128] at hpre
          have hlp2 : pre.length + 1 ≤ 1000010 := by have := congrArg List.length hpre; simp only [List.length_append, List.length_cons, List.length_nil] at this hel; omega
          have hend : bs ++ encI n = pre ++ [UInt8.ofNat u] := hpre.symm
          have hrow : ((pre ++ [UInt8.ofNat u]).map rowB) = pre.map rowB ++ [[.int .u8 (u : Int)]] := by rw [List.map_append, List.map_cons, List.map_nil, rowB_of (by omega)]
          have ap : ∀ g : Hp, apTok g h.length 1 1 (pre.map rowB) [[.int .u8 (u : Int)]] (some (.tok pre.length 1 none)) = some (.v (.c (.own h.length ((pre ++ [UInt8.ofNat u]).map rowB))), g.set h.length (.tok (pre.length + 1) 1 none)) := fun g => by
            rw [apTok_ok (eq_true (by simp)) (eq_true (by simp [allLen])) (eq_true (by simp; omega)) (eq_true (by simp; omega)), hrow]
            simp
          have hc := Nat.zero_add 0
          repeat' (first | simp only [hc, AS, NX, NPV, SX, HX, hge, w1, ap, AB, PL, RG, LP, TY, simprocAttr, ↓reduceIte, forall_const, eq_self, ne_eq, Option.some.injEq, beq_self_eq_true] | ((first | apply fin_ndec | apply fin_dec | apply cnd_ndec | apply cnd_dec' | apply fin_nsplit | apply fin_split | apply cnd_nsplit | apply cnd_split) <;> intro hc) | refine seqS_id ?_ | refine blk_exit_id ?_)
          exact ⟨_, Wk.refl, [.c (.own h.length ((bs ++ encI n).map rowB))], by simp [resAllV, resOneV, S.get, look, AV.one, hend], by simp [resVV, hend]⟩
        · have hge : ((u : Int) ≥ 128) = True := eq_true (by omega)
          have w1 := eU8 (n := ((u % 128 : Nat) : Int)) (by omega) (by omega)
          have w2 : IntKind.u8.wrap (((u % 128 : Nat) : Int) + 128) = ((u % 128 + 128 : Nat) : Int) := by rw [eU8 (by omega) (by omega)]; omega
          have w3 := eU64 (n := ((u / 128 : Nat) : Int)) (by omega) (by omega)
          rw [encU_hi h128] at hpre
          have hpre2 : (pre ++ [UInt8.ofNat (u % 128 + 128)]) ++ encU (u / 128) = bs ++ encI n := by rw [← hpre]; simp
          have hlp2 : pre.length + 1 ≤ (bs ++ encI n).length := by rw [← hpre2]; simp
          have hrow : ((pre ++ [UInt8.ofNat (u % 128 + 128)]).map rowB) = pre.map rowB ++ [[.int .u8 ((u % 128 + 128 : Nat) : Int)]] := by rw [List.map_append, List.map_cons, List.map_nil, rowB_of (by omega)]
          have ap : ∀ g : Hp, apTok g h.length 1 1 (pre.map rowB) [[.int .u8 ((u % 128 + 128 : Nat) : Int)]] (some (.tok pre.length 1 none)) = some (.v (.c (.own h.length ((pre ++ [UInt8.ofNat (u % 128 + 128)]).map rowB))), g.set h.length (.tok (pre.length + 1) 1 none)) := fun g => by
            rw [apTok_ok (eq_true (by simp)) (eq_true (by simp [allLen])) (eq_true (by simp; omega)) (eq_true (by simp; omega)), hrow]
            simp
          have hc := Nat.zero_add 0
          repeat' (first | simp only [hc, AS, NX, NPV, SX, HX, hge, e1, e2, w1, w2, w3, ap, AB, PL, RG, LP, TY, simprocAttr, ↓reduceIte, forall_const, eq_self, ne_eq, Option.some.injEq, beq_self_eq_true] | ((first | apply fin_ndec | apply fin_dec | apply cnd_ndec | apply cnd_dec' | apply fin_nsplit | apply fin_split | apply cnd_nsplit | apply cnd_split) <;> intro hc) | refine seqS_id ?_ | refine blk_exit_id ?_)
          refine lp_next (pre ++ [UInt8.ofNat (u % 128 + 128)], u / 128) ?_ ⟨hpre2, by simpa using hlp2, by dsimp only; omega⟩ (by dsimp only; omega)
          dsimp only
          exact Wk.sub' (by simp [subT, look]) (by simp)
  · cases hf

end
end Go.Ab
