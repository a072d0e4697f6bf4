/-
  Texts of the layer and of the laws, put together: AbF12. No law is stated here.
-/
import Derived.Test.YteeepgnhkfmnaaaDoorAbVol32
set_option linter.unusedSimpArgs false
set_option linter.unusedVariables false
set_option maxRecDepth 100000

/-
  event.Put, R46.Put.
-/
namespace Go.Ab
open Go.RowKit Go.Proofs

noncomputable section
open Classical

def eput_m : List PA → Option (List PA) := mE encBE fun p => if p.1.2.length ≤ 100000 then some (putE p.1.2 p.2) else none
def r6put_m : List PA → Option (List PA) := mE encBE fun p => if p.1.2.length ≤ 100000 then some (putE p.1.2 p.2) else none

set_option maxHeartbeats 1000000 in
theorem eput_ok : PureC Tryd.prog Gt 20 eput_m := by
  refine pure_of_awpSW (X := ctxN Tryd.prog Gt [(12, eright_m), (40, cpint_m), (41, cptext_m)] [(25, efields_k)] [] none (uL [63])) Tryd.func20 rfl rfl (by kernel_rfl) (by kernel_rfl) (kok_n (AllOk.cons eright_ok (AllOk.cons cpint_ok (AllOk.cons cptext_ok AllOk.nil))) (AllK.cons efields_kok AllK.nil) AllN.nil) ?_
  intro args r h0
  obtain ⟨⟨⟨f, bs⟩, e⟩, rfl, h⟩ := mE_inv h0
  refine ⟨Nat.le_of_ble_eq_true rfl, ?_⟩
  split at h
  · rename_i hb
    simp only [Option.some.injEq] at h
    dsimp only at hb h
    have g1 := @eright_at e
    have lowD : ∀ (l : List D) (m : Nat), ((l.map C1.d).all (C1.low m)) = true := fun l m => all_low_d m l
    by_cases hr : rightE e = true
    · rw [hr] at g1
      have hP : putE bs e = [.c (.sl false ((bs ++ encV e).map rowB)), .i 0] := if_pos hr
      rw [hP] at h
      have hk := right_kind hr
      have hkn : -9223372036854775808 ≤ e.kind ∧ e.kind ≤ 9223372036854775807 := by rcases kind_cases hk with h | h | h | h | h <;> omega
      have g2 := cpint_at (f := f) (bs := bs) (n := e.kind) ⟨by omega, hkn⟩
      have hel := encI_len hkn.1 hkn.2
      have f1 := efields_at (id := 0) (k := e.kind) (cs := (e.row.tail).map .d) (h := [.box (e.row.map .d)]) rfl rfl (by unfold LowH; simp only [List.all_cons, List.all_nil, Ob.low, lowD, Bool.and_true]) rfl hk
      have hty := typed_row e e.kind
      have hfl := fld_len e.kind
      have hrd : ∀ p ∈ fldK e.kind, (e.row.map C1.d)[p.2]? = some (.d (if p.1 = true then .str (rTx e.row p.2) else .int .i64 (rNm e.row p.2))) := fun p hp => by rw [List.getElem?_map, hty p hp]; rfl
      have hft := fun (p : Fld) (hp : p ∈ fldK e.kind) => right_fit hr hp
      have hpl := fun (j : Nat) => putFlds_len hr (F := (fldK e.kind).take j) fun p hp => List.mem_of_mem_take hp
      have hV : bs ++ encV e = (bs ++ encI e.kind) ++ (fldK e.kind).flatMap (putFld e.row) := by unfold encV; rw [List.append_assoc]
      have hXl : (bs ++ encI e.kind).length ≤ 100010 := by rw [List.length_append]; omega
      rw [hV] at h
      generalize hF : fldK e.kind = F at *
      generalize bs ++ encI e.kind = X at *
      simp only [Evt.row, List.map_cons, List.map_nil, List.length_cons, List.length_nil, List.cons_append, List.nil_append, Nat.reduceAdd, Nat.zero_add] at f1 g1
      have hc := Nat.zero_add 0
      repeat' (first | simp only [hc, AS, Tryd.f20, encBE, Evt.row, List.map_cons, List.map_nil, NX, NPV, SX, NW, f1, g1, g2, AB, PL, RG, LP, TY, simprocAttr, ↓reduceIte, forall_const, eq_self, ne_eq, Option.some.injEq, beq_self_eq_true] | ((first | apply fin_ndec | apply fin_dec | apply cnd_ndec | apply cnd_dec' | apply fin_nsplit | apply fin_split | apply cnd_nsplit | apply cnd_split) <;> intro hc) | refine seqS_id ?_ | refine blk_exit_id ?_)
      refine awpS_loop (σ := Nat) (fun j => j ≤ F.length) (fun j => ⟨[(24, AV.i j), (23, AV.i F.length), (22, .v (.c (.msl 1 F.length))), (6, AV.d (.sl false ((X ++ (F.take j).flatMap (putFld e.row)).map rowB))), (3, .v (.c (.ptr 0 0)))], [.box (e.row.map .d), .tok F.length 2 (some (frows 0 F))]⟩) (fun j => F.length - j) 0 (Wk.sub' (by simp [subT, look]) rfl) (Nat.zero_le _) ?_
      intro j hj
      by_cases hjl : j < F.length
      · have hlt : ((j : Int) < (F.length : Int)) = True := eq_true (by omega)
        have hw := wI (n := (j : Int) + 1) (by omega) (by omega)
        have hp : F[j]? = some F[j] := List.getElem?_eq_getElem hjl
        have hpm := List.getElem_mem hjl
        have htk : F.take (j + 1) = F.take j ++ [F[j]] := List.take_succ_eq_append_getElem hjl
        generalize F[j] = p at *
        have hcell := hrd p hpm
        have hfit := hft p hpm
        have d30 : ((frows 0 F).drop (j * 2)).take 2 = frow 0 p := fm_at (frow_len 0) hp
        have hle : (j * 2 + 2 ≤ (frows 0 F).length) = True := eq_true (fm_le (frow_len 0) hp)
        have hBl : (X ++ (F.take j).flatMap (putFld e.row)).length ≤ 200000 := by
          have := hpl j
          rw [List.length_take] at this
          rw [List.length_append]
          omega
        have hnx : X ++ (F.take (j + 1)).flatMap (putFld e.row) = (X ++ (F.take j).flatMap (putFld e.row)) ++ putFld e.row p := by
          rw [htk, List.flatMap_append, List.append_assoc]
          simp
        generalize X ++ (F.take j).flatMap (putFld e.row) = B at *
        obtain ⟨t, o⟩ := p
        cases t with
        | true =>
          have h32 := fit_text hfit
          have hpc : putFld e.row (true, o) = encT (rTx e.row o) := if_pos rfl
          have e1 := cptext_at (f := false) (bs := B) (s := rTx e.row o) ⟨by omega, by omega⟩
          rw [hpc] at hnx
          simp only [frow, if_pos, ↓reduceIte] at d30 hcell
          generalize rTx e.row o = s at *
          have hc := Nat.zero_add 0
          repeat' (first | simp only [hc, AS, NX, NPV, SX, NW, hlt, nn, hw, d30, hle, hcell, e1, Int.toNat_natCast, AB, PL, RG, LP, TY, simprocAttr, ↓reduceIte, forall_const, eq_self, ne_eq, Option.some.injEq, beq_self_eq_true] | ((first | apply fin_ndec | apply fin_dec | apply cnd_ndec | apply cnd_dec' | apply fin_nsplit | apply fin_split | apply cnd_nsplit | apply cnd_split) <;> intro hc) | refine seqS_id ?_ | refine blk_exit_id ?_)
          refine lp_next (j + 1) ?_ (by omega) (by omega)
          rw [hnx]
          exact Wk.cutk (k := 2) (by decide) (by simp) (by simp) (by simp [subT, look]) (by simp [AV.low, V.low, C1.low]) (by simp only [List.all_cons, List.all_nil, Ob.low, lowD, frows_low (F := F) (show (0 : Nat) < 2 by decide), Bool.and_true])
        | false =>
          have h32 := fit_num hfit
          have hpc : putFld e.row (false, o) = encI (rNm e.row o) := if_neg (by simp)
          have e1 := cpint_at (f := false) (bs := B) (n := rNm e.row o) ⟨by omega, by omega, by omega⟩
          rw [hpc] at hnx
          simp only [frow, Bool.false_eq_true, if_false, ↓reduceIte] at d30 hcell
          generalize rNm e.row o = s at *
          have hc := Nat.zero_add 0
          repeat' (first | simp only [hc, AS, NX, NPV, SX, NW, hlt, nn, hw, d30, hle, hcell, e1, Int.toNat_natCast, AB, PL, RG, LP, TY, simprocAttr, ↓reduceIte, forall_const, eq_self, ne_eq, Option.some.injEq, beq_self_eq_true] | ((first | apply fin_ndec | apply fin_dec | apply cnd_ndec | apply cnd_dec' | apply fin_nsplit | apply fin_split | apply cnd_nsplit | apply cnd_split) <;> intro hc) | refine seqS_id ?_ | refine blk_exit_id ?_)
          refine lp_next (j + 1) ?_ (by omega) (by omega)
          rw [hnx]
          exact Wk.cutk (k := 2) (by decide) (by simp) (by simp) (by simp [subT, look]) (by simp [AV.low, V.low, C1.low]) (by simp only [List.all_cons, List.all_nil, Ob.low, lowD, frows_low (F := F) (show (0 : Nat) < 2 by decide), Bool.and_true])
      · have hlt : ((j : Int) < (F.length : Int)) = False := eq_false (by omega)
        rw [List.take_of_length_le (by omega)]
        have hc := Nat.zero_add 0
        repeat' (first | simp only [hc, AS, NX, NPV, SX, NW, hlt, AB, PL, RG, LP, TY, simprocAttr, ↓reduceIte, forall_const, eq_self, ne_eq, Option.some.injEq, beq_self_eq_true] | ((first | apply fin_ndec | apply fin_dec | apply cnd_ndec | apply cnd_dec' | apply fin_nsplit | apply fin_split | apply cnd_nsplit | apply cnd_split) <;> intro hc) | refine seqS_id ?_ | refine blk_exit_id ?_)
        exact ⟨_, Wk.refl, by rw [← h]; rfl⟩
    · have hP : putE bs e = [.c (.sl true []), .i 1] := if_neg hr
      rw [Bool.not_eq_true] at hr
      rw [hr] at g1
      rw [hP] at h
      simp only [Evt.row] at g1
      have hc := Nat.zero_add 0
      repeat' (first | simp only [hc, AS, Tryd.f20, encBE, Evt.row, List.map_cons, List.map_nil, NX, NPV, SX, NW, g1, AB, PL, RG, LP, TY, simprocAttr, ↓reduceIte, forall_const, eq_self, ne_eq, Option.some.injEq, beq_self_eq_true] | ((first | apply fin_ndec | apply fin_dec | apply cnd_ndec | apply cnd_dec' | apply fin_nsplit | apply fin_split | apply cnd_nsplit | apply cnd_split) <;> intro hc) | refine seqS_id ?_ | refine blk_exit_id ?_)
      exact ⟨_, Wk.refl, by rw [← h]; rfl⟩
  · cases h
theorem eput_at {f : Bool} {bs : List UInt8} {e : Evt} (h : bs.length ≤ 100000) : eput_m [.c (.sl f (bs.map rowB)), .agg e.row] = some (putE bs e) := by
  have := mE_eq encBE_inj (g := fun p => if p.1.2.length ≤ 100000 then some (putE p.1.2 p.2) else none) (a := ((f, bs), e))
  exact this.trans (if_pos h)

set_option maxHeartbeats 2000000 in
theorem r6put_ok : PureC Tryd.prog Gt 21 r6put_m := by
  refine pure_of_awpS (X := ctxN Tryd.prog Gt [(13, r6right_m), (42, r2pint_m), (43, r2ptext_m)] [] [] none (uL []) (uL [4])) Tryd.func21 rfl rfl (by kernel_rfl) (by kernel_rfl) (kok_n (AllOk.cons r6right_ok (AllOk.cons r2pint_ok (AllOk.cons r2ptext_ok AllOk.nil))) AllK.nil AllN.nil) ?_
  intro args r h0
  obtain ⟨⟨⟨f, bs⟩, e⟩, rfl, h⟩ := mE_inv h0
  refine ⟨Nat.le_of_ble_eq_true rfl, ?_⟩
  split at h
  · rename_i hb
    simp only [Option.some.injEq] at h
    dsimp only at hb h
    have g1 := @r6right_at e
    by_cases hr : rightE e = true
    · rw [hr] at g1
      have hP : putE bs e = [.c (.sl false ((bs ++ encV e).map rowB)), .i 0] := if_pos hr
      rw [hP] at h
      have hk := right_kind hr
      have hkn : -9223372036854775808 ≤ e.kind ∧ e.kind ≤ 9223372036854775807 := by rcases kind_cases hk with h | h | h | h | h <;> omega
      have g2 := r2pint_at (f := f) (bs := bs) (n := e.kind) ⟨by omega, hkn⟩
      obtain ⟨⟨s1, s2, s3, s4, s5, s6⟩, n1, n2, n3, n4, n5, n6, n7, n8, n9⟩ := cap_all (right_cap hr)
      have pt : ∀ (B s : List UInt8), B.length ≤ 200000 → s.length ≤ 32 → r2ptext_m [.c (.sl false (B.map rowB)), .c (.str s)] = some [.c (.sl false ((B ++ encT s).map rowB))] := fun B s h1 h2 => r2ptext_at ⟨by omega, by omega⟩
      have pi : ∀ (B : List UInt8) (n : Int), B.length ≤ 200000 → -1125899906842624 ≤ n ∧ n ≤ 1125899906842624 → r2pint_m [.c (.sl false (B.map rowB)), .c (.int .i64 n)] = some [.c (.sl false ((B ++ encI n).map rowB))] := fun B n h1 h2 => r2pint_at ⟨by omega, by omega, by omega⟩
      have lt : ∀ (B s : List UInt8) (m : Nat), B.length ≤ m → s.length ≤ 32 → (B ++ encT s).length ≤ m + 50 := fun B s m h1 h2 => by
        have := encI_len (n := (s.length : Int)) (by omega) (by omega)
        unfold encT
        rw [List.length_append, List.length_append]
        omega
      have li : ∀ (B : List UInt8) (n : Int) (m : Nat), B.length ≤ m → -1125899906842624 ≤ n ∧ n ≤ 1125899906842624 → (B ++ encI n).length ≤ m + 50 := fun B n m h1 h2 => by
        have := encI_len (n := n) (by omega) (by omega)
        rw [List.length_append]
        omega
      have l0 : (bs ++ encI e.kind).length ≤ 100050 := by have := encI_len hkn.1 hkn.2; rw [List.length_append]; omega
      simp only [Evt.row] at g1
      have hc := Nat.zero_add 0
      repeat' (first | simp only [hc, AS, Tryd.f21, encBE, Evt.row, List.map_cons, List.map_nil, NX, SX, g1, g2, AB, PL, RG, LP, TY, simprocAttr, ↓reduceIte, forall_const, eq_self, ne_eq, Option.some.injEq, beq_self_eq_true] | ((first | apply fin_ndec | apply fin_dec | apply cnd_ndec | apply cnd_dec' | apply fin_nsplit | apply fin_split | apply cnd_nsplit | apply cnd_split) <;> intro hc) | refine seqS_id ?_ | refine blk_exit_id ?_)
      refine awp_fork treeDP ⟨[(8, .v (.c (.ptr 2 0))), (7, .v (.c (.ptr 1 0))), (6, AV.d (.sl false ((bs ++ encI e.kind).map rowB))), (3, .v (.c (.ptr 0 0)))], [.box (e.row.map .d), .box [.d (.str e.dev), .d (.int .i64 e.seq), .d (.int .i64 e.time), .d (.str e.tag), .d (.str e.plt), .d (.int .i64 e.axl), .d (.int .i64 e.score)], .box [.d (.int .i64 e.pk), .d (.str e.pz), .d (.str e.pp), .d (.int .i64 e.pt), .d (.int .i64 e.pu)]]⟩
        ⟨[(8, .v (.c (.ptr 1 0))), (7, .v (.c (.ptr 2 0))), (6, AV.d (.sl false ((bs ++ encI e.kind).map rowB))), (3, .v (.c (.ptr 0 0)))], [.box (e.row.map .d), .box [.d (.int .i64 e.pk), .d (.str e.pz), .d (.str e.pp), .d (.int .i64 e.pt), .d (.int .i64 e.pu)], .box [.d (.str e.dev), .d (.int .i64 e.seq), .d (.int .i64 e.time), .d (.str e.tag), .d (.str e.plt), .d (.int .i64 e.axl), .d (.int .i64 e.score)]]⟩ rfl (by kernel_rfl) ?_ ?_ ?_
      · skip
        have hc := Nat.zero_add 0
        repeat' (first | simp only [hc, AS, treeDP, TRE, NX, SX, AB, PL, RG, LP, TY, simprocAttr, ↓reduceIte, forall_const, eq_self, ne_eq, Option.some.injEq, beq_self_eq_true] | ((first | apply fin_ndec | apply fin_dec | apply cnd_ndec | apply cnd_dec' | apply fin_nsplit | apply fin_split | apply cnd_nsplit | apply cnd_split) <;> intro hc) | refine seqS_id ?_ | refine blk_exit_id ?_)
        repeat' apply And.intro
        all_goals first
          | exact Or.inl (Wk.sub' (by simp [subT, look]) rfl)
          | exact Or.inr (Wk.sub' (by simp [subT, look]) rfl)
      all_goals
        (obtain ⟨k, a, b, c, d, g, i, j, l, m, n, o, q, r, t, u⟩ := e
         dsimp only at *
         rcases kind_cases hk with k1 | k1 | k1 | k1 | k1 <;> subst k1)
      · have e0 := l0
        have f0 := pt (bs ++ encI 1) a (by omega) s1
        have m0 := lt (bs ++ encI 1) a 100050 l0 s1
        have f1 := pi ((bs ++ encI 1) ++ encT a) b (by omega) (by omega)
        have m1 := li ((bs ++ encI 1) ++ encT a) b 100100 m0 (by omega)
        have f2 := pi (((bs ++ encI 1) ++ encT a) ++ encI b) c (by omega) (by omega)
        have m2 := li (((bs ++ encI 1) ++ encT a) ++ encI b) c 100150 m1 (by omega)
        have f3 := pt ((((bs ++ encI 1) ++ encT a) ++ encI b) ++ encI c) d (by omega) s2
        have m3 := lt ((((bs ++ encI 1) ++ encT a) ++ encI b) ++ encI c) d 100200 m2 s2
        have f4 := pt (((((bs ++ encI 1) ++ encT a) ++ encI b) ++ encI c) ++ encT d) g (by omega) s3
        have m4 := lt (((((bs ++ encI 1) ++ encT a) ++ encI b) ++ encI c) ++ encT d) g 100250 m3 s3
        have f5 := pi ((((((bs ++ encI 1) ++ encT a) ++ encI b) ++ encI c) ++ encT d) ++ encT g) i (by omega) (by omega)
        have m5 := li ((((((bs ++ encI 1) ++ encT a) ++ encI b) ++ encI c) ++ encT d) ++ encT g) i 100300 m4 (by omega)
        have f6 := pi (((((((bs ++ encI 1) ++ encT a) ++ encI b) ++ encI c) ++ encT d) ++ encT g) ++ encI i) j (by omega) (by omega)
        have m6 := li (((((((bs ++ encI 1) ++ encT a) ++ encI b) ++ encI c) ++ encT d) ++ encT g) ++ encI i) j 100350 m5 (by omega)
        have hc := Nat.zero_add 0
        repeat' (first | simp only [hc, AS, Evt.row, List.map_cons, List.map_nil, NX, SX, f0, f1, f2, f3, f4, f5, f6, AB, PL, RG, LP, TY, simprocAttr, ↓reduceIte, forall_const, eq_self, ne_eq, Option.some.injEq, beq_self_eq_true] | ((first | apply fin_ndec | apply fin_dec | apply cnd_ndec | apply cnd_dec' | apply fin_nsplit | apply fin_split | apply cnd_nsplit | apply cnd_split) <;> intro hc) | refine seqS_id ?_ | refine blk_exit_id ?_)
        rw [← h]
        simp [encV, fldK, putFld, rTx, rNm, Evt.row]
      · have e0 := l0
        have f0 := pi (bs ++ encI 2) l (by omega) (by omega)
        have m0 := li (bs ++ encI 2) l 100050 l0 (by omega)
        have f1 := pt ((bs ++ encI 2) ++ encI l) m (by omega) s4
        have m1 := lt ((bs ++ encI 2) ++ encI l) m 100100 m0 s4
        have f2 := pt (((bs ++ encI 2) ++ encI l) ++ encT m) n (by omega) s5
        have m2 := lt (((bs ++ encI 2) ++ encI l) ++ encT m) n 100150 m1 s5
        have f3 := pi ((((bs ++ encI 2) ++ encI l) ++ encT m) ++ encT n) o (by omega) (by omega)
        have m3 := li ((((bs ++ encI 2) ++ encI l) ++ encT m) ++ encT n) o 100200 m2 (by omega)
        have f4 := pi (((((bs ++ encI 2) ++ encI l) ++ encT m) ++ encT n) ++ encI o) q (by omega) (by omega)
        have m4 := li (((((bs ++ encI 2) ++ encI l) ++ encT m) ++ encT n) ++ encI o) q 100250 m3 (by omega)
        have hc := Nat.zero_add 0
        repeat' (first | simp only [hc, AS, Evt.row, List.map_cons, List.map_nil, NX, SX, f0, f1, f2, f3, f4, AB, PL, RG, LP, TY, simprocAttr, ↓reduceIte, forall_const, eq_self, ne_eq, Option.some.injEq, beq_self_eq_true] | ((first | apply fin_ndec | apply fin_dec | apply cnd_ndec | apply cnd_dec' | apply fin_nsplit | apply fin_split | apply cnd_nsplit | apply cnd_split) <;> intro hc) | refine seqS_id ?_ | refine blk_exit_id ?_)
        rw [← h]
        simp [encV, fldK, putFld, rTx, rNm, Evt.row]
      · have e0 := l0
        have f0 := pi (bs ++ encI 3) r (by omega) (by omega)
        have m0 := li (bs ++ encI 3) r 100050 l0 (by omega)
        have hc := Nat.zero_add 0
        repeat' (first | simp only [hc, AS, Evt.row, List.map_cons, List.map_nil, NX, SX, f0, AB, PL, RG, LP, TY, simprocAttr, ↓reduceIte, forall_const, eq_self, ne_eq, Option.some.injEq, beq_self_eq_true] | ((first | apply fin_ndec | apply fin_dec | apply cnd_ndec | apply cnd_dec' | apply fin_nsplit | apply fin_split | apply cnd_nsplit | apply cnd_split) <;> intro hc) | refine seqS_id ?_ | refine blk_exit_id ?_)
        rw [← h]
        simp [encV, fldK, putFld, rTx, rNm, Evt.row]
      · have e0 := l0
        have f0 := pt (bs ++ encI 4) t (by omega) s6
        have m0 := lt (bs ++ encI 4) t 100050 l0 s6
        have f1 := pi ((bs ++ encI 4) ++ encT t) u (by omega) (by omega)
        have m1 := li ((bs ++ encI 4) ++ encT t) u 100100 m0 (by omega)
        have hc := Nat.zero_add 0
        repeat' (first | simp only [hc, AS, Evt.row, List.map_cons, List.map_nil, NX, SX, f0, f1, AB, PL, RG, LP, TY, simprocAttr, ↓reduceIte, forall_const, eq_self, ne_eq, Option.some.injEq, beq_self_eq_true] | ((first | apply fin_ndec | apply fin_dec | apply cnd_ndec | apply cnd_dec' | apply fin_nsplit | apply fin_split | apply cnd_nsplit | apply cnd_split) <;> intro hc) | refine seqS_id ?_ | refine blk_exit_id ?_)
        rw [← h]
        simp [encV, fldK, putFld, rTx, rNm, Evt.row]
      · have e0 := l0
        have f0 := pi (bs ++ encI 5) r (by omega) (by omega)
        have m0 := li (bs ++ encI 5) r 100050 l0 (by omega)
        have hc := Nat.zero_add 0
        repeat' (first | simp only [hc, AS, Evt.row, List.map_cons, List.map_nil, NX, SX, f0, AB, PL, RG, LP, TY, simprocAttr, ↓reduceIte, forall_const, eq_self, ne_eq, Option.some.injEq, beq_self_eq_true] | ((first | apply fin_ndec | apply fin_dec | apply cnd_ndec | apply cnd_dec' | apply fin_nsplit | apply fin_split | apply cnd_nsplit | apply cnd_split) <;> intro hc) | refine seqS_id ?_ | refine blk_exit_id ?_)
        rw [← h]
        simp [encV, fldK, putFld, rTx, rNm, Evt.row]
      · have e0 := l0
        have f0 := pt (bs ++ encI 1) a (by omega) s1
        have m0 := lt (bs ++ encI 1) a 100050 l0 s1
        have f1 := pi ((bs ++ encI 1) ++ encT a) b (by omega) (by omega)
        have m1 := li ((bs ++ encI 1) ++ encT a) b 100100 m0 (by omega)
        have f2 := pi (((bs ++ encI 1) ++ encT a) ++ encI b) c (by omega) (by omega)
        have m2 := li (((bs ++ encI 1) ++ encT a) ++ encI b) c 100150 m1 (by omega)
        have f3 := pt ((((bs ++ encI 1) ++ encT a) ++ encI b) ++ encI c) d (by omega) s2
        have m3 := lt ((((bs ++ encI 1) ++ encT a) ++ encI b) ++ encI c) d 100200 m2 s2
        have f4 := pt (((((bs ++ encI 1) ++ encT a) ++ encI b) ++ encI c) ++ encT d) g (by omega) s3
        have m4 := lt (((((bs ++ encI 1) ++ encT a) ++ encI b) ++ encI c) ++ encT d) g 100250 m3 s3
        have f5 := pi ((((((bs ++ encI 1) ++ encT a) ++ encI b) ++ encI c) ++ encT d) ++ encT g) i (by omega) (by omega)
        have m5 := li ((((((bs ++ encI 1) ++ encT a) ++ encI b) ++ encI c) ++ encT d) ++ encT g) i 100300 m4 (by omega)
        have f6 := pi (((((((bs ++ encI 1) ++ encT a) ++ encI b) ++ encI c) ++ encT d) ++ encT g) ++ encI i) j (by omega) (by omega)
        have m6 := li (((((((bs ++ encI 1) ++ encT a) ++ encI b) ++ encI c) ++ encT d) ++ encT g) ++ encI i) j 100350 m5 (by omega)
        have hc := Nat.zero_add 0
        repeat' (first | simp only [hc, AS, Evt.row, List.map_cons, List.map_nil, NX, SX, f0, f1, f2, f3, f4, f5, f6, AB, PL, RG, LP, TY, simprocAttr, ↓reduceIte, forall_const, eq_self, ne_eq, Option.some.injEq, beq_self_eq_true] | ((first | apply fin_ndec | apply fin_dec | apply cnd_ndec | apply cnd_dec' | apply fin_nsplit | apply fin_split | apply cnd_nsplit | apply cnd_split) <;> intro hc) | refine seqS_id ?_ | refine blk_exit_id ?_)
        rw [← h]
        simp [encV, fldK, putFld, rTx, rNm, Evt.row]
      · have e0 := l0
        have f0 := pi (bs ++ encI 2) l (by omega) (by omega)
        have m0 := li (bs ++ encI 2) l 100050 l0 (by omega)
        have f1 := pt ((bs ++ encI 2) ++ encI l) m (by omega) s4
        have m1 := lt ((bs ++ encI 2) ++ encI l) m 100100 m0 s4
        have f2 := pt (((bs ++ encI 2) ++ encI l) ++ encT m) n (by omega) s5
        have m2 := lt (((bs ++ encI 2) ++ encI l) ++ encT m) n 100150 m1 s5
        have f3 := pi ((((bs ++ encI 2) ++ encI l) ++ encT m) ++ encT n) o (by omega) (by omega)
        have m3 := li ((((bs ++ encI 2) ++ encI l) ++ encT m) ++ encT n) o 100200 m2 (by omega)
        have f4 := pi (((((bs ++ encI 2) ++ encI l) ++ encT m) ++ encT n) ++ encI o) q (by omega) (by omega)
        have m4 := li (((((bs ++ encI 2) ++ encI l) ++ encT m) ++ encT n) ++ encI o) q 100250 m3 (by omega)
        have hc := Nat.zero_add 0
        repeat' (first | simp only [hc, AS, Evt.row, List.map_cons, List.map_nil, NX, SX, f0, f1, f2, f3, f4, AB, PL, RG, LP, TY, simprocAttr, ↓reduceIte, forall_const, eq_self, ne_eq, Option.some.injEq, beq_self_eq_true] | ((first | apply fin_ndec | apply fin_dec | apply cnd_ndec | apply cnd_dec' | apply fin_nsplit | apply fin_split | apply cnd_nsplit | apply cnd_split) <;> intro hc) | refine seqS_id ?_ | refine blk_exit_id ?_)
        rw [← h]
        simp [encV, fldK, putFld, rTx, rNm, Evt.row]
      · have e0 := l0
        have f0 := pi (bs ++ encI 3) r (by omega) (by omega)
        have m0 := li (bs ++ encI 3) r 100050 l0 (by omega)
        have hc := Nat.zero_add 0
        repeat' (first | simp only [hc, AS, Evt.row, List.map_cons, List.map_nil, NX, SX, f0, AB, PL, RG, LP, TY, simprocAttr, ↓reduceIte, forall_const, eq_self, ne_eq, Option.some.injEq, beq_self_eq_true] | ((first | apply fin_ndec | apply fin_dec | apply cnd_ndec | apply cnd_dec' | apply fin_nsplit | apply fin_split | apply cnd_nsplit | apply cnd_split) <;> intro hc) | refine seqS_id ?_ | refine blk_exit_id ?_)
        rw [← h]
        simp [encV, fldK, putFld, rTx, rNm, Evt.row]
      · have e0 := l0
        have f0 := pt (bs ++ encI 4) t (by omega) s6
        have m0 := lt (bs ++ encI 4) t 100050 l0 s6
        have f1 := pi ((bs ++ encI 4) ++ encT t) u (by omega) (by omega)
        have m1 := li ((bs ++ encI 4) ++ encT t) u 100100 m0 (by omega)
        have hc := Nat.zero_add 0
        repeat' (first | simp only [hc, AS, Evt.row, List.map_cons, List.map_nil, NX, SX, f0, f1, AB, PL, RG, LP, TY, simprocAttr, ↓reduceIte, forall_const, eq_self, ne_eq, Option.some.injEq, beq_self_eq_true] | ((first | apply fin_ndec | apply fin_dec | apply cnd_ndec | apply cnd_dec' | apply fin_nsplit | apply fin_split | apply cnd_nsplit | apply cnd_split) <;> intro hc) | refine seqS_id ?_ | refine blk_exit_id ?_)
        rw [← h]
        simp [encV, fldK, putFld, rTx, rNm, Evt.row]
      · have e0 := l0
        have f0 := pi (bs ++ encI 5) r (by omega) (by omega)
        have m0 := li (bs ++ encI 5) r 100050 l0 (by omega)
        have hc := Nat.zero_add 0
        repeat' (first | simp only [hc, AS, Evt.row, List.map_cons, List.map_nil, NX, SX, f0, AB, PL, RG, LP, TY, simprocAttr, ↓reduceIte, forall_const, eq_self, ne_eq, Option.some.injEq, beq_self_eq_true] | ((first | apply fin_ndec | apply fin_dec | apply cnd_ndec | apply cnd_dec' | apply fin_nsplit | apply fin_split | apply cnd_nsplit | apply cnd_split) <;> intro hc) | refine seqS_id ?_ | refine blk_exit_id ?_)
        rw [← h]
        simp [encV, fldK, putFld, rTx, rNm, Evt.row]
    · have hP : putE bs e = [.c (.sl true []), .i 1] := if_neg hr
      rw [Bool.not_eq_true] at hr
      rw [hr] at g1
      rw [hP] at h
      simp only [Evt.row] at g1
      have hc := Nat.zero_add 0
      repeat' (first | simp only [hc, AS, Tryd.f21, encBE, Evt.row, List.map_cons, List.map_nil, NX, SX, g1, AB, PL, RG, LP, TY, simprocAttr, ↓reduceIte, forall_const, eq_self, ne_eq, Option.some.injEq, beq_self_eq_true] | ((first | apply fin_ndec | apply fin_dec | apply cnd_ndec | apply cnd_dec' | apply fin_nsplit | apply fin_split | apply cnd_nsplit | apply cnd_split) <;> intro hc) | refine seqS_id ?_ | refine blk_exit_id ?_)
      all_goals (rw [← h]; all_goals rfl)
  · cases h
theorem r6put_at {f : Bool} {bs : List UInt8} {e : Evt} (h : bs.length ≤ 100000) : r6put_m [.c (.sl f (bs.map rowB)), .agg e.row] = some (putE bs e) := by
  have := mE_eq encBE_inj (g := fun p => if p.1.2.length ≤ 100000 then some (putE p.1.2 p.2) else none) (a := ((f, bs), e))
  exact this.trans (if_pos h)

end
end Go.Ab
