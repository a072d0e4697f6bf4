/-
  Texts of the layer and of the laws, put together: AbF7, AbF8. No law is stated here.
-/
import Derived.Test.YteeepgnhkfmnaaaDoorAbVol29
set_option linter.unusedSimpArgs false
set_option linter.unusedVariables false
set_option maxRecDepth 100000

/-
  event.Print, event.Key.
-/
namespace Go.Ab
open Go.RowKit Go.Proofs

theorem decLen : ∀ (k u : Nat), u < 10 ^ k → 0 < k → (Lib.decDigits u).length ≤ k
  | 0, u, _, h => by omega
  | k + 1, u, hu, _ => by
    by_cases hs : u < 10
    · rw [dec_small hs]; simp
    · rw [dec_big hs, List.length_append, List.length_singleton]
      have hk : 0 < k := by
        rcases Nat.eq_zero_or_pos k with rfl | h
        · simp at hu; omega
        · exact h
      have := decLen k (u / 10) (by rw [Nat.pow_succ] at hu; omega) hk
      omega
theorem itoaLen {n : Int} (h1 : -9223372036854775808 ≤ n) (h2 : n ≤ 9223372036854775807) : (Lib.itoa n).length ≤ 21 := by
  have e : (10 : Nat) ^ 20 = 100000000000000000000 := by decide
  rw [itoa_spec]
  split
  · have := decLen 20 n.natAbs (by omega) (by omega)
    simp only [List.length_cons]; omega
  · have := decLen 20 n.toNat (by omega) (by omega)
    omega
theorem escLen (s : List UInt8) : (escF s).length ≤ 3 * s.length + 1 := by
  have hf : ∀ s : List UInt8, (s.flatMap esc1).length ≤ 3 * s.length := fun s => by
    induction s with
    | nil => simp
    | cons c s ih =>
      have h1 : (esc1 c).length ≤ 3 := by unfold esc1; split <;> simp
      simp only [List.flatMap_cons, List.length_append, List.length_cons]
      omega
  have := hf s
  unfold escF
  split
  · rename_i h; subst h; simp
  · omega

def sp1 (s : List UInt8) : List UInt8 := 32 :: s
theorem jtail_flat : ∀ l : List (List UInt8), Lib.joinTail [32] l = l.flatMap sp1
  | [] => rfl
  | p :: l => by
    have ih := jtail_flat l
    unfold Lib.joinTail at ih ⊢
    rw [List.map_cons, List.flatten_cons, ih, List.flatMap_cons]
    rfl
theorem lineE_flat (e : Evt) : lineE e = wrdK e.kind ++ ((fldK e.kind).map (pieceF e.row)).flatMap sp1 := by
  unfold lineE wordsE
  rw [Lib.join_cons, jtail_flat]
theorem wrd_len (k : Int) : (wrdK k).length ≤ 6 := by
  unfold wrdK
  repeat' split
  all_goals decide
/-- A right event's fields. -/
theorem right_fit {e : Evt} (h : rightE e = true) {p : Fld} (hp : p ∈ fldK e.kind) : fitF e.kind e.row p = true := by
  unfold rightE at h
  rw [Bool.and_eq_true, Bool.and_eq_true, List.all_eq_true] at h
  exact h.1.2 p hp
theorem fit_text {k : Int} {r : List D} {o : Nat} (h : fitF k r (true, o) = true) : (rTx r o).length ≤ 32 := by
  unfold fitF at h
  rw [if_pos rfl] at h
  exact of_decide_eq_true h
theorem fit_num {k : Int} {r : List D} {o : Nat} (h : fitF k r (false, o) = true) : -1125899906842624 ≤ rNm r o ∧ rNm r o ≤ 1125899906842624 := by
  unfold fitF at h
  rw [if_neg (by simp)] at h
  simp only [Bool.or_eq_true, Bool.and_eq_true, decide_eq_true_eq, mTime, mMon] at h
  omega
theorem piece_len {e : Evt} (h : rightE e = true) {p : Fld} (hp : p ∈ fldK e.kind) : (pieceF e.row p).length ≤ 100 := by
  have hf := right_fit h hp
  obtain ⟨t, o⟩ := p
  unfold pieceF
  cases t with
  | true =>
    have := fit_text hf
    have := escLen (rTx e.row o)
    rw [if_pos rfl]
    dsimp only
    omega
  | false =>
    have := fit_num hf
    have := itoaLen (n := rNm e.row o) (by omega) (by omega)
    rw [if_neg (by simp)]
    dsimp only
    omega
theorem flat_sp_len {l : List (List UInt8)} (h : ∀ p ∈ l, p.length ≤ 100) : (l.flatMap sp1).length ≤ 101 * l.length := by
  induction l with
  | nil => simp
  | cons p l ih =>
    have h1 := h p List.mem_cons_self
    have h2 := ih fun q hq => h q (List.mem_cons_of_mem _ hq)
    simp only [List.flatMap_cons, List.length_append, List.length_cons, sp1]
    omega
theorem words_len {e : Evt} (h : rightE e = true) (j : Nat) : (wrdK e.kind ++ (((fldK e.kind).take j).map (pieceF e.row)).flatMap sp1).length ≤ 1000 := by
  have h1 := wrd_len e.kind
  have h2 := flat_sp_len (l := ((fldK e.kind).take j).map (pieceF e.row)) fun p hp => by
    obtain ⟨q, hq, rfl⟩ := List.mem_map.1 hp
    exact piece_len h (List.mem_of_mem_take hq)
  have h3 := fld_len e.kind
  rw [List.length_map, List.length_take] at h2
  rw [List.length_append]
  omega
theorem line_len {e : Evt} (h : rightE e = true) : (lineE e).length ≤ 1000 := by
  have := words_len h (fldK e.kind).length
  rw [List.take_length] at this
  rw [lineE_flat]
  exact this

noncomputable section
open Classical

theorem eright_at {e : Evt} : eright_m [.agg e.row] = some [.b (rightE e)] := mE_eq encE_inj (g := fun e => some [DV.b (rightE e)]) (a := e)
theorem tesc_at {s : List UInt8} (h : s.length ≤ 100000) : tesc_m [.c (.str s)] = some [.c (.str (escF s))] := by rw [tesc_m, ms_eq, if_pos (decide_eq_true (by omega))]
theorem resc_at {s : List UInt8} (h : s.length ≤ 100000) : resc_m [.c (.str s)] = some [.c (.str (escF s))] := by rw [resc_m, ms_eq, if_pos (decide_eq_true (by omega))]
theorem tfmt_at {n : Int} (h : -9223372036854775808 ≤ n ∧ n ≤ 9223372036854775807) : tfmt_m [.c (.int .i64 n)] = some [.c (.str (Lib.itoa n))] := by rw [tfmt_m, m1_eq]; exact if_pos (decide_eq_true h)
theorem rfmt_at {n : Int} (h : -9223372036854775808 ≤ n ∧ n ≤ 9223372036854775807) : rfmt_m [.c (.int .i64 n)] = some [.c (.str (Lib.itoa n))] := by rw [rfmt_m, m1_eq]; exact if_pos (decide_eq_true h)

def eprint_m : List PA → Option (List PA) := mE encE fun e => some [.s (printE e).1, .i (printE e).2]
def ekey_m : List PA → Option (List PA) := mE encE fun e => some [.s (keyE e)]

theorem eprint_ok : PureC Tryd.prog Gt 10 eprint_m := by
  refine pure_of_awpSW (X := ctxN Tryd.prog Gt [(12, eright_m), (26, tesc_m), (27, tfmt_m)] [(25, efields_k)] [] none (uL [63])) Tryd.func10 rfl rfl (by kernel_rfl) (by kernel_rfl) (kok_n (AllOk.cons eright_ok (AllOk.cons tesc_ok (AllOk.cons tfmt_ok AllOk.nil))) (AllK.cons efields_kok AllK.nil) AllN.nil) ?_
  intro args r h0
  obtain ⟨e, rfl, h⟩ := mE_inv h0
  refine ⟨Nat.le_of_ble_eq_true rfl, ?_⟩
  simp only [Option.some.injEq] at h
  have g1 := @eright_at e
  have lowD : ∀ (l : List D) (m : Nat), ((l.map C1.d).all (C1.low m)) = true := fun l m => all_low_d m l
  by_cases hr : rightE e = true
  · rw [hr] at g1
    have hP : printE e = (lineE e, 0) := if_pos hr
    rw [hP] at h
    have hk := right_kind hr
    have f1 := efields_at (id := 0) (k := e.kind) (cs := (e.row.tail).map .d) (h := [.box (e.row.map .d)]) rfl rfl (by unfold LowH; simp only [List.all_cons, List.all_nil, Ob.low, lowD, Bool.and_true]) rfl hk
    have hty := typed_row e e.kind
    have hfl := fld_len e.kind
    have hrd : ∀ p ∈ fldK e.kind, (e.row.map C1.d)[p.2]? = some (.d (if p.1 = true then .str (rTx e.row p.2) else .int .i64 (rNm e.row p.2))) := fun p hp => by rw [List.getElem?_map, hty p hp]; rfl
    have hft := fun (p : Fld) (hp : p ∈ fldK e.kind) => right_fit hr hp
    have hpl := fun (p : Fld) (hp : p ∈ fldK e.kind) => piece_len hr hp
    have hwl := words_len hr
    rw [lineE_flat] at h
    generalize hF : fldK e.kind = F at *
    generalize wrdK e.kind = wd at *
    have hERow : e.row = evRow e.kind e.dev e.seq e.time e.tag e.plt e.axl e.score e.pk e.pz e.pp e.pt e.pu e.day e.name e.cents := rfl
    simp only [Evt.row, List.map_cons, List.map_nil, List.length_cons, List.length_nil, List.cons_append, List.nil_append, Nat.reduceAdd, Nat.zero_add] at f1 g1
    have hc := Nat.zero_add 0
    repeat' (first | simp only [hc, AS, Tryd.f10, encE, Evt.row, List.map_cons, List.map_nil, NX, NPV, SX, NW, f1, g1, AB, PL, RG, LP, TY, simprocAttr, ↓reduceIte, forall_const, eq_self, ne_eq, Option.some.injEq, beq_self_eq_true] | ((first | apply fin_ndec | apply fin_dec | apply cnd_ndec | apply cnd_dec' | apply fin_nsplit | apply fin_split | apply cnd_nsplit | apply cnd_split) <;> intro hc) | refine seqS_id ?_ | refine blk_exit_id ?_)
    refine awpS_loop (σ := Nat) (fun j => j ≤ F.length) (fun j => ⟨[(17, AV.i j), (16, AV.i F.length), (15, .v (.c (.msl 1 F.length))), (4, AV.s (wd ++ ((F.take j).map (pieceF e.row)).flatMap sp1)), (1, .v (.c (.ptr 0 0)))], [.box (e.row.map .d), .tok F.length 2 (some (frows 0 F))]⟩) (fun j => F.length - j) 0 (Wk.sub' (by simp [subT, look]) rfl) (Nat.zero_le _) ?_
    intro j hj
    by_cases hjl : j < F.length
    · have hlt : ((j : Int) < (F.length : Int)) = True := eq_true (by omega)
      have hw := wI (n := (j : Int) + 1) (by omega) (by omega)
      have hp : F[j]? = some F[j] := List.getElem?_eq_getElem hjl
      have hpm := List.getElem_mem hjl
      have htk : F.take (j + 1) = F.take j ++ [F[j]] := List.take_succ_eq_append_getElem hjl
      generalize F[j] = p at *
      have hcell := hrd p hpm
      have hfit := hft p hpm
      have hpn := hpl p hpm
      have d30 : ((frows 0 F).drop (j * 2)).take 2 = frow 0 p := fm_at (frow_len 0) hp
      have hle : (j * 2 + 2 ≤ (frows 0 F).length) = True := eq_true (fm_le (frow_len 0) hp)
      have hwj := hwl j
      have hnx : wd ++ ((F.take (j + 1)).map (pieceF e.row)).flatMap sp1 = (wd ++ ((F.take j).map (pieceF e.row)).flatMap sp1) ++ ([32] ++ pieceF e.row p) := by
        rw [htk, List.map_append, List.flatMap_append, List.append_assoc]
        simp [sp1]
      generalize wd ++ ((F.take j).map (pieceF e.row)).flatMap sp1 = W at *
      obtain ⟨t, o⟩ := p
      cases t with
      | true =>
        have h32 := fit_text hfit
        have e1 := tesc_at (s := rTx e.row o) (by omega)
        have hpc : pieceF e.row (true, o) = escF (rTx e.row o) := if_pos rfl
        rw [hpc] at hnx hpn
        simp only [frow, if_pos, ↓reduceIte] at d30 hcell
        generalize rTx e.row o = s at *
        have k1 : (1 + (escF s).length ≤ 4611686018427387904) = True := eq_true (by omega)
        have k1' : (0 + 1 + (escF s).length ≤ 4611686018427387904) = True := eq_true (by omega)
        have k2 : (W.length + ((escF s).length + 1) ≤ 4611686018427387904) = True := eq_true (by omega)
        have k2' : (W.length + ([32] ++ escF s).length ≤ 4611686018427387904) = True := eq_true (by simp; omega)
        have hc := Nat.zero_add 0
        repeat' (first | simp only [hc, AS, NX, NPV, SX, NW, hlt, nn, hw, d30, hle, hcell, e1, k1, k1', k2, k2', Int.toNat_natCast, AB, PL, RG, LP, TY, simprocAttr, ↓reduceIte, forall_const, eq_self, ne_eq, Option.some.injEq, beq_self_eq_true] | ((first | apply fin_ndec | apply fin_dec | apply cnd_ndec | apply cnd_dec' | apply fin_nsplit | apply fin_split | apply cnd_nsplit | apply cnd_split) <;> intro hc) | refine seqS_id ?_ | refine blk_exit_id ?_)
        refine lp_next (j + 1) ?_ (by omega) (by omega)
        rw [hnx]
        exact Wk.cutk (k := 2) (by decide) (by simp) (by simp) (by simp [subT, look]) (by simp [AV.low, V.low, C1.low]) (by simp only [List.all_cons, List.all_nil, Ob.low, lowD, frows_low (F := F) (show (0 : Nat) < 2 by decide), Bool.and_true])
      | false =>
        have h32 := fit_num hfit
        have e1 := tfmt_at (n := rNm e.row o) (by omega)
        have hpc : pieceF e.row (false, o) = Lib.itoa (rNm e.row o) := if_neg (by simp)
        rw [hpc] at hnx hpn
        simp only [frow, Bool.false_eq_true, if_false, ↓reduceIte] at d30 hcell
        generalize rNm e.row o = s at *
        have k1 : (1 + (Lib.itoa s).length ≤ 4611686018427387904) = True := eq_true (by omega)
        have k1' : (0 + 1 + (Lib.itoa s).length ≤ 4611686018427387904) = True := eq_true (by omega)
        have k2 : (W.length + ((Lib.itoa s).length + 1) ≤ 4611686018427387904) = True := eq_true (by omega)
        have k2' : (W.length + ([32] ++ Lib.itoa s).length ≤ 4611686018427387904) = True := eq_true (by simp; omega)
        have hc := Nat.zero_add 0
        repeat' (first | simp only [hc, AS, NX, NPV, SX, NW, hlt, nn, hw, d30, hle, hcell, e1, k1, k1', k2, k2', Int.toNat_natCast, AB, PL, RG, LP, TY, simprocAttr, ↓reduceIte, forall_const, eq_self, ne_eq, Option.some.injEq, beq_self_eq_true] | ((first | apply fin_ndec | apply fin_dec | apply cnd_ndec | apply cnd_dec' | apply fin_nsplit | apply fin_split | apply cnd_nsplit | apply cnd_split) <;> intro hc) | refine seqS_id ?_ | refine blk_exit_id ?_)
        refine lp_next (j + 1) ?_ (by omega) (by omega)
        rw [hnx]
        exact Wk.cutk (k := 2) (by decide) (by simp) (by simp) (by simp [subT, look]) (by simp [AV.low, V.low, C1.low]) (by simp only [List.all_cons, List.all_nil, Ob.low, lowD, frows_low (F := F) (show (0 : Nat) < 2 by decide), Bool.and_true])
    · have hlt : ((j : Int) < (F.length : Int)) = False := eq_false (by omega)
      rw [List.take_of_length_le (by omega)]
      have hc := Nat.zero_add 0
      repeat' (first | simp only [hc, AS, NX, NPV, SX, NW, hlt, AB, PL, RG, LP, TY, simprocAttr, ↓reduceIte, forall_const, eq_self, ne_eq, Option.some.injEq, beq_self_eq_true] | ((first | apply fin_ndec | apply fin_dec | apply cnd_ndec | apply cnd_dec' | apply fin_nsplit | apply fin_split | apply cnd_nsplit | apply cnd_split) <;> intro hc) | refine seqS_id ?_ | refine blk_exit_id ?_)
      exact ⟨_, Wk.refl, by rw [← h]; rfl⟩
  · rw [Bool.not_eq_true] at hr
    rw [hr] at g1
    have hP : printE e = ([], 1) := if_neg (by rw [hr]; simp)
    rw [hP] at h
    simp only [Evt.row] at g1
    have hc := Nat.zero_add 0
    repeat' (first | simp only [hc, AS, Tryd.f10, encE, Evt.row, List.map_cons, List.map_nil, NX, NPV, SX, NW, g1, AB, PL, RG, LP, TY, simprocAttr, ↓reduceIte, forall_const, eq_self, ne_eq, Option.some.injEq, beq_self_eq_true] | ((first | apply fin_ndec | apply fin_dec | apply cnd_ndec | apply cnd_dec' | apply fin_nsplit | apply fin_split | apply cnd_nsplit | apply cnd_split) <;> intro hc) | refine seqS_id ?_ | refine blk_exit_id ?_)
    exact ⟨_, Wk.refl, by rw [← h]; rfl⟩
theorem eprint_at {e : Evt} : eprint_m [.agg e.row] = some [.s (printE e).1, .i (printE e).2] := mE_eq encE_inj (g := fun e => some [DV.s (printE e).1, DV.i (printE e).2]) (a := e)

theorem ekey_ok : PureC Tryd.prog Gt 14 ekey_m := by
  refine pure_of_awp (X := ctx Tryd.prog Gt [(10, eprint_m), (26, tesc_m)]) Tryd.func14 rfl rfl (by kernel_rfl) (by kernel_rfl) (AllOk.cons eprint_ok (AllOk.cons tesc_ok AllOk.nil)).kok ?_
  intro args r h0
  obtain ⟨e, rfl, h⟩ := mE_inv h0
  refine ⟨Nat.le_of_ble_eq_true rfl, ?_⟩
  simp only [Option.some.injEq] at h
  have g1 := @eprint_at e
  by_cases hr : rightE e = true
  · have hP : printE e = (lineE e, 0) := if_pos hr
    have hK : keyE e = escF (lineE e) := if_pos hr
    have g2 := tesc_at (s := lineE e) (by have := line_len hr; omega)
    rw [hP] at g1
    rw [hK] at h
    generalize lineE e = L at *
    subst h
    simp only [Evt.row] at g1
    have hc := Nat.zero_add 0
    repeat' (first | simp only [hc, Tryd.f14, encE, Evt.row, SX, g1, g2, AB, PL, RG, LP, TY, simprocAttr, ↓reduceIte, forall_const, eq_self, ne_eq, Option.some.injEq, beq_self_eq_true] | ((first | apply fin_ndec | apply fin_dec | apply cnd_ndec | apply cnd_dec' | apply fin_nsplit | apply fin_split | apply cnd_nsplit | apply cnd_split) <;> intro hc) | refine blk_exit_id ?_)
    all_goals rfl
  · have hP : printE e = ([], 1) := if_neg hr
    have hK : keyE e = [] := if_neg hr
    rw [hP] at g1
    rw [hK] at h
    subst h
    simp only [Evt.row] at g1
    have hc := Nat.zero_add 0
    repeat' (first | simp only [hc, Tryd.f14, encE, Evt.row, SX, g1, AB, PL, RG, LP, TY, simprocAttr, ↓reduceIte, forall_const, eq_self, ne_eq, Option.some.injEq, beq_self_eq_true] | ((first | apply fin_ndec | apply fin_dec | apply cnd_ndec | apply cnd_dec' | apply fin_nsplit | apply fin_split | apply cnd_nsplit | apply cnd_split) <;> intro hc) | refine blk_exit_id ?_)
    all_goals rfl
theorem ekey_at {e : Evt} : ekey_m [.agg e.row] = some [.s (keyE e)] := mE_eq encE_inj (g := fun e => some [DV.s (keyE e)]) (a := e)

end
end Go.Ab

/-
  Events, the reference's reading: words, Print, Key.
-/
namespace Go.Ab
open Go.RowKit Go.Proofs

theorem cap_all {e : Evt} (h : capB e = true) : (e.dev.length ≤ 32 ∧ e.tag.length ≤ 32 ∧ e.plt.length ≤ 32 ∧ e.pz.length ≤ 32 ∧ e.pp.length ≤ 32 ∧ e.name.length ≤ 32) ∧
    (-68719476736 ≤ e.seq ∧ e.seq ≤ 68719476736) ∧ (-68719476736 ≤ e.time ∧ e.time ≤ 68719476736) ∧ (-68719476736 ≤ e.axl ∧ e.axl ≤ 68719476736) ∧ (-68719476736 ≤ e.score ∧ e.score ≤ 68719476736) ∧
    (-68719476736 ≤ e.pk ∧ e.pk ≤ 68719476736) ∧ (-68719476736 ≤ e.pt ∧ e.pt ≤ 68719476736) ∧ (-68719476736 ≤ e.pu ∧ e.pu ≤ 68719476736) ∧ (-68719476736 ≤ e.day ∧ e.day ≤ 68719476736) ∧ (-1125899906842624 ≤ e.cents ∧ e.cents ≤ 1125899906842624) := by
  unfold capB shtB numB at h
  simp only [Bool.and_eq_true, decide_eq_true_eq, mTime, mMon] at h
  obtain ⟨⟨⟨⟨⟨⟨⟨⟨a1, a2⟩, a3⟩, a4⟩, a5⟩, a6⟩, a7⟩, ⟨⟨⟨a8, a9⟩, a10⟩, a11⟩, a12⟩, ⟨a13, a14⟩, a15⟩ := h
  exact ⟨⟨a1, a2, a3, a8, a9, a13⟩, a4, a5, a6, a7, a10, a11, a12, a14, a15⟩

noncomputable section
open Classical

def r6words_m : List PA → Option (List PA) := mE encE fun e => if rightE e = true then some [.c (.sl true ((wordsE e).map rowS))] else none
def r6print_m : List PA → Option (List PA) := mE encE fun e => some [.s (printE e).1, .i (printE e).2]
def r6key_m : List PA → Option (List PA) := mE encE fun e => some [.s (keyE e)]

set_option maxHeartbeats 1000000 in
theorem r6words_ok : PureC Tryd.prog Gt 29 r6words_m := by
  refine pure_of_awpS (X := ctxN Tryd.prog Gt [(34, resc_m), (53, rfmt_m)] [] [] none (uL []) (uL [1])) Tryd.func29 rfl rfl (by kernel_rfl) (by kernel_rfl) (kok_n (AllOk.cons resc_ok (AllOk.cons rfmt_ok AllOk.nil)) AllK.nil AllN.nil) ?_
  intro args r h0
  obtain ⟨e, rfl, h⟩ := mE_inv h0
  refine ⟨Nat.le_of_ble_eq_true rfl, ?_⟩
  split at h
  · rename_i hr
    simp only [Option.some.injEq] at h
    have hk := right_kind hr
    obtain ⟨⟨s1, s2, s3, s4, s5, s6⟩, n1, n2, n3, n4, n5, n6, n7, n8, n9⟩ := cap_all (right_cap hr)
    have g1 := resc_at (s := e.dev) (by omega); have g2 := resc_at (s := e.tag) (by omega); have g3 := resc_at (s := e.plt) (by omega)
    have g4 := resc_at (s := e.pz) (by omega); have g5 := resc_at (s := e.pp) (by omega); have g6 := resc_at (s := e.name) (by omega)
    have f1 := rfmt_at (n := e.seq) (by omega); have f2 := rfmt_at (n := e.time) (by omega); have f3 := rfmt_at (n := e.axl) (by omega); have f4 := rfmt_at (n := e.score) (by omega)
    have f5 := rfmt_at (n := e.pk) (by omega); have f6 := rfmt_at (n := e.pt) (by omega); have f7 := rfmt_at (n := e.pu) (by omega); have f8 := rfmt_at (n := e.day) (by omega); have f9 := rfmt_at (n := e.cents) (by omega)
    have hc := Nat.zero_add 0
    repeat' (first | simp only [hc, AS, Tryd.f29, encE, Evt.row, List.map_cons, List.map_nil, NX, SX, AB, PL, RG, LP, TY, simprocAttr, ↓reduceIte, forall_const, eq_self, ne_eq, Option.some.injEq, beq_self_eq_true] | ((first | apply fin_ndec | apply fin_dec | apply cnd_ndec | apply cnd_dec' | apply fin_nsplit | apply fin_split | apply cnd_nsplit | apply cnd_split) <;> intro hc) | refine seqS_id ?_ | refine blk_exit_id ?_)
    refine awp_fork treeDP ⟨[(4, .v (.c (.ptr 2 0))), (3, .v (.c (.ptr 1 0))), (1, .v (.c (.ptr 0 0)))], [.box (e.row.map .d), .box [.d (.str e.dev), .d (.int .i64 e.seq), .d (.int .i64 e.time), .d (.str e.tag), .d (.str e.plt), .d (.int .i64 e.axl), .d (.int .i64 e.score)], .box [.d (.int .i64 e.pk), .d (.str e.pz), .d (.str e.pp), .d (.int .i64 e.pt), .d (.int .i64 e.pu)]]⟩
      ⟨[(4, .v (.c (.ptr 1 0))), (3, .v (.c (.ptr 2 0))), (1, .v (.c (.ptr 0 0)))], [.box (e.row.map .d), .box [.d (.int .i64 e.pk), .d (.str e.pz), .d (.str e.pp), .d (.int .i64 e.pt), .d (.int .i64 e.pu)], .box [.d (.str e.dev), .d (.int .i64 e.seq), .d (.int .i64 e.time), .d (.str e.tag), .d (.str e.plt), .d (.int .i64 e.axl), .d (.int .i64 e.score)]]⟩ rfl (by kernel_rfl) ?_ ?_ ?_
    · skip
      have hc := Nat.zero_add 0
      repeat' (first | simp only [hc, AS, treeDP, TRE, NX, SX, AB, PL, RG, LP, TY, simprocAttr, ↓reduceIte, forall_const, eq_self, ne_eq, Option.some.injEq, beq_self_eq_true] | ((first | apply fin_ndec | apply fin_dec | apply cnd_ndec | apply cnd_dec' | apply fin_nsplit | apply fin_split | apply cnd_nsplit | apply cnd_split) <;> intro hc) | refine seqS_id ?_ | refine blk_exit_id ?_)
      repeat' apply And.intro
      all_goals first
        | exact Or.inl (Wk.sub' (by simp [subT, look]) rfl)
        | exact Or.inr (Wk.sub' (by simp [subT, look]) rfl)
    all_goals
      (obtain ⟨k, a, b, c, d, f, g, i, j, l, m, n, o, p, q, r⟩ := e
       dsimp only at *
       rcases kind_cases hk with k1 | k1 | k1 | k1 | k1 <;> subst k1)
    all_goals
      have hc := Nat.zero_add 0
      repeat' (first | simp only [hc, AS, Evt.row, List.map_cons, List.map_nil, NX, SX, g1, g2, g3, g4, g5, g6, f1, f2, f3, f4, f5, f6, f7, f8, f9, AB, PL, RG, LP, TY, simprocAttr, ↓reduceIte, forall_const, eq_self, ne_eq, Option.some.injEq, beq_self_eq_true] | ((first | apply fin_ndec | apply fin_dec | apply cnd_ndec | apply cnd_dec' | apply fin_nsplit | apply fin_split | apply cnd_nsplit | apply cnd_split) <;> intro hc) | refine seqS_id ?_ | refine blk_exit_id ?_)

    all_goals (rw [← h]; simp [wordsE, wrdK, fldK, pieceF, rTx, rNm, Evt.row, rowS])
  · cases h
theorem r6words_at {e : Evt} (h : rightE e = true) : r6words_m [.agg e.row] = some [.c (.sl true ((wordsE e).map rowS))] := by
  have := mE_eq encE_inj (g := fun e => if rightE e = true then some [DV.c (.sl true ((wordsE e).map rowS))] else none) (a := e)
  exact this.trans (if_pos h)
theorem r6right_at {e : Evt} : r6right_m [.agg e.row] = some [.b (rightE e)] := mE_eq encE_inj (g := fun e => some [DV.b (rightE e)]) (a := e)

theorem r6print_ok : PureC Tryd.prog Gt 11 r6print_m := by
  refine pure_of_awp (X := ctx Tryd.prog Gt [(13, r6right_m), (29, r6words_m), (28, rjoin_m)]) Tryd.func11 rfl rfl (by kernel_rfl) (by kernel_rfl) (AllOk.cons r6right_ok (AllOk.cons r6words_ok (AllOk.cons rjoin_ok AllOk.nil))).kok ?_
  intro args r h0
  obtain ⟨e, rfl, h⟩ := mE_inv h0
  refine ⟨Nat.le_of_ble_eq_true rfl, ?_⟩
  simp only [Option.some.injEq] at h
  have g1 := @r6right_at e
  by_cases hr : rightE e = true
  · have hP : printE e = (lineE e, 0) := if_pos hr
    have g2 := r6words_at hr
    have hl : (wordsE e).length ≤ 100000 := by
      have := fld_len e.kind
      unfold wordsE
      rw [List.length_cons, List.length_map]
      omega
    have g3 : rjoin_m [.c (.sl true ((wordsE e).map rowS))] = some [.c (.str (lineE e))] := by
      rw [rjoin_m, ml_eq, if_pos (decide_eq_true ⟨hl, by have := line_len hr; unfold lineE at this; omega⟩)]
      rfl
    rw [hr] at g1
    rw [hP] at h
    generalize (wordsE e).map rowS = ws at *
    generalize lineE e = L at *
    subst h
    simp only [Evt.row] at g1 g2
    have hc := Nat.zero_add 0
    repeat' (first | simp only [hc, Tryd.f11, encE, Evt.row, SX, g1, g2, g3, AB, PL, RG, LP, TY, simprocAttr, ↓reduceIte, forall_const, eq_self, ne_eq, Option.some.injEq, beq_self_eq_true] | ((first | apply fin_ndec | apply fin_dec | apply cnd_ndec | apply cnd_dec' | apply fin_nsplit | apply fin_split | apply cnd_nsplit | apply cnd_split) <;> intro hc) | refine blk_exit_id ?_)
    all_goals rfl
  · have hP : printE e = ([], 1) := if_neg hr
    rw [Bool.not_eq_true] at hr
    rw [hr] at g1
    rw [hP] at h
    subst h
    simp only [Evt.row] at g1
    have hc := Nat.zero_add 0
    repeat' (first | simp only [hc, Tryd.f11, encE, Evt.row, SX, g1, AB, PL, RG, LP, TY, simprocAttr, ↓reduceIte, forall_const, eq_self, ne_eq, Option.some.injEq, beq_self_eq_true] | ((first | apply fin_ndec | apply fin_dec | apply cnd_ndec | apply cnd_dec' | apply fin_nsplit | apply fin_split | apply cnd_nsplit | apply cnd_split) <;> intro hc) | refine blk_exit_id ?_)
    all_goals rfl
theorem r6print_at {e : Evt} : r6print_m [.agg e.row] = some [.s (printE e).1, .i (printE e).2] := mE_eq encE_inj (g := fun e => some [DV.s (printE e).1, DV.i (printE e).2]) (a := e)

theorem r6key_ok : PureC Tryd.prog Gt 15 r6key_m := by
  refine pure_of_awp (X := ctx Tryd.prog Gt [(11, r6print_m), (34, resc_m)]) Tryd.func15 rfl rfl (by kernel_rfl) (by kernel_rfl) (AllOk.cons r6print_ok (AllOk.cons resc_ok AllOk.nil)).kok ?_
  intro args r h0
  obtain ⟨e, rfl, h⟩ := mE_inv h0
  refine ⟨Nat.le_of_ble_eq_true rfl, ?_⟩
  simp only [Option.some.injEq] at h
  have g1 := @r6print_at e
  by_cases hr : rightE e = true
  · have hP : printE e = (lineE e, 0) := if_pos hr
    have hK : keyE e = escF (lineE e) := if_pos hr
    have g2 := resc_at (s := lineE e) (by have := line_len hr; omega)
    rw [hP] at g1
    rw [hK] at h
    generalize lineE e = L at *
    subst h
    simp only [Evt.row] at g1
    have hc := Nat.zero_add 0
    repeat' (first | simp only [hc, Tryd.f15, encE, Evt.row, SX, g1, g2, AB, PL, RG, LP, TY, simprocAttr, ↓reduceIte, forall_const, eq_self, ne_eq, Option.some.injEq, beq_self_eq_true] | ((first | apply fin_ndec | apply fin_dec | apply cnd_ndec | apply cnd_dec' | apply fin_nsplit | apply fin_split | apply cnd_nsplit | apply cnd_split) <;> intro hc) | refine blk_exit_id ?_)
    all_goals rfl
  · have hP : printE e = ([], 1) := if_neg hr
    have hK : keyE e = [] := if_neg hr
    rw [hP] at g1
    rw [hK] at h
    subst h
    simp only [Evt.row] at g1
    have hc := Nat.zero_add 0
    repeat' (first | simp only [hc, Tryd.f15, encE, Evt.row, SX, g1, AB, PL, RG, LP, TY, simprocAttr, ↓reduceIte, forall_const, eq_self, ne_eq, Option.some.injEq, beq_self_eq_true] | ((first | apply fin_ndec | apply fin_dec | apply cnd_ndec | apply cnd_dec' | apply fin_nsplit | apply fin_split | apply cnd_nsplit | apply cnd_split) <;> intro hc) | refine blk_exit_id ?_)
    all_goals rfl
theorem r6key_at {e : Evt} : r6key_m [.agg e.row] = some [.s (keyE e)] := mE_eq encE_inj (g := fun e => some [DV.s (keyE e)]) (a := e)

end
end Go.Ab
