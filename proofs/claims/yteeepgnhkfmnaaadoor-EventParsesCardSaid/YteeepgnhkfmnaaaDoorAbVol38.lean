/-
  Texts of the layer and of the laws, put together: AbF19, AbF20. No law is stated here.
-/
import Derived.Test.YteeepgnhkfmnaaaDoorAbVol37
set_option linter.unusedSimpArgs false
set_option linter.unusedVariables false
set_option maxRecDepth 100000

/-
  event.must, event.read.
-/
namespace Go.Ab
open Go.RowKit Go.Proofs

/-- The fields of an event, read. -/
def readFl (b : List UInt8) : List Fld → Evt → Int → Except Int (Evt × Int)
  | [], e, n => .ok (e, n)
  | p :: r, e, n => if p.1 = true then (if (decT b n).2.2 = 0 then readFl b r (setE e p.2 (decT b n).1 0) (decT b n).2.1 else .error (decT b n).2.2)
    else (if (decI b n).2.2 = 0 then readFl b r (setE e p.2 [] (decI b n).1) (decI b n).2.1 else .error (decI b n).2.2)
def okRd : Except Int (Evt × Int) → Except Int (Evt × Int)
  | .error k => .error k
  | .ok (e, n) => if rightE e = true then .ok (e, n) else .error 1
def readE (b : List UInt8) (p : Int) : Except Int (Evt × Int) :=
  if (decI b p).2.2 = 0 then (if kindB (decI b p).1 = true then okRd (readFl b (fldK (decI b p).1) (zEvt (decI b p).1) (decI b p).2.1) else .error 5) else .error (decI b p).2.2
def getE (b : List UInt8) (p : Int) : Evt × Int × Int := match readE b p with
  | .error k => (zEvt 0, 0, k)
  | .ok (e, n) => (e, n, 0)

noncomputable section
open Classical

def mustK (args : List AV) (h : Hp) : Option COut := match args with
  | [.v (.c (.d (.int .i64 e)))] => some (if e = 0 then .ret (.tup []) h else .pan (eno e) h)
  | _ => none
def emust_k : List AV → Hp → Option COut := mustK
theorem mustK_inv {args : List AV} {h : Hp} {out : COut} (hm : mustK args h = some out) : ∃ e, args = [.v (.c (.d (.int .i64 e)))] ∧ out = if e = 0 then .ret (.tup []) h else .pan (eno e) h := by
  unfold mustK at hm
  split at hm
  · cases hm
    exact ⟨_, rfl, rfl⟩
  · cases hm
theorem emust_kok : ImpC Tryd.prog Gt 61 emust_k := by
  intro args h out h0
  refine fok_of_awpSW (X := ctxN Tryd.prog Gt [] [] [] none) Tryd.func61 rfl rfl (by kernel_rfl) (by kernel_rfl) (kok_n AllOk.nil AllK.nil AllN.nil) ?_ ?_
  · obtain ⟨e, rfl, _⟩ := mustK_inv h0
    exact Nat.le_of_ble_eq_true rfl
  obtain ⟨e, rfl, rfl⟩ := mustK_inv h0
  by_cases he : e = 0
  · rw [if_pos he]
    have he' : (e = 0) = True := eq_true he
    have hc := Nat.zero_add 0
    repeat' (first | simp only [hc, AS, Tryd.f61, NX, NPV, SX, NW, mkErr, RetsW_pan, he', AB, PL, RG, LP, TY, simprocAttr, ↓reduceIte, forall_const, eq_self, ne_eq, Option.some.injEq, beq_self_eq_true] | ((first | apply fin_ndec | apply fin_dec | apply cnd_ndec | apply cnd_dec' | apply fin_nsplit | apply fin_split | apply cnd_nsplit | apply cnd_split) <;> intro hc) | refine seqS_id ?_ | refine blk_exit_id ?_)
    exact ⟨_, Wk.refl, [], by simp [resAllV], by simp [resVV]⟩
  · rw [if_neg he]
    have he' : (e = 0) = False := eq_false he
    have hc := Nat.zero_add 0
    repeat' (first | simp only [hc, AS, Tryd.f61, NX, NPV, SX, NW, mkErr, RetsW_pan, he', AB, PL, RG, LP, TY, simprocAttr, ↓reduceIte, forall_const, eq_self, ne_eq, Option.some.injEq, beq_self_eq_true] | ((first | apply fin_ndec | apply fin_dec | apply cnd_ndec | apply cnd_dec' | apply fin_nsplit | apply fin_split | apply cnd_nsplit | apply cnd_split) <;> intro hc) | refine seqS_id ?_ | refine blk_exit_id ?_)
    exact ⟨_, _, _, h, rfl, Wk.sub' (by simp [subT]) rfl, rfl⟩
theorem emust_ok0 {h : Hp} : emust_k [.v (.c (.d (.int .i64 0)))] h = some (.ret (.tup []) h) := rfl
theorem emust_bad {e : Int} {h : Hp} (he : e ≠ 0) : emust_k [.v (.c (.d (.int .i64 e)))] h = some (.pan (eno e) h) := by
  have e1 : emust_k [.v (.c (.d (.int .i64 e)))] h = some (if e = 0 then .ret (.tup []) h else .pan (eno e) h) := rfl
  rw [e1, if_neg he]

/-- What stands below event.read: event.Get's results. -/
abbrev hG : Hp := [.box zRow0, iB 0, iB 0]
def rdG (a : (Bool × List UInt8) × Int) (args : List AV) (h : Hp) : Prop := args = avBI a ∧ h = hG
def eread_k : List AV → Hp → Option COut := kR rdG fun p => if p.1.2.length ≤ 1000000 then some (match readE p.1.2 p.2 with | .error k => .pan (eno k) hG | .ok (e, n) => .ret (.tup [.agg (e.row.map .d), .c (.d (.int .i64 n))]) (hG ++ [.box (e.row.map .d)])) else none

theorem cint_at {f : Bool} {b : List UInt8} {p : Int} (h : b.length ≤ 1000000) : cint_m [.c (.sl f (b.map rowB)), .c (.int .i64 p)] = some [.i (decI b p).1, .i (decI b p).2.1, .i (decI b p).2.2] := by
  have := mE_eq encBI_inj (g := fun p => if p.1.2.length ≤ 1000000 then some [DV.i (decI p.1.2 p.2).1, .i (decI p.1.2 p.2).2.1, .i (decI p.1.2 p.2).2.2] else none) (a := ((f, b), p))
  exact this.trans (if_pos h)
theorem ctxt_at {f : Bool} {b : List UInt8} {p : Int} (h : b.length ≤ 1000000) : ctxt_m [.c (.sl f (b.map rowB)), .c (.int .i64 p)] = some [.s (decT b p).1, .i (decT b p).2.1, .i (decT b p).2.2] := by
  have := mE_eq encBI_inj (g := fun p => if p.1.2.length ≤ 1000000 then some [DV.s (decT p.1.2 p.2).1, .i (decT p.1.2 p.2).2.1, .i (decT p.1.2 p.2).2.2] else none) (a := ((f, b), p))
  exact this.trans (if_pos h)

theorem pan_hG {t : List (Nat × AV)} {h : Hp} (hg : h.take 3 = hG) (hl : 3 ≤ h.length) : Wk 3 ⟨t, h⟩ ⟨[], hG⟩ :=
  Wk.cutk (k := 3) (by decide) hl hg (by simp [subT]) rfl (by simp only [List.all_cons, List.all_nil, Ob.low, zRow0_low, Bool.and_true]; rfl)

theorem efields_none {id : Nat} {k : Int} {cs : List C1} {h : Hp} (h1 : h[id]? = some (.box (.d (.int .i64 k) :: cs))) (h2 : cs.length = 15) (h3 : LowH h) (h4 : NoB h) (hk : ¬ kindB k = true) :
    efields_k [.v (.c (.ptr id 0))] h = some (.ret (.tup [.c (.d (.str [])), .c (.d (.sl true []))]) h) := by
  have e : efields_k [.v (.c (.ptr id 0))] h = fldsK [.v (.c (.ptr id 0))] h := rfl
  rw [e]
  simp only [fldsK, h1]
  rw [if_pos ⟨h2, h3, h4⟩, if_neg hk]

theorem resE4 {tab : Tab} {kt : KTab} {nt : NTab} {B : Option (TypeId × TypeId)} {U : TypeId → Bool} {Ed : Nat → Bool} {e : Evt} {n : Int} : resAllV (ctxN Tryd.prog Gt tab kt nt B U Ed) ⟨[(4, .v (.c (.ptr 3 0))), (5, AV.i n)], [.box zRow0, iB 0, iB 0, .box (e.row.map .d)]⟩ [.cell 4 27, .tmp 5] = some [.agg (e.row.map .d), .c (.d (.int .i64 n))] := by
  simp only [resAllV, resOneV, S.get, look, NX, SX, AB, PL, RG, LP, TY, simprocAttr, ↓reduceIte, forall_const, eq_self, ne_eq, Option.some.injEq, beq_self_eq_true, Evt.row, List.map_cons, List.map_nil]
  rfl

set_option maxHeartbeats 2000000 in
theorem eread_kok : ImpC Tryd.prog Gt 45 eread_k := by
  intro args h out h0
  refine fok_of_awpSW (X := ctxN Tryd.prog Gt [(60, cint_m), (62, ctxt_m), (12, eright_m)] [(25, efields_k), (61, emust_k)] [] none (uL [63])) Tryd.func45 rfl rfl (by kernel_rfl) (by kernel_rfl) (kok_n (AllOk.cons cint_ok (AllOk.cons ctxt_ok (AllOk.cons eright_ok AllOk.nil))) (AllK.cons efields_kok (AllK.cons emust_kok AllK.nil)) AllN.nil) ?_ ?_
  · obtain ⟨a, ⟨rfl, _⟩, _⟩ := kR_inv h0
    exact Nat.le_of_ble_eq_true rfl
  obtain ⟨⟨⟨f, b⟩, p⟩, ⟨rfl, rfl⟩, hg⟩ := kR_inv h0
  dsimp only at hg ⊢
  split at hg
  · rename_i hb
    simp only [Option.some.injEq] at hg
    have f1 := fun n => cint_at (f := f) (p := n) hb
    have f2 := fun n => ctxt_at (f := f) (p := n) hb
    have f3 := fun h => @emust_ok0 h
    have lowD : ∀ (l : List D) (m : Nat), ((l.map C1.d).all (C1.low m)) = true := fun l m => all_low_d m l
    generalize hT : readE b p = T at *
    unfold readE at hT
    have q1 := f1 p
    generalize hD : decI b p = dd at *
    obtain ⟨k, n, er⟩ := dd
    dsimp only at hT q1
    by_cases her : er = 0
    · subst her
      rw [if_pos rfl] at hT
      by_cases hk : kindB k = true
      · rw [if_pos hk] at hT
        have g1 := efields_at (id := 4) (k := k) (cs := ((zEvt k).row.tail).map .d) (h := [.box zRow0, iB 0, iB 0, .box zRow0, .box ((zEvt k).row.map .d)]) rfl rfl (by unfold LowH; simp only [List.all_cons, List.all_nil, Ob.low, lowD, zRow0_low, Bool.and_true]; rfl) rfl hk
        have hfl := fld_len k
        have hflt := fld_lt k
        have hrowE := fun (e : Evt) (tx : List UInt8) (n : Int) => setE_row e k tx n
        have hwk : (wrdK k == []) = false := by rcases kind_cases hk with rfl | rfl | rfl | rfl | rfl <;> rfl
        generalize hF : fldK k = F at *
        generalize wrdK k = wd at *
        simp only [zEvt, Evt.row, List.map_cons, List.map_nil, List.length_cons, List.length_nil, List.cons_append, List.nil_append, Nat.reduceAdd, Nat.zero_add, zRow0_eq] at g1
        have hc := Nat.zero_add 0
        repeat' (first | simp only [hc, AS, Tryd.f45, avBI, NX, NPV, SX, NW, mkErr, RetsW_pan, q1, f3, g1, hwk, zRow0_eq, AB, PL, RG, LP, TY, simprocAttr, ↓reduceIte, forall_const, eq_self, ne_eq, Option.some.injEq, beq_self_eq_true] | ((first | apply fin_ndec | apply fin_dec | apply cnd_ndec | apply cnd_dec' | apply fin_nsplit | apply fin_split | apply cnd_nsplit | apply cnd_split) <;> intro hc) | refine seqS_id ?_ | refine blk_exit_id ?_)
        refine awpS_loop (σ := Nat × Evt × Int) (fun x => x.1 ≤ F.length ∧ okRd (readFl b (F.drop x.1) x.2.1 x.2.2) = T) (fun x => ⟨[(34, AV.i x.1), (33, AV.i F.length), (32, .v (.c (.msl 5 F.length))), (9, .v (.c (.ptr 4 0))), (7, AV.i x.2.2), (4, .v (.c (.ptr 3 0))), (0, .v (.c (.d (.sl f (b.map rowB)))))], [.box zRow0, iB 0, iB 0, .box zRow0, .box (x.2.1.row.map .d), .tok F.length 2 (some (frows 4 F))]⟩) (fun x => F.length - x.1) (0, zEvt k, n) (Wk.sub' (by simp [subT, look]) rfl) ⟨Nat.zero_le _, hT⟩ ?_
        rintro ⟨j, e, n⟩ ⟨hj, hje⟩
        dsimp only at hj hje ⊢
        by_cases hjl : j < F.length
        · have hlt : ((j : Int) < (F.length : Int)) = True := eq_true (by omega)
          have hw : IntKind.i64.wrap ((j : Int) + 1) = ((j + 1 : Nat) : Int) := by rw [wI (by omega) (by omega)]; omega
          have hp : F[j]? = some F[j] := List.getElem?_eq_getElem hjl
          have hpm := List.getElem_mem hjl
          rw [List.drop_eq_getElem_cons hjl, readFl] at hje
          generalize F[j] = p at *
          have d30 : ((frows 4 F).drop (j * 2)).take 2 = frow 4 p := fm_at (frow_len 4) hp
          have hle : (j * 2 + 2 ≤ (frows 4 F).length) = True := eq_true (fm_le (frow_len 4) hp)
          have hpo := (hflt p hpm).1
          have hro := hrowE e
          have hst := fun (g : Hp) (v : C1) => stO_cell (h := g) (id := 4) (o := p.2) (cs := e.row.map .d) (v := v) (by rw [List.length_map, row_len]; exact hpo)
          obtain ⟨t, o⟩ := p
          cases t with
          | true =>
            have q2 := f2 n
            rw [if_pos rfl] at hje
            generalize hD2 : decT b n = d2 at *
            obtain ⟨sx, m, er⟩ := d2
            dsimp only at hje q2 hst
            have hro2 : (e.row.map C1.d).set o (.d (.str sx)) = (setE e o sx 0).row.map .d := by rw [← hro sx 0 _ hpm, List.map_set]; rfl
            have hst2 := fun g => hst g (.d (.str sx))
            rw [hro2] at hst2
            simp only [frow, ↓reduceIte, if_pos] at d30
            generalize setE e o sx 0 = e2 at *
            by_cases hu : er = 0
            · subst hu
              rw [if_pos rfl] at hje
              have hc := Nat.zero_add 0
              repeat' (first | simp only [hc, AS, NX, NPV, SX, NW, mkErr, RetsW_pan, hlt, nn, hw, d30, hle, q2, f3, hst2, Int.toNat_natCast, AB, PL, RG, LP, TY, simprocAttr, ↓reduceIte, forall_const, eq_self, ne_eq, Option.some.injEq, beq_self_eq_true] | ((first | apply fin_ndec | apply fin_dec | apply cnd_ndec | apply cnd_dec' | apply fin_nsplit | apply fin_split | apply cnd_nsplit | apply cnd_split) <;> intro hc) | refine seqS_id ?_ | refine blk_exit_id ?_)
              exact lp_next (j + 1, e2, m) (Wk.cutk (k := 6) (by decide) (by simp) (by simp) (by simp [subT, look]) (by simp [AV.low, V.low, C1.low]) (by simp only [List.all_cons, List.all_nil, Ob.low, lowD, zRow0_low, frows_low (F := F) (show (4 : Nat) < 6 by decide), Bool.and_true]; rfl)) ⟨by dsimp only; omega, hje⟩ (by dsimp only; omega)
            · rw [if_neg hu] at hje
              subst hje
              dsimp only [okRd] at hg
              subst hg
              have f4 := fun h => @emust_bad er h hu
              have hc := Nat.zero_add 0
              repeat' (first | simp only [hc, AS, NX, NPV, SX, NW, mkErr, RetsW_pan, hlt, nn, hw, d30, hle, q2, f3, f4, hst2, Int.toNat_natCast, AB, PL, RG, LP, TY, simprocAttr, ↓reduceIte, forall_const, eq_self, ne_eq, Option.some.injEq, beq_self_eq_true] | ((first | apply fin_ndec | apply fin_dec | apply cnd_ndec | apply cnd_dec' | apply fin_nsplit | apply fin_split | apply cnd_nsplit | apply cnd_split) <;> intro hc) | refine seqS_id ?_ | refine blk_exit_id ?_)
              exact ⟨_, _, _, _, rfl, pan_hG rfl (by simp), rfl⟩
          | false =>
            have q2 := f1 n
            rw [if_neg (by simp)] at hje
            generalize hD2 : decI b n = d2 at *
            obtain ⟨sx, m, er⟩ := d2
            dsimp only at hje q2 hst
            have hro2 : (e.row.map C1.d).set o (.d (.int .i64 sx)) = (setE e o [] sx).row.map .d := by rw [← hro [] sx _ hpm, List.map_set]; rfl
            have hst2 := fun g => hst g (.d (.int .i64 sx))
            rw [hro2] at hst2
            simp only [frow, Bool.false_eq_true, if_false, ↓reduceIte] at d30
            generalize setE e o [] sx = e2 at *
            by_cases hu : er = 0
            · subst hu
              rw [if_pos rfl] at hje
              have hc := Nat.zero_add 0
              repeat' (first | simp only [hc, AS, NX, NPV, SX, NW, mkErr, RetsW_pan, hlt, nn, hw, d30, hle, q2, f3, hst2, Int.toNat_natCast, AB, PL, RG, LP, TY, simprocAttr, ↓reduceIte, forall_const, eq_self, ne_eq, Option.some.injEq, beq_self_eq_true] | ((first | apply fin_ndec | apply fin_dec | apply cnd_ndec | apply cnd_dec' | apply fin_nsplit | apply fin_split | apply cnd_nsplit | apply cnd_split) <;> intro hc) | refine seqS_id ?_ | refine blk_exit_id ?_)
              exact lp_next (j + 1, e2, m) (Wk.cutk (k := 6) (by decide) (by simp) (by simp) (by simp [subT, look]) (by simp [AV.low, V.low, C1.low]) (by simp only [List.all_cons, List.all_nil, Ob.low, lowD, zRow0_low, frows_low (F := F) (show (4 : Nat) < 6 by decide), Bool.and_true]; rfl)) ⟨by dsimp only; omega, hje⟩ (by dsimp only; omega)
            · rw [if_neg hu] at hje
              subst hje
              dsimp only [okRd] at hg
              subst hg
              have f4 := fun h => @emust_bad er h hu
              have hc := Nat.zero_add 0
              repeat' (first | simp only [hc, AS, NX, NPV, SX, NW, mkErr, RetsW_pan, hlt, nn, hw, d30, hle, q2, f3, f4, hst2, Int.toNat_natCast, AB, PL, RG, LP, TY, simprocAttr, ↓reduceIte, forall_const, eq_self, ne_eq, Option.some.injEq, beq_self_eq_true] | ((first | apply fin_ndec | apply fin_dec | apply cnd_ndec | apply cnd_dec' | apply fin_nsplit | apply fin_split | apply cnd_nsplit | apply cnd_split) <;> intro hc) | refine seqS_id ?_ | refine blk_exit_id ?_)
              exact ⟨_, _, _, _, rfl, pan_hG rfl (by simp), rfl⟩
        · have hlt : ((j : Int) < (F.length : Int)) = False := eq_false (by omega)
          rw [List.drop_eq_nil_of_le (by omega), readFl, okRd] at hje
          have g3 := @eright_at e
          cases hr : rightE e with
          | true =>
            rw [hr] at g3 hje
            rw [if_pos rfl] at hje
            subst hje
            obtain ⟨k', a', b', c', d', f', g', i', j', l', m', n', o', p', q', r'⟩ := e
            simp only [Evt.row] at g3
            dsimp only at hg
            subst hg
            have hc := Nat.zero_add 0
            repeat' (first | simp only [hc, AS, NX, NPV, SX, NW, mkErr, RetsW_pan, hlt, g3, Evt.row, List.map_cons, List.map_nil, zRow0_eq, AB, PL, RG, LP, TY, simprocAttr, ↓reduceIte, forall_const, eq_self, ne_eq, Option.some.injEq, beq_self_eq_true] | ((first | apply fin_ndec | apply fin_dec | apply cnd_ndec | apply cnd_dec' | apply fin_nsplit | apply fin_split | apply cnd_nsplit | apply cnd_split) <;> intro hc) | refine seqS_id ?_ | refine blk_exit_id ?_)
            exact ⟨⟨[(4, .v (.c (.ptr 3 0))), (5, AV.i n)], [.box zRow0, iB 0, iB 0, .box ((Evt.row ⟨k', a', b', c', d', f', g', i', j', l', m', n', o', p', q', r'⟩).map .d)]⟩, Wk.cutk (k := 4) (by decide) (by simp) rfl (by simp [subT, look]) rfl (by simp only [List.all_cons, List.all_nil, Ob.low, lowD, zRow0_low, Bool.and_true]; rfl), _, resE4, rfl⟩
          | false =>
            rw [hr] at g3 hje
            rw [if_neg (by simp)] at hje
            subst hje
            obtain ⟨k', a', b', c', d', f', g', i', j', l', m', n', o', p', q', r'⟩ := e
            simp only [Evt.row] at g3
            dsimp only at hg
            subst hg
            have hc := Nat.zero_add 0
            repeat' (first | simp only [hc, AS, NX, NPV, SX, NW, mkErr, RetsW_pan, hlt, g3, Evt.row, List.map_cons, List.map_nil, zRow0_eq, AB, PL, RG, LP, TY, simprocAttr, ↓reduceIte, forall_const, eq_self, ne_eq, Option.some.injEq, beq_self_eq_true] | ((first | apply fin_ndec | apply fin_dec | apply cnd_ndec | apply cnd_dec' | apply fin_nsplit | apply fin_split | apply cnd_nsplit | apply cnd_split) <;> intro hc) | refine seqS_id ?_ | refine blk_exit_id ?_)
            exact ⟨_, _, _, _, rfl, pan_hG rfl (by simp), rfl⟩
      · rw [if_neg hk] at hT
        subst hT
        dsimp only at hg
        subst hg
        have g1 := efields_none (id := 4) (k := k) (cs := ((zEvt k).row.tail).map .d) (h := [.box zRow0, iB 0, iB 0, .box zRow0, .box ((zEvt k).row.map .d)]) rfl rfl (by unfold LowH; simp only [List.all_cons, List.all_nil, Ob.low, lowD, zRow0_low, Bool.and_true]; rfl) rfl hk
        simp only [zEvt, Evt.row, List.map_cons, List.map_nil, List.length_cons, List.length_nil, List.cons_append, List.nil_append, Nat.reduceAdd, Nat.zero_add, zRow0_eq] at g1
        have hwk : (([] : List UInt8) == []) = true := rfl
        have hc := Nat.zero_add 0
        repeat' (first | simp only [hc, AS, Tryd.f45, avBI, NX, NPV, SX, NW, mkErr, RetsW_pan, q1, f3, g1, hwk, zRow0_eq, AB, PL, RG, LP, TY, simprocAttr, ↓reduceIte, forall_const, eq_self, ne_eq, Option.some.injEq, beq_self_eq_true] | ((first | apply fin_ndec | apply fin_dec | apply cnd_ndec | apply cnd_dec' | apply fin_nsplit | apply fin_split | apply cnd_nsplit | apply cnd_split) <;> intro hc) | refine seqS_id ?_ | refine blk_exit_id ?_)
        exact ⟨_, _, _, _, rfl, pan_hG rfl (by simp), rfl⟩
    · rw [if_neg her] at hT
      subst hT
      dsimp only at hg
      subst hg
      have f4 := fun h => @emust_bad er h her
      have hc := Nat.zero_add 0
      repeat' (first | simp only [hc, AS, Tryd.f45, avBI, NX, NPV, SX, NW, mkErr, RetsW_pan, q1, f4, AB, PL, RG, LP, TY, simprocAttr, ↓reduceIte, forall_const, eq_self, ne_eq, Option.some.injEq, beq_self_eq_true] | ((first | apply fin_ndec | apply fin_dec | apply cnd_ndec | apply cnd_dec' | apply fin_nsplit | apply fin_split | apply cnd_nsplit | apply cnd_split) <;> intro hc) | refine seqS_id ?_ | refine blk_exit_id ?_)
      exact ⟨_, _, _, _, rfl, pan_hG rfl (by simp), rfl⟩
  · cases hg

end
end Go.Ab

/-
  event.Get.
-/
namespace Go.Ab
open Go.RowKit Go.Proofs

noncomputable section
open Classical

theorem clG_idle (h : Hp) : DOk Tryd.prog Gt 44 (capsA caps3) h none h := by
  refine dok_of_awp2 (X := ctxN Tryd.prog Gt [] [] [] none) (l := [_, _, _, _, _, _]) Tryd.func44 rfl rfl rfl rfl rfl rfl rfl rfl (Nat.le_of_ble_eq_true rfl) ?_ (by kernel_rfl) (by kernel_rfl) (kok_n AllOk.nil AllK.nil AllN.nil) (Nat.le_of_ble_eq_true rfl) ?_
  · intro o ho t ht
    simp only [List.mem_cons, List.not_mem_nil, or_false] at ho
    rcases ho with rfl | rfl | rfl | rfl | rfl | rfl <;> cases ht <;> exact Nat.le_of_ble_eq_true rfl
  simp only [recV, capsA, List.map_cons, List.map_nil, argV3]
  have hc := Nat.zero_add 0
  repeat' (first | simp only [hc, AS, NX, NW, SX, zvErr, AB, PL, RG, LP, TY, simprocAttr, ↓reduceIte, forall_const, eq_self, ne_eq, Option.some.injEq, beq_self_eq_true] | ((first | apply fin_ndec | apply fin_dec | apply cnd_ndec | apply cnd_dec' | apply fin_nsplit | apply fin_split | apply cnd_nsplit | apply cnd_split) <;> intro hc) | refine seqS_id ?_ | refine blk_exit_id ?_)
  all_goals exact .inl trivial
theorem clG_pan (b c k : Int) (g : Hp) : DOk Tryd.prog Gt 44 (capsA caps3) (.box zRow0 :: iB b :: iB c :: g) (some (eno k)) (.box zRow0 :: iB 0 :: iB k :: g) := by
  refine dok_of_awp2 (X := ctxN Tryd.prog Gt [] [] [] none) (l := [_, _, _, _, _, _]) Tryd.func44 rfl rfl rfl rfl rfl rfl rfl rfl (Nat.le_of_ble_eq_true rfl) ?_ (by kernel_rfl) (by kernel_rfl) (kok_n AllOk.nil AllK.nil AllN.nil) (Nat.le_of_ble_eq_true rfl) ?_
  · intro o ho t ht
    simp only [List.mem_cons, List.not_mem_nil, or_false] at ho
    rcases ho with rfl | rfl | rfl | rfl | rfl | rfl <;> cases ht <;> exact Nat.le_of_ble_eq_true rfl
  simp only [recV, capsA, List.map_cons, List.map_nil, argV3, eno]
  have hc := Nat.zero_add 0
  repeat' (first | simp only [hc, AS, NX, NW, SX, zvErr, zRow0_eq, AB, PL, RG, LP, TY, simprocAttr, ↓reduceIte, forall_const, eq_self, ne_eq, Option.some.injEq, beq_self_eq_true] | ((first | apply fin_ndec | apply fin_dec | apply cnd_ndec | apply cnd_dec' | apply fin_nsplit | apply fin_split | apply cnd_nsplit | apply cnd_split) <;> intro hc) | refine seqS_id ?_ | refine blk_exit_id ?_)
  all_goals exact ⟨.inl trivial, rfl⟩
theorem resG {tab : Tab} {kt : KTab} {nt : NTab} {B : Option (TypeId × TypeId)} {U : TypeId → Bool} {Ed : Nat → Bool} {e : Evt} {b c : Int} : resAllV (ctxN Tryd.prog Gt tab kt nt B U Ed) ⟨t3, [.box (e.row.map .d), iB b, iB c]⟩ [.cell 4 27, .cell 5 3, .cell 6 29] = some [.agg (e.row.map .d), .c (.d (.int .i64 b)), .c (.d (.int .i64 c))] := by
  simp only [resAllV, resOneV, S.get, look, t3, NX, SX, AB, PL, RG, LP, TY, simprocAttr, ↓reduceIte, forall_const, eq_self, ne_eq, Option.some.injEq, beq_self_eq_true, Evt.row, List.map_cons, List.map_nil]
  rfl
theorem eread_at {f : Bool} {b : List UInt8} {p : Int} (h : b.length ≤ 1000000) : eread_k [.v (.c (.d (.sl f (b.map rowB)))), .v (.c (.d (.int .i64 p)))] hG = some (match readE b p with | .error k => .pan (eno k) hG | .ok (e, n) => .ret (.tup [.agg (e.row.map .d), .c (.d (.int .i64 n))]) (hG ++ [.box (e.row.map .d)])) := by
  have := kR_eq (R := rdG) (g := fun p => if p.1.2.length ≤ 1000000 then some (match readE p.1.2 p.2 with | .error k => COut.pan (eno k) hG | .ok (e, n) => .ret (.tup [.agg (e.row.map .d), .c (.d (.int .i64 n))]) (hG ++ [.box (e.row.map .d)])) else none) (a := ((f, b), p))
    (args := avBI ((f, b), p)) (h := hG) (fun b' hb => by rw [avBI_inj b' ((f, b), p) hb.1.symm]) ⟨rfl, rfl⟩
  exact this.trans (if_pos h)

def eget_m : List PA → Option (List PA) := mE encBI fun p => if p.1.2.length ≤ 1000000 then some [.agg (getE p.1.2 p.2).1.row, .i (getE p.1.2 p.2).2.1, .i (getE p.1.2 p.2).2.2] else none
theorem eget_at {f : Bool} {b : List UInt8} {p : Int} (h : b.length ≤ 1000000) : eget_m [.c (.sl f (b.map rowB)), .c (.int .i64 p)] = some [.agg (getE b p).1.row, .i (getE b p).2.1, .i (getE b p).2.2] := by
  have := mE_eq encBI_inj (g := fun p => if p.1.2.length ≤ 1000000 then some [DV.agg (getE p.1.2 p.2).1.row, .i (getE p.1.2 p.2).2.1, .i (getE p.1.2 p.2).2.2] else none) (a := ((f, b), p))
  exact this.trans (if_pos h)

abbrev treeG : Tr := .run [0] (.br 1 (.run [2, 3, 4] .fin) 2 (.run [1, 3, 4] .fin))
set_option maxHeartbeats 1000000 in
theorem eget_ok : PureC Tryd.prog Gt 23 eget_m := by
  refine pure_of_defer (X := ctxN Tryd.prog Gt [] [(45, eread_k)] [] none (uL []) (uL [3])) (i := 1) (l := [_]) (g := 44) (caps := caps3) Tryd.func23 rfl rfl (by kernel_rfl) (by kernel_rfl) rfl rfl rfl rfl rfl rfl ?_ (fun vs w => enters_of Tryd.func44 (by kernel_rfl) rfl vs w) (by kernel_rfl) (kok_n AllOk.nil (AllK.cons eread_kok AllK.nil) AllN.nil) ?_
  · intro o ho t ht
    rw [List.mem_singleton] at ho
    subst ho
    cases ht
    exact Nat.le_of_ble_eq_true rfl
  intro args r h0
  obtain ⟨⟨⟨f, b⟩, p⟩, rfl, h⟩ := mE_inv h0
  refine ⟨Nat.le_of_ble_eq_true rfl, ?_⟩
  split at h
  · rename_i hb
    simp only [Option.some.injEq] at h
    subst h
    refine ⟨[.box ((getE b p).1.row.map .d), iB (getE b p).2.1, iB (getE b p).2.2], ?_⟩
    have f1 := eread_at (f := f) (p := p) hb
    simp only [encBI, List.map_cons, List.map_nil, DV.av, DV.V, argV, NPV]
    have hD : getE b p = getE b p := rfl
    conv at hD => rhs; unfold getE
    have lowD : ∀ (l : List D) (m : Nat), ((l.map C1.d).all (C1.low m)) = true := fun l m => all_low_d m l
    cases hN : readE b p with
    | error e =>
      rw [hN] at f1 hD
      dsimp only at f1 hD
      rw [hD]
      simp only [hG, zRow0_eq] at f1
      have hc := Nat.zero_add 0
      repeat' (first | simp only [hc, AS, Tryd.f23, NX, NPV, NW, SX, HX, zvErr, f1, AB, PL, RG, LP, TY, simprocAttr, ↓reduceIte, forall_const, eq_self, ne_eq, Option.some.injEq, beq_self_eq_true] | ((first | apply fin_ndec | apply fin_dec | apply cnd_ndec | apply cnd_dec' | apply fin_nsplit | apply fin_split | apply cnd_nsplit | apply cnd_split) <;> intro hc) | refine seqS_id ?_ | refine blk_exit_id ?_)
      refine ⟨_, rfl, rfl, ?_⟩
      have hc := Nat.zero_add 0
      repeat' (first | simp only [hc, AS, NX, NPV, NW, SX, HX, zvErr, f1, AB, PL, RG, LP, TY, simprocAttr, ↓reduceIte, forall_const, eq_self, ne_eq, Option.some.injEq, beq_self_eq_true] | ((first | apply fin_ndec | apply fin_dec | apply cnd_ndec | apply cnd_dec' | apply fin_nsplit | apply fin_split | apply cnd_nsplit | apply cnd_split) <;> intro hc) | refine seqS_id ?_ | refine blk_exit_id ?_)
      exact retD3_pan (clG_pan 0 0 e []) rfl (by simp [subT, look]) (by simp only [List.all_cons, List.all_nil, Ob.low, zRow0_low, Bool.and_true]; rfl) (resG (e := zEvt 0)) rfl
    | ok q =>
      obtain ⟨e, n⟩ := q
      rw [hN] at f1 hD
      dsimp only at f1 hD
      rw [hD]
      obtain ⟨k', a', b', c', d', f', g', i', j', l', m', n', o', p', q', r'⟩ := e
      simp only [hG, zRow0_eq, Evt.row, List.map_cons, List.map_nil, List.cons_append, List.nil_append] at f1
      have hc := Nat.zero_add 0
      repeat' (first | simp only [hc, AS, Tryd.f23, NX, NPV, NW, SX, HX, zvErr, f1, AB, PL, RG, LP, TY, simprocAttr, ↓reduceIte, forall_const, eq_self, ne_eq, Option.some.injEq, beq_self_eq_true] | ((first | apply fin_ndec | apply fin_dec | apply cnd_ndec | apply cnd_dec' | apply fin_nsplit | apply fin_split | apply cnd_nsplit | apply cnd_split) <;> intro hc) | refine seqS_id ?_ | refine blk_exit_id ?_)
      refine ⟨_, rfl, rfl, ?_⟩
      have hc := Nat.zero_add 0
      repeat' (first | simp only [hc, AS, NX, NPV, NW, SX, HX, zvErr, f1, AB, PL, RG, LP, TY, simprocAttr, ↓reduceIte, forall_const, eq_self, ne_eq, Option.some.injEq, beq_self_eq_true] | ((first | apply fin_ndec | apply fin_dec | apply cnd_ndec | apply cnd_dec' | apply fin_nsplit | apply fin_split | apply cnd_nsplit | apply cnd_split) <;> intro hc) | refine seqS_id ?_ | refine blk_exit_id ?_)
      refine awp_fork treeG ⟨t3, [.box ((Evt.row ⟨k', a', b', c', d', f', g', i', j', l', m', n', o', p', q', r'⟩).map .d), iB n, iB 0, .box ((Evt.row ⟨k', a', b', c', d', f', g', i', j', l', m', n', o', p', q', r'⟩).map .d)]⟩ ⟨t3, [.box ((Evt.row ⟨k', a', b', c', d', f', g', i', j', l', m', n', o', p', q', r'⟩).map .d), iB n, iB 0, .box ((Evt.row ⟨k', a', b', c', d', f', g', i', j', l', m', n', o', p', q', r'⟩).map .d)]⟩ rfl (by kernel_rfl) ?_ ?_ ?_
      · skip
        have hc := Nat.zero_add 0
        repeat' (first | simp only [hc, AS, treeG, TRE, NX, NPV, NW, SX, HX, AB, PL, RG, LP, TY, simprocAttr, ↓reduceIte, forall_const, eq_self, ne_eq, Option.some.injEq, beq_self_eq_true] | ((first | apply fin_ndec | apply fin_dec | apply cnd_ndec | apply cnd_dec' | apply fin_nsplit | apply fin_split | apply cnd_nsplit | apply cnd_split) <;> intro hc) | refine seqS_id ?_ | refine blk_exit_id ?_)
        constructor <;> exact .inl (Wk.sub' (by simp [subT, look]) rfl)
      all_goals
        have hc := Nat.zero_add 0
        repeat' (first | simp only [hc, AS, NX, NPV, NW, SX, HX, AB, PL, RG, LP, TY, simprocAttr, ↓reduceIte, forall_const, eq_self, ne_eq, Option.some.injEq, beq_self_eq_true] | ((first | apply fin_ndec | apply fin_dec | apply cnd_ndec | apply cnd_dec' | apply fin_nsplit | apply fin_split | apply cnd_nsplit | apply cnd_split) <;> intro hc) | refine seqS_id ?_ | refine blk_exit_id ?_)
        exact retD3_ret (clG_idle _) rfl (by simp [subT, look]) (by simp only [List.all_cons, List.all_nil, Ob.low, lowD, Bool.and_true]; rfl) resG rfl
  · cases h

end
end Go.Ab
