/-
  Texts of the layer and of the laws, put together: AbQ10. No law is stated here.
-/
import Derived.Test.YtfokeholingnjaaDoorAbV33
set_option linter.unusedSimpArgs false
set_option linter.unusedVariables false
set_option maxRecDepth 100000

/-
  What the functions of reports compute: the report of an account.
-/
namespace Go.Ab
open Go.RowKit Go.Proofs

noncomputable section
open Classical

/-! Slices cut -/
section
variable {X : Ctx}
def slX (ful : Bool) (z : Nat) (es : List (List D)) (l u : Int) : Option D := if allLen z es ∧ 0 ≤ l ∧ l ≤ u ∧ u ≤ es.length then some (.sl ful ((es.drop l.toNat).take (u.toNat - l.toNat))) else none
def slZ (f : Bool) (es : List (List D)) (lo hi : Option Int) : Option Nat → Option D
  | some z => slX (f && decide (hi.getD es.length = es.length)) z es (lo.getD 0) (hi.getD es.length)
  | none => none
def slT' (X : Ctx) (f : Bool) (es : List (List D)) (lo hi : Option Int) : Option TypeDesc → Option D
  | some (.slice e) => slZ f es lo hi (X.size e)
  | _ => none
theorem sla_eq {t : TypeId} {f : Bool} {es : List (List D)} {lo hi : Option Int} : X.sliceA t (.v (.c (.d (.sl f es)))) lo hi none = slT' X f es lo hi (X.P.underlying t) := by
  unfold Ctx.sliceA slT'
  cases X.P.underlying t with
  | none => rfl
  | some d =>
    cases d <;> try rfl
    rename_i e
    simp only [Option.bind_some, C1.elems]
    cases X.size e with
    | none => rfl
    | some z =>
      simp only [Option.bind_some, Option.isNone_none, true_or, true_and, fullOf, reduceCtorEq, false_implies, implies_true, slZ]
      split
      · rename_i h1; exact (if_pos (show allLen z es ∧ _ from h1)).symm
      · rename_i h1; exact (if_neg (show ¬ (allLen z es ∧ _) from h1)).symm
theorem slT_sl {e : TypeId} {f : Bool} {es : List (List D)} {lo hi : Option Int} : slT' X f es lo hi (some (.slice e)) = slZ f es lo hi (X.size e) := rfl
theorem slZ_some {z : Nat} {f : Bool} {es : List (List D)} {lo hi : Option Int} : slZ f es lo hi (some z) = slX (f && decide (hi.getD es.length = es.length)) z es (lo.getD 0) (hi.getD es.length) := rfl
theorem slX_ok {ful : Bool} {z : Nat} {es : List (List D)} {l u : Int} (h0 : allLen z es = True) (h1 : (0 ≤ l) = True) (h2 : (l ≤ u) = True) (h3 : (u ≤ (es.length : Int)) = True) : slX ful z es l u = some (.sl ful ((es.drop l.toNat).take (u.toNat - l.toNat))) := by
  unfold slX
  rw [if_pos ⟨of_eq_true h0, of_eq_true h1, of_eq_true h2, of_eq_true h3⟩]
end

theorem ent_rows {l : List Ent} : allLen 3 (l.map Ent.row) = True := eq_true fun r hr => by
  obtain ⟨x, _, rfl⟩ := List.mem_map.1 hr
  rfl

def accOut (s : St) (name : List UInt8) : List PA := match foundA s.accs name with
  | none => [.s [], .i 25]
  | some a => [.s (accRep a s.ents name), .i 0]
def St.OwnOk (s : St) : Prop := ∀ a ∈ s.accs, a.owned.length ≤ 2932031007317

def tacc_m : List PA → Option (List PA) := mR stS fun p => if p.1.Wf ∧ p.1.Small ∧ p.1.OwnOk ∧ p.2.length ≤ 200 then some (accOut p.1 p.2) else none
def rtacc_m : List PA → Option (List PA) := mR stS fun p => if p.1.Wf ∧ p.1.Small ∧ p.2.length ≤ 200 then some (accOut p.1 p.2) else none

theorem has_snoc (k : List UInt8) (l : List (List UInt8 × Int)) (p : List UInt8 × Int) : hasP k (l ++ [p]) = (hasP k l || (p.1 == k)) := by simp [hasP]
theorem inI_sumP (k : List UInt8) : ∀ (l : List (List UInt8 × Int)) (n : Int), inI n = true → inI (sumP k n l) = true
  | [], n, h => h
  | p :: l, n, h => by
    have : sumP k n (p :: l) = sumP k (addP k n p) l := rfl
    rw [this]
    refine inI_sumP k l _ ?_
    unfold addP
    split
    · exact inI_W _
    · exact h
theorem inI_0 : inI 0 = true := inI_iff.2 (by omega)
theorem inI_balF (k : List UInt8) : ∀ (l : List Ent), inI (balF l k) = true := fun l => by
  have : ∀ (l : List Ent) (n : Int), inI n = true → inI (l.foldl (fun n e => sumP k n e.posts) n) = true := fun l => by
    induction l with
    | nil => exact fun n h => h
    | cons e l ih => exact fun n h => ih _ (inI_sumP k e.posts n h)
  exact this l 0 inI_0
theorem kind_le (a : Acc) : (kindF a).length ≤ 1000 := by unfold kindF; split <;> (try split) <;> simp
theorem entL_le {k : List UInt8} {e : Ent} (h : e.sm = true) : (entL k e).length ≤ 4005 := by
  obtain ⟨_, hk, _⟩ := Ent.sm_iff.1 h
  unfold entL
  split
  · refine line_le (l := [_, _, _, _]) (le4 (by simp) (by have := date_le (dayF e.time); omega) (by have := show_le (inI_sumP k e.posts 0 inI_0); omega) (by have := esc_le hk; omega))
  · simp
theorem ents_le {k : List UInt8} {l : List Ent} (hl : l.length ≤ 40) (h : ∀ e ∈ l, e.sm = true) (j : Nat) : ((l.take j).flatMap (entL k)).length ≤ 200000 := by
  have := fl_le (entL k) 4005 (l.take j) (fun e he => entL_le (h e (List.mem_of_mem_take he)))
  have hk : (l.take j).length ≤ 40 := by rw [List.length_take]; omega
  omega

theorem tacc_ok : PureC Tryd.prog Gt 17 tacc_m := by
  refine pure_of_awp (X := ctx Tryd.prog Gt [(39, find_m), (26, tesc_m), (25, line_m), (40, ebal_m), (28, mshow_m), (33, tdate_m), (34, cday_m)]) Tryd.func17 rfl rfl (by kernel_rfl) (by kernel_rfl) (AllOk.cons find_ok (AllOk.cons tesc_ok (AllOk.cons line_ok (AllOk.cons ebal_ok (AllOk.cons mshow_ok (AllOk.cons tdate_ok (AllOk.cons cday_ok AllOk.nil))))))).kok ?_
  intro args r h0
  obtain ⟨⟨s, nm⟩, ⟨hs, rfl⟩, h⟩ := mR_inv h0
  refine ⟨Nat.le_of_ble_eq_true rfl, ?_⟩
  split at h
  · rename_i hw
    obtain ⟨hw, hsm, hoo, hnm⟩ := hw
    dsimp only at hs hw hsm hoo hnm h ⊢
    cases h
    have hal := hsm.accs
    have c17 := hs.c17
    have c35 := hs.c35
    have hl := hs.len
    have ht : s.cells.take 39 = s.cells := List.take_of_length_le (by omega)
    have f1 := find_at (f := s.af) (l := s.accs) (name := nm) (by omega) hoo
    unfold accOut
    cases hF : foundA s.accs nm with
    | none =>
      rw [hF] at f1
      simp only [zeroAcc, Acc.row] at f1
      dsimp only
      have hc := Nat.zero_add 0
      repeat' (first | (simp only [hc, Tryd.f17, SX, WH, hl, c17, f1, AB, PL, RG, LP, TY, Nat.reduceEqDiff, Nat.reduceAdd, Nat.reduceSub, Nat.reduceMul, Nat.reduceLT, Nat.reduceLeDiff, Nat.reduceMod, Nat.reduceDiv, reduceCtorEq, Int.reduceEq, Int.reduceNe, Int.reduceLT, Int.reduceLE, Int.reduceNeg, Int.reduceToNat, Int.reduceAdd, Int.reduceSub, Int.reduceMul, ↓reduceIte, forall_const, eq_self, ne_eq, Option.some.injEq, beq_self_eq_true]) | refine fin_ndec (fun hc => ?_) (fun hc => ?_) | refine fin_dec (fun hc => ?_) (fun hc => ?_) | refine cnd_ndec (fun hc => ?_) (fun hc => ?_) | refine cnd_dec' (fun hc => ?_) (fun hc => ?_) | refine fin_nsplit (fun hc => ?_) (fun hc => ?_) | refine fin_split (fun hc => ?_) (fun hc => ?_) | refine cnd_nsplit (fun hc => ?_) (fun hc => ?_) | refine cnd_split (fun hc => ?_) (fun hc => ?_) | refine blk_exit_id ?_)
      all_goals simp [DV.i]
    | some a =>
      rw [hF] at f1
      dsimp only at f1 ⊢
      have g1 := tesc_at hnm
      have gl := esc_le hnm
      have g2 := ebal_at hs hw hnm
      have gb := inI_balF (ownF nm) s.ents
      have g3 := mshow_at gb
      have hR : accRep a s.ents nm = lineF [[97, 99, 99, 111, 117, 110, 116], escF nm, kindF a] ++ lineF [[98, 97, 108, 97, 110, 99, 101], showF (balF s.ents (ownF nm))] ++ s.ents.flatMap (entL (ownF nm)) := rfl
      have g4 := ln3 (a := [97, 99, 99, 111, 117, 110, 116]) (b := escF nm) (c := kindF a) (by simp) (by omega) (kind_le a)
      have g5 := ln2 (a := [98, 97, 108, 97, 110, 99, 101]) (b := showF (balF s.ents (ownF nm))) (by simp) (by have := show_le gb; omega)
      have q4 : (lineF [[97, 99, 99, 111, 117, 110, 116], escF nm, kindF a]).length ≤ 3004 := line_le (l := [_, _, _]) (le3 (by simp) (by omega) (kind_le a))
      have q5 : (lineF [[98, 97, 108, 97, 110, 99, 101], showF (balF s.ents (ownF nm))]).length ≤ 2003 := line_le (l := [_, _]) (le2 (by simp) (by have := show_le gb; omega))
      have hK : kindF a = if a.exempt = true then [101, 120, 101, 109, 112, 116] else if a.prepay = true then [112, 114, 101, 112, 97, 121] else [112, 111, 115, 116, 112, 97, 121] := rfl
      generalize accRep a s.ents nm = R at *
      generalize lineF [[97, 99, 99, 111, 117, 110, 116], escF nm, kindF a] = L1 at *
      generalize showF (balF s.ents (ownF nm)) = S1 at *
      generalize lineF [[98, 97, 108, 97, 110, 99, 101], S1] = L2 at *
      have k1 : (L1.length + L2.length ≤ 4611686018427387904) = True := eq_true (by omega)
      generalize kindF a = K at *
      simp only [Acc.row, Acc.cl] at f1
      have lents := ents_le (k := ownF nm) hsm.ents hsm.esm
      have l35 : ((s.ents.map Ent.row).length : Int) = s.ents.length := by simp
      have hel := hsm.ents
      have ho : ownF nm = [97, 99, 99, 111, 117, 110, 116, 58] ++ nm := rfl
      have k9 : (8 + nm.length ≤ 4611686018427387904) = True := eq_true (by omega)
      have hlen : ∀ j, (L1 ++ L2 ++ (s.ents.take j).flatMap (entL (ownF nm))).length ≤ 300000 := fun j => by
        have := lents j
        simp only [List.length_append]
        omega
      cases hx : a.exempt <;> cases hp : a.prepay
      all_goals
        simp only [hx, hp, Bool.false_eq_true, if_false, if_true] at hK
        subst hK
        have hc := Nat.zero_add 0
        repeat' (first | (simp only [hc, Tryd.f17, SX, WH, hl, ht, c17, c35, f1, g1, g2, g3, g4, g5, k1, l35, hx, hp, AB, PL, RG, LP, TY, Nat.reduceEqDiff, Nat.reduceAdd, Nat.reduceSub, Nat.reduceMul, Nat.reduceLT, Nat.reduceLeDiff, Nat.reduceMod, Nat.reduceDiv, reduceCtorEq, Int.reduceEq, Int.reduceNe, Int.reduceLT, Int.reduceLE, Int.reduceNeg, Int.reduceToNat, Int.reduceAdd, Int.reduceSub, Int.reduceMul, ↓reduceIte, forall_const, eq_self, ne_eq, Option.some.injEq, beq_self_eq_true]) | refine fin_ndec (fun hc => ?_) (fun hc => ?_) | refine fin_dec (fun hc => ?_) (fun hc => ?_) | refine cnd_ndec (fun hc => ?_) (fun hc => ?_) | refine cnd_dec' (fun hc => ?_) (fun hc => ?_) | refine fin_nsplit (fun hc => ?_) (fun hc => ?_) | refine fin_split (fun hc => ?_) (fun hc => ?_) | refine cnd_nsplit (fun hc => ?_) (fun hc => ?_) | refine cnd_split (fun hc => ?_) (fun hc => ?_) | refine blk_exit_id ?_)
        refine awp_loop (σ := Nat) (fun j => j ≤ s.ents.length)
          (fun j => ⟨[(49, AV.i j), (48, AV.i s.ents.length), (47, AV.d (.sl s.ef (s.ents.map Ent.row))), (9, AV.s (L1 ++ L2 ++ (s.ents.take j).flatMap (entL (ownF nm)))), (1, AV.s nm)],
            [.box (s.cells.map .d), .box [.d (.str a.name), .d (.str a.agency), .d (.bool a.prepay), .d (.sl false (a.owned.map Own.row)), .d (.int .i64 a.below), .d (.int .i64 a.rcents), .d (.int .i64 a.tries), .d (.int .i64 a.wait), .d (.bool a.exempt)]]⟩)
          (fun j => s.ents.length - j) 0 (Wk.sub' (by simp [subT, look]) (by simp [hx, hp])) (by simp) ?_
        intro j hj
        have hlj := hlen j
        by_cases hjl : j < s.ents.length
        · have e1 : (s.ents.map Ent.row)[j]? = some s.ents[j].row := by simp [hjl]
          have hlt : ((j : Int) < (s.ents.length : Int)) = True := eq_true (by omega)
          have hw1 := wI (n := (j : Int) + 1) (by omega) (by omega)
          have hmem : s.ents[j] ∈ s.ents := List.getElem_mem hjl
          have hesm := hsm.esm _ hmem
          have hstep := takeC hjl (entL (ownF nm))
          have hEl := entL_le (k := ownF nm) hesm
          obtain ⟨hpl, hkl, _⟩ := Ent.sm_iff.1 hesm
          have hE : entL (ownF nm) s.ents[j] = if hasP (ownF nm) s.ents[j].posts = true then lineF [[101, 110, 116, 114, 121], dateF (dayF s.ents[j].time), showF (sumP (ownF nm) 0 s.ents[j].posts), escF s.ents[j].key] else [] := rfl
          generalize entL (ownF nm) s.ents[j] = EL at *
          generalize s.ents[j] = e at *
          obtain ⟨k0, t0, pf, ps⟩ := e
          dsimp only at hpl hkl hE
          simp only [Ent.row] at e1
          have l2 : ((ps.map rowL).length : Int) = ps.length := by simp
          have hc := Nat.zero_add 0
          repeat' (first | (simp only [hc, SX, WH, l35, e1, hlt, nn, l2, AB, PL, RG, LP, TY, Nat.reduceEqDiff, Nat.reduceAdd, Nat.reduceSub, Nat.reduceMul, Nat.reduceLT, Nat.reduceLeDiff, Nat.reduceMod, Nat.reduceDiv, reduceCtorEq, Int.reduceEq, Int.reduceNe, Int.reduceLT, Int.reduceLE, Int.reduceNeg, Int.reduceToNat, Int.reduceAdd, Int.reduceSub, Int.reduceMul, ↓reduceIte, forall_const, eq_self, ne_eq, Option.some.injEq, beq_self_eq_true]) | refine fin_ndec (fun hc => ?_) (fun hc => ?_) | refine fin_dec (fun hc => ?_) (fun hc => ?_) | refine cnd_ndec (fun hc => ?_) (fun hc => ?_) | refine cnd_dec' (fun hc => ?_) (fun hc => ?_) | refine fin_nsplit (fun hc => ?_) (fun hc => ?_) | refine fin_split (fun hc => ?_) (fun hc => ?_) | refine cnd_nsplit (fun hc => ?_) (fun hc => ?_) | refine cnd_split (fun hc => ?_) (fun hc => ?_) | refine blk_exit_id ?_)
          refine awp_loop (σ := Nat) (fun q => q ≤ ps.length)
            (fun q => ⟨[(56, AV.i q), (55, AV.i ps.length), (54, AV.d (.sl pf (ps.map rowL))), (12, AV.i (sumP (ownF nm) 0 (ps.take q))), (13, AV.b (hasP (ownF nm) (ps.take q))), (11, .v (.c (.ptr 2 0))), (49, AV.i j), (48, AV.i s.ents.length), (47, AV.d (.sl s.ef (s.ents.map Ent.row))), (9, AV.s (L1 ++ L2 ++ (s.ents.take j).flatMap (entL (ownF nm)))), (1, AV.s nm)],
              [.box (s.cells.map .d), .box [.d (.str a.name), .d (.str a.agency), .d (.bool a.prepay), .d (.sl false (a.owned.map Own.row)), .d (.int .i64 a.below), .d (.int .i64 a.rcents), .d (.int .i64 a.tries), .d (.int .i64 a.wait), .d (.bool a.exempt)], .box [.d (.str k0), .d (.int .i64 t0), .d (.sl pf (ps.map rowL))]]⟩)
            (fun q => ps.length - q) 0 (Wk.sub' (by simp [subT, look, sumP, hasP]) (by simp)) (by simp) ?_
          intro q hq
          by_cases hql : q < ps.length
          · have e2 : (ps.map rowL)[q]? = some [.str ps[q].1, .int .i64 ps[q].2] := by simp [hql, rowL]
            have hltq : ((q : Int) < (ps.length : Int)) = True := eq_true (by omega)
            have hwq := wI (n := (q : Int) + 1) (by omega) (by omega)
            have hst2 : sumP (ownF nm) 0 (ps.take (q + 1)) = addP (ownF nm) (sumP (ownF nm) 0 (ps.take q)) ps[q] := by rw [List.take_succ_eq_append_getElem hql, sumP_snoc]
            have hst3 : hasP (ownF nm) (ps.take (q + 1)) = (hasP (ownF nm) (ps.take q) || (ps[q].1 == ownF nm)) := by rw [List.take_succ_eq_append_getElem hql, has_snoc]
            generalize ps[q] = x at *
            by_cases hxk : x.1 = ownF nm
            · have hb : (x.1 == 97 :: 99 :: 99 :: 111 :: 117 :: 110 :: 116 :: 58 :: nm) = true := by simp [hxk, ho]
              rw [addP, if_pos hxk] at hst2
              simp only [hxk, beq_self_eq_true, Bool.or_true] at hst3
              have hc := Nat.zero_add 0
              repeat' (first | (simp only [hc, SX, WH, l2, e2, hltq, nn, hwq, k9, hb, AB, PL, RG, LP, TY, Nat.reduceEqDiff, Nat.reduceAdd, Nat.reduceSub, Nat.reduceMul, Nat.reduceLT, Nat.reduceLeDiff, Nat.reduceMod, Nat.reduceDiv, reduceCtorEq, Int.reduceEq, Int.reduceNe, Int.reduceLT, Int.reduceLE, Int.reduceNeg, Int.reduceToNat, Int.reduceAdd, Int.reduceSub, Int.reduceMul, ↓reduceIte, forall_const, eq_self, ne_eq, Option.some.injEq, beq_self_eq_true]) | refine fin_ndec (fun hc => ?_) (fun hc => ?_) | refine fin_dec (fun hc => ?_) (fun hc => ?_) | refine cnd_ndec (fun hc => ?_) (fun hc => ?_) | refine cnd_dec' (fun hc => ?_) (fun hc => ?_) | refine fin_nsplit (fun hc => ?_) (fun hc => ?_) | refine fin_split (fun hc => ?_) (fun hc => ?_) | refine cnd_nsplit (fun hc => ?_) (fun hc => ?_) | refine cnd_split (fun hc => ?_) (fun hc => ?_) | refine blk_exit_id ?_)
              exact lp_next (q + 1) (Wk.cutk (k := 3) (by simp) (by simp) (by simp [hst2, hst3]) (by simp [subT, look, hst2, hst3]) (by first | rfl | simp [AV.low, V.low, C1.low]) (by first | rfl | simp [Ob.low, C1.low, all_low_d])) (by omega) (by omega)
            · have hb : (x.1 == 97 :: 99 :: 99 :: 111 :: 117 :: 110 :: 116 :: 58 :: nm) = false := by simpa [ho] using hxk
              have hb' : (x.1 == ownF nm) = false := by simpa using hxk
              rw [addP, if_neg hxk] at hst2
              simp only [hb', Bool.or_false] at hst3
              have hc := Nat.zero_add 0
              repeat' (first | (simp only [hc, SX, WH, l2, e2, hltq, nn, hwq, k9, hb, AB, PL, RG, LP, TY, Nat.reduceEqDiff, Nat.reduceAdd, Nat.reduceSub, Nat.reduceMul, Nat.reduceLT, Nat.reduceLeDiff, Nat.reduceMod, Nat.reduceDiv, reduceCtorEq, Int.reduceEq, Int.reduceNe, Int.reduceLT, Int.reduceLE, Int.reduceNeg, Int.reduceToNat, Int.reduceAdd, Int.reduceSub, Int.reduceMul, ↓reduceIte, forall_const, eq_self, ne_eq, Option.some.injEq, beq_self_eq_true]) | refine fin_ndec (fun hc => ?_) (fun hc => ?_) | refine fin_dec (fun hc => ?_) (fun hc => ?_) | refine cnd_ndec (fun hc => ?_) (fun hc => ?_) | refine cnd_dec' (fun hc => ?_) (fun hc => ?_) | refine fin_nsplit (fun hc => ?_) (fun hc => ?_) | refine fin_split (fun hc => ?_) (fun hc => ?_) | refine cnd_nsplit (fun hc => ?_) (fun hc => ?_) | refine cnd_split (fun hc => ?_) (fun hc => ?_) | refine blk_exit_id ?_)
              exact lp_next (q + 1) (Wk.cutk (k := 3) (by simp) (by simp) (by simp [hst2, hst3]) (by simp [subT, look, hst2, hst3]) (by first | rfl | simp [AV.low, V.low, C1.low]) (by first | rfl | simp [Ob.low, C1.low, all_low_d])) (by omega) (by omega)
          · have hltq : ((q : Int) < (ps.length : Int)) = False := eq_false (by omega)
            have et : ps.take q = ps := List.take_of_length_le (by omega)
            simp only [et]
            cases hh : hasP (ownF nm) ps with
            | false =>
              rw [hh, if_neg (by simp)] at hE
              subst hE
              have hc := Nat.zero_add 0
              repeat' (first | (simp only [hc, SX, WH, l2, hltq, hw1, hh, AB, PL, RG, LP, TY, Nat.reduceEqDiff, Nat.reduceAdd, Nat.reduceSub, Nat.reduceMul, Nat.reduceLT, Nat.reduceLeDiff, Nat.reduceMod, Nat.reduceDiv, reduceCtorEq, Int.reduceEq, Int.reduceNe, Int.reduceLT, Int.reduceLE, Int.reduceNeg, Int.reduceToNat, Int.reduceAdd, Int.reduceSub, Int.reduceMul, ↓reduceIte, forall_const, eq_self, ne_eq, Option.some.injEq, beq_self_eq_true]) | refine fin_ndec (fun hc => ?_) (fun hc => ?_) | refine fin_dec (fun hc => ?_) (fun hc => ?_) | refine cnd_ndec (fun hc => ?_) (fun hc => ?_) | refine cnd_dec' (fun hc => ?_) (fun hc => ?_) | refine fin_nsplit (fun hc => ?_) (fun hc => ?_) | refine fin_split (fun hc => ?_) (fun hc => ?_) | refine cnd_nsplit (fun hc => ?_) (fun hc => ?_) | refine cnd_split (fun hc => ?_) (fun hc => ?_) | refine blk_exit_id ?_)
              exact lp_next (j + 1) (Wk.cutk (k := 2) (by simp) (by simp) (by simp [hstep]) (by simp [subT, look, hstep]) (by first | rfl | simp [AV.low, V.low, C1.low]) (by first | rfl | simp [Ob.low, C1.low, all_low_d])) (by omega) (by omega)
            | true =>
              rw [hh, if_pos rfl] at hE
              have r1 := @tdate_at (dayF t0)
              have hsi := inI_sumP (ownF nm) ps 0 inI_0
              have r2 := mshow_at hsi
              have r3 := tesc_at hkl
              have r4 := ln4 (a := [101, 110, 116, 114, 121]) (b := dateF (dayF t0)) (c := showF (sumP (ownF nm) 0 ps)) (d := escF k0) (by simp) (by have := date_le (dayF t0); omega) (by have := show_le hsi; omega) (by have := esc_le hkl; omega)
              rw [← hE] at r4
              have k5 : ((L1 ++ L2 ++ (s.ents.take j).flatMap (entL (ownF nm))).length + EL.length ≤ 4611686018427387904) = True := eq_true (by omega)
              have hc := Nat.zero_add 0
              repeat' (first | (simp only [hc, SX, WH, l2, hltq, hw1, hh, cday_m, mEq, r1, r2, r3, r4, k5, AB, PL, RG, LP, TY, Nat.reduceEqDiff, Nat.reduceAdd, Nat.reduceSub, Nat.reduceMul, Nat.reduceLT, Nat.reduceLeDiff, Nat.reduceMod, Nat.reduceDiv, reduceCtorEq, Int.reduceEq, Int.reduceNe, Int.reduceLT, Int.reduceLE, Int.reduceNeg, Int.reduceToNat, Int.reduceAdd, Int.reduceSub, Int.reduceMul, ↓reduceIte, forall_const, eq_self, ne_eq, Option.some.injEq, beq_self_eq_true]) | refine fin_ndec (fun hc => ?_) (fun hc => ?_) | refine fin_dec (fun hc => ?_) (fun hc => ?_) | refine cnd_ndec (fun hc => ?_) (fun hc => ?_) | refine cnd_dec' (fun hc => ?_) (fun hc => ?_) | refine fin_nsplit (fun hc => ?_) (fun hc => ?_) | refine fin_split (fun hc => ?_) (fun hc => ?_) | refine cnd_nsplit (fun hc => ?_) (fun hc => ?_) | refine cnd_split (fun hc => ?_) (fun hc => ?_) | refine blk_exit_id ?_)
              exact lp_next (j + 1) (Wk.cutk (k := 2) (by simp) (by simp) (by simp [hstep]) (by simp [subT, look, hstep]) (by first | rfl | simp [AV.low, V.low, C1.low]) (by first | rfl | simp [Ob.low, C1.low, all_low_d])) (by omega) (by omega)
        · have hlt : ((j : Int) < (s.ents.length : Int)) = False := eq_false (by omega)
          rw [List.take_of_length_le (by omega)]
          have hc := Nat.zero_add 0
          repeat' (first | (simp only [hc, SX, WH, l35, hlt, AB, PL, RG, LP, TY, Nat.reduceEqDiff, Nat.reduceAdd, Nat.reduceSub, Nat.reduceMul, Nat.reduceLT, Nat.reduceLeDiff, Nat.reduceMod, Nat.reduceDiv, reduceCtorEq, Int.reduceEq, Int.reduceNe, Int.reduceLT, Int.reduceLE, Int.reduceNeg, Int.reduceToNat, Int.reduceAdd, Int.reduceSub, Int.reduceMul, ↓reduceIte, forall_const, eq_self, ne_eq, Option.some.injEq, beq_self_eq_true]) | refine fin_ndec (fun hc => ?_) (fun hc => ?_) | refine fin_dec (fun hc => ?_) (fun hc => ?_) | refine cnd_ndec (fun hc => ?_) (fun hc => ?_) | refine cnd_dec' (fun hc => ?_) (fun hc => ?_) | refine fin_nsplit (fun hc => ?_) (fun hc => ?_) | refine fin_split (fun hc => ?_) (fun hc => ?_) | refine cnd_nsplit (fun hc => ?_) (fun hc => ?_) | refine cnd_split (fun hc => ?_) (fun hc => ?_) | refine blk_exit_id ?_)
          all_goals simp [hR, DV.i]
  · cases h

theorem bal_one (e : Ent) (k : List UInt8) : balF [e] k = sumP k 0 e.posts := rfl
theorem kind_at {a : Acc} : kind_m [.agg a.row] = some [.s (kindF a)] := by
  rw [kind_m, show ([.agg a.row] : List PA) = encAcc a from rfl, mE_eq encAcc_inj]

theorem rtacc_ok : PureC Tryd.prog Gt 18 rtacc_m := by
  refine pure_of_awp (X := ctx Tryd.prog Gt [(41, rFind_m), (30, resc_m), (42, kind_m), (29, rline_m), (43, rbal_m), (32, rshow_m), (37, rtdate_m), (38, rday_m)]) Tryd.func18 rfl rfl (by kernel_rfl) (by kernel_rfl) (AllOk.cons rFind_ok (AllOk.cons resc_ok (AllOk.cons kind_ok (AllOk.cons rline_ok (AllOk.cons rbal_ok (AllOk.cons rshow_ok (AllOk.cons rtdate_ok (AllOk.cons rday_ok AllOk.nil)))))))).kok ?_
  intro args r h0
  obtain ⟨⟨s, nm⟩, ⟨hs, rfl⟩, h⟩ := mR_inv h0
  refine ⟨Nat.le_of_ble_eq_true rfl, ?_⟩
  split at h
  · rename_i hw
    obtain ⟨hw, hsm, hnm⟩ := hw
    dsimp only at hs hw hsm hnm h ⊢
    cases h
    have hal := hsm.accs
    have c17 := hs.c17
    have c35 := hs.c35
    have hl := hs.len
    have f1 := rFind_at (f := s.af) (l := s.accs) (name := nm) (by omega)
    unfold accOut
    cases hF : foundA s.accs nm with
    | none =>
      rw [hF] at f1
      simp only [zeroAcc, Acc.row] at f1
      dsimp only
      have hc := Nat.zero_add 0
      repeat' (first | (simp only [hc, Tryd.f18, SX, WH, hl, c17, f1, AB, PL, RG, LP, TY, Nat.reduceEqDiff, Nat.reduceAdd, Nat.reduceSub, Nat.reduceMul, Nat.reduceLT, Nat.reduceLeDiff, Nat.reduceMod, Nat.reduceDiv, reduceCtorEq, Int.reduceEq, Int.reduceNe, Int.reduceLT, Int.reduceLE, Int.reduceNeg, Int.reduceToNat, Int.reduceAdd, Int.reduceSub, Int.reduceMul, ↓reduceIte, forall_const, eq_self, ne_eq, Option.some.injEq, beq_self_eq_true]) | refine fin_ndec (fun hc => ?_) (fun hc => ?_) | refine fin_dec (fun hc => ?_) (fun hc => ?_) | refine cnd_ndec (fun hc => ?_) (fun hc => ?_) | refine cnd_dec' (fun hc => ?_) (fun hc => ?_) | refine fin_nsplit (fun hc => ?_) (fun hc => ?_) | refine fin_split (fun hc => ?_) (fun hc => ?_) | refine cnd_nsplit (fun hc => ?_) (fun hc => ?_) | refine cnd_split (fun hc => ?_) (fun hc => ?_) | refine blk_exit_id ?_)
      all_goals simp [DV.i]
    | some a =>
      rw [hF] at f1
      dsimp only at f1 ⊢
      have g1 := resc_at hnm
      have gl := esc_le hnm
      have ho' : 97 :: 99 :: 99 :: 111 :: 117 :: 110 :: 116 :: 58 :: nm = ownF nm := rfl
      have g2 := rbal_at (f := s.ef) (l := s.ents) (k := ownF nm) ⟨hw.enl, fun e he => (hw.enr e he).2.1⟩
      have gb := inI_balF (ownF nm) s.ents
      have g3 := rshow_at gb
      have g6 := @kind_at a
      have hR : accRep a s.ents nm = lineF [[97, 99, 99, 111, 117, 110, 116], escF nm, kindF a] ++ lineF [[98, 97, 108, 97, 110, 99, 101], showF (balF s.ents (ownF nm))] ++ s.ents.flatMap (entL (ownF nm)) := rfl
      have g4 := rln3 (a := [97, 99, 99, 111, 117, 110, 116]) (b := escF nm) (c := kindF a) (by simp) (by omega) (kind_le a)
      have g5 := rln2 (a := [98, 97, 108, 97, 110, 99, 101]) (b := showF (balF s.ents (ownF nm))) (by simp) (by have := show_le gb; omega)
      have q4 : (lineF [[97, 99, 99, 111, 117, 110, 116], escF nm, kindF a]).length ≤ 3004 := line_le (l := [_, _, _]) (le3 (by simp) (by omega) (kind_le a))
      have q5 : (lineF [[98, 97, 108, 97, 110, 99, 101], showF (balF s.ents (ownF nm))]).length ≤ 2003 := line_le (l := [_, _]) (le2 (by simp) (by have := show_le gb; omega))
      generalize accRep a s.ents nm = R at *
      generalize lineF [[97, 99, 99, 111, 117, 110, 116], escF nm, kindF a] = L1 at *
      generalize showF (balF s.ents (ownF nm)) = S1 at *
      generalize lineF [[98, 97, 108, 97, 110, 99, 101], S1] = L2 at *
      have k1 : (L1.length + L2.length ≤ 4611686018427387904) = True := eq_true (by omega)
      generalize kindF a = K at *
      simp only [Acc.row] at f1 g6
      have lents := ents_le (k := ownF nm) hsm.ents hsm.esm
      have l35 : ((s.ents.map Ent.row).length : Int) = s.ents.length := by simp
      have hel := hsm.ents
      have k9 : (8 + nm.length ≤ 4611686018427387904) = True := eq_true (by omega)
      have hlen : ∀ j, (L1 ++ L2 ++ (s.ents.take j).flatMap (entL (ownF nm))).length ≤ 300000 := fun j => by
        have := lents j
        simp only [List.length_append]
        omega
      have c35' : (s.cells.drop 35).take 1 = [.sl s.ef (s.ents.map Ent.row)] := by
        have h35 := hs.c35
        rw [List.drop_eq_getElem_cons (by rw [hs.len]; omega)]
        rw [List.getElem?_eq_getElem (by rw [hs.len]; omega)] at h35
        rw [Option.some.inj h35]; rfl
      have hc := Nat.zero_add 0
      repeat' (first | (simp only [hc, Tryd.f18, SX, WH, hl, c17, c35, c35', f1, g1, g2, g3, g4, g5, g6, k1, k9, l35, ho', AB, PL, RG, LP, TY, Nat.reduceEqDiff, Nat.reduceAdd, Nat.reduceSub, Nat.reduceMul, Nat.reduceLT, Nat.reduceLeDiff, Nat.reduceMod, Nat.reduceDiv, reduceCtorEq, Int.reduceEq, Int.reduceNe, Int.reduceLT, Int.reduceLE, Int.reduceNeg, Int.reduceToNat, Int.reduceAdd, Int.reduceSub, Int.reduceMul, ↓reduceIte, forall_const, eq_self, ne_eq, Option.some.injEq, beq_self_eq_true]) | refine fin_ndec (fun hc => ?_) (fun hc => ?_) | refine fin_dec (fun hc => ?_) (fun hc => ?_) | refine cnd_ndec (fun hc => ?_) (fun hc => ?_) | refine cnd_dec' (fun hc => ?_) (fun hc => ?_) | refine fin_nsplit (fun hc => ?_) (fun hc => ?_) | refine fin_split (fun hc => ?_) (fun hc => ?_) | refine cnd_nsplit (fun hc => ?_) (fun hc => ?_) | refine cnd_split (fun hc => ?_) (fun hc => ?_) | refine blk_exit_id ?_)
      refine awp_loop (σ := Nat) (fun j => j ≤ s.ents.length)
        (fun j => ⟨[(10, AV.i j), (9, AV.s (L1 ++ L2 ++ (s.ents.take j).flatMap (entL (ownF nm)))), (8, AV.s (ownF nm)), (2, .v (.c (.ptr 0 0)))],
          [.box (s.cells.map .d), .box [.d (.str a.name), .d (.str a.agency), .d (.bool a.prepay), .d (.sl a.owf (a.owned.map Own.row)), .d (.int .i64 a.below), .d (.int .i64 a.rcents), .d (.int .i64 a.tries), .d (.int .i64 a.wait), .d (.bool a.exempt)]]⟩)
        (fun j => s.ents.length - j) 0 (Wk.sub' (by simp [subT, look]) (by simp)) (by simp) ?_
      intro j hj
      have hlj := hlen j
      by_cases hjl : j < s.ents.length
      · have e1 : (s.ents.map Ent.row)[j]? = some s.ents[j].row := by simp [hjl]
        have ed : ((s.ents.map Ent.row).drop j).take 1 = [s.ents[j].row] := by
          rw [List.drop_eq_getElem_cons (by simpa using hjl)]; simp
        have hlt : ((j : Int) < (s.ents.length : Int)) = True := eq_true (by omega)
        have hle : ((j : Int) + 1 ≤ (s.ents.length : Int)) = True := eq_true (by omega)
        have hle2 : ((j : Int) ≤ (j : Int) + 1) = True := eq_true (by omega)
        have t1 : ((j : Int) + 1).toNat - j = 1 := by omega
        have hw1 := wI (n := (j : Int) + 1) (by omega) (by omega)
        have hmem : s.ents[j] ∈ s.ents := List.getElem_mem hjl
        have hesm := hsm.esm _ hmem
        have hstep := takeC hjl (entL (ownF nm))
        have hEl := entL_le (k := ownF nm) hesm
        obtain ⟨hpl, hkl, _⟩ := Ent.sm_iff.1 hesm
        have hE : entL (ownF nm) s.ents[j] = if hasP (ownF nm) s.ents[j].posts = true then lineF [[101, 110, 116, 114, 121], dateF (dayF s.ents[j].time), showF (sumP (ownF nm) 0 s.ents[j].posts), escF s.ents[j].key] else [] := rfl
        have r5 := fun f => rbal_at (f := f) (l := [s.ents[j]]) (k := ownF nm) ⟨by simp, fun e he => by rw [List.mem_singleton] at he; subst he; omega⟩
        generalize entL (ownF nm) s.ents[j] = EL at *
        generalize s.ents[j] = e at *
        obtain ⟨k0, t0, pf, ps⟩ := e
        dsimp only at hpl hkl hE
        simp only [Ent.row] at e1 ed
        simp only [List.map_cons, List.map_nil, Ent.row, bal_one] at r5
        have l2 : ((ps.map rowL).length : Int) = ps.length := by simp
        generalize hfl : (s.ef && decide ((j : Int) + 1 = (s.ents.length : Int))) = fl
        have hc := Nat.zero_add 0
        repeat' (first | (simp only [hc, SX, WH, c35, l35, e1, ed, hlt, hle, hle2, nn, l2, hw1, t1, @sla_eq, @slT_sl, @slZ_some, @slX_ok, ent_rows, hfl, AB, PL, RG, LP, TY, Nat.reduceEqDiff, Nat.reduceAdd, Nat.reduceSub, Nat.reduceMul, Nat.reduceLT, Nat.reduceLeDiff, Nat.reduceMod, Nat.reduceDiv, reduceCtorEq, Int.reduceEq, Int.reduceNe, Int.reduceLT, Int.reduceLE, Int.reduceNeg, Int.reduceToNat, Int.reduceAdd, Int.reduceSub, Int.reduceMul, ↓reduceIte, forall_const, eq_self, ne_eq, Option.some.injEq, beq_self_eq_true]) | refine fin_ndec (fun hc => ?_) (fun hc => ?_) | refine fin_dec (fun hc => ?_) (fun hc => ?_) | refine cnd_ndec (fun hc => ?_) (fun hc => ?_) | refine cnd_dec' (fun hc => ?_) (fun hc => ?_) | refine fin_nsplit (fun hc => ?_) (fun hc => ?_) | refine fin_split (fun hc => ?_) (fun hc => ?_) | refine cnd_nsplit (fun hc => ?_) (fun hc => ?_) | refine cnd_split (fun hc => ?_) (fun hc => ?_) | refine blk_exit_id ?_)
        refine awp_loop (σ := Nat) (fun q => q ≤ ps.length)
          (fun q => ⟨[(14, AV.i q), (13, AV.b (hasP (ownF nm) (ps.take q))), (12, .v (.c (.ptr 3 0))), (11, .v (.c (.ptr 2 0))), (10, AV.i j), (9, AV.s (L1 ++ L2 ++ (s.ents.take j).flatMap (entL (ownF nm)))), (8, AV.s (ownF nm)), (2, .v (.c (.ptr 0 0)))],
            [.box (s.cells.map .d), .box [.d (.str a.name), .d (.str a.agency), .d (.bool a.prepay), .d (.sl a.owf (a.owned.map Own.row)), .d (.int .i64 a.below), .d (.int .i64 a.rcents), .d (.int .i64 a.tries), .d (.int .i64 a.wait), .d (.bool a.exempt)], .box [.d (.str k0), .d (.int .i64 t0), .d (.sl pf (ps.map rowL))], .box [.d (.sl fl [[.str k0, .int .i64 t0, .sl pf (ps.map rowL)]])]]⟩)
          (fun q => ps.length - q) 0 (Wk.sub' (by simp [subT, look, hasP]) (by simp)) (by simp) ?_
        intro q hq
        by_cases hql : q < ps.length
        · have e2 : (ps.map rowL)[q]? = some [.str ps[q].1, .int .i64 ps[q].2] := by simp [hql, rowL]
          have hltq : ((q : Int) < (ps.length : Int)) = True := eq_true (by omega)
          have hwq := wI (n := (q : Int) + 1) (by omega) (by omega)
          have hst3 : hasP (ownF nm) (ps.take (q + 1)) = (hasP (ownF nm) (ps.take q) || (ps[q].1 == ownF nm)) := by rw [List.take_succ_eq_append_getElem hql, has_snoc]
          generalize ps[q] = x at *
          cases hh : hasP (ownF nm) (ps.take q) with
          | true =>
            rw [hh, Bool.true_or] at hst3
            have hc := Nat.zero_add 0
            repeat' (first | (simp only [hc, SX, WH, l2, e2, hltq, nn, hwq, ho', AB, PL, RG, LP, TY, Nat.reduceEqDiff, Nat.reduceAdd, Nat.reduceSub, Nat.reduceMul, Nat.reduceLT, Nat.reduceLeDiff, Nat.reduceMod, Nat.reduceDiv, reduceCtorEq, Int.reduceEq, Int.reduceNe, Int.reduceLT, Int.reduceLE, Int.reduceNeg, Int.reduceToNat, Int.reduceAdd, Int.reduceSub, Int.reduceMul, ↓reduceIte, forall_const, eq_self, ne_eq, Option.some.injEq, beq_self_eq_true]) | refine fin_ndec (fun hc => ?_) (fun hc => ?_) | refine fin_dec (fun hc => ?_) (fun hc => ?_) | refine cnd_ndec (fun hc => ?_) (fun hc => ?_) | refine cnd_dec' (fun hc => ?_) (fun hc => ?_) | refine fin_nsplit (fun hc => ?_) (fun hc => ?_) | refine fin_split (fun hc => ?_) (fun hc => ?_) | refine cnd_nsplit (fun hc => ?_) (fun hc => ?_) | refine cnd_split (fun hc => ?_) (fun hc => ?_) | refine blk_exit_id ?_)
            exact lp_next (q + 1) (Wk.cutk (k := 4) (by simp) (by simp) (by simp [hst3]) (by simp [subT, look, hst3]) (by first | rfl | simp [AV.low, V.low, C1.low]) (by first | rfl | simp [Ob.low, C1.low, all_low_d])) (by omega) (by omega)
          | false =>
            rw [hh, Bool.false_or] at hst3
            have hc := Nat.zero_add 0
            repeat' (first | (simp only [hc, SX, WH, l2, e2, hltq, nn, hwq, ho', AB, PL, RG, LP, TY, Nat.reduceEqDiff, Nat.reduceAdd, Nat.reduceSub, Nat.reduceMul, Nat.reduceLT, Nat.reduceLeDiff, Nat.reduceMod, Nat.reduceDiv, reduceCtorEq, Int.reduceEq, Int.reduceNe, Int.reduceLT, Int.reduceLE, Int.reduceNeg, Int.reduceToNat, Int.reduceAdd, Int.reduceSub, Int.reduceMul, ↓reduceIte, forall_const, eq_self, ne_eq, Option.some.injEq, beq_self_eq_true]) | refine fin_ndec (fun hc => ?_) (fun hc => ?_) | refine fin_dec (fun hc => ?_) (fun hc => ?_) | refine cnd_ndec (fun hc => ?_) (fun hc => ?_) | refine cnd_dec' (fun hc => ?_) (fun hc => ?_) | refine fin_nsplit (fun hc => ?_) (fun hc => ?_) | refine fin_split (fun hc => ?_) (fun hc => ?_) | refine cnd_nsplit (fun hc => ?_) (fun hc => ?_) | refine cnd_split (fun hc => ?_) (fun hc => ?_) | refine blk_exit_id ?_)
            exact lp_next (q + 1) (Wk.cutk (k := 4) (by simp) (by simp) (by simp [hst3]) (by simp [subT, look, hst3]) (by first | rfl | simp [AV.low, V.low, C1.low]) (by first | rfl | simp [Ob.low, C1.low, all_low_d])) (by omega) (by omega)
        · have hltq : ((q : Int) < (ps.length : Int)) = False := eq_false (by omega)
          have et : ps.take q = ps := List.take_of_length_le (by omega)
          simp only [et]
          cases hh : hasP (ownF nm) ps with
          | false =>
            rw [hh, if_neg (by simp)] at hE
            subst hE
            have hc := Nat.zero_add 0
            repeat' (first | (simp only [hc, SX, WH, l2, hltq, hw1, hh, AB, PL, RG, LP, TY, Nat.reduceEqDiff, Nat.reduceAdd, Nat.reduceSub, Nat.reduceMul, Nat.reduceLT, Nat.reduceLeDiff, Nat.reduceMod, Nat.reduceDiv, reduceCtorEq, Int.reduceEq, Int.reduceNe, Int.reduceLT, Int.reduceLE, Int.reduceNeg, Int.reduceToNat, Int.reduceAdd, Int.reduceSub, Int.reduceMul, ↓reduceIte, forall_const, eq_self, ne_eq, Option.some.injEq, beq_self_eq_true]) | refine fin_ndec (fun hc => ?_) (fun hc => ?_) | refine fin_dec (fun hc => ?_) (fun hc => ?_) | refine cnd_ndec (fun hc => ?_) (fun hc => ?_) | refine cnd_dec' (fun hc => ?_) (fun hc => ?_) | refine fin_nsplit (fun hc => ?_) (fun hc => ?_) | refine fin_split (fun hc => ?_) (fun hc => ?_) | refine cnd_nsplit (fun hc => ?_) (fun hc => ?_) | refine cnd_split (fun hc => ?_) (fun hc => ?_) | refine blk_exit_id ?_)
            exact lp_next (j + 1) (Wk.cutk (k := 2) (by simp) (by simp) (by simp [hstep]) (by simp [subT, look, hstep]) (by first | rfl | simp [AV.low, V.low, C1.low]) (by first | rfl | simp [Ob.low, C1.low, all_low_d])) (by omega) (by omega)
          | true =>
            rw [hh, if_pos rfl] at hE
            have r1 := @rtdate_at (dayF t0)
            have hsi := inI_sumP (ownF nm) ps 0 inI_0
            have r2 := rshow_at hsi
            have r3 := resc_at hkl
            have r4 := rln4 (a := [101, 110, 116, 114, 121]) (b := dateF (dayF t0)) (c := showF (sumP (ownF nm) 0 ps)) (d := escF k0) (by simp) (by have := date_le (dayF t0); omega) (by have := show_le hsi; omega) (by have := esc_le hkl; omega)
            rw [← hE] at r4
            have k5 : ((L1 ++ L2 ++ (s.ents.take j).flatMap (entL (ownF nm))).length + EL.length ≤ 4611686018427387904) = True := eq_true (by omega)
            have r6 := r5 fl
            have hc := Nat.zero_add 0
            repeat' (first | (simp only [hc, SX, WH, l2, hltq, hw1, hh, rday_m, mEq, r1, r2, r3, r4, r6, ho', k5, AB, PL, RG, LP, TY, Nat.reduceEqDiff, Nat.reduceAdd, Nat.reduceSub, Nat.reduceMul, Nat.reduceLT, Nat.reduceLeDiff, Nat.reduceMod, Nat.reduceDiv, reduceCtorEq, Int.reduceEq, Int.reduceNe, Int.reduceLT, Int.reduceLE, Int.reduceNeg, Int.reduceToNat, Int.reduceAdd, Int.reduceSub, Int.reduceMul, ↓reduceIte, forall_const, eq_self, ne_eq, Option.some.injEq, beq_self_eq_true]) | refine fin_ndec (fun hc => ?_) (fun hc => ?_) | refine fin_dec (fun hc => ?_) (fun hc => ?_) | refine cnd_ndec (fun hc => ?_) (fun hc => ?_) | refine cnd_dec' (fun hc => ?_) (fun hc => ?_) | refine fin_nsplit (fun hc => ?_) (fun hc => ?_) | refine fin_split (fun hc => ?_) (fun hc => ?_) | refine cnd_nsplit (fun hc => ?_) (fun hc => ?_) | refine cnd_split (fun hc => ?_) (fun hc => ?_) | refine blk_exit_id ?_)
            exact lp_next (j + 1) (Wk.cutk (k := 2) (by simp) (by simp) (by simp [hstep]) (by simp [subT, look, hstep]) (by first | rfl | simp [AV.low, V.low, C1.low]) (by first | rfl | simp [Ob.low, C1.low, all_low_d])) (by omega) (by omega)
      · have hlt : ((j : Int) < (s.ents.length : Int)) = False := eq_false (by omega)
        rw [List.take_of_length_le (by omega)]
        have hc := Nat.zero_add 0
        repeat' (first | (simp only [hc, SX, WH, c35, l35, hlt, AB, PL, RG, LP, TY, Nat.reduceEqDiff, Nat.reduceAdd, Nat.reduceSub, Nat.reduceMul, Nat.reduceLT, Nat.reduceLeDiff, Nat.reduceMod, Nat.reduceDiv, reduceCtorEq, Int.reduceEq, Int.reduceNe, Int.reduceLT, Int.reduceLE, Int.reduceNeg, Int.reduceToNat, Int.reduceAdd, Int.reduceSub, Int.reduceMul, ↓reduceIte, forall_const, eq_self, ne_eq, Option.some.injEq, beq_self_eq_true]) | refine fin_ndec (fun hc => ?_) (fun hc => ?_) | refine fin_dec (fun hc => ?_) (fun hc => ?_) | refine cnd_ndec (fun hc => ?_) (fun hc => ?_) | refine cnd_dec' (fun hc => ?_) (fun hc => ?_) | refine fin_nsplit (fun hc => ?_) (fun hc => ?_) | refine fin_split (fun hc => ?_) (fun hc => ?_) | refine cnd_nsplit (fun hc => ?_) (fun hc => ?_) | refine cnd_split (fun hc => ?_) (fun hc => ?_) | refine blk_exit_id ?_)
        all_goals simp [hR, DV.i]
  · cases h

theorem tacc_at {s : St} {n : List UInt8} (h : s.is) (hw : s.Wf) (hs : s.Small) (ho : s.OwnOk) (hn : n.length ≤ 200) : tacc_m [.agg s.cells, .c (.str n)] = some (accOut s n) := by
  rw [tacc_m, stS_eq h, if_pos ⟨hw, hs, ho, hn⟩]
theorem rtacc_at {s : St} {n : List UInt8} (h : s.is) (hw : s.Wf) (hs : s.Small) (hn : n.length ≤ 200) : rtacc_m [.agg s.cells, .c (.str n)] = some (accOut s n) := by
  rw [rtacc_m, stS_eq h, if_pos ⟨hw, hs, hn⟩]

end
end Go.Ab
