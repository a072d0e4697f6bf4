/-
  Texts of the layer and of the laws, put together: AbF15. No law is stated here.
-/
import Derived.Test.YteeepgnhkfmnaaaDoorAbVol34
set_option linter.unusedSimpArgs false
set_option linter.unusedVariables false
set_option maxRecDepth 100000

/-
  event.Parse.
-/
namespace Go.Ab
open Go.RowKit Go.Proofs

/-- A field set to a text or a number. -/
def setE (e : Evt) (o : Nat) (tx : List UInt8) (n : Int) : Evt :=
  if o = 1 then { e with dev := tx } else if o = 2 then { e with seq := n } else if o = 3 then { e with time := n } else if o = 4 then { e with tag := tx } else if o = 5 then { e with plt := tx }
  else if o = 6 then { e with axl := n } else if o = 7 then { e with score := n } else if o = 8 then { e with pk := n } else if o = 9 then { e with pz := tx } else if o = 10 then { e with pp := tx }
  else if o = 11 then { e with pt := n } else if o = 12 then { e with pu := n } else if o = 13 then { e with day := n } else if o = 14 then { e with name := tx } else if o = 15 then { e with cents := n } else e
theorem setE_row (e : Evt) (k : Int) (tx : List UInt8) (n : Int) : ∀ p ∈ fldK k, e.row.set p.2 (if p.1 = true then .str tx else .int .i64 n) = (setE e p.2 tx n).row := by
  intro p hp
  unfold fldK at hp
  split at hp
  · simp only [List.mem_cons, List.not_mem_nil, or_false] at hp
    rcases hp with rfl | rfl | rfl | rfl | rfl | rfl | rfl <;> rfl
  split at hp
  · simp only [List.mem_cons, List.not_mem_nil, or_false] at hp
    rcases hp with rfl | rfl | rfl | rfl | rfl <;> rfl
  split at hp
  · simp only [List.mem_cons, List.not_mem_nil, or_false] at hp
    rcases hp with rfl <;> rfl
  split at hp
  · simp only [List.mem_cons, List.not_mem_nil, or_false] at hp
    rcases hp with rfl | rfl <;> rfl
  split at hp
  · simp only [List.mem_cons, List.not_mem_nil, or_false] at hp
    rcases hp with rfl <;> rfl
  · cases hp
def setOne (e : Evt) (p : Fld) (s : List UInt8) : Option Evt :=
  if p.1 = true then (if (unescF s).2 = 0 then some (setE e p.2 (unescF s).1 0) else none)
  else if nmlB s = true then some (setE e p.2 [] (numS s)) else none
def setN (z : Evt) (F : List Fld) (l : List (List UInt8)) : Nat → Option Evt
  | 0 => some z
  | j + 1 => (setN z F l j).bind fun e => setOne e (F.getD j (true, 0)) (l.getD (j + 1) [])
theorem setN_none {z : Evt} {F : List Fld} {l : List (List UInt8)} {j : Nat} (h : setN z F l j = none) : ∀ d, setN z F l (j + d) = none
  | 0 => h
  | d + 1 => by
    show (setN z F l (j + d)).bind _ = none
    rw [setN_none h d]
    rfl
def matchK (l : List (List UInt8)) (k : Int) : Bool := decide (l.length = (fldK k).length + 1) && (l.headD [] == wrdK k)
def endE : Option Evt → Evt × Int
  | none => (zEvt 0, 5)
  | some e => if rightE e = true then (e, 0) else (zEvt 0, 1)
def tryK (l : List (List UInt8)) : Nat → Int → Evt × Int
  | 0, _ => (zEvt 0, 5)
  | n + 1, k => if matchK l k = true then endE (setN (zEvt k) (fldK k) l (fldK k).length) else tryK l n (k + 1)
def parseE (s : List UInt8) : Evt × Int := if (fieldsF s).2 = 0 then tryK ((fieldsF s).1.getD []) 5 1 else (zEvt 0, (fieldsF s).2)

theorem slT_mapE (o : Option (List (List UInt8))) : slT true o = .sl true ((o.getD []).map rowS) := by
  cases o <;> rfl
theorem mem_intE (c : UInt8) : ∀ (l : List (List UInt8)) (p : List UInt8), p ∈ l → p.length ≤ (List.intercalate [c] l).length
  | [a], p, h => by
    simp at h
    subst h
    simp [List.intercalate]
  | a :: b :: r, p, h => by
    have e : List.intercalate [c] (a :: b :: r) = a ++ c :: List.intercalate [c] (b :: r) := by simp [List.intercalate, List.intersperse]
    rw [e, List.length_append, List.length_cons]
    rcases List.mem_cons.1 h with rfl | h
    · omega
    · have := mem_intE c (b :: r) p h
      omega
theorem fields_linE {s : List UInt8} (h : (fieldsF s).2 = 0) : ∀ p ∈ (fieldsF s).1.getD [], p.length ≤ 512 := by
  intro p hp
  unfold fieldsF at hp h
  split at hp
  · simp at hp
  · split at hp
    · simp at hp
    · split at hp
      · have := mem_intE 32 _ p hp
        rw [Option.getD_some, spl_join] at this
        omega
      · simp at hp
theorem fields_cntE {s : List UInt8} (h : (fieldsF s).2 = 0) : ((fieldsF s).1.getD []).length ≤ 600 := by
  unfold fieldsF at h ⊢
  split
  · simp
  · split
    · simp
    · split
      · have := spl_len 32 s
        rw [Option.getD_some]
        omega
      · simp
/-- The zero event's cells. -/
def zRow0 : List C1 := (zEvt 0).row.map .d
theorem zRow0_eq : zRow0 = [.d (.int .i64 0), .d (.str []), .d (.int .i64 0), .d (.int .i64 0), .d (.str []), .d (.str []), .d (.int .i64 0), .d (.int .i64 0), .d (.int .i64 0), .d (.str []), .d (.str []), .d (.int .i64 0), .d (.int .i64 0), .d (.int .i64 0), .d (.str []), .d (.int .i64 0)] := rfl
theorem zRow0_low (m : Nat) : (zRow0.all (C1.low m)) = true := all_low_d m _
theorem lenS {l : List (List UInt8)} : ((l.map rowS).length : Int) = l.length := by simp
theorem strRow {l : List (List UInt8)} {j : Nat} (h : j < l.length) : (l.map rowS)[j]? = some [.str (l.getD j [])] := by
  simp [h, rowS, List.getD_eq_getElem?_getD]

noncomputable section
open Classical

theorem tfieldsE_at {s : List UInt8} : tfields_m [.c (.str s)] = some [.c (.sl true (((fieldsF s).1.getD []).map rowS)), .i (fieldsF s).2] := by
  rw [tfields_m, ms_eq, slT_mapE]
theorem eset_text {id o : Nat} {s : List UInt8} {h : Hp} {cs : List C1} (h1 : h[id]? = some (.box cs)) (h2 : o < cs.length) (h3 : LowH h) (h4 : s.length ≤ 100000) :
    eset_k [.v (.agg [.nilp, .ptr id o]), .v (.c (.d (.str s)))] h = some (if (unescF s).2 = 0 then .ret (AV.i 0) (h.set id (.box (cs.set o (.d (.str (unescF s).1))))) else .ret (AV.i 5) h) := by
  have e : eset_k [.v (.agg [.nilp, .ptr id o]), .v (.c (.d (.str s)))] h = setK [.v (.agg [.nilp, .ptr id o]), .v (.c (.d (.str s)))] h := rfl
  rw [e]
  simp only [setK, h1]
  rw [if_pos ⟨h2, h3, h4⟩]
theorem eset_num {id o : Nat} {s : List UInt8} {h : Hp} {cs : List C1} (h1 : h[id]? = some (.box cs)) (h2 : o < cs.length) (h3 : LowH h) (h4 : s.length ≤ 100000) :
    eset_k [.v (.agg [.ptr id o, .nilp]), .v (.c (.d (.str s)))] h = some (if nmlB s = true then .ret (AV.i 0) (h.set id (.box (cs.set o (.d (.int .i64 (numS s)))))) else .ret (AV.i 5) h) := by
  have e : eset_k [.v (.agg [.ptr id o, .nilp]), .v (.c (.d (.str s)))] h = setK [.v (.agg [.ptr id o, .nilp]), .v (.c (.d (.str s)))] h := rfl
  rw [e]
  simp only [setK, h1]
  rw [if_pos ⟨h2, h3, h4⟩]

def eparse_m : List PA → Option (List PA) := ms fun s => some [.agg (parseE s).1.row, .i (parseE s).2]

set_option maxHeartbeats 2000000 in
theorem eparse_ok : PureC Tryd.prog Gt 17 eparse_m := by
  refine pure_of_awpSW (X := ctxN Tryd.prog Gt [(35, tfields_m), (12, eright_m)] [(25, efields_k), (36, eset_k)] [] none (uL [63])) Tryd.func17 rfl rfl (by kernel_rfl) (by kernel_rfl) (kok_n (AllOk.cons tfields_ok (AllOk.cons eright_ok AllOk.nil)) (AllK.cons efields_kok (AllK.cons eset_kok AllK.nil)) AllN.nil) ?_
  intro args r h0
  obtain ⟨s, rfl, h⟩ := ms_inv h0
  refine ⟨Nat.le_of_ble_eq_true rfl, ?_⟩
  simp only [Option.some.injEq] at h
  have g1 := @tfieldsE_at s
  have hP : parseE s = if (fieldsF s).2 = 0 then tryK ((fieldsF s).1.getD []) 5 1 else (zEvt 0, (fieldsF s).2) := rfl
  rw [hP] at h
  have hlin := @fields_linE s
  have hcnt := @fields_cntE s
  generalize (fieldsF s).1.getD [] = l at *
  generalize (fieldsF s).2 = er at *
  by_cases he : er = 0
  · subst he
    have hlin := hlin rfl
    have hcnt := hcnt rfl
    rw [if_pos rfl] at h
    have l1 := @lenS l
    generalize hT : tryK l 5 1 = T at *
    have lowD : ∀ (l : List D) (m : Nat), ((l.map C1.d).all (C1.low m)) = true := fun l m => all_low_d m l
    have hc := Nat.zero_add 0
    repeat' (first | simp only [hc, AS, Tryd.f17, NX, NPV, SX, NW, g1, AB, PL, RG, LP, TY, simprocAttr, ↓reduceIte, forall_const, eq_self, ne_eq, Option.some.injEq, beq_self_eq_true] | ((first | apply fin_ndec | apply fin_dec | apply cnd_ndec | apply cnd_dec' | apply fin_nsplit | apply fin_split | apply cnd_nsplit | apply cnd_split) <;> intro hc) | refine seqS_id ?_ | refine blk_exit_id ?_)
    refine awpS_loop (σ := Nat) (fun i => i ≤ 5 ∧ tryK l (5 - i) ((i : Int) + 1) = T) (fun i => ⟨[(6, AV.i ((i : Int) + 1)), (4, AV.d (.sl true (l.map rowS))), (2, .v (.c (.ptr 0 0)))], [.box zRow0]⟩) (fun i => 5 - i) 0 (Wk.sub' (by simp [subT, look]) rfl) ⟨by omega, hT⟩ ?_
    rintro i ⟨hi, hTi⟩
    by_cases hi5 : i < 5
    · obtain ⟨m, hm⟩ : ∃ m, 5 - i = m + 1 := ⟨5 - i - 1, by omega⟩
      rw [hm, tryK] at hTi
      have hm2 : 5 - (i + 1) = m := by omega
      have hk : kindB ((i : Int) + 1) = true := decide_eq_true (by omega)
      have hle5 : ((i : Int) + 1 ≤ 5) = True := eq_true (by omega)
      have hwk := wI (n := (i : Int) + 1 + 1) (by omega) (by omega)
      have hnk : ((i + 1 : Nat) : Int) + 1 = (i : Int) + 1 + 1 := by omega
      have f1 := efields_at (id := 1) (k := (i : Int) + 1) (cs := ((zEvt ((i : Int) + 1)).row.tail).map .d) (h := [.box zRow0, .box ((zEvt ((i : Int) + 1)).row.map .d)]) rfl rfl (by unfold LowH; simp only [List.all_cons, List.all_nil, Ob.low, lowD, zRow0_low, Bool.and_true]) rfl hk
      generalize hkk : (i : Int) + 1 = k at *
      have hfl := fld_len k
      have hflt := fld_lt k
      have hrowE := fun (e : Evt) (tx : List UInt8) (n : Int) => setE_row e k tx n
      have hmd : matchK l k = (decide (l.length = (fldK k).length + 1) && (l.headD [] == wrdK k)) := rfl
      rw [hmd] at hTi
      generalize hF : fldK k = F at *
      generalize wrdK k = wd at *
      have hw1 := wI (n := (F.length : Int) + 1) (by omega) (by omega)
      simp only [zEvt, Evt.row, List.map_cons, List.map_nil, List.length_cons, List.length_nil, List.cons_append, List.nil_append, Nat.reduceAdd, Nat.zero_add] at f1
      have hno : ∀ (t : List (Nat × AV)) (g : Hp), look t 6 = AV.i (k + 1) → look t 4 = AV.d (.sl true (l.map rowS)) → look t 2 = .v (.c (.ptr 0 0)) → g.take 1 = [.box zRow0] → 1 ≤ g.length →
          Wk 1 ⟨t, g⟩ ⟨[(6, AV.i (((i + 1 : Nat) : Int) + 1)), (4, AV.d (.sl true (l.map rowS))), (2, .v (.c (.ptr 0 0)))], [.box zRow0]⟩ := fun t g h6 h4 h2 hg hl => by
        rw [hnk]
        exact Wk.cutk (k := 1) (by decide) hl hg (by simp [subT, h6, h4, h2]) rfl (by simp only [List.all_cons, List.all_nil, Ob.low, lowD, zRow0_low, Bool.and_true])
      by_cases hml : l.length = F.length + 1
      · have hml' : ((l.length : Int) = (F.length : Int) + 1) = True := eq_true (by omega)
        rw [decide_eq_true hml, Bool.true_and] at hTi
        have e0 := strRow (l := l) (j := 0) (by omega)
        have hh0 : l.headD [] = l.getD 0 [] := by cases l <;> rfl
        rw [hh0] at hTi
        generalize l.getD 0 [] = w0 at *
        cases hwd : (w0 == wd) with
        | false =>
          rw [hwd] at hTi
          rw [if_neg (by simp)] at hTi
          have hc := Nat.zero_add 0
          repeat' (first | simp only [hc, AS, NX, NPV, SX, NW, hle5, f1, l1, hw1, hml', e0, hwd, hwk, AB, PL, RG, LP, TY, simprocAttr, ↓reduceIte, forall_const, eq_self, ne_eq, Option.some.injEq, beq_self_eq_true] | ((first | apply fin_ndec | apply fin_dec | apply cnd_ndec | apply cnd_dec' | apply fin_nsplit | apply fin_split | apply cnd_nsplit | apply cnd_split) <;> intro hc) | refine seqS_id ?_ | refine blk_exit_id ?_)
          exact lp_next (i + 1) (hno _ _ (by simp [look]) (by simp [look]) (by simp [look]) rfl (by simp)) ⟨by omega, by rw [hm2, hnk]; exact hTi⟩ (by omega)
        | true =>
          rw [hwd] at hTi
          rw [if_pos rfl] at hTi
          have hc := Nat.zero_add 0
          repeat' (first | simp only [hc, AS, NX, NPV, SX, NW, hle5, f1, l1, hw1, hml', e0, hwd, AB, PL, RG, LP, TY, simprocAttr, ↓reduceIte, forall_const, eq_self, ne_eq, Option.some.injEq, beq_self_eq_true] | ((first | apply fin_ndec | apply fin_dec | apply cnd_ndec | apply cnd_dec' | apply fin_nsplit | apply fin_split | apply cnd_nsplit | apply cnd_split) <;> intro hc) | refine seqS_id ?_ | refine blk_exit_id ?_)
          refine awpS_loop (σ := Nat × Evt) (fun x => x.1 ≤ F.length ∧ setN (zEvt k) F l x.1 = some x.2) (fun x => ⟨[(47, AV.i x.1), (46, AV.i F.length), (45, .v (.c (.msl 2 F.length))), (7, .v (.c (.ptr 1 0))), (4, AV.d (.sl true (l.map rowS))), (2, .v (.c (.ptr 0 0)))], [.box zRow0, .box (x.2.row.map .d), .tok F.length 2 (some (frows 1 F))]⟩) (fun x => F.length - x.1) (0, zEvt k) (Wk.sub' (by simp [subT, look]) rfl) ⟨Nat.zero_le _, rfl⟩ ?_
          rintro ⟨j, e⟩ ⟨hj, hje⟩
          dsimp only at hj hje ⊢
          by_cases hjl : j < F.length
          · have hlt : ((j : Int) < (F.length : Int)) = True := eq_true (by omega)
            have hw : IntKind.i64.wrap ((j : Int) + 1) = ((j + 1 : Nat) : Int) := by rw [wI (by omega) (by omega)]; omega
            have hp : F[j]? = some F[j] := List.getElem?_eq_getElem hjl
            have hpm := List.getElem_mem hjl
            have hpd : F.getD j (true, 0) = F[j] := by rw [List.getD_eq_getElem?_getD, hp]; rfl
            have hnx : setN (zEvt k) F l (j + 1) = setOne e F[j] (l.getD (j + 1) []) := by
              show (setN (zEvt k) F l j).bind _ = _
              rw [hje, hpd]
              rfl
            have e1 := strRow (l := l) (j := j + 1) (by omega)
            have hsl : (l.getD (j + 1) []).length ≤ 512 := hlin _ (by rw [List.getD_eq_getElem?_getD, List.getElem?_eq_getElem (by omega)]; exact List.getElem_mem _)
            have hbad : setN (zEvt k) F l (j + 1) = none → T = (zEvt 0, 5) := fun hn => by
              have := setN_none hn (F.length - (j + 1))
              rw [show j + 1 + (F.length - (j + 1)) = F.length by omega] at this
              rw [this] at hTi
              exact hTi.symm
            generalize F[j] = p at *
            generalize l.getD (j + 1) [] = sx at *
            have d30 : ((frows 1 F).drop (j * 2)).take 2 = frow 1 p := fm_at (frow_len 1) hp
            have hle : (j * 2 + 2 ≤ (frows 1 F).length) = True := eq_true (fm_le (frow_len 1) hp)
            have hpo := (hflt p hpm).1
            have hro := hrowE e
            have hlow : ((frow 1 p).all (C1.low 4)) = true := by unfold frow; split <;> rfl
            have hLow : LowH [.box zRow0, .box (e.row.map .d), .tok F.length 2 (some (frows 1 F)), .box (frow 1 p)] := by
              unfold LowH
              simp only [List.all_cons, List.all_nil, Ob.low, lowD, zRow0_low, List.length_cons, List.length_nil, Nat.zero_add, Nat.reduceAdd, frows_low (F := F) (show (1 : Nat) < 4 by decide), hlow, Bool.and_true]
            obtain ⟨t, o⟩ := p
            cases t with
            | true =>
              have g2 := eset_text (id := 1) (o := o) (s := sx) (h := [.box zRow0, .box (e.row.map .d), .tok F.length 2 (some (frows 1 F)), .box (frow 1 (true, o))]) (cs := e.row.map .d) rfl (by rw [List.length_map, row_len]; exact hpo) hLow (by omega)
              have hS : setOne e (true, o) sx = if (unescF sx).2 = 0 then some (setE e o (unescF sx).1 0) else none := if_pos rfl
              rw [hS] at hnx
              have hro2 : (e.row.map C1.d).set o (.d (.str (unescF sx).1)) = (setE e o (unescF sx).1 0).row.map .d := by rw [← hro (unescF sx).1 0 _ hpm, List.map_set]; rfl
              rw [hro2] at g2
              simp only [frow, ↓reduceIte, if_pos] at d30 g2
              by_cases hu : (unescF sx).2 = 0
              · rw [if_pos hu] at g2 hnx
                simp only [List.set_cons_succ, List.set_cons_zero] at g2
                generalize setE e o (unescF sx).1 0 = e2 at *
                have hc := Nat.zero_add 0
                repeat' (first | simp only [hc, AS, NX, NPV, SX, NW, hlt, nn, hw, d30, hle, e1, g2, Int.toNat_natCast, AB, PL, RG, LP, TY, simprocAttr, ↓reduceIte, forall_const, eq_self, ne_eq, Option.some.injEq, beq_self_eq_true] | ((first | apply fin_ndec | apply fin_dec | apply cnd_ndec | apply cnd_dec' | apply fin_nsplit | apply fin_split | apply cnd_nsplit | apply cnd_split) <;> intro hc) | refine seqS_id ?_ | refine blk_exit_id ?_)
                exact lp_next (j + 1, e2) (Wk.cutk (k := 3) (by decide) (by simp) (by simp) (by simp [subT, look]) (by simp [AV.low, V.low, C1.low]) (by simp only [List.all_cons, List.all_nil, Ob.low, lowD, zRow0_low, frows_low (F := F) (show (1 : Nat) < 3 by decide), Bool.and_true])) ⟨by dsimp only; omega, hnx⟩ (by dsimp only; omega)
              · rw [if_neg hu] at g2 hnx
                have hT5 := hbad hnx
                rw [hT5] at h
                subst h
                rw [zRow0_eq] at g2
                have hc := Nat.zero_add 0
                repeat' (first | simp only [hc, AS, NX, NPV, SX, NW, hlt, nn, hw, d30, hle, e1, g2, Int.toNat_natCast, zRow0_eq, AB, PL, RG, LP, TY, simprocAttr, ↓reduceIte, forall_const, eq_self, ne_eq, Option.some.injEq, beq_self_eq_true] | ((first | apply fin_ndec | apply fin_dec | apply cnd_ndec | apply cnd_dec' | apply fin_nsplit | apply fin_split | apply cnd_nsplit | apply cnd_split) <;> intro hc) | refine seqS_id ?_ | refine blk_exit_id ?_)
                exact ⟨_, Wk.refl, rfl⟩
            | false =>
              have g2 := eset_num (id := 1) (o := o) (s := sx) (h := [.box zRow0, .box (e.row.map .d), .tok F.length 2 (some (frows 1 F)), .box (frow 1 (false, o))]) (cs := e.row.map .d) rfl (by rw [List.length_map, row_len]; exact hpo) hLow (by omega)
              have hS : setOne e (false, o) sx = if nmlB sx = true then some (setE e o [] (numS sx)) else none := if_neg (by simp)
              rw [hS] at hnx
              have hro2 : (e.row.map C1.d).set o (.d (.int .i64 (numS sx))) = (setE e o [] (numS sx)).row.map .d := by rw [← hro [] (numS sx) _ hpm, List.map_set]; rfl
              rw [hro2] at g2
              simp only [frow, Bool.false_eq_true, if_false, ↓reduceIte] at d30 g2
              by_cases hu : nmlB sx = true
              · rw [if_pos hu] at g2 hnx
                simp only [List.set_cons_succ, List.set_cons_zero] at g2
                generalize setE e o [] (numS sx) = e2 at *
                have hc := Nat.zero_add 0
                repeat' (first | simp only [hc, AS, NX, NPV, SX, NW, hlt, nn, hw, d30, hle, e1, g2, Int.toNat_natCast, AB, PL, RG, LP, TY, simprocAttr, ↓reduceIte, forall_const, eq_self, ne_eq, Option.some.injEq, beq_self_eq_true] | ((first | apply fin_ndec | apply fin_dec | apply cnd_ndec | apply cnd_dec' | apply fin_nsplit | apply fin_split | apply cnd_nsplit | apply cnd_split) <;> intro hc) | refine seqS_id ?_ | refine blk_exit_id ?_)
                exact lp_next (j + 1, e2) (Wk.cutk (k := 3) (by decide) (by simp) (by simp) (by simp [subT, look]) (by simp [AV.low, V.low, C1.low]) (by simp only [List.all_cons, List.all_nil, Ob.low, lowD, zRow0_low, frows_low (F := F) (show (1 : Nat) < 3 by decide), Bool.and_true])) ⟨by dsimp only; omega, hnx⟩ (by dsimp only; omega)
              · rw [if_neg hu] at g2 hnx
                have hT5 := hbad hnx
                rw [hT5] at h
                subst h
                rw [zRow0_eq] at g2
                have hc := Nat.zero_add 0
                repeat' (first | simp only [hc, AS, NX, NPV, SX, NW, hlt, nn, hw, d30, hle, e1, g2, Int.toNat_natCast, zRow0_eq, AB, PL, RG, LP, TY, simprocAttr, ↓reduceIte, forall_const, eq_self, ne_eq, Option.some.injEq, beq_self_eq_true] | ((first | apply fin_ndec | apply fin_dec | apply cnd_ndec | apply cnd_dec' | apply fin_nsplit | apply fin_split | apply cnd_nsplit | apply cnd_split) <;> intro hc) | refine seqS_id ?_ | refine blk_exit_id ?_)
                exact ⟨_, Wk.refl, rfl⟩
          · have hlt : ((j : Int) < (F.length : Int)) = False := eq_false (by omega)
            have hjF : j = F.length := by omega
            subst hjF
            rw [hje] at hTi
            have g3 := @eright_at e
            have hE : endE (some e) = if rightE e = true then (e, 0) else (zEvt 0, 1) := rfl
            rw [hE] at hTi
            subst hTi
            cases hr : rightE e with
            | true =>
              rw [hr] at g3 h
              rw [if_pos rfl] at h
              obtain ⟨k', a', b', c', d', f', g', i', j', l', m', n', o', p', q', r'⟩ := e
              simp only [Evt.row] at g3
              subst h
              have hc := Nat.zero_add 0
              repeat' (first | simp only [hc, AS, NX, NPV, SX, NW, hlt, g3, Evt.row, List.map_cons, List.map_nil, zRow0_eq, AB, PL, RG, LP, TY, simprocAttr, ↓reduceIte, forall_const, eq_self, ne_eq, Option.some.injEq, beq_self_eq_true] | ((first | apply fin_ndec | apply fin_dec | apply cnd_ndec | apply cnd_dec' | apply fin_nsplit | apply fin_split | apply cnd_nsplit | apply cnd_split) <;> intro hc) | refine seqS_id ?_ | refine blk_exit_id ?_)
              exact ⟨_, Wk.refl, rfl⟩
            | false =>
              rw [hr] at g3 h
              rw [if_neg (by simp)] at h
              obtain ⟨k', a', b', c', d', f', g', i', j', l', m', n', o', p', q', r'⟩ := e
              simp only [Evt.row] at g3
              subst h
              have hc := Nat.zero_add 0
              repeat' (first | simp only [hc, AS, NX, NPV, SX, NW, hlt, g3, Evt.row, List.map_cons, List.map_nil, zRow0_eq, AB, PL, RG, LP, TY, simprocAttr, ↓reduceIte, forall_const, eq_self, ne_eq, Option.some.injEq, beq_self_eq_true] | ((first | apply fin_ndec | apply fin_dec | apply cnd_ndec | apply cnd_dec' | apply fin_nsplit | apply fin_split | apply cnd_nsplit | apply cnd_split) <;> intro hc) | refine seqS_id ?_ | refine blk_exit_id ?_)
              exact ⟨_, Wk.refl, rfl⟩
      · have hml' : ((l.length : Int) = (F.length : Int) + 1) = False := eq_false (by omega)
        rw [decide_eq_false hml, Bool.false_and, if_neg (by simp)] at hTi
        have hc := Nat.zero_add 0
        repeat' (first | simp only [hc, AS, NX, NPV, SX, NW, hle5, f1, l1, hw1, hml', hwk, AB, PL, RG, LP, TY, simprocAttr, ↓reduceIte, forall_const, eq_self, ne_eq, Option.some.injEq, beq_self_eq_true] | ((first | apply fin_ndec | apply fin_dec | apply cnd_ndec | apply cnd_dec' | apply fin_nsplit | apply fin_split | apply cnd_nsplit | apply cnd_split) <;> intro hc) | refine seqS_id ?_ | refine blk_exit_id ?_)
        exact lp_next (i + 1) (hno _ _ (by simp [look]) (by simp [look]) (by simp [look]) rfl (by simp)) ⟨by omega, by rw [hm2, hnk]; exact hTi⟩ (by omega)
    · have hle5 : ((i : Int) + 1 ≤ 5) = False := eq_false (by omega)
      rw [show 5 - i = 0 by omega] at hTi
      have hT0 : T = (zEvt 0, 5) := hTi.symm
      rw [hT0] at h
      subst h
      have hc := Nat.zero_add 0
      repeat' (first | simp only [hc, AS, NX, NPV, SX, NW, hle5, zRow0_eq, AB, PL, RG, LP, TY, simprocAttr, ↓reduceIte, forall_const, eq_self, ne_eq, Option.some.injEq, beq_self_eq_true] | ((first | apply fin_ndec | apply fin_dec | apply cnd_ndec | apply cnd_dec' | apply fin_nsplit | apply fin_split | apply cnd_nsplit | apply cnd_split) <;> intro hc) | refine seqS_id ?_ | refine blk_exit_id ?_)
      exact ⟨_, Wk.refl, rfl⟩
  · rw [if_neg he] at h
    have he' : (er = 0) = False := eq_false he
    subst h
    have hc := Nat.zero_add 0
    repeat' (first | simp only [hc, AS, Tryd.f17, NX, NPV, SX, NW, g1, he', AB, PL, RG, LP, TY, simprocAttr, ↓reduceIte, forall_const, eq_self, ne_eq, Option.some.injEq, beq_self_eq_true] | ((first | apply fin_ndec | apply fin_dec | apply cnd_ndec | apply cnd_dec' | apply fin_nsplit | apply fin_split | apply cnd_nsplit | apply cnd_split) <;> intro hc) | refine seqS_id ?_ | refine blk_exit_id ?_)
    exact ⟨_, Wk.refl, rfl⟩
theorem eparse_at {s : List UInt8} : eparse_m [.c (.str s)] = some [.agg (parseE s).1.row, .i (parseE s).2] := by rw [eparse_m, ms_eq]

end
end Go.Ab
