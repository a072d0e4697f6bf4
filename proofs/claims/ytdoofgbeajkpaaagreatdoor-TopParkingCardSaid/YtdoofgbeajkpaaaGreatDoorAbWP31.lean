/-
  Texts of the layer and of the laws, put together: AbSo3.
-/
import Derived.Test.YtdoofgbeajkpaaaGreatDoorAbWP22
import Derived.Test.YtdoofgbeajkpaaaGreatDoorAbWP29
set_option linter.unusedSimpArgs false
set_option linter.unusedVariables false
set_option maxRecDepth 100000
set_option linter.defProp false
namespace Go.Ab
open Go.RowKit Go.Proofs
def pc (ps : List Par) : List C1 := (ps.flatMap Par.row).map .d
abbrev Par.cells (p : Par) : List C1 := [.d (.int .i64 p.kind), .d (.str p.zone), .d (.str p.plate), .d (.int .i64 p.time), .d (.int .i64 p.til)]
theorem pc_nil : pc [] = [] := rfl
theorem pc_cons {p : Par} {ps : List Par} : pc (p :: ps) = p.cells ++ pc ps := by simp [pc, Par.row]
theorem pc_append {a b : List Par} : pc (a ++ b) = pc a ++ pc b := by simp [pc]
theorem pc_len : ∀ {ps : List Par}, (pc ps).length = ps.length * 5
  | [] => rfl
  | p :: ps => by rw [pc_cons, List.length_append, pc_len (ps := ps)]; simp; omega
theorem pc_drop : ∀ {k : Nat} {ps : List Par}, (pc ps).drop (k * 5) = pc (ps.drop k)
  | 0, ps => by simp
  | k + 1, [] => by simp [pc_nil]
  | k + 1, p :: ps => by
    rw [pc_cons, List.drop_append, List.drop_of_length_le (by simp; omega), List.nil_append, List.drop_succ_cons, ← pc_drop]
    congr 1
    simp; omega
theorem pc_take : ∀ {k : Nat} {ps : List Par}, (pc ps).take (k * 5) = pc (ps.take k)
  | 0, ps => by simp [pc_nil]
  | k + 1, [] => by simp [pc_nil]
  | k + 1, p :: ps => by
    rw [pc_cons, List.take_append, List.take_of_length_le (by simp; omega), List.take_succ_cons, pc_cons, ← pc_take]
    congr 2
    simp; omega
theorem pc_at {ps : List Par} {k : Nat} (h : k < ps.length) : ((pc ps).drop (k * 5)).take 5 = ps[k].cells := by
  rw [pc_drop, List.drop_eq_getElem_cons h, pc_cons, List.take_append]
  simp
theorem pc_put {ps : List Par} {k : Nat} (h : k < ps.length) (p : Par) : (pc ps).take (k * 5) ++ (p.cells ++ (pc ps).drop (k * 5 + 5)) = pc (ps.set k p) := by
  rw [show k * 5 + 5 = (k + 1) * 5 by omega, pc_take, pc_drop, ← pc_cons, ← pc_append, List.set_eq_take_append_cons_drop, if_pos h]
abbrev Par.nil : Par := ⟨0, [], [], 0, 0⟩
theorem rep_pc : ∀ n, repC n Par.nil.cells = pc (List.replicate n Par.nil)
  | 0 => rfl
  | n + 1 => by rw [repC, List.replicate_succ, pc_cons, rep_pc n]
theorem pc_clear {ps : List Par} {k n : Nat} (h : k + n = ps.length) : setAt (pc ps) (k * 5) (repC n Par.nil.cells) = pc (ps.take k ++ List.replicate n Par.nil) := by
  unfold setAt
  rw [rep_pc, pc_take, List.drop_of_length_le (by rw [pc_len, pc_len, List.length_replicate]; omega), List.append_nil, ← pc_append]
theorem allD_pc {ps : List Par} : allD (pc ps) = some (ps.flatMap Par.row) := allD_mapd
theorem chunk_pc : ∀ {k : Nat} {ps : List Par}, k ≤ ps.length → chunk 5 k (ps.flatMap Par.row) = (ps.take k).map Par.row
  | 0, ps, _ => by simp [chunk]
  | k + 1, [], h => by simp at h
  | k + 1, p :: ps, h => by
    rw [chunk, List.flatMap_cons, List.take_succ_cons, List.map_cons, ← chunk_pc (by simpa using h)]
    have hp : p.row.length = 5 := rfl
    rw [List.take_append, List.take_of_length_le (by omega), List.drop_append, List.drop_of_length_le (by omega), hp]
    simp
theorem pc_inj {a b : List Par} (h : pc a = pc b) : a = b := by
  have hl : a.length = b.length := by
    have := congrArg List.length h
    rw [pc_len, pc_len] at this
    omega
  have h1 := chunk_pc (ps := a) (Nat.le_refl _)
  have h2 := chunk_pc (ps := b) (Nat.le_refl _)
  have e : a.flatMap Par.row = b.flatMap Par.row := Option.some.inj (by rw [← allD_pc, ← allD_pc, h])
  rw [List.take_length] at h1 h2
  rw [← hl, ← e, h1] at h2
  exact mapP_inj.1 h2
noncomputable section
open Classical
theorem eqL_row {k1 k2 t1 t2 u1 u2 : Int} {z1 z2 p1 p2 : List UInt8} :
    eqL [.int .i64 k1, .str z1, .str p1, .int .i64 t1, .int .i64 u1] [.int .i64 k2, .str z2, .str p2, .int .i64 t2, .int .i64 u2] = decide ((⟨k1, z1, p1, t1, u1⟩ : Par) = ⟨k2, z2, p2, t2, u2⟩) := by
  rw [Bool.eq_iff_iff]
  simp [eqL]
def NQ := Zk @bin_agg <| Zk @eqAgg_ok <| Zk @fits_nil <| Zk @fits_i <| Zk @fits_s <| Zk @eqOp_eql @eqOp_neq
theorem compP_snoc : ∀ {l : List Par} {x y : Par}, compP (l ++ [x, y]) = if x = y then compP (l ++ [x]) else compP (l ++ [x]) ++ [y]
  | [], x, y => by
    by_cases h : x = y
    · subst h
      simp [compP, ordP_zero]
    · simp [compP, ordP_zero, h]
  | [a], x, y => by
    have := @compP_snoc [] x y
    simp only [List.nil_append] at this
    simp only [List.cons_append, List.nil_append, compP]
    by_cases h1 : ordP a x = 0
    · simp only [h1, if_true, this]
      split <;> simp_all [compP]
    · by_cases h2 : ordP x y = 0 <;> simp_all [compP, ordP_zero]
  | a :: b :: l, x, y => by
    have ih := @compP_snoc (b :: l) x y
    simp only [List.cons_append, compP] at ih ⊢
    rw [ih]
    split <;> split <;> simp
theorem take_two {ps : List Par} {i : Nat} (h : i + 1 < ps.length) : ∃ l, ps.take (i + 1) = l ++ [ps[i]] ∧ ps.take (i + 2) = l ++ [ps[i], ps[i + 1]] := by
  refine ⟨ps.take i, List.take_succ_eq_append_getElem (by omega), ?_⟩
  rw [List.take_succ_eq_append_getElem (by omega), List.take_succ_eq_append_getElem (by omega), List.append_assoc]
  rfl
theorem comp_same {ps : List Par} {i : Nat} (h : i + 1 < ps.length) (he : ps[i] = ps[i + 1]) : compP (ps.take (i + 2)) = compP (ps.take (i + 1)) := by
  obtain ⟨l, e1, e2⟩ := take_two h
  rw [e1, e2, compP_snoc, if_pos he]
theorem comp_new {ps : List Par} {i : Nat} (h : i + 1 < ps.length) (he : ¬ ps[i] = ps[i + 1]) : compP (ps.take (i + 2)) = compP (ps.take (i + 1)) ++ [ps[i + 1]] := by
  obtain ⟨l, e1, e2⟩ := take_two h
  rw [e1, e2, compP_snoc, if_neg he]
theorem comp_few {ps : List Par} (h : ps.length < 2) : compP ps = ps := by
  match ps with
  | [] => rfl
  | [_] => rfl
  | _ :: _ :: _ => simp at h; omega
theorem set_same {h : Hp} {id : Nat} {o : Ob} (hid : h[id]? = some o) : h.set id o = h := by
  have hl := lt_of_get hid
  rw [List.getElem?_eq_getElem hl] at hid
  rw [← Option.some.inj hid]
  exact List.set_getElem_self hl
structure CmI (ps : List Par) (i kk : Nat) (dk : List Par) : Prop where
  len : dk.length = ps.length
  lt : kk ≤ i
  pos : 0 < kk
  low : dk.take kk = compP (ps.take (i + 1))
  high : dk.drop i = ps.drop i
theorem CmI.at {ps : List Par} {i kk : Nat} {dk : List Par} (h : CmI ps i kk dk) {j : Nat} (hj : i ≤ j) : dk[j]? = ps[j]? := by
  have := congrArg (fun l => l[j - i]?) h.high
  simp only [List.getElem?_drop] at this
  rw [show i + (j - i) = j by omega] at this
  exact this
theorem CmI.skip {ps : List Par} {i kk : Nat} {dk : List Par} (h : CmI ps i kk dk) (hi : i + 1 < ps.length) (he : ps[i] = ps[i + 1]) : CmI ps (i + 1) kk dk :=
  ⟨h.len, Nat.le_succ_of_le h.lt, h.pos, by rw [comp_same hi he]; exact h.low, by
    have := congrArg (List.drop 1) h.high
    rwa [List.drop_drop, List.drop_drop] at this⟩
theorem CmI.keep {ps : List Par} {i kk : Nat} {dk : List Par} (h : CmI ps i kk dk) (hi : i + 1 < ps.length) (he : ¬ ps[i] = ps[i + 1]) : CmI ps (i + 1) (kk + 1) (dk.set kk ps[i + 1]) := by
  have hk : kk < dk.length := by have := h.len; have := h.lt; omega
  refine ⟨by rw [List.length_set]; exact h.len, Nat.succ_le_succ h.lt, Nat.succ_pos _, ?_, ?_⟩
  · rw [comp_new hi he, ← h.low, List.take_succ_eq_append_getElem (by simpa using hk), List.getElem_set_self]
    rw [List.take_set_of_le (Nat.le_refl _)]
  rw [List.drop_set_of_lt (by have := h.lt; omega)]
  have := congrArg (List.drop 1) h.high
  rwa [List.drop_drop, List.drop_drop] at this
theorem Wk.finM {n : Nat} {t : List (Nat × AV)} {h : Hp} (k id : Nat) (ps : List Par) (hk : look t k = .v (.c (.msl id ps.length))) (hid : h[id]? = some (.tok ps.length 5 (some (pc ps)))) :
    Wk n ⟨t, h⟩ ⟨[(k, .v (.c (.d (.sl false (ps.map Par.row)))))], h.set id (.tok ps.length 5 none)⟩ := by
  have h1 := Wk.freezeC (n := n) k id ps.length 5 (pc ps) _ hk hid allD_pc
  rw [chunk_pc (Nat.le_refl _), List.take_length] at h1
  exact h1.trans ((Wk.ofOwn k id (ps.map Par.row) (by simp [look])).trans (Wk.sub' (by simp [subT, look]) rfl))
theorem Wk.finO {n : Nat} {t : List (Nat × AV)} {h : Hp} (k id m q : Nat) (ps : List Par) (hq : q ≤ ps.length) (hk : look t k = .v (.c (.mso id m 0 q))) (hid : h[id]? = some (.tok m 5 (some (pc ps)))) :
    Wk n ⟨t, h⟩ ⟨[(k, .v (.c (.d (.sl false ((ps.take q).map Par.row)))))], h.set id (.tok m 5 none)⟩ := by
  have h1 := Wk.freezeO (n := n) k id m 5 q (pc ps) _ hk hid allD_pc
  rw [chunk_pc hq] at h1
  exact h1.trans (Wk.sub' (by simp [subT, look]) rfl)
def clK (z b : Nat) (h : Hp) (es : List (List D)) : Option COut := if allLen z es ∧ es.length * b ≤ 140737488355328 ∧ es.length ≤ 4611686018427387904 then some (.ret (.v (.c (.msl h.length es.length))) (h ++ [.tok es.length z (some (es.flatten.map .d))])) else none
def clA (z b : Nat) (args : List AV) (h : Hp) : Option COut := match args with
  | [.v (.c (.d (.sl _ es)))] => clK z b h es
  | _ => none
theorem clA_inv {z b : Nat} {args : List AV} {h : Hp} {out : COut} (hm : clA z b args h = some out) : ∃ f es, args = [.v (.c (.d (.sl f es)))] ∧ allLen z es ∧ es.length * b ≤ 140737488355328 ∧ es.length ≤ 4611686018427387904 ∧ out = .ret (.v (.c (.msl h.length es.length))) (h ++ [.tok es.length z (some (es.flatten.map .d))]) := by
  unfold clA at hm
  split at hm
  · rename_i f es
    unfold clK at hm
    split at hm
    · rename_i hc
      cases hm
      exact ⟨f, es, rfl, hc.1, hc.2.1, hc.2.2, rfl⟩
    cases hm
  cases hm
theorem clA_ok {z b : Nat} {h : Hp} {f : Bool} {es : List (List D)} (h1 : allLen z es) (h2 : es.length * b ≤ 140737488355328) (h3 : es.length ≤ 4611686018427387904) : clA z b [.v (.c (.d (.sl f es)))] h = some (.ret (.v (.c (.msl h.length es.length))) (h ++ [.tok es.length z (some (es.flatten.map .d))])) := if_pos ⟨h1, h2, h3⟩
def clP_k : List AV → Hp → Option COut := clA 5 56
theorem clP_kok : ImpC Tryz.prog Gt 82 clP_k := by
  intro args h out h0
  refine fok_of_awpSW (X := ctxN Tryz.prog Gt [] [] [] none (uL [79])) Tryz.func82 rfl rfl (by kernel_rfl) (by kernel_rfl) (kok_n AllOk.nil AllK.nil AllN.nil) ?_ ?_
  · obtain ⟨f, es, rfl, _⟩ := clA_inv h0
    exact Nat.le_of_ble_eq_true rfl
  obtain ⟨f, es, rfl, h1, h2, h3, rfl⟩ := clA_inv h0
  have he : es.isEmpty = decide (es = []) := by cases es <;> rfl
  by_cases c0 : es = []
  · subst c0
    have ee : ([] : List (List D)).isEmpty = true := rfl
    have hc := Nat.zero_add 0
    repeat' (first | simp only [hc, AS, Tryz.f82, NX, NPV, SX, ee, ZZ, simprocAttr, ↓reduceIte] | ((first | apply Za | apply Zb | apply Zc | apply Zd | apply Ze | apply Zf | apply Zg | apply Zh) <;> intro hc) | refine Zi ?_ | refine Zj ?_)
    have ap : ∀ h, apNew h 5 56 [] (srS 5 (some [])) = some (.v (.c (.msl h.length 0)), h ++ [.tok 0 5 (some [])]) := fun h => by
      rw [srS_ok (eq_true h1)]
      exact apNew_ok (eq_true (by simp)) (eq_true (by simp))
    refine ⟨seqS_id ?_, seqS_id ?_⟩
    · skip
      have hc := Nat.zero_add 0
      repeat' (first | simp only [hc, AS, Tryz.f82, NX, NPV, SX, ZZ, simprocAttr, ↓reduceIte] | ((first | apply Za | apply Zb | apply Zc | apply Zd | apply Ze | apply Zf | apply Zg | apply Zh) <;> intro hc) | refine Zi ?_ | refine Zj ?_)
      exact ⟨_, Wk.msl 2 5 (by decide) (by simp [look]), [.c (.msl h.length 0)], by simp [resAllV, resOneV, S.get, look, AV.one], by simp [resVV]⟩
    · skip
      have hc := Nat.zero_add 0
      repeat' (first | simp only [hc, AS, Tryz.f82, NX, NPV, SX, ap, ZZ, simprocAttr, ↓reduceIte] | ((first | apply Za | apply Zb | apply Zc | apply Zd | apply Ze | apply Zf | apply Zg | apply Zh) <;> intro hc) | refine Zi ?_ | refine Zj ?_)
      exact ⟨_, Wk.refl, [.c (.msl h.length 0)], by simp [resAllV, resOneV, S.get, look, AV.one], by simp [resVV]⟩
  have ee : es.isEmpty = false := by cases es <;> simp_all
  have ap : ∀ h, apNew h 5 56 [] (srS 5 (some es)) = some (.v (.c (.msl h.length es.length)), h ++ [.tok es.length 5 (some (es.flatten.map .d))]) := fun h => by
    rw [srS_ok (eq_true h1)]
    exact apNew_ok (eq_true h2) (eq_true h3)
  have hc := Nat.zero_add 0
  repeat' (first | simp only [hc, AS, Tryz.f82, NX, NPV, SX, ee, ap, ZZ, simprocAttr, ↓reduceIte] | ((first | apply Za | apply Zb | apply Zc | apply Zd | apply Ze | apply Zf | apply Zg | apply Zh) <;> intro hc) | refine Zi ?_ | refine Zj ?_)
  exact ⟨_, Wk.refl, [.c (.msl h.length es.length)], by simp [resAllV, resOneV, S.get, look, AV.one], by simp [resVV]⟩
theorem msC_lo {id m n z l : Nat} (h : l < n) : msC id m 0 n z (some (l : Int)) none = some (.mso id m (l * z) (n - l)) := by
  rw [msC_ok (eq_true (by simp)) (eq_true (by simpa using h)) (eq_true (by simp))]
  simp
theorem msC_hi {id m n z u : Nat} (h0 : 0 < u) (h : u ≤ n) : msC id m 0 n z none (some (u : Int)) = some (.mso id m 0 u) := by
  rw [msC_ok (eq_true (by simp)) (eq_true (by simpa using h0)) (eq_true (by simpa using h))]
  simp
def cmR (p : Hp × Nat × List Par) (args : List AV) (h : Hp) : Prop := args = [.v (.c (.msl p.2.1 p.2.2.length))] ∧ h = p.1 ∧ p.1[p.2.1]? = some (.tok p.2.2.length 5 (some (pc p.2.2)))
theorem cmR_inj {a b : Hp × Nat × List Par} {args : List AV} {h : Hp} (ha : cmR a args h) (hb : cmR b args h) : b = a := by
  obtain ⟨a1, a2, a3⟩ := a
  obtain ⟨b1, b2, b3⟩ := b
  obtain ⟨h1, h2, h3⟩ := ha
  obtain ⟨g1, g2, g3⟩ := hb
  dsimp only at *
  subst h2 g2
  rw [h1] at g1
  simp only [List.cons.injEq, AV.v.injEq, V.c.injEq, C1.msl.injEq, and_true] at g1
  obtain ⟨rfl, g4⟩ := g1
  rw [h3] at g3
  simp only [Option.some.injEq, Ob.tok.injEq] at g3
  rw [pc_inj g3.2.2]
def cmP_k : List AV → Hp → Option COut := kR cmR fun p => if p.2.2.length ≤ 1000000000 then some (.ret (.v (.c (.d (.sl false ((compP p.2.2).map Par.row))))) (p.1.set p.2.1 (.tok p.2.2.length 5 none))) else none
theorem cmP_kok : ImpC Tryz.prog Gt 88 cmP_k := by
  intro args h out h0
  refine fok_of_awpSW (X := ctxN Tryz.prog Gt [] [] [] none (uL [79])) Tryz.func88 rfl rfl (by kernel_rfl) (by kernel_rfl) (kok_n AllOk.nil AllK.nil AllN.nil) ?_ ?_
  · obtain ⟨a, ⟨rfl, _⟩, _⟩ := kR_inv h0
    exact Nat.le_of_ble_eq_true rfl
  obtain ⟨⟨h', id, ps⟩, ⟨rfl, rfl, hid⟩, hg⟩ := kR_inv h0
  dsimp only at hid hg ⊢
  split at hg
  · rename_i hl
    cases hg
    by_cases c2 : ps.length < 2
    · have hlt : ((ps.length : Int) < 2) = True := eq_true (by omega)
      have hc := Nat.zero_add 0
      repeat' (first | simp only [hc, AS, Tryz.f88, NX, NPV, SX, hid, hlt, ZZ, simprocAttr, ↓reduceIte] | ((first | apply Za | apply Zb | apply Zc | apply Zd | apply Ze | apply Zf | apply Zg | apply Zh) <;> intro hc) | refine Zi ?_ | refine Zj ?_)
      exact ⟨_, Wk.finM 2 id ps (by simp [look]) hid, _, by simp [resAllV, resOneV, S.get, look, AV.one]; rfl, by simp [resVV, comp_few c2]⟩
    have hlt : ((ps.length : Int) < 2) = False := eq_false (by omega)
    have hc := Nat.zero_add 0
    repeat' (first | simp only [hc, AS, Tryz.f88, NX, NPV, SX, hid, hlt, ZZ, simprocAttr, ↓reduceIte] | ((first | apply Za | apply Zb | apply Zc | apply Zd | apply Ze | apply Zf | apply Zg | apply Zh) <;> intro hc) | refine Zi ?_ | refine Zj ?_)
    refine awpS_loop (σ := Nat) (fun k => k + 1 ≤ ps.length ∧ compP (ps.take (k + 1)) = ps.take (k + 1)) (fun k => ⟨[(3, AV.i ((k : Int) + 1)), (0, .v (.c (.msl id ps.length)))], h⟩) (fun k => ps.length - k) 0 (Wk.sub' (by simp [subT, look]) rfl) ⟨by omega, comp_few (by simp; omega)⟩ ?_
    rintro k ⟨hk, hco⟩
    have tk : ((k : Int) + 1).toNat = k + 1 := by omega
    have hw := wI (n := (k : Int) + 1 + 1) (by omega) (by omega)
    have hw1 : IntKind.i64.wrap ((k : Int) + 1 - 1) = k := by rw [wI (by omega) (by omega)]; omega
    have z1 : ((0 : Int) ≤ (k : Int) + 1) = True := eq_true (by omega)
    by_cases hkl : k + 1 < ps.length
    · have hlt2 : ((k : Int) + 1 < (ps.length : Int)) = True := eq_true (by omega)
      have hlt3 : ((k : Int) < (ps.length : Int)) = True := eq_true (by omega)
      have hle1 : ((k + 1) * 5 + 5 ≤ (pc ps).length) = True := eq_true (by rw [pc_len]; omega)
      have hle2 : (k * 5 + 5 ≤ (pc ps).length) = True := eq_true (by rw [pc_len]; omega)
      have d1 := pc_at hkl
      have d2 := pc_at (k := k) (ps := ps) (by omega)
      have hsame := @comp_same ps k hkl
      have hnew := @comp_new ps k hkl
      have hI : ps[k] = ps[k + 1] → CmI ps (k + 1) (k + 1) ps := fun e => ⟨rfl, Nat.le_refl _, Nat.succ_pos _, by rw [hsame e, hco], rfl⟩
      have htk := List.take_succ_eq_append_getElem hkl
      have ms1 : msC id ps.length 0 ps.length 5 (some ((k : Int) + 1)) none = some (.mso id ps.length ((k + 1) * 5) (ps.length - (k + 1))) := msC_lo hkl
      generalize ps[k + 1] = p at *
      generalize ps[k] = q at *
      obtain ⟨k1, z1', p1, t1, u1⟩ := p
      obtain ⟨k2, z2', p2, t2, u2⟩ := q
      simp only [Par.cells] at d1 d2
      have heq := @eqL_row k1 k2 t1 t2 u1 u2 z1' z2' p1 p2
      by_cases he : (⟨k2, z2', p2, t2, u2⟩ : Par) = ⟨k1, z1', p1, t1, u1⟩
      · rw [decide_eq_true he.symm] at heq
        have hc := Nat.zero_add 0
        repeat' (first | simp only [hc, AS, NX, NPV, SX, hid, NQ, hlt2, hlt3, tk, hw1, z1, nn, hle1, hle2, d1, d2, heq, MO, ms1, Int.toNat_natCast, ZZ, simprocAttr, ↓reduceIte] | ((first | apply Za | apply Zb | apply Zc | apply Zd | apply Ze | apply Zf | apply Zg | apply Zh) <;> intro hc) | refine Zi ?_ | refine Zj ?_)
        refine awpS_loop (σ := Nat × Nat × List Par) (fun s => k + 1 + s.1 < ps.length ∧ CmI ps (k + 1 + s.1) s.2.1 s.2.2) (fun s => ⟨[(5, AV.i ((s.1 : Int) + 1)), (4, .v (.c (.mso id ps.length ((k + 1) * 5) (ps.length - (k + 1))))), (3, AV.i s.2.1), (0, .v (.c (.msl id ps.length)))], h.set id (.tok ps.length 5 (some (pc s.2.2)))⟩) (fun s => ps.length - s.1) (0, k + 1, ps)
          (Wk.sub' (by simp [subT, look]) (set_same hid).symm) ⟨by simp only []; omega, hI he⟩ ?_
        clear hI he heq d1 d2 hsame hnew htk hle1 hle2
        rintro ⟨q, kk, dk⟩ ⟨hq, hC⟩
        dsimp only at hq hC ⊢
        have tq : ((q : Int) + 1).toNat = q + 1 := by omega
        have hwq := wI (n := (q : Int) + 1 + 1) (by omega) (by omega)
        have hwk := wI (n := (kk : Int) + 1) (by have := hC.lt; omega) (by have := hC.lt; omega)
        have hwq1 : IntKind.i64.wrap ((q : Int) + 1 - 1) = q := by rw [wI (by omega) (by omega)]; omega
        have zq : ((0 : Int) ≤ (q : Int) + 1) = True := eq_true (by omega)
        have hid2 : ∀ cs, (h.set id (.tok ps.length 5 cs))[id]? = some (.tok ps.length 5 cs) := fun cs => by simp [lt_of_get hid]
        have hlen := hC.len
        by_cases hql : q + 1 < ps.length - (k + 1)
        · have hltq : ((q : Int) + 1 < ((ps.length - (k + 1) : Nat) : Int)) = True := eq_true (by omega)
          have hltq2 : ((q : Int) < ((ps.length - (k + 1) : Nat) : Int)) = True := eq_true (by omega)
          have hltk : ((kk : Int) < (ps.length : Int)) = True := eq_true (by have := hC.lt; omega)
          have i1 : k + 1 + q + 1 < dk.length := by omega
          have i2 : k + 1 + q < dk.length := by omega
          have g1 : (k + 1) * 5 + (q + 1) * 5 = (k + 1 + q + 1) * 5 := by omega
          have g2 : (k + 1) * 5 + q * 5 = (k + 1 + q) * 5 := by omega
          have hle1 : ((k + 1 + q + 1) * 5 + 5 ≤ (pc dk).length) = True := eq_true (by rw [pc_len]; omega)
          have hle2 : ((k + 1 + q) * 5 + 5 ≤ (pc dk).length) = True := eq_true (by rw [pc_len]; omega)
          have hle3 : (kk * 5 + 5 ≤ (pc dk).length) = True := eq_true (by have := hC.lt; rw [pc_len]; omega)
          have d1 := pc_at i1
          have d2 := pc_at i2
          have e1 : dk[k + 1 + q + 1] = ps[k + 1 + q + 1]'(by omega) := by
            have := hC.at (j := k + 1 + q + 1) (by omega)
            rw [List.getElem?_eq_getElem i1, List.getElem?_eq_getElem (by omega)] at this
            exact Option.some.inj this
          have e2 : dk[k + 1 + q] = ps[k + 1 + q]'(by omega) := by
            have := hC.at (j := k + 1 + q) (by omega)
            rw [List.getElem?_eq_getElem i2, List.getElem?_eq_getElem (by omega)] at this
            exact Option.some.inj this
          rw [e1] at d1
          rw [e2] at d2
          have hskip := hC.skip (by omega)
          have hkeep := hC.keep (by omega)
          have hput := fun p => pc_put (ps := dk) (k := kk) (by have := hC.lt; omega) p
          generalize ps[k + 1 + q + 1] = p at *
          generalize ps[k + 1 + q] = r at *
          obtain ⟨k1, z1', p1, t1, u1⟩ := p
          obtain ⟨k2, z2', p2, t2, u2⟩ := r
          simp only [Par.cells] at d1 d2
          have hput := hput ⟨k1, z1', p1, t1, u1⟩
          simp only [Par.cells] at hput
          have heq := @eqL_row k1 k2 t1 t2 u1 u2 z1' z2' p1 p2
          by_cases he : (⟨k2, z2', p2, t2, u2⟩ : Par) = ⟨k1, z1', p1, t1, u1⟩
          · rw [decide_eq_true he.symm] at heq
            have hc := Nat.zero_add 0
            repeat' (first | simp only [hc, AS, NX, NPV, SX, hid2, NQ, hltq, hltq2, tq, hwq, hwq1, zq, nn, g1, g2, hle1, hle2, d1, d2, heq, MO, Int.toNat_natCast, ZZ, simprocAttr, ↓reduceIte] | ((first | apply Za | apply Zb | apply Zc | apply Zd | apply Ze | apply Zf | apply Zg | apply Zh) <;> intro hc) | refine Zi ?_ | refine Zj ?_)
            exact lp_next (q + 1, kk, dk) (Wk.sub' (by simp [subT, look]) rfl) ⟨by simp only []; omega, hskip he⟩ (by simp only []; omega)
          rw [decide_eq_false (fun e => he e.symm)] at heq
          have hc := Nat.zero_add 0
          repeat' (first | simp only [hc, AS, NX, NPV, SX, hid2, NQ, hltq, hltq2, hltk, tq, hwq, hwq1, hwk, zq, nn, g1, g2, hle1, hle2, hle3, d1, d2, heq, MO, Int.toNat_natCast, List.set_set, hput, ZZ, simprocAttr, ↓reduceIte] | ((first | apply Za | apply Zb | apply Zc | apply Zd | apply Ze | apply Zf | apply Zg | apply Zh) <;> intro hc) | refine Zi ?_ | refine Zj ?_)
          exact lp_next (q + 1, kk + 1, dk.set kk ⟨k1, z1', p1, t1, u1⟩) (Wk.sub' (by simp [subT, look]) (congrArg (fun c => h.set id (.tok ps.length 5 (some c))) hput)) ⟨by simp only []; omega, hkeep he⟩ (by simp only []; omega)
        have hltq : ((q : Int) + 1 < ((ps.length - (k + 1) : Nat) : Int)) = False := eq_false (by omega)
        have ms2 : msC id ps.length 0 ps.length 5 (some (kk : Int)) none = some (.mso id ps.length (kk * 5) (ps.length - kk)) := msC_lo (by have := hC.lt; omega)
        have ms3 : msC id ps.length 0 ps.length 5 none (some (kk : Int)) = some (.mso id ps.length 0 kk) := msC_hi hC.pos (by have := hC.lt; omega)
        have hkn : kk < ps.length := by have := hC.lt; omega
        have hcl : clO (h.set id (.tok ps.length 5 (some (pc dk)))) id ps.length (kk * 5) (ps.length - kk) (some 5) (some [.d (.int .i64 0), .d (.str []), .d (.str []), .d (.int .i64 0), .d (.int .i64 0)]) (some (.tok ps.length 5 (some (pc dk)))) = some (h.set id (.tok ps.length 5 (some (pc (dk.take kk ++ List.replicate (ps.length - kk) Par.nil))))) := by
          rw [clO_ok (z := 5) (zc := [.d (.int .i64 0), .d (.str []), .d (.str []), .d (.int .i64 0), .d (.int .i64 0)]) (eq_true rfl) (eq_true (by omega)) (eq_true (by rw [pc_len]; omega)), List.set_set]
          rw [show ([.d (.int .i64 0), .d (.str []), .d (.str []), .d (.int .i64 0), .d (.int .i64 0)] : List C1) = Par.nil.cells from rfl, pc_clear (by omega)]
        have hres : ((dk.take kk ++ List.replicate (ps.length - kk) Par.nil).take kk) = compP ps := by
          rw [List.take_append, List.take_take, Nat.min_self, List.length_take, Nat.min_eq_left (by omega), Nat.sub_self, List.take_zero, List.append_nil, hC.low, List.take_of_length_le (by omega)]
        have hc := Nat.zero_add 0
        repeat' (first | simp only [hc, AS, NX, NPV, SX, hid2, hltq, MO, ms2, ms3, hcl, ZZ, simprocAttr, ↓reduceIte] | ((first | apply Za | apply Zb | apply Zc | apply Zd | apply Ze | apply Zf | apply Zg | apply Zh) <;> intro hc) | refine Zi ?_ | refine Zj ?_)
        have hfin := Wk.finO (n := h.length) (t := [(2, .v (.c (.mso id ps.length 0 kk)))]) (h := h.set id (.tok ps.length 5 (some (pc (dk.take kk ++ List.replicate (ps.length - kk) Par.nil))))) 2 id ps.length kk _ (by simp; omega) (by simp [look]) (hid2 _)
        rw [hres, List.set_set] at hfin
        exact ⟨_, (Wk.sub' (by simp [subT, look]) rfl).trans hfin, [.c (.d (.sl false ((compP ps).map Par.row)))], by simp [resAllV, resOneV, S.get, look, AV.one], by simp [resVV]⟩
      rw [decide_eq_false (fun e => he e.symm)] at heq
      have hc := Nat.zero_add 0
      repeat' (first | simp only [hc, AS, NX, NPV, SX, hid, NQ, hlt2, hlt3, tk, hw1, z1, nn, hle1, hle2, d1, d2, heq, hw, Int.toNat_natCast, ZZ, simprocAttr, ↓reduceIte] | ((first | apply Za | apply Zb | apply Zc | apply Zd | apply Ze | apply Zf | apply Zg | apply Zh) <;> intro hc) | refine Zi ?_ | refine Zj ?_)
      refine lp_next (k + 1) (Wk.sub' (by simp [subT, look]) rfl) ⟨by omega, ?_⟩ (by omega)
      rw [hnew he, hco, htk]
    have hlt2 : ((k : Int) + 1 < (ps.length : Int)) = False := eq_false (by omega)
    rw [List.take_of_length_le (by omega)] at hco
    have hc := Nat.zero_add 0
    repeat' (first | simp only [hc, AS, NX, NPV, SX, hid, hlt2, ZZ, simprocAttr, ↓reduceIte] | ((first | apply Za | apply Zb | apply Zc | apply Zd | apply Ze | apply Zf | apply Zg | apply Zh) <;> intro hc) | refine Zi ?_ | refine Zj ?_)
    exact ⟨_, Wk.finM 2 id ps (by simp [look]) hid, _, by simp [resAllV, resOneV, S.get, look, AV.one]; rfl, by simp [resVV, hco]⟩
  cases hg
end
end Go.Ab
