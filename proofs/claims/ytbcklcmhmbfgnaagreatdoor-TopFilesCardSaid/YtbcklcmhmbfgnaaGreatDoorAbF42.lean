/-
  Texts of the layer and of the laws, put together: AbH11, AbTF9, AbTF10.
-/
import Derived.Test.YtbcklcmhmbfgnaaGreatDoorAbF14
import Derived.Test.YtbcklcmhmbfgnaaGreatDoorAbF41
set_option linter.unusedSimpArgs false
set_option linter.unusedVariables false
set_option maxRecDepth 100000
namespace Go.Ab
open Go.RowKit
section
variable {X : Ctx} {A : Actn} {md : Region.Mode} {ops : Array Oper} {fs : List FuncId}
def AddsOk (X : Ctx) (fs : List FuncId) : Prop := ∀ f ∈ fs, ∀ args h out, X.K f args h = some out → ∃ v g, out = .ret v (h ++ g)
def addsK (fs : List FuncId) (o : Oper) : Bool := match o.op with
  | .call c => match c.callee with
    | .value (.func f) => fs.contains f
    | _ => false
  | _ => false
def comK (X : Ctx) (fs : List FuncId) (x y : Oper) : Bool := commute X x y || (lvl X x ≤ 1 && addsK fs y && (match y.op with | .call c => (match c.callee with | .value (.func f) => (X.M f).isNone && (X.N f).isNone | _ => false) | _ => false))
theorem addsK_ext (hA : AddsOk X fs) {s : S} {h : Hp} {o : Oper} {out : OpR} (ha : (addsK fs o && (match o.op with | .call c => (match c.callee with | .value (.func f) => (X.M f).isNone && (X.N f).isNone | _ => false) | _ => false)) = true) (hr : opR X (X.ev s) h o = some out) : ∃ v g, out = .val v (h ++ g) := by
  obtain ⟨dst, op, type, pos, after, guard⟩ := o
  rw [Bool.and_eq_true] at ha
  obtain ⟨ha, hb⟩ := ha
  cases op <;> simp only [addsK] at ha <;> try (exact absurd ha (by decide))
  case call c =>
    obtain ⟨callee, args, ats⟩ := c
    cases callee with
    | builtin b => exact absurd ha (by simp)
    | invoke x y => exact absurd ha (by simp)
    | value f =>
      cases f with
      | func f =>
        simp only [List.contains_iff_mem] at ha
        simp only [Bool.and_eq_true, Option.isNone_iff_eq_none] at hb
        simp only [opR, callA, ev_func, hb.1, hb.2, Option.map_eq_some_iff] at hr
        obtain ⟨co, hk, rfl⟩ := hr
        obtain ⟨v, g, rfl⟩ := hA f ha _ _ _ hk
        exact ⟨v, g, rfl⟩
      | _ => exact absurd ha (by simp)
theorem st_commK (hA : AddsOk X fs) {ops : Array Oper} {oi oj : Oper} {s s1 s12 : S} (hap : oi.apart ops oj = true) (hc : comK X fs oi oj = true) (h1 : st X ops oi s = some s1) (h2 : st X ops oj s1 = some s12) :
    ∃ s2 s21, st X ops oj s = some s2 ∧ st X ops oi s2 = some s21 ∧ Eqv s12 s21 := by
  obtain ⟨ha, hb, hd⟩ := Oper.apart_spec hap
  unfold st at h1 h2
  simp only [Option.bind_eq_some_iff] at h1 h2
  obtain ⟨wi, hwi, h1⟩ := h1
  obtain ⟨wj, hwj, h2⟩ := h2
  -- what the two do, as values and heaps
  have shape : ∀ (o : Oper) (w : Bool) (s s' : S), (if w then (opA X s o).bind fun
      | .val v h => some (({ s with h } : S).putO o.dst v)
      | .skip h => some (({ s with h } : S).putO o.dst .top)
      | .pan _ _ => none
    else some (s.putO o.dst (.tup []))) = some s' → ∃ h v, s' = ({ s with h } : S).putO o.dst v ∧
      (w = false ∧ h = s.h ∧ v = .tup [] ∨ w = true ∧ (opR X (X.ev s) s.h o = some (.val v h) ∨ opR X (X.ev s) s.h o = some (.skip h) ∧ v = .top)) := by
    intro o w s s' h
    cases w with
    | false => simp only [Bool.false_eq_true, if_false, Option.some.injEq] at h; exact ⟨s.h, .tup [], h.symm, .inl ⟨rfl, rfl, rfl⟩⟩
    | true =>
      simp only [if_true, Option.bind_eq_some_iff] at h
      obtain ⟨out, ho, h⟩ := h
      unfold opA at ho
      cases out with
      | val v h' => simp only [Option.some.injEq] at h; exact ⟨h', v, h.symm, .inr ⟨rfl, .inl ho⟩⟩
      | skip h' => simp only [Option.some.injEq] at h; exact ⟨h', .top, h.symm, .inr ⟨rfl, .inr ⟨ho, rfl⟩⟩⟩
      | pan x h' => cases h
  obtain ⟨hi, vi, rfl, ci⟩ := shape oi wi s s1 h1
  obtain ⟨hj, vj, rfl, cj⟩ := shape oj wj _ s12 h2
  rw [wantA_put ha] at hwj
  have hev : X.ev (({ s with h := hi } : S).putO oi.dst vi) = X.ev (s.putO oi.dst vi) := by
    funext x
    cases x <;> simp only [Ctx.ev]
    rw [get_putO, get_putO]; rfl
  rw [hev, putO_h] at cj
  simp only at cj
  simp only [opA_put ha] at cj
  have fin : ∀ (h2 : Hp), (∃ hx, wj = false ∧ hx = s.h ∧ vj = .tup [] ∧ hx = h2 ∨ wj = true ∧ (opR X (X.ev s) s.h oj = some (.val vj h2) ∨ opR X (X.ev s) s.h oj = some (.skip h2) ∧ vj = .top)) →
      (wi = false ∧ hj = h2 ∧ vi = .tup [] ∨ wi = true ∧ (opR X (X.ev s) h2 oi = some (.val vi hj) ∨ opR X (X.ev s) h2 oi = some (.skip hj) ∧ vi = .top)) →
      ∃ s2 s21, st X ops oj s = some s2 ∧ st X ops oi s2 = some s21 ∧ Eqv (({ (({ s with h := hi } : S).putO oi.dst vi) with h := hj } : S).putO oj.dst vj) s21 := by
    intro h2 hx hy
    have e1 : st X ops oj s = some (({ s with h := h2 } : S).putO oj.dst vj) := by
      unfold st
      rw [hwj, Option.bind_some]
      obtain ⟨hx0, hx⟩ := hx
      rcases hx with ⟨rfl, rfl, rfl, rfl⟩ | ⟨rfl, hx | ⟨hx, rfl⟩⟩
      · rfl
      · simp only [if_true]; unfold opA; rw [hx]; rfl
      simp only [if_true]; unfold opA; rw [hx]; rfl
    have hev2 : ∀ h', opR X (X.ev (({ s with h := h2 } : S).putO oj.dst vj)) h' oi = opR X (X.ev s) h' oi := fun h' => by
      rw [opA_put hd]; rfl
    have e2 : st X ops oi (({ s with h := h2 } : S).putO oj.dst vj) = some (({ (({ s with h := h2 } : S).putO oj.dst vj) with h := hj } : S).putO oi.dst vi) := by
      unfold st
      rw [wantA_put hd, hwi, Option.bind_some]
      rcases hy with ⟨rfl, rfl, rfl⟩ | ⟨rfl, hy | ⟨hy, rfl⟩⟩
      · simp only [Bool.false_eq_true, if_false]
        congr 1
        cases oj.dst <;> rfl
      · simp only [if_true]; unfold opA; rw [hev2, putO_h, hy]; rfl
      simp only [if_true]; unfold opA; rw [hev2, putO_h, hy]; rfl
    refine ⟨_, _, e1, e2, ?_, fun t => ?_⟩
    · rw [putO_h, putO_h]
    rw [get_putO, get_putO]
    show (if oj.dst = some t then vj else (({ s with h := hi } : S).putO oi.dst vi).get t) = if oi.dst = some t then vi else (({ s with h := h2 } : S).putO oj.dst vj).get t
    rw [get_putO, get_putO]
    by_cases h3 : oi.dst = some t
    · have h4 : oj.dst ≠ some t := hb t h3
      rw [if_neg h4, if_pos h3, if_pos h3]
    rw [if_neg h3, if_neg h3]
    rfl
  unfold comK commute at hc
  simp only [Bool.or_eq_true, Bool.and_eq_true, beq_iff_eq, decide_eq_true_eq] at hc
  have hsame : ∀ (o : Oper) (w : Bool) (h' hh : Hp) (v : AV), lvl X o ≤ 1 → (w = false ∧ hh = h' ∧ v = .tup [] ∨ w = true ∧ (opR X (X.ev s) h' o = some (.val v hh) ∨ opR X (X.ev s) h' o = some (.skip hh) ∧ v = .top)) → hh = h' := by
    intro o w h' hh v hl hx
    rcases hx with ⟨_, h, _⟩ | ⟨_, hx | ⟨hx, _⟩⟩
    · exact h
    · obtain ⟨v', he⟩ := lvl1 (fun f => ev_func s f) hl (fun _ _ => by simp) hx; cases he; rfl
    obtain ⟨v', he⟩ := lvl1 (fun f => ev_func s f) hl (fun _ _ => by simp) hx; cases he
  have hany : ∀ (o : Oper) (w : Bool) (h' hh h'' : Hp) (v : AV), lvl X o = 0 → (w = false ∧ hh = h' ∧ v = .tup [] ∨ w = true ∧ (opR X (X.ev s) h' o = some (.val v hh) ∨ opR X (X.ev s) h' o = some (.skip hh) ∧ v = .top)) →
      (w = false ∧ h'' = h'' ∧ v = .tup [] ∨ w = true ∧ (opR X (X.ev s) h'' o = some (.val v h'') ∨ opR X (X.ev s) h'' o = some (.skip h'') ∧ v = .top)) := by
    intro o w h' hh h'' v hl hx
    rcases hx with ⟨h1, _, h3⟩ | ⟨h1, hx | ⟨hx, _⟩⟩
    · exact .inl ⟨h1, rfl, h3⟩
    · obtain ⟨v', he, hall⟩ := lvl0 (fun f => ev_func s f) hl (fun _ _ => by simp) hx; cases he; exact .inr ⟨h1, .inl (hall h'')⟩
    obtain ⟨v', he, _⟩ := lvl0 (fun f => ev_func s f) hl (fun _ _ => by simp) hx; cases he
  have pack : ∀ (h2 : Hp), (wj = false ∧ h2 = s.h ∧ vj = .tup [] ∨ wj = true ∧ (opR X (X.ev s) s.h oj = some (.val vj h2) ∨ opR X (X.ev s) s.h oj = some (.skip h2) ∧ vj = .top)) →
      (∃ hx, wj = false ∧ hx = s.h ∧ vj = .tup [] ∧ hx = h2 ∨ wj = true ∧ (opR X (X.ev s) s.h oj = some (.val vj h2) ∨ opR X (X.ev s) s.h oj = some (.skip h2) ∧ vj = .top)) := fun h2 h => by
    rcases h with ⟨a1, a2, a3⟩ | h
    · exact ⟨s.h, .inl ⟨a1, rfl, a3, a2.symm⟩⟩
    exact ⟨s.h, .inr h⟩
  rcases hc with (((hc | hc) | hc) | hc) | hc
  · -- the first looks at no object
    have e := hsame oi wi s.h hi vi (by omega) ci
    subst e
    refine fin hj (pack hj cj) ?_
    have := hany oi wi s.h s.h hj vi hc ci
    rcases this with ⟨b1, _, b3⟩ | h
    · exact .inl ⟨b1, rfl, b3⟩
    exact .inr h
  · -- the second looks at no object
    have e := hsame oj wj hi hj vj (by omega) cj
    subst e
    exact fin s.h (pack s.h (hany oj wj _ _ s.h vj hc cj)) ci
  · have e := hsame oi wi s.h hi vi hc.1 ci
    subst e
    have e := hsame oj wj s.h hj vj hc.2 cj
    subst e
    exact fin s.h (pack s.h cj) ci
  · -- the second lays a new variable
    have e := hsame oi wi s.h hi vi hc.1 ci
    subst e
    have hext : ∃ g, hj = s.h ++ g := by
      rcases cj with ⟨_, h2, _⟩ | ⟨_, h2 | ⟨h2, _⟩⟩
      · exact ⟨[], by rw [h2]; simp⟩
      · obtain ⟨v', b, he⟩ := adds_ext hc.2 h2; cases he; exact ⟨_, rfl⟩
      obtain ⟨v', b, he⟩ := adds_ext hc.2 h2; cases he
    obtain ⟨g, rfl⟩ := hext
    refine fin (s.h ++ g) (pack _ cj) ?_
    rcases ci with ⟨b1, _, b3⟩ | ⟨b1, hx | ⟨hx, _⟩⟩
    · exact .inl ⟨b1, rfl, b3⟩
    · exact .inr ⟨b1, .inl (read_ext (fun f => ev_func s f) hc.1 hx)⟩
    obtain ⟨v', he⟩ := lvl1 (fun f => ev_func s f) hc.1 (fun _ _ => by simp) hx; cases he
  -- the second lays new objects
  have e := hsame oi wi s.h hi vi hc.1.1 ci
  subst e
  have hext : ∃ g, hj = s.h ++ g := by
    rcases cj with ⟨_, h2, _⟩ | ⟨_, h2 | ⟨h2, _⟩⟩
    · exact ⟨[], by rw [h2]; simp⟩
    · obtain ⟨v', b, he⟩ := addsK_ext (s := s) hA (by rw [Bool.and_eq_true]; exact ⟨hc.1.2, hc.2⟩) h2; cases he; exact ⟨_, rfl⟩
    obtain ⟨v', b, he⟩ := addsK_ext (s := s) hA (by rw [Bool.and_eq_true]; exact ⟨hc.1.2, hc.2⟩) h2; cases he
  obtain ⟨g, rfl⟩ := hext
  refine fin (s.h ++ g) (pack _ cj) ?_
  rcases ci with ⟨b1, _, b3⟩ | ⟨b1, hx | ⟨hx, _⟩⟩
  · exact .inl ⟨b1, rfl, b3⟩
  · exact .inr ⟨b1, .inl (read_ext (fun f => ev_func s f) hc.1.1 hx)⟩
  obtain ⟨v', he⟩ := lvl1 (fun f => ev_func s f) hc.1.1 (fun _ _ => by simp) hx; cases he
theorem anyA_firstK (hA : AddsOk X fs) {Q : S → Prop} (hQ : ∀ s s', Eqv s s' → Q s → Q s') {i : Nat} {oi : Oper} (hi : ops[i]? = some oi) :
    ∀ (fuel : Nat) (listed : Array Bool) (s s1 : S),
      (∀ j oj, ops[j]? = some oj → j ≠ i → listed.getD j true = false → behB md ops i ops.size j = false → oi.apart ops oj = true ∧ comK X fs oi oj = true) → Closed md ops listed →
      i ∈ Region.ready md ops listed → st X ops oi s = some s1 →
      anyA X md ops Q fuel (listed.setIfInBounds i true) s1 → anyA X md ops Q (fuel + 1) listed s := by
  intro fuel
  induction fuel with
  | zero =>
    intro listed s s1 _ _ hr hy H
    refine ⟨fun h => (by rw [h] at hr; cases hr), fun j hj => ?_⟩
    by_cases hji : j = i
    · subst hji
      unfold opAt
      rw [hi]
      exact ⟨s1, hy, H⟩
    · have := ready_mono hj hji
      rw [H.1] at this
      cases this
  | succ fuel ih =>
    intro listed s s1 hfree hcl hr hy H
    refine ⟨fun h => (by rw [h] at hr; cases hr), fun j hj => ?_⟩
    by_cases hji : j = i
    · subst hji
      unfold opAt
      rw [hi]
      exact ⟨s1, hy, H⟩
    have h1 := H.2 j (ready_mono hj hji)
    obtain ⟨hjun, oj, hoj, hall⟩ := mem_ready.1 hj
    have hnot := ready_beh hcl hr hj ops.size
    unfold opAt at h1 ⊢
    rw [hoj] at h1 ⊢
    obtain ⟨s12, h2, h3⟩ := h1
    obtain ⟨hap, hco⟩ := hfree j oj hoj hji hjun hnot
    obtain ⟨s2, s21, h4, h5, h6⟩ := st_commK hA hap hco hy h2
    have hfree' : ∀ k ok, ops[k]? = some ok → k ≠ i → (listed.setIfInBounds j true).getD k true = false →
        behB md ops i ops.size k = false → oi.apart ops ok = true ∧ comK X fs oi ok = true := fun k ok hk hki hun hno => by
      refine hfree k ok hk hki ?_ hno
      by_cases hjk : j = k
      · subst hjk; exact hjun
      rw [getD_set_ne true hjk] at hun; exact hun
    refine ⟨s2, h4, ih (listed.setIfInBounds j true) s2 s21 hfree' (closed_set hcl hj) (ready_mono hr (Ne.symm hji)) h5 ?_⟩
    rw [Array.setIfInBounds_comm _ _ hji]
    exact anyA_eqv hQ _ _ _ _ h6 h3
def freeK (X : Ctx) (fs : List FuncId) (md : Region.Mode) (ops : Array Oper) (listed : Array Bool) (i : Nat) : Bool :=
  (List.range ops.size).all fun j =>
    match ops[i]?, ops[j]? with
    | some oi, some oj => j == i || listed.getD j true || (oi.apart ops oj && comK X fs oi oj) || behB md ops i ops.size j
    | _, _ => true
theorem freeK_spec {i : Nat} {oi : Oper} {listed : Array Bool} (hi : ops[i]? = some oi) (h : freeK X fs md ops listed i = true) (j : Nat) (oj : Oper) (hj : ops[j]? = some oj) (hji : j ≠ i)
    (hun : listed.getD j true = false) (hno : behB md ops i ops.size j = false) : oi.apart ops oj = true ∧ comK X fs oi oj = true := by
  unfold freeK at h
  rw [List.all_eq_true] at h
  have hjl : j < ops.size := (Array.getElem?_eq_some_iff.1 hj).1
  have := h j (List.mem_range.2 hjl)
  simp only [hi, hj, Bool.or_eq_true, beq_iff_eq, Bool.and_eq_true] at this
  rcases this with ((h1 | h1) | h1) | h1
  · exact absurd h1 hji
  · rw [hun] at h1; cases h1
  · exact h1
  rw [hno] at h1; cases h1
def ordK (X : Ctx) (fs : List FuncId) (md : Region.Mode) (ops : Array Oper) : List Nat → Array Bool → Bool
  | [], _ => true
  | k :: r, listed => (Region.ready md ops listed).contains k && freeK X fs md ops listed k && ordK X fs md ops r (listed.setIfInBounds k true)
theorem anyA_ordK (hA : AddsOk X fs) {Q : S → Prop} (hQ : ∀ s s', Eqv s s' → Q s → Q s') (n : Nat) : ∀ (l : List Nat) (listed : Array Bool) (s s' : S), Closed md ops listed → ordK X fs md ops l listed = true →
    runOps X ops (opsOf ops l) s = some (.normal, s') → (Closed md ops (marks l listed) → anyA X md ops Q n (marks l listed) s') → anyA X md ops Q (l.length + n) listed s
  | [], _, s, s', hc, _, h, hq => by
    simp only [opsOf, runOps, Option.some.injEq, Prod.mk.injEq, true_and] at h
    subst h
    rw [List.length_nil, Nat.zero_add]
    exact hq hc
  | k :: l, listed, s, s', hc, hB, h, hq => by
    simp only [ordK, Bool.and_eq_true] at hB
    obtain ⟨⟨hr, hf⟩, hB⟩ := hB
    have hr' : k ∈ Region.ready md ops listed := by simpa using hr
    obtain ⟨_, o, ho, _⟩ := mem_ready.1 hr'
    simp only [opsOf, ho] at h
    obtain ⟨s1, h1, h2⟩ := runOps_st h
    rw [List.length_cons, Nat.add_right_comm]
    exact anyA_firstK hA hQ ho (l.length + n) listed s s1 (freeK_spec ho hf) hc hr' h1 (anyA_ordK hA hQ n l _ s1 s' (closed_set hc hr') hB h2 hq)
theorem awp_ordK {i : Nat} {l : List Oper} {t : List (Nat × AV)} {h : Hp} {Q : Ex → S → Prop} (l0 : List Nat) (hA : AddsOk X fs) (hE : X.E i = true) (hlen : l0.length = l.length)
    (hok : ordK X fs .any l.toArray l0 (Array.replicate l.length false) = true) (hem : (Region.ready .any l.toArray (marks l0 (Array.replicate l.length false))).isEmpty = true)
    (h1 : fin true Q (runOps X l.toArray (opsOf l.toArray l0) ⟨t, h⟩)) : awp X (.region i l.toArray true) ⟨t, h⟩ Q := by
  obtain ⟨s0, h0, q0⟩ := fin_true h1
  simp only [awp, hE, Bool.and_self, if_true]
  have := anyA_ordK hA (Q := fun s1 => ∃ s', Eqv s' s1 ∧ Q .normal s') (fun s1 s2 h12 ⟨s3, h1, h3⟩ => ⟨s3, h1.trans h12, h3⟩) 0 l0 _ _ _ closed_none hok h0 (fun _ => ⟨by simpa using hem, s0, Eqv.refl _, q0⟩)
  rw [Nat.add_zero, hlen] at this
  simpa using this
end
end Go.Ab
namespace Go.Ab
open Go.RowKit Go.Proofs
def ptC (k : Nat) (p : Ptn) : List C1 := [.d (.str p.name), .d (.int .i64 p.out), .d (.int .i64 p.inn), .own k (p.wait.map Fil.row), .own (k + 1) (p.ours.map Rec.row), .own (k + 2) (p.theirs.map Rec.row)]
def ptH (p : Ptn) : Hp := [.tok p.wait.length 4 none, .tok p.ours.length 5 none, .tok p.theirs.length 5 none]
abbrev pr (p : Ptn) : List D := prow false false false p
structure PtOk (p : Ptn) : Prop where
  wait : p.wait.length ≤ 100000
  recs : ∀ f ∈ p.wait, f.recs.length ≤ 100000 ∧ f.rf = false
  ours : p.ours.length ≤ 100000
  theirs : p.theirs.length ≤ 100000
theorem PtOk.fl {p : Ptn} (h : PtOk p) : flOk p.wait := ⟨by have := h.wait; omega, fun f hf => by have := (h.recs f hf).1; omega⟩
theorem map_nf {l : List Fil} (h : ∀ f ∈ l, f.rf = false) : l.map nf = l := by
  conv => rhs; rw [← List.map_id l]
  exact List.map_congr_left fun f hf => nf_id (h f hf)
theorem PtOk.nf {p : Ptn} (h : PtOk p) : p.wait.map Go.Ab.nf = p.wait := map_nf fun f hf => (h.recs f hf).2
def ptRl (a : Hp × Ptn) (args : List AV) (h : Hp) : Prop := args = [.v (.agg ((pr a.2).map .d))] ∧ h = a.1
theorem pr_inj {a b : Ptn} (h : pr a = pr b) : a = b := by
  have := encPt_inj ((false, false, false), a) ((false, false, false), b) (congrArg (fun r => [DV.agg r]) h)
  exact (Prod.mk.inj this).2
theorem ptRl_inj {a b : Hp × Ptn} {args : List AV} {h : Hp} (ha : ptRl a args h) (hb : ptRl b args h) : b = a := by
  obtain ⟨a1, a2⟩ := a
  obtain ⟨b1, b2⟩ := b
  obtain ⟨h1, h2⟩ := ha
  obtain ⟨g1, g2⟩ := hb
  dsimp only at *
  subst h2 g2
  rw [h1] at g1
  simp only [List.cons.injEq, AV.v.injEq, V.agg.injEq, and_true] at g1
  rw [pr_inj (map_inj (fun a b h => by cases h; rfl) g1)]
noncomputable section
open Classical
def xpartner_k : List AV → Hp → Option COut := kR ptRl fun a => if LowH a.1 ∧ PtOk a.2 then some (.ret (.v (.agg (ptC a.1.length a.2))) (a.1 ++ ptH a.2)) else none
theorem adds_cl {z b : Nat} {args : List AV} {h : Hp} {out : COut} (hk : clW z b args h = some out) : ∃ v g, out = .ret v (h ++ g) := by
  obtain ⟨f, es, _, _, _, _, rfl⟩ := clW_inv hk
  exact ⟨_, _, rfl⟩
theorem clR_at {h : Hp} {f : Bool} {l : List Rec} (hl : l.length ≤ 1000000) : clR_k [.v (.c (.d (.sl f (l.map Rec.row))))] h = some (.ret (.v (.c (.own h.length (l.map Rec.row)))) (h ++ [.tok l.length 5 none])) := by
  unfold clR_k clW
  dsimp only
  rw [if_pos ⟨allLen_rc, by simp; omega, by simp; omega⟩, List.length_map]
set_option maxHeartbeats 2000000 in
theorem xpartner_kok : ImpC Tryz.prog Gt 18 xpartner_k := by
  intro args h out h0
  refine fok_of_awpSZ (X := ctxN Tryz.prog Gt [] [(42, clR_k), (41, xfiles_k)] [] none (uL []) (uL [2])) Tryz.func18 rfl rfl (by kernel_rfl) (by kernel_rfl) (kok_n AllOk.nil (AllK.cons clR_kok (AllK.cons xfiles_kok AllK.nil)) AllN.nil) ?_ ?_
  · obtain ⟨a, ⟨rfl, _⟩, _⟩ := kR_inv h0
    exact Nat.le_of_ble_eq_true rfl
  obtain ⟨⟨h', p⟩, ⟨rfl, rfl⟩, hg⟩ := kR_inv h0
  dsimp only at hg ⊢
  split at hg
  · rename_i hc
    obtain ⟨hh, hp⟩ := hc
    cases hg
    have hnf := hp.nf
    have hfl := hp.fl
    have b1 := hp.ours
    have b2 := hp.theirs
    clear hp
    obtain ⟨p1, p2, p3, p4, p5, p6⟩ := p
    dsimp only at hnf hfl b1 b2
    have f1 : ∀ (x y : List D), xfiles_k [.v (.c (.d (.sl false (p4.map Fil.row))))] (h ++ [.box (x.map .d), .box (y.map .d)]) = some (.ret (.v (.c (.own (h.length + 2) (p4.map Fil.row)))) ((h ++ [.box (x.map .d), .box (y.map .d)]) ++ [.tok p4.length 4 none])) := fun x y => by
      have := xfiles_at (h := h ++ [.box (x.map .d), .box (y.map .d)]) (f := false) (hh.app (by simp [Ob.low, C1.low])) hfl
      rw [hnf] at this
      simpa using this
    have f2 := fun (h : Hp) => clR_at (h := h) (f := false) (l := p5) (by omega)
    have f3 := fun (h : Hp) => clR_at (h := h) (f := false) (l := p6) (by omega)
    have f1' := f1 [.str p1, .int .i64 p2, .int .i64 p3, .sl false (p4.map Fil.row), .sl false (p5.map Rec.row), .sl false (p6.map Rec.row)] [.str [], .int .i64 0, .int .i64 0, .sl true [], .sl true [], .sl true []]
    simp only [List.map_cons, List.map_nil] at f1'
    have hc := Nat.zero_add 0
    repeat' (first | simp only [hc, AS, Tryz.f18, pr, prow, NX, NPV, RZ, SX, HX, List.map_cons, List.map_nil, f1', ZZ, simprocAttr, ↓reduceIte] | ((first | apply Za | apply Zb | apply Zc | apply Zd | apply Ze | apply Zf | apply Zg | apply Zh) <;> intro hc) | refine Zi ?_ | refine Zj ?_)
    refine awp_ordK (fs := [42]) [0, 1, 3, 4, 2, 5, 6, 7, 8, 9] (fun g hg args h out hk => ?_) rfl rfl (by kernel_rfl) (by kernel_rfl) ?_
    · cases List.mem_singleton.1 hg
      exact adds_cl (z := 5) (b := 48) (show clW 5 48 args h = some out from hk)
    have hc := Nat.zero_add 0
    repeat' (first | simp only [hc, AS, TW, NX, NPV, RZ, SX, HX, f2, f3, ZZ, simprocAttr, ↓reduceIte] | ((first | apply Za | apply Zb | apply Zc | apply Zd | apply Ze | apply Zf | apply Zg | apply Zh) <;> intro hc) | refine Zi ?_ | refine Zj ?_)
    refine ⟨[.agg (ptC (h.length + 2) ⟨p1, p2, p3, p4, p5, p6⟩)], ?_, _, _, Wk.renk [2, 3, 4] rfl (Nat.le_refl _) hh (by decide) ?_ ?_ ?_ ?_, rfl⟩
    · simp only [resAllV, resOneV, S.get, look, AV.one, NX, SX, HX, ZZ, simprocAttr, ↓reduceIte]
      rfl
    · exact ⟨rfl, rfl, rfl, trivial⟩
    · simp [subR, look, resVV, AV.ren, V.ren, C1.ren, ptC, shf_add, shf_0]
    · simp [AV.low, V.low, C1.low, ptC, ptH]
    rfl
  cases hg
theorem xpartner_at {h : Hp} {p : Ptn} (hh : LowH h) (hp : PtOk p) : xpartner_k [.v (.agg ((pr p).map .d))] h = some (.ret (.v (.agg (ptC h.length p))) (h ++ ptH p)) :=
  (kR_eq (R := ptRl) (g := fun a => if LowH a.1 ∧ PtOk a.2 then some (.ret (.v (.agg (ptC a.1.length a.2))) (a.1 ++ ptH a.2)) else none) (a := (h, p)) (fun b hb => by rw [ptRl_inj (a := (_, _)) ⟨rfl, rfl⟩ hb]) ⟨rfl, rfl⟩).trans (if_pos ⟨hh, hp⟩)
end
end Go.Ab
namespace Go.Ab
open Go.RowKit Go.Proofs
section
variable {α : Type} {row : α → List C1} {w : Nat}
theorem fm_putR (hw : ∀ x, (row x).length = w) {L : List α} {k : Nat} {x : α} (x' : α) (h : L[k]? = some x) :
    (L.flatMap row).take (k * w) ++ (row x' ++ (L.flatMap row).drop (k * w + w)) = (L.set k x').flatMap row := by
  have hk := lt_of_get h
  have h2 : (L.set k x')[k]? = some x' := by simp [hk]
  have hl := fm_pre hw h
  rw [fm_split h2, List.take_set_of_le (Nat.le_refl _), List.drop_set_of_lt (by omega), fm_split h]
  congr 1
  · rw [List.take_append_of_le_length (by omega), List.take_of_length_le (by omega)]
  congr 1
  rw [← List.append_assoc, List.drop_append_of_le_length (by rw [List.length_append, hw, hl]; omega), List.drop_of_length_le (by rw [List.length_append, hw, hl]; omega), List.nil_append]
end
def rowF (x : Fil) : List C1 := [.d (.str x.fr), .d (.str x.dst), .d (.int .i64 x.seq), .d (.sl x.rf (x.recs.map Rec.row))]
def fcd (L : List Fil) : List C1 := L.flatMap rowF
theorem rowF_len (x : Fil) : (rowF x).length = 4 := rfl
theorem rowF_eq {x : Fil} : rowF x = x.row.map .d := rfl
theorem fcd_eq : ∀ L : List Fil, fcd L = (L.flatMap Fil.row).map .d
  | [] => rfl
  | x :: L => by
    have ih := fcd_eq L
    unfold fcd at ih ⊢
    rw [List.flatMap_cons, List.flatMap_cons, List.map_append, ih]
    rfl
theorem fcd_snoc {L : List Fil} {x : Fil} : fcd (L ++ [x]) = fcd L ++ rowF x := by simp [fcd]
theorem fcd_len {L : List Fil} : (fcd L).length = L.length * 4 := fm_len rowF_len
theorem fcd_low {L : List Fil} {n : Nat} : ((fcd L).all (C1.low n)) = true := by
  rw [fcd_eq]
  exact all_low_d _ _
theorem fcd_allD (L : List Fil) : allD (fcd L) = some (L.flatMap Fil.row) := by
  rw [fcd_eq]
  exact allD_mapd
theorem chunk_fil : ∀ {L : List Fil}, chunk 4 L.length (L.flatMap Fil.row) = L.map Fil.row
  | [] => rfl
  | x :: L => by
    rw [List.length_cons, chunk, List.flatMap_cons, List.map_cons, ← chunk_fil]
    have hp : x.row.length = 4 := rfl
    rw [List.take_append, List.take_of_length_le (by omega), List.drop_append, List.drop_of_length_le (by omega), hp]
    simp
theorem fcd_at {L : List Fil} {k : Nat} (h : k < L.length) : ((fcd L).drop (k * 4)).take 4 = rowF L[k] := fm_at rowF_len (List.getElem?_eq_getElem h)
theorem fcd_put {L : List Fil} {k : Nat} (h : k < L.length) (x : Fil) : (fcd L).take (k * 4) ++ (rowF x ++ (fcd L).drop (k * 4 + 4)) = fcd (L.set k x) := fm_putR rowF_len x (List.getElem?_eq_getElem h)
theorem fcd_inj {a b : List Fil} (h : fcd a = fcd b) : a = b := by
  have hl : a.length = b.length := by
    have := congrArg List.length h
    rw [fcd_len, fcd_len] at this
    omega
  rw [fcd_eq, fcd_eq] at h
  have e := map_inj (fun a b h => by cases h; rfl) h
  have h1 := @chunk_fil a
  have h2 := @chunk_fil b
  rw [hl, e, h2] at h1
  exact (mapFl_inj.1 h1).symm
abbrev Fil.nil : Fil := ⟨[], [], 0, true, []⟩
theorem rep_fcd : ∀ n, repC n (rowF Fil.nil) = fcd (List.replicate n Fil.nil)
  | 0 => rfl
  | n + 1 => by rw [repC, rep_fcd n, List.replicate_succ]; rfl
theorem fcd_clear {L : List Fil} {k n : Nat} (h : k + n = L.length) : setAt (fcd L) (k * 4) (repC n (rowF Fil.nil)) = fcd (L.take k ++ List.replicate n Fil.nil) := by
  unfold setAt
  rw [rep_fcd]
  have e : fcd L = fcd (L.take k) ++ fcd (L.drop k) := by unfold fcd; rw [← List.flatMap_append, List.take_append_drop]
  have hl : (fcd (L.take k)).length = k * 4 := by rw [fcd_len, List.length_take]; congr 1; omega
  have h1 : (fcd L).take (k * 4) = fcd (L.take k) := by rw [e, List.take_append_of_le_length (by omega), List.take_of_length_le (by omega)]
  rw [h1, List.drop_of_length_le (by rw [fcd_len, fcd_len, List.length_replicate]; omega), List.append_nil]
  unfold fcd
  rw [List.flatMap_append]
def delB (s : Int) (f : Fil) : Bool := decide (f.seq ≤ s)
def idxN : Option Nat → Int
  | some i => i
  | none => -1
theorem fdx_take {l : List Fil} {s : Int} {i : Nat} (hi : i < l.length) (h : (l.take i).any (delB s) = false) :
    (delB s l[i] = true → l.findIdx? (delB s) = some i) ∧ (delB s l[i] = false → (l.take (i + 1)).any (delB s) = false) := by
  constructor
  · intro hx
    rw [List.findIdx?_eq_some_iff_getElem]
    refine ⟨hi, hx, fun j hj => ?_⟩
    have h1 : l[j] ∈ l.take i := List.mem_take_iff_getElem.2 ⟨j, by omega, rfl⟩
    intro h2
    have : (l.take i).any (delB s) = true := List.any_eq_true.2 ⟨l[j], h1, h2⟩
    rw [h] at this
    cases this
  intro hx
  rw [List.take_succ_eq_append_getElem hi, List.any_append, h]
  simp [hx]
theorem fdx_none {l : List Fil} {s : Int} (h : l.any (delB s) = false) : l.findIdx? (delB s) = none := by
  rw [List.findIdx?_eq_none_iff]
  intro x hx
  have := List.any_eq_false.1 h x hx
  simpa using this
abbrev keepF (s : Int) (l : List Fil) : List Fil := l.filter fun f => !delB s f
structure DmI (l : List Fil) (s : Int) (j i : Nat) (dk : List Fil) : Prop where
  len : dk.length = l.length
  lt : i < j
  le : j ≤ l.length
  low : dk.take i = keepF s (l.take j)
  high : dk.drop j = l.drop j
theorem DmI.at {l : List Fil} {s : Int} {j i : Nat} {dk : List Fil} (h : DmI l s j i dk) {k : Nat} (hj : j ≤ k) : dk[k]? = l[k]? := by
  have := congrArg (fun l => l[k - j]?) h.high
  simp only [List.getElem?_drop] at this
  rw [show j + (k - j) = k by omega] at this
  exact this
theorem DmI.init {l : List Fil} {s : Int} {i : Nat} (h : l.findIdx? (delB s) = some i) : DmI l s (i + 1) i l := by
  rw [List.findIdx?_eq_some_iff_getElem] at h
  obtain ⟨hi, hx, hn⟩ := h
  refine ⟨rfl, Nat.lt_succ_self _, hi, ?_, rfl⟩
  rw [List.take_succ_eq_append_getElem hi, keepF, List.filter_append]
  have e1 : (l.take i).filter (fun f => !delB s f) = l.take i := by
    rw [List.filter_eq_self]
    intro f hf
    obtain ⟨j, hj, rfl⟩ := List.mem_take_iff_getElem.1 hf
    have := hn j (by omega)
    simpa using this
  rw [e1]
  simp [hx]
theorem DmI.skip {l : List Fil} {s : Int} {j i : Nat} {dk : List Fil} (h : DmI l s j i dk) (hj : j < l.length) (hd : delB s l[j] = true) : DmI l s (j + 1) i dk :=
  ⟨h.len, Nat.lt_succ_of_lt h.lt, hj, by rw [List.take_succ_eq_append_getElem hj, keepF, List.filter_append, h.low]; simp [hd], by
    have := congrArg (List.drop 1) h.high
    rwa [List.drop_drop, List.drop_drop] at this⟩
theorem DmI.keep {l : List Fil} {s : Int} {j i : Nat} {dk : List Fil} (h : DmI l s j i dk) (hj : j < l.length) (hd : delB s l[j] = false) : DmI l s (j + 1) (i + 1) (dk.set i l[j]) := by
  have hi : i < dk.length := by have := h.len; have := h.lt; omega
  refine ⟨by rw [List.length_set]; exact h.len, Nat.succ_lt_succ h.lt, hj, ?_, ?_⟩
  · rw [List.take_succ_eq_append_getElem hj, keepF, List.filter_append, List.take_succ_eq_append_getElem (by simpa using hi), List.getElem_set_self, List.take_set_of_le (Nat.le_refl _), h.low]
    simp [hd]
  rw [List.drop_set_of_lt (by have := h.lt; omega)]
  have := congrArg (List.drop 1) h.high
  rwa [List.drop_drop, List.drop_drop] at this
theorem Wk.lk {n : Nat} {t t' : List (Nat × AV)} {h : Hp} (hs : ∀ k, look t' k = .top ∨ look t' k = look t k) : Wk n ⟨t, h⟩ ⟨t', h⟩ := fun A E a w hn hr =>
  ⟨E, Evo.refl hn, hr.env, hr.world, hr.defers, fun k => by
    show (look t' k).rel E h _
    rcases hs k with h1 | h1
    · rw [h1]; trivial
    · rw [h1]; exact hr.tmps k⟩
theorem set_sm {h : Hp} {id : Nat} {o : Ob} (hid : h[id]? = some o) : h.set id o = h := by
  have hl := lt_of_get hid
  rw [List.getElem?_eq_getElem hl] at hid
  rw [← Option.some.inj hid]
  exact List.set_getElem_self hl
structure DlA where
  h : Hp
  id : Nat
  bid : Nat
  s : Int
  l : List Fil
def dlRl (a : DlA) (args : List AV) (h : Hp) : Prop := args = [.v (.c (.msl a.id a.l.length)), .v (.c (.fn 65 [(a.bid, 0)]))] ∧ h = a.h ∧ a.h[a.id]? = some (.tok a.l.length 4 (some (fcd a.l))) ∧ a.h[a.bid]? = some (.box [.d (.int .i64 a.s)])
theorem dlRl_inj {a b : DlA} {args : List AV} {h : Hp} (ha : dlRl a args h) (hb : dlRl b args h) : b = a := by
  obtain ⟨a1, a2, a3, a4, a5⟩ := a
  obtain ⟨b1, b2, b3, b4, b5⟩ := b
  obtain ⟨h1, h2, h3, h4⟩ := ha
  obtain ⟨g1, g2, g3, g4⟩ := hb
  dsimp only at *
  subst h2 g2
  rw [h1] at g1
  simp only [List.cons.injEq, AV.v.injEq, V.c.injEq, C1.msl.injEq, C1.fn.injEq, Prod.mk.injEq, true_and, and_true] at g1
  obtain ⟨⟨rfl, g5⟩, rfl⟩ := g1
  rw [h3] at g3
  rw [h4] at g4
  simp only [Option.some.injEq, Ob.tok.injEq, true_and] at g3
  simp only [Option.some.injEq, Ob.box.injEq, List.cons.injEq, C1.d.injEq, D.int.injEq, true_and, and_true] at g4
  subst g4
  rw [fcd_inj g3.2]
structure AcA where
  h : Hp
  bid : Nat
  s : Int
  f : Fil
def acRl (a : AcA) (args : List AV) (h : Hp) : Prop := args = [.v (.agg (rowF a.f)), .v (.c (.ptr a.bid 0))] ∧ h = a.h ∧ a.h[a.bid]? = some (.box [.d (.int .i64 a.s)])
theorem acRl_inj {a b : AcA} {args : List AV} {h : Hp} (ha : acRl a args h) (hb : acRl b args h) : b = a := by
  obtain ⟨a1, a2, a3, a4⟩ := a
  obtain ⟨b1, b2, b3, b4⟩ := b
  obtain ⟨h1, h2, h3⟩ := ha
  obtain ⟨g1, g2, g3⟩ := hb
  dsimp only at *
  subst h2 g2
  rw [h1] at g1
  simp only [List.cons.injEq, AV.v.injEq, V.c.injEq, V.agg.injEq, C1.ptr.injEq, true_and, and_true] at g1
  obtain ⟨e1, rfl⟩ := g1
  rw [h3] at g3
  simp only [Option.some.injEq, Ob.box.injEq, List.cons.injEq, C1.d.injEq, D.int.injEq, true_and, and_true] at g3
  subst g3
  have e2 : a4 = b4 := Fil.inj a4 b4 (map_inj (f := C1.d) (fun a b h => by cases h; rfl) (by rw [rowF_eq, rowF_eq] at e1; exact e1))
  rw [e2]
theorem cl_cap' {X : Ctx} {h : Hp} {f : FuncId} {p : Nat × Nat} {caps : List (Nat × Nat)} {args : List AV} : clR X h (.v (.c (.fn f (p :: caps)))) args = clM X h f (args ++ .v (.c (.ptr p.1 p.2)) :: caps.map fun p => .v (.c (.ptr p.1 p.2))) (X.M f) := by
  simp only [clR, List.map_cons]
  cases X.M f <;> rfl
noncomputable section
open Classical
def xackc_k : List AV → Hp → Option COut := kR acRl fun a => if LowH a.h then some (.ret (AV.b (delB a.s a.f)) a.h) else none
def xidx_k : List AV → Hp → Option COut := kR dlRl fun a => if LowH a.h ∧ a.l.length ≤ 1000000 then some (.ret (AV.i (idxN (a.l.findIdx? (delB a.s)))) a.h) else none
def xdel_k : List AV → Hp → Option COut := kR dlRl fun a => if LowH a.h ∧ a.l.length ≤ 1000000 then some (.ret (.v (.c (.d (.sl false ((keepF a.s a.l).map Fil.row))))) (a.h.set a.id (.tok a.l.length 4 none))) else none
theorem xackc_kok : ImpC Tryz.prog Gt 65 xackc_k := by
  intro args h out h0
  refine fok_of_awpSW (X := ctxN Tryz.prog Gt [] [] [] none) Tryz.func65 rfl rfl (by kernel_rfl) (by kernel_rfl) (kok_n AllOk.nil AllK.nil AllN.nil) ?_ ?_
  · obtain ⟨a, ⟨rfl, _⟩, _⟩ := kR_inv h0
    exact Nat.le_of_ble_eq_true rfl
  obtain ⟨⟨h', bid, s, f⟩, ⟨rfl, rfl, hb⟩, hg⟩ := kR_inv h0
  dsimp only at hg hb ⊢
  split at hg
  · rename_i hh
    cases hg
    have hb' : ∀ r : Hp, (h ++ r)[bid]? = some (.box [.d (.int .i64 s)]) := fun r => get_ext hb
    obtain ⟨f1, f2, f3, f4, f5⟩ := f
    have hc := Nat.zero_add 0
    repeat' (first | simp only [hc, AS, Tryz.f65, rowF, NX, NPV, SX, HX, hb', ZZ, simprocAttr, ↓reduceIte] | ((first | apply Za | apply Zb | apply Zc | apply Zd | apply Ze | apply Zf | apply Zg | apply Zh) <;> intro hc) | refine Zi ?_ | refine Zj ?_)
    refine ⟨_, Wk.back' (h' := h) (g := [.box _]) (t' := [(3, AV.b (decide (f3 ≤ s)))]) hh rfl (Nat.le_refl _) (by simp [subT, look]) (by simp [AV.low, V.low, C1.low]), [.c (.d (.bool (decide (f3 ≤ s))))], by simp [resAllV, resOneV, S.get, look, AV.one], by simp [resVV, delB]⟩
  cases hg
theorem xackc_at {h : Hp} {bid : Nat} {s : Int} {f : Fil} (hh : LowH h) (hb : h[bid]? = some (.box [.d (.int .i64 s)])) : xackc_k [.v (.agg (rowF f)), .v (.c (.ptr bid 0))] h = some (.ret (AV.b (delB s f)) h) :=
  (kR_eq (R := acRl) (g := fun a => if LowH a.h then some (.ret (AV.b (delB a.s a.f)) a.h) else none) (a := ⟨h, bid, s, f⟩) (fun b hb' => by rw [acRl_inj (a := ⟨_, _, _, _⟩) ⟨rfl, rfl, hb⟩ hb']) ⟨rfl, rfl, hb⟩).trans (if_pos hh)
set_option maxHeartbeats 2000000 in
theorem xidx_kok : ImpC Tryz.prog Gt 80 xidx_k := by
  intro args h out h0
  refine fok_of_awpSW (X := ctxN Tryz.prog Gt [] [(65, xackc_k)] [] none (uL [33])) Tryz.func80 rfl rfl (by kernel_rfl) (by kernel_rfl) (kok_n AllOk.nil (AllK.cons xackc_kok AllK.nil) AllN.nil) ?_ ?_
  · obtain ⟨a, ⟨rfl, _⟩, _⟩ := kR_inv h0
    exact Nat.le_of_ble_eq_true rfl
  obtain ⟨⟨h', id, bid, s, l⟩, ⟨rfl, rfl, hid, hb⟩, hg⟩ := kR_inv h0
  dsimp only at hg hb hid ⊢
  split at hg
  · rename_i hc
    obtain ⟨hh, hl⟩ := hc
    cases hg
    have hc := Nat.zero_add 0
    repeat' (first | simp only [hc, AS, Tryz.f80, NX, NPV, SX, HX, hid, ZZ, simprocAttr, ↓reduceIte] | ((first | apply Za | apply Zb | apply Zc | apply Zd | apply Ze | apply Zf | apply Zg | apply Zh) <;> intro hc) | refine Zi ?_ | refine Zj ?_)
    refine awpS_loop (σ := Nat) (fun i => i ≤ l.length ∧ (l.take i).any (delB s) = false)
      (fun i => ⟨[(8, AV.i i), (7, AV.i l.length), (0, .v (.c (.msl id l.length))), (1, .v (.c (.fn 65 [(bid, 0)])))], h⟩)
      (fun i => l.length - i) 0 (Wk.sub' (by simp [subT, look]) rfl) ⟨Nat.zero_le _, rfl⟩ ?_
    rintro i ⟨hi, hn⟩
    by_cases hil : i < l.length
    · have d1 := fcd_at hil
      have c1 : ((i : Int) < (l.length : Int)) = True := eq_true (by omega)
      have hle : (i * 4 + 4 ≤ (fcd l).length) = True := eq_true (by rw [fcd_len]; omega)
      have w1 := wI (n := (i : Int) + 1) (by omega) (by omega)
      obtain ⟨g1, g2⟩ := fdx_take hil hn
      have f1 := xackc_at (f := l[i]) hh hb
      generalize l[i] = x at *
      obtain ⟨x1, x2, x3, x4, x5⟩ := x
      simp only [rowF] at d1 f1
      cases hv : delB s ⟨x1, x2, x3, x4, x5⟩
      · rw [hv] at f1
        have hc := Nat.zero_add 0
        repeat' (first | simp only [hc, AS, NX, NPV, SX, HX, hid, hle, d1, c1, nn, Int.toNat_natCast, w1, f1, cl_cap', List.map_nil, List.cons_append, List.nil_append, ZZ, simprocAttr, ↓reduceIte] | ((first | apply Za | apply Zb | apply Zc | apply Zd | apply Ze | apply Zf | apply Zg | apply Zh) <;> intro hc) | refine Zi ?_ | refine Zj ?_)
        exact lp_next (i + 1) (Wk.sub' (by simp [subT, look]) rfl) ⟨by omega, g2 hv⟩ (by omega)
      rw [hv] at f1
      have hc := Nat.zero_add 0
      repeat' (first | simp only [hc, AS, NX, NPV, SX, HX, hid, hle, d1, c1, nn, Int.toNat_natCast, w1, f1, cl_cap', List.map_nil, List.cons_append, List.nil_append, ZZ, simprocAttr, ↓reduceIte] | ((first | apply Za | apply Zb | apply Zc | apply Zd | apply Ze | apply Zf | apply Zg | apply Zh) <;> intro hc) | refine Zi ?_ | refine Zj ?_)
      exact ⟨_, Wk.sub' (t' := [(4, AV.i i)]) (by simp [subT, look]) rfl, [.c (.d (.int .i64 i))], by simp [resAllV, resOneV, S.get, look, AV.one], by simp [resVV, g1 hv, idxN]⟩
    have c1 : ((i : Int) < (l.length : Int)) = False := eq_false (by omega)
    rw [List.take_of_length_le (by omega : l.length ≤ i)] at hn
    have hc := Nat.zero_add 0
    repeat' (first | simp only [hc, AS, NX, NPV, SX, HX, c1, ZZ, simprocAttr, ↓reduceIte] | ((first | apply Za | apply Zb | apply Zc | apply Zd | apply Ze | apply Zf | apply Zg | apply Zh) <;> intro hc) | refine Zi ?_ | refine Zj ?_)
    exact ⟨_, Wk.sub' (t' := [(4, AV.i (-1))]) (by simp [subT, look]) rfl, [.c (.d (.int .i64 (-1)))], by simp [resAllV, resOneV, S.get, look, AV.one], by simp [resVV, fdx_none hn, idxN]⟩
  cases hg
theorem xidx_at {h : Hp} {id bid : Nat} {s : Int} {l : List Fil} (hh : LowH h) (hl : l.length ≤ 1000000) (hid : h[id]? = some (.tok l.length 4 (some (fcd l)))) (hb : h[bid]? = some (.box [.d (.int .i64 s)])) :
    xidx_k [.v (.c (.msl id l.length)), .v (.c (.fn 65 [(bid, 0)]))] h = some (.ret (AV.i (idxN (l.findIdx? (delB s)))) h) :=
  (kR_eq (R := dlRl) (g := fun a => if LowH a.h ∧ a.l.length ≤ 1000000 then some (.ret (AV.i (idxN (a.l.findIdx? (delB a.s)))) a.h) else none) (a := ⟨h, id, bid, s, l⟩) (fun b hb' => by rw [dlRl_inj (a := ⟨_, _, _, _, _⟩) ⟨rfl, rfl, hid, hb⟩ hb']) ⟨rfl, rfl, hid, hb⟩).trans (if_pos ⟨hh, hl⟩)
theorem Wk.finF {n : Nat} {t : List (Nat × AV)} {h : Hp} (k id : Nat) (l : List Fil) (hk : look t k = .v (.c (.msl id l.length))) (hid : h[id]? = some (.tok l.length 4 (some (fcd l)))) :
    Wk n ⟨t, h⟩ ⟨(k, .v (.c (.d (.sl false (l.map Fil.row))))) :: t, h.set id (.tok l.length 4 none)⟩ := by
  have h1 := Wk.freezeC (n := n) k id l.length 4 (fcd l) _ hk hid (fcd_allD l)
  rw [chunk_fil] at h1
  exact h1.trans ((Wk.ofOwn k id (l.map Fil.row) (by simp [look])).trans (Wk.lk fun j => .inr (by
    simp only [look]
    split <;> rfl)))
set_option maxHeartbeats 4000000 in
theorem xdel_kok : ImpC Tryz.prog Gt 64 xdel_k := by
  intro args h out h0
  refine fok_of_awpSW (X := ctxN Tryz.prog Gt [] [(80, xidx_k), (65, xackc_k)] [] none (uL [33])) Tryz.func64 rfl rfl (by kernel_rfl) (by kernel_rfl) (kok_n AllOk.nil (AllK.cons xidx_kok (AllK.cons xackc_kok AllK.nil)) AllN.nil) ?_ ?_
  · obtain ⟨a, ⟨rfl, _⟩, _⟩ := kR_inv h0
    exact Nat.le_of_ble_eq_true rfl
  obtain ⟨⟨h', id, bid, s, l⟩, ⟨rfl, rfl, hid, hb⟩, hg⟩ := kR_inv h0
  dsimp only at hg hb hid ⊢
  split at hg
  · rename_i hc
    obtain ⟨hh, hl⟩ := hc
    cases hg
    have hne : id ≠ bid := fun e => by
      rw [e, hb] at hid
      cases hid
    have f1 := xidx_at hh hl hid hb
    cases hf : l.findIdx? (delB s) with
    | none =>
      rw [hf] at f1
      dsimp only [idxN] at f1
      have hk : keepF s l = l := by
        rw [List.findIdx?_eq_none_iff] at hf
        rw [List.filter_eq_self]
        intro x hx
        have := hf x hx
        simp [this]
      rw [hk]
      have hc := Nat.zero_add 0
      repeat' (first | simp only [hc, AS, Tryz.f64, NX, NPV, SX, HX, f1, ZZ, simprocAttr, ↓reduceIte] | ((first | apply Za | apply Zb | apply Zc | apply Zd | apply Ze | apply Zf | apply Zg | apply Zh) <;> intro hc) | refine Zi ?_ | refine Zj ?_)
      exact ⟨_, Wk.finF 4 id l (by simp [look]) hid, [.c (.d (.sl false (l.map Fil.row)))], by simp [resAllV, resOneV, S.get, look, AV.one], by simp [resVV]⟩
    | some i0 =>
      rw [hf] at f1
      dsimp only [idxN] at f1
      have hI := DmI.init hf
      have hi0 := hI.le
      have w0 := wI (n := (i0 : Int) + 1) (by omega) (by omega)
      have z0 : ((i0 : Int) = -1) = False := eq_false (by omega)
      have hc := Nat.zero_add 0
      repeat' (first | simp only [hc, AS, Tryz.f64, NX, NPV, SX, HX, f1, w0, z0, ZZ, simprocAttr, ↓reduceIte] | ((first | apply Za | apply Zb | apply Zc | apply Zd | apply Ze | apply Zf | apply Zg | apply Zh) <;> intro hc) | refine Zi ?_ | refine Zj ?_)
      refine awpS_loop (σ := Nat × Nat × List Fil) (fun q => DmI l s q.1 q.2.1 q.2.2) (fun q => ⟨[(6, AV.i q.1), (5, AV.i q.2.1), (0, .v (.c (.msl id l.length))), (1, .v (.c (.fn 65 [(bid, 0)])))], h.set id (.tok l.length 4 (some (fcd q.2.2)))⟩) (fun q => l.length - q.1) (i0 + 1, i0, l)
        (Wk.sub' (by simp [subT, look]) (set_sm hid).symm) hI ?_
      clear hI f1 hf w0 z0 hi0
      rintro ⟨j, i, dk⟩ hI
      dsimp only at hI ⊢
      have hlen := hI.len
      have hlt := hI.lt
      have hle := hI.le
      have hid2 : ∀ cs, (h.set id (.tok l.length 4 cs))[id]? = some (.tok l.length 4 cs) := fun cs => by simp [lt_of_get hid]
      have hid3 : ∀ cs (r : Hp), (h.set id (.tok l.length 4 cs) ++ r)[id]? = some (.tok l.length 4 cs) := fun cs r => get_ext (hid2 cs)
      have hset3 : ∀ cs (r : Hp) (o : Ob), (h.set id (.tok l.length 4 cs) ++ r).set id o = h.set id o ++ r := fun cs r o => by
        rw [List.set_append_left _ _ (by simpa using lt_of_get hid), List.set_set]
      have g0 : ∀ (X a : Ob) (r : Hp), (h.set id X ++ a :: r)[h.length]? = some a := fun X a r => by simp
      have g1 : ∀ (X a o : Ob) (r : Hp), (h.set id X ++ a :: r).set h.length o = h.set id X ++ o :: r := fun X a o r => by simp
      by_cases hjl : j < l.length
      · have c1 : ((j : Int) < (l.length : Int)) = True := eq_true (by omega)
        have c2 : ((i : Int) < (l.length : Int)) = True := eq_true (by omega)
        have w1 := wI (n := (j : Int) + 1) (by omega) (by omega)
        have w2 := wI (n := (i : Int) + 1) (by omega) (by omega)
        have hj2 : j < dk.length := by omega
        have d1 := fcd_at hj2
        have e1 : dk[j] = l[j] := by
          have := hI.at (k := j) (Nat.le_refl _)
          rw [List.getElem?_eq_getElem hj2, List.getElem?_eq_getElem hjl] at this
          exact Option.some.inj this
        rw [e1] at d1
        have hle1 : (j * 4 + 4 ≤ (fcd dk).length) = True := eq_true (by rw [fcd_len]; omega)
        have hle2 : (i * 4 + 4 ≤ (fcd dk).length) = True := eq_true (by rw [fcd_len]; omega)
        have hput := fcd_put (L := dk) (k := i) (by omega) l[j]
        have hskip := hI.skip hjl
        have hkeep := hI.keep hjl
        have hlow : LowH (h.set id (.tok l.length 4 (some (fcd dk)))) := hh.set (by simp [Ob.low, fcd_low])
        have hb2 : ∀ r : Hp, (h.set id (.tok l.length 4 (some (fcd dk))) ++ r)[bid]? = some (.box [.d (.int .i64 s)]) := fun r => get_ext (by rw [List.getElem?_set_ne hne]; exact hb)
        generalize l[j] = x at *
        have f2 := xackc_at (h := h.set id (.tok l.length 4 (some (fcd dk))) ++ [.box (rowF x)]) (f := x) (hlow.app (by simp [Ob.low, rowF, C1.low])) (hb2 _)
        obtain ⟨x1, x2, x3, x4, x5⟩ := x
        simp only [rowF] at d1 f2 hput
        simp only [List.cons_append, List.nil_append] at hput
        cases hv : delB s ⟨x1, x2, x3, x4, x5⟩
        · rw [hv] at f2
          have hc := Nat.zero_add 0
          repeat' (first | simp only [hc, AS, NX, NPV, SX, HX, g0, g1, hid2, hid3, hset3, hle1, hle2, d1, c1, c2, nn, Int.toNat_natCast, w1, w2, f2, hput, cl_cap', List.map_nil, List.cons_append, List.nil_append, ZZ, simprocAttr, ↓reduceIte] | ((first | apply Za | apply Zb | apply Zc | apply Zd | apply Ze | apply Zf | apply Zg | apply Zh) <;> intro hc) | refine Zi ?_ | refine Zj ?_)
          exact lp_next (j + 1, i + 1, dk.set i ⟨x1, x2, x3, x4, x5⟩) (Wk.back (h := h.set id (.tok l.length 4 (some (fcd (dk.set i ⟨x1, x2, x3, x4, x5⟩))))) (g := [_]) (hh.set (by simp [Ob.low, fcd_low])) (by simp) (by simp [subT, look]) (by simp [AV.low, V.low, C1.low, lt_of_get hid, lt_of_get hb])) (hkeep hv) (by simp only []; omega)
        rw [hv] at f2
        have hc := Nat.zero_add 0
        repeat' (first | simp only [hc, AS, NX, NPV, SX, HX, g0, g1, hid2, hid3, hset3, hle1, d1, c1, nn, Int.toNat_natCast, w1, f2, cl_cap', List.map_nil, List.cons_append, List.nil_append, ZZ, simprocAttr, ↓reduceIte] | ((first | apply Za | apply Zb | apply Zc | apply Zd | apply Ze | apply Zf | apply Zg | apply Zh) <;> intro hc) | refine Zi ?_ | refine Zj ?_)
        exact lp_next (j + 1, i, dk) (Wk.back (g := [_]) hlow (by simp) (by simp [subT, look]) (by simp [AV.low, V.low, C1.low, lt_of_get hid, lt_of_get hb])) (hskip hv) (by simp only []; omega)
      have c1 : ((j : Int) < (l.length : Int)) = False := eq_false (by omega)
      have hjj : j = l.length := by omega
      have hlow := hI.low
      rw [hjj, List.take_length] at hlow
      have ms2 : msC id l.length 0 l.length 4 (some (i : Int)) none = some (.mso id l.length (i * 4) (l.length - i)) := by
        rw [msC_ok (eq_true (by simp)) (eq_true (by simp; omega)) (eq_true (by simp))]
        simp
      have hcl : clO (h.set id (.tok l.length 4 (some (fcd dk)))) id l.length (i * 4) (l.length - i) (some 4) (some [.d (.str []), .d (.str []), .d (.int .i64 0), .d (.sl true [])]) (some (.tok l.length 4 (some (fcd dk)))) = some (h.set id (.tok l.length 4 (some (fcd (dk.take i ++ List.replicate (l.length - i) Fil.nil))))) := by
        rw [clO_ok (z := 4) (zc := [.d (.str []), .d (.str []), .d (.int .i64 0), .d (.sl true [])]) (eq_true rfl) (eq_true (by omega)) (eq_true (by rw [fcd_len]; omega)), List.set_set]
        rw [show ([.d (.str []), .d (.str []), .d (.int .i64 0), .d (.sl true [])] : List C1) = rowF Fil.nil from rfl, fcd_clear (by omega)]
      have hdl : (dk.take i ++ List.replicate (l.length - i) Fil.nil).length = l.length := by simp; omega
      have hres : (dk.take i ++ List.replicate (l.length - i) Fil.nil).take i = keepF s l := by
        rw [List.take_append, List.take_take, Nat.min_self, List.length_take, Nat.min_eq_left (by omega), Nat.sub_self, List.take_zero, List.append_nil, hlow]
      generalize dk.take i ++ List.replicate (l.length - i) Fil.nil = dz at *
      have hfin := fun (n : Nat) (t : List (Nat × AV)) (ht : look t 0 = .v (.c (.msl id l.length))) => Wk.finF (n := n) (t := t) (h := h.set id (.tok l.length 4 (some (fcd dz)))) 0 id dz (by rw [hdl]; exact ht) (by rw [hdl]; exact hid2 _)
      rw [hdl, List.set_set] at hfin
      have hsl : slX false 4 (dz.map Fil.row) 0 (i : Int) = some (.sl false ((keepF s l).map Fil.row)) := by
        rw [slX_ok (eq_true allLen_fl) (eq_true (by omega)) (eq_true (by omega)) (eq_true (by simp; omega)), ← hres]
        simp
      have hc := Nat.zero_add 0
      repeat' (first | simp only [hc, AS, NX, NPV, SX, hid2, c1, ZZ, simprocAttr, ↓reduceIte] | ((first | apply Za | apply Zb | apply Zc | apply Zd | apply Ze | apply Zf | apply Zg | apply Zh) <;> intro hc) | refine Zi ?_ | refine Zj ?_)
      simp only [hc, AS, NX, NPV, SX, hid2, MO, ms2, hcl, ZZ, simprocAttr, ↓reduceIte]
      refine seqS_wk (hfin _ _ (by simp [look])) ?_
      have hc := Nat.zero_add 0
      repeat' (first | simp only [hc, AS, NX, NPV, SX, MO, sla_eq, slT_sl, slZ_some, hsl, ZZ, simprocAttr, ↓reduceIte] | ((first | apply Za | apply Zb | apply Zc | apply Zd | apply Ze | apply Zf | apply Zg | apply Zh) <;> intro hc) | refine Zi ?_ | refine Zj ?_)
      exact ⟨_, Wk.refl, [.c (.d (.sl false ((keepF s l).map Fil.row)))], by simp [resAllV, resOneV, S.get, look, AV.one], by simp [resVV]⟩
  cases hg
theorem xdel_at {h : Hp} {id bid : Nat} {s : Int} {l : List Fil} (hh : LowH h) (hl : l.length ≤ 1000000) (hid : h[id]? = some (.tok l.length 4 (some (fcd l)))) (hb : h[bid]? = some (.box [.d (.int .i64 s)])) :
    xdel_k [.v (.c (.msl id l.length)), .v (.c (.fn 65 [(bid, 0)]))] h = some (.ret (.v (.c (.d (.sl false ((keepF s l).map Fil.row))))) (h.set id (.tok l.length 4 none))) :=
  (kR_eq (R := dlRl) (g := fun a : DlA => if LowH a.h ∧ a.l.length ≤ 1000000 then some (COut.ret (.v (.c (.d (.sl false ((keepF a.s a.l).map Fil.row))))) (a.h.set a.id (Ob.tok a.l.length 4 none))) else none) (a := ⟨h, id, bid, s, l⟩) (fun b hb' => by rw [dlRl_inj (a := ⟨_, _, _, _, _⟩) ⟨rfl, rfl, hid, hb⟩ hb']) ⟨rfl, rfl, hid, hb⟩).trans (if_pos ⟨hh, hl⟩)
end
end Go.Ab
