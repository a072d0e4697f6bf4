/-
  Texts of the layer and of the laws, put together: AbH11, AbU24. No law is stated here.
-/
import Derived.Test.YtckjmdppjealdaaGreatDoorAbVol22
import Derived.Test.YtckjmdppjealdaaGreatDoorAbVol45
set_option linter.unusedSimpArgs false
set_option linter.unusedVariables false
set_option maxRecDepth 100000

/-
  Drawn regions in an order of one's own: calls that only lay new objects may wait behind what reads. Printed by tools/genh11.py out of Ab10, Ab11.
-/
namespace Go.Ab
open Go.RowKit

section
variable {X : Ctx} {A : Actn} {md : Region.Mode} {ops : Array Oper} {fs : List FuncId}

/-- These functions only lay new objects. -/
def AddsOk (X : Ctx) (fs : List FuncId) : Prop := ∀ f ∈ fs, ∀ args h out, X.K f args h = some out → ∃ v g, out = .ret v (h ++ g)
def addsK (fs : List FuncId) (o : Oper) : Bool := match o.op with
  | .call c => match c.callee with
    | .value (.func f) => fs.contains f
    | _ => false
  | _ => false
def comK (X : Ctx) (fs : List FuncId) (x y : Oper) : Bool := commute X x y || (lvl X x ≤ 1 && addsK fs y && (match y.op with | .call c => (match c.callee with | .value (.func f) => (X.M f).isNone && (X.N f).isNone | _ => false) | _ => false))

theorem addsK_ext (hA : AddsOk X fs) {s : S} {h : Hp} {o : Oper} {out : OpR} (ha : (addsK fs o && (match o.op with | .call c => (match c.callee with | .value (.func f) => (X.M f).isNone && (X.N f).isNone | _ => false) | _ => false)) = true) (hr : opR X (X.ev s) h o = some out) : ∃ v g, out = .val v (h ++ g) := by
  obtain ⟨dst, op, type, pos, after, guard⟩ := o
  rw [Bool.and_eq_true] at ha
  obtain ⟨ha, hb⟩ := ha
  cases op <;> simp only [addsK] at ha <;> try (exact absurd ha (by decide))
  case call c =>
    obtain ⟨callee, args, ats⟩ := c
    cases callee with
    | builtin b => exact absurd ha (by simp)
    | invoke x y => exact absurd ha (by simp)
    | value f =>
      cases f with
      | func f =>
        simp only [List.contains_iff_mem] at ha
        simp only [Bool.and_eq_true, Option.isNone_iff_eq_none] at hb
        simp only [opR, callA, ev_func, hb.1, hb.2, Option.map_eq_some_iff] at hr
        obtain ⟨co, hk, rfl⟩ := hr
        obtain ⟨v, g, rfl⟩ := hA f ha _ _ _ hk
        exact ⟨v, g, rfl⟩
      | _ => exact absurd ha (by simp)

theorem st_commK (hA : AddsOk X fs) {ops : Array Oper} {oi oj : Oper} {s s1 s12 : S} (hap : oi.apart ops oj = true) (hc : comK X fs oi oj = true) (h1 : st X ops oi s = some s1) (h2 : st X ops oj s1 = some s12) :
    ∃ s2 s21, st X ops oj s = some s2 ∧ st X ops oi s2 = some s21 ∧ Eqv s12 s21 := by
  obtain ⟨ha, hb, hd⟩ := Oper.apart_spec hap
  unfold st at h1 h2
  simp only [Option.bind_eq_some_iff] at h1 h2
  obtain ⟨wi, hwi, h1⟩ := h1
  obtain ⟨wj, hwj, h2⟩ := h2
  -- what the two do, as values and heaps
  have shape : ∀ (o : Oper) (w : Bool) (s s' : S), (if w then (opA X s o).bind fun
      | .val v h => some (({ s with h } : S).putO o.dst v)
      | .skip h => some (({ s with h } : S).putO o.dst .top)
      | .pan _ _ => none
    else some (s.putO o.dst (.tup []))) = some s' → ∃ h v, s' = ({ s with h } : S).putO o.dst v ∧
      (w = false ∧ h = s.h ∧ v = .tup [] ∨ w = true ∧ (opR X (X.ev s) s.h o = some (.val v h) ∨ opR X (X.ev s) s.h o = some (.skip h) ∧ v = .top)) := by
    intro o w s s' h
    cases w with
    | false => simp only [Bool.false_eq_true, if_false, Option.some.injEq] at h; exact ⟨s.h, .tup [], h.symm, .inl ⟨rfl, rfl, rfl⟩⟩
    | true =>
      simp only [if_true, Option.bind_eq_some_iff] at h
      obtain ⟨out, ho, h⟩ := h
      unfold opA at ho
      cases out with
      | val v h' => simp only [Option.some.injEq] at h; exact ⟨h', v, h.symm, .inr ⟨rfl, .inl ho⟩⟩
      | skip h' => simp only [Option.some.injEq] at h; exact ⟨h', .top, h.symm, .inr ⟨rfl, .inr ⟨ho, rfl⟩⟩⟩
      | pan x h' => cases h
  obtain ⟨hi, vi, rfl, ci⟩ := shape oi wi s s1 h1
  obtain ⟨hj, vj, rfl, cj⟩ := shape oj wj _ s12 h2
  rw [wantA_put ha] at hwj
  have hev : X.ev (({ s with h := hi } : S).putO oi.dst vi) = X.ev (s.putO oi.dst vi) := by
    funext x
    cases x <;> simp only [Ctx.ev]
    rw [get_putO, get_putO]; rfl
  rw [hev, putO_h] at cj
  simp only at cj
  simp only [opA_put ha] at cj
  have fin : ∀ (h2 : Hp), (∃ hx, wj = false ∧ hx = s.h ∧ vj = .tup [] ∧ hx = h2 ∨ wj = true ∧ (opR X (X.ev s) s.h oj = some (.val vj h2) ∨ opR X (X.ev s) s.h oj = some (.skip h2) ∧ vj = .top)) →
      (wi = false ∧ hj = h2 ∧ vi = .tup [] ∨ wi = true ∧ (opR X (X.ev s) h2 oi = some (.val vi hj) ∨ opR X (X.ev s) h2 oi = some (.skip hj) ∧ vi = .top)) →
      ∃ s2 s21, st X ops oj s = some s2 ∧ st X ops oi s2 = some s21 ∧ Eqv (({ (({ s with h := hi } : S).putO oi.dst vi) with h := hj } : S).putO oj.dst vj) s21 := by
    intro h2 hx hy
    have e1 : st X ops oj s = some (({ s with h := h2 } : S).putO oj.dst vj) := by
      unfold st
      rw [hwj, Option.bind_some]
      obtain ⟨hx0, hx⟩ := hx
      rcases hx with ⟨rfl, rfl, rfl, rfl⟩ | ⟨rfl, hx | ⟨hx, rfl⟩⟩
      · rfl
      · simp only [if_true]; unfold opA; rw [hx]; rfl
      · simp only [if_true]; unfold opA; rw [hx]; rfl
    have hev2 : ∀ h', opR X (X.ev (({ s with h := h2 } : S).putO oj.dst vj)) h' oi = opR X (X.ev s) h' oi := fun h' => by
      rw [opA_put hd]; rfl
    have e2 : st X ops oi (({ s with h := h2 } : S).putO oj.dst vj) = some (({ (({ s with h := h2 } : S).putO oj.dst vj) with h := hj } : S).putO oi.dst vi) := by
      unfold st
      rw [wantA_put hd, hwi, Option.bind_some]
      rcases hy with ⟨rfl, rfl, rfl⟩ | ⟨rfl, hy | ⟨hy, rfl⟩⟩
      · simp only [Bool.false_eq_true, if_false]
        congr 1
        cases oj.dst <;> rfl
      · simp only [if_true]; unfold opA; rw [hev2, putO_h, hy]; rfl
      · simp only [if_true]; unfold opA; rw [hev2, putO_h, hy]; rfl
    refine ⟨_, _, e1, e2, ?_, fun t => ?_⟩
    · rw [putO_h, putO_h]
    · rw [get_putO, get_putO]
      show (if oj.dst = some t then vj else (({ s with h := hi } : S).putO oi.dst vi).get t) = if oi.dst = some t then vi else (({ s with h := h2 } : S).putO oj.dst vj).get t
      rw [get_putO, get_putO]
      by_cases h3 : oi.dst = some t
      · have h4 : oj.dst ≠ some t := hb t h3
        rw [if_neg h4, if_pos h3, if_pos h3]
      · rw [if_neg h3, if_neg h3]
        rfl
  unfold comK commute at hc
  simp only [Bool.or_eq_true, Bool.and_eq_true, beq_iff_eq, decide_eq_true_eq] at hc
  have hsame : ∀ (o : Oper) (w : Bool) (h' hh : Hp) (v : AV), lvl X o ≤ 1 → (w = false ∧ hh = h' ∧ v = .tup [] ∨ w = true ∧ (opR X (X.ev s) h' o = some (.val v hh) ∨ opR X (X.ev s) h' o = some (.skip hh) ∧ v = .top)) → hh = h' := by
    intro o w h' hh v hl hx
    rcases hx with ⟨_, h, _⟩ | ⟨_, hx | ⟨hx, _⟩⟩
    · exact h
    · obtain ⟨v', he⟩ := lvl1 (fun f => ev_func s f) hl (fun _ _ => by simp) hx; cases he; rfl
    · obtain ⟨v', he⟩ := lvl1 (fun f => ev_func s f) hl (fun _ _ => by simp) hx; cases he
  have hany : ∀ (o : Oper) (w : Bool) (h' hh h'' : Hp) (v : AV), lvl X o = 0 → (w = false ∧ hh = h' ∧ v = .tup [] ∨ w = true ∧ (opR X (X.ev s) h' o = some (.val v hh) ∨ opR X (X.ev s) h' o = some (.skip hh) ∧ v = .top)) →
      (w = false ∧ h'' = h'' ∧ v = .tup [] ∨ w = true ∧ (opR X (X.ev s) h'' o = some (.val v h'') ∨ opR X (X.ev s) h'' o = some (.skip h'') ∧ v = .top)) := by
    intro o w h' hh h'' v hl hx
    rcases hx with ⟨h1, _, h3⟩ | ⟨h1, hx | ⟨hx, _⟩⟩
    · exact .inl ⟨h1, rfl, h3⟩
    · obtain ⟨v', he, hall⟩ := lvl0 (fun f => ev_func s f) hl (fun _ _ => by simp) hx; cases he; exact .inr ⟨h1, .inl (hall h'')⟩
    · obtain ⟨v', he, _⟩ := lvl0 (fun f => ev_func s f) hl (fun _ _ => by simp) hx; cases he
  have pack : ∀ (h2 : Hp), (wj = false ∧ h2 = s.h ∧ vj = .tup [] ∨ wj = true ∧ (opR X (X.ev s) s.h oj = some (.val vj h2) ∨ opR X (X.ev s) s.h oj = some (.skip h2) ∧ vj = .top)) →
      (∃ hx, wj = false ∧ hx = s.h ∧ vj = .tup [] ∧ hx = h2 ∨ wj = true ∧ (opR X (X.ev s) s.h oj = some (.val vj h2) ∨ opR X (X.ev s) s.h oj = some (.skip h2) ∧ vj = .top)) := fun h2 h => by
    rcases h with ⟨a1, a2, a3⟩ | h
    · exact ⟨s.h, .inl ⟨a1, rfl, a3, a2.symm⟩⟩
    · exact ⟨s.h, .inr h⟩
  rcases hc with (((hc | hc) | hc) | hc) | hc
  · -- the first looks at no object
    have e := hsame oi wi s.h hi vi (by omega) ci
    subst e
    refine fin hj (pack hj cj) ?_
    have := hany oi wi s.h s.h hj vi hc ci
    rcases this with ⟨b1, _, b3⟩ | h
    · exact .inl ⟨b1, rfl, b3⟩
    · exact .inr h
  · -- the second looks at no object
    have e := hsame oj wj hi hj vj (by omega) cj
    subst e
    exact fin s.h (pack s.h (hany oj wj _ _ s.h vj hc cj)) ci
  · have e := hsame oi wi s.h hi vi hc.1 ci
    subst e
    have e := hsame oj wj s.h hj vj hc.2 cj
    subst e
    exact fin s.h (pack s.h cj) ci
  · -- the second lays a new variable
    have e := hsame oi wi s.h hi vi hc.1 ci
    subst e
    have hext : ∃ g, hj = s.h ++ g := by
      rcases cj with ⟨_, h2, _⟩ | ⟨_, h2 | ⟨h2, _⟩⟩
      · exact ⟨[], by rw [h2]; simp⟩
      · obtain ⟨v', b, he⟩ := adds_ext hc.2 h2; cases he; exact ⟨_, rfl⟩
      · obtain ⟨v', b, he⟩ := adds_ext hc.2 h2; cases he
    obtain ⟨g, rfl⟩ := hext
    refine fin (s.h ++ g) (pack _ cj) ?_
    rcases ci with ⟨b1, _, b3⟩ | ⟨b1, hx | ⟨hx, _⟩⟩
    · exact .inl ⟨b1, rfl, b3⟩
    · exact .inr ⟨b1, .inl (read_ext (fun f => ev_func s f) hc.1 hx)⟩
    · obtain ⟨v', he⟩ := lvl1 (fun f => ev_func s f) hc.1 (fun _ _ => by simp) hx; cases he

  · -- the second lays new objects
    have e := hsame oi wi s.h hi vi hc.1.1 ci
    subst e
    have hext : ∃ g, hj = s.h ++ g := by
      rcases cj with ⟨_, h2, _⟩ | ⟨_, h2 | ⟨h2, _⟩⟩
      · exact ⟨[], by rw [h2]; simp⟩
      · obtain ⟨v', b, he⟩ := addsK_ext (s := s) hA (by rw [Bool.and_eq_true]; exact ⟨hc.1.2, hc.2⟩) h2; cases he; exact ⟨_, rfl⟩
      · obtain ⟨v', b, he⟩ := addsK_ext (s := s) hA (by rw [Bool.and_eq_true]; exact ⟨hc.1.2, hc.2⟩) h2; cases he
    obtain ⟨g, rfl⟩ := hext
    refine fin (s.h ++ g) (pack _ cj) ?_
    rcases ci with ⟨b1, _, b3⟩ | ⟨b1, hx | ⟨hx, _⟩⟩
    · exact .inl ⟨b1, rfl, b3⟩
    · exact .inr ⟨b1, .inl (read_ext (fun f => ev_func s f) hc.1.1 hx)⟩
    · obtain ⟨v', he⟩ := lvl1 (fun f => ev_func s f) hc.1.1 (fun _ _ => by simp) hx; cases he


theorem anyA_firstK (hA : AddsOk X fs) {Q : S → Prop} (hQ : ∀ s s', Eqv s s' → Q s → Q s') {i : Nat} {oi : Oper} (hi : ops[i]? = some oi) :
    ∀ (fuel : Nat) (listed : Array Bool) (s s1 : S),
      (∀ j oj, ops[j]? = some oj → j ≠ i → listed.getD j true = false → behB md ops i ops.size j = false → oi.apart ops oj = true ∧ comK X fs oi oj = true) → Closed md ops listed →
      i ∈ Region.ready md ops listed → st X ops oi s = some s1 →
      anyA X md ops Q fuel (listed.setIfInBounds i true) s1 → anyA X md ops Q (fuel + 1) listed s := by
  intro fuel
  induction fuel with
  | zero =>
    intro listed s s1 _ _ hr hy H
    refine ⟨fun h => (by rw [h] at hr; cases hr), fun j hj => ?_⟩
    by_cases hji : j = i
    · subst hji
      unfold opAt
      rw [hi]
      exact ⟨s1, hy, H⟩
    · have := ready_mono hj hji
      rw [H.1] at this
      cases this
  | succ fuel ih =>
    intro listed s s1 hfree hcl hr hy H
    refine ⟨fun h => (by rw [h] at hr; cases hr), fun j hj => ?_⟩
    by_cases hji : j = i
    · subst hji
      unfold opAt
      rw [hi]
      exact ⟨s1, hy, H⟩
    · have h1 := H.2 j (ready_mono hj hji)
      obtain ⟨hjun, oj, hoj, hall⟩ := mem_ready.1 hj
      have hnot := ready_beh hcl hr hj ops.size
      unfold opAt at h1 ⊢
      rw [hoj] at h1 ⊢
      obtain ⟨s12, h2, h3⟩ := h1
      obtain ⟨hap, hco⟩ := hfree j oj hoj hji hjun hnot
      obtain ⟨s2, s21, h4, h5, h6⟩ := st_commK hA hap hco hy h2
      have hfree' : ∀ k ok, ops[k]? = some ok → k ≠ i → (listed.setIfInBounds j true).getD k true = false →
          behB md ops i ops.size k = false → oi.apart ops ok = true ∧ comK X fs oi ok = true := fun k ok hk hki hun hno => by
        refine hfree k ok hk hki ?_ hno
        by_cases hjk : j = k
        · subst hjk; exact hjun
        · rw [getD_set_ne true hjk] at hun; exact hun
      refine ⟨s2, h4, ih (listed.setIfInBounds j true) s2 s21 hfree' (closed_set hcl hj) (ready_mono hr (Ne.symm hji)) h5 ?_⟩
      rw [Array.setIfInBounds_comm _ _ hji]
      exact anyA_eqv hQ _ _ _ _ h6 h3


def freeK (X : Ctx) (fs : List FuncId) (md : Region.Mode) (ops : Array Oper) (listed : Array Bool) (i : Nat) : Bool :=
  (List.range ops.size).all fun j =>
    match ops[i]?, ops[j]? with
    | some oi, some oj => j == i || listed.getD j true || (oi.apart ops oj && comK X fs oi oj) || behB md ops i ops.size j
    | _, _ => true

theorem freeK_spec {i : Nat} {oi : Oper} {listed : Array Bool} (hi : ops[i]? = some oi) (h : freeK X fs md ops listed i = true) (j : Nat) (oj : Oper) (hj : ops[j]? = some oj) (hji : j ≠ i)
    (hun : listed.getD j true = false) (hno : behB md ops i ops.size j = false) : oi.apart ops oj = true ∧ comK X fs oi oj = true := by
  unfold freeK at h
  rw [List.all_eq_true] at h
  have hjl : j < ops.size := (Array.getElem?_eq_some_iff.1 hj).1
  have := h j (List.mem_range.2 hjl)
  simp only [hi, hj, Bool.or_eq_true, beq_iff_eq, Bool.and_eq_true] at this
  rcases this with ((h1 | h1) | h1) | h1
  · exact absurd h1 hji
  · rw [hun] at h1; cases h1
  · exact h1
  · rw [hno] at h1; cases h1


def ordK (X : Ctx) (fs : List FuncId) (md : Region.Mode) (ops : Array Oper) : List Nat → Array Bool → Bool
  | [], _ => true
  | k :: r, listed => (Region.ready md ops listed).contains k && freeK X fs md ops listed k && ordK X fs md ops r (listed.setIfInBounds k true)

theorem anyA_ordK (hA : AddsOk X fs) {Q : S → Prop} (hQ : ∀ s s', Eqv s s' → Q s → Q s') (n : Nat) : ∀ (l : List Nat) (listed : Array Bool) (s s' : S), Closed md ops listed → ordK X fs md ops l listed = true →
    runOps X ops (opsOf ops l) s = some (.normal, s') → (Closed md ops (marks l listed) → anyA X md ops Q n (marks l listed) s') → anyA X md ops Q (l.length + n) listed s
  | [], _, s, s', hc, _, h, hq => by
    simp only [opsOf, runOps, Option.some.injEq, Prod.mk.injEq, true_and] at h
    subst h
    rw [List.length_nil, Nat.zero_add]
    exact hq hc
  | k :: l, listed, s, s', hc, hB, h, hq => by
    simp only [ordK, Bool.and_eq_true] at hB
    obtain ⟨⟨hr, hf⟩, hB⟩ := hB
    have hr' : k ∈ Region.ready md ops listed := by simpa using hr
    obtain ⟨_, o, ho, _⟩ := mem_ready.1 hr'
    simp only [opsOf, ho] at h
    obtain ⟨s1, h1, h2⟩ := runOps_st h
    rw [List.length_cons, Nat.add_right_comm]
    exact anyA_firstK hA hQ ho (l.length + n) listed s s1 (freeK_spec ho hf) hc hr' h1 (anyA_ordK hA hQ n l _ s1 s' (closed_set hc hr') hB h2 hq)



/-- A drawn region in the order l. -/
theorem awp_ordK {i : Nat} {l : List Oper} {t : List (Nat × AV)} {h : Hp} {Q : Ex → S → Prop} (l0 : List Nat) (hA : AddsOk X fs) (hE : X.E i = true) (hlen : l0.length = l.length)
    (hok : ordK X fs .any l.toArray l0 (Array.replicate l.length false) = true) (hem : (Region.ready .any l.toArray (marks l0 (Array.replicate l.length false))).isEmpty = true)
    (h1 : fin true Q (runOps X l.toArray (opsOf l.toArray l0) ⟨t, h⟩)) : awp X (.region i l.toArray true) ⟨t, h⟩ Q := by
  obtain ⟨s0, h0, q0⟩ := fin_true h1
  simp only [awp, hE, Bool.and_self, if_true]
  have := anyA_ordK hA (Q := fun s1 => ∃ s', Eqv s' s1 ∧ Q .normal s') (fun s1 s2 h12 ⟨s3, h1, h3⟩ => ⟨s3, h1.trans h12, h3⟩) 0 l0 _ _ _ closed_none hok h0 (fun _ => ⟨by simpa using hem, s0, Eqv.refl _, q0⟩)
  rw [Nat.add_zero, hlen] at this
  simpa using this

end
end Go.Ab

/-
  Sessions, the reference's reading: Step.
-/
namespace Go.Ab
open Go.RowKit Go.Proofs

theorem atI_last {p : Par} {z : Zon} {now : Bool} {l : List Ses} : lastI (curB p z now) (l.map cpS) = lastI (curB p z now) l := lastI_map l
theorem exO_ss {L : List SesO} {k : Nat} {t : Int} {s : Ses} {o : Option Nat} (h : L[k]? = some (s, o)) : ssOf (exO L k t) = (ssOf L).set k { s with til := t } := by
  unfold exO
  rw [h]
  simp only [ssOf, List.map_set]
theorem getO {L : List SesO} {k : Nat} {s : Ses} (h : (ssOf L)[k]? = some s) : ∃ o, L[k]? = some (s, o) := by
  simp only [List.getElem?_map, Option.map_eq_some_iff] at h
  obtain ⟨⟨a, o⟩, h1, rfl⟩ := h
  exact ⟨o, h1⟩
theorem seeO_plain {h : Hp} {id n : Nat} {g : Hp} {L : List SesO} {p : Par} {z : Zon} : ssOf (seeO h id n g L p z).1 = (match lastI (curB p z false) (ssOf L) with
    | none => ssOf L
    | some k => match (ssOf L)[k]? with
      | none => ssOf L
      | some s => (ssOf L).set k (seeS z p s)) := by
  unfold seeO
  cases lastI (curB p z false) (ssOf L) with
  | none => rfl
  | some k =>
    dsimp only
    rw [show (ssOf L)[k]? = (L[k]?).map (·.1) from List.getElem?_map ..]
    cases hk2 : L[k]? with
    | none => rfl
    | some x =>
      obtain ⟨s, o⟩ := x
      dsimp only [Option.map_some]
      unfold seeS
      split
      · rw [ssOf_set]
      · split
        · cases o <;> exact ssOf_set
        · rename_i h1 h2
          exact (set_self (by rw [List.getElem?_map, hk2]; rfl)).symm

noncomputable section
open Classical

theorem rextend_at {h : Hp} {f : Bool} {l : List Ses} {p : Par} {z : Zon} {k : Nat} {s : Ses} (h1 : l.length ≤ 1000000000) (h2 : ∀ s ∈ l, s.seen.length ≤ 1000000000) (hk : l[k]? = some s) (hw : IntKind.i64.wrap (p.til - z.stay) = p.til - z.stay) :
    rextend_k [.v (.c (.d (.sl f (l.map Ses.row)))), p.av, z.av, AV.i k] h = some (xtR ⟨h, f, l, p, z, k⟩ s) := by
  have := kR_eq (R := exR) (g := fun a : ExA => (a.l[a.k]?).bind fun s => if a.l.length ≤ 1000000000 ∧ (∀ s ∈ a.l, s.seen.length ≤ 1000000000) ∧ IntKind.i64.wrap (a.p.til - a.z.stay) = a.p.til - a.z.stay then some (xtR a s) else none) (a := ⟨h, f, l, p, z, k⟩)
    (args := [.v (.c (.d (.sl f (l.map Ses.row)))), p.av, z.av, AV.i k]) (h := h) (fun b hb => by rw [exR_inj (a := ⟨h, f, l, p, z, k⟩) ⟨rfl, rfl⟩ hb]) ⟨rfl, rfl⟩
  refine this.trans ?_
  dsimp only
  rw [hk]
  exact if_pos ⟨h1, h2, hw⟩
theorem rseen_at {h : Hp} {f : Bool} {l : List Ses} {p : Par} {z : Zon} (h1 : l.length ≤ 1000000000) (h2 : ∀ s ∈ l, s.seen.length ≤ 1000000000) :
    rseen_k [.v (.c (.d (.sl f (l.map Ses.row)))), p.av, z.av] h = some (.ret (.v (.c (.msl (h.length + 2) l.length))) (seeO (rcpH (h ++ boxPZ p z) l) (h.length + 2) (rcpH (h ++ boxPZ p z) l).length [] (rcpL (h.length + 3) l) p z).2) := by
  have := kR_eq (R := snR) (g := fun a : SnA => if a.l.length ≤ 1000000000 ∧ ∀ s ∈ a.l, s.seen.length ≤ 1000000000 then
      some (COut.ret (.v (.c (.msl (a.h.length + 2) a.l.length))) (seeO (rcpH (a.h ++ boxPZ a.p a.z) a.l) (a.h.length + 2) (rcpH (a.h ++ boxPZ a.p a.z) a.l).length [] (rcpL (a.h.length + 3) a.l) a.p a.z).2) else none) (a := ⟨h, f, l, p, z⟩)
    (args := [.v (.c (.d (.sl f (l.map Ses.row)))), p.av, z.av]) (h := h) (fun b hb => by rw [snR_inj (a := ⟨h, f, l, p, z⟩) ⟨rfl, rfl⟩ hb]) ⟨rfl, rfl⟩
  exact this.trans (if_pos ⟨h1, h2⟩)

theorem rcopied_adds {args : List AV} {h : Hp} {out : COut} (hk : rcopied_k args h = some out) : ∃ v g, out = .ret v (h ++ g) := by
  obtain ⟨a, ⟨_, rfl⟩, hg⟩ := kR_inv hk
  split at hg
  · cases hg
    exact ⟨_, _, rfl⟩
  · cases hg

def r7step_m : List PA → Option (List PA) := mE encStep fun q => if q.1.2.length ≤ 1000000 ∧ (∀ s ∈ q.1.2, s.seen.length ≤ 1000000) ∧ q.2.1.Ok ∧ zonesOk q.2.2.2 then some (stepR q.1.1 q.1.2 q.2.1 q.2.2.2) else none

set_option maxHeartbeats 4000000 in
theorem r7step_ok : PureC Tryz.prog Gt 12 r7step_m := by
  refine pure_of_awpSW (X := ctxN Tryz.prog Gt [(34, r7check_m), (35, rof_m), (36, rcur_m), (38, r7key_m)] [(37, rcopied_k), (39, rextend_k), (40, rseen_k)] [] none (uL [60]) (uL [9])) Tryz.func12 rfl rfl (by kernel_rfl) (by kernel_rfl) (kok_n (AllOk.cons r7check_ok (AllOk.cons rof_ok (AllOk.cons rcur_ok (AllOk.cons r7key_ok AllOk.nil)))) (AllK.cons rcopied_kok (AllK.cons rextend_kok (AllK.cons rseen_kok AllK.nil))) AllN.nil) ?_
  intro args r h0
  obtain ⟨⟨⟨f, l⟩, p, fz, zs⟩, rfl, h⟩ := mE_inv h0
  refine ⟨Nat.le_of_ble_eq_true rfl, ?_⟩
  split at h
  · rename_i hl
    obtain ⟨hl1, hl2, hp, hz⟩ := hl
    dsimp only at hl1 hl2 hp hz h
    simp only [Option.some.injEq] at h
    have hl1' : l.length ≤ 1000000000 := by omega
    have hl2' : ∀ s ∈ l, s.seen.length ≤ 1000000000 := fun s hs => by have := hl2 s hs; omega
    have f1 := r7check_at (f := fz) hz hp
    have f4 := r7key_at hp
    by_cases he : errP zs p = 0
    · obtain ⟨_, _, z, hfz, hzc, hT, hist, hk1, hk6⟩ := err_dots he
      have f2 := rof_at (p := p) (f := fz) hz
      have hof : ofR id zs p.zone = (z, true) := by unfold ofR; rw [hfz]; simp [hzc]
      rw [hof] at f2
      simp only [if_true] at f2
      have f3 := rcur_at (f := f) (l := l) (p := p) (z := z) hl1'
      rw [he] at f1
      obtain ⟨hst1, hst2, _, _⟩ := err_stay hzc
      have hA : applyF zs (l.map cpS) p = applyF zs (l.map cpS) p := rfl
      conv at hA => rhs; unfold applyF
      rw [if_neg (by simpa using he), hfz] at hA
      dsimp only at hA
      rw [atI_last] at hA
      unfold stepR at h
      generalize hR : applyF zs (l.map cpS) p = R at *
      have hfr : ∀ (H : Hp) (id : Nat) (L' : List SesO), LiveS H id L' → Wk 0 ⟨[(6, .v (.c (.msl id L'.length))), (7, AV.i 0)], H⟩ ⟨(6, .v (.c (.own id ((ssOf L').map Ses.row)))) :: [(6, .v (.c (.msl id L'.length))), (7, AV.i 0)], H.set id (.tok L'.length 7 none)⟩ := fun H id L' hL' => by
        have hfr := Wk.freezeC (n := 0) (t := [(6, .v (.c (.msl id L'.length))), (7, AV.i 0)]) (h := H) 6 id L'.length 7 (sc L') _ (by simp [look]) hL'.row hL'.allD
        rw [chunk_ses] at hfr
        have hr1 : (L'.map fun x => x.1.row) = (ssOf L').map Ses.row := by simp
        rw [hr1] at hfr
        exact hfr
      have hcp0 := rcpL_live (h := boxPZ p z) (l := l)
      have fc0 := rcopied_at (h := boxPZ p z) (f := f) hl1' hl2'
      have hLl : (rcpL 3 l).length = l.length := rcpL_len _ _
      have hLs : ssOf (rcpL 3 l) = l.map cpS := rcpL_ss
      have hcp : LiveS (rcpH (boxPZ p z) l) 2 (rcpL 3 l) := hcp0
      have fc : rcopied_k [.v (.c (.d (.sl f (l.map Ses.row))))] (boxPZ p z) = some (.ret (.v (.c (.msl 2 l.length))) (rcpH (boxPZ p z) l)) := fc0
      clear hcp0 fc0
      have hb4 : (rcpH (boxPZ p z) l)[0]? = some (.box (p.row.map .d)) := rfl
      generalize rcpH (boxPZ p z) l = H at *
      generalize rcpL 3 l = L at *
      obtain ⟨k1, z1, p1, t1, u1⟩ := p
      obtain ⟨zn, zhf, zhr, zsf, zst, zgr, zfr, zdm, zsy⟩ := z
      dsimp only at hA hist hk1 hk6 hst1 hst2
      have ht1 : 0 ≤ t1 ∧ t1 < 68719476736 := by simpa [isT] using hist
      simp only [Par.row, Zon.row] at f1 f2 f3 f4
      simp only [boxPZ, Par.row, Zon.row, List.map_cons, List.map_nil] at fc hb4
      by_cases c1 : k1 = 1
      · subst c1
        rw [if_pos rfl] at hA
        cases hla : lastI (curB ⟨1, z1, p1, t1, u1⟩ ⟨zn, zhf, zhr, zsf, zst, zgr, zfr, zdm, zsy⟩ true) l with
        | some k =>
          rw [hla] at f3 hA
          dsimp only [atI] at hA f3
          subst hA
          rw [if_neg (by simp)] at h
          subst h
          have hge : ((k : Int) ≥ 0) = True := eq_true (by omega)
          have hc := Nat.zero_add 0
          repeat' (first | simp only [hc, AS, Tryz.f12, encStep, NX, NPV, SX, Par.row, Zon.row, f1, f2, f3, hge, nn, AB, PL, RG, LP, TY, simprocAttr, ↓reduceIte, forall_const, eq_self, ne_eq, Option.some.injEq, beq_self_eq_true] | ((first | apply fin_ndec | apply fin_dec | apply cnd_ndec | apply cnd_dec' | apply fin_nsplit | apply fin_split | apply cnd_nsplit | apply cnd_split) <;> intro hc) | refine seqS_id ?_ | refine blk_exit_id ?_)
          all_goals exact ⟨_, Wk.refl, rfl⟩
        | none =>
          rw [hla] at f3 hA
          dsimp only [atI] at hA f3
          subst hA
          rw [if_pos rfl] at h
          subst h
          have hc := Nat.zero_add 0
          repeat' (first | simp only [hc, AS, Tryz.f12, encStep, NX, NPV, SX, Par.row, Zon.row, f1, f2, f3, nn, AB, PL, RG, LP, TY, simprocAttr, ↓reduceIte, forall_const, eq_self, ne_eq, Option.some.injEq, beq_self_eq_true] | ((first | apply fin_ndec | apply fin_dec | apply cnd_ndec | apply cnd_dec' | apply fin_nsplit | apply fin_split | apply cnd_nsplit | apply cnd_split) <;> intro hc) | refine seqS_id ?_ | refine blk_exit_id ?_)
          have hL' := (hcp.add (s := newS ⟨1, z1, p1, t1, u1⟩) rfl rfl).ext (g := [.tok 1 7 (some [.d (.str (keyF ⟨1, z1, p1, t1, u1⟩)), .d (.str z1), .d (.str p1), .d (.int .i64 t1), .d (.int .i64 u1), .d (.int .i64 1), .d (.sl true [])])])
          have hsc : sc (L) ++ [.d (.str (keyF ⟨1, z1, p1, t1, u1⟩)), .d (.str z1), .d (.str p1), .d (.int .i64 t1), .d (.int .i64 u1), .d (.int .i64 1), .d (.sl true [])] = sc (L ++ [(newS ⟨1, z1, p1, t1, u1⟩, none)]) := by rw [sc_append]; rfl
          have hfin := hfr _ 2 _ hL'
          have hll : (L ++ [(newS ⟨1, z1, p1, t1, u1⟩, none)]).length = (L).length + 1 := by simp
          have hss2 : ssOf (L ++ [(newS ⟨1, z1, p1, t1, u1⟩, none)]) = l.map cpS ++ [newS ⟨1, z1, p1, t1, u1⟩] := by rw [← hLs]; simp [ssOf]
          rw [hss2, hll] at hfin
          have hrow : ∀ r : Hp, (H ++ r)[2]? = some (.tok (L).length 7 (some (sc (L)))) := fun r => get_ext hcp.row
          have hset : ∀ (r : Hp) (o : Ob), (H ++ r).set 2 o = H.set 2 o ++ r := fun r o => List.set_append_left _ _ hcp.lt
          have hb1 : (((L).length + 1) * 96 ≤ 140737488355328) = True := eq_true (by omega)
          have hb2 : ((L).length + 1 ≤ 4611686018427387904) = True := eq_true (by omega)
          rw [← hLl] at fc
          have hrs : ((l.map cpS ++ [newS ⟨1, z1, p1, t1, u1⟩]).map Ses.row) = ((l.map cpS ++ [newS ⟨1, z1, p1, t1, u1⟩]).map Ses.row) := rfl
          generalize hRS : ((l.map cpS ++ [newS ⟨1, z1, p1, t1, u1⟩]).map Ses.row) = RS at *
          generalize hSC : sc (L ++ [(newS ⟨1, z1, p1, t1, u1⟩, none)]) = SC at *
          generalize keyF ⟨1, z1, p1, t1, u1⟩ = key at *
          refine awp_ordK (fs := [37]) [0, 2, 4, 5, 6, 7, 8, 9, 10, 11, 1, 3, 12, 13, 14, 15, 16] (fun g hg args h out hk => ?_) rfl rfl (by kernel_rfl) (by kernel_rfl) ?_
          · cases List.mem_singleton.1 hg
            exact rcopied_adds hk
          have hc := Nat.zero_add 0
          repeat' (first | simp only [hc, AS, TW, NX, NPV, SX, HX, f1, f2, f3, f4, fc, nn, Int.toNat_natCast, hrow, hset, hb1, hb2, hsc, AB, PL, RG, LP, TY, simprocAttr, ↓reduceIte, forall_const, eq_self, ne_eq, Option.some.injEq, beq_self_eq_true] | ((first | apply fin_ndec | apply fin_dec | apply cnd_ndec | apply cnd_dec' | apply fin_nsplit | apply fin_split | apply cnd_nsplit | apply cnd_split) <;> intro hc) | refine seqS_id ?_ | refine blk_exit_id ?_)
          exact ⟨_, (Wk.sub' (by simp [subT, look]) rfl).trans hfin, rfl⟩
      · rw [if_neg c1] at hA
        have c1' : (k1 = 1) = False := eq_false c1
        by_cases c2 : k1 = 2
        · subst c2
          rw [if_pos rfl] at hA
          cases hla : lastI (curB ⟨2, z1, p1, t1, u1⟩ ⟨zn, zhf, zhr, zsf, zst, zgr, zfr, zdm, zsy⟩ true) l with
          | none =>
            rw [hla] at f3 hA
            dsimp only [atI] at hA f3
            subst hA
            rw [if_neg (by simp)] at h
            subst h
            have hc := Nat.zero_add 0
            repeat' (first | simp only [hc, AS, Tryz.f12, encStep, NX, NPV, SX, Par.row, Zon.row, f1, f2, f3, nn, AB, PL, RG, LP, TY, simprocAttr, ↓reduceIte, forall_const, eq_self, ne_eq, Option.some.injEq, beq_self_eq_true] | ((first | apply fin_ndec | apply fin_dec | apply cnd_ndec | apply cnd_dec' | apply fin_nsplit | apply fin_split | apply cnd_nsplit | apply cnd_split) <;> intro hc) | refine seqS_id ?_ | refine blk_exit_id ?_)
            all_goals exact ⟨_, Wk.refl, rfl⟩
          | some k =>
            rw [hla] at f3 hA
            obtain ⟨x, hx, _⟩ := lastI_some hla
            obtain ⟨id', zo, pl, fr, ti, st, sf, sn⟩ := x
            dsimp only [atI] at hA f3
            have hxc : (l.map cpS)[k]? = some (cpS ⟨id', zo, pl, fr, ti, st, sf, sn⟩) := by rw [List.getElem?_map, hx]; rfl
            rw [hxc] at hA
            dsimp only [cpS] at hA
            have hlt0 : ((k : Int) < 0) = False := eq_false (by omega)
            have hT2 : t1 < u1 ∧ u1 ≤ 68719476736 := by
              simp only [errT] at hT
              by_cases hq : u1 ≤ t1 ∨ 68719476736 < u1
              · simp [hq] at hT
              · omega
            have hw := wI (n := u1 - zsy) (by omega) (by omega)
            have f6 := rextend_at (h := boxPZ ⟨2, z1, p1, t1, u1⟩ ⟨zn, zhf, zhr, zsf, zst, zgr, zfr, zdm, zsy⟩) (f := f) (p := ⟨2, z1, p1, t1, u1⟩) (z := ⟨zn, zhf, zhr, zsf, zst, zgr, zfr, zdm, zsy⟩) hl1' hl2' hx hw
            unfold xtR at f6
            dsimp only at f6
            by_cases d2 : u1 ≤ ti
            · rw [if_pos d2] at hA f6
              subst hA
              rw [if_neg (by simp)] at h
              subst h
              simp only [Par.av, Zon.av, boxPZ, Par.row, Zon.row, List.map_cons, List.map_nil, List.cons_append, List.nil_append] at f6
              have hc := Nat.zero_add 0
              repeat' (first | simp only [hc, AS, Tryz.f12, encStep, NX, NPV, SX, Par.row, Zon.row, f1, f2, f3, f6, nn, hlt0, AB, PL, RG, LP, TY, simprocAttr, ↓reduceIte, forall_const, eq_self, ne_eq, Option.some.injEq, beq_self_eq_true] | ((first | apply fin_ndec | apply fin_dec | apply cnd_ndec | apply cnd_dec' | apply fin_nsplit | apply fin_split | apply cnd_nsplit | apply cnd_split) <;> intro hc) | refine seqS_id ?_ | refine blk_exit_id ?_)
              all_goals exact ⟨_, Wk.refl, rfl⟩
            · rw [if_neg d2] at hA f6
              by_cases d3 : zsy ≠ 0 ∧ fr < u1 - zsy
              · rw [if_pos d3] at hA f6
                subst hA
                rw [if_neg (by simp)] at h
                subst h
                simp only [Par.av, Zon.av, boxPZ, Par.row, Zon.row, List.map_cons, List.map_nil, List.cons_append, List.nil_append] at f6
                have hc := Nat.zero_add 0
                repeat' (first | simp only [hc, AS, Tryz.f12, encStep, NX, NPV, SX, Par.row, Zon.row, f1, f2, f3, f6, nn, hlt0, AB, PL, RG, LP, TY, simprocAttr, ↓reduceIte, forall_const, eq_self, ne_eq, Option.some.injEq, beq_self_eq_true] | ((first | apply fin_ndec | apply fin_dec | apply cnd_ndec | apply cnd_dec' | apply fin_nsplit | apply fin_split | apply cnd_nsplit | apply cnd_split) <;> intro hc) | refine seqS_id ?_ | refine blk_exit_id ?_)
                all_goals exact ⟨_, Wk.refl, rfl⟩
              · rw [if_neg d3] at hA f6
                subst hA
                rw [if_pos rfl] at h
                subst h
                have hcx := rcpL_live (h := boxPZ ⟨2, z1, p1, t1, u1⟩ ⟨zn, zhf, zhr, zsf, zst, zgr, zfr, zdm, zsy⟩ ++ boxPZ ⟨2, z1, p1, t1, u1⟩ ⟨zn, zhf, zhr, zsf, zst, zgr, zfr, zdm, zsy⟩) (l := l)
                have hcx1 : LiveS (rcpH (boxPZ ⟨2, z1, p1, t1, u1⟩ ⟨zn, zhf, zhr, zsf, zst, zgr, zfr, zdm, zsy⟩ ++ boxPZ ⟨2, z1, p1, t1, u1⟩ ⟨zn, zhf, zhr, zsf, zst, zgr, zfr, zdm, zsy⟩) l) 4 (rcpL 5 l) := hcx
                have hxs : (ssOf (rcpL 5 l))[k]? = some (cpS ⟨id', zo, pl, fr, ti, st, sf, sn⟩) := by rw [rcpL_ss]; exact hxc
                obtain ⟨o, hxL⟩ := getO hxs
                have hexs : exO (rcpL 5 l) k u1 = (rcpL 5 l).set k ({ cpS ⟨id', zo, pl, fr, ti, st, sf, sn⟩ with til := u1 }, o) := by unfold exO; rw [hxL]
                have hLv := hcx1.put hxL (s' := { cpS ⟨id', zo, pl, fr, ti, st, sf, sn⟩ with til := u1 }) rfl rfl
                have hfin := hfr _ 4 _ hLv
                have hll : ((rcpL 5 l).set k ({ cpS ⟨id', zo, pl, fr, ti, st, sf, sn⟩ with til := u1 }, o)).length = l.length := by rw [List.length_set, rcpL_len]
                rw [ssOf_set, rcpL_ss, hll] at hfin
                have f6' : rextend_k [.v (.c (.d (.sl f (l.map Ses.row)))), Par.av ⟨2, z1, p1, t1, u1⟩, Zon.av ⟨zn, zhf, zhr, zsf, zst, zgr, zfr, zdm, zsy⟩, AV.i k] (boxPZ ⟨2, z1, p1, t1, u1⟩ ⟨zn, zhf, zhr, zsf, zst, zgr, zfr, zdm, zsy⟩) = some (.ret (.tup [.c (.msl 4 l.length), .c (.d (.int .i64 0))]) ((rcpH (boxPZ ⟨2, z1, p1, t1, u1⟩ ⟨zn, zhf, zhr, zsf, zst, zgr, zfr, zdm, zsy⟩ ++ boxPZ ⟨2, z1, p1, t1, u1⟩ ⟨zn, zhf, zhr, zsf, zst, zgr, zfr, zdm, zsy⟩) l).set 4 (rowO (exO (rcpL 5 l) k u1)))) := f6
                rw [hexs, rowO, hll] at f6'
                rw [rcpL_len] at hfin
                clear f6 hLv hcx hcx1
                generalize (rcpH (boxPZ ⟨2, z1, p1, t1, u1⟩ ⟨zn, zhf, zhr, zsf, zst, zgr, zfr, zdm, zsy⟩ ++ boxPZ ⟨2, z1, p1, t1, u1⟩ ⟨zn, zhf, zhr, zsf, zst, zgr, zfr, zdm, zsy⟩) l).set 4 (.tok l.length 7 (some (sc ((rcpL 5 l).set k ({ cpS ⟨id', zo, pl, fr, ti, st, sf, sn⟩ with til := u1 }, o))))) = HH at *
                simp only [Par.av, Zon.av, boxPZ, Par.row, Zon.row, List.map_cons, List.map_nil] at f6'
                have hc := Nat.zero_add 0
                repeat' (first | simp only [hc, AS, Tryz.f12, encStep, NX, NPV, SX, Par.row, Zon.row, f1, f2, f3, f6', nn, hlt0, AB, PL, RG, LP, TY, simprocAttr, ↓reduceIte, forall_const, eq_self, ne_eq, Option.some.injEq, beq_self_eq_true] | ((first | apply fin_ndec | apply fin_dec | apply cnd_ndec | apply cnd_dec' | apply fin_nsplit | apply fin_split | apply cnd_nsplit | apply cnd_split) <;> intro hc) | refine seqS_id ?_ | refine blk_exit_id ?_)
                exact ⟨_, (Wk.sub' (by simp [subT, look]) rfl).trans hfin, rfl⟩
        · rw [if_neg c2] at hA
          have c2' : (k1 = 2) = False := eq_false c2
          by_cases c3 : k1 = 3
          · subst c3
            rw [if_pos rfl] at hA
            cases hla : lastI (curB ⟨3, z1, p1, t1, u1⟩ ⟨zn, zhf, zhr, zsf, zst, zgr, zfr, zdm, zsy⟩ true) l with
            | none =>
              rw [hla] at f3 hA
              dsimp only [atI] at hA f3
              subst hA
              rw [if_neg (by simp)] at h
              subst h
              have hc := Nat.zero_add 0
              repeat' (first | simp only [hc, AS, Tryz.f12, encStep, NX, NPV, SX, Par.row, Zon.row, f1, f2, f3, nn, AB, PL, RG, LP, TY, simprocAttr, ↓reduceIte, forall_const, eq_self, ne_eq, Option.some.injEq, beq_self_eq_true] | ((first | apply fin_ndec | apply fin_dec | apply cnd_ndec | apply cnd_dec' | apply fin_nsplit | apply fin_split | apply cnd_nsplit | apply cnd_split) <;> intro hc) | refine seqS_id ?_ | refine blk_exit_id ?_)
              all_goals exact ⟨_, Wk.refl, rfl⟩
            | some k =>
              rw [hla] at f3 hA
              obtain ⟨x, hx, _⟩ := lastI_some hla
              obtain ⟨id', zo, pl, fr, ti, st, sf, sn⟩ := x
              dsimp only [atI] at hA f3
              have hxc : (l.map cpS)[k]? = some (cpS ⟨id', zo, pl, fr, ti, st, sf, sn⟩) := by rw [List.getElem?_map, hx]; rfl
              rw [hxc] at hA
              dsimp only at hA
              subst hA
              rw [if_pos rfl] at h
              subst h
              have hkl := lt_of_get hx
              have hlt0 : ((k : Int) < 0) = False := eq_false (by omega)
              have hlt2 : ((k : Int) < (L.length : Int)) = True := eq_true (by omega)
              obtain ⟨o, hxL0⟩ := getO (L := L) (k := k) (by rw [hLs]; exact hxc)
              have hxL : L[k]? = some ((⟨id', zo, pl, fr, ti, st, sn.isEmpty, sn⟩ : Ses), o) := hxL0
              clear hxL0
              have hL1 := hcp.put hxL (s' := ⟨id', zo, pl, fr, ti, 2, sn.isEmpty, sn⟩) rfl rfl
              have hx1 : (L.set k (⟨id', zo, pl, fr, ti, 2, sn.isEmpty, sn⟩, o))[k]? = some (⟨id', zo, pl, fr, ti, 2, sn.isEmpty, sn⟩, o) := by rw [List.getElem?_set_self (by omega)]
              have hput := fun h' => stP_ses (h := h') (id := 2) hxL (j := 5) (by decide) (v := .d (.int .i64 2)) (x' := (⟨id', zo, pl, fr, ti, 2, sn.isEmpty, sn⟩, o)) (by cases o <;> rfl)
              have hc4 := sc_cell hx1 (j := 4) (by decide)
              simp only [scC, List.getElem?_cons_succ, List.getElem?_cons_zero] at hc4
              have hrow1 : (H.set 2 (rowO (L.set k (⟨id', zo, pl, fr, ti, 2, sn.isEmpty, sn⟩, o))))[2]? = some (.tok L.length 7 (some (sc (L.set k (⟨id', zo, pl, fr, ti, 2, sn.isEmpty, sn⟩, o))))) := by rw [List.getElem?_set_self hcp.lt, rowO, List.length_set]
              have hb4' : ∀ o : Ob, (H.set 2 o)[0]? = some (.box [.d (.int .i64 3), .d (.str z1), .d (.str p1), .d (.int .i64 t1), .d (.int .i64 u1)]) := fun o => by rw [List.getElem?_set_ne (by decide)]; exact hb4
              have hrow := hcp.row
              rw [← hLl] at fc
              by_cases d4 : t1 < ti
              · have hmin : min ti t1 = t1 := by omega
                have hL2 := hL1.put hx1 (s' := ⟨id', zo, pl, fr, t1, 2, sn.isEmpty, sn⟩) rfl rfl
                have hput2 := fun h' => stP_ses (h := h') (id := 2) hx1 (j := 4) (by decide) (v := .d (.int .i64 t1)) (x' := (⟨id', zo, pl, fr, t1, 2, sn.isEmpty, sn⟩, o)) (by cases o <;> rfl)
                have hfin := hfr _ 2 _ hL2
                rw [List.set_set, List.set_set, ssOf_set, hLs, List.length_set, List.length_set] at hfin
                rw [List.length_set] at hput2
                simp only [List.set_set] at hput2
                rw [show min (cpS ⟨id', zo, pl, fr, ti, st, sf, sn⟩).til t1 = t1 from hmin]
                have d4' : (t1 < ti) = True := eq_true d4
                have hc := Nat.zero_add 0
                repeat' (first | simp only [hc, AS, Tryz.f12, encStep, NX, NPV, SX, Par.row, Zon.row, f1, f2, f3, fc, nn, Int.toNat_natCast, hlt0, hlt2, hrow, hrow1, hput, hput2, hc4, hb4, hb4', d4', List.set_set, AB, PL, RG, LP, TY, simprocAttr, ↓reduceIte, forall_const, eq_self, ne_eq, Option.some.injEq, beq_self_eq_true] | ((first | apply fin_ndec | apply fin_dec | apply cnd_ndec | apply cnd_dec' | apply fin_nsplit | apply fin_split | apply cnd_nsplit | apply cnd_split) <;> intro hc) | refine seqS_id ?_ | refine blk_exit_id ?_)
                refine ⟨_, Wk.trans (Wk.sub' ?_ ?_) hfin, rfl⟩
                · simp [subT, look]
                · rw [rowO, List.length_set]
              · have hmin : min ti t1 = ti := by omega
                have hfin := hfr _ 2 _ hL1
                rw [ssOf_set, hLs, List.length_set] at hfin
                rw [show min (cpS ⟨id', zo, pl, fr, ti, st, sf, sn⟩).til t1 = ti from hmin]
                have d4' : (t1 < ti) = False := eq_false d4
                have hc := Nat.zero_add 0
                repeat' (first | simp only [hc, AS, Tryz.f12, encStep, NX, NPV, SX, Par.row, Zon.row, f1, f2, f3, fc, nn, Int.toNat_natCast, hlt0, hlt2, hrow, hrow1, hput, hc4, hb4, hb4', d4', AB, PL, RG, LP, TY, simprocAttr, ↓reduceIte, forall_const, eq_self, ne_eq, Option.some.injEq, beq_self_eq_true] | ((first | apply fin_ndec | apply fin_dec | apply cnd_ndec | apply cnd_dec' | apply fin_nsplit | apply fin_split | apply cnd_nsplit | apply cnd_split) <;> intro hc) | refine seqS_id ?_ | refine blk_exit_id ?_)
                refine ⟨_, Wk.trans (Wk.sub' ?_ ?_) hfin, rfl⟩
                · simp [subT, look]
                · rw [rowO, List.length_set]
          · rw [if_neg c3] at hA
            have c3' : (k1 = 3) = False := eq_false c3
            by_cases c4 : k1 = 4
            · subst c4
              rw [if_pos rfl] at hA
              have f7 := rseen_at (h := boxPZ ⟨4, z1, p1, t1, u1⟩ ⟨zn, zhf, zhr, zsf, zst, zgr, zfr, zdm, zsy⟩) (f := f) (p := ⟨4, z1, p1, t1, u1⟩) (z := ⟨zn, zhf, zhr, zsf, zst, zgr, zfr, zdm, zsy⟩) hl1' hl2'
              have hcx := rcpL_live (h := boxPZ ⟨4, z1, p1, t1, u1⟩ ⟨zn, zhf, zhr, zsf, zst, zgr, zfr, zdm, zsy⟩ ++ boxPZ ⟨4, z1, p1, t1, u1⟩ ⟨zn, zhf, zhr, zsf, zst, zgr, zfr, zdm, zsy⟩) (l := l)
              have hcx1 : LiveS (rcpH (boxPZ ⟨4, z1, p1, t1, u1⟩ ⟨zn, zhf, zhr, zsf, zst, zgr, zfr, zdm, zsy⟩ ++ boxPZ ⟨4, z1, p1, t1, u1⟩ ⟨zn, zhf, zhr, zsf, zst, zgr, zfr, zdm, zsy⟩) l) 4 (rcpL 5 l) := hcx
              have hlow := rcpL_low (h := boxPZ ⟨4, z1, p1, t1, u1⟩ ⟨zn, zhf, zhr, zsf, zst, zgr, zfr, zdm, zsy⟩ ++ boxPZ ⟨4, z1, p1, t1, u1⟩ ⟨zn, zhf, zhr, zsf, zst, zgr, zfr, zdm, zsy⟩) (l := l) (by simp [LowH, boxPZ, Ob.low, Par.row, Zon.row, C1.low])
              have f7' : rseen_k [.v (.c (.d (.sl f (l.map Ses.row)))), Par.av ⟨4, z1, p1, t1, u1⟩, Zon.av ⟨zn, zhf, zhr, zsf, zst, zgr, zfr, zdm, zsy⟩] (boxPZ ⟨4, z1, p1, t1, u1⟩ ⟨zn, zhf, zhr, zsf, zst, zgr, zfr, zdm, zsy⟩) = some (.ret (.v (.c (.msl 4 l.length))) (seeO (rcpH (boxPZ ⟨4, z1, p1, t1, u1⟩ ⟨zn, zhf, zhr, zsf, zst, zgr, zfr, zdm, zsy⟩ ++ boxPZ ⟨4, z1, p1, t1, u1⟩ ⟨zn, zhf, zhr, zsf, zst, zgr, zfr, zdm, zsy⟩) l) 4 (rcpH (boxPZ ⟨4, z1, p1, t1, u1⟩ ⟨zn, zhf, zhr, zsf, zst, zgr, zfr, zdm, zsy⟩ ++ boxPZ ⟨4, z1, p1, t1, u1⟩ ⟨zn, zhf, zhr, zsf, zst, zgr, zfr, zdm, zsy⟩) l).length [] (rcpL 5 l) ⟨4, z1, p1, t1, u1⟩ ⟨zn, zhf, zhr, zsf, zst, zgr, zfr, zdm, zsy⟩).2) := f7
              clear f7 hcx
              generalize rcpH (boxPZ ⟨4, z1, p1, t1, u1⟩ ⟨zn, zhf, zhr, zsf, zst, zgr, zfr, zdm, zsy⟩ ++ boxPZ ⟨4, z1, p1, t1, u1⟩ ⟨zn, zhf, zhr, zsf, zst, zgr, zfr, zdm, zsy⟩) l = H5 at *
              have hlv := (seeO_live (g := []) (p := ⟨4, z1, p1, t1, u1⟩) (z := ⟨zn, zhf, zhr, zsf, zst, zgr, zfr, zdm, zsy⟩) hcx1 hlow rfl).1
              have hlv : LiveS (seeO H5 4 H5.length [] (rcpL 5 l) ⟨4, z1, p1, t1, u1⟩ ⟨zn, zhf, zhr, zsf, zst, zgr, zfr, zdm, zsy⟩).2 4 (seeO H5 4 H5.length [] (rcpL 5 l) ⟨4, z1, p1, t1, u1⟩ ⟨zn, zhf, zhr, zsf, zst, zgr, zfr, zdm, zsy⟩).1 := hlv
              have hfin := hfr _ 4 _ hlv
              have hpl := seeO_plain (h := H5) (id := 4) (n := H5.length) (g := []) (L := rcpL 5 l) (p := ⟨4, z1, p1, t1, u1⟩) (z := ⟨zn, zhf, zhr, zsf, zst, zgr, zfr, zdm, zsy⟩)
              have hsl : (seeO H5 4 H5.length [] (rcpL 5 l) ⟨4, z1, p1, t1, u1⟩ ⟨zn, zhf, zhr, zsf, zst, zgr, zfr, zdm, zsy⟩).1.length = l.length := by rw [seeO_len, rcpL_len]
              rw [hpl, rcpL_ss, atI_last, hsl] at hfin
              have hres : R.2 = 0 ∧ R.1 = (match lastI (curB ⟨4, z1, p1, t1, u1⟩ ⟨zn, zhf, zhr, zsf, zst, zgr, zfr, zdm, zsy⟩ false) l with
                  | none => l.map cpS
                  | some k => match (l.map cpS)[k]? with
                    | none => l.map cpS
                    | some s => (l.map cpS).set k (seeS ⟨zn, zhf, zhr, zsf, zst, zgr, zfr, zdm, zsy⟩ ⟨4, z1, p1, t1, u1⟩ s)) := by
                rw [atI_last] at hA
                rw [hA]
                cases lastI (curB ⟨4, z1, p1, t1, u1⟩ ⟨zn, zhf, zhr, zsf, zst, zgr, zfr, zdm, zsy⟩ false) l with
                | none => exact ⟨rfl, rfl⟩
                | some k =>
                  dsimp only
                  cases (l.map cpS)[k]? <;> exact ⟨rfl, rfl⟩
              rw [← hres.2] at hfin
              rw [if_pos hres.1] at h
              subst h
              clear hpl hlv hcx1 hlow hA hres
              generalize (seeO H5 4 H5.length [] (rcpL 5 l) ⟨4, z1, p1, t1, u1⟩ ⟨zn, zhf, zhr, zsf, zst, zgr, zfr, zdm, zsy⟩).2 = HH at *
              simp only [Par.av, Zon.av, boxPZ, Par.row, Zon.row, List.map_cons, List.map_nil] at f7'
              have hc := Nat.zero_add 0
              repeat' (first | simp only [hc, AS, Tryz.f12, encStep, NX, NPV, SX, Par.row, Zon.row, f1, f2, f3, f7', nn, AB, PL, RG, LP, TY, simprocAttr, ↓reduceIte, forall_const, eq_self, ne_eq, Option.some.injEq, beq_self_eq_true] | ((first | apply fin_ndec | apply fin_dec | apply cnd_ndec | apply cnd_dec' | apply fin_nsplit | apply fin_split | apply cnd_nsplit | apply cnd_split) <;> intro hc) | refine seqS_id ?_ | refine blk_exit_id ?_)
              exact ⟨_, (Wk.sub' (by simp [subT, look]) rfl).trans hfin, rfl⟩
            · rw [if_neg c4] at hA
              have c4' : (k1 = 4) = False := eq_false c4
              subst hA
              rw [if_pos rfl] at h
              subst h
              have hfin := hfr _ 2 _ hcp
              rw [hLs, hLl] at hfin
              have hc := Nat.zero_add 0
              repeat' (first | simp only [hc, AS, Tryz.f12, encStep, NX, NPV, SX, Par.row, Zon.row, f1, f2, f3, fc, nn, c1', c2', c3', c4', AB, PL, RG, LP, TY, simprocAttr, ↓reduceIte, forall_const, eq_self, ne_eq, Option.some.injEq, beq_self_eq_true] | ((first | apply fin_ndec | apply fin_dec | apply cnd_ndec | apply cnd_dec' | apply fin_nsplit | apply fin_split | apply cnd_nsplit | apply cnd_split) <;> intro hc) | refine seqS_id ?_ | refine blk_exit_id ?_)
              exact ⟨_, (Wk.sub' (by simp [subT, look]) rfl).trans hfin, rfl⟩
    · have hA : applyF zs (l.map cpS) p = (l.map cpS, errP zs p) := by unfold applyF; rw [if_pos (by simpa using he)]
      unfold stepR at h
      rw [hA, if_neg (by simpa using he)] at h
      subst h
      have he' : (errP zs p = 0) = False := eq_false he
      generalize errP zs p = e at *
      simp only [Par.row] at f1
      have hc := Nat.zero_add 0
      repeat' (first | simp only [hc, AS, Tryz.f12, encStep, NX, NPV, SX, Par.row, f1, he', AB, PL, RG, LP, TY, simprocAttr, ↓reduceIte, forall_const, eq_self, ne_eq, Option.some.injEq, beq_self_eq_true] | ((first | apply fin_ndec | apply fin_dec | apply cnd_ndec | apply cnd_dec' | apply fin_nsplit | apply fin_split | apply cnd_nsplit | apply cnd_split) <;> intro hc) | refine seqS_id ?_ | refine blk_exit_id ?_)
      all_goals exact ⟨_, Wk.refl, rfl⟩
  · cases h

end
end Go.Ab
