/-
  Texts of the layer and of the laws, put together: Ab11, Ab12, Ab13. No law is stated here.
-/
import Derived.Test.YteeepgnhkfmnaaaDoorAbVol9
set_option linter.unusedSimpArgs false
set_option linter.unusedVariables false
set_option maxRecDepth 100000

/-
  Regions in whatever order; then code: an abstract weakest precondition, proved sound.
-/
namespace Go.Ab
open Go.RowKit

section
variable {X : Ctx} {A : Actn} {md : Region.Mode} {ops : Array Oper}

/-- Operation number i comes up. -/
def opAt (X : Ctx) (ops : Array Oper) (i : Nat) (K : S → Prop) (s : S) : Prop :=
  match ops[i]? with
  | none => K s
  | some o => ∃ s', st X ops o s = some s' ∧ K s'

def anyA (X : Ctx) (md : Region.Mode) (ops : Array Oper) (Q : S → Prop) : Nat → Array Bool → S → Prop
  | 0, listed, s => Region.ready md ops listed = [] ∧ Q s
  | fuel + 1, listed, s =>
    (Region.ready md ops listed = [] → Q s) ∧ ∀ i ∈ Region.ready md ops listed, opAt X ops i (anyA X md ops Q fuel (listed.setIfInBounds i true)) s

theorem opAt_eqv {i : Nat} {K : S → Prop} {s s' : S} (hK : ∀ s s', Eqv s s' → K s → K s') (h : Eqv s s') (ho : opAt X ops i K s) : opAt X ops i K s' := by
  unfold opAt at *
  split at ho
  · exact hK _ _ h ho
  · obtain ⟨s1, h1, h2⟩ := ho
    obtain ⟨s1', h3, h4⟩ := st_eqv h h1
    exact ⟨s1', h3, hK _ _ h4 h2⟩

theorem opAt_mono {i : Nat} {K K' : S → Prop} {s : S} (hK : ∀ s, K s → K' s) (ho : opAt X ops i K s) : opAt X ops i K' s := by
  unfold opAt at *
  split at ho
  · exact hK _ ho
  · obtain ⟨s1, h1, h2⟩ := ho
    exact ⟨s1, h1, hK _ h2⟩

theorem anyA_eqv {Q : S → Prop} (hQ : ∀ s s', Eqv s s' → Q s → Q s') : ∀ (fuel : Nat) (listed : Array Bool) (s s' : S), Eqv s s' → anyA X md ops Q fuel listed s → anyA X md ops Q fuel listed s'
  | 0, _, _, _, h, ⟨h1, h2⟩ => ⟨h1, hQ _ _ h h2⟩
  | fuel + 1, _, _, _, h, ⟨h1, h2⟩ => ⟨fun h0 => hQ _ _ h (h1 h0), fun i hi => opAt_eqv (fun _ _ => anyA_eqv hQ fuel _ _ _) h (h2 i hi)⟩

/-- Whoever has come up: so have all that it waits for. -/
def Closed (md : Region.Mode) (ops : Array Oper) (listed : Array Bool) : Prop :=
  ∀ (k : Nat) (o : Oper), ops[k]? = some o → listed.getD k false = true → ∀ e ∈ o.after, Region.binds md e = true → listed.getD e.on false = true

/-- Who waits for i, seen in one sweep over the first n. -/
def behS (md : Region.Mode) (ops : Array Oper) (i : Nat) : Nat → Nat
  | 0 => 2 ^ i
  | n + 1 => if (match ops[n]? with | none => false | some o => o.after.any fun e => Region.binds md e && (behS md ops i n).testBit e.on) then behS md ops i n ||| 2 ^ n else behS md ops i n
/-- j waits for i, as far as one sweep over the first n shows. -/
def behB (md : Region.Mode) (ops : Array Oper) (i n j : Nat) : Bool := (behS md ops i n).testBit j && !(j == i)

theorem closed_sweep {listed : Array Bool} {i : Nat} (hc : Closed md ops listed) (hi : listed.getD i false = false) : ∀ (n k : Nat), (behS md ops i n).testBit k = true → listed.getD k false = false ∧ (k = i ∨ k ∉ Region.ready md ops listed)
  | 0, k, h => by
    unfold behS at h
    rw [Nat.testBit_two_pow] at h
    have : i = k := by simpa using h
    exact ⟨this ▸ hi, .inl this.symm⟩
  | n + 1, k, h => by
    unfold behS at h
    cases ho : ops[n]? with
    | none =>
      rw [ho] at h
      exact closed_sweep hc hi n k (by simpa using h)
    | some o =>
      rw [ho] at h
      simp only at h
      by_cases hw : (o.after.any fun e => Region.binds md e && (behS md ops i n).testBit e.on) = true
      · rw [if_pos hw, Nat.testBit_or, Bool.or_eq_true] at h
        rcases h with h | h
        · exact closed_sweep hc hi n k h
        · rw [Nat.testBit_two_pow] at h
          have hnk : n = k := by simpa using h
          subst hnk
          simp only [Array.any_eq_true, Bool.and_eq_true] at hw
          obtain ⟨j, hj, hb, ht⟩ := hw
          have hl := (closed_sweep hc hi n _ ht).1
          refine ⟨?_, .inr fun hr => ?_⟩
          · rw [← Bool.not_eq_true]
            intro hk
            have := hc n o ho hk _ (Array.getElem_mem hj) hb
            rw [hl] at this; cases this
          · obtain ⟨_, o', ho', hall⟩ := mem_ready.1 hr
            rw [ho] at ho'
            cases ho'
            have := hall _ (Array.getElem_mem hj) hb
            rw [hl] at this; cases this
      · rw [if_neg hw] at h
        exact closed_sweep hc hi n k h

theorem unlisted_of {listed : Array Bool} {i : Nat} (h : listed.getD i true = false) : listed.getD i false = false := by
  rcases Nat.lt_or_ge i listed.size with h' | h'
  · simp [h'] at h ⊢; exact h
  · simp [Array.getElem?_eq_none h'] at h

theorem ready_beh {listed : Array Bool} {i j : Nat} (hc : Closed md ops listed) (hi : i ∈ Region.ready md ops listed) (hj : j ∈ Region.ready md ops listed) (n : Nat) : behB md ops i n j = false := by
  rw [← Bool.not_eq_true]
  intro h
  unfold behB at h
  simp only [Bool.and_eq_true, Bool.not_eq_true', beq_eq_false_iff_ne] at h
  rcases (closed_sweep hc (unlisted_of (mem_ready.1 hi).1) n j h.1).2 with h' | h'
  · exact h.2 h'
  · exact h' hj

theorem closed_set {listed : Array Bool} {j : Nat} (hc : Closed md ops listed) (hj : j ∈ Region.ready md ops listed) : Closed md ops (listed.setIfInBounds j true) := by
  intro k o ho hk e he hb
  refine getD_set_true ?_
  by_cases hkj : j = k
  · subst hkj
    obtain ⟨_, o', ho', hall⟩ := mem_ready.1 hj
    rw [ho] at ho'
    cases ho'
    exact hall e he hb
  · rw [getD_set_ne false hkj] at hk
    exact hc k o ho hk e he hb

theorem closed_none {n : Nat} : Closed md ops (Array.replicate n false) := by
  intro k o _ hk
  rw [Array.getD_eq_getD_getElem?] at hk
  rcases Nat.lt_or_ge k n with h' | h'
  · simp [h'] at hk
  · simp [h'] at hk

/-- An operation that may come up now may be taken first. -/
theorem anyA_first {Q : S → Prop} (hQ : ∀ s s', Eqv s s' → Q s → Q s') {i : Nat} {oi : Oper} (hi : ops[i]? = some oi) :
    ∀ (fuel : Nat) (listed : Array Bool) (s s1 : S),
      (∀ j oj, ops[j]? = some oj → j ≠ i → listed.getD j true = false → behB md ops i ops.size j = false → oi.apart ops oj = true ∧ commute X oi oj = true) → Closed md ops listed →
      i ∈ Region.ready md ops listed → st X ops oi s = some s1 →
      anyA X md ops Q fuel (listed.setIfInBounds i true) s1 → anyA X md ops Q (fuel + 1) listed s := by
  intro fuel
  induction fuel with
  | zero =>
    intro listed s s1 _ _ hr hy H
    refine ⟨fun h => (by rw [h] at hr; cases hr), fun j hj => ?_⟩
    by_cases hji : j = i
    · subst hji
      unfold opAt
      rw [hi]
      exact ⟨s1, hy, H⟩
    · have := ready_mono hj hji
      rw [H.1] at this
      cases this
  | succ fuel ih =>
    intro listed s s1 hfree hcl hr hy H
    refine ⟨fun h => (by rw [h] at hr; cases hr), fun j hj => ?_⟩
    by_cases hji : j = i
    · subst hji
      unfold opAt
      rw [hi]
      exact ⟨s1, hy, H⟩
    · have h1 := H.2 j (ready_mono hj hji)
      obtain ⟨hjun, oj, hoj, hall⟩ := mem_ready.1 hj
      have hnot := ready_beh hcl hr hj ops.size
      unfold opAt at h1 ⊢
      rw [hoj] at h1 ⊢
      obtain ⟨s12, h2, h3⟩ := h1
      obtain ⟨hap, hco⟩ := hfree j oj hoj hji hjun hnot
      obtain ⟨s2, s21, h4, h5, h6⟩ := st_comm hap hco hy h2
      have hfree' : ∀ k ok, ops[k]? = some ok → k ≠ i → (listed.setIfInBounds j true).getD k true = false →
          behB md ops i ops.size k = false → oi.apart ops ok = true ∧ commute X oi ok = true := fun k ok hk hki hun hno => by
        refine hfree k ok hk hki ?_ hno
        by_cases hjk : j = k
        · subst hjk; exact hjun
        · rw [getD_set_ne true hjk] at hun; exact hun
      refine ⟨s2, h4, ih (listed.setIfInBounds j true) s2 s21 hfree' (closed_set hcl hj) (ready_mono hr (Ne.symm hji)) h5 ?_⟩
      rw [Array.setIfInBounds_comm _ _ hji]
      exact anyA_eqv hQ _ _ _ _ h6 h3

/-- Whoever has not come up and does not wait for i has nothing to do with it. -/
def freeA (X : Ctx) (md : Region.Mode) (ops : Array Oper) (listed : Array Bool) (i : Nat) : Bool :=
  (List.range ops.size).all fun j =>
    match ops[i]?, ops[j]? with
    | some oi, some oj => j == i || listed.getD j true || (oi.apart ops oj && commute X oi oj) || behB md ops i ops.size j
    | _, _ => true

theorem freeA_spec {i : Nat} {oi : Oper} {listed : Array Bool} (hi : ops[i]? = some oi) (h : freeA X md ops listed i = true) (j : Nat) (oj : Oper) (hj : ops[j]? = some oj) (hji : j ≠ i)
    (hun : listed.getD j true = false) (hno : behB md ops i ops.size j = false) : oi.apart ops oj = true ∧ commute X oi oj = true := by
  unfold freeA at h
  rw [List.all_eq_true] at h
  have hjl : j < ops.size := (Array.getElem?_eq_some_iff.1 hj).1
  have := h j (List.mem_range.2 hjl)
  simp only [hi, hj, Bool.or_eq_true, beq_iff_eq, Bool.and_eq_true] at this
  rcases this with ((h1 | h1) | h1) | h1
  · exact absurd h1 hji
  · rw [hun] at h1; cases h1
  · exact h1
  · rw [hno] at h1; cases h1

def lexA (X : Ctx) (md : Region.Mode) (ops : Array Oper) : Nat → Nat → Array Bool → Bool
  | 0, _, listed => (Region.ready md ops listed).isEmpty
  | fuel + 1, k, listed => (Region.ready md ops listed).contains k && freeA X md ops listed k && lexA X md ops fuel (k + 1) (listed.setIfInBounds k true)

theorem anyA_lex {Q : S → Prop} (hQ : ∀ s s', Eqv s s' → Q s → Q s') : ∀ (l : List Oper) (k : Nat) (listed : Array Bool) (s s' : S), (∀ j, l[j]? = ops[k + j]?) → Closed md ops listed →
    lexA X md ops l.length k listed = true → runOps X ops l s = some (.normal, s') → Q s' → anyA X md ops Q l.length listed s
  | [], _, _, s, s', _, _, hB, h, hq => by
    simp only [runOps, Option.some.injEq, Prod.mk.injEq, true_and] at h
    subst h
    exact ⟨by simpa [lexA] using hB, hq⟩
  | o :: l, k, listed, s, s', hl, hcl, hB, h, hq => by
    have h0 : ops[k]? = some o := by simpa using (hl 0).symm
    simp only [List.length_cons, lexA, Bool.and_eq_true] at hB
    obtain ⟨⟨hr, hf⟩, hB'⟩ := hB
    have hst : ∃ s1, st X ops o s = some s1 ∧ runOps X ops l s1 = some (.normal, s') := by
      simp only [runOps, Option.bind_eq_some_iff] at h
      obtain ⟨w, hw, h⟩ := h
      cases w with
      | false =>
        simp only [Bool.false_eq_true, if_false] at h
        exact ⟨_, by simp [st, hw], h⟩
      | true =>
        simp only [if_true, Option.bind_eq_some_iff] at h
        obtain ⟨⟨ex, s1⟩, h1, h⟩ := h
        cases ex <;> simp only [Option.some.injEq, Prod.mk.injEq] at h <;> try (cases h.1; done)
        refine ⟨s1, ?_, h⟩
        unfold stepA at h1
        unfold st
        rw [hw]
        simp only [Option.bind_some, if_true]
        cases hop : opA X s o with
        | none => simp [hop] at h1
        | some out =>
          simp only [hop, Option.map_some, Option.some.injEq, Option.bind_some] at h1 ⊢
          cases out <;> simp only [Prod.mk.injEq] at h1 <;> first | (obtain ⟨_, rfl⟩ := h1; rfl) | (cases h1.1)
    obtain ⟨s1, h1, h2⟩ := hst
    exact anyA_first hQ h0 l.length listed s s1 (freeA_spec h0 hf) hcl (by simpa using hr) h1
      (anyA_lex hQ l (k + 1) _ s1 s' (fun j => by have := hl (j + 1); simpa [Nat.add_assoc, Nat.add_comm 1 j] using this) (closed_set hcl (by simpa using hr)) hB' h2 hq)

/-- Each order of the operations does what the abstract one does. -/
theorem anyA_sim (hK : KOk X) {Q : Exit → Act → World → Prop} {QA : S → Prop} {n m : Nat} {E0 : Env} {h0 : Hp} (hfit : ∀ (i : Nat) (o : Oper), ops[i]? = some o → ∀ t, o.dst = some t → t < m)
    (hQ : ∀ (s' : S) (a' : Act) (E' : Env), QA s' → Evo n E0 h0 E' s'.h → Rel A E' s' a' E'.w → a'.tmps.size = m → Q .normal a' E'.w) :
    ∀ (fuel : Nat) (listed : Array Bool) (s : S) (a : Act) (E : Env), Now X A E s a → Evo n E0 h0 E s.h → a.tmps.size = m → anyA X md ops QA fuel listed s → wpAny X.P md ops Q fuel listed a E.w
  | 0, listed, s, a, E, hn, ev, hm, ⟨h1, h2⟩ => ⟨h1, hQ s a E h2 ev hn.rel hm⟩
  | fuel + 1, listed, s, a, E, hn, ev, hm, ⟨h1, h2⟩ => by
    refine ⟨fun h => hQ s a E (h1 h) ev hn.rel hm, fun i hi => ?_⟩
    have := h2 i hi
    unfold opAt at this
    unfold wpOp
    split at this
    · rename_i ho
      rw [ho]
      exact anyA_sim hK hfit hQ fuel _ s a E hn ev hm this
    · rename_i o ho
      rw [ho]
      simp only
      obtain ⟨s', hs, h3⟩ := this
      obtain ⟨w, hw, hs⟩ := st_step hs
      rw [want_sim hn hw]
      cases w with
      | false =>
        simp only [Bool.false_eq_true, if_false] at hs ⊢
        subst hs
        have hrel := hn.rel.put (Evo.refl (Nat.le_refl _)) hn.rel.env (d := o.dst) (v := .tup []) (u := undef) (fun t ht => by rw [hm]; exact hfit i o ho t ht) skp_rel
        have hh : (s.putO o.dst (.tup [])).h = s.h := putO_h _ _ _
        exact anyA_sim hK hfit hQ fuel _ (s.putO o.dst (.tup [])) (a.put o.dst undef) E ⟨hn.G, hrel⟩ (by rw [hh]; exact ev) (by rw [put_size]; exact hm) h3
      | true =>
        simp only [if_true] at hs ⊢
        left
        refine oper_sim (n := s.h.length) hK hn (Nat.le_refl _) hs (fun t ht => by rw [hm]; exact hfit i o ho t ht) (fun _ a' E' ev' hrel hsz => ?_) (fun x he => by cases he)
        exact anyA_sim hK hfit hQ fuel _ s' a' E' ⟨hn.G, hrel⟩ (ev.trans ev' ev.len) (hsz.trans hm) h3

/-! ### Two orders -/

theorem runOps_st {o : Oper} {l : List Oper} {s s' : S} (h : runOps X ops (o :: l) s = some (.normal, s')) : ∃ s1, st X ops o s = some s1 ∧ runOps X ops l s1 = some (.normal, s') := by
  simp only [runOps, Option.bind_eq_some_iff] at h
  obtain ⟨w, hw, h⟩ := h
  cases w with
  | false =>
    simp only [Bool.false_eq_true, if_false] at h
    exact ⟨_, by simp [st, hw], h⟩
  | true =>
    simp only [if_true, Option.bind_eq_some_iff] at h
    obtain ⟨⟨ex, s1⟩, h1, h⟩ := h
    cases ex <;> simp only [Option.some.injEq, Prod.mk.injEq] at h <;> try (cases h.1; done)
    refine ⟨s1, ?_, h⟩
    unfold stepA at h1
    unfold st
    rw [hw]
    simp only [Option.bind_some, if_true]
    cases hop : opA X s o with
    | none => simp [hop] at h1
    | some out =>
      simp only [hop, Option.map_some, Option.some.injEq, Option.bind_some] at h1 ⊢
      cases out <;> simp only [Prod.mk.injEq] at h1 <;> first | (obtain ⟨_, rfl⟩ := h1; rfl) | (cases h1.1)

/-- An order in which each one may come next, and nothing that is left and does not wait for it has to do with it. -/
def ordOk (X : Ctx) (md : Region.Mode) (ops : Array Oper) : List Nat → Array Bool → Bool
  | [], _ => true
  | k :: r, listed => (Region.ready md ops listed).contains k && freeA X md ops listed k && ordOk X md ops r (listed.setIfInBounds k true)
def marks : List Nat → Array Bool → Array Bool
  | [], listed => listed
  | k :: r, listed => marks r (listed.setIfInBounds k true)
def opsOf (ops : Array Oper) : List Nat → List Oper
  | [] => []
  | k :: r => match ops[k]? with | some o => o :: opsOf ops r | none => opsOf ops r
theorem anyA_ord {Q : S → Prop} (hQ : ∀ s s', Eqv s s' → Q s → Q s') (n : Nat) : ∀ (l : List Nat) (listed : Array Bool) (s s' : S), Closed md ops listed → ordOk X md ops l listed = true →
    runOps X ops (opsOf ops l) s = some (.normal, s') → (Closed md ops (marks l listed) → anyA X md ops Q n (marks l listed) s') → anyA X md ops Q (l.length + n) listed s
  | [], _, s, s', hc, _, h, hq => by
    simp only [opsOf, runOps, Option.some.injEq, Prod.mk.injEq, true_and] at h
    subst h
    rw [List.length_nil, Nat.zero_add]
    exact hq hc
  | k :: l, listed, s, s', hc, hB, h, hq => by
    simp only [ordOk, Bool.and_eq_true] at hB
    obtain ⟨⟨hr, hf⟩, hB⟩ := hB
    have hr' : k ∈ Region.ready md ops listed := by simpa using hr
    obtain ⟨_, o, ho, _⟩ := mem_ready.1 hr'
    simp only [opsOf, ho] at h
    obtain ⟨s1, h1, h2⟩ := runOps_st h
    rw [List.length_cons, Nat.add_right_comm]
    exact anyA_first hQ ho (l.length + n) listed s s1 (freeA_spec ho hf) hc hr' h1 (anyA_ord hQ n l _ s1 s' (closed_set hc hr') hB h2 hq)

/-- The closed facts: behind l0 either a or b comes next; what follows may go in the orders la and lb. -/
def twoOk (X : Ctx) (ops : Array Oper) (l0 : List Nat) (a : Nat) (la : List Nat) (b : Nat) (lb : List Nat) : Bool :=
  let listed0 := Array.replicate ops.size false
  let m := marks l0 listed0
  ordOk X .any ops l0 listed0 && (Region.ready .any ops m).contains a && (Region.ready .any ops m).contains b && (Region.ready .any ops m).all (fun i => i == a || i == b) &&
    ordOk X .any ops la (m.setIfInBounds a true) && ordOk X .any ops lb (m.setIfInBounds b true) && (Region.ready .any ops (marks la (m.setIfInBounds a true))).isEmpty && (Region.ready .any ops (marks lb (m.setIfInBounds b true))).isEmpty &&
    decide (la.length = lb.length) && decide (l0.length + (la.length + 1) = ops.size)
theorem anyA_two {Q : S → Prop} (hQ : ∀ s s', Eqv s s' → Q s → Q s') {l0 la lb : List Nat} {a b : Nat} (hok : twoOk X ops l0 a la b lb = true) {s s0 sa sb : S} (h0 : runOps X ops (opsOf ops l0) s = some (.normal, s0))
    (ha : runOps X ops (opsOf ops (a :: la)) s0 = some (.normal, sa)) (qa : Q sa) (hb : runOps X ops (opsOf ops (b :: lb)) s0 = some (.normal, sb)) (qb : Q sb) : anyA X .any ops Q ops.size (Array.replicate ops.size false) s := by
  simp only [twoOk, Bool.and_eq_true, decide_eq_true_eq] at hok
  obtain ⟨⟨⟨⟨⟨⟨⟨⟨⟨k0, k1⟩, k2⟩, k3⟩, k4⟩, k5⟩, k6⟩, k7⟩, k8⟩, k9⟩ := hok
  have k1' : a ∈ Region.ready .any ops (marks l0 (Array.replicate ops.size false)) := by simpa using k1
  have k2' : b ∈ Region.ready .any ops (marks l0 (Array.replicate ops.size false)) := by simpa using k2
  obtain ⟨_, oa, hoa, _⟩ := mem_ready.1 k1'
  obtain ⟨_, ob, hob, _⟩ := mem_ready.1 k2'
  have hcn : Closed .any ops (Array.replicate ops.size false) := closed_none
  generalize Array.replicate ops.size false = L0 at *
  rw [← k9]
  refine anyA_ord hQ (la.length + 1) l0 _ s s0 hcn k0 h0 fun hcl => ?_
  have one : ∀ (c : Nat) (oc : Oper) (lc : List Nat) (sc : S), ops[c]? = some oc → c ∈ Region.ready .any ops (marks l0 L0) → lc.length = la.length → ordOk X .any ops lc ((marks l0 L0).setIfInBounds c true) = true →
      (Region.ready .any ops (marks lc ((marks l0 L0).setIfInBounds c true))).isEmpty = true → runOps X ops (opsOf ops (c :: lc)) s0 = some (.normal, sc) → Q sc →
      opAt X ops c (anyA X .any ops Q la.length ((marks l0 L0).setIfInBounds c true)) s0 := fun c oc lc sc hoc hcr hlen hord hem hrun hq => by
    simp only [opsOf, hoc] at hrun
    obtain ⟨s1, h1, h2⟩ := runOps_st hrun
    unfold opAt
    rw [hoc]
    refine ⟨s1, h1, ?_⟩
    rw [← hlen]
    exact anyA_ord hQ 0 lc _ s1 sc (closed_set hcl hcr) hord h2 fun _ => ⟨by simpa using hem, hq⟩
  refine ⟨fun h => (by rw [h] at k1'; cases k1'), fun i hi => ?_⟩
  have := List.all_eq_true.1 k3 i hi
  simp only [Bool.or_eq_true, beq_iff_eq] at this
  rcases this with rfl | rfl
  · exact one _ oa la sa hoa hi rfl k4 k6 ha qa
  · exact one _ ob lb sb hob hi k8.symm k5 k7 hb qb

/-! ### Code -/

/-- The closed facts on a function's code: each slot is there; a region that draws its order may be taken in the text's. -/
def okCode (X : Ctx) (m : Nat) : Code → Bool
  | .region id ops draw => ops.all (fun o => match o.dst with | some t => decide (t < m) | none => true) &&
      (!draw || X.E id || lexA X .any ops ops.size 0 (Array.replicate ops.size false))
  | .seq x y => okCode X m x && okCode X m y
  | .cond _ x y => okCode X m x && okCode X m y
  | .block _ c => okCode X m c
  | .loop c => okCode X m c
  | .skip | .exit _ | .ret => true
  | _ => false

/-- s is as good as s', for what stands behind: whatever fits s fits s', the objects below n as they are. -/
def Wk (n : Nat) (s s' : S) : Prop := ∀ (A : Actn) (E : Env) (a : Act) (w : World), n ≤ s.h.length → Rel A E s a w → ∃ E', Evo n E s.h E' s'.h ∧ Rel A E' s' a w

/-- A loop, by a family of states and a measure. -/
def Lp (n : Nat) (step : S → (Ex → S → Prop) → Prop) (s : S) (Q : Ex → S → Prop) : Prop :=
  ∃ (σ : Type) (I : σ → Prop) (sta : σ → S) (μ : σ → Nat), (∃ x, Wk n s (sta x) ∧ I x) ∧
    ∀ x, I x → step (sta x) (fun ex s' => match ex with
      | .normal => ∃ y, Wk n s' (sta y) ∧ I y ∧ μ y < μ x
      | ex => Q ex s')

def blk (n id : Nat) (Q : Ex → S → Prop) : Ex → S → Prop
  | .exit i, s => if i = id then ∃ s', Wk n s s' ∧ Q .normal s' else Q (.exit i) s
  | e, s => Q e s

/-- A condition: this bool, or some bool. -/
def bIs (v : AV) : Option Bool → Prop
  | some b => v = .b b
  | none => v = .v (.c .ub)

/-- The abstract weakest precondition. -/
def awp (X : Ctx) : Code → S → (Ex → S → Prop) → Prop
  | .skip, s, Q => Q .normal s
  | .region id ops draw, s, Q => if (draw && X.E id) = true then anyA X .any ops (fun s1 => ∃ s', Eqv s' s1 ∧ Q .normal s') ops.toList.length (Array.replicate ops.size false) s
    else ∃ ex s', runOps X ops ops.toList s = some (ex, s') ∧ (draw = true → ex = .normal) ∧ Q ex s'
  | .seq x y, s, Q => awp X x s (fun ex s' => match ex with | .normal => awp X y s' Q | ex => Q ex s')
  | .cond c x y, s, Q => ∃ b, bIs (X.ev s c) b ∧ (b ≠ some false → awp X x s Q) ∧ (b ≠ some true → awp X y s Q)
  | .block id c, s, Q => awp X c s (blk s.h.length id Q)
  | .loop c, s, Q => Lp s.h.length (awp X c) s Q
  | .exit id, s, Q => Q (.exit id) s
  | .ret, s, Q => Q .ret s
  | _, _, _ => False

theorem Evo.weak {n m : Nat} {E E' : Env} {h h' : Hp} (ev : Evo m E h E' h') (hn : n ≤ m) : Evo n E h E' h' where
  frz := ev.frz
  same := ev.same
  keep id hid := ev.keep id (by omega)
  tok id hid := ev.tok id (by omega)
  len := Nat.le_trans hn ev.len

theorem exrel_normal {E : Env} {h : Hp} {e : Exit} (he : ExRel E h .normal e) : e = .normal := by cases e <;> first | rfl | exact he.elim
theorem exrel_normal' {E : Env} {h : Hp} {ex : Ex} (he : ExRel E h ex .normal) : ex = .normal := by cases ex <;> first | rfl | exact he.elim
theorem then_ne {K : Act → World → Prop} {Q : Exit → Act → World → Prop} {e : Exit} {a : Act} {w : World} (h : e ≠ .normal) : Exit.then K Q e a w = Q e a w := by cases e <;> first | rfl | exact absurd rfl h

/-- A loop whose rounds go down by a measure of something beside the frame. -/
theorem wp_loop_by {σ : Type} {P : Program} {c : Code} {Q : Exit → Act → World → Prop} {a : Act} {w : World} (R : σ → Act → World → Prop) (μ : σ → Nat) (x0 : σ) (h0 : R x0 a w)
    (round : ∀ x a w, R x a w → c.wp P (Exit.then (fun a' w' => ∃ y, R y a' w' ∧ μ y < μ x) Q) a w) : (Code.loop c).wp P Q a w := by
  intro b k cs
  have key : ∀ (n : Nat) (x : σ) (a : Act) (w : World), μ x < n → R x a w →
      ∃ e a' w', Q e a' w' ∧ Arrives P (lone (b.at a (.code c :: .inLoop c :: k)) cs w) b k cs e a' w' := by
    intro n
    induction n with
    | zero => intro x a w hx; omega
    | succ n ih =>
      intro x a w hx hR
      obtain ⟨e, a1, w1, hq, har⟩ := round x a w hR b (.inLoop c :: k) cs
      by_cases he : e = .normal
      · subst he
        obtain ⟨y, hy, hlt⟩ := hq
        obtain ⟨e2, a2, w2, hq2, har2⟩ := ih y a1 w1 (by omega) hy
        exact ⟨e2, a2, w2, hq2, .of_steps (Steps.trans har (.one step_inLoop)) har2⟩
      · rw [then_ne he] at hq
        exact ⟨e, a1, w1, hq, .pass (x := .inLoop c) rfl (fun _ _ => .inl he) har⟩
  obtain ⟨e, a', w', hq, har⟩ := key _ x0 a w (Nat.lt_succ_self _) h0
  exact ⟨e, a', w', hq, .of_steps (.one step_loop) har⟩

def Post (A : Actn) (n m : Nat) (E : Env) (h : Hp) (Q : Ex → S → Prop) : Exit → Act → World → Prop := fun e a' w' =>
  ∃ (ex : Ex) (s' : S) (E' : Env), Evo n E h E' s'.h ∧ Rel A E' s' a' w' ∧ a'.tmps.size = m ∧ ExRel E' s'.h ex e ∧ Q ex s'

theorem bIs_inv {E : Env} {h : Hp} {v : AV} {u : Value} {b : Option Bool} (hb : bIs v b) (hr : v.rel E h u) : ∃ b', u = .bool b' ∧ (b' = true → b ≠ some false) ∧ (b' = false → b ≠ some true) := by
  cases b with
  | some b =>
    have hb : v = .b b := hb
    subst hb
    exact ⟨b, bool_inv (rel_d hr), (fun h e => by cases e; cases h), (fun h e => by cases e; cases h)⟩
  | none =>
    have hb : v = .v (.c .ub) := hb
    subst hb
    obtain ⟨b, hb⟩ : ∃ b, u = .bool b := hr
    exact ⟨b, hb, (fun _ e => by cases e), (fun _ e => by cases e)⟩

theorem awp_sim (hK : KOk X) (hm : X.P.follows .mixedOrders = true) {m : Nat} : ∀ (c : Code) (s : S) (Q : Ex → S → Prop) (a : Act) (E : Env), okCode X m c = true → awp X c s Q → Now X A E s a → a.tmps.size = m →
    c.wp X.P (Post A s.h.length m E s.h Q) a E.w
  | .skip, s, Q, a, E, _, h, hn, hs => wp_skip ⟨.normal, s, E, Evo.refl (Nat.le_refl _), hn.rel, hs, trivial, h⟩
  | .exit id, s, Q, a, E, _, h, hn, hs => wp_exit ⟨.exit id, s, E, Evo.refl (Nat.le_refl _), hn.rel, hs, rfl, h⟩
  | .ret, s, Q, a, E, _, h, hn, hs => wp_ret ⟨.ret, s, E, Evo.refl (Nat.le_refl _), hn.rel, hs, trivial, h⟩
  | .region id ops draw, s, Q, a, E, hok, h, hn, hs => by
    simp only [okCode, Bool.and_eq_true] at hok
    obtain ⟨hfit, hlex⟩ := hok
    have hfit' : ∀ (i : Nat) (o : Oper), ops[i]? = some o → ∀ t, o.dst = some t → t < m := fun i o ho t ht => by
      rw [Array.all_eq_true_iff_forall_mem] at hfit
      have := hfit o (Array.mem_of_getElem? ho)
      simpa [ht] using this
    cases draw with
    | false =>
      simp only [awp, Bool.false_and, Bool.false_eq_true, if_false] at h
      obtain ⟨ex, s', hr, hd, hq⟩ := h
      refine wp_region_list (ops_sim hK ops.toList E s a s.h.length ex s' hn (Nat.le_refl _) hr (fun o ho t ht => ?_) (fun e a' E' ev hrel hsz he => ⟨ex, s', E', ev, hrel, hsz.trans hs, he, hq⟩))
      obtain ⟨i, hi⟩ := List.getElem?_of_mem ho
      rw [hs]
      exact hfit' i o (by simpa using hi) t ht
    | true =>
      have hany : anyA X .any ops (fun s1 => ∃ s', Eqv s' s1 ∧ Q .normal s') ops.toList.length (Array.replicate ops.size false) s := by
        cases hE : X.E id with
        | true =>
          simp only [awp, hE, Bool.and_self, if_true] at h
          exact h
        | false =>
          simp only [awp, hE, Bool.and_false, Bool.false_eq_true, if_false] at h
          obtain ⟨ex, s', hr, hd, hq⟩ := h
          have hex := hd trivial
          subst hex
          have hlex' : lexA X .any ops ops.size 0 (Array.replicate ops.size false) = true := by simpa [hE] using hlex
          exact anyA_lex (X := X) (md := .any) (ops := ops) (fun s1 s2 h12 ⟨s3, h1, h3⟩ => ⟨s3, h1.trans h12, h3⟩) ops.toList 0 (Array.replicate ops.size false) s s' (by simp) closed_none (by simpa using hlex') hr ⟨s', Eqv.refl _, hq⟩
      -- one draw
      let E1 : Env := { E with w := { E.w with drawn := E.w.drawn + 1 } }
      have ev1 : Evo s.h.length E s.h E1 s.h := ⟨fun _ _ h => h, fun _ _ _ => rfl, fun _ _ o h _ => ⟨⟨o, h, rfl⟩, rfl⟩, fun _ _ k _ c h => ⟨k, c, h, Nat.le_refl _, fun _ => ⟨rfl, fun _ vs T _ hb => ⟨vs, T, hb, rfl⟩⟩⟩, Nat.le_refl _⟩
      have hok1 : EnvOk A E1 s.h := by
        have h0 := hn.rel.env
        refine ⟨h0.below.trans ⟨rfl, rfl, rfl, Nat.le_refl _, fun _ _ => rfl⟩, h0.lt, h0.old, h0.f0, h0.inj, h0.base, fun i o ho => ?_, fun g xs hg => (h0.glob g xs hg).evo ev1, h0.ginv, fun hD => Nat.le_trans (h0.drw hD) (Nat.le_succ _)⟩
        have := h0.ob i o ho
        cases o with
        | box cs => obtain ⟨b, vs, T, h1, h2, h3, h4⟩ := this; exact ⟨b, vs, T, h1, h2, h3.evo ev1 (Nat.le_refl _), h4⟩
        | tok n z c => cases c with
          | none => exact this
          | some ds => exact ⟨this.1, this.2.imp (fun h => h) fun ⟨b, vs, T, h1, h2, h3, h4, h5⟩ => ⟨b, vs, T, h1, h2, h3, h4.evo ev1 (Nat.le_refl _), h5⟩⟩
        | map es clock => obtain ⟨b, ents, h1, h2, h3, h4, h5⟩ := this; exact ⟨b, ents, h1, h2, h3, h4, fun j p hj => let ⟨e, he, g1, g2, g3⟩ := h5 j p hj; ⟨e, he, g1, g2.evo ev1, g3.evo ev1⟩⟩
        | _ => exact this
      have hn1 : Now X A E1 s a := ⟨hn.G, hok1, rfl, hn.rel.defers, fun t => (hn.rel.tmps t).evo ev1 (Nat.le_refl _)⟩
      refine wp_region_any hm ?_
      have hsz : ops.toList.length = ops.size := by simp
      rw [← hsz]
      refine anyA_sim (m := m) (n := s.h.length) (E0 := E) (h0 := s.h) hK hfit' (fun s1 a' E' (hqq : ∃ s', Eqv s' s1 ∧ Q .normal s') ev hrel hsz' => by
        obtain ⟨s', hq1, hq⟩ := hqq
        exact ⟨.normal, s', E', by rw [hq1.1]; exact ev, ⟨by rw [hq1.1]; exact hrel.env, hrel.world, hrel.defers, fun t => by rw [hq1.1, hq1.2 t]; exact hrel.tmps t⟩, hsz', trivial, hq⟩) ops.toList.length _ s a E1 hn1 ev1 hs ?_
      rw [← hsz] at hany
      exact hany
  | .seq x y, s, Q, a, E, hok, h, hn, hs => by
    simp only [okCode, Bool.and_eq_true] at hok
    refine wp_seq (wp_mono (awp_sim hK hm x s _ a E hok.1 h hn hs) fun e a1 w1 ⟨ex, s1, E1, ev, hrel, hsz, he, hq⟩ => ?_)
    by_cases hex : ex = .normal
    · subst hex
      have := exrel_normal he
      subst this
      have hw := hrel.world
      subst hw
      exact wp_mono (awp_sim hK hm y s1 Q a1 E1 hok.2 hq ⟨hn.G, hrel⟩ hsz) fun e a2 w2 ⟨ex, s2, E2, ev2, hrel2, hsz2, he2, hq2⟩ => ⟨ex, s2, E2, ev.trans ev2 ev.len, hrel2, hsz2, he2, hq2⟩
    · have hne : e ≠ .normal := fun h => hex (exrel_normal' (h ▸ he))
      rw [then_ne hne]
      exact ⟨ex, s1, E1, ev, hrel, hsz, he, by cases ex <;> first | exact absurd rfl hex | exact hq⟩
  | .cond c x y, s, Q, a, E, hok, h, hn, hs => by
    simp only [okCode, Bool.and_eq_true] at hok
    obtain ⟨b, hb, h1, h2⟩ := h
    have hr := ev_rel hn c
    obtain ⟨b', hb', i1, i2⟩ := bIs_inv hb hr
    refine wp_cond_split hb' (fun ht => awp_sim hK hm x s Q a E hok.1 (h1 (i1 ht)) hn hs) (fun hf => awp_sim hK hm y s Q a E hok.2 (h2 (i2 hf)) hn hs)
  | .block id c, s, Q, a, E, hok, h, hn, hs => by
    refine wp_block (wp_mono (awp_sim hK hm c s _ a E hok h hn hs) fun e a1 w1 ⟨ex, s1, E1, ev, hrel, hsz, he, hq⟩ => ?_)
    cases ex with
    | exit i =>
      cases e <;> try (exact he.elim)
      have he' : i = _ := he
      subst he'
      simp only [Exit.inBlock, blk] at hq ⊢
      split at hq
      · rename_i hid
        rw [if_pos hid]
        obtain ⟨s2, hw, hq⟩ := hq
        obtain ⟨E2, ev2, hrel2⟩ := hw A E1 a1 w1 ev.len hrel
        exact ⟨.normal, s2, E2, ev.trans ev2 (Nat.le_refl _), hrel2, hsz, trivial, hq⟩
      · rename_i hid
        rw [if_neg hid]
        exact ⟨.exit i, s1, E1, ev, hrel, hsz, rfl, hq⟩
    | _ => cases e <;> first | exact he.elim | exact ⟨_, s1, E1, ev, hrel, hsz, he, hq⟩
  | .loop c, s, Q, a, E, hok, h, hn, hs => by
    obtain ⟨σ, I, sta, μ, ⟨x0, hw0, hI0⟩, hround⟩ := h
    obtain ⟨E0, ev0, hrel0⟩ := hw0 A E a E.w (Nat.le_refl _) hn.rel
    refine wp_loop_by (R := fun x a1 w1 => ∃ E1, I x ∧ Evo s.h.length E s.h E1 (sta x).h ∧ Rel A E1 (sta x) a1 w1 ∧ a1.tmps.size = m) (μ := μ) x0 ⟨E0, hI0, ev0, hrel0, hs⟩ fun x a1 w1 ⟨E1, hI1, ev1, hrel1, hs1⟩ => ?_
    have hw1 := hrel1.world
    subst hw1
    refine wp_mono (awp_sim hK hm c (sta x) _ a1 E1 hok (hround x hI1) ⟨hn.G, hrel1⟩ hs1) fun e a2 w2 ⟨ex, s2, E2, ev2, hrel2, hsz2, he2, hq2⟩ => ?_
    have ev12 := ev1.trans ev2 ev1.len
    by_cases hex : ex = .normal
    · subst hex
      have := exrel_normal he2
      subst this
      obtain ⟨y, hw3, hI3, hμ⟩ := hq2
      obtain ⟨E3, ev3, hrel3⟩ := hw3 A E2 a2 w2 ev12.len hrel2
      exact ⟨y, ⟨E3, hI3, ev12.trans ev3 (Nat.le_refl _), hrel3, hsz2⟩, hμ⟩
    · have hne : e ≠ .normal := fun h => hex (exrel_normal' (h ▸ he2))
      rw [then_ne hne]
      exact ⟨ex, s2, E2, ev12, hrel2, hsz2, he2, by cases ex <;> first | exact absurd rfl hex | exact hq2⟩
  | .rangeFunc _ _ _ _, _, _, _, _, hok, _, _, _ => by simp [okCode] at hok
  | .scope _, _, _, _, _, hok, _, _, _ => by simp [okCode] at hok
  | .label _, _, _, _, _, hok, _, _, _ => by simp [okCode] at hok
  | .goto _, _, _, _, _, hok, _, _, _ => by simp [okCode] at hok
  | .refuse _, _, _, _, _, hok, _, _, _ => by simp [okCode] at hok

end
end Go.Ab

/-
  Functions that are plain functions of their arguments: what it means, how it is used at a call, and how it is proved from the body.
-/
namespace Go.Ab
open Go.RowKit

/-- Arguments and results: data. -/
abbrev PA := DV

def DV.av (p : DV) : AV := .v p.V

abbrev AV.pa (x : AV) : Option DV := x.dv

def allPA : List AV → Option (List PA)
  | [] => some []
  | x :: r => (x.pa).bind fun p => (allPA r).map fun ps => p :: ps

def resV : List PA → AV
  | [x] => x.av
  | l => .tup (l.map DV.V)

def RRel (w : World) (F : Fz) (v : Value) : List PA → Prop
  | [x] => x.rel w F v
  | l => ∃ vs : List Value, v = .tuple vs.toArray ∧ vs.length = l.length ∧ ∀ (j : Nat) (x : PA), l[j]? = some x → ∃ u, vs[j]? = some u ∧ x.rel w F u

/-- What is frozen behind a call: what was, and all that is new. -/
def newF (w : World) (F : Fz) (w' : World) : Fz := fun b o => F b o ∨ (w.heap.size ≤ b ∧ b < w'.heap.size)

def GOk (G : Gl) (w : World) (F : Fz) : Prop := (∀ (g : Nat) (xs : List D), G.f g = some xs → DPtr w F (.pointer (some ⟨g, 0, none⟩)) xs) ∧ G.inv w

/-- f is the plain function m of its arguments; it writes nothing that was there. -/
def PureC (P : Program) (G : Gl) (f : FuncId) (m : List PA → Option (List PA)) : Prop :=
  (∀ (vs : Array Value) (w : World), (callFunc f vs).run P w = .ok (.enter f vs) w) ∧
  ∀ (w : World) (F : Fz) (vs : Array Value) (args r : List PA), (∀ b o, F b o → b < w.heap.size) → GOk G w F → vs.size = args.length →
    (∀ (j : Nat) (x : PA), args[j]? = some x → x.rel w F (vs.getD j undef)) → m args = some r →
    Calls P f vs w fun e w' => ∃ v, e = .returned v ∧ RRel w' (newF w F w') v r ∧ Below w.heap.size w w' ∧ (G.dr = true → w.drawn ≤ w'.drawn)

def pureM (m : List PA → Option (List PA)) (args : List AV) : Option AV := (allPA args).bind fun ps => (m ps).map resV

theorem pa_rel {E : Env} {h : Hp} {x : AV} {p : PA} {v : Value} (hr : x.rel E h v) (hp : x.pa = some p) : p.rel E.w E.F v := dv_rel hr hp

theorem allPA_rel : ∀ (args : List AV) (ps : List PA), allPA args = some ps → args.length = ps.length ∧ ∀ (j : Nat) (p : PA), ps[j]? = some p → ∃ x, args[j]? = some x ∧ x.pa = some p
  | [], ps, h => by simp [allPA] at h; subst h; exact ⟨rfl, fun j p hj => by simp at hj⟩
  | x :: r, ps, h => by
    simp only [allPA, Option.bind_eq_some_iff, Option.map_eq_some_iff] at h
    obtain ⟨p, hp, ps', hr, rfl⟩ := h
    obtain ⟨h1, h2⟩ := allPA_rel r ps' hr
    refine ⟨by simp [h1], fun j q hj => ?_⟩
    cases j with
    | zero => simp at hj; subst hj; exact ⟨x, rfl, hp⟩
    | succ j => simpa using h2 j q (by simpa using hj)

theorem DV.rel_V {E : Env} {h : Hp} {p : PA} {v : Value} (hr : p.rel E.w E.F v) : p.V.rel E h v := dV_rel hr

theorem DV.rel_av {E : Env} {h : Hp} {p : PA} {v : Value} (hr : p.rel E.w E.F v) : p.av.rel E h v := dV_rel (h := h) hr

theorem resV_rel {E : Env} {h : Hp} {r : List PA} {v : Value} (hr : RRel E.w E.F v r) : (resV r).rel E h v := by
  unfold RRel at hr
  unfold resV
  split at hr
  · exact DV.rel_av hr
  · obtain ⟨vs, rfl, hl, hx⟩ := hr
    refine ⟨vs, rfl, by simp [hl], fun j x hj => ?_⟩
    rw [List.getElem?_map] at hj
    cases hq : r[j]? with
    | none => simp [hq] at hj
    | some p =>
      simp [hq] at hj
      subst hj
      obtain ⟨u, hu, hru⟩ := hx j p hq
      exact ⟨u, hu, DV.rel_V hru⟩

/-- A plain function, used at a call. -/
theorem fok_of_pure {P : Program} {G : Gl} {f : FuncId} {m : List PA → Option (List PA)} (hp : PureC P G f m) {args : List AV} {v : AV} {h : Hp} (hv : pureM m args = some v) : FOk P G f args h (.ret v h) := by
  intro A E vs hG hE hs hrel o a K Q hd
  simp only [pureM, Option.bind_eq_some_iff, Option.map_eq_some_iff] at hv
  obtain ⟨ps, hps, r, hr, rfl⟩ := hv
  obtain ⟨hl, hg⟩ := allPA_rel args ps hps
  rw [hp.1 vs E.w, Oper.upon_enter]
  refine (hp.2 E.w E.F vs ps r hE.lt ⟨fun g xs hx => hE.glob g xs (by rw [hG]; exact hx), hG ▸ A.G.stable _ _ hE.below hE.ginv⟩ (by omega) (fun j p hj => ?_) hr).mono ?_
  · obtain ⟨x, hx, hxp⟩ := hg j p hj
    exact pa_rel (hrel j x hx) hxp
  · rintro e w' ⟨u, rfl, hru, hb, hdr⟩
    have st := Stp.fz hE w' hb.os hb.tape hb.output hb.size hb.block (fun hD => hdr (hG ▸ hD))
    exact hd u (E.newFz w') (st.evo hE) (st.fz_ok hE) (resV_rel (E := E.newFz w') hru)

/-! ### From the body -/

def argSlots : Nat → List PA → List (Nat × AV)
  | _, [] => []
  | k, x :: r => (k, x.av) :: argSlots (k + 1) r

theorem look_args : ∀ (args : List PA) (k t : Nat), look (argSlots k args) t = if k ≤ t then ((args[t - k]?).map DV.av).getD .top else .top
  | [], k, t => by simp [argSlots, look]
  | x :: r, k, t => by
    simp only [argSlots, look, look_args r]
    by_cases h : k = t
    · subst h; simp
    · rw [if_neg h]
      by_cases h2 : k ≤ t
      · rw [if_pos h2, if_pos (by omega)]
        have : t - k = (t - (k + 1)) + 1 := by omega
        rw [this, List.getElem?_cons_succ]
      · rw [if_neg h2, if_neg (by omega)]

def resOne (X : Ctx) (s : S) : ResultVar → Option PA
  | .tmp t => (s.get t).pa
  | .cell a t => (X.loadA s.h t (s.get a)).bind AV.pa

def resAll (X : Ctx) (s : S) : List ResultVar → Option (List PA)
  | [] => some []
  | x :: r => (resOne X s x).bind fun p => (resAll X s r).map fun ps => p :: ps

/-- What the body must do: return these. -/
def Rets (X : Ctx) (rs : List ResultVar) (r : List PA) : Ex → S → Prop
  | .ret, s => resAll X s rs = some r
  | .normal, s => resAll X s rs = some r
  | _, _ => False

theorem load_rel {X : Ctx} {A : Actn} {E : Env} {s : S} {a : Act} {w : World} (hrel : Rel A E s a w) {t : TypeId} {p : AV} {up : Value} {v : AV} (hp : p.rel E s.h up) (hl : X.loadA s.h t p = some v) :
    ∃ b o u, up = .pointer (some ⟨b, o, none⟩) ∧ (loadVar t ⟨b, o, none⟩).run X.P E.w = .ok u E.w ∧ v.rel E s.h u := by
  unfold Ctx.loadA at hl
  split at hl
  · rename_i id off
    split at hl
    · rename_i cs hid
      simp only [Option.map_eq_some_iff] at hl
      obtain ⟨y, hy, rfl⟩ := hl
      obtain ⟨b, ⟨_, hρ⟩, rfl⟩ := hp
      obtain ⟨b', vs, T, hρ', hb, hc, _⟩ := hrel.env.ob id _ hid
      rw [hρ] at hρ'
      cases hρ'
      obtain ⟨u, hu, hr⟩ := load_sim (X := X) (off := off) (cells_of_row hb hc) hy
      rw [Nat.zero_add] at hu
      exact ⟨b, off, u, rfl, hu, hr⟩
    · cases hl
  · simp only [Option.map_eq_some_iff] at hl
    obtain ⟨y, hy, rfl⟩ := hl
    obtain ⟨b, o, rfl, hc⟩ := cells_of_dptr (h := s.h) hp
    obtain ⟨u, hu, hr⟩ := load_sim (X := X) (off := 0) hc hy
    exact ⟨b, o, u, rfl, hu, hr⟩
  · simp only [Option.map_eq_some_iff] at hl
    obtain ⟨y, hy, rfl⟩ := hl
    obtain ⟨b, o, rfl, hc⟩ := hp
    obtain ⟨u, hu, hr⟩ := load_sim (X := X) (off := 0) (cells_of_ppt hc) hy
    exact ⟨b, o, u, rfl, hu, hr⟩
  · rename_i id n off
    split at hl
    · rename_i m z ds hid
      split at hl
      · rename_i hnm
        simp only [Option.map_eq_some_iff] at hl
        obtain ⟨y, hy, rfl⟩ := hl
        obtain ⟨b, rfl, m', z', c', hid', _, hρ⟩ := hp
        rw [hid] at hid'
        cases hid'
        have hρ := hρ hnm
        obtain ⟨_, h0 | ⟨b', vs, T, hρ', hb, _, hc, _⟩⟩ := hrel.env.ob id _ hid
        · rw [hρ] at h0; cases h0.1
        · rw [hρ] at hρ'
          cases hρ'
          have hca : CellsAt E s.h b 0 ds := fun j x hj => by
            obtain ⟨u, hu, hr⟩ := hc.2 j x hj
            refine ⟨u, ?_, hr⟩
            have hjl := lt_of_get hu
            simp only [List.length_take] at hjl
            rw [List.getElem?_take, if_pos (by omega)] at hu
            simp only [World.cell?, hb, Nat.zero_add, Option.isSome_none, Bool.false_eq_true, if_false]
            simpa using hu
          obtain ⟨u, hu, hr⟩ := load_sim (X := X) (off := off) hca hy
          rw [Nat.zero_add] at hu
          exact ⟨b, off, u, rfl, hu, hr⟩
      · cases hl
    · cases hl
  · cases hl

def resSem (tmps : Array Value) : ResultVar → Sem Value
  | .tmp t => pure (tmps.getD t undef)
  | .cell p t => do loadVar t (← asAddr (tmps.getD p undef))

theorem results_eq (fn : Func) (tmps : Array Value) : results fn tmps = (do let vs ← fn.results.mapM (resSem tmps); pure (if h : vs.size = 1 then vs[0] else .tuple vs)) := by
  unfold results
  congr

theorem results_run {X : Ctx} {A : Actn} {E : Env} {s : S} {a : Act} (hrel : Rel A E s a E.w) : ∀ (rs : List ResultVar) (r : List PA), resAll X s rs = some r →
    ∃ vs : List Value, (rs.mapM (resSem a.tmps)).run X.P E.w = .ok vs E.w ∧ vs.length = r.length ∧ ∀ (j : Nat) (x : PA), r[j]? = some x → ∃ u, vs[j]? = some u ∧ x.rel E.w E.F u
  | [], r, h => by simp [resAll] at h; subst h; exact ⟨[], by simp, rfl, fun j x hj => by simp at hj⟩
  | x :: rs, r, h => by
    simp only [resAll, Option.bind_eq_some_iff, Option.map_eq_some_iff] at h
    obtain ⟨p, hp, ps, hps, rfl⟩ := h
    obtain ⟨vs, hvs, hl, hx⟩ := results_run hrel rs ps hps
    have one : ∃ u, (resSem a.tmps x).run X.P E.w = .ok u E.w ∧ p.rel E.w E.F u := by
      cases x with
      | tmp t => exact ⟨_, rfl, pa_rel (hrel.tmps t) hp⟩
      | cell q t =>
        simp only [resOne, Option.bind_eq_some_iff] at hp
        obtain ⟨v, hv, hvp⟩ := hp
        obtain ⟨b, o, u, hu1, hu2, hr⟩ := load_rel hrel (hrel.tmps q) hv
        exact ⟨u, by simp only [resSem, hu1, asAddr, Sem.run_bind, Sem.run_pure, Result.andThen_ok, hu2], pa_rel hr hvp⟩
    obtain ⟨u, hu, hr⟩ := one
    refine ⟨u :: vs, ?_, by simp [hl], fun j q hj => ?_⟩
    · rw [List.mapM_cons]
      simp only [Sem.run_bind, hu, Result.andThen_ok, hvs, Sem.run_pure]
    · cases j with
      | zero => simp at hj; subst hj; exact ⟨u, rfl, hr⟩
      | succ j => simpa using hx j q (by simpa using hj)

/-- A body that returns m's value, for all arguments. -/
theorem pure_of_awp {X : Ctx} {f : FuncId} {fn : Func} {c : Code} {m : List PA → Option (List PA)} (hf : X.P.funcs[f]? = some fn) (hb : fn.body = some c) (hname : (fn.name == "runtime.NumGoroutine") = false)
    (hok : okCode X fn.ntmps c = true) (hmix : X.P.follows .mixedOrders = true) (hK : KOk X)
    (hbody : ∀ args r, m args = some r → args.length ≤ fn.ntmps ∧ awp X c ⟨argSlots 0 args, []⟩ (Rets X fn.results.toList r)) : PureC X.P X.G f m := by
  have hne : ¬ fn.name = "runtime.NumGoroutine" := by simpa using hname
  refine ⟨fun vs w => by simp [callFunc, hf, hne, hb], fun w F vs args r hlt hG hvs hrel hm => ?_⟩
  obtain ⟨hal, ha⟩ := hbody args r hm
  let A : Actn := ⟨w, F, X.G, []⟩
  let E : Env := ⟨fun _ => none, F, w⟩
  let a : Act := { tmps := vs ++ Array.replicate (fn.ntmps - vs.size) undef, defers := [] }
  have hE : EnvOk A E [] := ⟨Below.refl _ _, hlt, fun b o _ h => h, fun b o h => h, fun i j b hi => by simp at hi, fun i b hi => by simp at hi, fun i o ho => by simp at ho, hG.1, hG.2, fun _ => Nat.le_refl _⟩
  have hr : Rel A E ⟨argSlots 0 args, []⟩ a w := by
    refine ⟨hE, rfl, rfl, fun t => ?_⟩
    show (look (argSlots 0 args) t).rel E [] _
    rw [look_args, if_pos (Nat.zero_le _), Nat.sub_zero]
    cases hx : args[t]? with
    | none => trivial
    | some x =>
      have htl := lt_of_get hx
      have hv := hrel t x hx
      have : a.tmps.getD t undef = vs.getD t undef := by
        simp only [a, Array.getD_eq_getD_getElem?]
        rw [Array.getElem?_append_left (by omega)]
      rw [this]
      exact DV.rel_av (E := E) hv
  have hsz : a.tmps.size = fn.ntmps := by simp [a]; omega
  refine calls_of_wp hf hb (wp_mono (awp_sim hK hmix c ⟨argSlots 0 args, []⟩ _ a E hok ha ⟨rfl, hr⟩ hsz) fun e a' w' ⟨ex, s', E', ev, hrel', _, he, hq⟩ => ?_)
  have hw := hrel'.world
  subst hw
  have fin : resAll X s' fn.results.toList = some r → a'.defers = [] ∧ ∃ v, (results fn a'.tmps).run X.P E'.w = .ok v E'.w ∧ ∃ u, Ending.returned v = .returned u ∧ RRel E'.w (newF w F E'.w) u r ∧ Below w.heap.size w E'.w ∧ (X.G.dr = true → w.drawn ≤ E'.w.drawn) := by
    intro hres
    obtain ⟨vs', hv, hl, hx⟩ := results_run hrel' _ _ hres
    have hold : ∀ b o, E'.F b o → newF w F E'.w b o := fun b o hfr => by
      by_cases hbw : b < w.heap.size
      · exact .inl (hrel'.env.old b o hbw hfr)
      · exact .inr ⟨by omega, hrel'.env.lt b o hfr⟩
    have hx' : ∀ (j : Nat) (x : PA), r[j]? = some x → ∃ u, vs'[j]? = some u ∧ x.rel E'.w (newF w F E'.w) u := fun j x hj => by
      obtain ⟨u, hu, hru⟩ := hx j x hj
      refine ⟨u, hu, ?_⟩
      cases x with
      | c d => exact Rd.mono hru hold (fun _ _ _ => rfl)
      | agg xs =>
        obtain ⟨us, rfl, h1, h2⟩ := hru
        exact ⟨us, rfl, h1, fun j x hj => let ⟨y, hy, hry⟩ := h2 j x hj; ⟨y, hy, hry.mono hold (fun _ _ _ => rfl)⟩⟩
    have hrun : (results fn a'.tmps).run X.P E'.w = .ok (match vs' with | [v] => v | l => .tuple l.toArray) E'.w := by
      have hm' : (fn.results.mapM (resSem a'.tmps)).run X.P E'.w = .ok vs'.toArray E'.w := by
        rw [Array.mapM_eq_mapM_toList]
        simp only [Sem.run_map, hv, Result.andThen_ok]
      rw [results_eq]
      simp only [Sem.run_bind, hm', Result.andThen_ok]
      cases vs' with
      | nil => simp
      | cons v l =>
        cases l with
        | nil => simp
        | cons v2 l => simp
    refine ⟨hrel'.defers, _, hrun, _, rfl, ?_, hrel'.env.below, hrel'.env.drw⟩
    unfold RRel
    split
    · obtain ⟨u, hu, hru⟩ := hx' 0 _ rfl
      cases vs' with
      | nil => cases hu
      | cons v l =>
        have : l = [] := List.eq_nil_of_length_eq_zero (by simpa using hl)
        subst this
        cases hu
        exact hru
    · rename_i hne
      refine ⟨vs', ?_, hl, hx'⟩
      cases vs' with
      | nil => rfl
      | cons v l =>
        cases l with
        | nil =>
          cases r with
          | nil => simp at hl
          | cons x r =>
            have : r = [] := List.eq_nil_of_length_eq_zero (by simpa using hl.symm)
            subst this
            exact absurd rfl (hne x)
        | cons v2 l => rfl
  cases ex <;> simp only [Rets] at hq
  · have := exrel_normal he
    subst this
    exact fin hq
  · cases e <;> first | exact he.elim | exact fin hq

end Go.Ab

/-
  How a function is evaluated: the code as equations for simp, and the tables of contracts.
-/
namespace Go.Ab
open Go.RowKit

abbrev Tab := List (FuncId × (List PA → Option (List PA)))

def tabM : Tab → FuncId → Option (List AV → Option AV)
  | [], _ => none
  | (k, m) :: r, f => if k = f then some (pureM m) else tabM r f

def ctx (P : Program) (G : Gl) (tab : Tab) : Ctx := ⟨P, G, tabM tab, fun _ _ _ => none, fun _ => none, none, fun _ => false, fun _ => false⟩

theorem ctx_P {P : Program} {G : Gl} {tab : Tab} : (ctx P G tab).P = P := rfl
theorem ctx_G {P : Program} {G : Gl} {tab : Tab} : (ctx P G tab).G = G := rfl
theorem ctx_E {P : Program} {G : Gl} {tab : Tab} {i : Nat} : (ctx P G tab).E i = false := rfl
theorem ctx_U {P : Program} {G : Gl} {tab : Tab} {e : TypeId} : (ctx P G tab).U e = false := rfl
theorem ctx_B {P : Program} {G : Gl} {tab : Tab} : (ctx P G tab).B = none := rfl
theorem ctx_N {P : Program} {G : Gl} {tab : Tab} {f : FuncId} : (ctx P G tab).N f = none := rfl
theorem ctx_M {P : Program} {G : Gl} {tab : Tab} {f : FuncId} : (ctx P G tab).M f = tabM tab f := rfl

inductive AllOk (P : Program) (G : Gl) : Tab → Prop where
  | nil : AllOk P G []
  | cons {f : FuncId} {m : List PA → Option (List PA)} {r : Tab} (h : PureC P G f m) (hr : AllOk P G r) : AllOk P G ((f, m) :: r)

theorem AllOk.get {P : Program} {G : Gl} {tab : Tab} (h : AllOk P G tab) {f : FuncId} {g : List AV → Option AV} (hg : tabM tab f = some g) : ∃ m, g = pureM m ∧ PureC P G f m := by
  induction h with
  | nil => cases hg
  | cons h hr ih =>
    simp only [tabM] at hg
    split at hg
    · rename_i he
      subst he
      cases hg
      exact ⟨_, rfl, h⟩
    · exact ih hg

theorem AllOk.kok {P : Program} {G : Gl} {tab : Tab} (h : AllOk P G tab) : KOk (ctx P G tab) := by
  intro f args hp out ho
  simp only [hdl, ctx_M] at ho
  cases hm : tabM tab f with
  | none => simp [hm, ctx] at ho
  | some g =>
    simp only [hm, Option.map_eq_some_iff] at ho
    obtain ⟨v, hv, rfl⟩ := ho
    obtain ⟨m, rfl, hp⟩ := h.get hm
    exact fok_of_pure hp hv

/-! ### Regions as equations -/

def goOp (X : Ctx) (ops : Array Oper) (dst : Option Nat) (r : List Oper) (t : List (Nat × AV)) : Option OpR → Option (Ex × S)
  | none => none
  | some (.val v h) => runOps X ops r ((⟨t, h⟩ : S).putO dst v)
  | some (.skip h) => runOps X ops r ((⟨t, h⟩ : S).putO dst .top)
  | some (.pan x h) => some (.pan x, ⟨t, h⟩)

def goOn (X : Ctx) (ops : Array Oper) (o : Oper) (r : List Oper) (t : List (Nat × AV)) (h : Hp) : Option Bool → Option (Ex × S)
  | none => none
  | some true => goOp X ops o.dst r t (opR X (X.ev ⟨t, h⟩) h o)
  | some false => runOps X ops r ((⟨t, h⟩ : S).putO o.dst (.tup []))

theorem runOps_cons (X : Ctx) (ops : Array Oper) (o : Oper) (r : List Oper) (t : List (Nat × AV)) (h : Hp) :
    runOps X ops (o :: r) ⟨t, h⟩ = goOn X ops o r t h (wantA ops o ⟨t, h⟩) := by
  simp only [runOps]
  cases wantA ops o ⟨t, h⟩ with
  | none => rfl
  | some b =>
    cases b with
    | false => rfl
    | true =>
      simp only [Option.bind_some, if_true, goOn, stepA, opA]
      cases opR X (X.ev ⟨t, h⟩) h o with
      | none => rfl
      | some u => cases u <;> rfl

theorem runOps_nil (X : Ctx) (ops : Array Oper) (t : List (Nat × AV)) (h : Hp) : runOps X ops [] ⟨t, h⟩ = some (.normal, ⟨t, h⟩) := rfl

@[congr] theorem goOn_congr {X : Ctx} {ops : Array Oper} {o : Oper} {r : List Oper} {t : List (Nat × AV)} {h : Hp} {a b : Option Bool} (e : a = b) : goOn X ops o r t h a = goOn X ops o r t h b := by rw [e]
@[congr] theorem goOp_congr {X : Ctx} {ops : Array Oper} {d : Option Nat} {r : List Oper} {t : List (Nat × AV)} {a b : Option OpR} (e : a = b) : goOp X ops d r t a = goOp X ops d r t b := by rw [e]
@[congr] theorem runOps_congr {X : Ctx} {ops : Array Oper} {l : List Oper} {s s' : S} (e : s = s') : runOps X ops l s = runOps X ops l s' := by rw [e]

theorem goOn_true {X : Ctx} {ops : Array Oper} {op : Op} {dst : Option Nat} {ty : TypeId} {pos : String} {after : Array Edge} {guard : Option (Nat × Bool)} {r : List Oper} {t : List (Nat × AV)} {h : Hp} : goOn X ops ⟨dst, op, ty, pos, after, guard⟩ r t h (some true) = goOp X ops dst r t (opR X (X.ev ⟨t, h⟩) h ⟨dst, op, ty, pos, after, guard⟩) := rfl
theorem goOn_false {X : Ctx} {ops : Array Oper} {op : Op} {dst : Option Nat} {ty : TypeId} {pos : String} {after : Array Edge} {guard : Option (Nat × Bool)} {r : List Oper} {t : List (Nat × AV)} {h : Hp} : goOn X ops ⟨dst, op, ty, pos, after, guard⟩ r t h (some false) = runOps X ops r ((⟨t, h⟩ : S).putO dst (.tup [])) := rfl
theorem goOp_some {X : Ctx} {ops : Array Oper} {d : Nat} {r : List Oper} {t : List (Nat × AV)} {v : AV} {h : Hp} : goOp X ops (some d) r t (some (.val v h)) = runOps X ops r ⟨(d, v) :: t, h⟩ := rfl
theorem goOp_none {X : Ctx} {ops : Array Oper} {r : List Oper} {t : List (Nat × AV)} {v : AV} {h : Hp} : goOp X ops none r t (some (.val v h)) = runOps X ops r ⟨t, h⟩ := rfl
theorem goOp_skip {X : Ctx} {ops : Array Oper} {r : List Oper} {t : List (Nat × AV)} {h : Hp} : goOp X ops none r t (some (.skip h)) = runOps X ops r ⟨t, h⟩ := rfl
theorem goOp_skip' {X : Ctx} {ops : Array Oper} {d : Nat} {r : List Oper} {t : List (Nat × AV)} {h : Hp} : goOp X ops (some d) r t (some (.skip h)) = runOps X ops r ⟨(d, .top) :: t, h⟩ := rfl
theorem goOp_pan {X : Ctx} {ops : Array Oper} {d : Option Nat} {r : List Oper} {t : List (Nat × AV)} {x : C1} {h : Hp} : goOp X ops d r t (some (.pan x h)) = some (.pan x, ⟨t, h⟩) := rfl

theorem putO_some {t : List (Nat × AV)} {h : Hp} {d : Nat} {v : AV} : (⟨t, h⟩ : S).putO (some d) v = ⟨(d, v) :: t, h⟩ := rfl
theorem putO_none {t : List (Nat × AV)} {h : Hp} {v : AV} : (⟨t, h⟩ : S).putO none v = ⟨t, h⟩ := rfl

/-- What stands behind a region. -/
def fin (d : Bool) (Q : Ex → S → Prop) : Option (Ex × S) → Prop
  | none => False
  | some (.normal, s) => Q .normal s
  | some (ex, s) => d = false ∧ Q ex s

/-- What stands behind the first of two. -/
def seqQ (X : Ctx) (y : Code) (Q : Ex → S → Prop) : Ex → S → Prop
  | .normal, s => awp X y s Q
  | ex, s => Q ex s

/-- A branch. -/
def cnd (v : AV) (A B : Prop) : Prop := ∃ b, bIs v b ∧ (b ≠ some false → A) ∧ (b ≠ some true → B)

@[congr] theorem awp_congr {X : Ctx} {c : Code} {s : S} {Q : Ex → S → Prop} : awp X c s Q = awp X c s Q := rfl
@[congr] theorem seqQ_congr {X : Ctx} {c : Code} {e : Ex} {s : S} {Q : Ex → S → Prop} : seqQ X c Q e s = seqQ X c Q e s := rfl
@[congr] theorem blk_congr {n i : Nat} {e : Ex} {s : S} {Q : Ex → S → Prop} : blk n i Q e s = blk n i Q e s := rfl
@[congr] theorem fin_congr {d : Bool} {Q : Ex → S → Prop} {a b : Option (Ex × S)} (e : a = b) : fin d Q a = fin d Q b := by rw [e]
@[congr] theorem cnd_congr {v v' : AV} {A B : Prop} (e : v = v') : cnd v A B = cnd v' A B := by rw [e]

theorem anyA_mono {X : Ctx} {md : Region.Mode} {ops : Array Oper} {Q Q' : S → Prop} (hQ : ∀ s, Q s → Q' s) : ∀ (n : Nat) (listed : Array Bool) (s : S), anyA X md ops Q n listed s → anyA X md ops Q' n listed s
  | 0, _, _, ⟨h1, h2⟩ => ⟨h1, hQ _ h2⟩
  | n + 1, _, _, ⟨h1, h2⟩ => ⟨fun h => hQ _ (h1 h), fun i hi => opAt_mono (fun s hs => anyA_mono hQ n _ s hs) (h2 i hi)⟩
theorem awp_region {X : Ctx} {i : Nat} {ops : Array Oper} {d : Bool} {s : S} {Q : Ex → S → Prop} (hE : (d && X.E i) = false) : awp X (.region i ops d) s Q = fin d Q (runOps X ops ops.toList s) := by
  apply propext
  simp only [awp, hE, Bool.false_eq_true, if_false]
  constructor
  · rintro ⟨ex, s', h, hd, hq⟩
    rw [h]
    cases ex with
    | normal => exact hq
    | _ => cases d <;> first | exact ⟨rfl, hq⟩ | exact absurd (hd rfl) (by simp)
  · intro h
    cases hr : runOps X ops ops.toList s with
    | none => rw [hr] at h; exact h.elim
    | some p =>
      obtain ⟨ex, s'⟩ := p
      rw [hr] at h
      refine ⟨ex, s', rfl, ?_, ?_⟩
      · intro hd
        subst hd
        cases ex with
        | normal => rfl
        | _ => exact absurd h.1 (by simp)
      · cases ex with
        | normal => exact h
        | _ => exact h.2

theorem awp_region' {X : Ctx} {i : Nat} {l : List Oper} {d : Bool} {t : List (Nat × AV)} {h : Hp} {Q : Ex → S → Prop} (hE : (d && X.E i) = false) : awp X (.region i l.toArray d) ⟨t, h⟩ Q = fin d Q (runOps X l.toArray l ⟨t, h⟩) := awp_region hE
theorem awp_seq {X : Ctx} {x y : Code} {t : List (Nat × AV)} {h : Hp} {Q : Ex → S → Prop} : awp X (.seq x y) ⟨t, h⟩ Q = awp X x ⟨t, h⟩ (seqQ X y Q) := by
  simp only [awp]
  congr 1
  funext ex s'
  cases ex <;> rfl
theorem awp_skip {X : Ctx} {s : S} {Q : Ex → S → Prop} : awp X .skip s Q = Q .normal s := rfl
theorem awp_exit {X : Ctx} {i : Nat} {s : S} {Q : Ex → S → Prop} : awp X (.exit i) s Q = Q (.exit i) s := rfl
theorem awp_ret {X : Ctx} {s : S} {Q : Ex → S → Prop} : awp X .ret s Q = Q .ret s := rfl
theorem awp_block {X : Ctx} {i : Nat} {c : Code} {t : List (Nat × AV)} {h : Hp} {Q : Ex → S → Prop} : awp X (.block i c) ⟨t, h⟩ Q = awp X c ⟨t, h⟩ (blk h.length i Q) := rfl
theorem awp_cond {X : Ctx} {c : Operand} {x y : Code} {t : List (Nat × AV)} {h : Hp} {Q : Ex → S → Prop} : awp X (.cond c x y) ⟨t, h⟩ Q = cnd (X.ev ⟨t, h⟩ c) (awp X x ⟨t, h⟩ Q) (awp X y ⟨t, h⟩ Q) := rfl

theorem fin_normal {d : Bool} {Q : Ex → S → Prop} {s : S} : fin d Q (some (.normal, s)) = Q .normal s := rfl
theorem fin_pan {d : Bool} {Q : Ex → S → Prop} {x : C1} {s : S} : fin d Q (some (.pan x, s)) = (d = false ∧ Q (.pan x) s) := rfl
theorem seqQ_normal {X : Ctx} {y : Code} {Q : Ex → S → Prop} {s : S} : seqQ X y Q .normal s = awp X y s Q := rfl
theorem seqQ_ret {X : Ctx} {y : Code} {Q : Ex → S → Prop} {s : S} : seqQ X y Q .ret s = Q .ret s := rfl
theorem seqQ_exit {X : Ctx} {y : Code} {Q : Ex → S → Prop} {i : Nat} {s : S} : seqQ X y Q (.exit i) s = Q (.exit i) s := rfl
theorem seqQ_pan {X : Ctx} {y : Code} {Q : Ex → S → Prop} {x : C1} {s : S} : seqQ X y Q (.pan x) s = Q (.pan x) s := rfl
theorem blk_normal {n i : Nat} {Q : Ex → S → Prop} {s : S} : blk n i Q .normal s = Q .normal s := rfl
theorem blk_ret {n i : Nat} {Q : Ex → S → Prop} {s : S} : blk n i Q .ret s = Q .ret s := rfl
theorem blk_pan {n i : Nat} {Q : Ex → S → Prop} {x : C1} {s : S} : blk n i Q (.pan x) s = Q (.pan x) s := rfl
theorem Wk.refl {n : Nat} {s : S} : Wk n s s := fun _ E _ _ hn h => ⟨E, Evo.refl hn, h⟩
theorem blk_exit_id {n i : Nat} {Q : Ex → S → Prop} {s : S} (h : Q .normal s) : blk n i Q (.exit i) s := by
  simp only [blk, if_true]
  exact ⟨s, Wk.refl, h⟩
theorem blk_exit_wk {n i : Nat} {Q : Ex → S → Prop} {s s' : S} (hw : Wk n s s') (h : Q .normal s') : blk n i Q (.exit i) s := by
  simp only [blk, if_true]
  exact ⟨s', hw, h⟩
theorem blk_exit_ne {n i j : Nat} (hn : (j = i) = False) {Q : Ex → S → Prop} {s : S} : blk n i Q (.exit j) s = Q (.exit j) s := by simp [blk, hn]
theorem cnd_b {b : Bool} {A B : Prop} : cnd (.b b) A B = ((b = true → A) ∧ (b = false → B)) := by
  apply propext
  constructor
  · rintro ⟨b', h, h1, h2⟩
    cases b' with
    | none => cases h
    | some b' =>
      have h : AV.b b = AV.b b' := h
      cases h
      exact ⟨fun h => h1 (by rw [h]; simp), fun h => h2 (by rw [h]; simp)⟩
  · rintro ⟨h1, h2⟩
    refine ⟨some b, rfl, fun h => h1 ?_, fun h => h2 ?_⟩
    · cases b
      · exact absurd rfl h
      · rfl
    · cases b
      · rfl
      · exact absurd rfl h
theorem cnd_ub {A B : Prop} : cnd (.v (.c .ub)) A B = (A ∧ B) := by
  apply propext
  constructor
  · rintro ⟨b', h, h1, h2⟩
    cases b' with
    | none => exact ⟨h1 (by simp), h2 (by simp)⟩
    | some b' => cases h
  · rintro ⟨h1, h2⟩
    exact ⟨none, rfl, fun _ => h1, fun _ => h2⟩
theorem cnd_true {A B : Prop} : cnd (.v (.c (.d (.bool true)))) A B = A := by rw [cnd_b]; simp
theorem cnd_false {A B : Prop} : cnd (.v (.c (.d (.bool false)))) A B = B := by rw [cnd_b]; simp
theorem cnd_dec {p : Prop} [Decidable p] {A B : Prop} : cnd (.v (.c (.d (.bool (decide p))))) A B = ((p → A) ∧ (¬ p → B)) := by rw [cnd_b]; simp

/-- A branch whose condition is some bool. -/
theorem cnd_bool {b : Bool} {A B : Prop} : cnd (.v (.c (.d (.bool b)))) A B = ((b = true → A) ∧ (b = false → B)) := cnd_b

/-- Behind what two orders have in common. -/
def twoQ (X : Ctx) (ops : Array Oper) (la lb : List Nat) (Q : Ex → S → Prop) : Ex → S → Prop
  | .normal, s => fin true Q (runOps X ops (opsOf ops la) s) ∧ fin true Q (runOps X ops (opsOf ops lb) s)
  | _, _ => False
@[congr] theorem twoQ_congr {X : Ctx} {ops : Array Oper} {la lb : List Nat} {Q : Ex → S → Prop} {e : Ex} {s : S} : twoQ X ops la lb Q e s = twoQ X ops la lb Q e s := rfl
theorem fin_true {Q : Ex → S → Prop} {r : Option (Ex × S)} (h : fin true Q r) : ∃ s, r = some (.normal, s) ∧ Q .normal s := by
  cases r with
  | none => exact h.elim
  | some p =>
    obtain ⟨ex, s⟩ := p
    cases ex with
    | normal => exact ⟨s, rfl, h⟩
    | _ => exact absurd h.1 (by simp)
/-- A region of which two operations may come one way or the other. -/
theorem awp_two {X : Ctx} {i : Nat} {l : List Oper} {t : List (Nat × AV)} {h : Hp} {Q : Ex → S → Prop} (l0 : List Nat) (a : Nat) (la : List Nat) (b : Nat) (lb : List Nat) (hE : X.E i = true) (hok : twoOk X l.toArray l0 a la b lb = true)
    (h1 : fin true (twoQ X l.toArray (a :: la) (b :: lb) Q) (runOps X l.toArray (opsOf l.toArray l0) ⟨t, h⟩)) : awp X (.region i l.toArray true) ⟨t, h⟩ Q := by
  obtain ⟨s0, h0, ha, hb⟩ := fin_true h1
  obtain ⟨sa, ha, qa⟩ := fin_true ha
  obtain ⟨sb, hb, qb⟩ := fin_true hb
  simp only [awp, hE, Bool.and_self, if_true]
  have := anyA_two (Q := fun s1 => ∃ s', Eqv s' s1 ∧ Q .normal s') (fun s1 s2 h12 ⟨s3, h1, h3⟩ => ⟨s3, h1.trans h12, h3⟩) hok h0 ha ⟨sa, Eqv.refl _, qa⟩ hb ⟨sb, Eqv.refl _, qb⟩
  simpa using this
def opsO (ops : Array Oper) (r : List Nat) : Option Oper → List Oper
  | some o => o :: opsOf ops r
  | none => opsOf ops r
theorem opsOf_nil {ops : Array Oper} : opsOf ops [] = [] := rfl
theorem opsOf_cons {l : List Oper} {k : Nat} {r : List Nat} : opsOf l.toArray (k :: r) = opsO l.toArray r l[k]? := by
  simp only [opsOf, opsO, List.getElem?_toArray]
  all_goals (cases l[k]? <;> rfl)
theorem opsO_some {ops : Array Oper} {r : List Nat} {o : Oper} : opsO ops r (some o) = o :: opsOf ops r := rfl
theorem twoQ_normal {X : Ctx} {ops : Array Oper} {la lb : List Nat} {Q : Ex → S → Prop} {s : S} : twoQ X ops la lb Q .normal s = (fin true Q (runOps X ops (opsOf ops la) s) ∧ fin true Q (runOps X ops (opsOf ops lb) s)) := rfl
/-- For simp: two orders. -/
theorem TW : type_of% @opsOf_nil ∧ type_of% @opsOf_cons ∧ type_of% @opsO_some ∧ type_of% @twoQ_normal := ⟨@opsOf_nil, @opsOf_cons, @opsO_some, @twoQ_normal⟩

theorem awp_mono {X : Ctx} : ∀ (c : Code) (s : S) (Q Q' : Ex → S → Prop), (∀ ex s, Q ex s → Q' ex s) → awp X c s Q → awp X c s Q'
  | .skip, s, Q, Q', h, ha => h _ _ ha
  | .exit _, s, Q, Q', h, ha => h _ _ ha
  | .ret, s, Q, Q', h, ha => h _ _ ha
  | .region i ops d, s, Q, Q', h, ha => by
    simp only [awp] at ha ⊢
    split
    · rename_i hc
      rw [if_pos hc] at ha
      exact anyA_mono (fun s1 ⟨s2, h1, h2⟩ => ⟨s2, h1, h _ _ h2⟩) _ _ _ ha
    · rename_i hc
      rw [if_neg hc] at ha
      obtain ⟨ex, s', h1, h2, h3⟩ := ha
      exact ⟨ex, s', h1, h2, h _ _ h3⟩
  | .seq x y, s, Q, Q', h, ha => awp_mono x s _ _ (fun ex s' hq => by cases ex <;> first | exact awp_mono y s' _ _ h hq | exact h _ _ hq) ha
  | .cond _ x y, s, Q, Q', h, ⟨b, h1, h2, h3⟩ => ⟨b, h1, fun hb => awp_mono x s _ _ h (h2 hb), fun hb => awp_mono y s _ _ h (h3 hb)⟩
  | .block i c, s, Q, Q', h, ha => awp_mono c s _ _ (fun ex s' hq => by
      cases ex with
      | exit j =>
        simp only [blk] at hq ⊢
        split at hq
        · rename_i hj
          rw [if_pos hj]
          obtain ⟨s2, h1, h2⟩ := hq
          exact ⟨s2, h1, h _ _ h2⟩
        · rename_i hj
          rw [if_neg hj]
          exact h _ _ hq
      | _ => exact h _ _ hq) ha
  | .loop c, s, Q, Q', h, ⟨σ, I, sta, μ, h1, h2⟩ => ⟨σ, I, sta, μ, h1, fun x hx => awp_mono c _ _ _ (fun ex s' hq => by
      cases ex with
      | normal => exact hq
      | _ => exact h _ _ hq) (h2 x hx)⟩
  | .rangeFunc _ _ _ _, _, _, _, _, ha => ha.elim
  | .scope _, _, _, _, _, ha => ha.elim
  | .label _, _, _, _, _, ha => ha.elim
  | .goto _, _, _, _, _, ha => ha.elim
  | .refuse _, _, _, _, _, ha => ha.elim

end Go.Ab
