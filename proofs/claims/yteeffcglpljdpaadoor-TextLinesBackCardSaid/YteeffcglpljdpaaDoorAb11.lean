/-
  Regions in whatever order; then code: an abstract weakest precondition, proved sound.
-/
import Derived.Test.YteeffcglpljdpaaDoorAb10
set_option linter.unusedSimpArgs false
set_option linter.unusedVariables false
namespace Go.Ab
open Go.RowKit

section
variable {X : Ctx} {A : Actn} {md : Region.Mode} {ops : Array Oper}

/-- Operation number i comes up. -/
def opAt (X : Ctx) (ops : Array Oper) (i : Nat) (K : S → Prop) (s : S) : Prop :=
  match ops[i]? with
  | none => K s
  | some o => ∃ s', st X ops o s = some s' ∧ K s'

def anyA (X : Ctx) (md : Region.Mode) (ops : Array Oper) (Q : S → Prop) : Nat → Array Bool → S → Prop
  | 0, listed, s => Region.ready md ops listed = [] ∧ Q s
  | fuel + 1, listed, s =>
    (Region.ready md ops listed = [] → Q s) ∧ ∀ i ∈ Region.ready md ops listed, opAt X ops i (anyA X md ops Q fuel (listed.setIfInBounds i true)) s

theorem opAt_eqv {i : Nat} {K : S → Prop} {s s' : S} (hK : ∀ s s', Eqv s s' → K s → K s') (h : Eqv s s') (ho : opAt X ops i K s) : opAt X ops i K s' := by
  unfold opAt at *
  split at ho
  · exact hK _ _ h ho
  · obtain ⟨s1, h1, h2⟩ := ho
    obtain ⟨s1', h3, h4⟩ := st_eqv h h1
    exact ⟨s1', h3, hK _ _ h4 h2⟩

theorem opAt_mono {i : Nat} {K K' : S → Prop} {s : S} (hK : ∀ s, K s → K' s) (ho : opAt X ops i K s) : opAt X ops i K' s := by
  unfold opAt at *
  split at ho
  · exact hK _ ho
  · obtain ⟨s1, h1, h2⟩ := ho
    exact ⟨s1, h1, hK _ h2⟩

theorem anyA_eqv {Q : S → Prop} (hQ : ∀ s s', Eqv s s' → Q s → Q s') : ∀ (fuel : Nat) (listed : Array Bool) (s s' : S), Eqv s s' → anyA X md ops Q fuel listed s → anyA X md ops Q fuel listed s'
  | 0, _, _, _, h, ⟨h1, h2⟩ => ⟨h1, hQ _ _ h h2⟩
  | fuel + 1, _, _, _, h, ⟨h1, h2⟩ => ⟨fun h0 => hQ _ _ h (h1 h0), fun i hi => opAt_eqv (fun _ _ => anyA_eqv hQ fuel _ _ _) h (h2 i hi)⟩

/-- An operation that may come up now may be taken first. -/
theorem anyA_first {Q : S → Prop} (hQ : ∀ s s', Eqv s s' → Q s → Q s') {i : Nat} {oi : Oper} (hi : ops[i]? = some oi) :
    ∀ (fuel : Nat) (listed : Array Bool) (s s1 : S),
      (∀ j oj, ops[j]? = some oj → j ≠ i → listed.getD j true = false → (∀ e ∈ oj.after, Region.binds md e = true → e.on ≠ i) → oi.apart ops oj = true ∧ commute X oi oj = true) →
      i ∈ Region.ready md ops listed → st X ops oi s = some s1 →
      anyA X md ops Q fuel (listed.setIfInBounds i true) s1 → anyA X md ops Q (fuel + 1) listed s := by
  intro fuel
  induction fuel with
  | zero =>
    intro listed s s1 _ hr hy H
    refine ⟨fun h => (by rw [h] at hr; cases hr), fun j hj => ?_⟩
    by_cases hji : j = i
    · subst hji
      unfold opAt
      rw [hi]
      exact ⟨s1, hy, H⟩
    · have := ready_mono hj hji
      rw [H.1] at this
      cases this
  | succ fuel ih =>
    intro listed s s1 hfree hr hy H
    refine ⟨fun h => (by rw [h] at hr; cases hr), fun j hj => ?_⟩
    by_cases hji : j = i
    · subst hji
      unfold opAt
      rw [hi]
      exact ⟨s1, hy, H⟩
    · have h1 := H.2 j (ready_mono hj hji)
      obtain ⟨hjun, oj, hoj, hall⟩ := mem_ready.1 hj
      have hnot : ∀ e ∈ oj.after, Region.binds md e = true → e.on ≠ i := fun e he hb heq => by
        have h1 := hall e he hb
        have h0 := (mem_ready.1 hr).1
        rw [heq] at h1
        rcases Nat.lt_or_ge i listed.size with h' | h'
        · simp [h'] at h0 h1; rw [h0] at h1; cases h1
        · simp [Array.getElem?_eq_none h'] at h1
      unfold opAt at h1 ⊢
      rw [hoj] at h1 ⊢
      obtain ⟨s12, h2, h3⟩ := h1
      obtain ⟨hap, hco⟩ := hfree j oj hoj hji hjun hnot
      obtain ⟨s2, s21, h4, h5, h6⟩ := st_comm hap hco hy h2
      have hfree' : ∀ k ok, ops[k]? = some ok → k ≠ i → (listed.setIfInBounds j true).getD k true = false →
          (∀ e ∈ ok.after, Region.binds md e = true → e.on ≠ i) → oi.apart ops ok = true ∧ commute X oi ok = true := fun k ok hk hki hun hno => by
        refine hfree k ok hk hki ?_ hno
        by_cases hjk : j = k
        · subst hjk; exact hjun
        · rw [getD_set_ne true hjk] at hun; exact hun
      refine ⟨s2, h4, ih (listed.setIfInBounds j true) s2 s21 hfree' (ready_mono hr (Ne.symm hji)) h5 ?_⟩
      rw [Array.setIfInBounds_comm _ _ hji]
      exact anyA_eqv hQ _ _ _ _ h6 h3

/-- Whoever has not come up and does not wait for i has nothing to do with it. -/
def freeA (X : Ctx) (md : Region.Mode) (ops : Array Oper) (listed : Array Bool) (i : Nat) : Bool :=
  (List.range ops.size).all fun j =>
    match ops[i]?, ops[j]? with
    | some oi, some oj => j == i || listed.getD j true || oj.after.any (fun e => Region.binds md e && e.on == i) || (oi.apart ops oj && commute X oi oj)
    | _, _ => true

theorem freeA_spec {i : Nat} {oi : Oper} {listed : Array Bool} (hi : ops[i]? = some oi) (h : freeA X md ops listed i = true) (j : Nat) (oj : Oper) (hj : ops[j]? = some oj) (hji : j ≠ i)
    (hun : listed.getD j true = false) (hno : ∀ e ∈ oj.after, Region.binds md e = true → e.on ≠ i) : oi.apart ops oj = true ∧ commute X oi oj = true := by
  unfold freeA at h
  rw [List.all_eq_true] at h
  have hjl : j < ops.size := (Array.getElem?_eq_some_iff.1 hj).1
  have := h j (List.mem_range.2 hjl)
  simp only [hi, hj, Bool.or_eq_true, beq_iff_eq, Bool.and_eq_true] at this
  rcases this with ((h1 | h1) | h1) | h1
  · exact absurd h1 hji
  · rw [hun] at h1; cases h1
  · rw [Array.any_eq_true] at h1
    obtain ⟨k, hk, h2⟩ := h1
    simp only [Bool.and_eq_true, beq_iff_eq] at h2
    exact absurd h2.2 (hno _ (Array.getElem_mem hk) h2.1)
  · exact h1

def lexA (X : Ctx) (md : Region.Mode) (ops : Array Oper) : Nat → Nat → Array Bool → Bool
  | 0, _, listed => (Region.ready md ops listed).isEmpty
  | fuel + 1, k, listed => (Region.ready md ops listed).contains k && freeA X md ops listed k && lexA X md ops fuel (k + 1) (listed.setIfInBounds k true)

theorem anyA_lex {Q : S → Prop} (hQ : ∀ s s', Eqv s s' → Q s → Q s') : ∀ (l : List Oper) (k : Nat) (listed : Array Bool) (s s' : S), (∀ j, l[j]? = ops[k + j]?) →
    lexA X md ops l.length k listed = true → runOps X ops l s = some (.normal, s') → Q s' → anyA X md ops Q l.length listed s
  | [], _, _, s, s', _, hB, h, hq => by
    simp only [runOps, Option.some.injEq, Prod.mk.injEq, true_and] at h
    subst h
    exact ⟨by simpa [lexA] using hB, hq⟩
  | o :: l, k, listed, s, s', hl, hB, h, hq => by
    have h0 : ops[k]? = some o := by simpa using (hl 0).symm
    simp only [List.length_cons, lexA, Bool.and_eq_true] at hB
    obtain ⟨⟨hr, hf⟩, hB'⟩ := hB
    have hst : ∃ s1, st X ops o s = some s1 ∧ runOps X ops l s1 = some (.normal, s') := by
      simp only [runOps, Option.bind_eq_some_iff] at h
      obtain ⟨w, hw, h⟩ := h
      cases w with
      | false =>
        simp only [Bool.false_eq_true, if_false] at h
        exact ⟨_, by simp [st, hw], h⟩
      | true =>
        simp only [if_true, Option.bind_eq_some_iff] at h
        obtain ⟨⟨ex, s1⟩, h1, h⟩ := h
        cases ex <;> simp only [Option.some.injEq, Prod.mk.injEq] at h <;> try (cases h.1; done)
        refine ⟨s1, ?_, h⟩
        unfold stepA at h1
        unfold st
        rw [hw]
        simp only [Option.bind_some, if_true]
        cases hop : opA X s o with
        | none => simp [hop] at h1
        | some out =>
          simp only [hop, Option.map_some, Option.some.injEq, Option.bind_some] at h1 ⊢
          cases out <;> simp only [Prod.mk.injEq] at h1 <;> first | (obtain ⟨_, rfl⟩ := h1; rfl) | (cases h1.1)
    obtain ⟨s1, h1, h2⟩ := hst
    exact anyA_first hQ h0 l.length listed s s1 (freeA_spec h0 hf) (by simpa using hr) h1
      (anyA_lex hQ l (k + 1) _ s1 s' (fun j => by have := hl (j + 1); simpa [Nat.add_assoc, Nat.add_comm 1 j] using this) hB' h2 hq)

/-- Each order of the operations does what the abstract one does. -/
theorem anyA_sim (hK : KOk X) {Q : Exit → Act → World → Prop} {QA : S → Prop} {n m : Nat} {E0 : Env} {h0 : Hp} (hfit : ∀ (i : Nat) (o : Oper), ops[i]? = some o → ∀ t, o.dst = some t → t < m)
    (hQ : ∀ (s' : S) (a' : Act) (E' : Env), QA s' → Evo n E0 h0 E' s'.h → Rel A E' s' a' E'.w → a'.tmps.size = m → Q .normal a' E'.w) :
    ∀ (fuel : Nat) (listed : Array Bool) (s : S) (a : Act) (E : Env), Now X A E s a → Evo n E0 h0 E s.h → a.tmps.size = m → anyA X md ops QA fuel listed s → wpAny X.P md ops Q fuel listed a E.w
  | 0, listed, s, a, E, hn, ev, hm, ⟨h1, h2⟩ => ⟨h1, hQ s a E h2 ev hn.rel hm⟩
  | fuel + 1, listed, s, a, E, hn, ev, hm, ⟨h1, h2⟩ => by
    refine ⟨fun h => hQ s a E (h1 h) ev hn.rel hm, fun i hi => ?_⟩
    have := h2 i hi
    unfold opAt at this
    unfold wpOp
    split at this
    · rename_i ho
      rw [ho]
      exact anyA_sim hK hfit hQ fuel _ s a E hn ev hm this
    · rename_i o ho
      rw [ho]
      simp only
      obtain ⟨s', hs, h3⟩ := this
      obtain ⟨w, hw, hs⟩ := st_step hs
      rw [want_sim hn hw]
      cases w with
      | false =>
        simp only [Bool.false_eq_true, if_false] at hs ⊢
        subst hs
        have hrel := hn.rel.put (Evo.refl (Nat.le_refl _)) hn.rel.env (d := o.dst) (v := .tup []) (u := undef) (fun t ht => by rw [hm]; exact hfit i o ho t ht) skp_rel
        have hh : (s.putO o.dst (.tup [])).h = s.h := putO_h _ _ _
        exact anyA_sim hK hfit hQ fuel _ (s.putO o.dst (.tup [])) (a.put o.dst undef) E ⟨hn.G, hrel⟩ (by rw [hh]; exact ev) (by rw [put_size]; exact hm) h3
      | true =>
        simp only [if_true] at hs ⊢
        left
        refine oper_sim (n := s.h.length) hK hn (Nat.le_refl _) hs (fun t ht => by rw [hm]; exact hfit i o ho t ht) (fun _ a' E' ev' hrel hsz => ?_) (fun x he => by cases he)
        exact anyA_sim hK hfit hQ fuel _ s' a' E' ⟨hn.G, hrel⟩ (ev.trans ev' ev.len) (hsz.trans hm) h3

/-! ### Code -/

/-- The closed facts on a function's code: each slot is there; a region that draws its order may be taken in the text's. -/
def okCode (X : Ctx) (m : Nat) : Code → Bool
  | .region _ ops draw => ops.all (fun o => match o.dst with | some t => decide (t < m) | none => true) &&
      (!draw || lexA X .any ops ops.size 0 (Array.replicate ops.size false))
  | .seq x y => okCode X m x && okCode X m y
  | .cond _ x y => okCode X m x && okCode X m y
  | .block _ c => okCode X m c
  | .loop c => okCode X m c
  | .skip | .exit _ | .ret => true
  | _ => false

/-- s is as good as s', for what stands behind: whatever fits s fits s', the objects below n as they are. -/
def Wk (n : Nat) (s s' : S) : Prop := ∀ (A : Actn) (E : Env) (a : Act) (w : World), n ≤ s.h.length → Rel A E s a w → ∃ E', Evo n E s.h E' s'.h ∧ Rel A E' s' a w

/-- A loop, by a family of states and a measure. -/
def Lp (n : Nat) (step : S → (Ex → S → Prop) → Prop) (s : S) (Q : Ex → S → Prop) : Prop :=
  ∃ (σ : Type) (I : σ → Prop) (sta : σ → S) (μ : σ → Nat), (∃ x, Wk n s (sta x) ∧ I x) ∧
    ∀ x, I x → step (sta x) (fun ex s' => match ex with
      | .normal => ∃ y, Wk n s' (sta y) ∧ I y ∧ μ y < μ x
      | ex => Q ex s')

def blk (n id : Nat) (Q : Ex → S → Prop) : Ex → S → Prop
  | .exit i, s => if i = id then ∃ s', Wk n s s' ∧ Q .normal s' else Q (.exit i) s
  | e, s => Q e s

/-- The abstract weakest precondition. -/
def awp (X : Ctx) : Code → S → (Ex → S → Prop) → Prop
  | .skip, s, Q => Q .normal s
  | .region _ ops draw, s, Q => ∃ ex s', runOps X ops ops.toList s = some (ex, s') ∧ (draw = true → ex = .normal) ∧ Q ex s'
  | .seq x y, s, Q => awp X x s (fun ex s' => match ex with | .normal => awp X y s' Q | ex => Q ex s')
  | .cond c x y, s, Q => ∃ b, X.ev s c = .b b ∧ (b = true → awp X x s Q) ∧ (b = false → awp X y s Q)
  | .block id c, s, Q => awp X c s (blk s.h.length id Q)
  | .loop c, s, Q => Lp s.h.length (awp X c) s Q
  | .exit id, s, Q => Q (.exit id) s
  | .ret, s, Q => Q .ret s
  | _, _, _ => False

theorem Evo.weak {n m : Nat} {E E' : Env} {h h' : Hp} (ev : Evo m E h E' h') (hn : n ≤ m) : Evo n E h E' h' where
  frz := ev.frz
  same := ev.same
  keep id hid := ev.keep id (by omega)
  tok id hid := ev.tok id (by omega)
  len := Nat.le_trans hn ev.len

theorem exrel_normal {E : Env} {h : Hp} {e : Exit} (he : ExRel E h .normal e) : e = .normal := by cases e <;> first | rfl | exact he.elim
theorem exrel_normal' {E : Env} {h : Hp} {ex : Ex} (he : ExRel E h ex .normal) : ex = .normal := by cases ex <;> first | rfl | exact he.elim
theorem then_ne {K : Act → World → Prop} {Q : Exit → Act → World → Prop} {e : Exit} {a : Act} {w : World} (h : e ≠ .normal) : Exit.then K Q e a w = Q e a w := by cases e <;> first | rfl | exact absurd rfl h

/-- A loop whose rounds go down by a measure of something beside the frame. -/
theorem wp_loop_by {σ : Type} {P : Program} {c : Code} {Q : Exit → Act → World → Prop} {a : Act} {w : World} (R : σ → Act → World → Prop) (μ : σ → Nat) (x0 : σ) (h0 : R x0 a w)
    (round : ∀ x a w, R x a w → c.wp P (Exit.then (fun a' w' => ∃ y, R y a' w' ∧ μ y < μ x) Q) a w) : (Code.loop c).wp P Q a w := by
  intro b k cs
  have key : ∀ (n : Nat) (x : σ) (a : Act) (w : World), μ x < n → R x a w →
      ∃ e a' w', Q e a' w' ∧ Arrives P (lone (b.at a (.code c :: .inLoop c :: k)) cs w) b k cs e a' w' := by
    intro n
    induction n with
    | zero => intro x a w hx; omega
    | succ n ih =>
      intro x a w hx hR
      obtain ⟨e, a1, w1, hq, har⟩ := round x a w hR b (.inLoop c :: k) cs
      by_cases he : e = .normal
      · subst he
        obtain ⟨y, hy, hlt⟩ := hq
        obtain ⟨e2, a2, w2, hq2, har2⟩ := ih y a1 w1 (by omega) hy
        exact ⟨e2, a2, w2, hq2, .of_steps (Steps.trans har (.one step_inLoop)) har2⟩
      · rw [then_ne he] at hq
        exact ⟨e, a1, w1, hq, .pass (x := .inLoop c) rfl (fun _ _ => .inl he) har⟩
  obtain ⟨e, a', w', hq, har⟩ := key _ x0 a w (Nat.lt_succ_self _) h0
  exact ⟨e, a', w', hq, .of_steps (.one step_loop) har⟩

def Post (A : Actn) (n m : Nat) (E : Env) (h : Hp) (Q : Ex → S → Prop) : Exit → Act → World → Prop := fun e a' w' =>
  ∃ (ex : Ex) (s' : S) (E' : Env), Evo n E h E' s'.h ∧ Rel A E' s' a' w' ∧ a'.tmps.size = m ∧ ExRel E' s'.h ex e ∧ Q ex s'

theorem awp_sim (hK : KOk X) (hm : X.P.follows .mixedOrders = true) {m : Nat} : ∀ (c : Code) (s : S) (Q : Ex → S → Prop) (a : Act) (E : Env), okCode X m c = true → awp X c s Q → Now X A E s a → a.tmps.size = m →
    c.wp X.P (Post A s.h.length m E s.h Q) a E.w
  | .skip, s, Q, a, E, _, h, hn, hs => wp_skip ⟨.normal, s, E, Evo.refl (Nat.le_refl _), hn.rel, hs, trivial, h⟩
  | .exit id, s, Q, a, E, _, h, hn, hs => wp_exit ⟨.exit id, s, E, Evo.refl (Nat.le_refl _), hn.rel, hs, rfl, h⟩
  | .ret, s, Q, a, E, _, h, hn, hs => wp_ret ⟨.ret, s, E, Evo.refl (Nat.le_refl _), hn.rel, hs, trivial, h⟩
  | .region id ops draw, s, Q, a, E, hok, h, hn, hs => by
    simp only [okCode, Bool.and_eq_true] at hok
    obtain ⟨hfit, hlex⟩ := hok
    have hfit' : ∀ (i : Nat) (o : Oper), ops[i]? = some o → ∀ t, o.dst = some t → t < m := fun i o ho t ht => by
      rw [Array.all_eq_true_iff_forall_mem] at hfit
      have := hfit o (Array.mem_of_getElem? ho)
      simpa [ht] using this
    obtain ⟨ex, s', hr, hd, hq⟩ := h
    cases draw with
    | false =>
      refine wp_region_list (ops_sim hK ops.toList E s a s.h.length ex s' hn (Nat.le_refl _) hr (fun o ho t ht => ?_) (fun e a' E' ev hrel hsz he => ⟨ex, s', E', ev, hrel, hsz.trans hs, he, hq⟩))
      obtain ⟨i, hi⟩ := List.getElem?_of_mem ho
      rw [hs]
      exact hfit' i o (by simpa using hi) t ht
    | true =>
      have hex := hd rfl
      subst hex
      have hlex' : lexA X .any ops ops.size 0 (Array.replicate ops.size false) = true := by simpa using hlex
      have hany := anyA_lex (X := X) (md := .any) (ops := ops) (Q := fun s1 => Eqv s' s1) (fun s1 s2 h12 h1 => h1.trans h12) ops.toList 0 (Array.replicate ops.size false) s s' (by simp) (by simpa using hlex') hr (Eqv.refl _)
      -- one draw
      let E1 : Env := { E with w := { E.w with drawn := E.w.drawn + 1 } }
      have ev1 : Evo s.h.length E s.h E1 s.h := ⟨fun _ _ h => h, fun _ _ _ => rfl, fun _ _ o h _ => ⟨⟨o, h, rfl⟩, rfl⟩, fun _ _ k _ c h => ⟨k, c, h, Nat.le_refl _, fun _ => ⟨rfl, fun _ vs T _ hb => ⟨vs, T, hb, rfl⟩⟩⟩, Nat.le_refl _⟩
      have hok1 : EnvOk A E1 s.h := by
        have h0 := hn.rel.env
        refine ⟨h0.below.trans ⟨rfl, rfl, rfl, Nat.le_refl _, fun _ _ => rfl⟩, h0.lt, h0.old, h0.f0, h0.inj, h0.base, fun i o ho => ?_, fun g xs hg => (h0.glob g xs hg).evo ev1, h0.ginv⟩
        have := h0.ob i o ho
        cases o with
        | box cs => obtain ⟨b, vs, T, h1, h2, h3, h4⟩ := this; exact ⟨b, vs, T, h1, h2, h3.evo ev1 (Nat.le_refl _), h4⟩
        | tok n z c => cases c with
          | none => exact this
          | some ds => exact ⟨this.1, this.2.imp (fun h => h) fun ⟨b, vs, T, h1, h2, h3, h4, h5⟩ => ⟨b, vs, T, h1, h2, h3, h4.evo ev1 (Nat.le_refl _), h5⟩⟩
        | map es clock => obtain ⟨b, ents, h1, h2, h3, h4, h5⟩ := this; exact ⟨b, ents, h1, h2, h3, h4, fun j p hj => let ⟨e, he, g1, g2, g3⟩ := h5 j p hj; ⟨e, he, g1, g2.evo ev1, g3.evo ev1⟩⟩
        | _ => exact this
      have hn1 : Now X A E1 s a := ⟨hn.G, hok1, rfl, hn.rel.defers, fun t => (hn.rel.tmps t).evo ev1 (Nat.le_refl _)⟩
      refine wp_region_any hm ?_
      have hsz : ops.toList.length = ops.size := by simp
      rw [← hsz]
      refine anyA_sim (m := m) (n := s.h.length) (E0 := E) (h0 := s.h) hK hfit' (fun s1 a' E' (hq1 : Eqv s' s1) ev hrel hsz' => ⟨.normal, s', E', by rw [hq1.1]; exact ev, ⟨by rw [hq1.1]; exact hrel.env, hrel.world, hrel.defers, fun t => by rw [hq1.1, hq1.2 t]; exact hrel.tmps t⟩, hsz', trivial, hq⟩) ops.toList.length _ s a E1 hn1 ev1 hs ?_
      rw [← hsz] at hany
      exact hany
  | .seq x y, s, Q, a, E, hok, h, hn, hs => by
    simp only [okCode, Bool.and_eq_true] at hok
    refine wp_seq (wp_mono (awp_sim hK hm x s _ a E hok.1 h hn hs) fun e a1 w1 ⟨ex, s1, E1, ev, hrel, hsz, he, hq⟩ => ?_)
    by_cases hex : ex = .normal
    · subst hex
      have := exrel_normal he
      subst this
      have hw := hrel.world
      subst hw
      exact wp_mono (awp_sim hK hm y s1 Q a1 E1 hok.2 hq ⟨hn.G, hrel⟩ hsz) fun e a2 w2 ⟨ex, s2, E2, ev2, hrel2, hsz2, he2, hq2⟩ => ⟨ex, s2, E2, ev.trans ev2 ev.len, hrel2, hsz2, he2, hq2⟩
    · have hne : e ≠ .normal := fun h => hex (exrel_normal' (h ▸ he))
      rw [then_ne hne]
      exact ⟨ex, s1, E1, ev, hrel, hsz, he, by cases ex <;> first | exact absurd rfl hex | exact hq⟩
  | .cond c x y, s, Q, a, E, hok, h, hn, hs => by
    simp only [okCode, Bool.and_eq_true] at hok
    obtain ⟨b, hb, h1, h2⟩ := h
    have hr := ev_rel hn c
    rw [hb] at hr
    refine wp_cond_split (bool_inv (rel_d hr)) (fun ht => awp_sim hK hm x s Q a E hok.1 (h1 ht) hn hs) (fun hf => awp_sim hK hm y s Q a E hok.2 (h2 hf) hn hs)
  | .block id c, s, Q, a, E, hok, h, hn, hs => by
    refine wp_block (wp_mono (awp_sim hK hm c s _ a E hok h hn hs) fun e a1 w1 ⟨ex, s1, E1, ev, hrel, hsz, he, hq⟩ => ?_)
    cases ex with
    | exit i =>
      cases e <;> try (exact he.elim)
      have he' : i = _ := he
      subst he'
      simp only [Exit.inBlock, blk] at hq ⊢
      split at hq
      · rename_i hid
        rw [if_pos hid]
        obtain ⟨s2, hw, hq⟩ := hq
        obtain ⟨E2, ev2, hrel2⟩ := hw A E1 a1 w1 ev.len hrel
        exact ⟨.normal, s2, E2, ev.trans ev2 (Nat.le_refl _), hrel2, hsz, trivial, hq⟩
      · rename_i hid
        rw [if_neg hid]
        exact ⟨.exit i, s1, E1, ev, hrel, hsz, rfl, hq⟩
    | _ => cases e <;> first | exact he.elim | exact ⟨_, s1, E1, ev, hrel, hsz, he, hq⟩
  | .loop c, s, Q, a, E, hok, h, hn, hs => by
    obtain ⟨σ, I, sta, μ, ⟨x0, hw0, hI0⟩, hround⟩ := h
    obtain ⟨E0, ev0, hrel0⟩ := hw0 A E a E.w (Nat.le_refl _) hn.rel
    refine wp_loop_by (R := fun x a1 w1 => ∃ E1, I x ∧ Evo s.h.length E s.h E1 (sta x).h ∧ Rel A E1 (sta x) a1 w1 ∧ a1.tmps.size = m) (μ := μ) x0 ⟨E0, hI0, ev0, hrel0, hs⟩ fun x a1 w1 ⟨E1, hI1, ev1, hrel1, hs1⟩ => ?_
    have hw1 := hrel1.world
    subst hw1
    refine wp_mono (awp_sim hK hm c (sta x) _ a1 E1 hok (hround x hI1) ⟨hn.G, hrel1⟩ hs1) fun e a2 w2 ⟨ex, s2, E2, ev2, hrel2, hsz2, he2, hq2⟩ => ?_
    have ev12 := ev1.trans ev2 ev1.len
    by_cases hex : ex = .normal
    · subst hex
      have := exrel_normal he2
      subst this
      obtain ⟨y, hw3, hI3, hμ⟩ := hq2
      obtain ⟨E3, ev3, hrel3⟩ := hw3 A E2 a2 w2 ev12.len hrel2
      exact ⟨y, ⟨E3, hI3, ev12.trans ev3 (Nat.le_refl _), hrel3, hsz2⟩, hμ⟩
    · have hne : e ≠ .normal := fun h => hex (exrel_normal' (h ▸ he2))
      rw [then_ne hne]
      exact ⟨ex, s2, E2, ev12, hrel2, hsz2, he2, by cases ex <;> first | exact absurd rfl hex | exact hq2⟩
  | .rangeFunc _ _ _ _, _, _, _, _, hok, _, _, _ => by simp [okCode] at hok
  | .scope _, _, _, _, _, hok, _, _, _ => by simp [okCode] at hok
  | .label _, _, _, _, _, hok, _, _, _ => by simp [okCode] at hok
  | .goto _, _, _, _, _, hok, _, _, _ => by simp [okCode] at hok
  | .refuse _, _, _, _, _, hok, _, _, _ => by simp [okCode] at hok

end
end Go.Ab
