/-
  Texts of the layer and of the laws, put together: AbH14, AbH15, AbH16. No law is stated here.
-/
import Derived.Test.YteeepgnhkfmnaaaDoorAbVol12
import Derived.Test.YteeepgnhkfmnaaaDoorAbVol13
import Derived.Test.YteeepgnhkfmnaaaDoorAbVol15
set_option linter.unusedSimpArgs false
set_option linter.unusedVariables false
set_option maxRecDepth 100000

/-
  Drawn regions whose orders the walk goes through as a tree; behind them two states.
-/
namespace Go.Ab
open Go.RowKit

inductive Tr where
  | fin
  | run (l : List Nat) (r : Tr)
  | br (a : Nat) (ta : Tr) (b : Nat) (tb : Tr)
  | br3 (a : Nat) (ta : Tr) (b : Nat) (tb : Tr) (c : Nat) (tc : Tr)

def trOk (X : Ctx) (ops : Array Oper) : Tr → Array Bool → Nat → Bool
  | .fin, L, n => (Region.ready .any ops L).isEmpty && n == 0
  | .run l r, L, n => ordOk X .any ops l L && decide (l.length ≤ n) && trOk X ops r (marks l L) (n - l.length)
  | .br a ta b tb, L, n => (Region.ready .any ops L).contains a && (Region.ready .any ops L).all (fun i => i == a || i == b) && decide (0 < n) &&
      (ops[a]?).isSome && (ops[b]?).isSome && trOk X ops ta (L.setIfInBounds a true) (n - 1) && trOk X ops tb (L.setIfInBounds b true) (n - 1)
  | .br3 a ta b tb c tc, L, n => (Region.ready .any ops L).contains a && (Region.ready .any ops L).all (fun i => i == a || (i == b || i == c)) && decide (0 < n) &&
      (ops[a]?).isSome && (ops[b]?).isSome && (ops[c]?).isSome && trOk X ops ta (L.setIfInBounds a true) (n - 1) && trOk X ops tb (L.setIfInBounds b true) (n - 1) && trOk X ops tc (L.setIfInBounds c true) (n - 1)

def trP (X : Ctx) (ops : Array Oper) (Q : S → Prop) : Tr → Ex → S → Prop
  | .fin, .normal, s => Q s
  | .run l r, .normal, s => fin true (trP X ops Q r) (runOps X ops (opsOf ops l) s)
  | .br a ta b tb, .normal, s => fin true (trP X ops Q ta) (runOps X ops (opsOf ops [a]) s) ∧ fin true (trP X ops Q tb) (runOps X ops (opsOf ops [b]) s)
  | .br3 a ta b tb c tc, .normal, s => fin true (trP X ops Q ta) (runOps X ops (opsOf ops [a]) s) ∧ fin true (trP X ops Q tb) (runOps X ops (opsOf ops [b]) s) ∧ fin true (trP X ops Q tc) (runOps X ops (opsOf ops [c]) s)
  | _, _, _ => False
@[congr] theorem trP_congr {X : Ctx} {ops : Array Oper} {Q : S → Prop} {T : Tr} {e : Ex} {s : S} : trP X ops Q T e s = trP X ops Q T e s := rfl

theorem one_step {X : Ctx} {ops : Array Oper} {c : Nat} {s s1 : S} {K : S → Prop} (hc : (ops[c]?).isSome = true) (h : runOps X ops (opsOf ops [c]) s = some (.normal, s1)) (hK : K s1) : opAt X ops c K s := by
  obtain ⟨o, ho⟩ := Option.isSome_iff_exists.1 hc
  simp only [opsOf, ho] at h
  obtain ⟨s2, h1, h2⟩ := runOps_st h
  simp only [runOps, Option.some.injEq, Prod.mk.injEq, true_and] at h2
  subst h2
  unfold opAt
  rw [ho]
  exact ⟨_, h1, hK⟩

theorem tr_sound {X : Ctx} {ops : Array Oper} {Q : S → Prop} (hQ : ∀ s s', Eqv s s' → Q s → Q s') : ∀ (T : Tr) (L : Array Bool) (n : Nat) (s : S), Closed .any ops L → trOk X ops T L n = true → trP X ops Q T .normal s → anyA X .any ops Q n L s
  | .fin, L, n, s, hcl, hok, h => by
    simp only [trOk, Bool.and_eq_true, List.isEmpty_iff, beq_iff_eq] at hok
    obtain ⟨h1, rfl⟩ := hok
    exact ⟨h1, h⟩
  | .run l r, L, n, s, hcl, hok, h => by
    simp only [trOk, Bool.and_eq_true, decide_eq_true_eq] at hok
    obtain ⟨⟨h1, h2⟩, h3⟩ := hok
    obtain ⟨s0, h0, hT⟩ := fin_true h
    have := anyA_ord hQ (n - l.length) l L s s0 hcl h1 h0 fun hcl2 => tr_sound hQ r _ _ _ hcl2 h3 hT
    rwa [show l.length + (n - l.length) = n by omega] at this
  | .br a ta b tb, L, n, s, hcl, hok, h => by
    simp only [trOk, Bool.and_eq_true, decide_eq_true_eq] at hok
    obtain ⟨⟨⟨⟨⟨⟨h1, h2⟩, h3⟩, h4⟩, h5⟩, h6⟩, h7⟩ := hok
    obtain ⟨ha, hb⟩ := h
    obtain ⟨sa, ha, qa⟩ := fin_true ha
    obtain ⟨sb, hb, qb⟩ := fin_true hb
    obtain ⟨m, rfl⟩ : ∃ m, n = m + 1 := ⟨n - 1, by omega⟩
    refine ⟨fun hr => ?_, fun i hi => ?_⟩
    · rw [hr] at h1; simp at h1
    · have := List.all_eq_true.1 h2 i hi
      simp only [Bool.or_eq_true, beq_iff_eq] at this
      rcases this with rfl | rfl
      · exact one_step h4 ha (tr_sound hQ ta _ _ _ (closed_set hcl hi) h6 qa)
      · exact one_step h5 hb (tr_sound hQ tb _ _ _ (closed_set hcl hi) h7 qb)
  | .br3 a ta b tb c tc, L, n, s, hcl, hok, h => by
    simp only [trOk, Bool.and_eq_true, decide_eq_true_eq] at hok
    obtain ⟨⟨⟨⟨⟨⟨⟨⟨h1, h2⟩, h3⟩, h4⟩, h5⟩, h5'⟩, h6⟩, h7⟩, h8⟩ := hok
    obtain ⟨ha, hb, hc⟩ := h
    obtain ⟨sa, ha, qa⟩ := fin_true ha
    obtain ⟨sb, hb, qb⟩ := fin_true hb
    obtain ⟨sc, hc, qc⟩ := fin_true hc
    obtain ⟨m, rfl⟩ : ∃ m, n = m + 1 := ⟨n - 1, by omega⟩
    refine ⟨fun hr => ?_, fun i hi => ?_⟩
    · rw [hr] at h1; simp at h1
    · have := List.all_eq_true.1 h2 i hi
      simp only [Bool.or_eq_true, beq_iff_eq] at this
      rcases this with rfl | rfl | rfl
      · exact one_step h4 ha (tr_sound hQ ta _ _ _ (closed_set hcl hi) h6 qa)
      · exact one_step h5 hb (tr_sound hQ tb _ _ _ (closed_set hcl hi) h7 qb)
      · exact one_step h5' hc (tr_sound hQ tc _ _ _ (closed_set hcl hi) h8 qc)

/-- A drawn region that ends, whatever the order, in one of two states (read more weakly). -/
theorem awp_fork {X : Ctx} {i n : Nat} {l : List Oper} {t : List (Nat × AV)} {h : Hp} {c : Code} {Q : Ex → S → Prop} (T : Tr) (sA sB : S) (hE : X.E i = true) (hok : trOk X l.toArray T (Array.replicate l.toArray.size false) l.toArray.size = true)
    (h1 : trP X l.toArray (fun s => Wk n s sA ∨ Wk n s sB) T .normal ⟨t, h⟩) (hA : awpS X c sA Q) (hB : awpS X c sB Q) : awp X (.region i l.toArray true) ⟨t, h⟩ (seqS n X c Q) := by
  simp only [awp, hE, Bool.and_self, if_true]
  have hm : ∀ (L : Array Bool) (m : Nat) (s : S), anyA X .any l.toArray (fun s1 => ∃ s', Eqv s' s1 ∧ (Wk n s' sA ∨ Wk n s' sB)) m L s → anyA X .any l.toArray (fun s1 => ∃ s', Eqv s' s1 ∧ seqS n X c Q .normal s') m L s := fun L m s ha =>
    anyA_mono (fun s1 ⟨s2, h1, h2⟩ => ⟨s2, h1, h2.elim (fun hw => ⟨sA, hw, hA⟩) (fun hw => ⟨sB, hw, hB⟩)⟩) _ _ _ ha
  have hq : ∀ (L : Array Bool) (m : Nat) (s : S), Closed .any l.toArray L → trOk X l.toArray T L m = true → trP X l.toArray (fun s1 => ∃ s', Eqv s' s1 ∧ (Wk n s' sA ∨ Wk n s' sB)) T .normal s → anyA X .any l.toArray (fun s1 => ∃ s', Eqv s' s1 ∧ (Wk n s' sA ∨ Wk n s' sB)) m L s :=
    fun L m s => tr_sound (fun s s' hss ⟨s3, h1, h3⟩ => ⟨s3, h1.trans hss, h3⟩) T L m s
  have hp : ∀ (T : Tr) (s : S), trP X l.toArray (fun s => Wk n s sA ∨ Wk n s sB) T .normal s → trP X l.toArray (fun s1 => ∃ s', Eqv s' s1 ∧ (Wk n s' sA ∨ Wk n s' sB)) T .normal s := by
    intro T
    induction T with
    | fin => exact fun s h => ⟨s, Eqv.refl _, h⟩
    | run l r ih =>
      intro s h
      obtain ⟨s0, h0, hT⟩ := fin_true h
      show fin true _ _
      rw [h0]
      exact ih _ hT
    | br a ta b tb iha ihb =>
      rintro s ⟨ha, hb⟩
      obtain ⟨sa, ha, qa⟩ := fin_true ha
      obtain ⟨sb, hb, qb⟩ := fin_true hb
      refine ⟨?_, ?_⟩
      · rw [ha]; exact iha _ qa
      · rw [hb]; exact ihb _ qb
    | br3 a ta b tb c tc iha ihb ihc =>
      rintro s ⟨ha, hb, hc⟩
      obtain ⟨sa, ha, qa⟩ := fin_true ha
      obtain ⟨sb, hb, qb⟩ := fin_true hb
      obtain ⟨sc, hc, qc⟩ := fin_true hc
      refine ⟨?_, ?_, ?_⟩
      · rw [ha]; exact iha _ qa
      · rw [hb]; exact ihb _ qb
      · rw [hc]; exact ihc _ qc
  have := hm _ _ _ (hq (Array.replicate l.toArray.size false) l.toArray.size _ closed_none hok (hp _ _ h1))
  simpa using this

theorem trP_fin {X : Ctx} {ops : Array Oper} {Q : S → Prop} {s : S} : trP X ops Q .fin .normal s = Q s := rfl
theorem trP_run {X : Ctx} {ops : Array Oper} {Q : S → Prop} {s : S} {l : List Nat} {r : Tr} : trP X ops Q (.run l r) .normal s = fin true (trP X ops Q r) (runOps X ops (opsOf ops l) s) := rfl
theorem trP_br {X : Ctx} {ops : Array Oper} {Q : S → Prop} {s : S} {a b : Nat} {ta tb : Tr} : trP X ops Q (.br a ta b tb) .normal s = (fin true (trP X ops Q ta) (runOps X ops (opsOf ops [a]) s) ∧ fin true (trP X ops Q tb) (runOps X ops (opsOf ops [b]) s)) := rfl
theorem trP_br3 {X : Ctx} {ops : Array Oper} {Q : S → Prop} {s : S} {a b c : Nat} {ta tb tc : Tr} : trP X ops Q (.br3 a ta b tb c tc) .normal s = (fin true (trP X ops Q ta) (runOps X ops (opsOf ops [a]) s) ∧ fin true (trP X ops Q tb) (runOps X ops (opsOf ops [b]) s) ∧ fin true (trP X ops Q tc) (runOps X ops (opsOf ops [c]) s)) := rfl
/-- For simp: trees of orders. -/
theorem TRE : type_of% @trP_fin ∧ type_of% @trP_run ∧ type_of% @trP_br ∧ type_of% @trP_br3 ∧ type_of% @opsOf_nil ∧ type_of% @opsOf_cons ∧ type_of% @opsO_some := ⟨@trP_fin, @trP_run, @trP_br, @trP_br3, @opsOf_nil, @opsOf_cons, @opsO_some⟩

end Go.Ab

/-
  Deferred closures that ask recover first and go on in the same region.
-/
namespace Go.Ab
open Go.RowKit

theorem opsS_sim {X : Ctx} {A : Actn} (hK : KOk X) {ops : Array Oper} {Q : Exit → Act → List Frame → World → Prop} {cs : List Frame} : ∀ (l : List Oper) (k : Nat) (E : Env) (s : S) (a : Act) (n : Nat) (s' : S), (∀ j, l[j]? = ops[k + j]?) → Now X A E s a → n ≤ s.h.length →
    runOps X ops l s = some (.normal, s') → (∀ o ∈ l, ∀ t, o.dst = some t → t < a.tmps.size) →
    (∀ (a' : Act) (E' : Env), Evo n E s.h E' s'.h → Rel A E' s' a' E'.w → a'.tmps.size = a.tmps.size → Q .normal a' cs E'.w) → wpOpsS X.P ops Q (List.range' k l.length) a cs E.w
  | [], k, E, s, a, n, s', _, hn, hn0, hr, _, hQ => by
    simp only [runOps, Option.some.injEq, Prod.mk.injEq] at hr
    obtain ⟨_, rfl⟩ := hr
    exact hQ a E (Evo.refl hn0) hn.rel rfl
  | o :: l, k, E, s, a, n, s', hl, hn, hn0, hr, hfit, hQ => by
    have ho : ops[k]? = some o := by have := hl 0; simpa using this.symm
    have hl' : ∀ j, l[j]? = ops[(k + 1) + j]? := fun j => by have := hl (j + 1); rw [List.getElem?_cons_succ] at this; rw [this, show k + (j + 1) = k + 1 + j by omega]
    simp only [runOps] at hr
    cases hw : wantA ops o s with
    | none => simp [hw] at hr
    | some w =>
      simp only [hw, Option.bind_some] at hr
      have hwant := want_sim hn hw
      rw [List.length_cons, List.range'_succ]
      simp only [wpOpsS, ho]
      cases w with
      | false =>
        simp only [Bool.false_eq_true, if_false] at hr
        rw [if_neg (by rw [hwant]; simp)]
        have hrel := hn.rel.put (Evo.refl (Nat.le_refl _)) hn.rel.env (d := o.dst) (v := .tup []) (u := undef) (hfit o List.mem_cons_self) skp_rel
        have hh : (s.putO o.dst (.tup [])).h = s.h := by cases o.dst <;> rfl
        refine opsS_sim hK l (k + 1) E (s.putO o.dst (.tup [])) (a.put o.dst undef) n s' hl' ⟨hn.G, hrel⟩ (by rw [hh]; exact hn0) hr (fun o' ho' t ht => by rw [put_size]; exact hfit o' (List.mem_cons_of_mem _ ho') t ht)
          (fun a' E' ev hr' hs => hQ a' E' (by rw [hh] at ev; exact ev) hr' (by rw [hs, put_size]))
      | true =>
        simp only [if_true] at hr
        rw [if_pos hwant]
        cases hst : stepA X o s with
        | none => simp [hst] at hr
        | some p =>
          obtain ⟨ex1, s1⟩ := p
          simp only [hst, Option.bind_some] at hr
          have hwp : o.wp X.P a E.w (fun a' w' => wpOpsS X.P ops Q (List.range' (k + 1) l.length) a' cs w') (fun e a' w' => Q e a' cs w') := by
            refine oper_sim hK hn hn0 hst (hfit o List.mem_cons_self) (fun he a' E' ev hrel hsz => ?_) (fun x he u E' ev hrel hx => ?_)
            · subst he
              exact opsS_sim hK l (k + 1) E' s1 a' n s' hl' ⟨hn.G, hrel⟩ ev.len hr (fun o' ho' t ht => by rw [hsz]; exact hfit o' (List.mem_cons_of_mem _ ho') t ht)
                (fun a2 E2 ev2 hr2 hs2 => hQ a2 E2 (ev.trans ev2 (Nat.le_refl _)) hr2 (hs2.trans hsz))
            · subst he
              simp at hr
          unfold Oper.wp at hwp
          generalize (execOp a.eval o).run X.P E.w = r at hwp
          split
          · exact hwp.elim
          · exact hwp

theorem dok_of_awp2 {X : Ctx} {g : FuncId} {fn : Func} {i : Nat} {ops : Array Oper} {rc : Oper} {l : List Oper} {rest : Code} {cl : Call} {p : Nat} {args : List AV} {h h' : Hp} {x : Option C1}
    (hf : X.P.funcs[g]? = some fn) (hb : fn.body = some (.seq (.region i ops false) rest)) (hrs : fn.results = #[]) (hops : ops = (rc :: l).toArray)
    (hrc : rc.op = .call cl) (hcl : cl.callee = .builtin .recover) (hca : cl.args = #[]) (hrg : rc.guard = none) (hrd : rc.dst = some p) (hp : p < fn.ntmps)
    (hfit : ∀ o ∈ l, ∀ t, o.dst = some t → t < fn.ntmps)
    (hokr : okCode X fn.ntmps rest = true) (hmix : X.P.follows .mixedOrders = true) (hK : KOk X) (hal : args.length ≤ fn.ntmps)
    (hbody : fin true (fun ex s => ex = .normal ∧ awpS X rest s fun ex s => (ex = .normal ∨ ex = .ret) ∧ s.h = h') (runOps X ops l ⟨(p, recV x) :: argV 0 args, h⟩)) : DOk X.P X.G g args h x h' := by
  obtain ⟨s1, hrun, _, hrest⟩ := fin_true hbody
  intro A E vs u u' hG hE hs hrel hm
  have hr := enter_rel (n := fn.ntmps) [] hE hal hs hrel
  have hsz : (vs ++ Array.replicate (fn.ntmps - vs.size) undef).size = fn.ntmps := by simp; omega
  refine callsD_of_wpS hf hb fun c₀ cs hu => ?_
  have hexec : ∀ (a : Act) (w : World), (execOp a.eval rc).run X.P w = .ok .recover w := fun a w => by
    simp [execOp, hrc, resolve, hcl, hca, invoke, builtin]
  obtain ⟨rv, hrv, hrec⟩ : ∃ rv, (recV x).rel E h rv ∧ ((x = none ∧ recoverD (c₀ :: cs) = none ∧ rv = .nilIface) ∨ (recoverD (c₀ :: cs) = some (rv, { c₀ with mode := u' } :: cs))) := by
    cases x with
    | none => exact ⟨.nilIface, rfl, .inl ⟨rfl, by obtain ⟨rfl, _⟩ := hm; simp [recoverD, hu], rfl⟩⟩
    | some x =>
      obtain ⟨v, hx, rfl, rfl⟩ := hm
      exact ⟨v, hx, .inr (by simp [recoverD, hu])⟩
  have hcs : x = none → ({ c₀ with mode := u' } : Frame) = c₀ := fun hx => by
    subst hx
    obtain ⟨rfl, rfl⟩ := hm
    cases c₀
    simp at hu
    subst hu
    rfl
  refine wpS_seq (wpS_region ?_)
  have hsize : ops.size = l.length + 1 := by rw [hops]; simp
  have hrange : List.range ops.size = 0 :: List.range' 1 l.length := by rw [hsize, List.range_eq_range', List.range'_succ]
  rw [hrange]
  let a1 : Act := ({ tmps := vs ++ Array.replicate (fn.ntmps - vs.size) undef, defers := [] } : Act).put (some p) rv
  have hr1 : Rel { A with ds := [] } E ⟨(p, recV x) :: argV 0 args, h⟩ a1 E.w := hr.put (Evo.refl (Nat.le_refl _)) (hE.ds []) (d := some p) (fun t ht => by cases ht; rw [hsz]; exact hp) hrv
  have hs1 : a1.tmps.size = fn.ntmps := by simp only [a1, put_size]; exact hsz
  have hl : ∀ j, l[j]? = ops[1 + j]? := fun j => by rw [hops, List.getElem?_toArray, Nat.add_comm, List.getElem?_cons_succ]
  have hend : wpOpsS X.P ops (Exit.thenS (rest.wpS X.P (bodyPostS X.P fn c₀ cs fun e u1 w' => u1 = u' ∧ ∃ v E', e = .returned v ∧ w' = E'.w ∧ Evo h.length E h E' h' ∧ EnvOk A E' h')) (bodyPostS X.P fn c₀ cs fun e u1 w' => u1 = u' ∧ ∃ v E', e = .returned v ∧ w' = E'.w ∧ Evo h.length E h E' h' ∧ EnvOk A E' h')) (List.range' 1 l.length) a1 ({ c₀ with mode := u' } :: cs) E.w := by
    refine opsS_sim (A := { A with ds := [] }) hK l 1 E _ a1 h.length s1 hl ⟨hG, hr1⟩ (Nat.le_refl _) hrun (fun o ho t ht => by rw [hs1]; exact hfit o ho t ht) fun a2 E2 ev2 hrel2 hsz2 => ?_
    refine wpS_of_wp (wp_mono (awpS_sim (A := { A with ds := [] }) hK hmix rest _ _ a2 E2 hokr hrest ⟨hG, hrel2⟩ (hsz2.trans hs1)) fun e a' w' ⟨ex, s', E', ev, hrel', _, he, hq⟩ => ?_)
    have hw := hrel'.world
    subst hw
    obtain ⟨hex, rfl⟩ := hq
    have hres : (results fn a'.tmps).run X.P E'.w = .ok (.tuple #[]) E'.w := by
      obtain ⟨v, hv, hrv2⟩ := results_rel (fn := fn) hrel' (r := []) (by rw [hrs]; rfl)
      obtain ⟨l, rfl, hl, _⟩ := hrv2
      have : l = [] := List.eq_nil_of_length_eq_zero (by simpa using hl)
      subst this
      exact hv
    have evA := ev2.trans ev ev2.len
    rcases hex with rfl | rfl
    · have := exrel_normal he
      subst this
      exact ⟨hrel'.defers, u', rfl, _, hres, rfl, _, E', rfl, rfl, evA, hrel'.env.nods⟩
    · cases e <;> first | exact he.elim | exact ⟨hrel'.defers, u', rfl, _, hres, rfl, _, E', rfl, rfl, evA, hrel'.env.nods⟩
  have ops0 : ops[0]? = some rc := by rw [hops]; rfl
  have w0 : ∀ y, Region.wanted rc y = true := fun y => by simp [Region.wanted, hrg]
  simp only [wpOpsS, ops0, w0, if_true, hexec, hrd]
  rcases hrec with ⟨hx, hn, rfl⟩ | hsome
  · rw [hn]
    rw [hcs hx] at hend
    exact hend
  · rw [hsome]
    exact hend

end Go.Ab

/-
  Functions that defer a closure which recovers: plain functions of their arguments.
-/
namespace Go.Ab
open Go.RowKit

theorem allD_d : ∀ (l : List D), allD (l.map C1.d) = some l
  | [] => rfl
  | x :: l => by simp [allD, C1.toD, allD_d l]
theorem av_dv (p : DV) : p.av.dv = some p := by
  cases p with
  | c x => rfl
  | agg xs => simp [DV.av, DV.V, AV.dv, allD_d]
theorem av_rel {E : Env} {h : Hp} {p : PA} {v : Value} (hr : p.av.rel E h v) : p.rel E.w E.F v := pa_rel hr (av_dv p)
theorem resV_rrel {E : Env} {h : Hp} : ∀ {r : List PA} {v : Value}, (resV r).rel E h v → RRel E.w E.F v r
  | [x], v, hr => av_rel (h := h) hr
  | [], v, hr => by
    obtain ⟨vs, rfl, hl, _⟩ := hr
    exact ⟨vs, rfl, by simpa using hl, fun j x hj => by simp at hj⟩
  | x :: y :: l, v, hr => by
    obtain ⟨vs, rfl, hl, hx⟩ := hr
    refine ⟨vs, rfl, by simpa using hl, fun j p hj => ?_⟩
    obtain ⟨u, hu, hru⟩ := hx j p.V (by rw [List.getElem?_map, hj]; rfl)
    exact ⟨u, hu, av_rel (h := h) hru⟩
theorem RRel.mono {w : World} {F F' : Fz} {v : Value} {r : List PA} (hr : RRel w F v r) (hF : ∀ b o, F b o → F' b o) : RRel w F' v r := by
  have one : ∀ (x : PA) (u : Value), x.rel w F u → x.rel w F' u := fun x u hru => by
    cases x with
    | c d => exact Rd.mono hru hF (fun _ _ _ => rfl)
    | agg xs =>
      obtain ⟨us, rfl, h1, h2⟩ := hru
      exact ⟨us, rfl, h1, fun j x hj => let ⟨y, hy, hry⟩ := h2 j x hj; ⟨y, hy, hry.mono hF (fun _ _ _ => rfl)⟩⟩
  unfold RRel at *
  split at hr
  · exact one _ _ hr
  · rename_i hne
    obtain ⟨vs, rfl, hl, hx⟩ := hr
    exact ⟨vs, rfl, hl, fun j x hj => let ⟨u, hu, hru⟩ := hx j x hj; ⟨u, hu, one x u hru⟩⟩

/-- A plain function, from how its calls end that find no object. -/
theorem pure_of_end {P : Program} {G : Gl} {f : FuncId} {fn : Func} {c : Code} {m : List PA → Option (List PA)} (hf : P.funcs[f]? = some fn) (hb : fn.body = some c) (hname : (fn.name == "runtime.NumGoroutine") = false)
    (H : ∀ args r, m args = some r → ∃ h', ∀ (A : Actn) (E : Env) (vs : Array Value), A.G = G → EnvOk A E [] → vs.size = (args.map DV.av).length → (∀ (j : Nat) (x : AV), (args.map DV.av)[j]? = some x → x.rel E [] (vs.getD j undef)) → Calls P f vs E.w (EndOk A E [] (.ret (resV r) h'))) : PureC P G f m := by
  have hne : ¬ fn.name = "runtime.NumGoroutine" := by simpa using hname
  refine ⟨fun vs w => by simp [callFunc, hf, hne, hb], fun w F vs args r hlt hG hvs hrel hm => ?_⟩
  obtain ⟨h', H'⟩ := H args r hm
  let A : Actn := ⟨w, F, G, []⟩
  let E : Env := ⟨fun _ => none, F, w⟩
  have hE : EnvOk A E [] := ⟨Below.refl _ _, hlt, fun b o _ h => h, fun b o h => h, fun i j b hi => by simp at hi, fun i b hi => by simp at hi, fun i o ho => by simp at ho, hG.1, hG.2, fun _ => Nat.le_refl _⟩
  refine (H' A E vs rfl hE (by simpa using hvs) fun j x hj => ?_).mono ?_
  · rw [List.getElem?_map] at hj
    cases hx : args[j]? with
    | none => rw [hx] at hj; cases hj
    | some p =>
      rw [hx] at hj
      cases hj
      exact DV.rel_av (E := E) (hrel j p hx)
  · rintro e w' ⟨E', h2, rfl, ev, hok, hx⟩
    rcases hx with ⟨v, r', rfl, ho, hrv⟩ | ⟨u, x, rfl, ho, hx⟩
    · injection ho with ho _
      subst ho
      have hold : ∀ b o, E'.F b o → newF w F E'.w b o := fun b o hfr => by
        by_cases hbw : b < w.heap.size
        · exact .inl (hok.old b o hbw hfr)
        · exact .inr ⟨by omega, hok.lt b o hfr⟩
      exact ⟨v, rfl, (resV_rrel hrv).mono hold, hok.below, hok.drw⟩
    · cases ho

theorem resVV_V : ∀ (r : List PA), resVV (r.map DV.V) = resV r
  | [] => rfl
  | [_] => rfl
  | _ :: _ :: _ => rfl

/-- A function that defers a closure ahead of all that can panic: a plain function of its arguments. -/
theorem pure_of_defer {X : Ctx} {f : FuncId} {fn : Func} {c0 rest : Code} {i : Nat} {ops : Array Oper} {l : List Oper} {df : Oper} {cl : Call} {k : Operand} {g : FuncId} {caps : List (Nat × Nat)} {m : List PA → Option (List PA)}
    (hf : X.P.funcs[f]? = some fn) (hb : fn.body = some (.seq c0 (.seq (.region i ops false) rest))) (hname : (fn.name == "runtime.NumGoroutine") = false)
    (hok0 : okCode X fn.ntmps c0 = true) (hokr : okCode X fn.ntmps rest = true) (hops : ops.toList = l ++ [df]) (hop : df.op = .defer cl) (hcl : cl.callee = .value k) (hca : cl.args = #[]) (hgu : df.guard = none) (hdst : df.dst = none)
    (hfit : ∀ o ∈ l, ∀ t, o.dst = some t → t < fn.ntmps) (hgc : ∀ (vs : Array Value) (w : World), (callFunc g vs).run X.P w = .ok (.enter g vs) w)
    (hmix : X.P.follows .mixedOrders = true) (hK : KOk X)
    (hbody : ∀ args r, m args = some r → args.length ≤ fn.ntmps ∧ ∃ h', awpS X c0 ⟨argV 0 (args.map DV.av), []⟩ fun ex s => ex = .normal ∧ ∃ s1, runOps X ops l s = some (.normal, s1) ∧ X.ev s1 k = .v (.c (.fn g caps)) ∧ awpS X rest s1 (RetsD X 0 fn.results.toList g caps (.ret (resV r) h'))) : PureC X.P X.G f m := by
  refine pure_of_end hf hb hname fun args r hm => ?_
  obtain ⟨hal, h', hbd⟩ := hbody args r hm
  exact ⟨h', calls_of_defer hf hb hok0 hokr hops hop hcl hca hgu hdst hfit hgc hmix hK (by simpa using hal) hbd⟩

end Go.Ab
