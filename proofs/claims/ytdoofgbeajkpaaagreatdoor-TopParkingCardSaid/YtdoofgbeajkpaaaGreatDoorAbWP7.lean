/-
  Texts of the layer and of the laws, put together: Ab10, Ab11.
-/
import Derived.Test.YtdoofgbeajkpaaaGreatDoorAbWP6
import Derived.Still
set_option linter.unusedSimpArgs false
set_option linter.unusedVariables false
set_option maxRecDepth 100000
namespace Go.Ab
open Go.RowKit
section
variable {X : Ctx} {A : Actn} {E : Env} {s : S} {a : Act}
def ExRel (E : Env) (h : Hp) : Ex → Exit → Prop
  | .normal, .normal => True
  | .exit i, .exit j => i = j
  | .ret, .ret => True
  | .pan x, .panic chain => ∃ u, chain = [{ v := u, recovered := false }] ∧ x.rel E h u
  | _, _ => False
theorem look_put (s : S) (d t : Nat) (v : AV) : (s.put d v).get t = if d = t then v else s.get t := rfl
theorem Rel.put {E' : Env} {h' : Hp} {w : World} (hr : Rel A E s a w) (ev : Evo s.h.length E s.h E' h') (hok : EnvOk A E' h') {d : Option Nat} {v : AV} {u : Value} (hd : ∀ t, d = some t → t < a.tmps.size)
    (hv : v.rel E' h' u) : Rel A E' (({ s with h := h' } : S).putO d v) (a.put d u) E'.w where
  env := by cases d <;> exact hok
  world := rfl
  defers := by cases d <;> exact hr.defers
  tmps t := by
    cases d with
    | none => exact (hr.tmps t).evo ev (Nat.le_refl _)
    | some d =>
      simp only [S.putO, Act.put]
      rw [show ((({ s with h := h' } : S).put d v).get t) = if d = t then v else s.get t from rfl]
      by_cases hdt : d = t
      · subst hdt
        rw [if_pos rfl]
        simp [Array.getD_eq_getD_getElem?, hd d rfl]
        exact hv
      rw [if_neg hdt]
      have : (a.tmps.setIfInBounds d u).getD t undef = a.tmps.getD t undef := by
        simp [Array.getD_eq_getD_getElem?, Array.getElem?_setIfInBounds_ne hdt]
      rw [this]
      exact (hr.tmps t).evo ev (Nat.le_refl _)
theorem skp_rel {E : Env} {h : Hp} : (AV.tup []).rel E h undef := ⟨[], rfl, rfl, fun j x hj => by simp at hj⟩
theorem top_rel {E : Env} {h : Hp} {v : Value} : AV.top.rel E h v := trivial
theorem put_size (a : Act) (d : Option Nat) (u : Value) : (a.put d u).tmps.size = a.tmps.size := by cases d <;> simp [Act.put]
theorem want_sim (hn : Now X A E s a) {ops : Array Oper} {o : Oper} {w : Bool} (h : wantA ops o s = some w) : Region.wanted o (yielded ops a.tmps) = w := by
  unfold wantA at h
  unfold Region.wanted
  cases hg : o.guard with
  | none => simp [hg] at h; simp [h]
  | some gw =>
    obtain ⟨j, want⟩ := gw
    simp only [hg] at h ⊢
    cases hd : (ops[j]?).bind (·.dst) with
    | none => simp [hd] at h
    | some d =>
      simp only [hd, Option.map_some, Option.bind_some] at h
      split at h
      · rename_i b hb
        cases h
        have hr := hn.rel.tmps d
        rw [hb] at hr
        have hv := bool_inv (rel_d hr)
        simp only [yielded, hd, Option.bind_some, Array.getD_eq_getD_getElem?] at hv ⊢
        cases hq : a.tmps[d]? with
        | none => simp [hq] at hv; cases hv
        | some q =>
          simp [hq] at hv
          subst hv
          cases b <;> cases want <;> rfl
      · rename_i hb
        cases h
        have hr := hn.rel.tmps d
        rw [hb] at hr
        obtain ⟨vs, hv, hl, _⟩ := hr
        have hvs : vs = [] := List.eq_nil_of_length_eq_zero hl
        subst hvs
        simp only [yielded, hd, Option.bind_some, Array.getD_eq_getD_getElem?] at hv ⊢
        cases hq : a.tmps[d]? with
        | none => rfl
        | some q =>
          simp [hq] at hv
          subst hv
          rfl
      cases h
theorem oper_sim (hK : KOk X) (hn : Now X A E s a) {o : Oper} {K : Act → World → Prop} {Q : Exit → Act → World → Prop} {n : Nat} (hn0 : n ≤ s.h.length) {ex : Ex} {s' : S} (hst : stepA X o s = some (ex, s'))
    (hfit : ∀ t, o.dst = some t → t < a.tmps.size)
    (hK' : ex = .normal → ∀ (a' : Act) (E' : Env), Evo n E s.h E' s'.h → Rel A E' s' a' E'.w → a'.tmps.size = a.tmps.size → K a' E'.w)
    (hQ : ∀ x, ex = .pan x → ∀ (u : Value) (E' : Env), Evo n E s.h E' s'.h → Rel A E' s' a E'.w → x.rel E' s'.h u → Q (.panic [{ v := u, recovered := false }]) a E'.w) : o.wp X.P a E.w K Q := by
  have cut : ∀ {E' : Env} {h' : Hp}, Evo s.h.length E s.h E' h' → Evo n E s.h E' h' := fun ev => (Evo.refl hn0).trans ev (by omega)
  unfold stepA at hst
  cases ho : opA X s o with
  | none => simp [ho] at hst
  | some out =>
    simp only [ho, Option.map_some, Option.some.injEq] at hst
    refine op_sim hK hn ho ?_
    cases out with
    | val v h' =>
      simp only [Prod.mk.injEq] at hst
      obtain ⟨rfl, rfl⟩ := hst
      intro u E' ev hok hv
      have hh : (({ s with h := h' } : S).putO o.dst v).h = h' := by cases o.dst <;> rfl
      exact hK' rfl _ E' (by rw [hh]; exact cut ev) (hn.rel.put ev hok hfit hv) (put_size _ _ _)
    | skip h' =>
      simp only [Prod.mk.injEq] at hst
      obtain ⟨rfl, rfl⟩ := hst
      intro E' ev hok
      have hh : (({ s with h := h' } : S).putO o.dst .top).h = h' := by cases o.dst <;> rfl
      exact hK' rfl _ E' (by rw [hh]; exact cut ev) (hn.rel.put ev hok hfit top_rel) (put_size _ _ _)
    | pan x h' =>
      simp only [Prod.mk.injEq] at hst
      obtain ⟨rfl, rfl⟩ := hst
      intro u E' ev hok hv
      exact hQ x rfl u E' (cut ev) ⟨hok, rfl, hn.rel.defers, fun t => (hn.rel.tmps t).evo ev (Nat.le_refl _)⟩ hv
theorem ops_sim (hK : KOk X) {ops : Array Oper} {Q : Exit → Act → World → Prop} : ∀ (l : List Oper) (E : Env) (s : S) (a : Act) (n : Nat) (ex : Ex) (s' : S), Now X A E s a → n ≤ s.h.length →
    runOps X ops l s = some (ex, s') → (∀ o ∈ l, ∀ t, o.dst = some t → t < a.tmps.size) →
    (∀ (e : Exit) (a' : Act) (E' : Env), Evo n E s.h E' s'.h → Rel A E' s' a' E'.w → a'.tmps.size = a.tmps.size → ExRel E' s'.h ex e → Q e a' E'.w) → wpList X.P ops Q l a E.w
  | [], E, s, a, n, ex, s', hn, hn0, hr, _, hQ => by
    simp only [runOps, Option.some.injEq, Prod.mk.injEq] at hr
    obtain ⟨rfl, rfl⟩ := hr
    exact hQ .normal a E (Evo.refl hn0) hn.rel rfl trivial
  | o :: l, E, s, a, n, ex, s', hn, hn0, hr, hfit, hQ => by
    simp only [runOps] at hr
    cases hw : wantA ops o s with
    | none => simp [hw] at hr
    | some w =>
      simp only [hw, Option.bind_some] at hr
      have hwant := want_sim hn hw
      unfold wpList
      cases w with
      | false =>
        simp only [Bool.false_eq_true, if_false] at hr
        rw [if_neg (by rw [hwant]; simp)]
        have hrel := hn.rel.put (Evo.refl (Nat.le_refl _)) hn.rel.env (d := o.dst) (v := .tup []) (u := undef) (hfit o List.mem_cons_self) skp_rel
        have hh : (s.putO o.dst (.tup [])).h = s.h := by cases o.dst <;> rfl
        refine ops_sim hK l E (s.putO o.dst (.tup [])) (a.put o.dst undef) n ex s' ⟨hn.G, hrel⟩ (by rw [hh]; exact hn0) hr (fun o' ho' t ht => by rw [put_size]; exact hfit o' (List.mem_cons_of_mem _ ho') t ht)
          (fun e a' E' ev hr' hs he => hQ e a' E' (by rw [hh] at ev; exact ev) hr' (by rw [hs, put_size]) he)
      | true =>
        simp only [if_true] at hr
        rw [if_pos hwant]
        left
        cases hst : stepA X o s with
        | none => simp [hst] at hr
        | some p =>
          obtain ⟨ex1, s1⟩ := p
          simp only [hst, Option.bind_some] at hr
          refine oper_sim hK hn hn0 hst (hfit o List.mem_cons_self) (fun he a' E' ev hrel hsz => ?_) (fun x he u E' ev hrel hx => ?_)
          · subst he
            refine ops_sim hK l E' s1 a' n ex s' ⟨hn.G, hrel⟩ ev.len hr (fun o' ho' t ht => by rw [hsz]; exact hfit o' (List.mem_cons_of_mem _ ho') t ht)
              (fun e a2 E2 ev2 hr2 hs2 he2 => hQ e a2 E2 (ev.trans ev2 (Nat.le_refl _)) hr2 (hs2.trans hsz) he2)
          subst he
          simp only [Option.some.injEq, Prod.mk.injEq] at hr
          obtain ⟨rfl, rfl⟩ := hr
          exact hQ _ a E' ev hrel rfl ⟨u, rfl, hx⟩
def lvl (X : Ctx) (o : Oper) : Nat :=
  match o.op with
  | .buildSlice t n _ => if X.uS t n = true then 2 else 0
  | .slice t _ _ _ _ => if X.uT t = true then 1 else 0
  | .move _ | .assign _ | .pick _ _ _ | .build _ _ | .nilCheck _ | .binOp _ _ _ _ _ | .unOp _ _ _ | .convert _ _ _ | .makeInterface _ _
  | .fieldAddr _ _ _ | .field _ _ _ | .index _ _ _ | .extract _ _ => 0
  | .load _ _ | .indexAddr _ _ _ | .lookup _ _ _ _ => 1
  | .call c => match c.callee with
    | .builtin .len => 1
    | .builtin .min | .builtin .max => 0
    | .value (.func f) => if (X.M f).isSome then 0 else if (X.N f).isSome then 0 else 2
    | _ => 2
  | _ => 2
def adds (o : Oper) : Bool :=
  match o.op with
  | .alloc _ | .box _ _ => true
  | _ => false
def commute (X : Ctx) (x y : Oper) : Bool := lvl X x == 0 || lvl X y == 0 || (lvl X x ≤ 1 && lvl X y ≤ 1) || (lvl X x ≤ 1 && adds y)
theorem lvl0 {ρ : Operand → AV} (hf : ∀ f, ρ (.func f) = .v (.c (.fn f []))) {h : Hp} {o : Oper} {out : OpR} (hl : lvl X o = 0) (hnp : ∀ x h', out ≠ .pan x h') (hr : opR X ρ h o = some out) : ∃ v, out = .val v h ∧ ∀ h', opR X ρ h' o = some (.val v h') := by
  obtain ⟨dst, op, type, pos, after, guard⟩ := o
  cases op <;> simp only [lvl, opR] at hl hr ⊢ <;> try (exact absurd hl (by decide))
  case move x => cases hr; exact ⟨_, rfl, fun _ => rfl⟩
  case assign x => cases hr; exact ⟨_, rfl, fun _ => rfl⟩
  case pick c x y =>
    split at hr
    · cases hr; exact ⟨_, rfl, fun _ => by simp [*]⟩
    cases hr
  case nilCheck x =>
    split at hr
    · cases hr; exact ⟨_, rfl, fun _ => by simp [*]⟩
    · cases hr; exact ⟨_, rfl, fun _ => by simp [*]⟩
    · cases hr; exact ⟨_, rfl, fun _ => by simp [*]⟩
    cases hr
  case makeInterface t x =>
    split at hr
    · cases hr
    · split at hr
      · simp only [Option.map_eq_some_iff] at hr
        obtain ⟨v, hv, rfl⟩ := hr
        exact ⟨_, rfl, fun _ => by simp [*]⟩
      · simp only [Option.map_eq_some_iff] at hr
        obtain ⟨v, hv, rfl⟩ := hr
        exact ⟨_, rfl, fun _ => by simp [*]⟩
      cases hr
    cases hr
  case slice t x lo hi mx =>
    by_cases hu : X.uT t = true
    · rw [if_pos hu] at hl; exact absurd hl (by decide)
    simp only [if_neg hu, Option.bind_eq_some_iff, Option.map_eq_some_iff] at hr
    obtain ⟨l, hl1, u, hu1, m, hm1, v, hv, rfl⟩ := hr
    exact ⟨_, rfl, fun _ => by simp [hl1, hu1, hm1, hv, if_neg hu]⟩
  case fieldAddr t x f =>
    split at hr
    · simp only [Option.bind_eq_some_iff] at hr
      obtain ⟨fd, hfd, n, hn, hr⟩ := hr
      split at hr
      · cases hr
      split at hr
      · cases hr; exact ⟨_, rfl, fun _ => by simp [*]⟩
      · cases hr; exact ⟨_, rfl, fun _ => by simp [*]⟩
      · cases hr; exact ⟨_, rfl, fun _ => by simp [*]⟩
      cases hr
    cases hr
  case field t x f =>
    split at hr
    · simp only [Option.bind_eq_some_iff] at hr
      obtain ⟨fd, hfd, hr⟩ := hr
      split at hr
      · simp only [Option.map_eq_some_iff] at hr
        obtain ⟨v, hv, rfl⟩ := hr
        exact ⟨_, rfl, fun _ => by simp [*]⟩
      cases hr
    cases hr
  case index t x i =>
    simp only [Option.bind_eq_some_iff, Option.map_eq_some_iff] at hr
    obtain ⟨n, hn, v, hv, rfl⟩ := hr
    exact ⟨_, rfl, fun _ => by simp [hn, hv]⟩
  case extract t i =>
    split at hr
    · simp only [Option.map_eq_some_iff] at hr
      obtain ⟨v, hv, rfl⟩ := hr
      exact ⟨_, rfl, fun _ => by simp [*]⟩
    cases hr
  case call c =>
    obtain ⟨callee, args, argTypes⟩ := c
    unfold callA at hr
    simp only [callA]
    cases callee with
    | invoke r m => exact absurd hl (by simp)
    | builtin b =>
      cases b <;> simp only at hl hr ⊢ <;> try (exact absurd hl (by decide))
      all_goals
        simp only [builtinA] at hr ⊢
        split at hr
        all_goals first
          | (cases hr; done)
          | (simp only [Option.map_eq_some_iff] at hr
             obtain ⟨v, hv, rfl⟩ := hr
             refine ⟨_, rfl, fun _ => ?_⟩
             simp [*]
             done)
          | (exfalso; simp_all; done)
    | value f =>
      cases f with
      | func f =>
        simp only [hf] at hr ⊢
        simp only at hl
        cases hm : X.M f with
        | none =>
          cases hN : X.N f with
          | none => simp [hm, hN] at hl
          | some m =>
            simp only [hm, hN, Option.map_eq_some_iff] at hr
            obtain ⟨r, hv, rfl⟩ := hr
            cases r with
            | ret v => exact ⟨_, rfl, fun _ => by simp only [hv, Option.map_some]; rfl⟩
            | pan x => exact absurd rfl (hnp _ _)
        | some m =>
          simp only [hm, Option.map_eq_some_iff] at hr
          obtain ⟨v, hv, rfl⟩ := hr
          exact ⟨_, rfl, fun _ => by simp only [hv, Option.map_some]⟩
      | _ => exact absurd hl (by simp)
  case buildSlice t n ps =>
    by_cases hu : X.uS t n = true
    · rw [if_pos hu] at hl; exact absurd hl (by decide)
    rw [if_neg hu] at hr
    simp only [Option.map_eq_some_iff] at hr
    obtain ⟨v, hv, rfl⟩ := hr
    exact ⟨_, rfl, fun _ => by rw [if_neg hu]; simp [hv]⟩
  case binOp op t x y c =>
    by_cases hu : nilY y = true
    · rw [if_pos hu] at hr
      simp only [Option.map_eq_some_iff] at hr
      obtain ⟨v, hv, rfl⟩ := hr
      exact ⟨_, rfl, fun _ => by rw [if_pos hu]; simp [hv]⟩
    rw [if_neg hu] at hr
    simp only [Option.map_eq_some_iff] at hr
    obtain ⟨v, hv, rfl⟩ := hr
    exact ⟨_, rfl, fun _ => by rw [if_neg hu]; simp [hv]⟩
  all_goals
    simp only [Option.map_eq_some_iff] at hr
    obtain ⟨v, hv, rfl⟩ := hr
    exact ⟨_, rfl, fun _ => by simp [hv]⟩
theorem lvl1 {ρ : Operand → AV} (hf : ∀ f, ρ (.func f) = .v (.c (.fn f []))) {h : Hp} {o : Oper} {out : OpR} (hl : lvl X o ≤ 1) (hnp : ∀ x h', out ≠ .pan x h') (hr : opR X ρ h o = some out) : ∃ v, out = .val v h := by
  by_cases h0 : lvl X o = 0
  · obtain ⟨v, hv, _⟩ := lvl0 hf h0 hnp hr
    exact ⟨v, hv⟩
  obtain ⟨dst, op, type, pos, after, guard⟩ := o
  cases op <;> simp only [lvl] at h0 hl <;> try (first | exact absurd trivial h0 | (exact absurd hl (by decide)))
  case buildSlice t n ps =>
    by_cases hu : X.uS t n = true
    · rw [if_pos hu] at hl; exact absurd hl (by decide)
    rw [if_neg hu] at h0; exact absurd rfl h0
  case slice t x lo hi mx =>
    by_cases hu : X.uT t = true
    · simp only [opR, if_pos hu, Option.bind_eq_some_iff, Option.map_eq_some_iff] at hr
      obtain ⟨_, _, _, _, _, _, c, _, rfl⟩ := hr
      exact ⟨_, rfl⟩
    rw [if_neg hu] at h0; exact absurd rfl h0
  case load t x =>
    simp only [opR, Option.map_eq_some_iff] at hr
    obtain ⟨v, _, rfl⟩ := hr
    exact ⟨_, rfl⟩
  case indexAddr t x i =>
    simp only [opR, Option.bind_eq_some_iff, Option.map_eq_some_iff] at hr
    obtain ⟨n, _, v, _, rfl⟩ := hr
    exact ⟨_, rfl⟩
  case lookup t x i ok =>
    simp only [opR, Option.map_eq_some_iff] at hr
    obtain ⟨v, _, rfl⟩ := hr
    exact ⟨_, rfl⟩
  case call c =>
    obtain ⟨callee, args, argTypes⟩ := c
    cases callee with
    | invoke r m => exact absurd hl (by simp)
    | value f =>
      exfalso
      cases f with
      | func f =>
        simp only at h0 hl
        split at hl
        · rename_i hs
          rw [if_pos hs] at h0
          exact h0 rfl
        · rename_i hs
          rw [if_neg hs] at h0
          split at hl
          · rename_i hs2
            rw [if_pos hs2] at h0
            exact h0 rfl
          · exact absurd hl (by decide)
      | _ => exact absurd hl (by simp)
    | builtin b =>
      cases b <;> simp only at h0 hl <;> try (first | exact absurd trivial h0 | (exact absurd hl (by decide)) | (exact absurd rfl h0))
      simp only [opR, callA, builtinA] at hr
      split at hr
      all_goals first
        | (cases hr; done)
        | (simp only [Option.map_eq_some_iff] at hr
           obtain ⟨v, hv, rfl⟩ := hr
           exact ⟨_, rfl⟩)
        | (exfalso; simp_all; done)
theorem get_ext {h g : Hp} {id : Nat} {o : Ob} (hi : h[id]? = some o) : (h ++ g)[id]? = some o := by
  rw [List.getElem?_append_left (lt_of_get hi)]; exact hi
theorem load_ext {t : TypeId} {x v : AV} {h g : Hp} (hl : X.loadA h t x = some v) : X.loadA (h ++ g) t x = some v := by
  unfold Ctx.loadA at hl ⊢
  split at hl
  · split at hl
    · rename_i hid; rw [get_ext hid]; exact hl
    cases hl
  · exact hl
  · exact hl
  · split at hl
    · rename_i hid; rw [get_ext hid]; exact hl
    cases hl
  cases hl
theorem ix_ext {t : TypeId} {x : AV} {i : Int} {c : C1} {h g : Hp} (hl : X.indexAddrM h t x i = some c) : X.indexAddrM (h ++ g) t x i = some c := by
  unfold Ctx.indexAddrM at hl ⊢
  split at hl
  · split at hl
    · rename_i hu hid; simp only [hu, get_ext hid]; exact hl
    cases hl
  · split at hl
    · rename_i hu hid; simp only [hu, get_ext hid]; exact hl
    cases hl
  exact hl
theorem msD_ext {d : Option TypeDesc} {id m o n : Nat} {l u : Option Int} {c : C1} {h g : Hp} (hl : msD X h id m o n l u d = some c) : msD X (h ++ g) id m o n l u d = some c := by
  unfold msD at hl ⊢
  split at hl
  · rename_i e
    unfold msP at hl ⊢
    split at hl
    · rename_i h1 h2; simp only [h1, get_ext h2]; exact hl
    cases hl
  cases hl
theorem su_ext {t : TypeId} {x : AV} {l u m : Option Int} {c : C1} {h g : Hp} (hl : X.sliceU h t x l u m = some c) : X.sliceU (h ++ g) t x l u m = some c := by
  unfold Ctx.sliceU at hl ⊢
  split at hl
  · exact msD_ext hl
  · exact msD_ext hl
  exact hl
theorem len_ext {t : TypeId} {x v : AV} {h g : Hp} (hl : X.lenM h t x = some v) : X.lenM (h ++ g) t x = some v := by
  unfold Ctx.lenM at hl ⊢
  split at hl
  · split at hl
    · rename_i hu hid; simp only [hu, get_ext hid]; exact hl
    cases hl
  · split at hl
    · rename_i hu hid; simp only [hu, get_ext hid]; exact hl
    cases hl
  · exact hl
  exact hl
theorem mapOf_ext {x : AV} {es : MapA} {h g : Hp} (hl : X.mapOf h x = some es) : X.mapOf (h ++ g) x = some es := by
  unfold Ctx.mapOf at hl ⊢
  split at hl
  · exact hl
  · split at hl
    · rename_i hid; rw [get_ext hid]; exact hl
    cases hl
  cases hl
theorem lookup_ext {t : TypeId} {x i v : AV} {ok : Bool} {h g : Hp} (hl : X.lookupA h t x i ok = some v) : X.lookupA (h ++ g) t x i ok = some v := by
  unfold Ctx.lookupA at hl ⊢
  simp only [Option.bind_eq_some_iff] at hl ⊢
  obtain ⟨ty, h1, es, h2, rest⟩ := hl
  exact ⟨ty, h1, es, mapOf_ext h2, rest⟩
theorem read_ext {ρ : Operand → AV} (hf : ∀ f, ρ (.func f) = .v (.c (.fn f []))) {h g : Hp} {o : Oper} {v : AV} {h1 : Hp} (hl : lvl X o ≤ 1) (hr : opR X ρ h o = some (.val v h1)) : opR X ρ (h ++ g) o = some (.val v (h ++ g)) := by
  by_cases h0 : lvl X o = 0
  · obtain ⟨v', he, hv⟩ := lvl0 hf h0 (fun _ _ => by simp) hr
    cases he
    exact hv _
  obtain ⟨dst, op, type, pos, after, guard⟩ := o
  cases op <;> simp only [lvl] at h0 hl <;> try (first | exact absurd trivial h0 | (exact absurd hl (by decide)))
  case buildSlice t n ps =>
    by_cases hu : X.uS t n = true
    · rw [if_pos hu] at hl; exact absurd hl (by decide)
    rw [if_neg hu] at h0; exact absurd rfl h0
  case slice t x lo hi mx =>
    by_cases hu : X.uT t = true
    · simp only [opR, if_pos hu, Option.bind_eq_some_iff, Option.map_eq_some_iff] at hr ⊢
      obtain ⟨q1, a1, q2, a2, q3, a3, c, hc, he⟩ := hr
      cases he
      exact ⟨q1, a1, q2, a2, q3, a3, c, su_ext hc, rfl⟩
    rw [if_neg hu] at h0; exact absurd rfl h0
  case load t x =>
    simp only [opR, Option.map_eq_some_iff] at hr ⊢
    obtain ⟨v', hv, he⟩ := hr
    cases he
    exact ⟨_, load_ext hv, rfl⟩
  case indexAddr t x i =>
    simp only [opR, Option.bind_eq_some_iff, Option.map_eq_some_iff] at hr ⊢
    obtain ⟨n, hn, c, hc, he⟩ := hr
    cases he
    exact ⟨n, hn, c, ix_ext hc, rfl⟩
  case lookup t x i ok =>
    simp only [opR, Option.map_eq_some_iff] at hr ⊢
    obtain ⟨v', hv, he⟩ := hr
    cases he
    exact ⟨_, lookup_ext hv, rfl⟩
  case call c =>
    obtain ⟨callee, args, argTypes⟩ := c
    cases callee with
    | invoke r m => exact absurd hl (by simp)
    | value f =>
      exfalso
      cases f with
      | func f =>
        simp only at h0 hl
        split at hl
        · rename_i hs
          rw [if_pos hs] at h0
          exact h0 rfl
        · rename_i hs
          rw [if_neg hs] at h0
          split at hl
          · rename_i hs2
            rw [if_pos hs2] at h0
            exact h0 rfl
          · exact absurd hl (by decide)
      | _ => exact absurd hl (by simp)
    | builtin b =>
      cases b <;> simp only at h0 hl <;> try (first | exact absurd trivial h0 | (exact absurd hl (by decide)) | (exact absurd rfl h0))
      simp only [opR, callA, builtinA] at hr ⊢
      split at hr
      all_goals first
        | (cases hr; done)
        | (simp only [Option.map_eq_some_iff] at hr
           obtain ⟨v', hv, he⟩ := hr
           cases he
           simp only [len_ext hv, Option.map_some]
           done)
        | (exfalso; simp_all; done)
theorem adds_ext {ρ : Operand → AV} {h : Hp} {o : Oper} {out : OpR} (ha : adds o = true) (hr : opR X ρ h o = some out) : ∃ v b, out = .val v (h ++ [b]) := by
  obtain ⟨dst, op, type, pos, after, guard⟩ := o
  cases op <;> simp only [adds] at ha <;> try (exact absurd ha (by decide))
  case alloc e =>
    simp only [opR, Option.bind_eq_some_iff, Option.map_eq_some_iff] at hr
    obtain ⟨z, _, cs, _, rfl⟩ := hr
    exact ⟨_, _, rfl⟩
  case box e x =>
    simp only [opR, Option.map_eq_some_iff] at hr
    obtain ⟨cs, _, rfl⟩ := hr
    exact ⟨_, _, rfl⟩
theorem ev_func (s : S) (f : FuncId) : X.ev s (.func f) = .v (.c (.fn f [])) := rfl
def Eqv (s s' : S) : Prop := s.h = s'.h ∧ ∀ t, s.get t = s'.get t
theorem Eqv.refl (s : S) : Eqv s s := ⟨rfl, fun _ => rfl⟩
theorem Eqv.trans {s1 s2 s3 : S} (h : Eqv s1 s2) (k : Eqv s2 s3) : Eqv s1 s3 := ⟨h.1.trans k.1, fun t => (h.2 t).trans (k.2 t)⟩
theorem Eqv.symm {s1 s2 : S} (h : Eqv s1 s2) : Eqv s2 s1 := ⟨h.1.symm, fun t => (h.2 t).symm⟩
theorem Eqv.ev {s s' : S} (h : Eqv s s') : X.ev s = X.ev s' := by
  funext x
  cases x <;> simp only [Ctx.ev]
  exact h.2 _
theorem get_putO (s : S) (d : Option Nat) (v : AV) (t : Nat) : (s.putO d v).get t = if d = some t then v else s.get t := by
  cases d with
  | none => simp [S.putO]
  | some d =>
    simp only [S.putO, look_put, Option.some.injEq]
theorem putO_h (s : S) (d : Option Nat) (v : AV) : (s.putO d v).h = s.h := by cases d <;> rfl
theorem Eqv.put {s s' : S} (h : Eqv s s') (d : Option Nat) (v : AV) : Eqv (s.putO d v) (s'.putO d v) :=
  ⟨by rw [putO_h, putO_h]; exact h.1, fun t => by rw [get_putO, get_putO, h.2 t]⟩
def st (X : Ctx) (ops : Array Oper) (o : Oper) (s : S) : Option S :=
  (wantA ops o s).bind fun w => if w then (opA X s o).bind fun
    | .val v h => some (({ s with h } : S).putO o.dst v)
    | .skip h => some (({ s with h } : S).putO o.dst .top)
    | .pan _ _ => none
  else some (s.putO o.dst (.tup []))
theorem st_step {ops : Array Oper} {o : Oper} {s s' : S} (h : st X ops o s = some s') : ∃ w, wantA ops o s = some w ∧ if w then stepA X o s = some (.normal, s') else s' = s.putO o.dst (.tup []) := by
  unfold st at h
  simp only [Option.bind_eq_some_iff] at h
  obtain ⟨w, hw, h⟩ := h
  refine ⟨w, hw, ?_⟩
  cases w with
  | false => simp only [Bool.false_eq_true, if_false, Option.some.injEq] at h ⊢; exact h.symm
  | true =>
    simp only [if_true, Option.bind_eq_some_iff] at h ⊢
    obtain ⟨out, ho, h⟩ := h
    unfold stepA
    rw [ho]
    cases out <;> simp only [Option.some.injEq] at h <;> first | (subst h; rfl) | cases h
theorem wantA_eqv {ops : Array Oper} {o : Oper} {s s' : S} (h : Eqv s s') : wantA ops o s = wantA ops o s' := by
  unfold wantA
  have : s.get = s'.get := funext h.2
  rw [this]
theorem st_eqv {ops : Array Oper} {o : Oper} {s s' s1 : S} (h : Eqv s s') (hs : st X ops o s = some s1) : ∃ s1', st X ops o s' = some s1' ∧ Eqv s1 s1' := by
  unfold st at hs ⊢
  rw [← wantA_eqv h]
  simp only [Option.bind_eq_some_iff] at hs
  obtain ⟨w, hw, hs⟩ := hs
  rw [hw]
  have hop : opA X s' o = opA X s o := by unfold opA; rw [← h.ev, h.1]
  cases w with
  | false =>
    simp only [Bool.false_eq_true, if_false, Option.some.injEq] at hs
    subst hs
    exact ⟨_, rfl, h.put _ _⟩
  | true =>
    simp only [if_true, Option.bind_eq_some_iff] at hs
    obtain ⟨out, ho, hs⟩ := hs
    simp only [Option.bind_some, if_true, hop, ho]
    have hh : ∀ h' : Hp, Eqv ({ s with h := h' } : S) ({ s' with h := h' } : S) := fun h' => ⟨rfl, h.2⟩
    cases out <;> simp only [Option.some.injEq] at hs <;> first | (subst hs; exact ⟨_, rfl, (hh _).put _ _⟩) | cases hs
theorem opR_congr {ρ ρ' : Operand → AV} {h : Hp} (o : Oper) (hρ : ∀ x ∈ o.op.operands, ρ x = ρ' x) : opR X ρ h o = opR X ρ' h o := by
  obtain ⟨dst, op, type, pos, after, guard⟩ := o
  have pairs : ∀ ps : Array (Nat × Operand), (∀ x ∈ ps.map (·.2), ρ x = ρ' x) → (ps.toList.map fun p => (p.1, ρ p.2)) = (ps.toList.map fun p => (p.1, ρ' p.2)) := fun ps hp =>
    List.map_congr_left fun p hm => by
      rw [hp p.2 (Array.mem_map.2 ⟨p, Array.mem_toList_iff.1 hm, rfl⟩)]
  cases op <;> simp only [Op.operands] at hρ <;> simp only [opR]
  case build t ps => rw [pairs ps fun x hx => hρ x (by simpa using hx)]
  case buildSlice t n ps => rw [pairs ps fun x hx => hρ x (by simpa using hx)]
  case call c =>
    have hargs : c.args.toList.map ρ = c.args.toList.map ρ' := List.map_congr_left fun x hx => hρ x (by simp [Call.operands]; right; exact Array.mem_toList_iff.1 hx)
    unfold callA
    rw [hargs]
    cases hc : c.callee with
    | value f => have hf : ρ f = ρ' f := hρ f (by simp [Call.operands, hc]); simp only [hf]
    | invoke r m => rfl
    | builtin b => rfl
  case slice t x lo hi mx =>
    have hx : ρ x = ρ' x := hρ x (by simp)
    have ho : ∀ y : Option Operand, (∀ z, y = some z → ρ z = ρ' z) → optI ρ y = optI ρ' y := fun y hy => by
      cases y with
      | none => rfl
      | some z => simp only [optI, hy z rfl]
    rw [hx, ho lo (fun z hz => hρ z (by simp [hz])), ho hi (fun z hz => hρ z (by simp [hz])), ho mx (fun z hz => hρ z (by simp [hz]))]
  case makeMap t r => cases r <;> rfl
  case mapUpdate t m k v =>
    have h1 : ρ m = ρ' m := hρ m (by simp)
    have h2 : ρ k = ρ' k := hρ k (by simp)
    have h3 : ρ v = ρ' v := hρ v (by simp)
    rw [h1, h2, h3]
  case entryStore t m k v =>
    have h1 : ρ m = ρ' m := hρ m (by simp)
    have h2 : ρ k = ρ' k := hρ k (by simp)
    have h3 : ρ v = ρ' v := hρ v (by simp)
    rw [h1, h2, h3]
  case range t x =>
    have h1 : ρ x = ρ' x := hρ x (by simp)
    rw [h1]
  case typeAssert x xt ty ok =>
    have h1 : ρ x = ρ' x := hρ x (by simp)
    cases ok <;> simp only [h1]
  case makeFunc fn first captured =>
    have hc : captured.toList.map ρ = captured.toList.map ρ' := List.map_congr_left fun x hx => hρ x (by simp; right; exact Array.mem_toList_iff.1 hx)
    cases fn <;> simp only [hc]
  all_goals (first | rfl | (simp_all; done))
theorem opA_put {ops : Array Oper} {o : Oper} {s : S} {d : Option Nat} {v : AV} (h : ∀ t, d = some t → t ∉ o.looksAt ops) (h' : Hp) : opR X (X.ev (s.putO d v)) h' o = opR X (X.ev s) h' o :=
  opR_congr o fun x hx => by
    cases x <;> simp only [Ctx.ev]
    rename_i t
    rw [get_putO, if_neg]
    intro hd
    refine h t hd (List.mem_append_left _ (List.mem_filterMap.2 ⟨.tmp t, by simpa using hx, rfl⟩))
theorem wantA_put {ops : Array Oper} {o : Oper} {s : S} {d : Option Nat} {v : AV} {h' : Hp} (h : ∀ t, d = some t → t ∉ o.looksAt ops) : wantA ops o (({ s with h := h' } : S).putO d v) = wantA ops o s := by
  unfold wantA
  cases hg : o.guard with
  | none => rfl
  | some gw =>
    obtain ⟨j, w⟩ := gw
    simp only
    cases hd : (ops[j]?).bind (·.dst) with
    | none => rfl
    | some t =>
      simp only [Option.map_some]
      rw [get_putO, if_neg]
      · rfl
      intro he
      exact h t he (by simp [Oper.looksAt, hg, hd])
theorem st_comm {ops : Array Oper} {oi oj : Oper} {s s1 s12 : S} (hap : oi.apart ops oj = true) (hc : commute X oi oj = true) (h1 : st X ops oi s = some s1) (h2 : st X ops oj s1 = some s12) :
    ∃ s2 s21, st X ops oj s = some s2 ∧ st X ops oi s2 = some s21 ∧ Eqv s12 s21 := by
  obtain ⟨ha, hb, hd⟩ := Oper.apart_spec hap
  unfold st at h1 h2
  simp only [Option.bind_eq_some_iff] at h1 h2
  obtain ⟨wi, hwi, h1⟩ := h1
  obtain ⟨wj, hwj, h2⟩ := h2
  -- what the two do, as values and heaps
  have shape : ∀ (o : Oper) (w : Bool) (s s' : S), (if w then (opA X s o).bind fun
      | .val v h => some (({ s with h } : S).putO o.dst v)
      | .skip h => some (({ s with h } : S).putO o.dst .top)
      | .pan _ _ => none
    else some (s.putO o.dst (.tup []))) = some s' → ∃ h v, s' = ({ s with h } : S).putO o.dst v ∧
      (w = false ∧ h = s.h ∧ v = .tup [] ∨ w = true ∧ (opR X (X.ev s) s.h o = some (.val v h) ∨ opR X (X.ev s) s.h o = some (.skip h) ∧ v = .top)) := by
    intro o w s s' h
    cases w with
    | false => simp only [Bool.false_eq_true, if_false, Option.some.injEq] at h; exact ⟨s.h, .tup [], h.symm, .inl ⟨rfl, rfl, rfl⟩⟩
    | true =>
      simp only [if_true, Option.bind_eq_some_iff] at h
      obtain ⟨out, ho, h⟩ := h
      unfold opA at ho
      cases out with
      | val v h' => simp only [Option.some.injEq] at h; exact ⟨h', v, h.symm, .inr ⟨rfl, .inl ho⟩⟩
      | skip h' => simp only [Option.some.injEq] at h; exact ⟨h', .top, h.symm, .inr ⟨rfl, .inr ⟨ho, rfl⟩⟩⟩
      | pan x h' => cases h
  obtain ⟨hi, vi, rfl, ci⟩ := shape oi wi s s1 h1
  obtain ⟨hj, vj, rfl, cj⟩ := shape oj wj _ s12 h2
  rw [wantA_put ha] at hwj
  have hev : X.ev (({ s with h := hi } : S).putO oi.dst vi) = X.ev (s.putO oi.dst vi) := by
    funext x
    cases x <;> simp only [Ctx.ev]
    rw [get_putO, get_putO]; rfl
  rw [hev, putO_h] at cj
  simp only at cj
  simp only [opA_put ha] at cj
  have fin : ∀ (h2 : Hp), (∃ hx, wj = false ∧ hx = s.h ∧ vj = .tup [] ∧ hx = h2 ∨ wj = true ∧ (opR X (X.ev s) s.h oj = some (.val vj h2) ∨ opR X (X.ev s) s.h oj = some (.skip h2) ∧ vj = .top)) →
      (wi = false ∧ hj = h2 ∧ vi = .tup [] ∨ wi = true ∧ (opR X (X.ev s) h2 oi = some (.val vi hj) ∨ opR X (X.ev s) h2 oi = some (.skip hj) ∧ vi = .top)) →
      ∃ s2 s21, st X ops oj s = some s2 ∧ st X ops oi s2 = some s21 ∧ Eqv (({ (({ s with h := hi } : S).putO oi.dst vi) with h := hj } : S).putO oj.dst vj) s21 := by
    intro h2 hx hy
    have e1 : st X ops oj s = some (({ s with h := h2 } : S).putO oj.dst vj) := by
      unfold st
      rw [hwj, Option.bind_some]
      obtain ⟨hx0, hx⟩ := hx
      rcases hx with ⟨rfl, rfl, rfl, rfl⟩ | ⟨rfl, hx | ⟨hx, rfl⟩⟩
      · rfl
      · simp only [if_true]; unfold opA; rw [hx]; rfl
      simp only [if_true]; unfold opA; rw [hx]; rfl
    have hev2 : ∀ h', opR X (X.ev (({ s with h := h2 } : S).putO oj.dst vj)) h' oi = opR X (X.ev s) h' oi := fun h' => by
      rw [opA_put hd]; rfl
    have e2 : st X ops oi (({ s with h := h2 } : S).putO oj.dst vj) = some (({ (({ s with h := h2 } : S).putO oj.dst vj) with h := hj } : S).putO oi.dst vi) := by
      unfold st
      rw [wantA_put hd, hwi, Option.bind_some]
      rcases hy with ⟨rfl, rfl, rfl⟩ | ⟨rfl, hy | ⟨hy, rfl⟩⟩
      · simp only [Bool.false_eq_true, if_false]
        congr 1
        cases oj.dst <;> rfl
      · simp only [if_true]; unfold opA; rw [hev2, putO_h, hy]; rfl
      simp only [if_true]; unfold opA; rw [hev2, putO_h, hy]; rfl
    refine ⟨_, _, e1, e2, ?_, fun t => ?_⟩
    · rw [putO_h, putO_h]
    rw [get_putO, get_putO]
    show (if oj.dst = some t then vj else (({ s with h := hi } : S).putO oi.dst vi).get t) = if oi.dst = some t then vi else (({ s with h := h2 } : S).putO oj.dst vj).get t
    rw [get_putO, get_putO]
    by_cases h3 : oi.dst = some t
    · have h4 : oj.dst ≠ some t := hb t h3
      rw [if_neg h4, if_pos h3, if_pos h3]
    rw [if_neg h3, if_neg h3]
    rfl
  unfold commute at hc
  simp only [Bool.or_eq_true, Bool.and_eq_true, beq_iff_eq, decide_eq_true_eq] at hc
  have hsame : ∀ (o : Oper) (w : Bool) (h' hh : Hp) (v : AV), lvl X o ≤ 1 → (w = false ∧ hh = h' ∧ v = .tup [] ∨ w = true ∧ (opR X (X.ev s) h' o = some (.val v hh) ∨ opR X (X.ev s) h' o = some (.skip hh) ∧ v = .top)) → hh = h' := by
    intro o w h' hh v hl hx
    rcases hx with ⟨_, h, _⟩ | ⟨_, hx | ⟨hx, _⟩⟩
    · exact h
    · obtain ⟨v', he⟩ := lvl1 (fun f => ev_func s f) hl (fun _ _ => by simp) hx; cases he; rfl
    obtain ⟨v', he⟩ := lvl1 (fun f => ev_func s f) hl (fun _ _ => by simp) hx; cases he
  have hany : ∀ (o : Oper) (w : Bool) (h' hh h'' : Hp) (v : AV), lvl X o = 0 → (w = false ∧ hh = h' ∧ v = .tup [] ∨ w = true ∧ (opR X (X.ev s) h' o = some (.val v hh) ∨ opR X (X.ev s) h' o = some (.skip hh) ∧ v = .top)) →
      (w = false ∧ h'' = h'' ∧ v = .tup [] ∨ w = true ∧ (opR X (X.ev s) h'' o = some (.val v h'') ∨ opR X (X.ev s) h'' o = some (.skip h'') ∧ v = .top)) := by
    intro o w h' hh h'' v hl hx
    rcases hx with ⟨h1, _, h3⟩ | ⟨h1, hx | ⟨hx, _⟩⟩
    · exact .inl ⟨h1, rfl, h3⟩
    · obtain ⟨v', he, hall⟩ := lvl0 (fun f => ev_func s f) hl (fun _ _ => by simp) hx; cases he; exact .inr ⟨h1, .inl (hall h'')⟩
    obtain ⟨v', he, _⟩ := lvl0 (fun f => ev_func s f) hl (fun _ _ => by simp) hx; cases he
  have pack : ∀ (h2 : Hp), (wj = false ∧ h2 = s.h ∧ vj = .tup [] ∨ wj = true ∧ (opR X (X.ev s) s.h oj = some (.val vj h2) ∨ opR X (X.ev s) s.h oj = some (.skip h2) ∧ vj = .top)) →
      (∃ hx, wj = false ∧ hx = s.h ∧ vj = .tup [] ∧ hx = h2 ∨ wj = true ∧ (opR X (X.ev s) s.h oj = some (.val vj h2) ∨ opR X (X.ev s) s.h oj = some (.skip h2) ∧ vj = .top)) := fun h2 h => by
    rcases h with ⟨a1, a2, a3⟩ | h
    · exact ⟨s.h, .inl ⟨a1, rfl, a3, a2.symm⟩⟩
    exact ⟨s.h, .inr h⟩
  rcases hc with ((hc | hc) | hc) | hc
  · -- the first looks at no object
    have e := hsame oi wi s.h hi vi (by omega) ci
    subst e
    refine fin hj (pack hj cj) ?_
    have := hany oi wi s.h s.h hj vi hc ci
    rcases this with ⟨b1, _, b3⟩ | h
    · exact .inl ⟨b1, rfl, b3⟩
    exact .inr h
  · -- the second looks at no object
    have e := hsame oj wj hi hj vj (by omega) cj
    subst e
    exact fin s.h (pack s.h (hany oj wj _ _ s.h vj hc cj)) ci
  · have e := hsame oi wi s.h hi vi hc.1 ci
    subst e
    have e := hsame oj wj s.h hj vj hc.2 cj
    subst e
    exact fin s.h (pack s.h cj) ci
  -- the second lays a new variable
  have e := hsame oi wi s.h hi vi hc.1 ci
  subst e
  have hext : ∃ g, hj = s.h ++ g := by
    rcases cj with ⟨_, h2, _⟩ | ⟨_, h2 | ⟨h2, _⟩⟩
    · exact ⟨[], by rw [h2]; simp⟩
    · obtain ⟨v', b, he⟩ := adds_ext hc.2 h2; cases he; exact ⟨_, rfl⟩
    obtain ⟨v', b, he⟩ := adds_ext hc.2 h2; cases he
  obtain ⟨g, rfl⟩ := hext
  refine fin (s.h ++ g) (pack _ cj) ?_
  rcases ci with ⟨b1, _, b3⟩ | ⟨b1, hx | ⟨hx, _⟩⟩
  · exact .inl ⟨b1, rfl, b3⟩
  · exact .inr ⟨b1, .inl (read_ext (fun f => ev_func s f) hc.1 hx)⟩
  obtain ⟨v', he⟩ := lvl1 (fun f => ev_func s f) hc.1 (fun _ _ => by simp) hx; cases he
end
end Go.Ab
namespace Go.Ab
open Go.RowKit
section
variable {X : Ctx} {A : Actn} {md : Region.Mode} {ops : Array Oper}
def opAt (X : Ctx) (ops : Array Oper) (i : Nat) (K : S → Prop) (s : S) : Prop :=
  match ops[i]? with
  | none => K s
  | some o => ∃ s', st X ops o s = some s' ∧ K s'
def anyA (X : Ctx) (md : Region.Mode) (ops : Array Oper) (Q : S → Prop) : Nat → Array Bool → S → Prop
  | 0, listed, s => Region.ready md ops listed = [] ∧ Q s
  | fuel + 1, listed, s =>
    (Region.ready md ops listed = [] → Q s) ∧ ∀ i ∈ Region.ready md ops listed, opAt X ops i (anyA X md ops Q fuel (listed.setIfInBounds i true)) s
theorem opAt_eqv {i : Nat} {K : S → Prop} {s s' : S} (hK : ∀ s s', Eqv s s' → K s → K s') (h : Eqv s s') (ho : opAt X ops i K s) : opAt X ops i K s' := by
  unfold opAt at *
  split at ho
  · exact hK _ _ h ho
  obtain ⟨s1, h1, h2⟩ := ho
  obtain ⟨s1', h3, h4⟩ := st_eqv h h1
  exact ⟨s1', h3, hK _ _ h4 h2⟩
theorem opAt_mono {i : Nat} {K K' : S → Prop} {s : S} (hK : ∀ s, K s → K' s) (ho : opAt X ops i K s) : opAt X ops i K' s := by
  unfold opAt at *
  split at ho
  · exact hK _ ho
  obtain ⟨s1, h1, h2⟩ := ho
  exact ⟨s1, h1, hK _ h2⟩
theorem anyA_eqv {Q : S → Prop} (hQ : ∀ s s', Eqv s s' → Q s → Q s') : ∀ (fuel : Nat) (listed : Array Bool) (s s' : S), Eqv s s' → anyA X md ops Q fuel listed s → anyA X md ops Q fuel listed s'
  | 0, _, _, _, h, ⟨h1, h2⟩ => ⟨h1, hQ _ _ h h2⟩
  | fuel + 1, _, _, _, h, ⟨h1, h2⟩ => ⟨fun h0 => hQ _ _ h (h1 h0), fun i hi => opAt_eqv (fun _ _ => anyA_eqv hQ fuel _ _ _) h (h2 i hi)⟩
def Closed (md : Region.Mode) (ops : Array Oper) (listed : Array Bool) : Prop :=
  ∀ (k : Nat) (o : Oper), ops[k]? = some o → listed.getD k false = true → ∀ e ∈ o.after, Region.binds md e = true → listed.getD e.on false = true
def behS (md : Region.Mode) (ops : Array Oper) (i : Nat) : Nat → Nat
  | 0 => 2 ^ i
  | n + 1 => if (match ops[n]? with | none => false | some o => o.after.any fun e => Region.binds md e && (behS md ops i n).testBit e.on) then behS md ops i n ||| 2 ^ n else behS md ops i n
def behB (md : Region.Mode) (ops : Array Oper) (i n j : Nat) : Bool := (behS md ops i n).testBit j && !(j == i)
theorem closed_sweep {listed : Array Bool} {i : Nat} (hc : Closed md ops listed) (hi : listed.getD i false = false) : ∀ (n k : Nat), (behS md ops i n).testBit k = true → listed.getD k false = false ∧ (k = i ∨ k ∉ Region.ready md ops listed)
  | 0, k, h => by
    unfold behS at h
    rw [Nat.testBit_two_pow] at h
    have : i = k := by simpa using h
    exact ⟨this ▸ hi, .inl this.symm⟩
  | n + 1, k, h => by
    unfold behS at h
    cases ho : ops[n]? with
    | none =>
      rw [ho] at h
      exact closed_sweep hc hi n k (by simpa using h)
    | some o =>
      rw [ho] at h
      simp only at h
      by_cases hw : (o.after.any fun e => Region.binds md e && (behS md ops i n).testBit e.on) = true
      · rw [if_pos hw, Nat.testBit_or, Bool.or_eq_true] at h
        rcases h with h | h
        · exact closed_sweep hc hi n k h
        rw [Nat.testBit_two_pow] at h
        have hnk : n = k := by simpa using h
        subst hnk
        simp only [Array.any_eq_true, Bool.and_eq_true] at hw
        obtain ⟨j, hj, hb, ht⟩ := hw
        have hl := (closed_sweep hc hi n _ ht).1
        refine ⟨?_, .inr fun hr => ?_⟩
        · rw [← Bool.not_eq_true]
          intro hk
          have := hc n o ho hk _ (Array.getElem_mem hj) hb
          rw [hl] at this; cases this
        obtain ⟨_, o', ho', hall⟩ := mem_ready.1 hr
        rw [ho] at ho'
        cases ho'
        have := hall _ (Array.getElem_mem hj) hb
        rw [hl] at this; cases this
      rw [if_neg hw] at h
      exact closed_sweep hc hi n k h
theorem unlisted_of {listed : Array Bool} {i : Nat} (h : listed.getD i true = false) : listed.getD i false = false := by
  rcases Nat.lt_or_ge i listed.size with h' | h'
  · simp [h'] at h ⊢; exact h
  simp [Array.getElem?_eq_none h'] at h
theorem ready_beh {listed : Array Bool} {i j : Nat} (hc : Closed md ops listed) (hi : i ∈ Region.ready md ops listed) (hj : j ∈ Region.ready md ops listed) (n : Nat) : behB md ops i n j = false := by
  rw [← Bool.not_eq_true]
  intro h
  unfold behB at h
  simp only [Bool.and_eq_true, Bool.not_eq_true', beq_eq_false_iff_ne] at h
  rcases (closed_sweep hc (unlisted_of (mem_ready.1 hi).1) n j h.1).2 with h' | h'
  · exact h.2 h'
  exact h' hj
theorem closed_set {listed : Array Bool} {j : Nat} (hc : Closed md ops listed) (hj : j ∈ Region.ready md ops listed) : Closed md ops (listed.setIfInBounds j true) := by
  intro k o ho hk e he hb
  refine getD_set_true ?_
  by_cases hkj : j = k
  · subst hkj
    obtain ⟨_, o', ho', hall⟩ := mem_ready.1 hj
    rw [ho] at ho'
    cases ho'
    exact hall e he hb
  rw [getD_set_ne false hkj] at hk
  exact hc k o ho hk e he hb
theorem closed_none {n : Nat} : Closed md ops (Array.replicate n false) := by
  intro k o _ hk
  rw [Array.getD_eq_getD_getElem?] at hk
  rcases Nat.lt_or_ge k n with h' | h'
  · simp [h'] at hk
  simp [h'] at hk
theorem anyA_first {Q : S → Prop} (hQ : ∀ s s', Eqv s s' → Q s → Q s') {i : Nat} {oi : Oper} (hi : ops[i]? = some oi) :
    ∀ (fuel : Nat) (listed : Array Bool) (s s1 : S),
      (∀ j oj, ops[j]? = some oj → j ≠ i → listed.getD j true = false → behB md ops i ops.size j = false → oi.apart ops oj = true ∧ commute X oi oj = true) → Closed md ops listed →
      i ∈ Region.ready md ops listed → st X ops oi s = some s1 →
      anyA X md ops Q fuel (listed.setIfInBounds i true) s1 → anyA X md ops Q (fuel + 1) listed s := by
  intro fuel
  induction fuel with
  | zero =>
    intro listed s s1 _ _ hr hy H
    refine ⟨fun h => (by rw [h] at hr; cases hr), fun j hj => ?_⟩
    by_cases hji : j = i
    · subst hji
      unfold opAt
      rw [hi]
      exact ⟨s1, hy, H⟩
    · have := ready_mono hj hji
      rw [H.1] at this
      cases this
  | succ fuel ih =>
    intro listed s s1 hfree hcl hr hy H
    refine ⟨fun h => (by rw [h] at hr; cases hr), fun j hj => ?_⟩
    by_cases hji : j = i
    · subst hji
      unfold opAt
      rw [hi]
      exact ⟨s1, hy, H⟩
    have h1 := H.2 j (ready_mono hj hji)
    obtain ⟨hjun, oj, hoj, hall⟩ := mem_ready.1 hj
    have hnot := ready_beh hcl hr hj ops.size
    unfold opAt at h1 ⊢
    rw [hoj] at h1 ⊢
    obtain ⟨s12, h2, h3⟩ := h1
    obtain ⟨hap, hco⟩ := hfree j oj hoj hji hjun hnot
    obtain ⟨s2, s21, h4, h5, h6⟩ := st_comm hap hco hy h2
    have hfree' : ∀ k ok, ops[k]? = some ok → k ≠ i → (listed.setIfInBounds j true).getD k true = false →
        behB md ops i ops.size k = false → oi.apart ops ok = true ∧ commute X oi ok = true := fun k ok hk hki hun hno => by
      refine hfree k ok hk hki ?_ hno
      by_cases hjk : j = k
      · subst hjk; exact hjun
      rw [getD_set_ne true hjk] at hun; exact hun
    refine ⟨s2, h4, ih (listed.setIfInBounds j true) s2 s21 hfree' (closed_set hcl hj) (ready_mono hr (Ne.symm hji)) h5 ?_⟩
    rw [Array.setIfInBounds_comm _ _ hji]
    exact anyA_eqv hQ _ _ _ _ h6 h3
def freeA (X : Ctx) (md : Region.Mode) (ops : Array Oper) (listed : Array Bool) (i : Nat) : Bool :=
  (List.range ops.size).all fun j =>
    match ops[i]?, ops[j]? with
    | some oi, some oj => j == i || listed.getD j true || (oi.apart ops oj && commute X oi oj) || behB md ops i ops.size j
    | _, _ => true
theorem freeA_spec {i : Nat} {oi : Oper} {listed : Array Bool} (hi : ops[i]? = some oi) (h : freeA X md ops listed i = true) (j : Nat) (oj : Oper) (hj : ops[j]? = some oj) (hji : j ≠ i)
    (hun : listed.getD j true = false) (hno : behB md ops i ops.size j = false) : oi.apart ops oj = true ∧ commute X oi oj = true := by
  unfold freeA at h
  rw [List.all_eq_true] at h
  have hjl : j < ops.size := (Array.getElem?_eq_some_iff.1 hj).1
  have := h j (List.mem_range.2 hjl)
  simp only [hi, hj, Bool.or_eq_true, beq_iff_eq, Bool.and_eq_true] at this
  rcases this with ((h1 | h1) | h1) | h1
  · exact absurd h1 hji
  · rw [hun] at h1; cases h1
  · exact h1
  rw [hno] at h1; cases h1
def lexA (X : Ctx) (md : Region.Mode) (ops : Array Oper) : Nat → Nat → Array Bool → Bool
  | 0, _, listed => (Region.ready md ops listed).isEmpty
  | fuel + 1, k, listed => (Region.ready md ops listed).contains k && freeA X md ops listed k && lexA X md ops fuel (k + 1) (listed.setIfInBounds k true)
theorem anyA_lex {Q : S → Prop} (hQ : ∀ s s', Eqv s s' → Q s → Q s') : ∀ (l : List Oper) (k : Nat) (listed : Array Bool) (s s' : S), (∀ j, l[j]? = ops[k + j]?) → Closed md ops listed →
    lexA X md ops l.length k listed = true → runOps X ops l s = some (.normal, s') → Q s' → anyA X md ops Q l.length listed s
  | [], _, _, s, s', _, _, hB, h, hq => by
    simp only [runOps, Option.some.injEq, Prod.mk.injEq, true_and] at h
    subst h
    exact ⟨by simpa [lexA] using hB, hq⟩
  | o :: l, k, listed, s, s', hl, hcl, hB, h, hq => by
    have h0 : ops[k]? = some o := by simpa using (hl 0).symm
    simp only [List.length_cons, lexA, Bool.and_eq_true] at hB
    obtain ⟨⟨hr, hf⟩, hB'⟩ := hB
    have hst : ∃ s1, st X ops o s = some s1 ∧ runOps X ops l s1 = some (.normal, s') := by
      simp only [runOps, Option.bind_eq_some_iff] at h
      obtain ⟨w, hw, h⟩ := h
      cases w with
      | false =>
        simp only [Bool.false_eq_true, if_false] at h
        exact ⟨_, by simp [st, hw], h⟩
      | true =>
        simp only [if_true, Option.bind_eq_some_iff] at h
        obtain ⟨⟨ex, s1⟩, h1, h⟩ := h
        cases ex <;> simp only [Option.some.injEq, Prod.mk.injEq] at h <;> try (cases h.1; done)
        refine ⟨s1, ?_, h⟩
        unfold stepA at h1
        unfold st
        rw [hw]
        simp only [Option.bind_some, if_true]
        cases hop : opA X s o with
        | none => simp [hop] at h1
        | some out =>
          simp only [hop, Option.map_some, Option.some.injEq, Option.bind_some] at h1 ⊢
          cases out <;> simp only [Prod.mk.injEq] at h1 <;> first | (obtain ⟨_, rfl⟩ := h1; rfl) | (cases h1.1)
    obtain ⟨s1, h1, h2⟩ := hst
    exact anyA_first hQ h0 l.length listed s s1 (freeA_spec h0 hf) hcl (by simpa using hr) h1
      (anyA_lex hQ l (k + 1) _ s1 s' (fun j => by have := hl (j + 1); simpa [Nat.add_assoc, Nat.add_comm 1 j] using this) (closed_set hcl (by simpa using hr)) hB' h2 hq)
theorem anyA_sim (hK : KOk X) {Q : Exit → Act → World → Prop} {QA : S → Prop} {n m : Nat} {E0 : Env} {h0 : Hp} (hfit : ∀ (i : Nat) (o : Oper), ops[i]? = some o → ∀ t, o.dst = some t → t < m)
    (hQ : ∀ (s' : S) (a' : Act) (E' : Env), QA s' → Evo n E0 h0 E' s'.h → Rel A E' s' a' E'.w → a'.tmps.size = m → Q .normal a' E'.w) :
    ∀ (fuel : Nat) (listed : Array Bool) (s : S) (a : Act) (E : Env), Now X A E s a → Evo n E0 h0 E s.h → a.tmps.size = m → anyA X md ops QA fuel listed s → wpAny X.P md ops Q fuel listed a E.w
  | 0, listed, s, a, E, hn, ev, hm, ⟨h1, h2⟩ => ⟨h1, hQ s a E h2 ev hn.rel hm⟩
  | fuel + 1, listed, s, a, E, hn, ev, hm, ⟨h1, h2⟩ => by
    refine ⟨fun h => hQ s a E (h1 h) ev hn.rel hm, fun i hi => ?_⟩
    have := h2 i hi
    unfold opAt at this
    unfold wpOp
    split at this
    · rename_i ho
      rw [ho]
      exact anyA_sim hK hfit hQ fuel _ s a E hn ev hm this
    rename_i o ho
    rw [ho]
    simp only
    obtain ⟨s', hs, h3⟩ := this
    obtain ⟨w, hw, hs⟩ := st_step hs
    rw [want_sim hn hw]
    cases w with
    | false =>
      simp only [Bool.false_eq_true, if_false] at hs ⊢
      subst hs
      have hrel := hn.rel.put (Evo.refl (Nat.le_refl _)) hn.rel.env (d := o.dst) (v := .tup []) (u := undef) (fun t ht => by rw [hm]; exact hfit i o ho t ht) skp_rel
      have hh : (s.putO o.dst (.tup [])).h = s.h := putO_h _ _ _
      exact anyA_sim hK hfit hQ fuel _ (s.putO o.dst (.tup [])) (a.put o.dst undef) E ⟨hn.G, hrel⟩ (by rw [hh]; exact ev) (by rw [put_size]; exact hm) h3
    | true =>
      simp only [if_true] at hs ⊢
      left
      refine oper_sim (n := s.h.length) hK hn (Nat.le_refl _) hs (fun t ht => by rw [hm]; exact hfit i o ho t ht) (fun _ a' E' ev' hrel hsz => ?_) (fun x he => by cases he)
      exact anyA_sim hK hfit hQ fuel _ s' a' E' ⟨hn.G, hrel⟩ (ev.trans ev' ev.len) (hsz.trans hm) h3
def opsOf (ops : Array Oper) : List Nat → List Oper
  | [] => []
  | k :: r => match ops[k]? with | some o => o :: opsOf ops r | none => opsOf ops r
def okCode (X : Ctx) (m : Nat) : Code → Bool
  | .region id ops draw => ops.all (fun o => match o.dst with | some t => decide (t < m) | none => true) &&
      (!draw || X.E id || lexA X .any ops ops.size 0 (Array.replicate ops.size false))
  | .seq x y => okCode X m x && okCode X m y
  | .cond _ x y => okCode X m x && okCode X m y
  | .block _ c => okCode X m c
  | .loop c => okCode X m c
  | .skip | .exit _ | .ret => true
  | _ => false
def Wk (n : Nat) (s s' : S) : Prop := ∀ (A : Actn) (E : Env) (a : Act) (w : World), n ≤ s.h.length → Rel A E s a w → ∃ E', Evo n E s.h E' s'.h ∧ Rel A E' s' a w
def Lp (n : Nat) (step : S → (Ex → S → Prop) → Prop) (s : S) (Q : Ex → S → Prop) : Prop :=
  ∃ (σ : Type) (I : σ → Prop) (sta : σ → S) (μ : σ → Nat), (∃ x, Wk n s (sta x) ∧ I x) ∧
    ∀ x, I x → step (sta x) (fun ex s' => match ex with
      | .normal => ∃ y, Wk n s' (sta y) ∧ I y ∧ μ y < μ x
      | ex => Q ex s')
def blk (n id : Nat) (Q : Ex → S → Prop) : Ex → S → Prop
  | .exit i, s => if i = id then ∃ s', Wk n s s' ∧ Q .normal s' else Q (.exit i) s
  | e, s => Q e s
def bIs (v : AV) : Option Bool → Prop
  | some b => v = .b b
  | none => v = .v (.c .ub)
def awp (X : Ctx) : Code → S → (Ex → S → Prop) → Prop
  | .skip, s, Q => Q .normal s
  | .region id ops draw, s, Q => if (draw && X.E id) = true then anyA X .any ops (fun s1 => ∃ s', Eqv s' s1 ∧ Q .normal s') ops.toList.length (Array.replicate ops.size false) s
    else ∃ ex s', runOps X ops ops.toList s = some (ex, s') ∧ (draw = true → ex = .normal) ∧ Q ex s'
  | .seq x y, s, Q => awp X x s (fun ex s' => match ex with | .normal => awp X y s' Q | ex => Q ex s')
  | .cond c x y, s, Q => ∃ b, bIs (X.ev s c) b ∧ (b ≠ some false → awp X x s Q) ∧ (b ≠ some true → awp X y s Q)
  | .block id c, s, Q => awp X c s (blk s.h.length id Q)
  | .loop c, s, Q => Lp s.h.length (awp X c) s Q
  | .exit id, s, Q => Q (.exit id) s
  | .ret, s, Q => Q .ret s
  | _, _, _ => False
theorem Evo.weak {n m : Nat} {E E' : Env} {h h' : Hp} (ev : Evo m E h E' h') (hn : n ≤ m) : Evo n E h E' h' where
  frz := ev.frz
  same := ev.same
  keep id hid := ev.keep id (by omega)
  tok id hid := ev.tok id (by omega)
  len := Nat.le_trans hn ev.len
theorem exrel_normal {E : Env} {h : Hp} {e : Exit} (he : ExRel E h .normal e) : e = .normal := by cases e <;> first | rfl | exact he.elim
theorem exrel_normal' {E : Env} {h : Hp} {ex : Ex} (he : ExRel E h ex .normal) : ex = .normal := by cases ex <;> first | rfl | exact he.elim
theorem then_ne {K : Act → World → Prop} {Q : Exit → Act → World → Prop} {e : Exit} {a : Act} {w : World} (h : e ≠ .normal) : Exit.then K Q e a w = Q e a w := by cases e <;> first | rfl | exact absurd rfl h
theorem wp_loop_by {σ : Type} {P : Program} {c : Code} {Q : Exit → Act → World → Prop} {a : Act} {w : World} (R : σ → Act → World → Prop) (μ : σ → Nat) (x0 : σ) (h0 : R x0 a w)
    (round : ∀ x a w, R x a w → c.wp P (Exit.then (fun a' w' => ∃ y, R y a' w' ∧ μ y < μ x) Q) a w) : (Code.loop c).wp P Q a w := by
  intro b k cs
  have key : ∀ (n : Nat) (x : σ) (a : Act) (w : World), μ x < n → R x a w →
      ∃ e a' w', Q e a' w' ∧ Arrives P (lone (b.at a (.code c :: .inLoop c :: k)) cs w) b k cs e a' w' := by
    intro n
    induction n with
    | zero => intro x a w hx; omega
    | succ n ih =>
      intro x a w hx hR
      obtain ⟨e, a1, w1, hq, har⟩ := round x a w hR b (.inLoop c :: k) cs
      by_cases he : e = .normal
      · subst he
        obtain ⟨y, hy, hlt⟩ := hq
        obtain ⟨e2, a2, w2, hq2, har2⟩ := ih y a1 w1 (by omega) hy
        exact ⟨e2, a2, w2, hq2, .of_steps (Steps.trans har (.one step_inLoop)) har2⟩
      rw [then_ne he] at hq
      exact ⟨e, a1, w1, hq, .pass (x := .inLoop c) rfl (fun _ _ => .inl he) har⟩
  obtain ⟨e, a', w', hq, har⟩ := key _ x0 a w (Nat.lt_succ_self _) h0
  exact ⟨e, a', w', hq, .of_steps (.one step_loop) har⟩
def Post (A : Actn) (n m : Nat) (E : Env) (h : Hp) (Q : Ex → S → Prop) : Exit → Act → World → Prop := fun e a' w' =>
  ∃ (ex : Ex) (s' : S) (E' : Env), Evo n E h E' s'.h ∧ Rel A E' s' a' w' ∧ a'.tmps.size = m ∧ ExRel E' s'.h ex e ∧ Q ex s'
theorem bIs_inv {E : Env} {h : Hp} {v : AV} {u : Value} {b : Option Bool} (hb : bIs v b) (hr : v.rel E h u) : ∃ b', u = .bool b' ∧ (b' = true → b ≠ some false) ∧ (b' = false → b ≠ some true) := by
  cases b with
  | some b =>
    have hb : v = .b b := hb
    subst hb
    exact ⟨b, bool_inv (rel_d hr), (fun h e => by cases e; cases h), (fun h e => by cases e; cases h)⟩
  | none =>
    have hb : v = .v (.c .ub) := hb
    subst hb
    obtain ⟨b, hb⟩ : ∃ b, u = .bool b := hr
    exact ⟨b, hb, (fun _ e => by cases e), (fun _ e => by cases e)⟩
theorem awp_sim (hK : KOk X) (hm : X.P.follows .mixedOrders = true) {m : Nat} : ∀ (c : Code) (s : S) (Q : Ex → S → Prop) (a : Act) (E : Env), okCode X m c = true → awp X c s Q → Now X A E s a → a.tmps.size = m →
    c.wp X.P (Post A s.h.length m E s.h Q) a E.w
  | .skip, s, Q, a, E, _, h, hn, hs => wp_skip ⟨.normal, s, E, Evo.refl (Nat.le_refl _), hn.rel, hs, trivial, h⟩
  | .exit id, s, Q, a, E, _, h, hn, hs => wp_exit ⟨.exit id, s, E, Evo.refl (Nat.le_refl _), hn.rel, hs, rfl, h⟩
  | .ret, s, Q, a, E, _, h, hn, hs => wp_ret ⟨.ret, s, E, Evo.refl (Nat.le_refl _), hn.rel, hs, trivial, h⟩
  | .region id ops draw, s, Q, a, E, hok, h, hn, hs => by
    simp only [okCode, Bool.and_eq_true] at hok
    obtain ⟨hfit, hlex⟩ := hok
    have hfit' : ∀ (i : Nat) (o : Oper), ops[i]? = some o → ∀ t, o.dst = some t → t < m := fun i o ho t ht => by
      rw [Array.all_eq_true_iff_forall_mem] at hfit
      have := hfit o (Array.mem_of_getElem? ho)
      simpa [ht] using this
    cases draw with
    | false =>
      simp only [awp, Bool.false_and, Bool.false_eq_true, if_false] at h
      obtain ⟨ex, s', hr, hd, hq⟩ := h
      refine wp_region_list (ops_sim hK ops.toList E s a s.h.length ex s' hn (Nat.le_refl _) hr (fun o ho t ht => ?_) (fun e a' E' ev hrel hsz he => ⟨ex, s', E', ev, hrel, hsz.trans hs, he, hq⟩))
      obtain ⟨i, hi⟩ := List.getElem?_of_mem ho
      rw [hs]
      exact hfit' i o (by simpa using hi) t ht
    | true =>
      have hany : anyA X .any ops (fun s1 => ∃ s', Eqv s' s1 ∧ Q .normal s') ops.toList.length (Array.replicate ops.size false) s := by
        cases hE : X.E id with
        | true =>
          simp only [awp, hE, Bool.and_self, if_true] at h
          exact h
        | false =>
          simp only [awp, hE, Bool.and_false, Bool.false_eq_true, if_false] at h
          obtain ⟨ex, s', hr, hd, hq⟩ := h
          have hex := hd trivial
          subst hex
          have hlex' : lexA X .any ops ops.size 0 (Array.replicate ops.size false) = true := by simpa [hE] using hlex
          exact anyA_lex (X := X) (md := .any) (ops := ops) (fun s1 s2 h12 ⟨s3, h1, h3⟩ => ⟨s3, h1.trans h12, h3⟩) ops.toList 0 (Array.replicate ops.size false) s s' (by simp) closed_none (by simpa using hlex') hr ⟨s', Eqv.refl _, hq⟩
      -- one draw
      let E1 : Env := { E with w := { E.w with drawn := E.w.drawn + 1 } }
      have ev1 : Evo s.h.length E s.h E1 s.h := ⟨fun _ _ h => h, fun _ _ _ => rfl, fun _ _ o h _ => ⟨⟨o, h, rfl⟩, rfl⟩, fun _ _ k _ c h => ⟨k, c, h, Nat.le_refl _, fun _ => ⟨rfl, fun _ vs T _ hb => ⟨vs, T, hb, rfl⟩⟩⟩, Nat.le_refl _⟩
      have hok1 : EnvOk A E1 s.h := by
        have h0 := hn.rel.env
        refine ⟨h0.below.trans ⟨rfl, rfl, rfl, Nat.le_refl _, fun _ _ => rfl⟩, h0.lt, h0.old, h0.f0, h0.inj, h0.base, fun i o ho => ?_, fun g xs hg => (h0.glob g xs hg).evo ev1, h0.ginv, fun hD => Nat.le_trans (h0.drw hD) (Nat.le_succ _)⟩
        have := h0.ob i o ho
        cases o with
        | box cs => obtain ⟨b, vs, T, h1, h2, h3, h4⟩ := this; exact ⟨b, vs, T, h1, h2, h3.evo ev1 (Nat.le_refl _), h4⟩
        | tok n z c => cases c with
          | none => exact this
          | some ds => exact ⟨this.1, this.2.imp (fun h => h) fun ⟨b, vs, T, h1, h2, h3, h4, h5⟩ => ⟨b, vs, T, h1, h2, h3, h4.evo ev1 (Nat.le_refl _), h5⟩⟩
        | map es clock => obtain ⟨b, ents, h1, h2, h3, h4, h5⟩ := this; exact ⟨b, ents, h1, h2, h3, h4, fun j p hj => let ⟨e, he, g1, g2, g3⟩ := h5 j p hj; ⟨e, he, g1, g2.evo ev1, g3.evo ev1⟩⟩
        | _ => exact this
      have hn1 : Now X A E1 s a := ⟨hn.G, hok1, rfl, hn.rel.defers, fun t => (hn.rel.tmps t).evo ev1 (Nat.le_refl _)⟩
      refine wp_region_any hm ?_
      have hsz : ops.toList.length = ops.size := by simp
      rw [← hsz]
      refine anyA_sim (m := m) (n := s.h.length) (E0 := E) (h0 := s.h) hK hfit' (fun s1 a' E' (hqq : ∃ s', Eqv s' s1 ∧ Q .normal s') ev hrel hsz' => by
        obtain ⟨s', hq1, hq⟩ := hqq
        exact ⟨.normal, s', E', by rw [hq1.1]; exact ev, ⟨by rw [hq1.1]; exact hrel.env, hrel.world, hrel.defers, fun t => by rw [hq1.1, hq1.2 t]; exact hrel.tmps t⟩, hsz', trivial, hq⟩) ops.toList.length _ s a E1 hn1 ev1 hs ?_
      rw [← hsz] at hany
      exact hany
  | .seq x y, s, Q, a, E, hok, h, hn, hs => by
    simp only [okCode, Bool.and_eq_true] at hok
    refine wp_seq (wp_mono (awp_sim hK hm x s _ a E hok.1 h hn hs) fun e a1 w1 ⟨ex, s1, E1, ev, hrel, hsz, he, hq⟩ => ?_)
    by_cases hex : ex = .normal
    · subst hex
      have := exrel_normal he
      subst this
      have hw := hrel.world
      subst hw
      exact wp_mono (awp_sim hK hm y s1 Q a1 E1 hok.2 hq ⟨hn.G, hrel⟩ hsz) fun e a2 w2 ⟨ex, s2, E2, ev2, hrel2, hsz2, he2, hq2⟩ => ⟨ex, s2, E2, ev.trans ev2 ev.len, hrel2, hsz2, he2, hq2⟩
    · have hne : e ≠ .normal := fun h => hex (exrel_normal' (h ▸ he))
      rw [then_ne hne]
      exact ⟨ex, s1, E1, ev, hrel, hsz, he, by cases ex <;> first | exact absurd rfl hex | exact hq⟩
  | .cond c x y, s, Q, a, E, hok, h, hn, hs => by
    simp only [okCode, Bool.and_eq_true] at hok
    obtain ⟨b, hb, h1, h2⟩ := h
    have hr := ev_rel hn c
    obtain ⟨b', hb', i1, i2⟩ := bIs_inv hb hr
    refine wp_cond_split hb' (fun ht => awp_sim hK hm x s Q a E hok.1 (h1 (i1 ht)) hn hs) (fun hf => awp_sim hK hm y s Q a E hok.2 (h2 (i2 hf)) hn hs)
  | .block id c, s, Q, a, E, hok, h, hn, hs => by
    refine wp_block (wp_mono (awp_sim hK hm c s _ a E hok h hn hs) fun e a1 w1 ⟨ex, s1, E1, ev, hrel, hsz, he, hq⟩ => ?_)
    cases ex with
    | exit i =>
      cases e <;> try (exact he.elim)
      have he' : i = _ := he
      subst he'
      simp only [Exit.inBlock, blk] at hq ⊢
      split at hq
      · rename_i hid
        rw [if_pos hid]
        obtain ⟨s2, hw, hq⟩ := hq
        obtain ⟨E2, ev2, hrel2⟩ := hw A E1 a1 w1 ev.len hrel
        exact ⟨.normal, s2, E2, ev.trans ev2 (Nat.le_refl _), hrel2, hsz, trivial, hq⟩
      · rename_i hid
        rw [if_neg hid]
        exact ⟨.exit i, s1, E1, ev, hrel, hsz, rfl, hq⟩
    | _ => cases e <;> first | exact he.elim | exact ⟨_, s1, E1, ev, hrel, hsz, he, hq⟩
  | .loop c, s, Q, a, E, hok, h, hn, hs => by
    obtain ⟨σ, I, sta, μ, ⟨x0, hw0, hI0⟩, hround⟩ := h
    obtain ⟨E0, ev0, hrel0⟩ := hw0 A E a E.w (Nat.le_refl _) hn.rel
    refine wp_loop_by (R := fun x a1 w1 => ∃ E1, I x ∧ Evo s.h.length E s.h E1 (sta x).h ∧ Rel A E1 (sta x) a1 w1 ∧ a1.tmps.size = m) (μ := μ) x0 ⟨E0, hI0, ev0, hrel0, hs⟩ fun x a1 w1 ⟨E1, hI1, ev1, hrel1, hs1⟩ => ?_
    have hw1 := hrel1.world
    subst hw1
    refine wp_mono (awp_sim hK hm c (sta x) _ a1 E1 hok (hround x hI1) ⟨hn.G, hrel1⟩ hs1) fun e a2 w2 ⟨ex, s2, E2, ev2, hrel2, hsz2, he2, hq2⟩ => ?_
    have ev12 := ev1.trans ev2 ev1.len
    by_cases hex : ex = .normal
    · subst hex
      have := exrel_normal he2
      subst this
      obtain ⟨y, hw3, hI3, hμ⟩ := hq2
      obtain ⟨E3, ev3, hrel3⟩ := hw3 A E2 a2 w2 ev12.len hrel2
      exact ⟨y, ⟨E3, hI3, ev12.trans ev3 (Nat.le_refl _), hrel3, hsz2⟩, hμ⟩
    · have hne : e ≠ .normal := fun h => hex (exrel_normal' (h ▸ he2))
      rw [then_ne hne]
      exact ⟨ex, s2, E2, ev12, hrel2, hsz2, he2, by cases ex <;> first | exact absurd rfl hex | exact hq2⟩
  | .rangeFunc _ _ _ _, _, _, _, _, hok, _, _, _ => by simp [okCode] at hok
  | .scope _, _, _, _, _, hok, _, _, _ => by simp [okCode] at hok
  | .label _, _, _, _, _, hok, _, _, _ => by simp [okCode] at hok
  | .goto _, _, _, _, _, hok, _, _, _ => by simp [okCode] at hok
  | .refuse _, _, _, _, _, hok, _, _, _ => by simp [okCode] at hok
end
end Go.Ab
