/-
  Texts of the layer and of the laws, put together: AbRF1, AbRF2, AbRF3, AbRF4, AbRM1.
-/
import Derived.Test.YtdoofgbeajkpaaaGreatDoorAbWP10
import Derived.RangeFuncRecord
import Derived.RangeFuncCalls
import Derived.RangeFuncSeq
import Derived.TacticsIn
import Derived.RangeFuncLeaves
import Derived.Test.YtdoofgbeajkpaaaGreatDoorAbWP22
import Derived.Maps.RangeRun
set_option linter.unusedSimpArgs false
set_option linter.unusedVariables false
set_option maxRecDepth 100000
namespace Go.Ab
open Go.RowKit
def FR (r : Option Nat) : Fence := { Fence.wide with round := r }
theorem callsR {r : Option Nat} {n : Nat} {P : Program} {f : FuncId} {args : Array Value} {w : World} {R : Ending → World → Prop} (h : Calls P f args w R) : CallsIn (FR r) n P f args w R :=
  callsIn_wide.2 h
theorem rowsR {r : Option Nat} {n : Nat} {P : Program} {row : String} {args : Array Value} {w : World} {R : Value → World → Prop} (h : Rows P row args w R) : RowsIn (FR r) n P row args w R :=
  fun c cs _ => let ⟨v, w', hr, hs⟩ := h c cs; ⟨v, w', hr, stepsIn_wide.2 hs⟩
theorem op_puts {P : Program} {o : Oper} {a : Act} {w : World} {K : Act → World → Prop} {Q : Exit → Act → World → Prop} (h : o.wp P a w K Q) : o.wp P a w (fun a' w' => K a' w' ∧ ∃ v, a'.tmps = (a.put o.dst v).tmps) Q := by
  revert h
  unfold Oper.wp
  generalize (execOp a.eval o).run P w = x
  intro h
  cases x with
  | ok nx w' =>
    cases nx with
    | value v => exact ⟨h, v, rfl⟩
    | skip => exact ⟨h, undef, rfl⟩
    | defer d => exact ⟨h, undef, by cases hd : o.dst <;> rfl⟩
    | enter f args =>
      refine Calls.mono h ?_
      rintro e w2 hq
      cases e with
      | returned v => exact ⟨hq, v, rfl⟩
      | panicked c => exact hq
      | outgrown => exact hq
    | row r args => exact Rows.mono h fun v w2 hq => ⟨hq, v, rfl⟩
    | _ => exact h.elim
  | halt s w' => cases s <;> exact h
theorem oper_mono {P : Program} {o : Oper} {a : Act} {w : World} {K K' : Act → World → Prop} {Q : Exit → Act → World → Prop} (h : o.wp P a w K Q) (hk : ∀ a w, K a w → K' a w) : o.wp P a w K' Q := by
  revert h
  unfold Oper.wp
  generalize (execOp a.eval o).run P w = x
  intro h
  cases x with
  | ok nx w' =>
    cases nx with
    | value v => exact hk _ _ h
    | skip => exact hk _ _ h
    | defer d => exact hk _ _ h
    | enter f args =>
      refine Calls.mono h ?_
      rintro e w2 hq
      cases e with
      | returned v => exact hk _ _ hq
      | panicked c => exact hq
      | outgrown => exact hq
    | row r args => exact Rows.mono h fun v w2 hq => hk _ _ hq
    | _ => exact h.elim
  | halt s w' => cases s <;> exact h
def _root_.Go.Oper.nd (o : Oper) : Bool := match o.op with | .defer _ => false | _ => true
theorem nd_ne {o : Oper} (h : o.nd = true) : ∀ c, o.op ≠ .defer c := fun c e => by simp [Oper.nd, e] at h
theorem opIn {r : Option Nat} {n : Nat} {P : Program} {o : Oper} {a : Act} {w : World} {K : Act → World → Prop} {Q : Exit → Act → World → Prop} (hd : o.nd = true) (h : o.wp P a w K Q) : o.wpIn (FR r) n P a w K Q := by
  refine ⟨fun _ _ => trivial, ?_⟩
  rw [Oper.semAt_eq _ _ _ (nd_ne hd)]
  revert h
  unfold Oper.wp
  generalize (execOp a.eval o).run P w = x
  intro h
  cases x with
  | ok nx w' =>
    cases nx with
    | value v => exact h
    | skip => exact h
    | defer d => exact h
    | enter f args => exact ⟨fun hh => (by cases hh), callsR h⟩
    | row r args => exact ⟨fun hh => (by cases hh), rowsR h⟩
    | _ => exact h.elim
  | halt s w' => cases s <;> exact h
section
variable {X : Ctx} {A : Actn}
theorem puts_ne {a : Act} {d : Option Nat} {v : Value} {t0 : Nat} (h : d ≠ some t0) : (a.put d v).tmps.getD t0 undef = a.tmps.getD t0 undef := by
  cases d with
  | none => rfl
  | some t =>
    have : t ≠ t0 := fun e => h (by rw [e])
    simp only [Act.put, Array.getD_eq_getD_getElem?]
    rw [Array.getElem?_setIfInBounds_ne this]
theorem opsR_sim (hK : KOk X) {r : Option Nat} {n : Nat} {ops : Array Oper} {Q : Exit → Act → World → Prop} {l2 : List Oper} {t0 : List Nat} : ∀ (l : List Oper) (E : Env) (s : S) (a : Act) (ex : Ex) (s' : S), Now X A E s a →
    runOps X ops l s = some (ex, s') → (∀ o ∈ l, (o.nd = true ∧ ∀ k ∈ t0, o.dst ≠ some k) ∧ ∀ t, o.dst = some t → t < a.tmps.size) →
    (∀ (e : Exit) (a' : Act) (E' : Env), Evo s.h.length E s.h E' s'.h → Rel A E' s' a' E'.w → a'.tmps.size = a.tmps.size → (∀ k ∈ t0, a'.tmps.getD k undef = a.tmps.getD k undef) → ExRel E' s'.h ex e → Exit.then (wpListIn (FR r) n X.P ops Q l2) Q e a' E'.w) →
    wpListIn (FR r) n X.P ops Q (l ++ l2) a E.w
  | [], E, s, a, ex, s', hn, hr, _, hQ => by
    simp only [runOps, Option.some.injEq, Prod.mk.injEq] at hr
    obtain ⟨rfl, rfl⟩ := hr
    exact hQ .normal a E (Evo.refl (Nat.le_refl _)) hn.rel rfl (fun _ _ => rfl) trivial
  | o :: l, E, s, a, ex, s', hn, hr, hfit, hQ => by
    simp only [runOps] at hr
    cases hw : wantA ops o s with
    | none => simp [hw] at hr
    | some w =>
      simp only [hw, Option.bind_some] at hr
      have hwant := want_sim hn hw
      obtain ⟨⟨hnd, hne⟩, hf0⟩ := hfit o List.mem_cons_self
      rw [List.cons_append]
      unfold wpListIn
      cases w with
      | false =>
        simp only [Bool.false_eq_true, if_false] at hr
        rw [if_neg (by rw [hwant]; simp)]
        have hrel := hn.rel.put (Evo.refl (Nat.le_refl _)) hn.rel.env (d := o.dst) (v := .tup []) (u := undef) hf0 skp_rel
        have hh : (s.putO o.dst (.tup [])).h = s.h := by cases o.dst <;> rfl
        refine ⟨fun _ _ => trivial, ?_⟩
        refine opsR_sim hK l E (s.putO o.dst (.tup [])) (a.put o.dst undef) ex s' ⟨hn.G, hrel⟩ hr (fun o' ho' => ⟨(hfit o' (List.mem_cons_of_mem _ ho')).1, fun t ht => by rw [put_size]; exact (hfit o' (List.mem_cons_of_mem _ ho')).2 t ht⟩)
          (fun e a' E' ev hr' hs h0 he => hQ e a' E' (by rw [hh] at ev; exact ev) hr' (by rw [hs, put_size]) (fun k hk => by rw [h0 k hk, puts_ne (hne k hk)]) he)
      | true =>
        simp only [if_true] at hr
        rw [if_pos hwant]
        refine opIn hnd ?_
        cases hst : stepA X o s with
        | none => simp [hst] at hr
        | some p =>
          obtain ⟨ex1, s1⟩ := p
          simp only [hst, Option.bind_some] at hr
          have key := op_puts (oper_sim (n := s.h.length) (K := fun a' w' => ∃ E', w' = E'.w ∧ ex1 = .normal ∧ Evo s.h.length E s.h E' s1.h ∧ Rel A E' s1 a' E'.w ∧ a'.tmps.size = a.tmps.size) (Q := Q) hK hn (Nat.le_refl _) hst hf0 (fun he a' E' ev hrel hsz => ⟨E', rfl, he, ev, hrel, hsz⟩) (fun x he u E' ev hrel hx => by
            subst he
            simp only [Option.some.injEq, Prod.mk.injEq] at hr
            obtain ⟨rfl, rfl⟩ := hr
            exact hQ (.panic [{ v := u, recovered := false }]) a E' ev hrel rfl (fun _ _ => rfl) ⟨u, rfl, hx⟩))
          refine oper_mono key ?_
          rintro a' w' ⟨⟨E', rfl, rfl, ev, hrel, hsz⟩, v, hv⟩
          refine opsR_sim hK l E' s1 a' ex s' ⟨hn.G, hrel⟩ hr (fun o' ho' => ⟨(hfit o' (List.mem_cons_of_mem _ ho')).1, fun t ht => by rw [hsz]; exact (hfit o' (List.mem_cons_of_mem _ ho')).2 t ht⟩)
            (fun e a2 E2 ev2 hr2 hs2 h02 he2 => hQ e a2 E2 (ev.trans ev2 ev.len) hr2 (hs2.trans hsz) (fun k hk => by rw [h02 k hk, hv, puts_ne (hne k hk)]) he2)
end
end Go.Ab
namespace Go.Ab
open Go.RowKit
def okO (m : Nat) (t0 : List Nat) (o : Oper) : Bool := o.nd && t0.all (fun k => !(o.dst == some k)) && (match o.dst with | some t => decide (t < m) | none => true)
def okR (m : Nat) (t0 : List Nat) : Code → Bool
  | .region _ ops draw => !draw && ops.all (okO m t0)
  | .seq x y => okR m t0 x && okR m t0 y
  | .cond _ x y => okR m t0 x && okR m t0 y
  | .block _ c => okR m t0 c
  | .skip | .exit _ | .ret => true
  | _ => false
def PostR (A : Actn) (n m : Nat) (t0 : List Nat) (u0 : Act) (E : Env) (h : Hp) (Q : Ex → S → Prop) : Exit → Act → World → Prop := fun e a' w' => Post A n m E h Q e a' w' ∧ ∀ k ∈ t0, a'.tmps.getD k undef = u0.tmps.getD k undef
section
variable {X : Ctx} {A : Actn}
theorem okR_ops {m : Nat} {t0 : List Nat} {ops : Array Oper} (h : ops.all (okO m t0) = true) :
    ∀ o ∈ ops.toList, (o.nd = true ∧ ∀ k ∈ t0, o.dst ≠ some k) ∧ ∀ t, o.dst = some t → t < m := fun o ho => by
  rw [Array.all_eq_true_iff_forall_mem] at h
  have h := h o (by simpa using ho)
  simp only [okO, Bool.and_eq_true, List.all_eq_true, Bool.not_eq_true', beq_eq_false_iff_ne] at h
  refine ⟨⟨h.1.1, h.1.2⟩, fun t ht => ?_⟩
  have h2 := h.2
  rw [ht] at h2
  simpa using h2
theorem awpR_sim (hK : KOk X) {r : Option Nat} {n m : Nat} {t0 : List Nat} : ∀ (c : Code) (s : S) (Q : Ex → S → Prop) (a : Act) (E : Env), okR m t0 c = true → awpS X c s Q → Now X A E s a → a.tmps.size = m →
    c.wpIn (FR r) n X.P (PostR A s.h.length m t0 a E s.h Q) a E.w
  | .skip, s, Q, a, E, _, h, hn, hs => wpIn_skip ⟨⟨.normal, s, E, Evo.refl (Nat.le_refl _), hn.rel, hs, trivial, h⟩, fun _ _ => rfl⟩
  | .exit id, s, Q, a, E, _, h, hn, hs => wpIn_exit ⟨⟨.exit id, s, E, Evo.refl (Nat.le_refl _), hn.rel, hs, rfl, h⟩, fun _ _ => rfl⟩
  | .ret, s, Q, a, E, _, h, hn, hs => wpIn_ret ⟨⟨.ret, s, E, Evo.refl (Nat.le_refl _), hn.rel, hs, trivial, h⟩, fun _ _ => rfl⟩
  | .region id ops draw, s, Q, a, E, hok, h, hn, hs => by
    simp only [okR, Bool.and_eq_true, Bool.not_eq_true'] at hok
    obtain ⟨rfl, hfit⟩ := hok
    have h : awp X (.region id ops false) s Q := h
    simp only [awp, Bool.false_and, Bool.false_eq_true, if_false] at h
    obtain ⟨ex, s', hr, _, hq⟩ := h
    refine wpIn_region_list ?_
    have := opsR_sim (X := X) (A := A) hK (r := r) (n := n) (ops := ops) (Q := PostR A s.h.length m t0 a E s.h Q) (l2 := []) (t0 := t0) ops.toList E s a ex s' hn hr (fun o ho => by rw [hs]; exact okR_ops hfit o ho)
      (fun e a' E' ev hrel hsz h0 he => by
        have hp : PostR A s.h.length m t0 a E s.h Q e a' E'.w := ⟨⟨ex, s', E', ev, hrel, hsz.trans hs, he, hq⟩, h0⟩
        cases e <;> exact hp)
    rwa [List.append_nil] at this
  | .seq x y, s, Q, a, E, hok, h, hn, hs => by
    simp only [okR, Bool.and_eq_true] at hok
    refine wpIn_seq (wpIn_mono (awpR_sim hK x s _ a E hok.1 h hn hs) fun e a1 w1 ⟨⟨ex, s1, E1, ev, hrel, hsz, he, hq⟩, h0⟩ => ?_)
    by_cases hex : ex = .normal
    · subst hex
      have := exrel_normal he
      subst this
      obtain ⟨s2, hw2, hq⟩ := hq
      obtain ⟨E2, ev2, hrel2⟩ := hw2 A E1 a1 w1 ev.len hrel
      have hw := hrel2.world
      subst hw
      have ev12 := ev.trans ev2 (Nat.le_refl _)
      exact wpIn_mono (awpR_sim hK y s2 Q a1 E2 hok.2 hq ⟨hn.G, hrel2⟩ hsz) fun e a2 w2 ⟨⟨ex, s3, E3, ev3, hrel3, hsz3, he3, hq3⟩, h03⟩ => ⟨⟨ex, s3, E3, ev12.trans ev3 ev12.len, hrel3, hsz3, he3, hq3⟩, fun k hk => (h03 k hk).trans (h0 k hk)⟩
    · have hne : e ≠ .normal := fun h => hex (exrel_normal' (h ▸ he))
      rw [then_ne hne]
      exact ⟨⟨ex, s1, E1, ev, hrel, hsz, he, by cases ex <;> first | exact absurd rfl hex | exact hq⟩, h0⟩
  | .cond c x y, s, Q, a, E, hok, h, hn, hs => by
    simp only [okR, Bool.and_eq_true] at hok
    obtain ⟨b, hb, h1, h2⟩ := h
    have hr := ev_rel hn c
    obtain ⟨b', hb', i1, i2⟩ := bIs_inv hb hr
    refine wpIn_cond_split hb' (fun ht => awpR_sim hK x s Q a E hok.1 (h1 (i1 ht)) hn hs) (fun hf => awpR_sim hK y s Q a E hok.2 (h2 (i2 hf)) hn hs)
  | .block id c, s, Q, a, E, hok, h, hn, hs => by
    refine wpIn_block (wpIn_mono (awpR_sim hK c s _ a E hok h hn hs) fun e a1 w1 ⟨⟨ex, s1, E1, ev, hrel, hsz, he, hq⟩, h0⟩ => ?_)
    cases ex with
    | exit i =>
      cases e <;> try (exact he.elim)
      have he' : i = _ := he
      subst he'
      simp only [Exit.inBlock, blk] at hq ⊢
      split at hq
      · rename_i hid
        rw [if_pos hid]
        obtain ⟨s2, hw, hq⟩ := hq
        obtain ⟨E2, ev2, hrel2⟩ := hw A E1 a1 w1 ev.len hrel
        exact ⟨⟨.normal, s2, E2, ev.trans ev2 (Nat.le_refl _), hrel2, hsz, trivial, hq⟩, h0⟩
      · rename_i hid
        rw [if_neg hid]
        exact ⟨⟨.exit i, s1, E1, ev, hrel, hsz, rfl, hq⟩, h0⟩
    | _ => cases e <;> first | exact he.elim | exact ⟨⟨_, s1, E1, ev, hrel, hsz, he, hq⟩, h0⟩
  | .loop _, _, _, _, _, hok, _, _, _ => by simp [okR] at hok
  | .rangeFunc _ _ _ _, _, _, _, _, hok, _, _, _ => by simp [okR] at hok
  | .scope _, _, _, _, _, hok, _, _, _ => by simp [okR] at hok
  | .label _, _, _, _, _, hok, _, _, _ => by simp [okR] at hok
  | .goto _, _, _, _, _, hok, _, _, _ => by simp [okR] at hok
  | .refuse _, _, _, _, _, hok, _, _, _ => by simp [okR] at hok
end
def Env.turn (E : Env) (b : Nat) (o : Obj) : Env := { E with w := E.w.putObj b o }
theorem pin_inv {A : Actn} {E : Env} {h : Hp} {id : Nat} {o : Obj} (hE : EnvOk A E h) (hid : h[id]? = some (.pin o)) : ∃ b, E.ρ id = some b ∧ E.w.heap[b]? = some o ∧ b < E.w.heap.size ∧ ∀ x, ¬ E.F b x := by
  obtain ⟨b, h1, h2, h3⟩ := hE.ob id _ hid
  exact ⟨b, h1, h2, (Array.getElem?_eq_some_iff.1 h2).1, h3⟩
theorem Stp.turn {A : Actn} {E : Env} {h : Hp} {id b : Nat} {o : Obj} (o' : Obj) (hE : EnvOk A E h) (hid : h[id]? = some (.pin o)) (hb : E.ρ id = some b) : Stp A.G.dr E h id (E.turn b o') (h.set id (.pin o')) where
  os := rfl
  tape := rfl
  output := rfl
  size := by simp [Env.turn]
  blk k hk hne := World.putObj_heap_other (fun e => hne ⟨lt_of_get hid, by rw [e]; exact hb⟩)
  idle := Nat.le_of_lt (lt_of_get hid)
  len := by simp
  len' := by simp; omega
  ρ _ _ _ := rfl
  hh j _ hne := List.getElem?_set_ne (Ne.symm hne)
  F _ _ h := h
  F' _ _ h := .inl h
  same b' x hf := by
    obtain ⟨b2, h1, _, _, h4⟩ := pin_inv hE hid
    rw [hb] at h1
    cases h1
    exact World.cell?_of_block (World.putObj_heap_other (fun e => h4 x (e ▸ hf)))
  at' b' _ hb' := by
    have hb' : E.ρ id = some b' := hb'
    rw [hb] at hb'
    cases hb'
    obtain ⟨b2, h1, _, h3, _⟩ := pin_inv hE hid
    rw [hb] at h1
    cases h1
    exact ⟨by simpa [Env.turn] using h3, .inr ⟨lt_of_get hid, hb⟩⟩
  keep o0 ho := by
    rw [hid] at ho
    cases ho
    exact ⟨⟨.pin o', by simp [lt_of_get hid], rfl⟩, rfl⟩
theorem turn_ok {A : Actn} {E : Env} {h : Hp} {id b : Nat} {o : Obj} (o' : Obj) (hE : EnvOk A E h) (hid : h[id]? = some (.pin o)) (hb : E.ρ id = some b) : EnvOk A (E.turn b o') (h.set id (.pin o')) := by
  refine (Stp.turn o' hE hid hb).ok hE fun x hx => ?_
  simp [lt_of_get hid] at hx
  subst hx
  obtain ⟨b2, h1, h2, h3, h4⟩ := pin_inv hE hid
  rw [hb] at h1
  cases h1
  exact ⟨b, hb, World.putObj_heap_same h3, h4⟩
theorem newPin_ok {A : Actn} {E : Env} {h : Hp} (o : Obj) (hE : EnvOk A E h) : EnvOk A (E.newOb h.length (E.w.alloc o)) (h ++ [.pin o]) := by
  refine (Stp.new hE o (.pin o)).ok hE fun x hx => ?_
  simp at hx
  subst hx
  refine ⟨E.w.heap.size, by simp [Env.newOb], World.alloc_heap_new _ _, fun x hf => ?_⟩
  have := hE.lt _ x hf
  omega
def PostM (X : Ctx) (A : Actn) (rs : List ResultVar) (r : List PA) : Exit → Act → World → Prop := fun e a' w' => (e = .normal ∨ e = .ret) ∧ ∃ E' s', Rel { A with ds := a'.defers } E' s' a' w' ∧
  ((a'.defers = [] ∧ resAll X s' rs = some r) ∨ (∃ id b, a'.defers = [{ target := .collected b, args := #[] }] ∧ E'.ρ id = some b ∧ s'.h[id]? = some (.pin (.deferred (some []))) ∧ resAll X ⟨s'.t, s'.h.set id (.pin (.deferred none))⟩ rs = some r))
theorem pure_of_marks {X : Ctx} {f : FuncId} {fn : Func} {c : Code} {m : List PA → Option (List PA)} (hf : X.P.funcs[f]? = some fn) (hb : fn.body = some c) (hname : (fn.name == "runtime.NumGoroutine") = false)
    (hbody : ∀ args r, m args = some r → args.length ≤ fn.ntmps ∧ ∀ (A : Actn) (E : Env) (a : Act), Now X A E ⟨argSlots 0 args, []⟩ a → A.ds = [] → a.tmps.size = fn.ntmps → c.wpIn (FR none) 0 X.P (PostM X A fn.results.toList r) a E.w) : PureC X.P X.G f m := by
  have hne : ¬ fn.name = "runtime.NumGoroutine" := by simpa using hname
  refine ⟨fun vs w => by simp [callFunc, hf, hne, hb], fun w F vs args r hlt hG hvs hrel hm => ?_⟩
  obtain ⟨hal, ha⟩ := hbody args r hm
  let A : Actn := ⟨w, F, X.G, []⟩
  let E : Env := ⟨fun _ => none, F, w⟩
  let a : Act := { tmps := vs ++ Array.replicate (fn.ntmps - vs.size) undef, defers := [] }
  have hE : EnvOk A E [] := ⟨Below.refl _ _, hlt, fun b o _ h => h, fun b o h => h, fun i j b hi => by simp at hi, fun i b hi => by simp at hi, fun i o ho => by simp at ho, hG.1, hG.2, fun _ => Nat.le_refl _⟩
  have hr : Rel A E ⟨argSlots 0 args, []⟩ a w := by
    refine ⟨hE, rfl, rfl, fun t => ?_⟩
    show (look (argSlots 0 args) t).rel E [] _
    rw [look_args, if_pos (Nat.zero_le _), Nat.sub_zero]
    cases hx : args[t]? with
    | none => trivial
    | some x =>
      have htl := lt_of_get hx
      have hv := hrel t x hx
      have : a.tmps.getD t undef = vs.getD t undef := by
        simp only [a, Array.getD_eq_getD_getElem?]
        rw [Array.getElem?_append_left (by omega)]
      rw [this]
      exact DV.rel_av (E := E) hv
  have hsz : a.tmps.size = fn.ntmps := by simp [a]; omega
  have fin : ∀ (a' : Act) (E' : Env) (s' : S), Rel { A with ds := a'.defers } E' s' a' E'.w → resAll X s' fn.results.toList = some r → ∃ v, (results fn a'.tmps).run X.P E'.w = .ok v E'.w ∧ ∃ u, Ending.returned v = .returned u ∧ RRel E'.w (newF w F E'.w) u r ∧ Below w.heap.size w E'.w ∧ (X.G.dr = true → w.drawn ≤ E'.w.drawn) := by
    intro a' E' s' hrel' hres
    obtain ⟨vs', hv, hl, hx⟩ := results_run hrel' _ _ hres
    have hold : ∀ b o, E'.F b o → newF w F E'.w b o := fun b o hfr => by
      by_cases hbw : b < w.heap.size
      · exact .inl (hrel'.env.old b o hbw hfr)
      exact .inr ⟨by omega, hrel'.env.lt b o hfr⟩
    have hx' : ∀ (j : Nat) (x : PA), r[j]? = some x → ∃ u, vs'[j]? = some u ∧ x.rel E'.w (newF w F E'.w) u := fun j x hj => by
      obtain ⟨u, hu, hru⟩ := hx j x hj
      refine ⟨u, hu, ?_⟩
      cases x with
      | c d => exact Rd.mono hru hold (fun _ _ _ => rfl)
      | agg xs =>
        obtain ⟨us, rfl, h1, h2⟩ := hru
        exact ⟨us, rfl, h1, fun j x hj => let ⟨y, hy, hry⟩ := h2 j x hj; ⟨y, hy, hry.mono hold (fun _ _ _ => rfl)⟩⟩
    have hrun : (results fn a'.tmps).run X.P E'.w = .ok (match vs' with | [v] => v | l => .tuple l.toArray) E'.w := by
      have hm' : (fn.results.mapM (resSem a'.tmps)).run X.P E'.w = .ok vs'.toArray E'.w := by
        rw [Array.mapM_eq_mapM_toList]
        simp only [Sem.run_map, hv, Result.andThen_ok]
      rw [results_eq]
      simp only [Sem.run_bind, hm', Result.andThen_ok]
      cases vs' with
      | nil => simp
      | cons v l =>
        cases l with
        | nil => simp
        | cons v2 l => simp
    refine ⟨_, hrun, _, rfl, ?_, hrel'.env.below, hrel'.env.drw⟩
    unfold RRel
    split
    · obtain ⟨u, hu, hru⟩ := hx' 0 _ rfl
      cases vs' with
      | nil => cases hu
      | cons v l =>
        have : l = [] := List.eq_nil_of_length_eq_zero (by simpa using hl)
        subst this
        cases hu
        exact hru
    rename_i hne
    refine ⟨vs', ?_, hl, hx'⟩
    cases vs' with
    | nil => rfl
    | cons v l =>
      cases l with
      | nil =>
        cases r with
        | nil => simp at hl
        | cons x r =>
          have : r = [] := List.eq_nil_of_length_eq_zero (by simpa using hl.symm)
          subst this
          exact absurd rfl (hne x)
      | cons v2 l => rfl
  refine (callsIn_wide (n := 0)).1 (callsIn_of_wp_marks (F := FR none) hf hb trivial (wpIn_mono (ha A E a ⟨rfl, hr⟩ rfl hsz) fun e a' w' ⟨he, E', s', hrel', hq⟩ => ?_) rfl)
  have hw := hrel'.world
  subst hw
  have key : LeavesInM (FR none) 0 X.P fn a'.tmps (fun e w' => ∃ u, e = .returned u ∧ RRel w' (newF w F w') u r ∧ Below w.heap.size w w' ∧ (X.G.dr = true → w.drawn ≤ w'.drawn)) a'.defers .returning E'.w := by
    rcases hq with ⟨hd, hres⟩ | ⟨id, b, hd, hid, hpin, hres⟩
    · rw [hd]
      exact fin a' E' s' hrel' hres
    rw [hd]
    have henv := hrel'.env
    have hst := Stp.turn (.deferred none) henv hpin hid
    obtain ⟨b2, h1, h2, _, _⟩ := pin_inv henv hpin
    rw [hid] at h1
    cases h1
    refine ⟨by simp, .inl ⟨_, _, rfl, run_takeDeferred h2, ?_⟩⟩
    exact fin a' (E'.turn b (.deferred none)) ⟨s'.t, s'.h.set id (.pin (.deferred none))⟩ ⟨turn_ok _ henv hpin hid, rfl, hrel'.defers, fun t => (hrel'.tmps t).evo (hst.evo henv) (Nat.le_refl _)⟩ hres
  rcases he with rfl | rfl
  · exact key
  exact key
end Go.Ab
namespace Go.Ab
open Go.RowKit
def IterOk (X : Ctx) (gf : FuncId) (cap : C1) (hp : List DV → Hp) (xs : List DV) : Prop :=
  ∀ (n : Nat) (A : Actn) (E : Env) (v : Value) (l : Nat) (Jx : World → Prop) (Ip : List DV → Prop), Ip [] → A.G = X.G → A.ds = [] → EnvOk A E (hp []) → cap.rel E (hp []) v →
    (∀ (n' : Nat) (pre : List DV) (x : DV) (post : List DV) (E' : Env) (u : Value), xs = pre ++ x :: post → Ip pre → Evo (hp []).length E (hp []) E' (hp pre) → EnvOk A E' (hp pre) → x.rel E'.w E'.F u →
      YieldAt (FR none) n' X.P l #[u] E'.w fun e W' =>
        (e = .returned (.bool true) ∧ ∃ E2, W' = E2.w ∧ Evo (hp []).length E' (hp pre) E2 (hp (pre ++ [x])) ∧ EnvOk A E2 (hp (pre ++ [x])) ∧ Ip (pre ++ [x])) ∨ (e = .returned (.bool false) ∧ Jx W')) →
    CallsIn (FR none) n X.P gf (#[.func (.yield l) #[] #[]] ++ #[v]) E.w fun e W' => (∃ u, e = .returned u) ∧
      ((∃ E2, W' = E2.w ∧ Evo (hp []).length E (hp []) E2 (hp xs) ∧ EnvOk A E2 (hp xs) ∧ Ip xs) ∨ Jx W')
def RQ (N : Nat) (hn : Hp) (I : Prop) (Sx : Hp → Prop) (dd ll : Obj) : Ex → S → Prop
  | .normal, s => I ∧ Wk (N + 2) s ⟨[], hn ++ [.pin dd, .pin ll]⟩
  | .ret, s => ∃ hx, Sx hx ∧ hx.length = N ∧ Wk (N + 2) s ⟨[], hx ++ [.pin dd, .pin ll]⟩
  | _, _ => False
def RA (X : Ctx) (N : Nat) (hq hn : Hp) (I : Prop) (Sx : Hp → Prop) (dd ll ll' : Obj) (body : Code) : Ex → S → Prop
  | .normal, s => ∃ t g, s = ⟨t, hq ++ .pin dd :: .pin ll :: g⟩ ∧ awpS X body ⟨t, hq ++ .pin dd :: .pin ll' :: g⟩ (RQ N hn I Sx dd ll')
  | _, _ => False
def recOf (fn : FuncId) (tmps : Array Value) (ps : Array Tmp) (assign body : Code) (d : Nat) (st : LoopState) (pe : Option Code) : Loop := { state := st, pending := pe, fn, tmps, params := ps, assign, body, defers := d }
theorem get_pin1 {h g : Hp} {N : Nat} {x y : Ob} (hN : h.length = N) : (h ++ x :: y :: g)[N + 1]? = some y := by
  subst hN
  rw [List.getElem?_append_right (by omega)]
  simp
theorem get_pin0 {h g : Hp} {N : Nat} {x : Ob} (hN : h.length = N) : (h ++ x :: g)[N]? = some x := by
  subst hN
  rw [List.getElem?_append_right (by omega)]
  simp
theorem set_pin1 {h g : Hp} {N : Nat} {x y z : Ob} (hN : h.length = N) : (h ++ x :: y :: g).set (N + 1) z = h ++ x :: z :: g := by
  subst hN
  rw [List.set_append, if_neg (by omega)]
  simp
section
variable {X : Ctx}
abbrev markOf (b : Nat) : Deferred := { target := .collected b, args := #[] }
theorem rho_keep {n id : Nat} {E E' : Env} {h h' : Hp} {o : Obj} {b : Nat} (ev : Evo n E h E' h') (hid : id < n) (ho : h[id]? = some (.pin o)) (hb : E.ρ id = some b) : E'.ρ id = some b :=
  (ev.keep id hid _ ho (by simp [Ob.kind])).2.trans hb
theorem loop_at {A : Actn} {E : Env} {h : Hp} {id b : Nat} {o : Obj} (hE : EnvOk A E h) (hid : h[id]? = some (.pin o)) (hb : E.ρ id = some b) : E.w.heap[b]? = some o := by
  obtain ⟨b2, h1, h2, _, _⟩ := pin_inv hE hid
  rw [hb] at h1
  cases h1
  exact h2
theorem rangeF_sim (hK : KOk X) {m tg tp : Nat} {gf : FuncId} {asg body : Code} {s : S} {ci co : Nat} {hq : List DV → Hp} {xs : List DV} {Ip : List DV → Prop} {Sx : Hp → Prop} {A : Actn} {E : Env} {a : Act} {n : Nat} {Q : Exit → Act → World → Prop}
    (hn : Now X A E s a) (hs : a.tmps.size = m) (hds : A.ds = []) (hg : s.get tg = .v (.c (.fn gf [(ci, co)])))
    (heg : ∀ args w, (callFunc gf args).run X.P w = .ok (.enter gf args) w) (hI0 : Ip []) (h0 : hq [] = s.h) (hqN : ∀ pre, (hq pre).length = s.h.length)
    (hit : ∀ dd ll, IterOk X gf (.ptr ci co) (fun pre => hq pre ++ [.pin dd, .pin ll]) xs) (hoka : okR m [] asg = true) (hokb : okR m [] body = true) (htp : tp < m)
    (hround : ∀ (pre : List DV) (x : DV) (post : List DV), xs = pre ++ x :: post → Ip pre → ∀ dd ll ll', awpS X asg ⟨(tp, x.av) :: s.t, hq pre ++ [.pin dd, .pin ll]⟩ (RA X s.h.length (hq pre) (hq (pre ++ [x])) (Ip (pre ++ [x])) Sx dd ll ll' body))
    (hdone : ∀ (E' : Env) (b : Nat) (ob : Obj), Ip xs → Rel { A with ds := [markOf b] } E' ⟨s.t, hq xs ++ [.pin (.deferred (some [])), .pin ob]⟩ { a with defers := [markOf b] } E'.w → E'.ρ s.h.length = some b → Q .normal { a with defers := [markOf b] } E'.w)
    (hstop : ∀ (E' : Env) (b : Nat) (ob : Obj) (hx : Hp), Sx hx → hx.length = s.h.length → Rel { A with ds := [markOf b] } E' ⟨s.t, hx ++ [.pin (.deferred (some [])), .pin ob]⟩ { a with defers := [markOf b] } E'.w → E'.ρ s.h.length = some b → Q .ret { a with defers := [markOf b] } E'.w) :
    (Code.rangeFunc (.tmp tg) #[tp] asg body).wpIn (FR none) n X.P Q a E.w := by
  have hda : a.defers = [] := hn.rel.defers.trans hds
  obtain ⟨N, hN⟩ : ∃ N, s.h.length = N := ⟨_, rfl⟩
  simp only [hN] at hqN hround hdone hstop
  refine wpIn_rangeFunc ?_
  intro fn hfn
  show ∃ l mark w₁ d w₁' f args w₂, (Instr.enterLoop fn a.tmps #[tp] asg body none).run X.P E.w = _ ∧ _
  obtain ⟨rec, hrec⟩ : ∃ rec, rec = recOf fn a.tmps #[tp] asg body E.w.heap.size := ⟨_, rfl⟩
  have hfv := hn.rel.tmps tg
  rw [hg] at hfv
  obtain ⟨vs, hv, hvl, hcap⟩ := hfv
  match vs, hvl with
  | [v], _ =>
  obtain ⟨cb, hcb, hv0⟩ := hcap 0 (ci, co) rfl
  have hv0 : v = .pointer (some ⟨cb, co, none⟩) := by simpa using hv0
  let L := E.w.heap.size + 1
  let Ea := E.newOb N (E.w.alloc (.deferred (some [])))
  let E1 := Ea.newOb (N + 1) (Ea.w.alloc (.loop (rec .ready none)))
  have hEa : EnvOk A Ea (s.h ++ [.pin (.deferred (some []))]) := by have := newPin_ok (.deferred (some [])) hn.rel.env; rwa [hN] at this
  have eva : Evo N E s.h Ea (s.h ++ [.pin (.deferred (some []))]) := by have := (Stp.new hn.rel.env (.deferred (some [])) (.pin (.deferred (some [])))).evo hn.rel.env; rwa [hN] at this
  have hla : (s.h ++ [Ob.pin (.deferred (some []))]).length = N + 1 := by simp [hN]
  have hE1' : EnvOk A E1 (s.h ++ [.pin (.deferred (some []))] ++ [.pin (.loop (rec .ready none))]) := by have := newPin_ok (.loop (rec .ready none)) hEa; rwa [hla] at this
  have ev1' : Evo (N + 1) Ea (s.h ++ [.pin (.deferred (some []))]) E1 (s.h ++ [.pin (.deferred (some []))] ++ [.pin (.loop (rec .ready none))]) := by have := (Stp.new hEa (.loop (rec .ready none)) (.pin (.loop (rec .ready none)))).evo hEa; rwa [hla] at this
  obtain ⟨hp, hhp⟩ : ∃ hp : List DV → Hp, hp = fun pre => hq pre ++ [.pin (.deferred (some [])), .pin (.loop (rec .ready none))] := ⟨_, rfl⟩
  have hp0 : s.h ++ [.pin (.deferred (some []))] ++ [.pin (.loop (rec .ready none))] = hp [] := by rw [hhp]; simp [h0]
  rw [hp0] at hE1' ev1'
  have evE : Evo N E s.h E1 (hp []) := eva.trans ev1' (Nat.le_succ _)
  have hpl : ∀ pre, (hp pre).length = N + 2 := fun pre => by rw [hhp]; simp [hqN]
  have hD1 : E1.ρ N = some E.w.heap.size := by simp [E1, Ea, Env.newOb]
  have hL1 : E1.ρ (N + 1) = some L := by simp [E1, Ea, Env.newOb, L]
  have hpL : ∀ pre, (hp pre)[N + 1]? = some (.pin (.loop (rec .ready none))) := fun pre => by rw [hhp]; exact get_pin1 (hqN pre)
  have hpD : ∀ pre, (hp pre)[N]? = some (.pin (.deferred (some []))) := fun pre => by rw [hhp]; exact get_pin0 (hqN pre)
  have hw1 : E1.w = (E.w.alloc (.deferred (some []))).alloc (.loop (rec .ready none)) := rfl
  have hit' := hit (.deferred (some [])) (.loop (rec .ready none))
  rw [← hhp] at hit'
  refine ⟨L, [markOf E.w.heap.size], E1.w, { target := .fn (.func gf) #[v], args := #[.func (.yield L) #[] #[]] }, E1.w, gf, #[.func (.yield L) #[] #[]] ++ #[v], E1.w, ?_, ?_, ?_, ?_, fun hh => (by cases hh), ?_⟩
  · rw [hw1, hrec]; exact run_enterLoop_outer _ _ _ _ _
  · have : a.eval (.tmp tg) = .func (.func gf) #[] #[v] := hv
    simp only [resolve, this]
    simp [go_sem]
  · exact fun _ _ => trivial
  · simp [invoke, go_sem, heg]
  refine (hit' (n - 1) A E1 v L (fun W => ∃ E2 hx, Sx hx ∧ hx.length = N ∧ W = E2.w ∧ Evo (N + 2) E1 (hp []) E2 (hx ++ [.pin (.deferred (some [])), .pin (.loop (rec .done (some .ret)))]) ∧
    EnvOk A E2 (hx ++ [.pin (.deferred (some [])), .pin (.loop (rec .done (some .ret)))])) Ip hI0 hn.G hds hE1' ?_ ?_).mono ?_
  · exact ⟨cb, hcb.evo evE (Nat.le_of_eq hN) (by decide), hv0⟩
  · -- one round
    intro n' pre x post E' u hxs hIp ev hok hu
    rw [hpl] at ev
    have hL' := rho_keep ev (Nat.lt_succ_self _) (hpL []) hL1
    have hl' := loop_at hok (hpL pre) hL'
    have hy := run_yield (P := X.P) (args := #[u]) hl' (by rw [hrec]; rfl)
    refine ⟨fn, a.tmps.setIfInBounds tp u, asg, body, by rw [hy, hrec]; simp [recOf], roundIn_of_wpIn hfn ?_⟩
    have hrel0 : Rel A E' ⟨(tp, x.av) :: s.t, hp pre⟩ { tmps := a.tmps.setIfInBounds tp u, defers := [] } E'.w := by
      refine ⟨hok, rfl, hds.symm, fun t => ?_⟩
      show (look ((tp, x.av) :: s.t) t).rel E' (hp pre) _
      simp only [look]
      by_cases ht : tp = t
      · subst ht
        rw [if_pos rfl]
        have : (a.tmps.setIfInBounds tp u).getD tp undef = u := by
          simp only [Array.getD_eq_getD_getElem?]
          simp [hs, htp]
        rw [this]
        exact DV.rel_av hu
      rw [if_neg ht]
      have : (a.tmps.setIfInBounds tp u).getD t undef = a.tmps.getD t undef := by
        simp only [Array.getD_eq_getD_getElem?]
        rw [Array.getElem?_setIfInBounds_ne ht]
      show (look s.t t).rel E' (hp pre) ((a.tmps.setIfInBounds tp u).getD t undef)
      rw [this]
      exact ((hn.rel.tmps t).evo evE (Nat.le_of_eq hN)).evo ev (Nat.le_of_eq (hpl []))
    have hr := hround pre x post hxs hIp (.deferred (some [])) (.loop (rec .ready none)) (.loop (rec .busy none))
    have hr : awpS X asg ⟨(tp, x.av) :: s.t, hp pre⟩ (RA X N (hq pre) (hq (pre ++ [x])) (Ip (pre ++ [x])) Sx (.deferred (some [])) (.loop (rec .ready none)) (.loop (rec .busy none)) body) := by rw [hhp]; exact hr
    have sim1 := awpR_sim hK (r := some L) (n := n') (t0 := []) asg _ _ _ E' hoka hr ⟨hn.G, hrel0⟩ (by simp [hs])
    refine wpIn_mono sim1 ?_
    rintro e a1 w1 ⟨⟨ex, s1, E2, ev2, hrel2, hsz2, he, hq2⟩, _⟩
    cases ex with
    | normal =>
      obtain ⟨t, g, rfl, hb⟩ := hq2
      have := exrel_normal he
      subst this
      have hw2 := hrel2.world
      subst hw2
      have ev2 : Evo (N + 2) E' (hp pre) E2 (hq pre ++ .pin (.deferred (some [])) :: .pin (.loop (rec .ready none)) :: g) := by rw [← hpl pre]; exact ev2
      have hp2 : (hq pre ++ Ob.pin (.deferred (some [])) :: .pin (.loop (rec .ready none)) :: g)[N + 1]? = some (.pin (.loop (rec .ready none))) := get_pin1 (hqN pre)
      have hL2 := rho_keep ev2 (Nat.lt_succ_self _) (hpL pre) hL'
      have hl2 := loop_at hrel2.env hp2 hL2
      refine ⟨_, run_beginRound hl2 (by rw [hrec]; rfl), ?_⟩
      have st3 := Stp.turn (.loop (rec .busy none)) hrel2.env hp2 hL2
      have ok3 := turn_ok (.loop (rec .busy none)) hrel2.env hp2 hL2
      have ev3 := st3.evo hrel2.env
      rw [set_pin1 (hqN pre)] at ok3 ev3
      have hrel3 : Rel A (E2.turn L (.loop (rec .busy none))) ⟨t, hq pre ++ .pin (.deferred (some [])) :: .pin (.loop (rec .busy none)) :: g⟩ a1 (E2.turn L (.loop (rec .busy none))).w :=
        ⟨ok3, rfl, hrel2.defers, fun t => (hrel2.tmps t).evo ev3 (Nat.le_refl _)⟩
      have hlen3 : N + 2 ≤ (hq pre ++ Ob.pin (.deferred (some [])) :: .pin (.loop (rec .ready none)) :: g).length := by simp [hqN] <;> omega
      have ev13 := ev2.trans ev3 hlen3
      have sim2 := awpR_sim hK (r := some L) (n := n') (t0 := []) body _ _ _ _ hokb hb ⟨hn.G, hrel3⟩ hsz2
      have e3 : (E2.turn L (.loop (rec .busy none))).w = E2.w.putObj L (.loop { rec .ready none with state := .busy }) := by rw [hrec]; rfl
      rw [← e3]
      refine wpIn_mono sim2 ?_
      rintro e a4 w4 ⟨⟨ex, s4, E4, ev4, hrel4, hsz4, he, hq4⟩, _⟩
      have ev14 := ev13.trans ev4 (by simp [hqN] <;> omega)
      -- the record's turn at the round's end
      have last : ∀ (jump : Option Code) (h5 : Hp) (E5 : Env) (a5 : Act), h5.length = N → Evo (N + 2) E4 s4.h E5 (h5 ++ [.pin (.deferred (some [])), .pin (.loop (rec .busy none))]) → Rel A E5 ⟨[], h5 ++ [.pin (.deferred (some [])), .pin (.loop (rec .busy none))]⟩ a5 w4 →
          ∃ E6, (Instr.endRound L jump).run X.P w4 = .ok (.bool jump.isNone) E6.w ∧ Evo (N + 2) E' (hp pre) E6 (h5 ++ [.pin (.deferred (some [])), .pin (.loop (rec (if jump.isNone then .ready else .done) jump))]) ∧
            EnvOk A E6 (h5 ++ [.pin (.deferred (some [])), .pin (.loop (rec (if jump.isNone then .ready else .done) jump))]) := by
        intro jump h5 E5 a5 hl5 ev5 hrel5
        have hw5 := hrel5.world
        subst hw5
        have hp5 : (h5 ++ [Ob.pin (.deferred (some [])), .pin (.loop (rec .busy none))])[N + 1]? = some (.pin (.loop (rec .busy none))) := get_pin1 hl5
        have ev15 := ev14.trans ev5 (Nat.le_refl _)
        have hL5 := rho_keep ev15 (Nat.lt_succ_self _) (hpL pre) hL'
        have hb5 := loop_at hrel5.env hp5 hL5
        have st6 := (Stp.turn (.loop (rec (if jump.isNone then .ready else .done) jump)) hrel5.env hp5 hL5).evo hrel5.env
        have ok6 := turn_ok (.loop (rec (if jump.isNone then .ready else .done) jump)) hrel5.env hp5 hL5
        rw [set_pin1 hl5] at st6 ok6
        refine ⟨_, ?_, ev15.trans st6 (by simp [hl5]), ok6⟩
        have := run_endRound (P := X.P) jump hb5
        rw [this, hrec]
        rfl
      cases ex with
      | normal =>
        have := exrel_normal he
        subst this
        obtain ⟨hIn, hq4⟩ := hq4
        have hq4 : Wk (N + 2) s4 ⟨[], hq (pre ++ [x]) ++ [.pin (.deferred (some [])), .pin (.loop (rec .busy none))]⟩ := hq4
        obtain ⟨E5, ev5, hrel5⟩ := hq4 A E4 a4 w4 ev14.len hrel4
        obtain ⟨E6, hr6, ev6, ok6⟩ := last none _ E5 a4 (hqN _) ev5 hrel5
        refine ⟨_, _, hr6, .inl ⟨rfl, E6, rfl, ?_, ?_, hIn⟩⟩
        · rw [hpl]; rw [show hp (pre ++ [x]) = _ from congrFun hhp _]; exact ev6
        · rw [show hp (pre ++ [x]) = _ from congrFun hhp _]; exact ok6
      | ret =>
        obtain ⟨hx, hsx, hlx, hw⟩ := hq4
        cases e <;> try (exact he.elim)
        obtain ⟨E5, ev5, hrel5⟩ := hw A E4 a4 w4 ev14.len hrel4
        obtain ⟨E6, hr6, ev6, ok6⟩ := last (some .ret) _ E5 a4 hlx ev5 hrel5
        exact ⟨_, _, hr6, .inr ⟨rfl, E6, hx, hsx, hlx, rfl, ev.trans ev6 (Nat.le_refl _), ok6⟩⟩
      | _ => exact hq4.elim
    | _ => exact hq2.elim
  -- behind the iterator
  have behind : ∀ (h2 : Hp) (E2 : Env) (r : Loop), h2.length = N → r.state ≠ .busy → Evo (N + 2) E1 (hp []) E2 (h2 ++ [.pin (.deferred (some [])), .pin (.loop r)]) → EnvOk A E2 (h2 ++ [.pin (.deferred (some [])), .pin (.loop r)]) →
      ∃ E3, (Instr.endLoop L).run X.P E2.w = .ok r.pending E3.w ∧ E3.ρ N = some E.w.heap.size ∧
        Rel { A with ds := [markOf E.w.heap.size] } E3 ⟨s.t, h2 ++ [.pin (.deferred (some [])), .pin (.loop { r with state := .exhausted })]⟩ { a with defers := [markOf E.w.heap.size] } E3.w := by
    intro h2 E2 r hl2 hst ev hok
    have hp2 : (h2 ++ [Ob.pin (.deferred (some [])), .pin (.loop r)])[N + 1]? = some (.pin (.loop r)) := get_pin1 hl2
    have hL2 := rho_keep ev (Nat.lt_succ_self _) (hpL []) hL1
    have hD2 := rho_keep ev (by omega) (hpD []) hD1
    have hb2 := loop_at hok hp2 hL2
    have ev3 := (Stp.turn (.loop { r with state := .exhausted }) hok hp2 hL2).evo hok
    have ok3 := turn_ok (.loop { r with state := .exhausted }) hok hp2 hL2
    rw [set_pin1 hl2] at ev3 ok3
    refine ⟨E2.turn L (.loop { r with state := .exhausted }), run_endLoop hb2 hst, hD2, ok3.ds _, rfl, rfl, fun t => ?_⟩
    have h1 := ((hn.rel.tmps t).evo evE (Nat.le_of_eq hN)).evo ev (Nat.le_of_eq (hpl []))
    exact h1.evo ev3 (Nat.le_refl _)
  rintro e W2 ⟨⟨u, rfl⟩, (⟨E2, rfl, ev, hok, hIx⟩ | ⟨E2, hx, hsx, hlx, rfl, ev, hok⟩)⟩
  · rw [hpl] at ev
    rw [show hp xs = _ from congrFun hhp _] at ev hok
    obtain ⟨E3, hr3, hD3, hrel3⟩ := behind _ E2 (rec .ready none) (hqN _) (by rw [hrec]; simp [recOf]) ev hok
    refine ⟨none, E3.w, by rw [hr3, hrec]; rfl, ?_⟩
    have := hdone E3 _ _ hIx hrel3 hD3
    simpa [hda] using this
  obtain ⟨E3, hr3, hD3, hrel3⟩ := behind _ E2 (rec .done (some .ret)) hlx (by rw [hrec]; simp [recOf]) ev hok
  refine ⟨some .ret, E3.w, by rw [hr3, hrec]; rfl, wpIn_ret ?_⟩
  have := hstop E3 _ _ hx hsx hlx hrel3 hD3
  simpa [hda] using this
end
end Go.Ab
namespace Go.Ab
open Go.RowKit
def Goes (M : Nat) (st : S) : Ex → S → Prop := fun ex s' => ex = .normal ∧ Wk M s' st
theorem goes {M : Nat} {st s : S} (h : Wk M s st) : Goes M st .normal s := ⟨rfl, h⟩
section
variable {X : Ctx} {A : Actn}
theorem piece (hK : KOk X) {r : Option Nat} {n m M : Nat} {t0 : List Nat} {c : Code} {s : S} (st : S) {a : Act} {E : Env} {K : Act → World → Prop} {Q : Exit → Act → World → Prop} (hok : okR m t0 c = true) (hM : M ≤ s.h.length)
    (h : awpS X c s (Goes M st)) (hn : Now X A E s a) (hs : a.tmps.size = m)
    (hk : ∀ (a' : Act) (E' : Env), Evo M E s.h E' st.h → Rel A E' st a' E'.w → a'.tmps.size = m → (∀ k ∈ t0, a'.tmps.getD k undef = a.tmps.getD k undef) → K a' E'.w) : c.wpIn (FR r) n X.P (Exit.then K Q) a E.w := by
  refine wpIn_mono (awpR_sim hK (r := r) (n := n) (t0 := t0) c s _ a E hok h hn hs) ?_
  rintro e a1 w1 ⟨⟨ex, s1, E1, ev, hrel, hsz, he, rfl, hw⟩, h0⟩
  have := exrel_normal he
  subst this
  have ev1 := ev.weak hM
  obtain ⟨E2, ev2, hrel2⟩ := hw A E1 a1 w1 ev1.len hrel
  have hw2 := hrel2.world
  subst hw2
  exact hk a1 E2 (ev1.trans ev2 (Nat.le_refl _)) hrel2 hsz h0
theorem pieceL (hK : KOk X) {r : Option Nat} {n m M : Nat} {t0 : List Nat} {ops : Array Oper} (l : List Oper) {l2 : List Oper} {s : S} (st : S) {a : Act} {E : Env} {Q : Exit → Act → World → Prop}
    (hok : l.all (okO m t0) = true) (hM : M ≤ s.h.length)
    (h : fin false (Goes M st) (runOps X ops l s)) (hn : Now X A E s a) (hs : a.tmps.size = m)
    (hk : ∀ (a' : Act) (E' : Env), Evo M E s.h E' st.h → Rel A E' st a' E'.w → a'.tmps.size = m → (∀ k ∈ t0, a'.tmps.getD k undef = a.tmps.getD k undef) → wpListIn (FR r) n X.P ops Q l2 a' E'.w) : wpListIn (FR r) n X.P ops Q (l ++ l2) a E.w := by
  cases hr : runOps X ops l s with
  | none => rw [hr] at h; exact h.elim
  | some p =>
    obtain ⟨ex, s1⟩ := p
    rw [hr] at h
    have h : ex = .normal ∧ Wk M s1 st := by
      cases ex with
      | normal => exact h
      | _ => exact h.2
    obtain ⟨rfl, hw⟩ := h
    refine opsR_sim hK (t0 := t0) l E s a .normal s1 hn hr (fun o ho => ?_) (fun e a1 E1 ev hrel hsz h0 he => ?_)
    · rw [hs]
      exact okR_ops (ops := l.toArray) (by simpa using hok) o (by simpa using ho)
    have := exrel_normal he
    subst this
    have ev1 := ev.weak hM
    obtain ⟨E2, ev2, hrel2⟩ := hw A E1 a1 E1.w ev1.len hrel
    have hw2 := hrel2.world
    show wpListIn (FR r) n X.P ops Q l2 a1 E1.w
    rw [← hw2]
    exact hk a1 E2 (ev1.trans ev2 (Nat.le_refl _)) (by rw [hw2]; exact hrel2) (hsz.trans hs) h0
theorem wanted_step {r : Option Nat} {n : Nat} {ops : Array Oper} {o : Oper} {rest : List Oper} {s : S} {a : Act} {E : Env} {w : World} {Q : Exit → Act → World → Prop} (hn : Now X A E s a) (hw : wantA ops o s = some true)
    (h : o.wpIn (FR r) n X.P a w (wpListIn (FR r) n X.P ops Q rest) Q) : wpListIn (FR r) n X.P ops Q (o :: rest) a w := by
  unfold wpListIn
  rw [want_sim hn hw, if_pos rfl]
  exact h
end
theorem yield_op {P : Program} {n l d t15 t16 : Nat} {ty : TypeId} {pos : String} {after : Array Edge} {g : Option (Nat × Bool)} {tys : Array TypeId} {a : Act} {w : World} {R : Ending → World → Prop} {K : Act → World → Prop} {Q : Exit → Act → World → Prop}
    (h15 : a.tmps.getD t15 undef = .func (.yield l) #[] #[]) (hy : YieldAt (FR none) (n - 1) P l #[a.tmps.getD t16 undef] w R) (hR : ∀ e w', R e w' → ∃ v, e = .returned v ∧ K (a.put (some d) v) w') :
    Oper.wpIn (FR none) n P ⟨some d, Op.call { callee := .value (.tmp t15), args := #[.tmp t16], argTypes := tys }, ty, pos, after, g⟩ a w K Q := by
  obtain ⟨fn, tmps, asg, body, hx, hr⟩ := hy
  refine ⟨fun _ _ => trivial, ?_⟩
  rw [Oper.semAt_eq _ _ _ (fun c hc => by cases hc)]
  have h15' : a.eval (.tmp t15) = .func (.yield l) #[] #[] := h15
  have h16' : a.eval (.tmp t16) = a.tmps.getD t16 undef := rfl
  have : (execOp a.eval ⟨some d, Op.call { callee := .value (.tmp t15), args := #[.tmp t16], argTypes := tys }, ty, pos, after, g⟩).run P w = .ok (.round l fn tmps asg body) w := by
    rw [Array.getD_eq_getD_getElem?] at hx
    simp only [execOp, resolve, h15']
    simp [go_sem, invoke, hx]
  rw [this, Oper.uponIn_round]
  refine ⟨fun hh => (by cases hh), hr.mono ?_⟩
  rintro e w' hq
  obtain ⟨v, rfl, hk⟩ := hR e w' hq
  exact hk
theorem move_op {P : Program} {r : Option Nat} {n d : Nat} {x : Operand} {ty : TypeId} {pos : String} {after : Array Edge} {g : Option (Nat × Bool)} {a : Act} {w : World} {K : Act → World → Prop} {Q : Exit → Act → World → Prop}
    (h : K (a.put (some d) (a.eval x)) w) : Oper.wpIn (FR r) n P ⟨some d, Op.move x, ty, pos, after, g⟩ a w K Q := by
  refine opIn rfl ?_
  unfold Oper.wp
  have : (execOp a.eval ⟨some d, Op.move x, ty, pos, after, g⟩).run P w = .ok (.value (a.eval x)) w := by simp [execOp, go_sem]
  rw [this]
  exact h
theorem not_op {P : Program} {r : Option Nat} {n d t t4 : Nat} {b : Bool} {ty : TypeId} {pos : String} {after : Array Edge} {g : Option (Nat × Bool)} {a : Act} {w : World} {K : Act → World → Prop} {Q : Exit → Act → World → Prop}
    (ht : a.tmps.getD t undef = .bool b) (h : K (a.put (some d) (.bool !b)) w) : Oper.wpIn (FR r) n P ⟨some d, Op.unOp .not t4 (.tmp t), ty, pos, after, g⟩ a w K Q := by
  refine opIn rfl ?_
  unfold Oper.wp
  have ht' : a.eval (.tmp t) = .bool b := ht
  have : (execOp a.eval ⟨some d, Op.unOp .not t4 (.tmp t), ty, pos, after, g⟩).run P w = .ok (.value (.bool !b)) w := by
    simp only [execOp, ht']
    simp [go_sem]
  rw [this]
  exact h
theorem pick_op {P : Program} {r : Option Nat} {n d t : Nat} {x y : Operand} {ty : TypeId} {pos : String} {after : Array Edge} {g : Option (Nat × Bool)} {a : Act} {w : World} {K : Act → World → Prop} {Q : Exit → Act → World → Prop}
    (ht : a.tmps.getD t undef = .bool true) (h : K (a.put (some d) (a.eval x)) w) : Oper.wpIn (FR r) n P ⟨some d, Op.pick (.tmp t) x y, ty, pos, after, g⟩ a w K Q := by
  refine opIn rfl ?_
  unfold Oper.wp
  have ht' : a.eval (.tmp t) = .bool true := ht
  have : (execOp a.eval ⟨some d, Op.pick (.tmp t) x y, ty, pos, after, g⟩).run P w = .ok (.value (a.eval x)) w := by
    simp only [execOp, ht']
    simp [go_sem]
  rw [this]
  exact h
theorem put_same {a : Act} {d : Nat} {v : Value} (h : d < a.tmps.size) : (a.put (some d) v).tmps.getD d undef = v := by
  simp only [Act.put, Array.getD_eq_getD_getElem?]
  simp [h]
theorem postM_ret {X : Ctx} {A : Actn} {rs : List ResultVar} {r : List PA} {E : Env} {s : S} {a : Act} (hrel : Rel A E s a E.w) (hds : A.ds = []) (hres : resAll X s rs = some r) : PostM X A rs r .ret a E.w :=
  ⟨.inr rfl, E, s, ⟨hrel.env.ds _, rfl, rfl, hrel.tmps⟩, .inl ⟨hrel.defers.trans hds, hres⟩⟩
theorem postM_mark {X : Ctx} {A : Actn} {rs : List ResultVar} {r : List PA} {E : Env} {s : S} {a : Act} {b id : Nat} (hrel : Rel { A with ds := [markOf b] } E s a E.w) (hid : E.ρ id = some b) (hp : s.h[id]? = some (.pin (.deferred (some []))))
    (hres : resAll X ⟨s.t, s.h.set id (.pin (.deferred none))⟩ rs = some r) : PostM X A rs r .ret a E.w :=
  ⟨.inr rfl, E, s, ⟨hrel.env.ds _, rfl, rfl, hrel.tmps⟩, .inr ⟨id, b, hrel.defers, hid, hp, hres⟩⟩
end Go.Ab
namespace Go.Ab
open Go.RowKit
theorem pieceW {X : Ctx} {A : Actn} (hK : KOk X) (hm : X.P.follows .mixedOrders = true) {n m M : Nat} {c : Code} {s : S} (st : S) {a : Act} {E : Env} {K : Act → World → Prop} {Q : Exit → Act → World → Prop} (hok : okCode X m c = true) (hM : M ≤ s.h.length)
    (h : awpS X c s (Goes M st)) (hn : Now X A E s a) (hs : a.tmps.size = m)
    (hk : ∀ (a' : Act) (E' : Env), Evo M E s.h E' st.h → Rel A E' st a' E'.w → a'.tmps.size = m → K a' E'.w) : c.wpIn (FR none) n X.P (Exit.then K Q) a E.w := by
  refine (wpIn_wide (n := n)).2 (wp_mono (awpS_sim hK hm c s _ a E hok h hn hs) ?_)
  rintro e a1 w1 ⟨ex, s1, E1, ev, hrel, hsz, he, rfl, hw⟩
  have := exrel_normal he
  subst this
  have ev1 := ev.weak hM
  obtain ⟨E2, ev2, hrel2⟩ := hw A E1 a1 w1 ev1.len hrel
  have hw2 := hrel2.world
  subst hw2
  exact hk a1 E2 (ev1.trans ev2 (Nat.le_refl _)) hrel2 hsz
theorem pieceX {X : Ctx} {A : Actn} (hK : KOk X) {r : Option Nat} {n m M : Nat} {t0 : List Nat} {c : Code} {s : S} (st : S) {a : Act} {E : Env} {Q : Exit → Act → World → Prop} (hok : okR m t0 c = true) (hM : M ≤ s.h.length)
    (h : awpS X c s (Goes M st)) (hn : Now X A E s a) (hs : a.tmps.size = m)
    (hk : ∀ (a' : Act) (E' : Env), Evo M E s.h E' st.h → Rel A E' st a' E'.w → a'.tmps.size = m → (∀ k ∈ t0, a'.tmps.getD k undef = a.tmps.getD k undef) → Q .normal a' E'.w) : c.wpIn (FR r) n X.P Q a E.w := by
  refine wpIn_mono (awpR_sim hK (r := r) (n := n) (t0 := t0) c s _ a E hok h hn hs) ?_
  rintro e a1 w1 ⟨⟨ex, s1, E1, ev, hrel, hsz, he, rfl, hw⟩, h0⟩
  have := exrel_normal he
  subst this
  have ev1 := ev.weak hM
  obtain ⟨E2, ev2, hrel2⟩ := hw A E1 a1 w1 ev1.len hrel
  have hw2 := hrel2.world
  subst hw2
  exact hk a1 E2 (ev1.trans ev2 (Nat.le_refl _)) hrel2 hsz h0
theorem pieceEnd {X : Ctx} {A : Actn} (hK : KOk X) (hm : X.P.follows .mixedOrders = true) {n m : Nat} {c : Code} {s : S} {a : Act} {E : Env} {rs : List ResultVar} {r : List PA} (hok : okCode X m c = true)
    (h : awpS X c s (Rets X rs r)) (hn : Now X A E s a) (hs : a.tmps.size = m) (hds : A.ds = []) : c.wpIn (FR none) n X.P (PostM X A rs r) a E.w := by
  refine (wpIn_wide (n := n)).2 (wp_mono (awpS_sim hK hm c s _ a E hok h hn hs) ?_)
  rintro e a1 w1 ⟨ex, s1, E1, ev, hrel, hsz, he, hq⟩
  have hw := hrel.world
  subst hw
  have hr : resAll X s1 rs = some r → PostM X A rs r e a1 E1.w ∨ ¬ (e = .normal ∨ e = .ret) := fun h => by
    by_cases hne : e = .normal ∨ e = .ret
    · refine .inl ⟨hne, E1, s1, ⟨hrel.env.ds _, rfl, rfl, hrel.tmps⟩, .inl ⟨hrel.defers.trans hds, h⟩⟩
    exact .inr hne
  cases ex <;> simp only [Rets] at hq
  · have := exrel_normal he
    subst this
    rcases hr hq with h | h
    · exact h
    exact absurd (.inl rfl) h
  cases e <;> try (exact he.elim)
  rcases hr hq with h | h
  · exact h
  exact absurd (.inr rfl) h
section
variable {P : Program} {r : Option Nat} {n d : Nat} {x : Operand} {ty : TypeId} {pos : String} {after : Array Edge} {g : Option (Nat × Bool)} {a : Act} {K : Act → World → Prop} {Q : Exit → Act → World → Prop}
theorem range_op {t k e : TypeId} {b : Nat} {es : Array MapEntry} {clock : Nat} {w : World} (ht : P.underlying t = some (.map k e)) (hx : a.eval x = .map (some b)) (hb : w.heap[b]? = some (.map es clock))
    (h : K (a.put (some d) (.pointer (some ⟨w.heap.size, 0, none⟩))) (w.alloc (.mapIter (some b) clock #[] clock))) : Oper.wpIn (FR r) n P ⟨some d, Op.range t x, ty, pos, after, g⟩ a w K Q := by
  refine opIn rfl ?_
  unfold Oper.wp
  have : (execOp a.eval ⟨some d, Op.range t x, ty, pos, after, g⟩).run P w = .ok (.value (.pointer (some ⟨w.heap.size, 0, none⟩))) (w.alloc (.mapIter (some b) clock #[] clock)) := by
    simp [execOp, hx, run_range_map w t k e b es clock ht hb, Result.andThen]
  rw [this]
  exact h
theorem next_op {rb : Nat} {v : Value} {w w' : World} (hx : a.eval x = .pointer (some ⟨rb, 0, none⟩)) (hrun : (Instr.next (.pointer (some ⟨rb, 0, none⟩)) false ty).run P w = .ok v w')
    (h : K (a.put (some d) v) w') : Oper.wpIn (FR r) n P ⟨some d, Op.next x false, ty, pos, after, g⟩ a w K Q := by
  refine opIn rfl ?_
  unfold Oper.wp
  have : (execOp a.eval ⟨some d, Op.next x false, ty, pos, after, g⟩).run P w = .ok (.value v) w' := by
    simp [execOp, hx, hrun, Result.andThen]
  rw [this]
  exact h
theorem entry_op {rb : Nat} {v : Value} {w w' : World} (hx : a.eval x = .pointer (some ⟨rb, 0, none⟩)) (hrun : (Instr.entry (.pointer (some ⟨rb, 0, none⟩))).run P w = .ok v w')
    (h : K (a.put (some d) v) w') : Oper.wpIn (FR r) n P ⟨some d, Op.entry x, ty, pos, after, g⟩ a w K Q := by
  refine opIn rfl ?_
  unfold Oper.wp
  have : (execOp a.eval ⟨some d, Op.entry x, ty, pos, after, g⟩).run P w = .ok (.value v) w' := by
    simp [execOp, hx, hrun, Result.andThen]
  rw [this]
  exact h
end
theorem extract_op {P : Program} {r : Option Nat} {n d j : Nat} {x : Operand} {ty : TypeId} {pos : String} {after : Array Edge} {g : Option (Nat × Bool)} {a : Act} {w : World} {vs : Array Value} {v : Value} {K : Act → World → Prop} {Q : Exit → Act → World → Prop} (hx : a.eval x = .tuple vs) (hv : vs[j]? = some v)
    (h : K (a.put (some d) v) w) : Oper.wpIn (FR r) n P ⟨some d, Op.extract x j, ty, pos, after, g⟩ a w K Q := by
  refine opIn rfl ?_
  unfold Oper.wp
  have : (execOp a.eval ⟨some d, Op.extract x j, ty, pos, after, g⟩).run P w = .ok (.value v) w := by
    unfold execOp
    dsimp only
    rw [hx]
    simp [Instr.extract, hv, go_sem]
  rw [this]
  exact h
theorem tup2_rel {E : Env} {h : Hp} {x y : V} {u v : Value} (hx : x.rel E h u) (hy : y.rel E h v) : (AV.tup [x, y]).rel E h (.tuple #[u, v]) := by
  refine ⟨[u, v], rfl, rfl, fun j z hj => ?_⟩
  match j, hj with
  | 0, hj => cases hj; exact ⟨u, rfl, hx⟩
  | 1, hj => cases hj; exact ⟨v, rfl, hy⟩
theorem rel_sub {A : Actn} {E : Env} {t t' : List (Nat × AV)} {h : Hp} {a : Act} {w : World} (hr : Rel A E ⟨t, h⟩ a w) (hs : subT t t') : Rel A E ⟨t', h⟩ a w :=
  ⟨hr.env, hr.world, hr.defers, fun k => by
    show (look t' k).rel E h _
    rcases look_sub t' hs k with h1 | h1
    · rw [h1]; trivial
    · rw [h1]; exact hr.tmps k⟩
theorem top_put {A : Actn} {E : Env} {s : S} {a : Act} {d : Nat} {u : Value} (hr : Rel A E s a E.w) (hd : d < a.tmps.size) : Rel A E ⟨(d, .top) :: s.t, s.h⟩ (a.put (some d) u) E.w :=
  hr.put (Evo.refl (Nat.le_refl _)) hr.env (d := some d) (v := .top) (fun t ht => by cases ht; exact hd) top_rel
def lftM (bm rb : Nat) (w : World) : Nat := match w.heap[bm]?, w.heap[rb]? with
  | some (.map es _), some (.mapIter _ _ seen _) => (leftOf es seen).size
  | _, _ => 0
def Env.drewE (E : Env) : Env := { E with w := E.w.drew }
theorem drew_evo {n : Nat} {E : Env} {h : Hp} (hn : n ≤ h.length) : Evo n E h E.drewE h :=
  ⟨fun _ _ h => h, fun _ _ _ => rfl, fun _ _ o h _ => ⟨⟨o, h, rfl⟩, rfl⟩, fun _ _ m _ c h => ⟨m, c, h, Nat.le_refl _, fun _ => ⟨rfl, fun _ vs T _ hb => ⟨vs, T, hb, rfl⟩⟩⟩, hn⟩
theorem drew_ok {A : Actn} {E : Env} {h : Hp} (hE : EnvOk A E h) : EnvOk A E.drewE h := by
  have st : Stp A.G.dr E h h.length E.drewE h := {
    os := rfl, tape := rfl, output := rfl, size := Nat.le_refl _, blk := fun _ _ _ => rfl, idle := Nat.le_refl _, len := Nat.le_refl _, len' := by omega
    ρ := fun _ _ _ => rfl
    hh := fun _ _ _ => rfl
    F := fun _ _ h => h
    F' := fun _ _ h => .inl h
    same := fun _ _ _ => rfl
    at' := fun b hb => by omega
    keep := fun o ho => by have := lt_of_get ho; omega
    drw := fun _ => Nat.le_succ _ }
  exact st.ok hE fun o ho => by have := lt_of_get ho; omega
structure MapIn (E : Env) (es : MapA) (clock bm : Nat) (ents : Array MapEntry) : Prop where
  at' : E.w.heap[bm]? = some (.map ents clock)
  size : ents.size = es.length
  rel : ∀ (j : Nat) (p : Nat × DV × DV), es[j]? = some p → ∃ e, ents[j]? = some e ∧ e.born = p.1 ∧ p.2.1.rel E.w E.F e.key ∧ p.2.2.rel E.w E.F e.val
theorem mapIn_of {A : Actn} {E : Env} {h : Hp} {id bm : Nat} {es : MapA} {clock : Nat} (hE : EnvOk A E h) (hid : h[id]? = some (.map es clock)) (hb : E.ρ id = some bm) : ∃ ents, MapIn E es clock bm ents := by
  obtain ⟨b, ents, h1, h2, h3, _, h5⟩ := hE.ob id _ hid
  rw [hb] at h1
  cases h1
  exact ⟨ents, h2, h3, h5⟩
theorem MapIn.borns {E : Env} {es : MapA} {clock bm : Nat} {ents : Array MapEntry} (h : MapIn E es clock bm ents) : ents.toList.map (·.born) = es.map (·.1) := by
  refine List.ext_getElem? fun j => ?_
  rw [List.getElem?_map, List.getElem?_map]
  by_cases hj : j < es.length
  · obtain ⟨e, h1, h2, _⟩ := h.rel j es[j] (List.getElem?_eq_getElem hj)
    have : ents.toList[j]? = some e := by rw [Array.getElem?_toList]; exact h1
    rw [this, List.getElem?_eq_getElem hj]
    simp [h2]
  rw [List.getElem?_eq_none (by have := h.size; simp; omega), List.getElem?_eq_none (by omega)]
  rfl
theorem MapIn.find {E : Env} {es : MapA} {clock bm : Nat} {ents : Array MapEntry} (h : MapIn E es clock bm ents) {e : MapEntry} (he : e ∈ ents.toList) : ∃ p ∈ es, e.born = p.1 ∧ p.2.1.rel E.w E.F e.key ∧ p.2.2.rel E.w E.F e.val := by
  obtain ⟨j, hj⟩ := List.getElem?_of_mem he
  have hjl := lt_of_get hj
  have hje : j < es.length := by have := h.size; simp at hjl; omega
  obtain ⟨e', h1, h2, h3, h4⟩ := h.rel j es[j] (List.getElem?_eq_getElem hje)
  rw [Array.getElem?_toList, h1] at hj
  cases hj
  exact ⟨es[j], List.getElem_mem hje, h2, h3, h4⟩
def leftN (es : MapA) (S : Array Nat) : Nat := ((es.map (·.1)).filter fun b => !S.contains b).length
theorem MapIn.left {E : Env} {es : MapA} {clock bm : Nat} {ents : Array MapEntry} (h : MapIn E es clock bm ents) (S : Array Nat) : (leftOf ents S).size = leftN es S := by
  unfold leftOf leftN
  rw [← h.borns, List.filter_map, List.length_map, ← Array.length_toList, Array.toList_filter]
  rfl
theorem lft_eq {A : Actn} {E : Env} {h : Hp} {id it bm rb clock c0 : Nat} {es : MapA} {S0 : Array Nat} (hE : EnvOk A E h) (hid : h[id]? = some (.map es clock)) (hb : E.ρ id = some bm) (hit : h[it]? = some (.pin (.mapIter (some bm) clock S0 c0))) (hr : E.ρ it = some rb) : lftM bm rb E.w = leftN es S0 := by
  obtain ⟨ents, hm⟩ := mapIn_of hE hid hb
  obtain ⟨b2, h1, h2, _, _⟩ := pin_inv hE hit
  rw [hr] at h1
  cases h1
  rw [lftM, hm.at', h2]
  exact hm.left S0
theorem nextM_sim {X : Ctx} {A : Actn} {E : Env} {s : S} {a : Act} {id it bm rb clock c0 : Nat} {es : MapA} {d : KTy} {S0 : Array Nat} {ty : TypeId} (hrel : Rel A E s a E.w) (hid : s.h[id]? = some (.map es clock)) (hb : E.ρ id = some bm) (hit : s.h[it]? = some (.pin (.mapIter (some bm) clock S0 c0))) (hr : E.ρ it = some rb) (hW : MW d es clock) (hc : clock ≤ c0) :
    (leftN es S0 = 0 ∧ (Instr.next (.pointer (some ⟨rb, 0, none⟩)) false ty).run X.P E.w = .ok (.tuple #[.bool false]) E.w) ∨
    ∃ p ∈ es, S0.contains p.1 = false ∧ leftN es (S0.push p.1) < leftN es S0 ∧ ∃ (u v : Value) (E' : Env), (Instr.next (.pointer (some ⟨rb, 0, none⟩)) false ty).run X.P E.w = .ok (.tuple #[.bool true, u, v]) E'.w ∧ Evo s.h.length E s.h E' (s.h.set it (.pin (.mapIter (some bm) clock (S0.push p.1) clock))) ∧
      Rel A E' ⟨s.t, s.h.set it (.pin (.mapIter (some bm) clock (S0.push p.1) clock))⟩ a E'.w ∧ E'.ρ = E.ρ ∧ p.2.1.rel E'.w E'.F u ∧ p.2.2.rel E'.w E'.F v ∧ (Instr.entry (.pointer (some ⟨rb, 0, none⟩))).run X.P E'.w = .ok (.tuple #[u, v]) E'.w := by
  obtain ⟨ents, hm⟩ := mapIn_of hrel.env hid hb
  obtain ⟨b2, h1, h2, h3, h4⟩ := pin_inv hrel.env hit
  rw [hr] at h1
  cases h1
  have hne : bm ≠ rb := fun e => by
    have h9 := hm.at'
    rw [e, h2] at h9
    cases h9
  have hold : ∀ x ∈ ents.toList, x.born < clock := fun x hx => by
    obtain ⟨p, hp, e, _⟩ := hm.find hx
    rw [e]
    exact hW.lt p hp
  have hnd : (ents.toList.map (·.born)).Nodup := by
    rw [hm.borns, List.Nodup, List.pairwise_map]
    exact hW.nd
  rcases run_next_at (P := X.P) E.w ty rb bm clock c0 S0 ents clock h2 hm.at' hold hc with ⟨h0, hrun⟩ | ⟨e, he, w1, hal, hrun⟩
  · exact .inl ⟨by rw [← hm.left]; exact h0, hrun⟩
  obtain ⟨hem, hes⟩ := mem_left he
  obtain ⟨p, hp, hpb, hpk, hpv⟩ := hm.find hem
  have hls := left_shrinks ents S0 e he
  rw [hm.left, hm.left, hpb] at hls
  rw [hpb] at hes hrun
  -- the draw, if there was one; then the iterator's turn
  obtain ⟨E1, hE1, ev1, hρ1, hF1, hw1⟩ : ∃ E1 : Env, EnvOk A E1 s.h ∧ Evo s.h.length E s.h E1 s.h ∧ E1.ρ = E.ρ ∧ E1.F = E.F ∧ E1.w = w1 := by
    rcases hal with rfl | rfl
    · exact ⟨E, hrel.env, Evo.refl (Nat.le_refl _), rfl, rfl, rfl⟩
    exact ⟨E.drewE, drew_ok hrel.env, drew_evo (Nat.le_refl _), rfl, rfl, rfl⟩
  have hr1 : E1.ρ it = some rb := by rw [hρ1]; exact hr
  have ev2 := (Stp.turn (.mapIter (some bm) clock (S0.push p.1) clock) hE1 hit hr1).evo hE1
  have ok2 := turn_ok (.mapIter (some bm) clock (S0.push p.1) clock) hE1 hit hr1
  have ev := ev1.trans ev2 (Nat.le_refl _)
  have hE2w : (E1.turn rb (.mapIter (some bm) clock (S0.push p.1) clock)).w = ChangeMaps.setBlock w1 rb (.mapIter (some bm) clock (S0.push p.1) clock) := by
    show E1.w.putObj rb _ = _
    rw [hw1]
    rfl
  have hb1 : E1.w.heap[bm]? = some (.map ents clock) := by
    rw [hw1]
    rcases hal with rfl | rfl <;> exact hm.at'
  have hr1' : rb < E1.w.heap.size := by
    rw [hw1]
    rcases hal with rfl | rfl <;> exact h3
  refine .inr ⟨p, hp, hes, hls, e.key, e.val, E1.turn rb (.mapIter (some bm) clock (S0.push p.1) clock), by rw [hE2w]; exact hrun, ev, ⟨ok2, rfl, hrel.defers, fun t => (hrel.tmps t).evo ev (Nat.le_refl _)⟩, hρ1, hpk.evo ev, hpv.evo ev, ?_⟩
  refine run_entry_at _ rb bm clock S0 ents clock e ?_ ?_ hem hnd
  · rw [hpb]
    exact World.putObj_heap_same hr1'
  exact (World.putObj_heap_other hne).trans hb1
end Go.Ab
