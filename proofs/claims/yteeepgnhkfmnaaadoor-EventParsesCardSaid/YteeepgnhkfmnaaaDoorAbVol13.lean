/-
  Texts of the layer and of the laws, put together: AbH4, Ab19. No law is stated here.
-/
import Derived.Test.YteeepgnhkfmnaaaDoorAbVol12
import Derived.Recover
set_option linter.unusedSimpArgs false
set_option linter.unusedVariables false
set_option maxRecDepth 100000

/-
  Functions that may panic, and functions that defer a closure which recovers.
-/
namespace Go.Ab
open Go.RowKit

/-! ### Functions that return or panic -/

def RetsP (X : Ctx) (rs : List ResultVar) (out : COut) : Ex → S → Prop
  | .ret, s => ∃ vs, resAllV X s rs = some vs ∧ out = .ret (resVV vs) s.h
  | .normal, s => ∃ vs, resAllV X s rs = some vs ∧ out = .ret (resVV vs) s.h
  | .pan x, s => out = .pan x s.h
  | _, _ => False

/-- How a call may end. -/
def EndOk (A : Actn) (E : Env) (h : Hp) (out : COut) (e : Ending) (w' : World) : Prop :=
  ∃ E' h', w' = E'.w ∧ Evo h.length E h E' h' ∧ EnvOk A E' h' ∧
    ((∃ v r, e = .returned v ∧ out = .ret r h' ∧ r.rel E' h' v) ∨ (∃ u x, e = .panicked [{ v := u, recovered := false }] ∧ out = .pan x h' ∧ x.rel E' h' u))

theorem fok_of_end {X : Ctx} {f : FuncId} {fn : Func} {c : Code} {args : List AV} {h : Hp} {out : COut} (hf : X.P.funcs[f]? = some fn) (hb : fn.body = some c) (hname : (fn.name == "runtime.NumGoroutine") = false)
    (H : ∀ (A : Actn) (E : Env) (vs : Array Value), A.G = X.G → EnvOk A E h → vs.size = args.length → (∀ (j : Nat) (x : AV), args[j]? = some x → x.rel E h (vs.getD j undef)) → Calls X.P f vs E.w (EndOk A E h out)) : FOk X.P X.G f args h out := by
  have hne : ¬ fn.name = "runtime.NumGoroutine" := by simpa using hname
  intro A E vs hG hE hs hrel o a K Q hd
  have henter : (callFunc f vs).run X.P E.w = .ok (.enter f vs) E.w := by simp [callFunc, hf, hne, hb]
  rw [henter, Oper.upon_enter]
  refine (H A E vs hG hE hs hrel).mono ?_
  rintro e w' ⟨E', h', rfl, ev, hok', hx⟩
  rcases hx with ⟨v, r, rfl, rfl, hrv⟩ | ⟨u, x, rfl, rfl, hx⟩
  · exact hd v E' ev hok' hrv
  · exact hd u E' ev hok' hx

theorem enter_rel {A : Actn} {E : Env} {h : Hp} {args : List AV} {vs : Array Value} {n : Nat} (d : List Deferred) (hE : EnvOk A E h) (hal : args.length ≤ n) (hs : vs.size = args.length)
    (hrel : ∀ (j : Nat) (x : AV), args[j]? = some x → x.rel E h (vs.getD j undef)) :
    Rel { A with ds := d } E ⟨argV 0 args, h⟩ { tmps := vs ++ Array.replicate (n - vs.size) undef, defers := d } E.w := by
  refine ⟨hE.ds d, rfl, rfl, fun t => ?_⟩
  show (look (argV 0 args) t).rel E h _
  rw [look_argV, if_pos (Nat.zero_le _), Nat.sub_zero]
  cases hx : args[t]? with
  | none => trivial
  | some x =>
    have htl := lt_of_get hx
    have hv := hrel t x hx
    have : (vs ++ Array.replicate (n - vs.size) undef).getD t undef = vs.getD t undef := by
      simp only [Array.getD_eq_getD_getElem?]
      rw [Array.getElem?_append_left (by omega)]
    show x.rel E h ((vs ++ Array.replicate (n - vs.size) undef).getD t undef)
    rw [this]
    exact hv

theorem results_rel {X : Ctx} {A : Actn} {E : Env} {s : S} {a : Act} {fn : Func} (hrel : Rel A E s a E.w) {r : List V} (hres : resAllV X s fn.results.toList = some r) :
    ∃ v, (results fn a.tmps).run X.P E.w = .ok v E.w ∧ (resVV r).rel E s.h v := by
  obtain ⟨vs', hv, hl, hx⟩ := resultsV_run hrel _ _ hres
  have hrun : (results fn a.tmps).run X.P E.w = .ok (match vs' with | [v] => v | l => .tuple l.toArray) E.w := by
    have hm' : (fn.results.mapM (resSem a.tmps)).run X.P E.w = .ok vs'.toArray E.w := by
      rw [Array.mapM_eq_mapM_toList]
      simp only [Sem.run_map, hv, Result.andThen_ok]
    rw [results_eq]
    simp only [Sem.run_bind, hm', Result.andThen_ok]
    cases vs' with
    | nil => simp
    | cons v l =>
      cases l with
      | nil => simp
      | cons v2 l => simp
  refine ⟨_, hrun, ?_⟩
  match r, vs', hl, hx with
  | [x], [v], _, hx =>
    obtain ⟨u, hu, hru⟩ := hx 0 x rfl
    cases hu
    exact hru
  | [], [], _, hx => exact ⟨[], rfl, rfl, fun j x hj => by simp at hj⟩
  | x :: y :: r, v :: v2 :: l, hl, hx => exact ⟨v :: v2 :: l, rfl, hl, hx⟩

/-- A call, from the body, which may panic. -/
theorem fok_of_awpP {X : Ctx} {f : FuncId} {fn : Func} {c : Code} {args : List AV} {h : Hp} {out : COut} (hf : X.P.funcs[f]? = some fn) (hb : fn.body = some c) (hname : (fn.name == "runtime.NumGoroutine") = false)
    (hok : okCode X fn.ntmps c = true) (hmix : X.P.follows .mixedOrders = true) (hK : KOk X) (hal : args.length ≤ fn.ntmps)
    (hbody : awpS X c ⟨argV 0 args, h⟩ (RetsP X fn.results.toList out)) : FOk X.P X.G f args h out := by
  refine fok_of_end hf hb hname fun A E vs hG hE hs hrel => ?_
  have hr := enter_rel (n := fn.ntmps) [] hE hal hs hrel
  have hsz : (vs ++ Array.replicate (fn.ntmps - vs.size) undef).size = fn.ntmps := by simp; omega
  refine calls_of_wp hf hb (wp_mono (awpS_sim (A := { A with ds := [] }) hK hmix c ⟨argV 0 args, h⟩ _ _ E hok hbody ⟨hG, hr⟩ hsz) fun e a' w' ⟨ex, s', E', ev, hrel', _, he, hq⟩ => ?_)
  have hw := hrel'.world
  subst hw
  have fin : (∃ vs, resAllV X s' fn.results.toList = some vs ∧ out = .ret (resVV vs) s'.h) → a'.defers = [] ∧ ∃ v, (results fn a'.tmps).run X.P E'.w = .ok v E'.w ∧ EndOk A E h out (.returned v) E'.w := by
    rintro ⟨r, hres, rfl⟩
    obtain ⟨v, hv, hrv⟩ := results_rel hrel' hres
    exact ⟨hrel'.defers, v, hv, E', s'.h, rfl, ev, hrel'.env.nods, .inl ⟨v, _, rfl, rfl, hrv⟩⟩
  cases ex <;> simp only [RetsP] at hq
  · have := exrel_normal he
    subst this
    exact fin hq
  · cases e <;> first | exact he.elim | exact fin hq
  · cases e <;> first | exact he.elim | skip
    obtain ⟨u, rfl, hx⟩ := he
    exact ⟨hrel'.defers, E', s'.h, rfl, ev, hrel'.env.nods, .inr ⟨u, _, rfl, hq, hx⟩⟩

/-! ### Deferred closures -/

/-- The frame below a deferred call, before and behind: it returns, or it panics with x and is recovered. -/
def Mode (E : Env) (h : Hp) : Option C1 → FrameMode → FrameMode → Prop
  | none, u, u' => u = .returning ∧ u' = .returning
  | some x, u, u' => ∃ v, x.rel E h v ∧ u = .panicking [{ v := v, recovered := false }] ∧ u' = .panicking [{ v := v, recovered := true }]

/-- What a deferred closure does. -/
def DOk (P : Program) (G : Gl) (g : FuncId) (args : List AV) (h : Hp) (x : Option C1) (h' : Hp) : Prop :=
  ∀ (A : Actn) (E : Env) (vs : Array Value) (u u' : FrameMode), A.G = G → EnvOk A E h → vs.size = args.length → (∀ (j : Nat) (x : AV), args[j]? = some x → x.rel E h (vs.getD j undef)) → Mode E h x u u' →
    CallsD P g vs u E.w fun e u1 w' => u1 = u' ∧ ∃ v E', e = .returned v ∧ w' = E'.w ∧ Evo h.length E h E' h' ∧ EnvOk A E' h'

def capsA (caps : List (Nat × Nat)) : List AV := caps.map fun p => .v (.c (.ptr p.1 p.2))

/-- What the body must do, the closure deferred; behind it objects may be forgotten, but for the first n. -/
def RetsD (X : Ctx) (n : Nat) (rs : List ResultVar) (g : FuncId) (caps : List (Nat × Nat)) (out : COut) : Ex → S → Prop
  | .ret, s => ∃ h', DOk X.P X.G g (capsA caps) s.h none h' ∧ ∃ s', Wk n ⟨s.t, h'⟩ s' ∧ ∃ vs, resAllV X s' rs = some vs ∧ out = .ret (resVV vs) s'.h
  | .normal, s => ∃ h', DOk X.P X.G g (capsA caps) s.h none h' ∧ ∃ s', Wk n ⟨s.t, h'⟩ s' ∧ ∃ vs, resAllV X s' rs = some vs ∧ out = .ret (resVV vs) s'.h
  | .pan x, s => ∃ h', DOk X.P X.G g (capsA caps) s.h (some x) h' ∧ ∃ s', Wk n ⟨s.t, h'⟩ s' ∧ ∃ vs, resAllV X s' rs = some vs ∧ out = .ret (resVV vs) s'.h
  | _, _ => False

/-- A part of a region's operations, what stands behind it left open. -/
theorem ops_simD {X : Ctx} {A : Actn} (hK : KOk X) {ops : Array Oper} {Q : Exit → Act → World → Prop} {tail : List Oper} : ∀ (l : List Oper) (E : Env) (s : S) (a : Act) (n : Nat) (s' : S), Now X A E s a → n ≤ s.h.length →
    runOps X ops l s = some (.normal, s') → (∀ o ∈ l, ∀ t, o.dst = some t → t < a.tmps.size) →
    (∀ (a' : Act) (E' : Env), Evo n E s.h E' s'.h → Rel A E' s' a' E'.w → a'.tmps.size = a.tmps.size → wpList X.P ops Q tail a' E'.w) → wpList X.P ops Q (l ++ tail) a E.w
  | [], E, s, a, n, s', hn, hn0, hr, _, hQ => by
    simp only [runOps, Option.some.injEq, Prod.mk.injEq] at hr
    obtain ⟨_, rfl⟩ := hr
    exact hQ a E (Evo.refl hn0) hn.rel rfl
  | o :: l, E, s, a, n, s', hn, hn0, hr, hfit, hQ => by
    simp only [runOps] at hr
    cases hw : wantA ops o s with
    | none => simp [hw] at hr
    | some w =>
      simp only [hw, Option.bind_some] at hr
      have hwant := want_sim hn hw
      rw [List.cons_append]
      unfold wpList
      cases w with
      | false =>
        simp only [Bool.false_eq_true, if_false] at hr
        rw [if_neg (by rw [hwant]; simp)]
        have hrel := hn.rel.put (Evo.refl (Nat.le_refl _)) hn.rel.env (d := o.dst) (v := .tup []) (u := undef) (hfit o List.mem_cons_self) skp_rel
        have hh : (s.putO o.dst (.tup [])).h = s.h := by cases o.dst <;> rfl
        refine ops_simD hK l E (s.putO o.dst (.tup [])) (a.put o.dst undef) n s' ⟨hn.G, hrel⟩ (by rw [hh]; exact hn0) hr (fun o' ho' t ht => by rw [put_size]; exact hfit o' (List.mem_cons_of_mem _ ho') t ht)
          (fun a' E' ev hr' hs => hQ a' E' (by rw [hh] at ev; exact ev) hr' (by rw [hs, put_size]))
      | true =>
        simp only [if_true] at hr
        rw [if_pos hwant]
        left
        cases hst : stepA X o s with
        | none => simp [hst] at hr
        | some p =>
          obtain ⟨ex1, s1⟩ := p
          simp only [hst, Option.bind_some] at hr
          refine oper_sim hK hn hn0 hst (hfit o List.mem_cons_self) (fun he a' E' ev hrel hsz => ?_) (fun x he u E' ev hrel hx => ?_)
          · subst he
            refine ops_simD hK l E' s1 a' n s' ⟨hn.G, hrel⟩ ev.len hr (fun o' ho' t ht => by rw [hsz]; exact hfit o' (List.mem_cons_of_mem _ ho') t ht)
              (fun a2 E2 ev2 hr2 hs2 => hQ a2 E2 (ev.trans ev2 (Nat.le_refl _)) hr2 (hs2.trans hsz))
          · subst he
            simp at hr

/-- How a call of a function ends that defers a closure ahead of all that can panic. -/
theorem calls_of_defer {X : Ctx} {f : FuncId} {fn : Func} {c0 rest : Code} {i : Nat} {ops : Array Oper} {l : List Oper} {df : Oper} {cl : Call} {k : Operand} {g : FuncId} {caps : List (Nat × Nat)} {args : List AV} {h : Hp} {out : COut}
    (hf : X.P.funcs[f]? = some fn) (hb : fn.body = some (.seq c0 (.seq (.region i ops false) rest)))
    (hok0 : okCode X fn.ntmps c0 = true) (hokr : okCode X fn.ntmps rest = true) (hops : ops.toList = l ++ [df]) (hop : df.op = .defer cl) (hcl : cl.callee = .value k) (hca : cl.args = #[]) (hgu : df.guard = none) (hdst : df.dst = none)
    (hfit : ∀ o ∈ l, ∀ t, o.dst = some t → t < fn.ntmps) (hgc : ∀ (vs : Array Value) (w : World), (callFunc g vs).run X.P w = .ok (.enter g vs) w)
    (hmix : X.P.follows .mixedOrders = true) (hK : KOk X) (hal : args.length ≤ fn.ntmps)
    (hbody : awpS X c0 ⟨argV 0 args, h⟩ fun ex s => ex = .normal ∧ ∃ s1, runOps X ops l s = some (.normal, s1) ∧ X.ev s1 k = .v (.c (.fn g caps)) ∧ awpS X rest s1 (RetsD X h.length fn.results.toList g caps out)) : ∀ (A : Actn) (E : Env) (vs : Array Value), A.G = X.G → EnvOk A E h → vs.size = args.length → (∀ (j : Nat) (x : AV), args[j]? = some x → x.rel E h (vs.getD j undef)) → Calls X.P f vs E.w (EndOk A E h out) := by
  intro A E vs hG hE hs hrel
  have hr := enter_rel (n := fn.ntmps) [] hE hal hs hrel
  have hsz : (vs ++ Array.replicate (fn.ntmps - vs.size) undef).size = fn.ntmps := by simp; omega
  refine calls_of_wp_defers hf hb (wp_seq (wp_mono (awpS_sim (A := { A with ds := [] }) hK hmix c0 _ _ _ E hok0 hbody ⟨hG, hr⟩ hsz) fun e a1 w1 ⟨ex, s1, E1, ev1, hrel1, hsz1, he1, hq1⟩ => ?_))
  obtain ⟨rfl, s2, hrun, hcall, hrest⟩ := hq1
  have := exrel_normal he1
  subst this
  have hw := hrel1.world
  subst hw
  refine wp_seq (wp_region_list ?_)
  rw [hops]
  refine ops_simD (A := { A with ds := [] }) hK l E1 s1 a1 s1.h.length s2 ⟨hG, hrel1⟩ (Nat.le_refl _) hrun (fun o ho t ht => by rw [hsz1]; exact hfit o ho t ht) fun a2 E2 ev2 hrel2 hsz2 => ?_
  have hfr := ev_rel (X := X) (A := { A with ds := [] }) ⟨hG, hrel2⟩ k
  rw [hcall] at hfr
  have hfr0 := hfr
  obtain ⟨vs2, hv, hvl, hvc⟩ := hfr
  have hexec : (execOp a2.eval df).run X.P E2.w = .ok (.defer { target := .fn (.func g) vs2.toArray, args := #[] }) E2.w := by simp [execOp, hop, resolve, hcl, hca, hv, Deferred.ofValue]
  unfold wpList
  rw [if_pos (by simp [Region.wanted, hgu])]
  left
  unfold Oper.wp
  rw [hexec, Oper.upon_defer, hdst]
  unfold wpList
  have hd0 : a2.defers = [] := hrel2.defers
  have hrel3 : Rel { A with ds := [{ target := .fn (.func g) vs2.toArray, args := #[] }] } E2 s2 { a2 with defers := { target := .fn (.func g) vs2.toArray, args := #[] } :: a2.defers } E2.w :=
    ⟨hrel2.env.nods.ds _, rfl, by rw [hd0], hrel2.tmps⟩
  refine wp_mono (awpS_sim (A := { A with ds := [{ target := .fn (.func g) vs2.toArray, args := #[] }] }) hK hmix rest s2 _ _ E2 hokr hrest ⟨hG, hrel3⟩ (hsz2.trans hsz1)) fun e a' w' ⟨ex, s', E', ev', hrel', _, he, hq⟩ => ?_
  have hw := hrel'.world
  subst hw
  have evA : Evo h.length E h E' s'.h := (ev1.trans ev2 ev1.len).trans ev' (ev1.trans ev2 ev1.len).len
  have hfr1 := hfr0.evo ev' (Nat.le_refl _)
  obtain ⟨vs3, hv3, hvl3, hvc3⟩ := hfr1
  have e3 : vs3 = vs2 := by
    rw [hv] at hv3
    simpa using hv3.symm
  subst e3
  have hdf : a'.defers = [{ target := .fn (.func g) vs3.toArray, args := #[] }] := hrel'.defers
  have fin : ∀ (x : Option C1) (u u' : FrameMode) (h' : Hp), u ≠ .run → settle u' = .returning → Mode E' s'.h x u u' → DOk X.P X.G g (capsA caps) s'.h x h' → (∃ s2, Wk h.length ⟨s'.t, h'⟩ s2 ∧ ∃ vs, resAllV X s2 fn.results.toList = some vs ∧ out = .ret (resVV vs) s2.h) →
      Leaves X.P fn a'.tmps (EndOk A E h out) a'.defers u E'.w := by
    intro x u u' h' hur hset hm hD ⟨s2, hwk, r, hres, hout⟩
    rw [hdf]
    refine leaves_cons (f := g) (args := vs3.toArray) hur (by simp [invoke, hgc]) ?_
    refine (hD A E' vs3.toArray u u' hG hrel'.env.nods (by simp [capsA, hvl3]) (fun j y hj => ?_) hm).mono ?_
    · simp only [capsA, List.getElem?_map] at hj
      cases hp : caps[j]? with
      | none => simp [hp] at hj
      | some p =>
        simp [hp] at hj
        subst hj
        obtain ⟨b, hbb, hvj⟩ := hvc3 j p hp
        refine ⟨b, hbb, ?_⟩
        simp [Array.getD_eq_getD_getElem?, hvj]
    · rintro e u1 w' ⟨rfl, v, E2', rfl, rfl, ev2', hok2⟩
      have hrel4 : Rel { A with ds := [{ target := .fn (.func g) vs3.toArray, args := #[] }] } E2' ⟨s'.t, h'⟩ a' E2'.w := ⟨hok2.ds _, rfl, hrel'.defers, fun t => (hrel'.tmps t).evo ev2' (Nat.le_refl _)⟩
      have evB := evA.trans ev2' evA.len
      obtain ⟨E3, ev3, hrel5⟩ := hwk _ E2' a' E2'.w evB.len hrel4
      have hw5 := hrel5.world
      obtain ⟨v2, hv2, hrv⟩ := results_rel (by rw [hw5]; exact hrel5) hres
      show Leaves X.P fn a'.tmps (EndOk A E h out) [] (settle u1) E2'.w
      rw [hset]
      rw [hw5] at hv2
      exact ⟨v2, hv2, E3, s2.h, hw5.symm, evB.trans ev3 (Nat.le_refl _), hrel5.env.nods, .inl ⟨v2, _, rfl, hout, hrv⟩⟩
  cases ex <;> simp only [RetsD] at hq
  · have := exrel_normal he
    subst this
    obtain ⟨h', hD, hres⟩ := hq
    exact fin none .returning .returning h' (by simp) rfl ⟨rfl, rfl⟩ hD hres
  · cases e <;> first | exact he.elim | skip
    obtain ⟨h', hD, hres⟩ := hq
    exact fin none .returning .returning h' (by simp) rfl ⟨rfl, rfl⟩ hD hres
  · cases e <;> first | exact he.elim | skip
    obtain ⟨u, rfl, hx⟩ := he
    obtain ⟨h', hD, hres⟩ := hq
    exact fin (some _) _ (.panicking [{ v := u, recovered := true }]) h' (by simp) rfl ⟨u, hx, rfl, rfl⟩ hD hres

/-- A call of a function that defers a closure ahead of all that can panic. -/
theorem fok_of_defer {X : Ctx} {f : FuncId} {fn : Func} {c0 rest : Code} {i : Nat} {ops : Array Oper} {l : List Oper} {df : Oper} {cl : Call} {k : Operand} {g : FuncId} {caps : List (Nat × Nat)} {args : List AV} {h : Hp} {out : COut}
    (hf : X.P.funcs[f]? = some fn) (hb : fn.body = some (.seq c0 (.seq (.region i ops false) rest))) (hname : (fn.name == "runtime.NumGoroutine") = false)
    (hok0 : okCode X fn.ntmps c0 = true) (hokr : okCode X fn.ntmps rest = true) (hops : ops.toList = l ++ [df]) (hop : df.op = .defer cl) (hcl : cl.callee = .value k) (hca : cl.args = #[]) (hgu : df.guard = none) (hdst : df.dst = none)
    (hfit : ∀ o ∈ l, ∀ t, o.dst = some t → t < fn.ntmps) (hgc : ∀ (vs : Array Value) (w : World), (callFunc g vs).run X.P w = .ok (.enter g vs) w)
    (hmix : X.P.follows .mixedOrders = true) (hK : KOk X) (hal : args.length ≤ fn.ntmps)
    (hbody : awpS X c0 ⟨argV 0 args, h⟩ fun ex s => ex = .normal ∧ ∃ s1, runOps X ops l s = some (.normal, s1) ∧ X.ev s1 k = .v (.c (.fn g caps)) ∧ awpS X rest s1 (RetsD X h.length fn.results.toList g caps out)) : FOk X.P X.G f args h out :=
  fok_of_end hf hb hname (calls_of_defer hf hb hok0 hokr hops hop hcl hca hgu hdst hfit hgc hmix hK hal hbody)

/-- What recover hands a closure. -/
def recV : Option C1 → AV
  | none => .v (.c .nili)
  | some x => .v (.c x)

/-- A closure that asks recover first. -/
theorem dok_of_awp {X : Ctx} {g : FuncId} {fn : Func} {i : Nat} {rc as : Oper} {rest : Code} {cl : Call} {p q : Nat} {args : List AV} {h h' : Hp} {x : Option C1}
    (hf : X.P.funcs[g]? = some fn) (hb : fn.body = some (.seq (.region i #[rc, as] false) rest)) (hrs : fn.results = #[])
    (hrc : rc.op = .call cl) (hcl : cl.callee = .builtin .recover) (hca : cl.args = #[]) (hrg : rc.guard = none) (hrd : rc.dst = some p)
    (has : as.op = .assign (.tmp p)) (hag : as.guard = none) (had : as.dst = some q) (hp : p < fn.ntmps) (hq : q < fn.ntmps)
    (hokr : okCode X fn.ntmps rest = true) (hmix : X.P.follows .mixedOrders = true) (hK : KOk X) (hal : args.length ≤ fn.ntmps)
    (hbody : awpS X rest ⟨(q, recV x) :: (p, recV x) :: argV 0 args, h⟩ fun ex s => (ex = .normal ∨ ex = .ret) ∧ s.h = h') : DOk X.P X.G g args h x h' := by
  intro A E vs u u' hG hE hs hrel hm
  have hr := enter_rel (n := fn.ntmps) [] hE hal hs hrel
  have hsz : (vs ++ Array.replicate (fn.ntmps - vs.size) undef).size = fn.ntmps := by simp; omega
  refine callsD_of_wpS hf hb fun c₀ cs hu => ?_
  have hexec : ∀ (a : Act) (w : World), (execOp a.eval rc).run X.P w = .ok .recover w := fun a w => by
    simp [execOp, hrc, resolve, hcl, hca, invoke, builtin]
  have hexec2 : ∀ (a : Act) (w : World), (execOp a.eval as).run X.P w = .ok (.value (a.eval (.tmp p))) w := fun a w => by
    simp [execOp, has]
  -- what recover answers
  obtain ⟨rv, hrv, hrec⟩ : ∃ rv, (recV x).rel E h rv ∧ ((x = none ∧ recoverD (c₀ :: cs) = none ∧ rv = .nilIface) ∨ (recoverD (c₀ :: cs) = some (rv, { c₀ with mode := u' } :: cs))) := by
    cases x with
    | none => exact ⟨.nilIface, rfl, .inl ⟨rfl, by obtain ⟨rfl, _⟩ := hm; simp [recoverD, hu], rfl⟩⟩
    | some x =>
      obtain ⟨v, hx, rfl, rfl⟩ := hm
      exact ⟨v, hx, .inr (by simp [recoverD, hu])⟩
  have hcs : x = none → ({ c₀ with mode := u' } : Frame) = c₀ := fun hx => by
    subst hx
    obtain ⟨rfl, rfl⟩ := hm
    cases c₀
    simp at hu
    subst hu
    rfl
  refine wpS_seq (wpS_region ?_)
  have hrg2 : List.range (#[rc, as] : Array Oper).size = [0, 1] := rfl
  rw [hrg2]
  let a1 : Act := ({ tmps := vs ++ Array.replicate (fn.ntmps - vs.size) undef, defers := [] } : Act).put (some p) rv
  let a2 : Act := a1.put (some q) rv
  have hev : a1.eval (.tmp p) = rv := by
    simp only [a1, Act.put, Act.eval]
    rw [Array.getD_eq_getD_getElem?, Array.getElem?_setIfInBounds_self_of_lt (by rw [hsz]; exact hp)]
    rfl
  have hr1 : Rel { A with ds := [] } E ⟨(p, recV x) :: argV 0 args, h⟩ a1 E.w := hr.put (Evo.refl (Nat.le_refl _)) (hE.ds []) (d := some p) (fun t ht => by cases ht; rw [hsz]; exact hp) hrv
  have hs1 : a1.tmps.size = fn.ntmps := by simp only [a1, put_size]; exact hsz
  have hr2 : Rel { A with ds := [] } E ⟨(q, recV x) :: (p, recV x) :: argV 0 args, h⟩ a2 E.w := hr1.put (Evo.refl (Nat.le_refl _)) (hE.ds []) (d := some q) (fun t ht => by cases ht; rw [hs1]; exact hq) hrv
  have hs2 : a2.tmps.size = fn.ntmps := by simp only [a2, put_size]; exact hs1
  have hend : Exit.thenS (rest.wpS X.P (bodyPostS X.P fn c₀ cs fun e u1 w' => u1 = u' ∧ ∃ v E', e = .returned v ∧ w' = E'.w ∧ Evo h.length E h E' h' ∧ EnvOk A E' h')) (bodyPostS X.P fn c₀ cs fun e u1 w' => u1 = u' ∧ ∃ v E', e = .returned v ∧ w' = E'.w ∧ Evo h.length E h E' h' ∧ EnvOk A E' h') .normal a2 ({ c₀ with mode := u' } :: cs) E.w := by
    refine wpS_of_wp (wp_mono (awpS_sim (A := { A with ds := [] }) hK hmix rest _ _ a2 E hokr hbody ⟨hG, hr2⟩ hs2) fun e a' w' ⟨ex, s', E', ev, hrel', _, he, hq⟩ => ?_)
    have hw := hrel'.world
    subst hw
    obtain ⟨hex, rfl⟩ := hq
    have hres : (results fn a'.tmps).run X.P E'.w = .ok (.tuple #[]) E'.w := by
      obtain ⟨v, hv, hrv2⟩ := results_rel (fn := fn) hrel' (r := []) (by rw [hrs]; rfl)
      obtain ⟨l, rfl, hl, _⟩ := hrv2
      have : l = [] := List.eq_nil_of_length_eq_zero (by simpa using hl)
      subst this
      exact hv
    rcases hex with rfl | rfl
    · have := exrel_normal he
      subst this
      exact ⟨hrel'.defers, u', rfl, _, hres, rfl, _, E', rfl, rfl, ev, hrel'.env.nods⟩
    · cases e <;> first | exact he.elim | exact ⟨hrel'.defers, u', rfl, _, hres, rfl, _, E', rfl, rfl, ev, hrel'.env.nods⟩
  have ops0 : (#[rc, as] : Array Oper)[0]? = some rc := rfl
  have ops1 : (#[rc, as] : Array Oper)[1]? = some as := rfl
  have w0 : ∀ y, Region.wanted rc y = true := fun y => by simp [Region.wanted, hrg]
  have w1 : ∀ y, Region.wanted as y = true := fun y => by simp [Region.wanted, hag]
  simp only [wpOpsS, ops0, ops1, w0, w1, if_true, hexec, hexec2, hrd, had]
  rcases hrec with ⟨hx, hn, rfl⟩ | hsome
  · rw [hn]
    simp only [Oper.upon_value, had]
    rw [hcs hx] at hend
    have : a1.eval (.tmp p) = _ := hev
    rw [this]
    exact hend
  · rw [hsome]
    simp only [Oper.upon_value, had]
    have : a1.eval (.tmp p) = _ := hev
    rw [this]
    exact hend

end Go.Ab

/-
  Structs compared, interface values and pointers compared with nil, types asserted, closures made: as equations. Pass NW as a fact to GO.
-/
namespace Go.Ab
open Go.RowKit

section
variable {X : Ctx} {h : Hp} {ρ : Operand → AV} {dst : Option Nat} {ty : TypeId} {pos : String} {after : Array Edge} {guard : Option (Nat × Bool)}

theorem op_assert {x : Operand} {xt e : TypeId} : opR X ρ h ⟨dst, .typeAssert x xt e true, ty, pos, after, guard⟩ = (assertA e (X.isIf e) (X.zeroV e) (ρ x)).map fun v => .val v h := rfl
theorem op_func {f : FuncId} {l : List Operand} : opR X ρ h ⟨dst, .makeFunc (.func f) #[] l.toArray, ty, pos, after, guard⟩ = (ptrsA (l.map ρ)).map fun l => .val (.v (.c (.fn f l))) h := rfl
theorem as_hit {e : TypeId} {z : Option V} {xs : List D} {ag : Bool} : assertA e (some false) z (.v (.c (.ifc e xs ag))) = some (.tup [if ag then .agg (xs.map .d) else .c (.d (xs.headD .any)), .c (.d (.bool true))]) := by
  simp only [assertA, if_true]
theorem as_miss {e t : TypeId} {z : V} {xs : List D} {ag : Bool} (hn : (t = e) = False) : assertA e (some false) (some z) (.v (.c (.ifc t xs ag))) = some (.tup [z, .c (.d (.bool false))]) := by
  simp only [assertA, hn, if_false, Option.map_some]
theorem as_nil {e : TypeId} {z : V} : assertA e (some false) (some z) (.v (.c .nili)) = some (.tup [z, .c (.d (.bool false))]) := rfl
theorem ptrs_nil : ptrsA [] = some [] := rfl
theorem ptrs_cons {id off : Nat} {r : List AV} : ptrsA (.v (.c (.ptr id off)) :: r) = (ptrsA r).map fun l => (id, off) :: l := rfl
theorem bin_agg {op : BinOp} {e : TypeId} {xs ys : List C1} : X.binA op e (.v (.agg xs)) (.v (.agg ys)) = eqAgg0 op (X.isAgg e) (X.flat e) (allD xs) (allD ys) := rfl
theorem eqAgg_ok {op : BinOp} {l : List Lf} {dx dy : List D} (h1 : (fitsL l dx = true) = True) (h2 : (fitsL l dy = true) = True) : eqAgg0 op (some true) (some l) (some dx) (some dy) = eqOp op (eqL dx dy) := by
  simp only [eqAgg0, of_eq_true h1, of_eq_true h2, and_self, if_true]
theorem fits_nil : fitsL [] [] = true := rfl
theorem fits_b {l : List Lf} {x : Bool} {xs : List D} : fitsL (.b :: l) (.bool x :: xs) = fitsL l xs := rfl
theorem fits_i {l : List Lf} {k : IntKind} {x : Int} {xs : List D} : fitsL (.i k :: l) (.int k x :: xs) = fitsL l xs := by simp [fitsL]
theorem fits_s {l : List Lf} {x : List UInt8} {xs : List D} : fitsL (.s :: l) (.str x :: xs) = fitsL l xs := rfl
theorem eqL_nil : eqL [] [] = true := rfl
theorem eqL_b {x y : Bool} {xs ys : List D} : eqL (.bool x :: xs) (.bool y :: ys) = ((x == y) && eqL xs ys) := rfl
theorem eqL_i {k k' : IntKind} {x y : Int} {xs ys : List D} : eqL (.int k x :: xs) (.int k' y :: ys) = ((x == y) && eqL xs ys) := rfl
theorem eqL_s {x y : List UInt8} {xs ys : List D} : eqL (.str x :: xs) (.str y :: ys) = ((x == y) && eqL xs ys) := rfl
theorem eqOp_eql {b : Bool} : eqOp .eql b = some (.bool b) := rfl
theorem eqOp_neq {b : Bool} : eqOp .neq b = some (.bool (!b)) := rfl
theorem bin_ifn {op : BinOp} {e t : TypeId} {xs : List D} {ag : Bool} : X.binA op e (.v (.c (.ifc t xs ag))) (.v (.c .nili)) = ifcNil op false (X.ifT e) := rfl
theorem bin_nn {op : BinOp} {e : TypeId} : X.binA op e (.v (.c .nili)) (.v (.c .nili)) = ifcNil op true (X.ifT e) := rfl
theorem bin_pn {op : BinOp} {e : TypeId} {id off : Nat} : X.binA op e (.v (.c (.ptr id off))) (.v (.c .nilp)) = ptrNil op false (X.ptT e) := rfl
theorem bin_dpn {op : BinOp} {e : TypeId} {xs : List D} : X.binA op e (.v (.c (.dptr xs))) (.v (.c .nilp)) = ptrNil op false (X.ptT e) := rfl
theorem bin_npn {op : BinOp} {e : TypeId} : X.binA op e (.v (.c .nilp)) (.v (.c .nilp)) = ptrNil op true (X.ptT e) := rfl
theorem ifcNil_f {op : BinOp} {e : Bool} : ifcNil op false (some e) = eqOp op false := rfl
theorem ifcNil_t {op : BinOp} : ifcNil op true (some true) = eqOp op true := rfl
theorem ptrNil_s {op : BinOp} {b e : Bool} : ptrNil op b (some e) = eqOp op b := rfl
def zvB : Option AV → Option V
  | some (.v z) => some z
  | _ => none
theorem zvB_eq {t : TypeId} : X.zeroV t = zvB (X.zero t) := by
  unfold Ctx.zeroV zvB
  cases X.zero t with
  | none => rfl
  | some x => cases x <;> rfl
theorem zvB_v {z : V} : zvB (some (.v z)) = some z := rfl

theorem NW : type_of% @op_assert ∧ type_of% @op_func ∧ type_of% @as_hit ∧ type_of% @as_miss ∧ type_of% @as_nil ∧ type_of% @ptrs_nil ∧ type_of% @ptrs_cons ∧ type_of% @bin_agg ∧ type_of% @eqAgg_ok ∧ type_of% @fits_nil ∧ type_of% @fits_b ∧ type_of% @fits_i ∧ type_of% @fits_s ∧
    type_of% @eqL_nil ∧ type_of% @eqL_b ∧ type_of% @eqL_i ∧ type_of% @eqL_s ∧ type_of% @eqOp_eql ∧ type_of% @eqOp_neq ∧ type_of% @bin_ifn ∧ type_of% @bin_nn ∧ type_of% @bin_pn ∧ type_of% @bin_dpn ∧ type_of% @bin_npn ∧ type_of% @ifcNil_f ∧ type_of% @ifcNil_t ∧ type_of% @ptrNil_s ∧ type_of% @zvB_eq ∧ type_of% @zvB_v :=
  ⟨@op_assert, @op_func, @as_hit, @as_miss, @as_nil, @ptrs_nil, @ptrs_cons, @bin_agg, @eqAgg_ok, @fits_nil, @fits_b, @fits_i, @fits_s, @eqL_nil, @eqL_b, @eqL_i, @eqL_s, @eqOp_eql, @eqOp_neq, @bin_ifn, @bin_nn, @bin_pn, @bin_dpn, @bin_npn, @ifcNil_f, @ifcNil_t, @ptrNil_s, @zvB_eq, @zvB_v⟩

variable {P : Program} {G : Gl} {tab : Tab} {kt : KTab}
theorem kx_flat {t : TypeId} : (ctxK P G tab kt).flat t = (ctx P G tab).flat t := rfl
theorem kx_ifT {t : TypeId} : (ctxK P G tab kt).ifT t = (ctx P G tab).ifT t := rfl
theorem kx_ptT {t : TypeId} : (ctxK P G tab kt).ptT t = (ctx P G tab).ptT t := rfl
theorem kx_isIf {t : TypeId} : (ctxK P G tab kt).isIf t = (ctx P G tab).isIf t := rfl
theorem kx_zeroV {t : TypeId} : (ctxK P G tab kt).zeroV t = (ctx P G tab).zeroV t := rfl
theorem NWK : type_of% @kx_flat ∧ type_of% @kx_ifT ∧ type_of% @kx_ptT ∧ type_of% @kx_isIf ∧ type_of% @kx_zeroV := ⟨@kx_flat, @kx_ifT, @kx_ptT, @kx_isIf, @kx_zeroV⟩
end

end Go.Ab
