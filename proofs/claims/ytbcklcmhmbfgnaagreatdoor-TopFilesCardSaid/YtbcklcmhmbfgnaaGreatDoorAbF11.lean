/-
  Texts of the layer and of the laws, put together: AbH4, Ab19, AbH5, AbH6, AbH7.
-/
import Derived.Test.YtbcklcmhmbfgnaaGreatDoorAbF10
import Derived.Recover
set_option linter.unusedSimpArgs false
set_option linter.unusedVariables false
set_option maxRecDepth 100000
set_option linter.defProp false
namespace Go.Ab
open Go.RowKit
def RetsP (X : Ctx) (rs : List ResultVar) (out : COut) : Ex → S → Prop
  | .ret, s => ∃ vs, resAllV X s rs = some vs ∧ out = .ret (resVV vs) s.h
  | .normal, s => ∃ vs, resAllV X s rs = some vs ∧ out = .ret (resVV vs) s.h
  | .pan x, s => out = .pan x s.h
  | _, _ => False
def EndOk (A : Actn) (E : Env) (h : Hp) (out : COut) (e : Ending) (w' : World) : Prop :=
  ∃ E' h', w' = E'.w ∧ Evo h.length E h E' h' ∧ EnvOk A E' h' ∧
    ((∃ v r, e = .returned v ∧ out = .ret r h' ∧ r.rel E' h' v) ∨ (∃ u x, e = .panicked [{ v := u, recovered := false }] ∧ out = .pan x h' ∧ x.rel E' h' u))
theorem fok_of_end {X : Ctx} {f : FuncId} {fn : Func} {c : Code} {args : List AV} {h : Hp} {out : COut} (hf : X.P.funcs[f]? = some fn) (hb : fn.body = some c) (hname : (fn.name == "runtime.NumGoroutine") = false)
    (H : ∀ (A : Actn) (E : Env) (vs : Array Value), A.G = X.G → EnvOk A E h → vs.size = args.length → (∀ (j : Nat) (x : AV), args[j]? = some x → x.rel E h (vs.getD j undef)) → Calls X.P f vs E.w (EndOk A E h out)) : FOk X.P X.G f args h out := by
  have hne : ¬ fn.name = "runtime.NumGoroutine" := by simpa using hname
  intro A E vs hG hE hs hrel o a K Q hd
  have henter : (callFunc f vs).run X.P E.w = .ok (.enter f vs) E.w := by simp [callFunc, hf, hne, hb]
  rw [henter, Oper.upon_enter]
  refine (H A E vs hG hE hs hrel).mono ?_
  rintro e w' ⟨E', h', rfl, ev, hok', hx⟩
  rcases hx with ⟨v, r, rfl, rfl, hrv⟩ | ⟨u, x, rfl, rfl, hx⟩
  · exact hd v E' ev hok' hrv
  exact hd u E' ev hok' hx
theorem enter_rel {A : Actn} {E : Env} {h : Hp} {args : List AV} {vs : Array Value} {n : Nat} (d : List Deferred) (hE : EnvOk A E h) (hal : args.length ≤ n) (hs : vs.size = args.length)
    (hrel : ∀ (j : Nat) (x : AV), args[j]? = some x → x.rel E h (vs.getD j undef)) :
    Rel { A with ds := d } E ⟨argV 0 args, h⟩ { tmps := vs ++ Array.replicate (n - vs.size) undef, defers := d } E.w := by
  refine ⟨hE.ds d, rfl, rfl, fun t => ?_⟩
  show (look (argV 0 args) t).rel E h _
  rw [look_argV, if_pos (Nat.zero_le _), Nat.sub_zero]
  cases hx : args[t]? with
  | none => trivial
  | some x =>
    have htl := lt_of_get hx
    have hv := hrel t x hx
    have : (vs ++ Array.replicate (n - vs.size) undef).getD t undef = vs.getD t undef := by
      simp only [Array.getD_eq_getD_getElem?]
      rw [Array.getElem?_append_left (by omega)]
    show x.rel E h ((vs ++ Array.replicate (n - vs.size) undef).getD t undef)
    rw [this]
    exact hv
theorem results_rel {X : Ctx} {A : Actn} {E : Env} {s : S} {a : Act} {fn : Func} (hrel : Rel A E s a E.w) {r : List V} (hres : resAllV X s fn.results.toList = some r) :
    ∃ v, (results fn a.tmps).run X.P E.w = .ok v E.w ∧ (resVV r).rel E s.h v := by
  obtain ⟨vs', hv, hl, hx⟩ := resultsV_run hrel _ _ hres
  have hrun : (results fn a.tmps).run X.P E.w = .ok (match vs' with | [v] => v | l => .tuple l.toArray) E.w := by
    have hm' : (fn.results.mapM (resSem a.tmps)).run X.P E.w = .ok vs'.toArray E.w := by
      rw [Array.mapM_eq_mapM_toList]
      simp only [Sem.run_map, hv, Result.andThen_ok]
    rw [results_eq]
    simp only [Sem.run_bind, hm', Result.andThen_ok]
    cases vs' with
    | nil => simp
    | cons v l =>
      cases l with
      | nil => simp
      | cons v2 l => simp
  refine ⟨_, hrun, ?_⟩
  match r, vs', hl, hx with
  | [x], [v], _, hx =>
    obtain ⟨u, hu, hru⟩ := hx 0 x rfl
    cases hu
    exact hru
  | [], [], _, hx => exact ⟨[], rfl, rfl, fun j x hj => by simp at hj⟩
  | x :: y :: r, v :: v2 :: l, hl, hx => exact ⟨v :: v2 :: l, rfl, hl, hx⟩
theorem fok_of_awpP {X : Ctx} {f : FuncId} {fn : Func} {c : Code} {args : List AV} {h : Hp} {out : COut} (hf : X.P.funcs[f]? = some fn) (hb : fn.body = some c) (hname : (fn.name == "runtime.NumGoroutine") = false)
    (hok : okCode X fn.ntmps c = true) (hmix : X.P.follows .mixedOrders = true) (hK : KOk X) (hal : args.length ≤ fn.ntmps)
    (hbody : awpS X c ⟨argV 0 args, h⟩ (RetsP X fn.results.toList out)) : FOk X.P X.G f args h out := by
  refine fok_of_end hf hb hname fun A E vs hG hE hs hrel => ?_
  have hr := enter_rel (n := fn.ntmps) [] hE hal hs hrel
  have hsz : (vs ++ Array.replicate (fn.ntmps - vs.size) undef).size = fn.ntmps := by simp; omega
  refine calls_of_wp hf hb (wp_mono (awpS_sim (A := { A with ds := [] }) hK hmix c ⟨argV 0 args, h⟩ _ _ E hok hbody ⟨hG, hr⟩ hsz) fun e a' w' ⟨ex, s', E', ev, hrel', _, he, hq⟩ => ?_)
  have hw := hrel'.world
  subst hw
  have fin : (∃ vs, resAllV X s' fn.results.toList = some vs ∧ out = .ret (resVV vs) s'.h) → a'.defers = [] ∧ ∃ v, (results fn a'.tmps).run X.P E'.w = .ok v E'.w ∧ EndOk A E h out (.returned v) E'.w := by
    rintro ⟨r, hres, rfl⟩
    obtain ⟨v, hv, hrv⟩ := results_rel hrel' hres
    exact ⟨hrel'.defers, v, hv, E', s'.h, rfl, ev, hrel'.env.nods, .inl ⟨v, _, rfl, rfl, hrv⟩⟩
  cases ex <;> simp only [RetsP] at hq
  · have := exrel_normal he
    subst this
    exact fin hq
  · cases e <;> first | exact he.elim | exact fin hq
  cases e <;> first | exact he.elim | skip
  obtain ⟨u, rfl, hx⟩ := he
  exact ⟨hrel'.defers, E', s'.h, rfl, ev, hrel'.env.nods, .inr ⟨u, _, rfl, hq, hx⟩⟩
def Mode (E : Env) (h : Hp) : Option C1 → FrameMode → FrameMode → Prop
  | none, u, u' => u = .returning ∧ u' = .returning
  | some x, u, u' => ∃ v, x.rel E h v ∧ u = .panicking [{ v := v, recovered := false }] ∧ u' = .panicking [{ v := v, recovered := true }]
def DOk (P : Program) (G : Gl) (g : FuncId) (args : List AV) (h : Hp) (x : Option C1) (h' : Hp) : Prop :=
  ∀ (A : Actn) (E : Env) (vs : Array Value) (u u' : FrameMode), A.G = G → EnvOk A E h → vs.size = args.length → (∀ (j : Nat) (x : AV), args[j]? = some x → x.rel E h (vs.getD j undef)) → Mode E h x u u' →
    CallsD P g vs u E.w fun e u1 w' => u1 = u' ∧ ∃ v E', e = .returned v ∧ w' = E'.w ∧ Evo h.length E h E' h' ∧ EnvOk A E' h'
def capsA (caps : List (Nat × Nat)) : List AV := caps.map fun p => .v (.c (.ptr p.1 p.2))
def RetsD (X : Ctx) (n : Nat) (rs : List ResultVar) (g : FuncId) (caps : List (Nat × Nat)) (out : COut) : Ex → S → Prop
  | .ret, s => ∃ h', DOk X.P X.G g (capsA caps) s.h none h' ∧ ∃ s', Wk n ⟨s.t, h'⟩ s' ∧ ∃ vs, resAllV X s' rs = some vs ∧ out = .ret (resVV vs) s'.h
  | .normal, s => ∃ h', DOk X.P X.G g (capsA caps) s.h none h' ∧ ∃ s', Wk n ⟨s.t, h'⟩ s' ∧ ∃ vs, resAllV X s' rs = some vs ∧ out = .ret (resVV vs) s'.h
  | .pan x, s => ∃ h', DOk X.P X.G g (capsA caps) s.h (some x) h' ∧ ∃ s', Wk n ⟨s.t, h'⟩ s' ∧ ∃ vs, resAllV X s' rs = some vs ∧ out = .ret (resVV vs) s'.h
  | _, _ => False
theorem ops_simD {X : Ctx} {A : Actn} (hK : KOk X) {ops : Array Oper} {Q : Exit → Act → World → Prop} {tail : List Oper} : ∀ (l : List Oper) (E : Env) (s : S) (a : Act) (n : Nat) (s' : S), Now X A E s a → n ≤ s.h.length →
    runOps X ops l s = some (.normal, s') → (∀ o ∈ l, ∀ t, o.dst = some t → t < a.tmps.size) →
    (∀ (a' : Act) (E' : Env), Evo n E s.h E' s'.h → Rel A E' s' a' E'.w → a'.tmps.size = a.tmps.size → wpList X.P ops Q tail a' E'.w) → wpList X.P ops Q (l ++ tail) a E.w
  | [], E, s, a, n, s', hn, hn0, hr, _, hQ => by
    simp only [runOps, Option.some.injEq, Prod.mk.injEq] at hr
    obtain ⟨_, rfl⟩ := hr
    exact hQ a E (Evo.refl hn0) hn.rel rfl
  | o :: l, E, s, a, n, s', hn, hn0, hr, hfit, hQ => by
    simp only [runOps] at hr
    cases hw : wantA ops o s with
    | none => simp [hw] at hr
    | some w =>
      simp only [hw, Option.bind_some] at hr
      have hwant := want_sim hn hw
      rw [List.cons_append]
      unfold wpList
      cases w with
      | false =>
        simp only [Bool.false_eq_true, if_false] at hr
        rw [if_neg (by rw [hwant]; simp)]
        have hrel := hn.rel.put (Evo.refl (Nat.le_refl _)) hn.rel.env (d := o.dst) (v := .tup []) (u := undef) (hfit o List.mem_cons_self) skp_rel
        have hh : (s.putO o.dst (.tup [])).h = s.h := by cases o.dst <;> rfl
        refine ops_simD hK l E (s.putO o.dst (.tup [])) (a.put o.dst undef) n s' ⟨hn.G, hrel⟩ (by rw [hh]; exact hn0) hr (fun o' ho' t ht => by rw [put_size]; exact hfit o' (List.mem_cons_of_mem _ ho') t ht)
          (fun a' E' ev hr' hs => hQ a' E' (by rw [hh] at ev; exact ev) hr' (by rw [hs, put_size]))
      | true =>
        simp only [if_true] at hr
        rw [if_pos hwant]
        left
        cases hst : stepA X o s with
        | none => simp [hst] at hr
        | some p =>
          obtain ⟨ex1, s1⟩ := p
          simp only [hst, Option.bind_some] at hr
          refine oper_sim hK hn hn0 hst (hfit o List.mem_cons_self) (fun he a' E' ev hrel hsz => ?_) (fun x he u E' ev hrel hx => ?_)
          · subst he
            refine ops_simD hK l E' s1 a' n s' ⟨hn.G, hrel⟩ ev.len hr (fun o' ho' t ht => by rw [hsz]; exact hfit o' (List.mem_cons_of_mem _ ho') t ht)
              (fun a2 E2 ev2 hr2 hs2 => hQ a2 E2 (ev.trans ev2 (Nat.le_refl _)) hr2 (hs2.trans hsz))
          subst he
          simp at hr
theorem calls_of_defer {X : Ctx} {f : FuncId} {fn : Func} {c0 rest : Code} {i : Nat} {ops : Array Oper} {l : List Oper} {df : Oper} {cl : Call} {k : Operand} {g : FuncId} {caps : List (Nat × Nat)} {args : List AV} {h : Hp} {out : COut}
    (hf : X.P.funcs[f]? = some fn) (hb : fn.body = some (.seq c0 (.seq (.region i ops false) rest)))
    (hok0 : okCode X fn.ntmps c0 = true) (hokr : okCode X fn.ntmps rest = true) (hops : ops.toList = l ++ [df]) (hop : df.op = .defer cl) (hcl : cl.callee = .value k) (hca : cl.args = #[]) (hgu : df.guard = none) (hdst : df.dst = none)
    (hfit : ∀ o ∈ l, ∀ t, o.dst = some t → t < fn.ntmps) (hgc : ∀ (vs : Array Value) (w : World), (callFunc g vs).run X.P w = .ok (.enter g vs) w)
    (hmix : X.P.follows .mixedOrders = true) (hK : KOk X) (hal : args.length ≤ fn.ntmps)
    (hbody : awpS X c0 ⟨argV 0 args, h⟩ fun ex s => ex = .normal ∧ ∃ s1, runOps X ops l s = some (.normal, s1) ∧ X.ev s1 k = .v (.c (.fn g caps)) ∧ awpS X rest s1 (RetsD X h.length fn.results.toList g caps out)) : ∀ (A : Actn) (E : Env) (vs : Array Value), A.G = X.G → EnvOk A E h → vs.size = args.length → (∀ (j : Nat) (x : AV), args[j]? = some x → x.rel E h (vs.getD j undef)) → Calls X.P f vs E.w (EndOk A E h out) := by
  intro A E vs hG hE hs hrel
  have hr := enter_rel (n := fn.ntmps) [] hE hal hs hrel
  have hsz : (vs ++ Array.replicate (fn.ntmps - vs.size) undef).size = fn.ntmps := by simp; omega
  refine calls_of_wp_defers hf hb (wp_seq (wp_mono (awpS_sim (A := { A with ds := [] }) hK hmix c0 _ _ _ E hok0 hbody ⟨hG, hr⟩ hsz) fun e a1 w1 ⟨ex, s1, E1, ev1, hrel1, hsz1, he1, hq1⟩ => ?_))
  obtain ⟨rfl, s2, hrun, hcall, hrest⟩ := hq1
  have := exrel_normal he1
  subst this
  have hw := hrel1.world
  subst hw
  refine wp_seq (wp_region_list ?_)
  rw [hops]
  refine ops_simD (A := { A with ds := [] }) hK l E1 s1 a1 s1.h.length s2 ⟨hG, hrel1⟩ (Nat.le_refl _) hrun (fun o ho t ht => by rw [hsz1]; exact hfit o ho t ht) fun a2 E2 ev2 hrel2 hsz2 => ?_
  have hfr := ev_rel (X := X) (A := { A with ds := [] }) ⟨hG, hrel2⟩ k
  rw [hcall] at hfr
  have hfr0 := hfr
  obtain ⟨vs2, hv, hvl, hvc⟩ := hfr
  have hexec : (execOp a2.eval df).run X.P E2.w = .ok (.defer { target := .fn (.func g) vs2.toArray, args := #[] }) E2.w := by simp [execOp, hop, resolve, hcl, hca, hv, Deferred.ofValue]
  unfold wpList
  rw [if_pos (by simp [Region.wanted, hgu])]
  left
  unfold Oper.wp
  rw [hexec, Oper.upon_defer, hdst]
  unfold wpList
  have hd0 : a2.defers = [] := hrel2.defers
  have hrel3 : Rel { A with ds := [{ target := .fn (.func g) vs2.toArray, args := #[] }] } E2 s2 { a2 with defers := { target := .fn (.func g) vs2.toArray, args := #[] } :: a2.defers } E2.w :=
    ⟨hrel2.env.nods.ds _, rfl, by rw [hd0], hrel2.tmps⟩
  refine wp_mono (awpS_sim (A := { A with ds := [{ target := .fn (.func g) vs2.toArray, args := #[] }] }) hK hmix rest s2 _ _ E2 hokr hrest ⟨hG, hrel3⟩ (hsz2.trans hsz1)) fun e a' w' ⟨ex, s', E', ev', hrel', _, he, hq⟩ => ?_
  have hw := hrel'.world
  subst hw
  have evA : Evo h.length E h E' s'.h := (ev1.trans ev2 ev1.len).trans ev' (ev1.trans ev2 ev1.len).len
  have hfr1 := hfr0.evo ev' (Nat.le_refl _)
  obtain ⟨vs3, hv3, hvl3, hvc3⟩ := hfr1
  have e3 : vs3 = vs2 := by
    rw [hv] at hv3
    simpa using hv3.symm
  subst e3
  have hdf : a'.defers = [{ target := .fn (.func g) vs3.toArray, args := #[] }] := hrel'.defers
  have fin : ∀ (x : Option C1) (u u' : FrameMode) (h' : Hp), u ≠ .run → settle u' = .returning → Mode E' s'.h x u u' → DOk X.P X.G g (capsA caps) s'.h x h' → (∃ s2, Wk h.length ⟨s'.t, h'⟩ s2 ∧ ∃ vs, resAllV X s2 fn.results.toList = some vs ∧ out = .ret (resVV vs) s2.h) →
      Leaves X.P fn a'.tmps (EndOk A E h out) a'.defers u E'.w := by
    intro x u u' h' hur hset hm hD ⟨s2, hwk, r, hres, hout⟩
    rw [hdf]
    refine leaves_cons (f := g) (args := vs3.toArray) hur (by simp [invoke, hgc]) ?_
    refine (hD A E' vs3.toArray u u' hG hrel'.env.nods (by simp [capsA, hvl3]) (fun j y hj => ?_) hm).mono ?_
    · simp only [capsA, List.getElem?_map] at hj
      cases hp : caps[j]? with
      | none => simp [hp] at hj
      | some p =>
        simp [hp] at hj
        subst hj
        obtain ⟨b, hbb, hvj⟩ := hvc3 j p hp
        refine ⟨b, hbb, ?_⟩
        simp [Array.getD_eq_getD_getElem?, hvj]
    rintro e u1 w' ⟨rfl, v, E2', rfl, rfl, ev2', hok2⟩
    have hrel4 : Rel { A with ds := [{ target := .fn (.func g) vs3.toArray, args := #[] }] } E2' ⟨s'.t, h'⟩ a' E2'.w := ⟨hok2.ds _, rfl, hrel'.defers, fun t => (hrel'.tmps t).evo ev2' (Nat.le_refl _)⟩
    have evB := evA.trans ev2' evA.len
    obtain ⟨E3, ev3, hrel5⟩ := hwk _ E2' a' E2'.w evB.len hrel4
    have hw5 := hrel5.world
    obtain ⟨v2, hv2, hrv⟩ := results_rel (by rw [hw5]; exact hrel5) hres
    show Leaves X.P fn a'.tmps (EndOk A E h out) [] (settle u1) E2'.w
    rw [hset]
    rw [hw5] at hv2
    exact ⟨v2, hv2, E3, s2.h, hw5.symm, evB.trans ev3 (Nat.le_refl _), hrel5.env.nods, .inl ⟨v2, _, rfl, hout, hrv⟩⟩
  cases ex <;> simp only [RetsD] at hq
  · have := exrel_normal he
    subst this
    obtain ⟨h', hD, hres⟩ := hq
    exact fin none .returning .returning h' (by simp) rfl ⟨rfl, rfl⟩ hD hres
  · cases e <;> first | exact he.elim | skip
    obtain ⟨h', hD, hres⟩ := hq
    exact fin none .returning .returning h' (by simp) rfl ⟨rfl, rfl⟩ hD hres
  cases e <;> first | exact he.elim | skip
  obtain ⟨u, rfl, hx⟩ := he
  obtain ⟨h', hD, hres⟩ := hq
  exact fin (some _) _ (.panicking [{ v := u, recovered := true }]) h' (by simp) rfl ⟨u, hx, rfl, rfl⟩ hD hres
theorem fok_of_defer {X : Ctx} {f : FuncId} {fn : Func} {c0 rest : Code} {i : Nat} {ops : Array Oper} {l : List Oper} {df : Oper} {cl : Call} {k : Operand} {g : FuncId} {caps : List (Nat × Nat)} {args : List AV} {h : Hp} {out : COut}
    (hf : X.P.funcs[f]? = some fn) (hb : fn.body = some (.seq c0 (.seq (.region i ops false) rest))) (hname : (fn.name == "runtime.NumGoroutine") = false)
    (hok0 : okCode X fn.ntmps c0 = true) (hokr : okCode X fn.ntmps rest = true) (hops : ops.toList = l ++ [df]) (hop : df.op = .defer cl) (hcl : cl.callee = .value k) (hca : cl.args = #[]) (hgu : df.guard = none) (hdst : df.dst = none)
    (hfit : ∀ o ∈ l, ∀ t, o.dst = some t → t < fn.ntmps) (hgc : ∀ (vs : Array Value) (w : World), (callFunc g vs).run X.P w = .ok (.enter g vs) w)
    (hmix : X.P.follows .mixedOrders = true) (hK : KOk X) (hal : args.length ≤ fn.ntmps)
    (hbody : awpS X c0 ⟨argV 0 args, h⟩ fun ex s => ex = .normal ∧ ∃ s1, runOps X ops l s = some (.normal, s1) ∧ X.ev s1 k = .v (.c (.fn g caps)) ∧ awpS X rest s1 (RetsD X h.length fn.results.toList g caps out)) : FOk X.P X.G f args h out :=
  fok_of_end hf hb hname (calls_of_defer hf hb hok0 hokr hops hop hcl hca hgu hdst hfit hgc hmix hK hal hbody)
def recV : Option C1 → AV
  | none => .v (.c .nili)
  | some x => .v (.c x)
theorem dok_of_awp {X : Ctx} {g : FuncId} {fn : Func} {i : Nat} {rc as : Oper} {rest : Code} {cl : Call} {p q : Nat} {args : List AV} {h h' : Hp} {x : Option C1}
    (hf : X.P.funcs[g]? = some fn) (hb : fn.body = some (.seq (.region i #[rc, as] false) rest)) (hrs : fn.results = #[])
    (hrc : rc.op = .call cl) (hcl : cl.callee = .builtin .recover) (hca : cl.args = #[]) (hrg : rc.guard = none) (hrd : rc.dst = some p)
    (has : as.op = .assign (.tmp p)) (hag : as.guard = none) (had : as.dst = some q) (hp : p < fn.ntmps) (hq : q < fn.ntmps)
    (hokr : okCode X fn.ntmps rest = true) (hmix : X.P.follows .mixedOrders = true) (hK : KOk X) (hal : args.length ≤ fn.ntmps)
    (hbody : awpS X rest ⟨(q, recV x) :: (p, recV x) :: argV 0 args, h⟩ fun ex s => (ex = .normal ∨ ex = .ret) ∧ s.h = h') : DOk X.P X.G g args h x h' := by
  intro A E vs u u' hG hE hs hrel hm
  have hr := enter_rel (n := fn.ntmps) [] hE hal hs hrel
  have hsz : (vs ++ Array.replicate (fn.ntmps - vs.size) undef).size = fn.ntmps := by simp; omega
  refine callsD_of_wpS hf hb fun c₀ cs hu => ?_
  have hexec : ∀ (a : Act) (w : World), (execOp a.eval rc).run X.P w = .ok .recover w := fun a w => by
    simp [execOp, hrc, resolve, hcl, hca, invoke, builtin]
  have hexec2 : ∀ (a : Act) (w : World), (execOp a.eval as).run X.P w = .ok (.value (a.eval (.tmp p))) w := fun a w => by
    simp [execOp, has]
  -- what recover answers
  obtain ⟨rv, hrv, hrec⟩ : ∃ rv, (recV x).rel E h rv ∧ ((x = none ∧ recoverD (c₀ :: cs) = none ∧ rv = .nilIface) ∨ (recoverD (c₀ :: cs) = some (rv, { c₀ with mode := u' } :: cs))) := by
    cases x with
    | none => exact ⟨.nilIface, rfl, .inl ⟨rfl, by obtain ⟨rfl, _⟩ := hm; simp [recoverD, hu], rfl⟩⟩
    | some x =>
      obtain ⟨v, hx, rfl, rfl⟩ := hm
      exact ⟨v, hx, .inr (by simp [recoverD, hu])⟩
  have hcs : x = none → ({ c₀ with mode := u' } : Frame) = c₀ := fun hx => by
    subst hx
    obtain ⟨rfl, rfl⟩ := hm
    cases c₀
    simp at hu
    subst hu
    rfl
  refine wpS_seq (wpS_region ?_)
  have hrg2 : List.range (#[rc, as] : Array Oper).size = [0, 1] := rfl
  rw [hrg2]
  let a1 : Act := ({ tmps := vs ++ Array.replicate (fn.ntmps - vs.size) undef, defers := [] } : Act).put (some p) rv
  let a2 : Act := a1.put (some q) rv
  have hev : a1.eval (.tmp p) = rv := by
    simp only [a1, Act.put, Act.eval]
    rw [Array.getD_eq_getD_getElem?, Array.getElem?_setIfInBounds_self_of_lt (by rw [hsz]; exact hp)]
    rfl
  have hr1 : Rel { A with ds := [] } E ⟨(p, recV x) :: argV 0 args, h⟩ a1 E.w := hr.put (Evo.refl (Nat.le_refl _)) (hE.ds []) (d := some p) (fun t ht => by cases ht; rw [hsz]; exact hp) hrv
  have hs1 : a1.tmps.size = fn.ntmps := by simp only [a1, put_size]; exact hsz
  have hr2 : Rel { A with ds := [] } E ⟨(q, recV x) :: (p, recV x) :: argV 0 args, h⟩ a2 E.w := hr1.put (Evo.refl (Nat.le_refl _)) (hE.ds []) (d := some q) (fun t ht => by cases ht; rw [hs1]; exact hq) hrv
  have hs2 : a2.tmps.size = fn.ntmps := by simp only [a2, put_size]; exact hs1
  have hend : Exit.thenS (rest.wpS X.P (bodyPostS X.P fn c₀ cs fun e u1 w' => u1 = u' ∧ ∃ v E', e = .returned v ∧ w' = E'.w ∧ Evo h.length E h E' h' ∧ EnvOk A E' h')) (bodyPostS X.P fn c₀ cs fun e u1 w' => u1 = u' ∧ ∃ v E', e = .returned v ∧ w' = E'.w ∧ Evo h.length E h E' h' ∧ EnvOk A E' h') .normal a2 ({ c₀ with mode := u' } :: cs) E.w := by
    refine wpS_of_wp (wp_mono (awpS_sim (A := { A with ds := [] }) hK hmix rest _ _ a2 E hokr hbody ⟨hG, hr2⟩ hs2) fun e a' w' ⟨ex, s', E', ev, hrel', _, he, hq⟩ => ?_)
    have hw := hrel'.world
    subst hw
    obtain ⟨hex, rfl⟩ := hq
    have hres : (results fn a'.tmps).run X.P E'.w = .ok (.tuple #[]) E'.w := by
      obtain ⟨v, hv, hrv2⟩ := results_rel (fn := fn) hrel' (r := []) (by rw [hrs]; rfl)
      obtain ⟨l, rfl, hl, _⟩ := hrv2
      have : l = [] := List.eq_nil_of_length_eq_zero (by simpa using hl)
      subst this
      exact hv
    rcases hex with rfl | rfl
    · have := exrel_normal he
      subst this
      exact ⟨hrel'.defers, u', rfl, _, hres, rfl, _, E', rfl, rfl, ev, hrel'.env.nods⟩
    cases e <;> first | exact he.elim | exact ⟨hrel'.defers, u', rfl, _, hres, rfl, _, E', rfl, rfl, ev, hrel'.env.nods⟩
  have ops0 : (#[rc, as] : Array Oper)[0]? = some rc := rfl
  have ops1 : (#[rc, as] : Array Oper)[1]? = some as := rfl
  have w0 : ∀ y, Region.wanted rc y = true := fun y => by simp [Region.wanted, hrg]
  have w1 : ∀ y, Region.wanted as y = true := fun y => by simp [Region.wanted, hag]
  simp only [wpOpsS, ops0, ops1, w0, w1, if_true, hexec, hexec2, hrd, had]
  rcases hrec with ⟨hx, hn, rfl⟩ | hsome
  · rw [hn]
    simp only [Oper.upon_value, had]
    rw [hcs hx] at hend
    have : a1.eval (.tmp p) = _ := hev
    rw [this]
    exact hend
  rw [hsome]
  simp only [Oper.upon_value, had]
  have : a1.eval (.tmp p) = _ := hev
  rw [this]
  exact hend
end Go.Ab
namespace Go.Ab
open Go.RowKit
section
variable {X : Ctx} {h : Hp} {ρ : Operand → AV} {dst : Option Nat} {ty : TypeId} {pos : String} {after : Array Edge} {guard : Option (Nat × Bool)}
theorem op_assert {x : Operand} {xt e : TypeId} : opR X ρ h ⟨dst, .typeAssert x xt e true, ty, pos, after, guard⟩ = (assertA e (X.isIf e) (X.zeroV e) (ρ x)).map fun v => .val v h := rfl
theorem op_func {f : FuncId} {l : List Operand} : opR X ρ h ⟨dst, .makeFunc (.func f) #[] l.toArray, ty, pos, after, guard⟩ = (ptrsA (l.map ρ)).map fun l => .val (.v (.c (.fn f l))) h := rfl
theorem as_hit {e : TypeId} {z : Option V} {xs : List D} {ag : Bool} : assertA e (some false) z (.v (.c (.ifc e xs ag))) = some (.tup [if ag then .agg (xs.map .d) else .c (.d (xs.headD .any)), .c (.d (.bool true))]) := by
  simp only [assertA, if_true]
theorem as_miss {e t : TypeId} {z : V} {xs : List D} {ag : Bool} (hn : (t = e) = False) : assertA e (some false) (some z) (.v (.c (.ifc t xs ag))) = some (.tup [z, .c (.d (.bool false))]) := by
  simp only [assertA, hn, if_false, Option.map_some]
theorem as_nil {e : TypeId} {z : V} : assertA e (some false) (some z) (.v (.c .nili)) = some (.tup [z, .c (.d (.bool false))]) := rfl
theorem ptrs_nil : ptrsA [] = some [] := rfl
theorem ptrs_cons {id off : Nat} {r : List AV} : ptrsA (.v (.c (.ptr id off)) :: r) = (ptrsA r).map fun l => (id, off) :: l := rfl
theorem bin_agg {op : BinOp} {e : TypeId} {xs ys : List C1} : X.binA op e (.v (.agg xs)) (.v (.agg ys)) = eqAgg0 op (X.isAgg e) (X.flat e) (allD xs) (allD ys) := rfl
theorem eqAgg_ok {op : BinOp} {l : List Lf} {dx dy : List D} (h1 : (fitsL l dx = true) = True) (h2 : (fitsL l dy = true) = True) : eqAgg0 op (some true) (some l) (some dx) (some dy) = eqOp op (eqL dx dy) := by
  simp only [eqAgg0, of_eq_true h1, of_eq_true h2, and_self, if_true]
theorem fits_nil : fitsL [] [] = true := rfl
theorem fits_b {l : List Lf} {x : Bool} {xs : List D} : fitsL (.b :: l) (.bool x :: xs) = fitsL l xs := rfl
theorem fits_i {l : List Lf} {k : IntKind} {x : Int} {xs : List D} : fitsL (.i k :: l) (.int k x :: xs) = fitsL l xs := by simp [fitsL]
theorem fits_s {l : List Lf} {x : List UInt8} {xs : List D} : fitsL (.s :: l) (.str x :: xs) = fitsL l xs := rfl
theorem eqL_nil : eqL [] [] = true := rfl
theorem eqL_b {x y : Bool} {xs ys : List D} : eqL (.bool x :: xs) (.bool y :: ys) = ((x == y) && eqL xs ys) := rfl
theorem eqL_i {k k' : IntKind} {x y : Int} {xs ys : List D} : eqL (.int k x :: xs) (.int k' y :: ys) = ((x == y) && eqL xs ys) := rfl
theorem eqL_s {x y : List UInt8} {xs ys : List D} : eqL (.str x :: xs) (.str y :: ys) = ((x == y) && eqL xs ys) := rfl
theorem eqOp_eql {b : Bool} : eqOp .eql b = some (.bool b) := rfl
theorem eqOp_neq {b : Bool} : eqOp .neq b = some (.bool (!b)) := rfl
theorem bin_ifn {op : BinOp} {e t : TypeId} {xs : List D} {ag : Bool} : X.binA op e (.v (.c (.ifc t xs ag))) (.v (.c .nili)) = ifcNil op false (X.ifT e) := rfl
theorem bin_nn {op : BinOp} {e : TypeId} : X.binA op e (.v (.c .nili)) (.v (.c .nili)) = ifcNil op true (X.ifT e) := rfl
theorem bin_pn {op : BinOp} {e : TypeId} {id off : Nat} : X.binA op e (.v (.c (.ptr id off))) (.v (.c .nilp)) = ptrNil op false (X.ptT e) := rfl
theorem bin_dpn {op : BinOp} {e : TypeId} {xs : List D} : X.binA op e (.v (.c (.dptr xs))) (.v (.c .nilp)) = ptrNil op false (X.ptT e) := rfl
theorem bin_npn {op : BinOp} {e : TypeId} : X.binA op e (.v (.c .nilp)) (.v (.c .nilp)) = ptrNil op true (X.ptT e) := rfl
theorem ifcNil_f {op : BinOp} {e : Bool} : ifcNil op false (some e) = eqOp op false := rfl
theorem ifcNil_t {op : BinOp} : ifcNil op true (some true) = eqOp op true := rfl
theorem ptrNil_s {op : BinOp} {b e : Bool} : ptrNil op b (some e) = eqOp op b := rfl
def zvB : Option AV → Option V
  | some (.v z) => some z
  | _ => none
theorem zvB_eq {t : TypeId} : X.zeroV t = zvB (X.zero t) := by
  unfold Ctx.zeroV zvB
  cases X.zero t with
  | none => rfl
  | some x => cases x <;> rfl
theorem zvB_v {z : V} : zvB (some (.v z)) = some z := rfl
def NW := Zk @op_assert <| Zk @op_func <| Zk @as_hit <| Zk @as_miss <| Zk @as_nil <| Zk @ptrs_nil <| Zk @ptrs_cons <| Zk @bin_agg <| Zk @eqAgg_ok <| Zk @fits_nil <| Zk @fits_b <| Zk @fits_i <| Zk @fits_s <| Zk @eqL_nil <| Zk @eqL_b <| Zk @eqL_i <| Zk @eqL_s <| Zk @eqOp_eql <| Zk @eqOp_neq <| Zk @bin_ifn <| Zk @bin_nn <| Zk @bin_pn <| Zk @bin_dpn <| Zk @bin_npn <| Zk @ifcNil_f <| Zk @ifcNil_t <| Zk @ptrNil_s <| Zk @zvB_eq @zvB_v
variable {P : Program} {G : Gl} {tab : Tab} {kt : KTab}
end
end Go.Ab
namespace Go.Ab
open Go.RowKit
inductive PO where
  | ret (l : List PA)
  | pan (t : TypeId) (xs : List D) (ag : Bool)
def PO.n : PO → NOut
  | .ret l => .ret (resV l)
  | .pan t xs ag => .pan (.ifc t xs ag)
def nM (m : List PA → Option PO) (args : List AV) : Option NOut := (allPA args).bind fun ps => (m ps).map PO.n
abbrev NTab := List (FuncId × (List PA → Option PO))
def tabN : NTab → FuncId → Option (List AV → Option NOut)
  | [], _ => none
  | (k, m) :: r, f => if k = f then some (nM m) else tabN r f
def ctxN (P : Program) (G : Gl) (tab : Tab) (kt : KTab) (nt : NTab) (B : Option (TypeId × TypeId)) (U : TypeId → Bool := fun _ => false) (Ex : Nat → Bool := fun _ => false) : Ctx := ⟨P, G, tabM tab, tabK kt, tabN nt, B, U, Ex⟩
def NPure (P : Program) (G : Gl) (f : FuncId) (m : List PA → Option PO) : Prop := ∀ (ps : List PA) (r : PO), m ps = some r → ∀ h, FOk P G f (ps.map DV.av) h (r.n.at h)
theorem fok_pa {P : Program} {G : Gl} {f : FuncId} {args : List AV} {ps : List PA} {h : Hp} {out : COut} (ha : allPA args = some ps) (hk : FOk P G f (ps.map DV.av) h out) : FOk P G f args h out := by
  intro A E vs hG hE hs hrel o a K Q hd
  obtain ⟨hl, hg⟩ := allPA_rel args ps ha
  refine hk A E vs hG hE (by simp; omega) (fun j x hj => ?_) o a K Q hd
  rw [List.getElem?_map] at hj
  cases hp : ps[j]? with
  | none => simp [hp] at hj
  | some p =>
    simp [hp] at hj
    subst hj
    obtain ⟨y, hy, hyp⟩ := hg j p hp
    exact DV.rel_av (E := E) (pa_rel (hrel j y hy) hyp)
inductive AllN (P : Program) (G : Gl) : NTab → Prop where
  | nil : AllN P G []
  | cons {f : FuncId} {m : List PA → Option PO} {r : NTab} (h : NPure P G f m) (hr : AllN P G r) : AllN P G ((f, m) :: r)
theorem AllN.get {P : Program} {G : Gl} {tab : NTab} (h : AllN P G tab) {f : FuncId} {g : List AV → Option NOut} (hg : tabN tab f = some g) : ∃ m, g = nM m ∧ NPure P G f m := by
  induction h with
  | nil => cases hg
  | cons h hr ih =>
    simp only [tabN] at hg
    split at hg
    · rename_i he
      subst he
      cases hg
      exact ⟨_, rfl, h⟩
    exact ih hg
theorem kok_n {P : Program} {G : Gl} {tab : Tab} {kt : KTab} {nt : NTab} {B : Option (TypeId × TypeId)} {U : TypeId → Bool} {Ex : Nat → Bool} (h : AllOk P G tab) (hk : AllK P G kt) (hn : AllN P G nt) : KOk (ctxN P G tab kt nt B U Ex) := by
  intro f args hp out ho
  simp only [hdl, ctxN] at ho
  cases hm : tabM tab f with
  | none =>
    simp only [hm] at ho
    cases hN : tabN nt f with
    | none =>
      simp only [hN] at ho
      exact hk.get ho
    | some g =>
      simp only [hN, Option.map_eq_some_iff] at ho
      obtain ⟨r, hr, rfl⟩ := ho
      obtain ⟨m, rfl, hp2⟩ := hn.get hN
      simp only [nM, Option.bind_eq_some_iff, Option.map_eq_some_iff] at hr
      obtain ⟨ps, hps, r', hr', rfl⟩ := hr
      exact fok_pa hps (hp2 ps r' hr' hp)
  | some g =>
    simp only [hm, Option.map_eq_some_iff] at ho
    obtain ⟨v, hv, rfl⟩ := ho
    obtain ⟨m, rfl, hp⟩ := h.get hm
    exact fok_of_pure hp hv
section
variable {P : Program} {G : Gl} {tab : Tab} {kt : KTab} {nt : NTab} {B : Option (TypeId × TypeId)} {U : TypeId → Bool} {Ex : Nat → Bool}
theorem nx_P : (ctxN P G tab kt nt B U Ex).P = P := rfl
theorem nx_G : (ctxN P G tab kt nt B U Ex).G = G := rfl
theorem nx_M {f : FuncId} : (ctxN P G tab kt nt B U Ex).M f = tabM tab f := rfl
theorem nx_E {i : Nat} : (ctxN P G tab kt nt B U Ex).E i = Ex i := rfl
theorem nx_U {e : TypeId} : (ctxN P G tab kt nt B U Ex).U e = U e := rfl
theorem nx_B : (ctxN P G tab kt nt B U Ex).B = B := rfl
theorem nx_size {t : TypeId} : (ctxN P G tab kt nt B U Ex).size t = (ctx P G tab).size t := rfl
theorem nx_isAgg {t : TypeId} : (ctxN P G tab kt nt B U Ex).isAgg t = (ctx P G tab).isAgg t := rfl
theorem nx_zero {t : TypeId} : (ctxN P G tab kt nt B U Ex).zero t = (ctx P G tab).zero t := rfl
theorem nx_apz {t : TypeId} : (ctxN P G tab kt nt B U Ex).apz t = (ctx P G tab).apz t := rfl
theorem nx_place {t : TypeId} : (ctxN P G tab kt nt B U Ex).place t = (ctx P G tab).place t := rfl
theorem nx_mapTy {t : TypeId} : (ctxN P G tab kt nt B U Ex).mapTy t = (ctx P G tab).mapTy t := rfl
theorem nx_isU8 {t : TypeId} : (ctxN P G tab kt nt B U Ex).isU8 t = (ctx P G tab).isU8 t := rfl
theorem nx_flat {t : TypeId} : (ctxN P G tab kt nt B U Ex).flat t = (ctx P G tab).flat t := rfl
theorem nx_ifT {t : TypeId} : (ctxN P G tab kt nt B U Ex).ifT t = (ctx P G tab).ifT t := rfl
theorem nx_ptT {t : TypeId} : (ctxN P G tab kt nt B U Ex).ptT t = (ctx P G tab).ptT t := rfl
theorem nx_isIf {t : TypeId} : (ctxN P G tab kt nt B U Ex).isIf t = (ctx P G tab).isIf t := rfl
theorem nx_fld {d : Option TypeDesc} {x : AV} {f : Nat} {h : Hp} : fld (ctxN P G tab kt nt B U Ex) d x f h = fld (ctx P G tab) d x f h := by
  cases d with
  | none => rfl
  | some d => cases d <;> first | rfl | (unfold fld; congr)
theorem nx_fldA {d : Option TypeDesc} {x : AV} {f : Nat} {h : Hp} : fldA (ctxN P G tab kt nt B U Ex) d x f h = fldA (ctx P G tab) d x f h := by
  cases d with
  | none => rfl
  | some d => cases d <;> rfl
def clN (kt : KTab) (h : Hp) (f : FuncId) (args : List AV) : Option (List AV → Option NOut) → Option OpR
  | some m => (m args).map fun r => (r.at h).op
  | none => (tabK kt f args h).map COut.op
theorem nx_call {h : Hp} {f : FuncId} {args : List AV} : clM (ctxN P G tab kt nt B U Ex) h f args none = clN kt h f args (tabN nt f) := by
  show (match tabN nt f with
    | some m => (m args).map fun r => (NOut.at h r).op
    | none => (tabK kt f args h).map COut.op) = _
  unfold clN
  cases tabN nt f <;> rfl
theorem clN_some {h : Hp} {f : FuncId} {args : List AV} {m : List PA → Option PO} : clN kt h f args (some (nM m)) = (allPA args).bind fun ps => (m ps).map fun r => (r.n.at h).op := by
  simp only [clN, nM]
  cases allPA args with
  | none => rfl
  | some ps =>
    simp only [Option.bind_some, Option.map_map]
    rfl
theorem clN_none {h : Hp} {f : FuncId} {args : List AV} : clN kt h f args none = (tabK kt f args h).map COut.op := rfl
theorem tabN_nil {f : FuncId} : tabN [] f = none := rfl
theorem tabN_here {k : FuncId} {m : List PA → Option PO} {r : NTab} : tabN ((k, m) :: r) k = some (nM m) := by simp [tabN]
theorem tabN_next {k f : FuncId} {m : List PA → Option PO} {r : NTab} (hn : (k = f) = False) : tabN ((k, m) :: r) f = tabN r f := by simp [tabN, hn]
theorem po_ret {l : List PA} {h : Hp} : (NOut.at h (PO.n (.ret l))).op = .val (resV l) h := rfl
theorem po_pan {t : TypeId} {xs : List D} {ag : Bool} {h : Hp} : (NOut.at h (PO.n (.pan t xs ag))).op = .pan (.ifc t xs ag) h := rfl
def NX := Zk @nx_P <| Zk @nx_G <| Zk @nx_M <| Zk @nx_B <| Zk @nx_U <| Zk @nx_E <| Zk @nx_size <| Zk @nx_isAgg <| Zk @nx_zero <| Zk @nx_apz <| Zk @nx_place <| Zk @nx_mapTy <| Zk @nx_isU8 <| Zk @nx_flat <| Zk @nx_ifT <| Zk @nx_ptT <| Zk @nx_isIf <| Zk @nx_fld <| Zk @nx_fldA <| Zk @nx_call <| Zk @clN_some <| Zk @clN_none <| Zk @tabN_nil <| Zk @tabN_here <| Zk @tabN_next <| Zk @po_ret <| Zk @po_pan <| Zk @kx_nil <| Zk @kx_here <| Zk @kx_next <| Zk @kx_ret <| Zk @kx_pan @tab_nil
end
theorem RetsP_ret {X : Ctx} {rs : List ResultVar} {out : COut} {s : S} : RetsP X rs out .ret s = ∃ vs, resAllV X s rs = some vs ∧ out = .ret (resVV vs) s.h := rfl
theorem RetsP_normal {X : Ctx} {rs : List ResultVar} {out : COut} {s : S} : RetsP X rs out .normal s = ∃ vs, resAllV X s rs = some vs ∧ out = .ret (resVV vs) s.h := rfl
theorem RetsP_pan {X : Ctx} {rs : List ResultVar} {out : COut} {s : S} {x : C1} : RetsP X rs out (.pan x) s = (out = .pan x s.h) := rfl
section
variable {X : Ctx} {md : Region.Mode} {ops : Array Oper} {p : Nat}
def extOp (X : Ctx) (o : Oper) : Bool := decide (lvl X o ≤ 1) || adds o
def panAt (X : Ctx) (ops : Array Oper) (p : Nat) (x : C1) (s : S) : Prop := ∃ o, ops[p]? = some o ∧ wantA ops o s = some true ∧ opA X s o = some (.pan x s.h)
def anyX (X : Ctx) (md : Region.Mode) (ops : Array Oper) (p : Nat) (x : C1) : Nat → Array Bool → S → Prop
  | 0, _, _ => False
  | fuel + 1, listed, s => Region.ready md ops listed ≠ [] ∧ ∀ i ∈ Region.ready md ops listed,
      if i = p then panAt X ops p x s else ∃ o s', ops[i]? = some o ∧ extOp X o = true ∧ st X ops o s = some s' ∧ anyX X md ops p x fuel (listed.setIfInBounds i true) s'
theorem panAt_eqv {x : C1} {s s' : S} (h : Eqv s s') (hp : panAt X ops p x s) : panAt X ops p x s' := by
  obtain ⟨o, h1, h2, h3⟩ := hp
  refine ⟨o, h1, by rw [← wantA_eqv h]; exact h2, ?_⟩
  have hop : opA X s' o = opA X s o := by unfold opA; rw [← h.ev, h.1]
  rw [hop, ← h.1]
  exact h3
theorem anyX_eqv {x : C1} : ∀ (fuel : Nat) (listed : Array Bool) (s s' : S), Eqv s s' → anyX X md ops p x fuel listed s → anyX X md ops p x fuel listed s'
  | 0, _, _, _, _, h => h.elim
  | fuel + 1, listed, s, s', h, ⟨h1, h2⟩ => ⟨h1, fun i hi => by
      have := h2 i hi
      split at this
      · rename_i he; rw [if_pos he]; exact panAt_eqv h this
      · rename_i he
        rw [if_neg he]
        obtain ⟨o, s1, a1, a2, a3, a4⟩ := this
        obtain ⟨s1', h3, h4⟩ := st_eqv h a3
        exact ⟨o, s1', a1, a2, h3, anyX_eqv fuel _ _ _ h4 a4⟩⟩
theorem lvl0_pan {ρ : Operand → AV} (hf : ∀ f, ρ (.func f) = .v (.c (.fn f []))) {h h1 : Hp} {o : Oper} {x : C1} (hl : lvl X o = 0) (hr : opR X ρ h o = some (.pan x h1)) : ∀ h', opR X ρ h' o = some (.pan x h') := by
  obtain ⟨dst, op, type, pos, after, guard⟩ := o
  cases op <;> simp only [lvl] at hl <;> try (exact absurd hl (by decide))
  case call c =>
    obtain ⟨callee, args, argTypes⟩ := c
    cases callee with
    | invoke r m => exact absurd hl (by simp)
    | builtin b =>
      cases b <;> simp only at hl <;> try (exact absurd hl (by decide))
      all_goals
        simp only [opR, callA, builtinA] at hr
        split at hr
        all_goals first
          | (cases hr; done)
          | (simp only [Option.map_eq_some_iff] at hr
             obtain ⟨v, hv, he⟩ := hr
             cases he
             done)
          | (split at hr
             · simp only [Option.map_eq_some_iff] at hr
               obtain ⟨v, hv, he⟩ := hr
               cases he
             · cases hr)
    | value f =>
      cases f with
      | func f =>
        simp only [opR, callA, hf] at hr ⊢
        simp only at hl
        cases hm : X.M f with
        | none =>
          cases hN : X.N f with
          | none => simp [hm, hN] at hl
          | some m =>
            simp only [hm, hN, Option.map_eq_some_iff] at hr
            obtain ⟨r, hv, he⟩ := hr
            cases r with
            | ret v => cases he
            | pan y =>
              cases he
              intro h'
              simp only [hv, Option.map_some]
              rfl
        | some m =>
          simp only [hm, Option.map_eq_some_iff] at hr
          obtain ⟨v, hv, he⟩ := hr
          cases he
      | _ => exact absurd hl (by simp)
  all_goals
    exfalso
    simp only [opR] at hr
    first
      | (cases hr; done)
      | (simp only [Option.map_eq_some_iff] at hr
         obtain ⟨v, hv, he⟩ := hr
         cases he
         done)
      | (simp only [Option.bind_eq_some_iff, Option.map_eq_some_iff] at hr
         obtain ⟨_, _, _, _, _, _, hr⟩ := hr
         split at hr
         all_goals
           simp only [Option.map_eq_some_iff] at hr
           obtain ⟨_, _, he⟩ := hr
           cases he
         done)
      | (simp only [Option.bind_eq_some_iff, Option.map_eq_some_iff] at hr
         obtain ⟨_, _, _, _, _, _, _, _, he⟩ := hr
         cases he
         done)
      | (simp only [Option.bind_eq_some_iff, Option.map_eq_some_iff] at hr
         obtain ⟨_, _, _, _, he⟩ := hr
         cases he
         done)
      | (repeat' split at hr
         all_goals first
           | (cases hr; done)
           | (simp only [Option.map_eq_some_iff] at hr
              obtain ⟨v, hv, he⟩ := hr
              cases he
              done)
           | (simp only [Option.bind_eq_some_iff] at hr
              obtain ⟨fd, hfd, hr⟩ := hr
              first
                | (obtain ⟨n, hn, hr⟩ := hr
                   repeat' split at hr
                   all_goals (cases hr; done))
                | (repeat' split at hr
                   all_goals first
                     | (cases hr; done)
                     | (simp only [Option.map_eq_some_iff] at hr
                        obtain ⟨v, hv, he⟩ := hr
                        cases he
                        done))))
theorem anyX_first {x : C1} {i : Nat} {oi op : Oper} (hi : ops[i]? = some oi) (hip : i ≠ p) (hie : extOp X oi = true) (hpo : ops[p]? = some op) (hp0 : lvl X op = 0) :
    ∀ (fuel : Nat) (listed : Array Bool) (s s1 : S),
      (∀ j oj, ops[j]? = some oj → j ≠ i → listed.getD j true = false → behB md ops i ops.size j = false → oi.apart ops oj = true ∧ commute X oi oj = true) → Closed md ops listed →
      i ∈ Region.ready md ops listed → st X ops oi s = some s1 →
      anyX X md ops p x fuel (listed.setIfInBounds i true) s1 → anyX X md ops p x (fuel + 1) listed s := by
  intro fuel
  induction fuel with
  | zero => intro listed s s1 _ _ _ _ H; exact H.elim
  | succ fuel ih =>
    intro listed s s1 hfree hcl hr hy H
    refine ⟨fun h => (by rw [h] at hr; cases hr), fun j hj => ?_⟩
    by_cases hji : j = i
    · subst hji
      rw [if_neg hip]
      exact ⟨oi, s1, hi, hie, hy, H⟩
    have h1 := H.2 j (ready_mono hj hji)
    obtain ⟨hjun, oj, hoj, hall⟩ := mem_ready.1 hj
    have hnot := ready_beh hcl hr hj ops.size
    split at h1
    · rename_i hjp
      rw [if_pos hjp]
      obtain ⟨o, a1, a2, a3⟩ := h1
      rw [hpo] at a1
      cases a1
      subst hjp
      rw [hpo] at hoj
      cases hoj
      obtain ⟨ha, hb, hd⟩ := Oper.apart_spec (hfree j op hpo hji hjun hnot).1
      -- the state behind the first one
      have hst : ∃ h' v, s1 = ({ s with h := h' } : S).putO oi.dst v := by
        obtain ⟨w, _, hw⟩ := st_step hy
        cases w with
        | false => simp only [Bool.false_eq_true, if_false] at hw; exact ⟨s.h, .tup [], hw⟩
        | true =>
          simp only [if_true] at hw
          unfold stepA at hw
          cases hop : opA X s oi with
          | none => simp [hop] at hw
          | some out =>
            simp only [hop, Option.map_some, Option.some.injEq] at hw
            cases out with
            | val v h' => simp only [Prod.mk.injEq, true_and] at hw; exact ⟨h', v, hw.symm⟩
            | skip h' => simp only [Prod.mk.injEq, true_and] at hw; exact ⟨h', .top, hw.symm⟩
            | pan y h' => simp at hw
      obtain ⟨h', v, rfl⟩ := hst
      refine ⟨op, hpo, ?_, ?_⟩
      · rw [wantA_put ha] at a2; exact a2
      unfold opA at a3 ⊢
      have e1 : ∀ hh, opR X (X.ev (({ s with h := h' } : S).putO oi.dst v)) hh op = opR X (X.ev s) hh op := fun hh => by
        rw [opA_put ha]; rfl
      rw [e1] at a3
      exact lvl0_pan (fun f => ev_func s f) hp0 a3 _
    rename_i hjp
    rw [if_neg hjp]
    obtain ⟨oj', s12, b1, b2, h2, h3⟩ := h1
    rw [hoj] at b1
    cases b1
    obtain ⟨hap, hco⟩ := hfree j oj hoj hji hjun hnot
    obtain ⟨s2, s21, h4, h5, h6⟩ := st_comm hap hco hy h2
    have hfree' : ∀ k ok, ops[k]? = some ok → k ≠ i → (listed.setIfInBounds j true).getD k true = false →
        behB md ops i ops.size k = false → oi.apart ops ok = true ∧ commute X oi ok = true := fun k ok hk hki hun hno => by
      refine hfree k ok hk hki ?_ hno
      by_cases hjk : j = k
      · subst hjk; exact hjun
      rw [getD_set_ne true hjk] at hun; exact hun
    refine ⟨oj, s2, hoj, b2, h4, ih (listed.setIfInBounds j true) s2 s21 hfree' (closed_set hcl hj) (ready_mono hr (Ne.symm hji)) h5 ?_⟩
    rw [Array.setIfInBounds_comm _ _ hji]
    exact anyX_eqv _ _ _ _ h6 h3
def lexX (X : Ctx) (md : Region.Mode) (ops : Array Oper) (p : Nat) : List Nat → Array Bool → Bool
  | [], listed => Region.ready md ops listed == [p]
  | k :: r, listed => (Region.ready md ops listed).contains k && k != p && freeA X md ops listed k &&
      (match ops[k]?, ops[p]? with | some ok, some op => extOp X ok && (lvl X op == 0) | _, _ => false) && lexX X md ops p r (listed.setIfInBounds k true)
def runX (X : Ctx) (ops : Array Oper) : List Nat → S → Option S
  | [], s => some s
  | k :: r, s => (ops[k]?).bind fun o => (st X ops o s).bind fun s' => runX X ops r s'
theorem anyX_lex {x : C1} : ∀ (l : List Nat) (listed : Array Bool) (s s' : S), Closed md ops listed → lexX X md ops p l listed = true → runX X ops l s = some s' → panAt X ops p x s' → anyX X md ops p x (l.length + 1) listed s
  | [], listed, s, s', _, hB, h, hq => by
    simp only [runX, Option.some.injEq] at h
    subst h
    simp only [lexX, beq_iff_eq] at hB
    refine ⟨by rw [hB]; simp, fun i hi => ?_⟩
    rw [hB] at hi
    simp at hi
    rw [if_pos hi]
    exact hq
  | k :: r, listed, s, s', hcl, hB, h, hq => by
    simp only [lexX, Bool.and_eq_true] at hB
    obtain ⟨⟨⟨⟨hr, hkp⟩, hfr⟩, hm⟩, hB'⟩ := hB
    simp only [runX, Option.bind_eq_some_iff] at h
    obtain ⟨ok, hok, s1, hs1, h⟩ := h
    split at hm
    · rename_i ok' op h1 h2
      rw [hok] at h1
      cases h1
      simp only [Bool.and_eq_true, beq_iff_eq] at hm
      exact anyX_first hok (by simpa using hkp) hm.1 h2 hm.2 _ listed s s1 (freeA_spec hok hfr) hcl (by simpa using hr) hs1 (anyX_lex r _ s1 s' (closed_set hcl (by simpa using hr)) hB' h hq)
    cases hm
theorem anyX_sim {A : Actn} (hK : KOk X) {Q : Exit → Act → World → Prop} {n m : Nat} {E0 : Env} {h0 : Hp} {x : C1} (hfit : ∀ (i : Nat) (o : Oper), ops[i]? = some o → ∀ t, o.dst = some t → t < m)
    (hQ : ∀ (s' : S) (a' : Act) (E' : Env) (u : Value), (∃ g, s'.h = h0 ++ g) → Evo n E0 h0 E' s'.h → Rel A E' s' a' E'.w → a'.tmps.size = m → x.rel E' s'.h u → Q (.panic [{ v := u, recovered := false }]) a' E'.w) :
    ∀ (fuel : Nat) (listed : Array Bool) (s : S) (a : Act) (E : Env), Now X A E s a → (∃ g, s.h = h0 ++ g) → Evo n E0 h0 E s.h → a.tmps.size = m → anyX X md ops p x fuel listed s → ∀ f2, fuel ≤ f2 → wpAny X.P md ops Q f2 listed a E.w
  | 0, _, _, _, _, _, _, _, _, h, _, _ => h.elim
  | fuel + 1, listed, s, a, E, hn, hg, ev, hm, ⟨h1, h2⟩, f2, hf2 => by
    obtain ⟨f2, rfl⟩ : ∃ k, f2 = k + 1 := ⟨f2 - 1, by omega⟩
    refine ⟨fun h => absurd h h1, fun i hi => ?_⟩
    have := h2 i hi
    unfold wpOp
    split at this
    · rename_i hip
      subst hip
      obtain ⟨o, ho, hw, hop⟩ := this
      rw [ho]
      simp only
      rw [want_sim hn hw]
      simp only [if_true]
      left
      refine oper_sim (n := s.h.length) (ex := .pan x) (s' := s) hK hn (Nat.le_refl _) (by unfold stepA; rw [hop]; rfl) (fun t ht => by rw [hm]; exact hfit i o ho t ht) (fun he => by cases he) (fun y he u E' ev' hrel hx => ?_)
      cases he
      exact hQ s a E' u hg (ev.trans ev' ev.len) hrel hm hx
    rename_i hip
    obtain ⟨o, s', ho, he, hs, h3⟩ := this
    rw [ho]
    simp only
    have hg' : ∃ g, s'.h = h0 ++ g := by
      obtain ⟨g, hg⟩ := hg
      obtain ⟨w, _, hs'⟩ := st_step hs
      cases w with
      | false => simp only [Bool.false_eq_true, if_false] at hs'; subst hs'; exact ⟨g, by rw [putO_h]; exact hg⟩
      | true =>
        simp only [if_true] at hs'
        unfold stepA at hs'
        cases hop : opA X s o with
        | none => simp [hop] at hs'
        | some out =>
          have key : ∀ h', (∃ v, out = .val v h') ∨ out = .skip h' → ∃ g', h' = s.h ++ g' := fun h' hh => by
            unfold extOp at he
            simp only [Bool.or_eq_true, decide_eq_true_eq] at he
            rcases he with he | he
            · obtain ⟨v, hv⟩ := lvl1 (fun f => ev_func s f) he (fun y h'' => by rcases hh with ⟨v, rfl⟩ | rfl <;> simp) hop
              rcases hh with ⟨v', rfl⟩ | rfl
              · cases hv; exact ⟨[], by simp⟩
              cases hv
            obtain ⟨v, b, hv⟩ := adds_ext he hop
            rcases hh with ⟨v', rfl⟩ | rfl
            · cases hv; exact ⟨[b], rfl⟩
            cases hv
          simp only [hop, Option.map_some, Option.some.injEq] at hs'
          cases out with
          | val v h' =>
            simp only [Prod.mk.injEq, true_and] at hs'
            subst hs'
            obtain ⟨g', hg'⟩ := key h' (.inl ⟨v, rfl⟩)
            exact ⟨g ++ g', by rw [putO_h]; show h' = _; rw [hg', hg, List.append_assoc]⟩
          | skip h' =>
            simp only [Prod.mk.injEq, true_and] at hs'
            subst hs'
            obtain ⟨g', hg'⟩ := key h' (.inr rfl)
            exact ⟨g ++ g', by rw [putO_h]; show h' = _; rw [hg', hg, List.append_assoc]⟩
          | pan y h' => simp at hs'
    obtain ⟨w, hw, hs⟩ := st_step hs
    rw [want_sim hn hw]
    cases w with
    | false =>
      simp only [Bool.false_eq_true, if_false] at hs ⊢
      subst hs
      have hrel := hn.rel.put (Evo.refl (Nat.le_refl _)) hn.rel.env (d := o.dst) (v := .tup []) (u := undef) (fun t ht => by rw [hm]; exact hfit i o ho t ht) skp_rel
      have hh : (s.putO o.dst (.tup [])).h = s.h := putO_h _ _ _
      exact anyX_sim hK hfit hQ fuel _ (s.putO o.dst (.tup [])) (a.put o.dst undef) E ⟨hn.G, hrel⟩ hg' (by rw [hh]; exact ev) (by rw [put_size]; exact hm) h3 f2 (by omega)
    | true =>
      simp only [if_true] at hs ⊢
      left
      refine oper_sim (n := s.h.length) hK hn (Nat.le_refl _) hs (fun t ht => by rw [hm]; exact hfit i o ho t ht) (fun _ a' E' ev' hrel hsz => ?_) (fun x he => by cases he)
      exact anyX_sim hK hfit hQ fuel _ s' a' E' ⟨hn.G, hrel⟩ hg' (ev.trans ev' ev.len) (hsz.trans hm) h3 f2 (by omega)
end
def awpX (X : Ctx) : Code → S → (Ex → S → Prop) → Prop
  | .seq x y, s, Q => awpX X x s (fun ex s' => match ex with | .normal => ∃ s'', Wk s.h.length s' s'' ∧ awpX X y s'' Q | ex => Q ex s')
  | .cond c x y, s, Q => ∃ b, bIs (X.ev s c) b ∧ (b ≠ some false → awpX X x s Q) ∧ (b ≠ some true → awpX X y s Q)
  | .region i ops true, s, Q => awpS X (.region i ops true) s Q ∨ ∃ (p : Nat) (l : List Nat) (s' : S) (t : TypeId) (xs : List D) (ag : Bool), l.length + 1 ≤ ops.size ∧ lexX X .any ops p l (Array.replicate ops.size false) = true ∧ runX X ops l s = some s' ∧ panAt X ops p (.ifc t xs ag) s' ∧
      s.h.all (Ob.low s.h.length) = true ∧ Q (.pan (.ifc t xs ag)) ⟨[], s.h⟩
  | c, s, Q => awpS X c s Q
theorem ifc_evo {n : Nat} {E E' : Env} {h h' : Hp} (ev : Evo n E h E' h') {t : TypeId} {xs : List D} {ag : Bool} {v : Value} (hr : (C1.ifc t xs ag).rel E h v) : (C1.ifc t xs ag).rel E' h' v := by
  obtain ⟨u, hv, hx⟩ := hr
  refine ⟨u, hv, ?_⟩
  cases ag
  · simp only [Bool.false_eq_true, if_false] at hx ⊢
    obtain ⟨x, he, hr⟩ := hx
    exact ⟨x, he, hr.evo ev⟩
  simp only [if_true] at hx ⊢
  obtain ⟨vs, hu, hl, hr⟩ := hx
  refine ⟨vs, hu, hl, fun j x hj => ?_⟩
  obtain ⟨y, hy, hr'⟩ := hr j x hj
  exact ⟨y, hy, hr'.evo ev⟩
theorem awpS_mono {X : Ctx} : ∀ (c : Code) (s : S) (Q Q' : Ex → S → Prop), (∀ ex s, Q ex s → Q' ex s) → awpS X c s Q → awpS X c s Q'
  | .skip, s, Q, Q', h, ha => h _ _ ha
  | .exit _, s, Q, Q', h, ha => h _ _ ha
  | .ret, s, Q, Q', h, ha => h _ _ ha
  | .region _ _ _, s, Q, Q', h, ha => awp_mono _ s _ _ h ha
  | .seq x y, s, Q, Q', h, ha => awpS_mono x s _ _ (fun ex s' hq => by
      cases ex with
      | normal => obtain ⟨s'', hw, hq⟩ := hq; exact ⟨s'', hw, awpS_mono y s'' _ _ h hq⟩
      | _ => exact h _ _ hq) ha
  | .cond _ x y, s, Q, Q', h, ⟨b, h1, h2, h3⟩ => ⟨b, h1, fun hb => awpS_mono x s _ _ h (h2 hb), fun hb => awpS_mono y s _ _ h (h3 hb)⟩
  | .block i c, s, Q, Q', h, ha => awpS_mono c s _ _ (fun ex s' hq => by
      cases ex with
      | exit j =>
        simp only [blk] at hq ⊢
        split at hq
        · rename_i hj
          rw [if_pos hj]
          obtain ⟨s2, h1, h2⟩ := hq
          exact ⟨s2, h1, h _ _ h2⟩
        · rename_i hj
          rw [if_neg hj]
          exact h _ _ hq
      | _ => exact h _ _ hq) ha
  | .loop c, s, Q, Q', h, ⟨σ, I, sta, μ, h1, h2⟩ => ⟨σ, I, sta, μ, h1, fun x hx => awpS_mono c _ _ _ (fun ex s' hq => by
      cases ex with
      | normal => exact hq
      | _ => exact h _ _ hq) (h2 x hx)⟩
  | .rangeFunc _ _ _ _, _, _, _, _, ha => ha.elim
  | .scope _, _, _, _, _, ha => ha.elim
  | .label _, _, _, _, _, ha => ha.elim
  | .goto _, _, _, _, _, ha => ha.elim
  | .refuse _, _, _, _, _, ha => ha.elim
variable {X : Ctx} {A : Actn}
theorem awpX_sim (hK : KOk X) (hm : X.P.follows .mixedOrders = true) {m : Nat} : ∀ (c : Code) (s : S) (Q : Ex → S → Prop) (a : Act) (E : Env), okCode X m c = true → awpX X c s Q → Now X A E s a → a.tmps.size = m →
    c.wp X.P (Post A s.h.length m E s.h Q) a E.w
  | .seq x y, s, Q, a, E, hok, h, hn, hs => by
    simp only [okCode, Bool.and_eq_true] at hok
    refine wp_seq (wp_mono (awpX_sim hK hm x s _ a E hok.1 h hn hs) fun e a1 w1 ⟨ex, s1, E1, ev, hrel, hsz, he, hq⟩ => ?_)
    by_cases hex : ex = .normal
    · subst hex
      have := exrel_normal he
      subst this
      obtain ⟨s2, hw2, hq⟩ := hq
      obtain ⟨E2, ev2, hrel2⟩ := hw2 A E1 a1 w1 ev.len hrel
      have hw := hrel2.world
      subst hw
      have ev12 := ev.trans ev2 (Nat.le_refl _)
      exact wp_mono (awpX_sim hK hm y s2 Q a1 E2 hok.2 hq ⟨hn.G, hrel2⟩ hsz) fun e a2 w2 ⟨ex, s3, E3, ev3, hrel3, hsz3, he3, hq3⟩ => ⟨ex, s3, E3, ev12.trans ev3 ev12.len, hrel3, hsz3, he3, hq3⟩
    · have hne : e ≠ .normal := fun h => hex (exrel_normal' (h ▸ he))
      rw [then_ne hne]
      exact ⟨ex, s1, E1, ev, hrel, hsz, he, by cases ex <;> first | exact absurd rfl hex | exact hq⟩
  | .cond c x y, s, Q, a, E, hok, h, hn, hs => by
    simp only [okCode, Bool.and_eq_true] at hok
    obtain ⟨b, hb, h1, h2⟩ := h
    have hr := ev_rel hn c
    obtain ⟨b', hb', i1, i2⟩ := bIs_inv hb hr
    refine wp_cond_split hb' (fun ht => awpX_sim hK hm x s Q a E hok.1 (h1 (i1 ht)) hn hs) (fun hf => awpX_sim hK hm y s Q a E hok.2 (h2 (i2 hf)) hn hs)
  | .region i ops true, s, Q, a, E, hok, h, hn, hs => by
    rcases h with h | ⟨p, l, s', t, xs, ag, hsz, hlex, hrun, hpan, hlow, hq⟩
    · exact awpS_sim hK hm (.region i ops true) s Q a E hok h hn hs
    · simp only [okCode, Bool.and_eq_true] at hok
      have hfit' : ∀ (i : Nat) (o : Oper), ops[i]? = some o → ∀ t, o.dst = some t → t < m := fun i o ho t ht => by
        have hf := hok.1
        rw [Array.all_eq_true_iff_forall_mem] at hf
        have := hf o (Array.mem_of_getElem? ho)
        simpa [ht] using this
      have hany := anyX_lex (x := .ifc t xs ag) l _ s s' closed_none hlex hrun hpan
      let E1 : Env := { E with w := { E.w with drawn := E.w.drawn + 1 } }
      have ev1 : Evo s.h.length E s.h E1 s.h := ⟨fun _ _ h => h, fun _ _ _ => rfl, fun _ _ o h _ => ⟨⟨o, h, rfl⟩, rfl⟩, fun _ _ k _ c h => ⟨k, c, h, Nat.le_refl _, fun _ => ⟨rfl, fun _ vs T _ hb => ⟨vs, T, hb, rfl⟩⟩⟩, Nat.le_refl _⟩
      have hok1 : EnvOk A E1 s.h := by
        have h0 := hn.rel.env
        refine ⟨h0.below.trans ⟨rfl, rfl, rfl, Nat.le_refl _, fun _ _ => rfl⟩, h0.lt, h0.old, h0.f0, h0.inj, h0.base, fun i o ho => ?_, fun g xs hg => (h0.glob g xs hg).evo ev1, h0.ginv, fun hD => Nat.le_trans (h0.drw hD) (Nat.le_succ _)⟩
        have := h0.ob i o ho
        cases o with
        | box cs => obtain ⟨b, vs, T, h1, h2, h3, h4⟩ := this; exact ⟨b, vs, T, h1, h2, h3.evo ev1 (Nat.le_refl _), h4⟩
        | tok n z c => cases c with
          | none => exact this
          | some ds => exact ⟨this.1, this.2.imp (fun h => h) fun ⟨b, vs, T, h1, h2, h3, h4, h5⟩ => ⟨b, vs, T, h1, h2, h3, h4.evo ev1 (Nat.le_refl _), h5⟩⟩
        | map es clock => obtain ⟨b, ents, h1, h2, h3, h4, h5⟩ := this; exact ⟨b, ents, h1, h2, h3, h4, fun j p hj => let ⟨e, he, g1, g2, g3⟩ := h5 j p hj; ⟨e, he, g1, g2.evo ev1, g3.evo ev1⟩⟩
        | _ => exact this
      have hn1 : Now X A E1 s a := ⟨hn.G, hok1, rfl, hn.rel.defers, fun t => (hn.rel.tmps t).evo ev1 (Nat.le_refl _)⟩
      refine wp_region_any hm ?_
      refine anyX_sim (m := m) (n := s.h.length) (E0 := E) (h0 := s.h) hK hfit' (fun s1 a' E' u hg ev hrel hsz' hx => ?_) _ _ s a E1 hn1 ⟨[], by simp⟩ ev1 hs hany _ hsz
      obtain ⟨g, hg⟩ := hg
      obtain ⟨t1, h1⟩ := s1
      simp only at hg
      subst hg
      obtain ⟨E2, ev2, hrel2⟩ := Wk.cut (n := s.h.length) (t := t1) (t' := []) (h := s.h) (g := g) (Nat.le_refl _) (by rw [subT_nil]; trivial) rfl hlow A E' a' E'.w (by simp) hrel
      have hw := hrel2.world
      exact ⟨.pan (.ifc t xs ag), ⟨[], s.h⟩, E2, ev.trans ev2 (Nat.le_refl _), hrel2, hsz', ⟨u, rfl, ifc_evo ev2 hx⟩, hq⟩
  | .region i ops false, s, Q, a, E, hok, h, hn, hs => awpS_sim hK hm (.region i ops false) s Q a E hok h hn hs
  | .skip, s, Q, a, E, hok, h, hn, hs => awpS_sim hK hm .skip s Q a E hok h hn hs
  | .exit id, s, Q, a, E, hok, h, hn, hs => awpS_sim hK hm (.exit id) s Q a E hok h hn hs
  | .ret, s, Q, a, E, hok, h, hn, hs => awpS_sim hK hm .ret s Q a E hok h hn hs
  | .block id c, s, Q, a, E, hok, h, hn, hs => awpS_sim hK hm (.block id c) s Q a E hok h hn hs
  | .loop c, s, Q, a, E, hok, h, hn, hs => awpS_sim hK hm (.loop c) s Q a E hok h hn hs
  | .rangeFunc _ _ _ _, _, _, _, _, hok, _, _, _ => by simp [okCode] at hok
  | .scope _, _, _, _, _, hok, _, _, _ => by simp [okCode] at hok
  | .label _, _, _, _, _, hok, _, _, _ => by simp [okCode] at hok
  | .goto _, _, _, _, _, hok, _, _, _ => by simp [okCode] at hok
  | .refuse _, _, _, _, _, hok, _, _, _ => by simp [okCode] at hok
theorem awpX_of {X : Ctx} : ∀ (c : Code) (s : S) (Q : Ex → S → Prop), awpS X c s Q → awpX X c s Q
  | .seq x y, s, Q, h => awpX_of x s _ (by
      refine awpS_mono x s _ _ (fun ex s' hq => ?_) h
      cases ex with
      | normal => obtain ⟨s'', hw, hq⟩ := hq; exact ⟨s'', hw, awpX_of y s'' Q hq⟩
      | _ => exact hq)
  | .cond c x y, s, Q, ⟨b, h1, h2, h3⟩ => ⟨b, h1, fun hb => awpX_of x s Q (h2 hb), fun hb => awpX_of y s Q (h3 hb)⟩
  | .region i ops true, s, Q, h => .inl h
  | .region i ops false, s, Q, h => h
  | .skip, s, Q, h => h
  | .exit id, s, Q, h => h
  | .ret, s, Q, h => h
  | .block id c, s, Q, h => h
  | .loop c, s, Q, h => h
  | .rangeFunc _ _ _ _, _, _, h => h
  | .scope _, _, _, h => h
  | .label _, _, _, h => h
  | .goto _, _, _, h => h
  | .refuse _, _, _, h => h
end Go.Ab
namespace Go.Ab
open Go.RowKit
theorem Wk.tops {n : Nat} {t t' : List (Nat × AV)} {h h' : Hp} {id : Nat} {cs cs' : List C1} (hid : h[id]? = some (.box cs)) (hs : subT t t') (hcs : cs' = cs.map fun _ => .top) (hh : h' = h.set id (.box cs')) : Wk n ⟨t, h⟩ ⟨t', h'⟩ := fun A E a w hn hr => by
  subst hh hcs
  have hidl := lt_of_get hid
  have hset : ∀ j, j ≠ id → (h.set id (.box (cs.map fun _ => C1.top)))[j]? = h[j]? := fun j hj => by rw [List.getElem?_set_ne (Ne.symm hj)]
  have ev : Evo h.length E h E (h.set id (.box (cs.map fun _ => C1.top))) := by
    refine ⟨fun _ _ h => h, fun _ _ _ => rfl, fun j hj o ho hk => ⟨?_, rfl⟩, fun j hj m z c hm => ?_, by simp⟩
    · by_cases hji : j = id
      · subst hji
        rw [hid] at ho
        cases ho
        exact ⟨.box (cs.map fun _ => C1.top), by simp [hidl], rfl⟩
      exact ⟨o, by rw [hset j hji]; exact ho, rfl⟩
    have hji : j ≠ id := by
      rintro rfl
      rw [hid] at hm
      cases hm
    exact ⟨m, c, by rw [hset j hji]; exact hm, Nat.le_refl _, fun _ => ⟨rfl, fun b vs T _ hv => ⟨vs, T, hv, rfl⟩⟩⟩
  have he := hr.env
  refine ⟨E, ev.weak hn, ⟨he.below, he.lt, he.old, he.f0, fun i j b hi hj => he.inj i j b (by simpa using hi) (by simpa using hj), fun i b hi => he.base i b (by simpa using hi), fun i o ho => ?_, he.glob, he.ginv, he.drw⟩, hr.world, hr.defers, fun k => ?_⟩
  · by_cases hii : i = id
    · subst hii
      simp [hidl] at ho
      subst ho
      obtain ⟨b, vs, T, h1, h2, h3, h4⟩ := he.ob i _ hid
      refine ⟨b, vs, T, h1, h2, ⟨by simpa using h3.1, fun j x hj => ?_⟩, h4⟩
      rw [List.getElem?_map] at hj
      cases hq : cs[j]? with
      | none => simp [hq] at hj
      | some y =>
        simp [hq] at hj
        subst hj
        obtain ⟨u, hu, _, h1⟩ := h3.2 j y hq
        exact ⟨u, hu, trivial, h1⟩
    rw [hset i hii] at ho
    have hr := he.ob i o ho
    cases o with
    | dead => exact hr
    | box cs => obtain ⟨b, vs, T, h1, h2, h3, h4⟩ := hr; exact ⟨b, vs, T, h1, h2, h3.evo ev (Nat.le_refl _), h4⟩
    | tok n z c => cases c with
      | none => exact hr
      | some ds => exact ⟨hr.1, hr.2.imp (fun h => h) fun ⟨b, vs, T, h1, h2, h3, h4, h5⟩ => ⟨b, vs, T, h1, h2, h3, h4.evo ev (Nat.le_refl _), h5⟩⟩
    | siter s p => exact hr
    | pin ob => exact hr
    | map es clock => obtain ⟨b, ents, h1, h2, h3, h4, h5⟩ := hr; exact ⟨b, ents, h1, h2, h3, h4, fun j p hj => let ⟨e, he, g1, g2, g3⟩ := h5 j p hj; ⟨e, he, g1, g2.evo ev, g3.evo ev⟩⟩
    | bld T e l on =>
      obtain ⟨b, h1, h2, h3⟩ := hr
      refine ⟨b, h1, h2, fun hon => ?_⟩
      obtain ⟨p, v, a1, a2, a3, aT, a4⟩ := h3 hon
      exact ⟨p, v, a1, a2, a3, aT, fun g hg => let ⟨q1, q2, q3, q4⟩ := a4 g hg; ⟨q1, q2, q3, fun j hj => q4 j (by simpa using hj)⟩⟩
  show (look t' k).rel E _ _
  rcases look_sub t' hs k with h1 | h1
  · rw [h1]; trivial
  rw [h1]; exact (hr.tmps k).evo ev (Nat.le_refl _)
def RetsW (X : Ctx) (n : Nat) (rs : List ResultVar) (out : COut) : Ex → S → Prop
  | .ret, s => ∃ s', Wk n s s' ∧ ∃ vs, resAllV X s' rs = some vs ∧ out = .ret (resVV vs) s'.h
  | .normal, s => ∃ s', Wk n s s' ∧ ∃ vs, resAllV X s' rs = some vs ∧ out = .ret (resVV vs) s'.h
  | .pan x, s => ∃ t xs ag h', x = .ifc t xs ag ∧ Wk n s ⟨[], h'⟩ ∧ out = .pan (.ifc t xs ag) h'
  | _, _ => False
theorem fok_of_awpW {X : Ctx} {f : FuncId} {fn : Func} {c : Code} {args : List AV} {h : Hp} {out : COut} (hf : X.P.funcs[f]? = some fn) (hb : fn.body = some c) (hname : (fn.name == "runtime.NumGoroutine") = false)
    (hok : okCode X fn.ntmps c = true) (hmix : X.P.follows .mixedOrders = true) (hK : KOk X) (hal : args.length ≤ fn.ntmps)
    (hbody : awpX X c ⟨argV 0 args, h⟩ (RetsW X h.length fn.results.toList out)) : FOk X.P X.G f args h out := by
  refine fok_of_end hf hb hname fun A E vs hG hE hs hrel => ?_
  have hr := enter_rel (n := fn.ntmps) [] hE hal hs hrel
  have hsz : (vs ++ Array.replicate (fn.ntmps - vs.size) undef).size = fn.ntmps := by simp; omega
  refine calls_of_wp hf hb (wp_mono (awpX_sim (A := { A with ds := [] }) hK hmix c ⟨argV 0 args, h⟩ _ _ E hok hbody ⟨hG, hr⟩ hsz) fun e a' w' ⟨ex, s', E', ev, hrel', _, he, hq⟩ => ?_)
  have hw := hrel'.world
  subst hw
  have fin : (∃ s2, Wk h.length s' s2 ∧ ∃ vs, resAllV X s2 fn.results.toList = some vs ∧ out = .ret (resVV vs) s2.h) → a'.defers = [] ∧ ∃ v, (results fn a'.tmps).run X.P E'.w = .ok v E'.w ∧ EndOk A E h out (.returned v) E'.w := by
    rintro ⟨s2, hwk, r, hres, rfl⟩
    obtain ⟨E2, ev2, hrel2⟩ := hwk _ E' a' E'.w ev.len hrel'
    have hw2 := hrel2.world
    obtain ⟨v, hv, hrv⟩ := results_rel (by rw [hw2]; exact hrel2) hres
    rw [hw2] at hv
    exact ⟨hrel'.defers, v, hv, E2, s2.h, hw2.symm, ev.trans ev2 (Nat.le_refl _), hrel2.env.nods, .inl ⟨v, _, rfl, rfl, hrv⟩⟩
  cases ex <;> simp only [RetsW] at hq
  · have := exrel_normal he
    subst this
    exact fin hq
  · cases e <;> first | exact he.elim | exact fin hq
  cases e <;> first | exact he.elim | skip
  obtain ⟨u, rfl, hx⟩ := he
  obtain ⟨t, xs, ag, h', rfl, hwk, rfl⟩ := hq
  obtain ⟨E2, ev2, hrel2⟩ := hwk _ E' a' E'.w ev.len hrel'
  exact ⟨hrel'.defers, E2, h', hrel2.world.symm, ev.trans ev2 (Nat.le_refl _), hrel2.env.nods, .inr ⟨u, _, rfl, rfl, ifc_evo ev2 hx⟩⟩
theorem RetsW_ret {X : Ctx} {n : Nat} {rs : List ResultVar} {out : COut} {s : S} : RetsW X n rs out .ret s = ∃ s', Wk n s s' ∧ ∃ vs, resAllV X s' rs = some vs ∧ out = .ret (resVV vs) s'.h := rfl
theorem RetsW_normal {X : Ctx} {n : Nat} {rs : List ResultVar} {out : COut} {s : S} : RetsW X n rs out .normal s = ∃ s', Wk n s s' ∧ ∃ vs, resAllV X s' rs = some vs ∧ out = .ret (resVV vs) s'.h := rfl
theorem RetsW_pan {X : Ctx} {n : Nat} {rs : List ResultVar} {out : COut} {s : S} {x : C1} : RetsW X n rs out (.pan x) s = ∃ t xs ag h', x = .ifc t xs ag ∧ Wk n s ⟨[], h'⟩ ∧ out = .pan (.ifc t xs ag) h' := rfl
end Go.Ab
namespace Go.Ab
open Go.RowKit
variable {X : Ctx}
def seqX (n : Nat) (X : Ctx) (y : Code) (Q : Ex → S → Prop) : Ex → S → Prop
  | .normal, s => ∃ s', Wk n s s' ∧ awpX X y s' Q
  | ex, s => Q ex s
@[congr] theorem awpX_congr {c : Code} {s : S} {Q : Ex → S → Prop} : awpX X c s Q = awpX X c s Q := rfl
@[congr] theorem seqX_congr {n : Nat} {c : Code} {e : Ex} {s : S} {Q : Ex → S → Prop} : seqX n X c Q e s = seqX n X c Q e s := rfl
theorem awpX_seq {x y : Code} {t : List (Nat × AV)} {h : Hp} {Q : Ex → S → Prop} : awpX X (.seq x y) ⟨t, h⟩ Q = awpX X x ⟨t, h⟩ (seqX h.length X y Q) := by
  simp only [awpX]
  congr 1
  funext ex s'
  cases ex <;> rfl
theorem awpX_region {i : Nat} {ops : Array Oper} {s : S} {Q : Ex → S → Prop} : awpX X (.region i ops false) s Q = awp X (.region i ops false) s Q := rfl
theorem awpX_cond {c : Operand} {x y : Code} {t : List (Nat × AV)} {h : Hp} {Q : Ex → S → Prop} : awpX X (.cond c x y) ⟨t, h⟩ Q = cnd (X.ev ⟨t, h⟩ c) (awpX X x ⟨t, h⟩ Q) (awpX X y ⟨t, h⟩ Q) := rfl
theorem awpX_skip {s : S} {Q : Ex → S → Prop} : awpX X .skip s Q = Q .normal s := rfl
theorem awpX_ret {s : S} {Q : Ex → S → Prop} : awpX X .ret s Q = Q .ret s := rfl
theorem seqX_ret {n : Nat} {y : Code} {Q : Ex → S → Prop} {s : S} : seqX n X y Q .ret s = Q .ret s := rfl
theorem seqX_exit {n : Nat} {y : Code} {Q : Ex → S → Prop} {i : Nat} {s : S} : seqX n X y Q (.exit i) s = Q (.exit i) s := rfl
theorem seqX_pan {n : Nat} {y : Code} {Q : Ex → S → Prop} {x : C1} {s : S} : seqX n X y Q (.pan x) s = Q (.pan x) s := rfl
def AX := Zk @awpX_seq <| Zk @awpX_region <| Zk @awpX_cond <| Zk @awpX_skip <| Zk @awpX_ret <| Zk @seqX_ret <| Zk @seqX_exit @seqX_pan
theorem seqX_id {n : Nat} {y : Code} {Q : Ex → S → Prop} {s : S} (h : awpX X y s Q) : seqX n X y Q .normal s := ⟨s, Wk.refl, h⟩
def panE (Q : Ex → S → Prop) (h0 : Hp) : Ex → S → Prop
  | .pan (.ifc t xs ag), _ => Q (.pan (.ifc t xs ag)) ⟨[], h0⟩
  | _, _ => False
def panQ (X : Ctx) (ops : Array Oper) (o : Oper) (Q : Ex → S → Prop) (h0 : Hp) : Ex → S → Prop
  | .normal, s => fin false (panE Q h0) (runOps X ops [o] s)
  | _, _ => False
@[congr] theorem panQ_congr {ops : Array Oper} {o : Oper} {Q : Ex → S → Prop} {h0 : Hp} {e : Ex} {s : S} : panQ X ops o Q h0 e s = panQ X ops o Q h0 e s := rfl
@[congr] theorem panE_congr {Q : Ex → S → Prop} {h0 : Hp} {e : Ex} {s : S} : panE Q h0 e s = panE Q h0 e s := rfl
theorem panQ_normal {ops : Array Oper} {o : Oper} {Q : Ex → S → Prop} {h0 : Hp} {t : List (Nat × AV)} {h : Hp} : panQ X ops o Q h0 .normal ⟨t, h⟩ = fin false (panE Q h0) (runOps X ops [o] ⟨t, h⟩) := rfl
theorem panE_pan {Q : Ex → S → Prop} {h0 : Hp} {t : TypeId} {xs : List D} {ag : Bool} {s : S} : panE Q h0 (.pan (.ifc t xs ag)) s = Q (.pan (.ifc t xs ag)) ⟨[], h0⟩ := rfl
theorem true_t {p : Prop} : ((false = false) ∧ p) = p := by simp
def AXP := Zk @panQ_normal <| Zk @panE_pan @true_t
def pickOps (l : List Oper) : List Nat → Option (List Oper)
  | [] => some []
  | k :: r => match l[k]?, pickOps l r with
    | some o, some os => some (o :: os)
    | _, _ => none
theorem st_of {ops : Array Oper} {o : Oper} {s s' : S} (h1 : wantA ops o s = some true) (h2 : stepA X o s = some (.normal, s')) : st X ops o s = some s' := by
  unfold st
  rw [h1]
  simp only [Option.bind_some, if_true]
  unfold stepA at h2
  cases hop : opA X s o with
  | none => simp [hop] at h2
  | some out =>
    rw [hop] at h2
    cases out <;> simp at h2 ⊢
    · exact h2
    exact h2
theorem runX_of {ops : Array Oper} {l : List Oper} (ho : ops = l.toArray) : ∀ (is : List Nat) (lo : List Oper) (s s' : S), pickOps l is = some lo → runOps X ops lo s = some (.normal, s') → runX X ops is s = some s'
  | [], lo, s, s', hp, hr => by
    cases hp
    simp only [runOps, Option.some.injEq, Prod.mk.injEq, true_and] at hr
    rw [← hr]; rfl
  | k :: r, lo, s, s', hp, hr => by
    simp only [pickOps] at hp
    split at hp
    · rename_i o os h1 h2
      cases hp
      have hk : ops[k]? = some o := by rw [ho]; simpa using h1
      simp only [runOps, Option.bind_eq_some_iff] at hr
      obtain ⟨w, hw, hr⟩ := hr
      simp only [runX, hk, Option.bind_some, Option.bind_eq_some_iff]
      cases w with
      | false =>
        simp only [Bool.false_eq_true, if_false] at hr
        exact ⟨_, by unfold st; rw [hw]; rfl, runX_of ho r os _ s' h2 hr⟩
      | true =>
        simp only [if_true, Option.bind_eq_some_iff] at hr
        obtain ⟨⟨ex, s1⟩, hs, hr⟩ := hr
        cases ex with
        | normal => exact ⟨s1, st_of hw hs, runX_of ho r os s1 s' h2 hr⟩
        | _ => simp at hr
    cases hp
theorem awpX_drawn {i : Nat} {l : List Oper} {t : List (Nat × AV)} {h : Hp} {Q : Ex → S → Prop} (p : Nat) (is : List Nat) {lo : List Oper} {o : Oper} (hl : pickOps l is = some lo) (ho : l[p]? = some o)
    (hlex : lexX X .any l.toArray p is (Array.replicate l.toArray.size false) = true) (hl0 : lvl X o = 0) (hsz : is.length + 1 ≤ l.toArray.size) (hlow : h.all (Ob.low h.length) = true)
    (hrun : fin false (panQ X l.toArray o Q h) (runOps X l.toArray lo ⟨t, h⟩)) : awpX X (.region i l.toArray true) ⟨t, h⟩ Q := by
  cases hr : runOps X l.toArray lo ⟨t, h⟩ with
  | none => rw [hr] at hrun; exact hrun.elim
  | some r =>
    obtain ⟨ex, s'⟩ := r
    rw [hr] at hrun
    cases ex with
    | normal =>
      have hrun : fin false (panE Q h) (runOps X l.toArray [o] s') := hrun
      cases hr2 : runOps X l.toArray [o] s' with
      | none => rw [hr2] at hrun; exact hrun.elim
      | some r2 =>
        obtain ⟨ex2, s2⟩ := r2
        rw [hr2] at hrun
        cases ex2 with
        | pan x =>
          obtain ⟨_, hq⟩ := hrun
          cases x with
          | ifc t xs ag =>
            refine .inr ⟨p, is, s', t, xs, ag, hsz, hlex, runX_of rfl is lo _ _ hl hr, ?_, hlow, hq⟩
            simp only [runOps, Option.bind_eq_some_iff] at hr2
            obtain ⟨w, hw, hr2⟩ := hr2
            cases w with
            | false => simp at hr2
            | true =>
              simp only [if_true, Option.bind_eq_some_iff] at hr2
              obtain ⟨⟨ex3, s3⟩, hs, hr2⟩ := hr2
              refine ⟨o, by simpa using ho, hw, ?_⟩
              have hx : ex3 = .pan (.ifc t xs ag) := by
                cases ex3 <;> simp at hr2
                exact congrArg Ex.pan hr2.1
              subst hx
              unfold stepA at hs
              cases hop : opA X s' o with
              | none => simp [hop] at hs
              | some out =>
                rw [hop] at hs
                cases out <;> simp at hs
                obtain ⟨h1, _⟩ := hs
                subst h1
                exact hop.symm.trans (lvl0_pan (fun f => ev_func s' f) hl0 hop s'.h)
          | _ => exact hq.elim
        | normal => exact (show False from hrun).elim
        | _ => exact (hrun.2).elim
    | _ => exact (hrun.2).elim
open Classical in
noncomputable def kR {α : Type} (R : α → List AV → Hp → Prop) (g : α → Option COut) (args : List AV) (h : Hp) : Option COut :=
  if hx : ∃ a, R a args h then g (Classical.choose hx) else none
theorem kR_inv {α : Type} {R : α → List AV → Hp → Prop} {g : α → Option COut} {args : List AV} {h : Hp} {out : COut} (hm : kR R g args h = some out) : ∃ a, R a args h ∧ g a = some out := by
  unfold kR at hm
  split at hm
  · rename_i hx
    exact ⟨_, Classical.choose_spec hx, hm⟩
  cases hm
theorem kR_eq {α : Type} {R : α → List AV → Hp → Prop} {g : α → Option COut} {args : List AV} {h : Hp} {a : α} (hu : ∀ b, R b args h → g b = g a) (hr : R a args h) : kR R g args h = g a := by
  unfold kR
  rw [dif_pos ⟨a, hr⟩]
  exact hu _ (Classical.choose_spec (p := fun b => R b args h) ⟨a, hr⟩)
end Go.Ab
