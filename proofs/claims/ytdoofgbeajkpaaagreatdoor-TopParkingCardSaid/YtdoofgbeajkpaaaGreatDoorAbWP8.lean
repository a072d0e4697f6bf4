/-
  Texts of the layer and of the laws, put together: Ab12, Ab13.
-/
import Derived.Test.YtdoofgbeajkpaaaGreatDoorAbWP7
set_option linter.unusedSimpArgs false
set_option linter.unusedVariables false
set_option maxRecDepth 100000
namespace Go.Ab
open Go.RowKit
abbrev PA := DV
def DV.av (p : DV) : AV := .v p.V
abbrev AV.pa (x : AV) : Option DV := x.dv
def allPA : List AV → Option (List PA)
  | [] => some []
  | x :: r => (x.pa).bind fun p => (allPA r).map fun ps => p :: ps
def resV : List PA → AV
  | [x] => x.av
  | l => .tup (l.map DV.V)
def RRel (w : World) (F : Fz) (v : Value) : List PA → Prop
  | [x] => x.rel w F v
  | l => ∃ vs : List Value, v = .tuple vs.toArray ∧ vs.length = l.length ∧ ∀ (j : Nat) (x : PA), l[j]? = some x → ∃ u, vs[j]? = some u ∧ x.rel w F u
def newF (w : World) (F : Fz) (w' : World) : Fz := fun b o => F b o ∨ (w.heap.size ≤ b ∧ b < w'.heap.size)
def GOk (G : Gl) (w : World) (F : Fz) : Prop := (∀ (g : Nat) (xs : List D), G.f g = some xs → DPtr w F (.pointer (some ⟨g, 0, none⟩)) xs) ∧ G.inv w
def PureC (P : Program) (G : Gl) (f : FuncId) (m : List PA → Option (List PA)) : Prop :=
  (∀ (vs : Array Value) (w : World), (callFunc f vs).run P w = .ok (.enter f vs) w) ∧
  ∀ (w : World) (F : Fz) (vs : Array Value) (args r : List PA), (∀ b o, F b o → b < w.heap.size) → GOk G w F → vs.size = args.length →
    (∀ (j : Nat) (x : PA), args[j]? = some x → x.rel w F (vs.getD j undef)) → m args = some r →
    Calls P f vs w fun e w' => ∃ v, e = .returned v ∧ RRel w' (newF w F w') v r ∧ Below w.heap.size w w' ∧ (G.dr = true → w.drawn ≤ w'.drawn)
def pureM (m : List PA → Option (List PA)) (args : List AV) : Option AV := (allPA args).bind fun ps => (m ps).map resV
theorem pa_rel {E : Env} {h : Hp} {x : AV} {p : PA} {v : Value} (hr : x.rel E h v) (hp : x.pa = some p) : p.rel E.w E.F v := dv_rel hr hp
theorem allPA_rel : ∀ (args : List AV) (ps : List PA), allPA args = some ps → args.length = ps.length ∧ ∀ (j : Nat) (p : PA), ps[j]? = some p → ∃ x, args[j]? = some x ∧ x.pa = some p
  | [], ps, h => by simp [allPA] at h; subst h; exact ⟨rfl, fun j p hj => by simp at hj⟩
  | x :: r, ps, h => by
    simp only [allPA, Option.bind_eq_some_iff, Option.map_eq_some_iff] at h
    obtain ⟨p, hp, ps', hr, rfl⟩ := h
    obtain ⟨h1, h2⟩ := allPA_rel r ps' hr
    refine ⟨by simp [h1], fun j q hj => ?_⟩
    cases j with
    | zero => simp at hj; subst hj; exact ⟨x, rfl, hp⟩
    | succ j => simpa using h2 j q (by simpa using hj)
theorem DV.rel_V {E : Env} {h : Hp} {p : PA} {v : Value} (hr : p.rel E.w E.F v) : p.V.rel E h v := dV_rel hr
theorem DV.rel_av {E : Env} {h : Hp} {p : PA} {v : Value} (hr : p.rel E.w E.F v) : p.av.rel E h v := dV_rel (h := h) hr
theorem resV_rel {E : Env} {h : Hp} {r : List PA} {v : Value} (hr : RRel E.w E.F v r) : (resV r).rel E h v := by
  unfold RRel at hr
  unfold resV
  split at hr
  · exact DV.rel_av hr
  obtain ⟨vs, rfl, hl, hx⟩ := hr
  refine ⟨vs, rfl, by simp [hl], fun j x hj => ?_⟩
  rw [List.getElem?_map] at hj
  cases hq : r[j]? with
  | none => simp [hq] at hj
  | some p =>
    simp [hq] at hj
    subst hj
    obtain ⟨u, hu, hru⟩ := hx j p hq
    exact ⟨u, hu, DV.rel_V hru⟩
theorem fok_of_pure {P : Program} {G : Gl} {f : FuncId} {m : List PA → Option (List PA)} (hp : PureC P G f m) {args : List AV} {v : AV} {h : Hp} (hv : pureM m args = some v) : FOk P G f args h (.ret v h) := by
  intro A E vs hG hE hs hrel o a K Q hd
  simp only [pureM, Option.bind_eq_some_iff, Option.map_eq_some_iff] at hv
  obtain ⟨ps, hps, r, hr, rfl⟩ := hv
  obtain ⟨hl, hg⟩ := allPA_rel args ps hps
  rw [hp.1 vs E.w, Oper.upon_enter]
  refine (hp.2 E.w E.F vs ps r hE.lt ⟨fun g xs hx => hE.glob g xs (by rw [hG]; exact hx), hG ▸ A.G.stable _ _ hE.below hE.ginv⟩ (by omega) (fun j p hj => ?_) hr).mono ?_
  · obtain ⟨x, hx, hxp⟩ := hg j p hj
    exact pa_rel (hrel j x hx) hxp
  rintro e w' ⟨u, rfl, hru, hb, hdr⟩
  have st := Stp.fz hE w' hb.os hb.tape hb.output hb.size hb.block (fun hD => hdr (hG ▸ hD))
  exact hd u (E.newFz w') (st.evo hE) (st.fz_ok hE) (resV_rel (E := E.newFz w') hru)
def argSlots : Nat → List PA → List (Nat × AV)
  | _, [] => []
  | k, x :: r => (k, x.av) :: argSlots (k + 1) r
theorem look_args : ∀ (args : List PA) (k t : Nat), look (argSlots k args) t = if k ≤ t then ((args[t - k]?).map DV.av).getD .top else .top
  | [], k, t => by simp [argSlots, look]
  | x :: r, k, t => by
    simp only [argSlots, look, look_args r]
    by_cases h : k = t
    · subst h; simp
    rw [if_neg h]
    by_cases h2 : k ≤ t
    · rw [if_pos h2, if_pos (by omega)]
      have : t - k = (t - (k + 1)) + 1 := by omega
      rw [this, List.getElem?_cons_succ]
    rw [if_neg h2, if_neg (by omega)]
def resOne (X : Ctx) (s : S) : ResultVar → Option PA
  | .tmp t => (s.get t).pa
  | .cell a t => (X.loadA s.h t (s.get a)).bind AV.pa
def resAll (X : Ctx) (s : S) : List ResultVar → Option (List PA)
  | [] => some []
  | x :: r => (resOne X s x).bind fun p => (resAll X s r).map fun ps => p :: ps
def Rets (X : Ctx) (rs : List ResultVar) (r : List PA) : Ex → S → Prop
  | .ret, s => resAll X s rs = some r
  | .normal, s => resAll X s rs = some r
  | _, _ => False
theorem load_rel {X : Ctx} {A : Actn} {E : Env} {s : S} {a : Act} {w : World} (hrel : Rel A E s a w) {t : TypeId} {p : AV} {up : Value} {v : AV} (hp : p.rel E s.h up) (hl : X.loadA s.h t p = some v) :
    ∃ b o u, up = .pointer (some ⟨b, o, none⟩) ∧ (loadVar t ⟨b, o, none⟩).run X.P E.w = .ok u E.w ∧ v.rel E s.h u := by
  unfold Ctx.loadA at hl
  split at hl
  · rename_i id off
    split at hl
    · rename_i cs hid
      simp only [Option.map_eq_some_iff] at hl
      obtain ⟨y, hy, rfl⟩ := hl
      obtain ⟨b, ⟨_, hρ⟩, rfl⟩ := hp
      obtain ⟨b', vs, T, hρ', hb, hc, _⟩ := hrel.env.ob id _ hid
      rw [hρ] at hρ'
      cases hρ'
      obtain ⟨u, hu, hr⟩ := load_sim (X := X) (off := off) (cells_of_row hb hc) hy
      rw [Nat.zero_add] at hu
      exact ⟨b, off, u, rfl, hu, hr⟩
    cases hl
  · simp only [Option.map_eq_some_iff] at hl
    obtain ⟨y, hy, rfl⟩ := hl
    obtain ⟨b, o, rfl, hc⟩ := cells_of_dptr (h := s.h) hp
    obtain ⟨u, hu, hr⟩ := load_sim (X := X) (off := 0) hc hy
    exact ⟨b, o, u, rfl, hu, hr⟩
  · simp only [Option.map_eq_some_iff] at hl
    obtain ⟨y, hy, rfl⟩ := hl
    obtain ⟨b, o, rfl, hc⟩ := hp
    obtain ⟨u, hu, hr⟩ := load_sim (X := X) (off := 0) (cells_of_ppt hc) hy
    exact ⟨b, o, u, rfl, hu, hr⟩
  · rename_i id n off
    split at hl
    · rename_i m z ds hid
      split at hl
      · rename_i hnm
        simp only [Option.map_eq_some_iff] at hl
        obtain ⟨y, hy, rfl⟩ := hl
        obtain ⟨b, rfl, m', z', c', hid', _, hρ⟩ := hp
        rw [hid] at hid'
        cases hid'
        have hρ := hρ hnm
        obtain ⟨_, h0 | ⟨b', vs, T, hρ', hb, _, hc, _⟩⟩ := hrel.env.ob id _ hid
        · rw [hρ] at h0; cases h0.1
        rw [hρ] at hρ'
        cases hρ'
        have hca : CellsAt E s.h b 0 ds := fun j x hj => by
          obtain ⟨u, hu, hr⟩ := hc.2 j x hj
          refine ⟨u, ?_, hr⟩
          have hjl := lt_of_get hu
          simp only [List.length_take] at hjl
          rw [List.getElem?_take, if_pos (by omega)] at hu
          simp only [World.cell?, hb, Nat.zero_add, Option.isSome_none, Bool.false_eq_true, if_false]
          simpa using hu
        obtain ⟨u, hu, hr⟩ := load_sim (X := X) (off := off) hca hy
        rw [Nat.zero_add] at hu
        exact ⟨b, off, u, rfl, hu, hr⟩
      cases hl
    cases hl
  cases hl
def resSem (tmps : Array Value) : ResultVar → Sem Value
  | .tmp t => pure (tmps.getD t undef)
  | .cell p t => do loadVar t (← asAddr (tmps.getD p undef))
theorem results_eq (fn : Func) (tmps : Array Value) : results fn tmps = (do let vs ← fn.results.mapM (resSem tmps); pure (if h : vs.size = 1 then vs[0] else .tuple vs)) := by
  unfold results
  congr
theorem results_run {X : Ctx} {A : Actn} {E : Env} {s : S} {a : Act} (hrel : Rel A E s a E.w) : ∀ (rs : List ResultVar) (r : List PA), resAll X s rs = some r →
    ∃ vs : List Value, (rs.mapM (resSem a.tmps)).run X.P E.w = .ok vs E.w ∧ vs.length = r.length ∧ ∀ (j : Nat) (x : PA), r[j]? = some x → ∃ u, vs[j]? = some u ∧ x.rel E.w E.F u
  | [], r, h => by simp [resAll] at h; subst h; exact ⟨[], by simp, rfl, fun j x hj => by simp at hj⟩
  | x :: rs, r, h => by
    simp only [resAll, Option.bind_eq_some_iff, Option.map_eq_some_iff] at h
    obtain ⟨p, hp, ps, hps, rfl⟩ := h
    obtain ⟨vs, hvs, hl, hx⟩ := results_run hrel rs ps hps
    have one : ∃ u, (resSem a.tmps x).run X.P E.w = .ok u E.w ∧ p.rel E.w E.F u := by
      cases x with
      | tmp t => exact ⟨_, rfl, pa_rel (hrel.tmps t) hp⟩
      | cell q t =>
        simp only [resOne, Option.bind_eq_some_iff] at hp
        obtain ⟨v, hv, hvp⟩ := hp
        obtain ⟨b, o, u, hu1, hu2, hr⟩ := load_rel hrel (hrel.tmps q) hv
        exact ⟨u, by simp only [resSem, hu1, asAddr, Sem.run_bind, Sem.run_pure, Result.andThen_ok, hu2], pa_rel hr hvp⟩
    obtain ⟨u, hu, hr⟩ := one
    refine ⟨u :: vs, ?_, by simp [hl], fun j q hj => ?_⟩
    · rw [List.mapM_cons]
      simp only [Sem.run_bind, hu, Result.andThen_ok, hvs, Sem.run_pure]
    cases j with
    | zero => simp at hj; subst hj; exact ⟨u, rfl, hr⟩
    | succ j => simpa using hx j q (by simpa using hj)
theorem pure_of_awp {X : Ctx} {f : FuncId} {fn : Func} {c : Code} {m : List PA → Option (List PA)} (hf : X.P.funcs[f]? = some fn) (hb : fn.body = some c) (hname : (fn.name == "runtime.NumGoroutine") = false)
    (hok : okCode X fn.ntmps c = true) (hmix : X.P.follows .mixedOrders = true) (hK : KOk X)
    (hbody : ∀ args r, m args = some r → args.length ≤ fn.ntmps ∧ awp X c ⟨argSlots 0 args, []⟩ (Rets X fn.results.toList r)) : PureC X.P X.G f m := by
  have hne : ¬ fn.name = "runtime.NumGoroutine" := by simpa using hname
  refine ⟨fun vs w => by simp [callFunc, hf, hne, hb], fun w F vs args r hlt hG hvs hrel hm => ?_⟩
  obtain ⟨hal, ha⟩ := hbody args r hm
  let A : Actn := ⟨w, F, X.G, []⟩
  let E : Env := ⟨fun _ => none, F, w⟩
  let a : Act := { tmps := vs ++ Array.replicate (fn.ntmps - vs.size) undef, defers := [] }
  have hE : EnvOk A E [] := ⟨Below.refl _ _, hlt, fun b o _ h => h, fun b o h => h, fun i j b hi => by simp at hi, fun i b hi => by simp at hi, fun i o ho => by simp at ho, hG.1, hG.2, fun _ => Nat.le_refl _⟩
  have hr : Rel A E ⟨argSlots 0 args, []⟩ a w := by
    refine ⟨hE, rfl, rfl, fun t => ?_⟩
    show (look (argSlots 0 args) t).rel E [] _
    rw [look_args, if_pos (Nat.zero_le _), Nat.sub_zero]
    cases hx : args[t]? with
    | none => trivial
    | some x =>
      have htl := lt_of_get hx
      have hv := hrel t x hx
      have : a.tmps.getD t undef = vs.getD t undef := by
        simp only [a, Array.getD_eq_getD_getElem?]
        rw [Array.getElem?_append_left (by omega)]
      rw [this]
      exact DV.rel_av (E := E) hv
  have hsz : a.tmps.size = fn.ntmps := by simp [a]; omega
  refine calls_of_wp hf hb (wp_mono (awp_sim hK hmix c ⟨argSlots 0 args, []⟩ _ a E hok ha ⟨rfl, hr⟩ hsz) fun e a' w' ⟨ex, s', E', ev, hrel', _, he, hq⟩ => ?_)
  have hw := hrel'.world
  subst hw
  have fin : resAll X s' fn.results.toList = some r → a'.defers = [] ∧ ∃ v, (results fn a'.tmps).run X.P E'.w = .ok v E'.w ∧ ∃ u, Ending.returned v = .returned u ∧ RRel E'.w (newF w F E'.w) u r ∧ Below w.heap.size w E'.w ∧ (X.G.dr = true → w.drawn ≤ E'.w.drawn) := by
    intro hres
    obtain ⟨vs', hv, hl, hx⟩ := results_run hrel' _ _ hres
    have hold : ∀ b o, E'.F b o → newF w F E'.w b o := fun b o hfr => by
      by_cases hbw : b < w.heap.size
      · exact .inl (hrel'.env.old b o hbw hfr)
      exact .inr ⟨by omega, hrel'.env.lt b o hfr⟩
    have hx' : ∀ (j : Nat) (x : PA), r[j]? = some x → ∃ u, vs'[j]? = some u ∧ x.rel E'.w (newF w F E'.w) u := fun j x hj => by
      obtain ⟨u, hu, hru⟩ := hx j x hj
      refine ⟨u, hu, ?_⟩
      cases x with
      | c d => exact Rd.mono hru hold (fun _ _ _ => rfl)
      | agg xs =>
        obtain ⟨us, rfl, h1, h2⟩ := hru
        exact ⟨us, rfl, h1, fun j x hj => let ⟨y, hy, hry⟩ := h2 j x hj; ⟨y, hy, hry.mono hold (fun _ _ _ => rfl)⟩⟩
    have hrun : (results fn a'.tmps).run X.P E'.w = .ok (match vs' with | [v] => v | l => .tuple l.toArray) E'.w := by
      have hm' : (fn.results.mapM (resSem a'.tmps)).run X.P E'.w = .ok vs'.toArray E'.w := by
        rw [Array.mapM_eq_mapM_toList]
        simp only [Sem.run_map, hv, Result.andThen_ok]
      rw [results_eq]
      simp only [Sem.run_bind, hm', Result.andThen_ok]
      cases vs' with
      | nil => simp
      | cons v l =>
        cases l with
        | nil => simp
        | cons v2 l => simp
    refine ⟨hrel'.defers, _, hrun, _, rfl, ?_, hrel'.env.below, hrel'.env.drw⟩
    unfold RRel
    split
    · obtain ⟨u, hu, hru⟩ := hx' 0 _ rfl
      cases vs' with
      | nil => cases hu
      | cons v l =>
        have : l = [] := List.eq_nil_of_length_eq_zero (by simpa using hl)
        subst this
        cases hu
        exact hru
    rename_i hne
    refine ⟨vs', ?_, hl, hx'⟩
    cases vs' with
    | nil => rfl
    | cons v l =>
      cases l with
      | nil =>
        cases r with
        | nil => simp at hl
        | cons x r =>
          have : r = [] := List.eq_nil_of_length_eq_zero (by simpa using hl.symm)
          subst this
          exact absurd rfl (hne x)
      | cons v2 l => rfl
  cases ex <;> simp only [Rets] at hq
  · have := exrel_normal he
    subst this
    exact fin hq
  cases e <;> first | exact he.elim | exact fin hq
end Go.Ab
namespace Go.Ab
open Go.RowKit
abbrev Tab := List (FuncId × (List PA → Option (List PA)))
def tabM : Tab → FuncId → Option (List AV → Option AV)
  | [], _ => none
  | (k, m) :: r, f => if k = f then some (pureM m) else tabM r f
def ctx (P : Program) (G : Gl) (tab : Tab) : Ctx := ⟨P, G, tabM tab, fun _ _ _ => none, fun _ => none, none, fun _ => false, fun _ => false⟩
theorem ctx_P {P : Program} {G : Gl} {tab : Tab} : (ctx P G tab).P = P := rfl
theorem ctx_E {P : Program} {G : Gl} {tab : Tab} {i : Nat} : (ctx P G tab).E i = false := rfl
theorem ctx_U {P : Program} {G : Gl} {tab : Tab} {e : TypeId} : (ctx P G tab).U e = false := rfl
theorem ctx_B {P : Program} {G : Gl} {tab : Tab} : (ctx P G tab).B = none := rfl
theorem ctx_M {P : Program} {G : Gl} {tab : Tab} {f : FuncId} : (ctx P G tab).M f = tabM tab f := rfl
inductive AllOk (P : Program) (G : Gl) : Tab → Prop where
  | nil : AllOk P G []
  | cons {f : FuncId} {m : List PA → Option (List PA)} {r : Tab} (h : PureC P G f m) (hr : AllOk P G r) : AllOk P G ((f, m) :: r)
theorem AllOk.get {P : Program} {G : Gl} {tab : Tab} (h : AllOk P G tab) {f : FuncId} {g : List AV → Option AV} (hg : tabM tab f = some g) : ∃ m, g = pureM m ∧ PureC P G f m := by
  induction h with
  | nil => cases hg
  | cons h hr ih =>
    simp only [tabM] at hg
    split at hg
    · rename_i he
      subst he
      cases hg
      exact ⟨_, rfl, h⟩
    exact ih hg
theorem AllOk.kok {P : Program} {G : Gl} {tab : Tab} (h : AllOk P G tab) : KOk (ctx P G tab) := by
  intro f args hp out ho
  simp only [hdl, ctx_M] at ho
  cases hm : tabM tab f with
  | none => simp [hm, ctx] at ho
  | some g =>
    simp only [hm, Option.map_eq_some_iff] at ho
    obtain ⟨v, hv, rfl⟩ := ho
    obtain ⟨m, rfl, hp⟩ := h.get hm
    exact fok_of_pure hp hv
def goOp (X : Ctx) (ops : Array Oper) (dst : Option Nat) (r : List Oper) (t : List (Nat × AV)) : Option OpR → Option (Ex × S)
  | none => none
  | some (.val v h) => runOps X ops r ((⟨t, h⟩ : S).putO dst v)
  | some (.skip h) => runOps X ops r ((⟨t, h⟩ : S).putO dst .top)
  | some (.pan x h) => some (.pan x, ⟨t, h⟩)
def goOn (X : Ctx) (ops : Array Oper) (o : Oper) (r : List Oper) (t : List (Nat × AV)) (h : Hp) : Option Bool → Option (Ex × S)
  | none => none
  | some true => goOp X ops o.dst r t (opR X (X.ev ⟨t, h⟩) h o)
  | some false => runOps X ops r ((⟨t, h⟩ : S).putO o.dst (.tup []))
theorem runOps_cons (X : Ctx) (ops : Array Oper) (o : Oper) (r : List Oper) (t : List (Nat × AV)) (h : Hp) :
    runOps X ops (o :: r) ⟨t, h⟩ = goOn X ops o r t h (wantA ops o ⟨t, h⟩) := by
  simp only [runOps]
  cases wantA ops o ⟨t, h⟩ with
  | none => rfl
  | some b =>
    cases b with
    | false => rfl
    | true =>
      simp only [Option.bind_some, if_true, goOn, stepA, opA]
      cases opR X (X.ev ⟨t, h⟩) h o with
      | none => rfl
      | some u => cases u <;> rfl
theorem runOps_nil (X : Ctx) (ops : Array Oper) (t : List (Nat × AV)) (h : Hp) : runOps X ops [] ⟨t, h⟩ = some (.normal, ⟨t, h⟩) := rfl
@[congr] theorem goOn_congr {X : Ctx} {ops : Array Oper} {o : Oper} {r : List Oper} {t : List (Nat × AV)} {h : Hp} {a b : Option Bool} (e : a = b) : goOn X ops o r t h a = goOn X ops o r t h b := by rw [e]
@[congr] theorem goOp_congr {X : Ctx} {ops : Array Oper} {d : Option Nat} {r : List Oper} {t : List (Nat × AV)} {a b : Option OpR} (e : a = b) : goOp X ops d r t a = goOp X ops d r t b := by rw [e]
@[congr] theorem runOps_congr {X : Ctx} {ops : Array Oper} {l : List Oper} {s s' : S} (e : s = s') : runOps X ops l s = runOps X ops l s' := by rw [e]
theorem goOp_some {X : Ctx} {ops : Array Oper} {d : Nat} {r : List Oper} {t : List (Nat × AV)} {v : AV} {h : Hp} : goOp X ops (some d) r t (some (.val v h)) = runOps X ops r ⟨(d, v) :: t, h⟩ := rfl
theorem goOp_none {X : Ctx} {ops : Array Oper} {r : List Oper} {t : List (Nat × AV)} {v : AV} {h : Hp} : goOp X ops none r t (some (.val v h)) = runOps X ops r ⟨t, h⟩ := rfl
theorem goOp_skip {X : Ctx} {ops : Array Oper} {r : List Oper} {t : List (Nat × AV)} {h : Hp} : goOp X ops none r t (some (.skip h)) = runOps X ops r ⟨t, h⟩ := rfl
theorem putO_some {t : List (Nat × AV)} {h : Hp} {d : Nat} {v : AV} : (⟨t, h⟩ : S).putO (some d) v = ⟨(d, v) :: t, h⟩ := rfl
def fin (d : Bool) (Q : Ex → S → Prop) : Option (Ex × S) → Prop
  | none => False
  | some (.normal, s) => Q .normal s
  | some (ex, s) => d = false ∧ Q ex s
def seqQ (X : Ctx) (y : Code) (Q : Ex → S → Prop) : Ex → S → Prop
  | .normal, s => awp X y s Q
  | ex, s => Q ex s
def cnd (v : AV) (A B : Prop) : Prop := ∃ b, bIs v b ∧ (b ≠ some false → A) ∧ (b ≠ some true → B)
@[congr] theorem awp_congr {X : Ctx} {c : Code} {s : S} {Q : Ex → S → Prop} : awp X c s Q = awp X c s Q := rfl
@[congr] theorem seqQ_congr {X : Ctx} {c : Code} {e : Ex} {s : S} {Q : Ex → S → Prop} : seqQ X c Q e s = seqQ X c Q e s := rfl
@[congr] theorem blk_congr {n i : Nat} {e : Ex} {s : S} {Q : Ex → S → Prop} : blk n i Q e s = blk n i Q e s := rfl
@[congr] theorem fin_congr {d : Bool} {Q : Ex → S → Prop} {a b : Option (Ex × S)} (e : a = b) : fin d Q a = fin d Q b := by rw [e]
@[congr] theorem cnd_congr {v v' : AV} {A B : Prop} (e : v = v') : cnd v A B = cnd v' A B := by rw [e]
theorem anyA_mono {X : Ctx} {md : Region.Mode} {ops : Array Oper} {Q Q' : S → Prop} (hQ : ∀ s, Q s → Q' s) : ∀ (n : Nat) (listed : Array Bool) (s : S), anyA X md ops Q n listed s → anyA X md ops Q' n listed s
  | 0, _, _, ⟨h1, h2⟩ => ⟨h1, hQ _ h2⟩
  | n + 1, _, _, ⟨h1, h2⟩ => ⟨fun h => hQ _ (h1 h), fun i hi => opAt_mono (fun s hs => anyA_mono hQ n _ s hs) (h2 i hi)⟩
theorem awp_region {X : Ctx} {i : Nat} {ops : Array Oper} {d : Bool} {s : S} {Q : Ex → S → Prop} (hE : (d && X.E i) = false) : awp X (.region i ops d) s Q = fin d Q (runOps X ops ops.toList s) := by
  apply propext
  simp only [awp, hE, Bool.false_eq_true, if_false]
  constructor
  · rintro ⟨ex, s', h, hd, hq⟩
    rw [h]
    cases ex with
    | normal => exact hq
    | _ => cases d <;> first | exact ⟨rfl, hq⟩ | exact absurd (hd rfl) (by simp)
  intro h
  cases hr : runOps X ops ops.toList s with
  | none => rw [hr] at h; exact h.elim
  | some p =>
    obtain ⟨ex, s'⟩ := p
    rw [hr] at h
    refine ⟨ex, s', rfl, ?_, ?_⟩
    · intro hd
      subst hd
      cases ex with
      | normal => rfl
      | _ => exact absurd h.1 (by simp)
    cases ex with
    | normal => exact h
    | _ => exact h.2
theorem awp_region' {X : Ctx} {i : Nat} {l : List Oper} {d : Bool} {t : List (Nat × AV)} {h : Hp} {Q : Ex → S → Prop} (hE : (d && X.E i) = false) : awp X (.region i l.toArray d) ⟨t, h⟩ Q = fin d Q (runOps X l.toArray l ⟨t, h⟩) := awp_region hE
theorem awp_seq {X : Ctx} {x y : Code} {t : List (Nat × AV)} {h : Hp} {Q : Ex → S → Prop} : awp X (.seq x y) ⟨t, h⟩ Q = awp X x ⟨t, h⟩ (seqQ X y Q) := by
  simp only [awp]
  congr 1
  funext ex s'
  cases ex <;> rfl
theorem awp_skip {X : Ctx} {s : S} {Q : Ex → S → Prop} : awp X .skip s Q = Q .normal s := rfl
theorem awp_exit {X : Ctx} {i : Nat} {s : S} {Q : Ex → S → Prop} : awp X (.exit i) s Q = Q (.exit i) s := rfl
theorem awp_ret {X : Ctx} {s : S} {Q : Ex → S → Prop} : awp X .ret s Q = Q .ret s := rfl
theorem awp_block {X : Ctx} {i : Nat} {c : Code} {t : List (Nat × AV)} {h : Hp} {Q : Ex → S → Prop} : awp X (.block i c) ⟨t, h⟩ Q = awp X c ⟨t, h⟩ (blk h.length i Q) := rfl
theorem awp_cond {X : Ctx} {c : Operand} {x y : Code} {t : List (Nat × AV)} {h : Hp} {Q : Ex → S → Prop} : awp X (.cond c x y) ⟨t, h⟩ Q = cnd (X.ev ⟨t, h⟩ c) (awp X x ⟨t, h⟩ Q) (awp X y ⟨t, h⟩ Q) := rfl
theorem fin_normal {d : Bool} {Q : Ex → S → Prop} {s : S} : fin d Q (some (.normal, s)) = Q .normal s := rfl
theorem seqQ_normal {X : Ctx} {y : Code} {Q : Ex → S → Prop} {s : S} : seqQ X y Q .normal s = awp X y s Q := rfl
theorem seqQ_ret {X : Ctx} {y : Code} {Q : Ex → S → Prop} {s : S} : seqQ X y Q .ret s = Q .ret s := rfl
theorem seqQ_exit {X : Ctx} {y : Code} {Q : Ex → S → Prop} {i : Nat} {s : S} : seqQ X y Q (.exit i) s = Q (.exit i) s := rfl
theorem blk_normal {n i : Nat} {Q : Ex → S → Prop} {s : S} : blk n i Q .normal s = Q .normal s := rfl
theorem blk_ret {n i : Nat} {Q : Ex → S → Prop} {s : S} : blk n i Q .ret s = Q .ret s := rfl
theorem Wk.refl {n : Nat} {s : S} : Wk n s s := fun _ E _ _ hn h => ⟨E, Evo.refl hn, h⟩
theorem blk_exit_id {n i : Nat} {Q : Ex → S → Prop} {s : S} (h : Q .normal s) : blk n i Q (.exit i) s := by
  simp only [blk, if_true]
  exact ⟨s, Wk.refl, h⟩
theorem blk_exit_wk {n i : Nat} {Q : Ex → S → Prop} {s s' : S} (hw : Wk n s s') (h : Q .normal s') : blk n i Q (.exit i) s := by
  simp only [blk, if_true]
  exact ⟨s', hw, h⟩
theorem blk_exit_ne {n i j : Nat} (hn : (j = i) = False) {Q : Ex → S → Prop} {s : S} : blk n i Q (.exit j) s = Q (.exit j) s := by simp [blk, hn]
theorem cnd_b {b : Bool} {A B : Prop} : cnd (.b b) A B = ((b = true → A) ∧ (b = false → B)) := by
  apply propext
  constructor
  · rintro ⟨b', h, h1, h2⟩
    cases b' with
    | none => cases h
    | some b' =>
      have h : AV.b b = AV.b b' := h
      cases h
      exact ⟨fun h => h1 (by rw [h]; simp), fun h => h2 (by rw [h]; simp)⟩
  rintro ⟨h1, h2⟩
  refine ⟨some b, rfl, fun h => h1 ?_, fun h => h2 ?_⟩
  · cases b
    · exact absurd rfl h
    rfl
  cases b
  · rfl
  exact absurd rfl h
theorem cnd_ub {A B : Prop} : cnd (.v (.c .ub)) A B = (A ∧ B) := by
  apply propext
  constructor
  · rintro ⟨b', h, h1, h2⟩
    cases b' with
    | none => exact ⟨h1 (by simp), h2 (by simp)⟩
    | some b' => cases h
  rintro ⟨h1, h2⟩
  exact ⟨none, rfl, fun _ => h1, fun _ => h2⟩
theorem cnd_true {A B : Prop} : cnd (.v (.c (.d (.bool true)))) A B = A := by rw [cnd_b]; simp
theorem cnd_false {A B : Prop} : cnd (.v (.c (.d (.bool false)))) A B = B := by rw [cnd_b]; simp
theorem cnd_dec {p : Prop} [Decidable p] {A B : Prop} : cnd (.v (.c (.d (.bool (decide p))))) A B = ((p → A) ∧ (¬ p → B)) := by rw [cnd_b]; simp
theorem cnd_bool {b : Bool} {A B : Prop} : cnd (.v (.c (.d (.bool b)))) A B = ((b = true → A) ∧ (b = false → B)) := cnd_b
def twoQ (X : Ctx) (ops : Array Oper) (la lb : List Nat) (Q : Ex → S → Prop) : Ex → S → Prop
  | .normal, s => fin true Q (runOps X ops (opsOf ops la) s) ∧ fin true Q (runOps X ops (opsOf ops lb) s)
  | _, _ => False
@[congr] theorem twoQ_congr {X : Ctx} {ops : Array Oper} {la lb : List Nat} {Q : Ex → S → Prop} {e : Ex} {s : S} : twoQ X ops la lb Q e s = twoQ X ops la lb Q e s := rfl
theorem awp_mono {X : Ctx} : ∀ (c : Code) (s : S) (Q Q' : Ex → S → Prop), (∀ ex s, Q ex s → Q' ex s) → awp X c s Q → awp X c s Q'
  | .skip, s, Q, Q', h, ha => h _ _ ha
  | .exit _, s, Q, Q', h, ha => h _ _ ha
  | .ret, s, Q, Q', h, ha => h _ _ ha
  | .region i ops d, s, Q, Q', h, ha => by
    simp only [awp] at ha ⊢
    split
    · rename_i hc
      rw [if_pos hc] at ha
      exact anyA_mono (fun s1 ⟨s2, h1, h2⟩ => ⟨s2, h1, h _ _ h2⟩) _ _ _ ha
    · rename_i hc
      rw [if_neg hc] at ha
      obtain ⟨ex, s', h1, h2, h3⟩ := ha
      exact ⟨ex, s', h1, h2, h _ _ h3⟩
  | .seq x y, s, Q, Q', h, ha => awp_mono x s _ _ (fun ex s' hq => by cases ex <;> first | exact awp_mono y s' _ _ h hq | exact h _ _ hq) ha
  | .cond _ x y, s, Q, Q', h, ⟨b, h1, h2, h3⟩ => ⟨b, h1, fun hb => awp_mono x s _ _ h (h2 hb), fun hb => awp_mono y s _ _ h (h3 hb)⟩
  | .block i c, s, Q, Q', h, ha => awp_mono c s _ _ (fun ex s' hq => by
      cases ex with
      | exit j =>
        simp only [blk] at hq ⊢
        split at hq
        · rename_i hj
          rw [if_pos hj]
          obtain ⟨s2, h1, h2⟩ := hq
          exact ⟨s2, h1, h _ _ h2⟩
        · rename_i hj
          rw [if_neg hj]
          exact h _ _ hq
      | _ => exact h _ _ hq) ha
  | .loop c, s, Q, Q', h, ⟨σ, I, sta, μ, h1, h2⟩ => ⟨σ, I, sta, μ, h1, fun x hx => awp_mono c _ _ _ (fun ex s' hq => by
      cases ex with
      | normal => exact hq
      | _ => exact h _ _ hq) (h2 x hx)⟩
  | .rangeFunc _ _ _ _, _, _, _, _, ha => ha.elim
  | .scope _, _, _, _, _, ha => ha.elim
  | .label _, _, _, _, _, ha => ha.elim
  | .goto _, _, _, _, _, ha => ha.elim
  | .refuse _, _, _, _, _, ha => ha.elim
end Go.Ab
