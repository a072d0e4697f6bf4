/-
  Functions that are plain functions of their arguments: what it means, how it is used at a call, and how it is proved from the body.
-/
import Derived.Test.YteeffcglpljdpaaDoorAb11
set_option linter.unusedSimpArgs false
set_option linter.unusedVariables false
namespace Go.Ab
open Go.RowKit

/-- Arguments and results: data. -/
abbrev PA := DV

def DV.av (p : DV) : AV := .v p.V

abbrev AV.pa (x : AV) : Option DV := x.dv

def allPA : List AV → Option (List PA)
  | [] => some []
  | x :: r => (x.pa).bind fun p => (allPA r).map fun ps => p :: ps

def resV : List PA → AV
  | [x] => x.av
  | l => .tup (l.map DV.V)

def RRel (w : World) (F : Fz) (v : Value) : List PA → Prop
  | [x] => x.rel w F v
  | l => ∃ vs : List Value, v = .tuple vs.toArray ∧ vs.length = l.length ∧ ∀ (j : Nat) (x : PA), l[j]? = some x → ∃ u, vs[j]? = some u ∧ x.rel w F u

/-- What is frozen behind a call: what was, and all that is new. -/
def newF (w : World) (F : Fz) (w' : World) : Fz := fun b o => F b o ∨ (w.heap.size ≤ b ∧ b < w'.heap.size)

def GOk (G : Gl) (w : World) (F : Fz) : Prop := (∀ (g : Nat) (xs : List D), G.f g = some xs → DPtr w F (.pointer (some ⟨g, 0, none⟩)) xs) ∧ G.inv w

/-- f is the plain function m of its arguments; it writes nothing that was there. -/
def PureC (P : Program) (G : Gl) (f : FuncId) (m : List PA → Option (List PA)) : Prop :=
  (∀ (vs : Array Value) (w : World), (callFunc f vs).run P w = .ok (.enter f vs) w) ∧
  ∀ (w : World) (F : Fz) (vs : Array Value) (args r : List PA), (∀ b o, F b o → b < w.heap.size) → GOk G w F → vs.size = args.length →
    (∀ (j : Nat) (x : PA), args[j]? = some x → x.rel w F (vs.getD j undef)) → m args = some r →
    Calls P f vs w fun e w' => ∃ v, e = .returned v ∧ RRel w' (newF w F w') v r ∧ Below w.heap.size w w'

def pureM (m : List PA → Option (List PA)) (args : List AV) : Option AV := (allPA args).bind fun ps => (m ps).map resV

theorem pa_rel {E : Env} {h : Hp} {x : AV} {p : PA} {v : Value} (hr : x.rel E h v) (hp : x.pa = some p) : p.rel E.w E.F v := dv_rel hr hp

theorem allPA_rel : ∀ (args : List AV) (ps : List PA), allPA args = some ps → args.length = ps.length ∧ ∀ (j : Nat) (p : PA), ps[j]? = some p → ∃ x, args[j]? = some x ∧ x.pa = some p
  | [], ps, h => by simp [allPA] at h; subst h; exact ⟨rfl, fun j p hj => by simp at hj⟩
  | x :: r, ps, h => by
    simp only [allPA, Option.bind_eq_some_iff, Option.map_eq_some_iff] at h
    obtain ⟨p, hp, ps', hr, rfl⟩ := h
    obtain ⟨h1, h2⟩ := allPA_rel r ps' hr
    refine ⟨by simp [h1], fun j q hj => ?_⟩
    cases j with
    | zero => simp at hj; subst hj; exact ⟨x, rfl, hp⟩
    | succ j => simpa using h2 j q (by simpa using hj)

theorem DV.rel_V {E : Env} {h : Hp} {p : PA} {v : Value} (hr : p.rel E.w E.F v) : p.V.rel E h v := dV_rel hr

theorem DV.rel_av {E : Env} {h : Hp} {p : PA} {v : Value} (hr : p.rel E.w E.F v) : p.av.rel E h v := dV_rel (h := h) hr

theorem resV_rel {E : Env} {h : Hp} {r : List PA} {v : Value} (hr : RRel E.w E.F v r) : (resV r).rel E h v := by
  unfold RRel at hr
  unfold resV
  split at hr
  · exact DV.rel_av hr
  · obtain ⟨vs, rfl, hl, hx⟩ := hr
    refine ⟨vs, rfl, by simp [hl], fun j x hj => ?_⟩
    rw [List.getElem?_map] at hj
    cases hq : r[j]? with
    | none => simp [hq] at hj
    | some p =>
      simp [hq] at hj
      subst hj
      obtain ⟨u, hu, hru⟩ := hx j p hq
      exact ⟨u, hu, DV.rel_V hru⟩

/-- A plain function, used at a call. -/
theorem fok_of_pure {P : Program} {G : Gl} {f : FuncId} {m : List PA → Option (List PA)} (hp : PureC P G f m) {args : List AV} {v : AV} {h : Hp} (hv : pureM m args = some v) : FOk P G f args h (.ret v h) := by
  intro A E vs hG hE hs hrel o a K Q hd
  simp only [pureM, Option.bind_eq_some_iff, Option.map_eq_some_iff] at hv
  obtain ⟨ps, hps, r, hr, rfl⟩ := hv
  obtain ⟨hl, hg⟩ := allPA_rel args ps hps
  rw [hp.1 vs E.w, Oper.upon_enter]
  refine (hp.2 E.w E.F vs ps r hE.lt ⟨fun g xs hx => hE.glob g xs (by rw [hG]; exact hx), hG ▸ A.G.stable _ _ hE.below hE.ginv⟩ (by omega) (fun j p hj => ?_) hr).mono ?_
  · obtain ⟨x, hx, hxp⟩ := hg j p hj
    exact pa_rel (hrel j x hx) hxp
  · rintro e w' ⟨u, rfl, hru, hb⟩
    have st := Stp.fz hE w' hb.os hb.tape hb.output hb.size hb.block
    exact hd u (E.newFz w') (st.evo hE) (st.fz_ok hE) (resV_rel (E := E.newFz w') hru)

/-! ### From the body -/

def argSlots : Nat → List PA → List (Nat × AV)
  | _, [] => []
  | k, x :: r => (k, x.av) :: argSlots (k + 1) r

theorem look_args : ∀ (args : List PA) (k t : Nat), look (argSlots k args) t = if k ≤ t then ((args[t - k]?).map DV.av).getD .top else .top
  | [], k, t => by simp [argSlots, look]
  | x :: r, k, t => by
    simp only [argSlots, look, look_args r]
    by_cases h : k = t
    · subst h; simp
    · rw [if_neg h]
      by_cases h2 : k ≤ t
      · rw [if_pos h2, if_pos (by omega)]
        have : t - k = (t - (k + 1)) + 1 := by omega
        rw [this, List.getElem?_cons_succ]
      · rw [if_neg h2, if_neg (by omega)]

def resOne (X : Ctx) (s : S) : ResultVar → Option PA
  | .tmp t => (s.get t).pa
  | .cell a t => (X.loadA s.h t (s.get a)).bind AV.pa

def resAll (X : Ctx) (s : S) : List ResultVar → Option (List PA)
  | [] => some []
  | x :: r => (resOne X s x).bind fun p => (resAll X s r).map fun ps => p :: ps

/-- What the body must do: return these. -/
def Rets (X : Ctx) (rs : List ResultVar) (r : List PA) : Ex → S → Prop
  | .ret, s => resAll X s rs = some r
  | .normal, s => resAll X s rs = some r
  | _, _ => False

theorem load_rel {X : Ctx} {A : Actn} {E : Env} {s : S} {a : Act} {w : World} (hrel : Rel A E s a w) {t : TypeId} {p : AV} {up : Value} {v : AV} (hp : p.rel E s.h up) (hl : X.loadA s.h t p = some v) :
    ∃ b o u, up = .pointer (some ⟨b, o, none⟩) ∧ (loadVar t ⟨b, o, none⟩).run X.P E.w = .ok u E.w ∧ v.rel E s.h u := by
  unfold Ctx.loadA at hl
  split at hl
  · rename_i id off
    split at hl
    · rename_i cs hid
      simp only [Option.map_eq_some_iff] at hl
      obtain ⟨y, hy, rfl⟩ := hl
      obtain ⟨b, ⟨_, hρ⟩, rfl⟩ := hp
      obtain ⟨b', vs, T, hρ', hb, hc, _⟩ := hrel.env.ob id _ hid
      rw [hρ] at hρ'
      cases hρ'
      obtain ⟨u, hu, hr⟩ := load_sim (X := X) (off := off) (cells_of_row hb hc) hy
      rw [Nat.zero_add] at hu
      exact ⟨b, off, u, rfl, hu, hr⟩
    · cases hl
  · simp only [Option.map_eq_some_iff] at hl
    obtain ⟨y, hy, rfl⟩ := hl
    obtain ⟨b, o, rfl, hc⟩ := cells_of_dptr (h := s.h) hp
    obtain ⟨u, hu, hr⟩ := load_sim (X := X) (off := 0) hc hy
    exact ⟨b, o, u, rfl, hu, hr⟩
  · rename_i id n off
    split at hl
    · rename_i m z ds hid
      split at hl
      · rename_i hnm
        simp only [Option.map_eq_some_iff] at hl
        obtain ⟨y, hy, rfl⟩ := hl
        obtain ⟨b, rfl, m', z', c', hid', _, hρ⟩ := hp
        rw [hid] at hid'
        cases hid'
        have hρ := hρ hnm
        obtain ⟨_, h0 | ⟨b', vs, T, hρ', hb, _, hc, _⟩⟩ := hrel.env.ob id _ hid
        · rw [hρ] at h0; cases h0.1
        · rw [hρ] at hρ'
          cases hρ'
          have hca : CellsAt E s.h b 0 (ds.map .d) := fun j x hj => by
            obtain ⟨u, hu, hr⟩ := hc.2 j x hj
            refine ⟨u, ?_, hr⟩
            have hjl := lt_of_get hu
            simp only [List.length_take] at hjl
            rw [List.getElem?_take, if_pos (by omega)] at hu
            simp only [World.cell?, hb, Nat.zero_add, Option.isSome_none, Bool.false_eq_true, if_false]
            simpa using hu
          obtain ⟨u, hu, hr⟩ := load_sim (X := X) (off := off) hca hy
          rw [Nat.zero_add] at hu
          exact ⟨b, off, u, rfl, hu, hr⟩
      · cases hl
    · cases hl
  · cases hl

def resSem (tmps : Array Value) : ResultVar → Sem Value
  | .tmp t => pure (tmps.getD t undef)
  | .cell p t => do loadVar t (← asAddr (tmps.getD p undef))

theorem results_eq (fn : Func) (tmps : Array Value) : results fn tmps = (do let vs ← fn.results.mapM (resSem tmps); pure (if h : vs.size = 1 then vs[0] else .tuple vs)) := by
  unfold results
  congr

theorem results_run {X : Ctx} {A : Actn} {E : Env} {s : S} {a : Act} (hrel : Rel A E s a E.w) : ∀ (rs : List ResultVar) (r : List PA), resAll X s rs = some r →
    ∃ vs : List Value, (rs.mapM (resSem a.tmps)).run X.P E.w = .ok vs E.w ∧ vs.length = r.length ∧ ∀ (j : Nat) (x : PA), r[j]? = some x → ∃ u, vs[j]? = some u ∧ x.rel E.w E.F u
  | [], r, h => by simp [resAll] at h; subst h; exact ⟨[], by simp, rfl, fun j x hj => by simp at hj⟩
  | x :: rs, r, h => by
    simp only [resAll, Option.bind_eq_some_iff, Option.map_eq_some_iff] at h
    obtain ⟨p, hp, ps, hps, rfl⟩ := h
    obtain ⟨vs, hvs, hl, hx⟩ := results_run hrel rs ps hps
    have one : ∃ u, (resSem a.tmps x).run X.P E.w = .ok u E.w ∧ p.rel E.w E.F u := by
      cases x with
      | tmp t => exact ⟨_, rfl, pa_rel (hrel.tmps t) hp⟩
      | cell q t =>
        simp only [resOne, Option.bind_eq_some_iff] at hp
        obtain ⟨v, hv, hvp⟩ := hp
        obtain ⟨b, o, u, hu1, hu2, hr⟩ := load_rel hrel (hrel.tmps q) hv
        exact ⟨u, by simp only [resSem, hu1, asAddr, Sem.run_bind, Sem.run_pure, Result.andThen_ok, hu2], pa_rel hr hvp⟩
    obtain ⟨u, hu, hr⟩ := one
    refine ⟨u :: vs, ?_, by simp [hl], fun j q hj => ?_⟩
    · rw [List.mapM_cons]
      simp only [Sem.run_bind, hu, Result.andThen_ok, hvs, Sem.run_pure]
    · cases j with
      | zero => simp at hj; subst hj; exact ⟨u, rfl, hr⟩
      | succ j => simpa using hx j q (by simpa using hj)

/-- A body that returns m's value, for all arguments. -/
theorem pure_of_awp {X : Ctx} {f : FuncId} {fn : Func} {c : Code} {m : List PA → Option (List PA)} (hf : X.P.funcs[f]? = some fn) (hb : fn.body = some c) (hname : (fn.name == "runtime.NumGoroutine") = false)
    (hok : okCode X fn.ntmps c = true) (hmix : X.P.follows .mixedOrders = true) (hK : KOk X)
    (hbody : ∀ args r, m args = some r → args.length ≤ fn.ntmps ∧ awp X c ⟨argSlots 0 args, []⟩ (Rets X fn.results.toList r)) : PureC X.P X.G f m := by
  have hne : ¬ fn.name = "runtime.NumGoroutine" := by simpa using hname
  refine ⟨fun vs w => by simp [callFunc, hf, hne, hb], fun w F vs args r hlt hG hvs hrel hm => ?_⟩
  obtain ⟨hal, ha⟩ := hbody args r hm
  let A : Actn := ⟨w, F, X.G⟩
  let E : Env := ⟨fun _ => none, F, w⟩
  let a : Act := { tmps := vs ++ Array.replicate (fn.ntmps - vs.size) undef, defers := [] }
  have hE : EnvOk A E [] := ⟨Below.refl _ _, hlt, fun b o _ h => h, fun b o h => h, fun i j b hi => by simp at hi, fun i b hi => by simp at hi, fun i o ho => by simp at ho, hG.1, hG.2⟩
  have hr : Rel A E ⟨argSlots 0 args, []⟩ a w := by
    refine ⟨hE, rfl, rfl, fun t => ?_⟩
    show (look (argSlots 0 args) t).rel E [] _
    rw [look_args, if_pos (Nat.zero_le _), Nat.sub_zero]
    cases hx : args[t]? with
    | none => trivial
    | some x =>
      have htl := lt_of_get hx
      have hv := hrel t x hx
      have : a.tmps.getD t undef = vs.getD t undef := by
        simp only [a, Array.getD_eq_getD_getElem?]
        rw [Array.getElem?_append_left (by omega)]
      rw [this]
      exact DV.rel_av (E := E) hv
  have hsz : a.tmps.size = fn.ntmps := by simp [a]; omega
  refine calls_of_wp hf hb (wp_mono (awp_sim hK hmix c ⟨argSlots 0 args, []⟩ _ a E hok ha ⟨rfl, hr⟩ hsz) fun e a' w' ⟨ex, s', E', ev, hrel', _, he, hq⟩ => ?_)
  have hw := hrel'.world
  subst hw
  have fin : resAll X s' fn.results.toList = some r → a'.defers = [] ∧ ∃ v, (results fn a'.tmps).run X.P E'.w = .ok v E'.w ∧ ∃ u, Ending.returned v = .returned u ∧ RRel E'.w (newF w F E'.w) u r ∧ Below w.heap.size w E'.w := by
    intro hres
    obtain ⟨vs', hv, hl, hx⟩ := results_run hrel' _ _ hres
    have hold : ∀ b o, E'.F b o → newF w F E'.w b o := fun b o hfr => by
      by_cases hbw : b < w.heap.size
      · exact .inl (hrel'.env.old b o hbw hfr)
      · exact .inr ⟨by omega, hrel'.env.lt b o hfr⟩
    have hx' : ∀ (j : Nat) (x : PA), r[j]? = some x → ∃ u, vs'[j]? = some u ∧ x.rel E'.w (newF w F E'.w) u := fun j x hj => by
      obtain ⟨u, hu, hru⟩ := hx j x hj
      refine ⟨u, hu, ?_⟩
      cases x with
      | c d => exact Rd.mono hru hold (fun _ _ _ => rfl)
      | agg xs =>
        obtain ⟨us, rfl, h1, h2⟩ := hru
        exact ⟨us, rfl, h1, fun j x hj => let ⟨y, hy, hry⟩ := h2 j x hj; ⟨y, hy, hry.mono hold (fun _ _ _ => rfl)⟩⟩
    have hrun : (results fn a'.tmps).run X.P E'.w = .ok (match vs' with | [v] => v | l => .tuple l.toArray) E'.w := by
      have hm' : (fn.results.mapM (resSem a'.tmps)).run X.P E'.w = .ok vs'.toArray E'.w := by
        rw [Array.mapM_eq_mapM_toList]
        simp only [Sem.run_map, hv, Result.andThen_ok]
      rw [results_eq]
      simp only [Sem.run_bind, hm', Result.andThen_ok]
      cases vs' with
      | nil => simp
      | cons v l =>
        cases l with
        | nil => simp
        | cons v2 l => simp
    refine ⟨hrel'.defers, _, hrun, _, rfl, ?_, hrel'.env.below⟩
    unfold RRel
    split
    · obtain ⟨u, hu, hru⟩ := hx' 0 _ rfl
      cases vs' with
      | nil => cases hu
      | cons v l =>
        have : l = [] := List.eq_nil_of_length_eq_zero (by simpa using hl)
        subst this
        cases hu
        exact hru
    · rename_i hne
      refine ⟨vs', ?_, hl, hx'⟩
      cases vs' with
      | nil => rfl
      | cons v l =>
        cases l with
        | nil =>
          cases r with
          | nil => simp at hl
          | cons x r =>
            have : r = [] := List.eq_nil_of_length_eq_zero (by simpa using hl.symm)
            subst this
            exact absurd rfl (hne x)
        | cons v2 l => rfl
  cases ex <;> simp only [Rets] at hq
  · have := exrel_normal he
    subst this
    exact fin hq
  · cases e <;> first | exact he.elim | exact fin hq

end Go.Ab
