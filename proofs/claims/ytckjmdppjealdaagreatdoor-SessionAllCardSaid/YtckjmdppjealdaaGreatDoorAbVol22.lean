/-
  Texts of the layer and of the laws, put together: AbH8, AbH9. No law is stated here.
-/
import Derived.Test.YtckjmdppjealdaaGreatDoorAbVol9
import Derived.Test.YtckjmdppjealdaaGreatDoorAbVol10
set_option linter.unusedSimpArgs false
set_option linter.unusedVariables false
set_option maxRecDepth 100000

/-
  A slot's value read more weakly; slices cut; a new slice of rows.
-/
namespace Go.Ab
open Go.RowKit

theorem Wk.val {n : Nat} {t : List (Nat × AV)} {h : Hp} (k : Nat) (x y : AV) (hk : look t k = x) (hxy : ∀ (E : Env) (v : Value), x.rel E h v → y.rel E h v) : Wk n ⟨t, h⟩ ⟨(k, y) :: t, h⟩ := fun A E a w hn hr =>
  ⟨E, Evo.refl hn, hr.env, hr.world, hr.defers, rel_put (hxy _ _ (hk ▸ hr.tmps k)) hr.tmps⟩

/-- A slice that was appended to, as data. -/
theorem Wk.ofOwn {n : Nat} {t : List (Nat × AV)} {h : Hp} (k id : Nat) (es : List (List D)) (hk : look t k = .v (.c (.own id es))) : Wk n ⟨t, h⟩ ⟨(k, .v (.c (.d (.sl false es)))) :: t, h⟩ :=
  Wk.val k _ _ hk fun _ _ hr => hr.1
/-- A slice's room is forgotten. -/
theorem Wk.ofFull {n : Nat} {t : List (Nat × AV)} {h : Hp} (k : Nat) (f : Bool) (es : List (List D)) (hk : look t k = .v (.c (.d (.sl f es)))) : Wk n ⟨t, h⟩ ⟨(k, .v (.c (.d (.sl false es)))) :: t, h⟩ :=
  Wk.val k _ _ hk fun _ _ hr => Rd.weak hr

noncomputable section
open Classical

/-! Slices cut -/
section
variable {X : Ctx}
def slX (ful : Bool) (z : Nat) (es : List (List D)) (l u : Int) : Option D := if allLen z es ∧ 0 ≤ l ∧ l ≤ u ∧ u ≤ es.length then some (.sl ful ((es.drop l.toNat).take (u.toNat - l.toNat))) else none
def slZ (f : Bool) (es : List (List D)) (lo hi : Option Int) : Option Nat → Option D
  | some z => slX (f && decide (hi.getD es.length = es.length)) z es (lo.getD 0) (hi.getD es.length)
  | none => none
def slT' (X : Ctx) (f : Bool) (es : List (List D)) (lo hi : Option Int) : Option TypeDesc → Option D
  | some (.slice e) => slZ f es lo hi (X.size e)
  | _ => none
theorem sla_eq {t : TypeId} {f : Bool} {es : List (List D)} {lo hi : Option Int} : X.sliceA t (.v (.c (.d (.sl f es)))) lo hi none = slT' X f es lo hi (X.P.underlying t) := by
  unfold Ctx.sliceA slT'
  cases X.P.underlying t with
  | none => rfl
  | some d =>
    cases d <;> try rfl
    rename_i e
    simp only [Option.bind_some, C1.elems]
    cases X.size e with
    | none => rfl
    | some z =>
      simp only [Option.bind_some, Option.isNone_none, true_or, true_and, fullOf, reduceCtorEq, false_implies, implies_true, slZ]
      split
      · rename_i h1; exact (if_pos (show allLen z es ∧ _ from h1)).symm
      · rename_i h1; exact (if_neg (show ¬ (allLen z es ∧ _) from h1)).symm
theorem slT_sl {e : TypeId} {f : Bool} {es : List (List D)} {lo hi : Option Int} : slT' X f es lo hi (some (.slice e)) = slZ f es lo hi (X.size e) := rfl
theorem slZ_some {z : Nat} {f : Bool} {es : List (List D)} {lo hi : Option Int} : slZ f es lo hi (some z) = slX (f && decide (hi.getD es.length = es.length)) z es (lo.getD 0) (hi.getD es.length) := rfl
theorem slX_ok {ful : Bool} {z : Nat} {es : List (List D)} {l u : Int} (h0 : allLen z es = True) (h1 : (0 ≤ l) = True) (h2 : (l ≤ u) = True) (h3 : (u ≤ (es.length : Int)) = True) : slX ful z es l u = some (.sl ful ((es.drop l.toNat).take (u.toNat - l.toNat))) := by
  unfold slX
  rw [if_pos ⟨of_eq_true h0, of_eq_true h1, of_eq_true h2, of_eq_true h3⟩]
end

theorem apSl_new {h : Hp} {z b : Nat} {ys : List (List D)} (h1 : allLen z ys) (h3 : ys.length * b ≤ 140737488355328) (h4 : ys.length ≤ 4611686018427387904) :
    apSl h z b [] ys = if ys.length = 0 then some (.d (.sl true []), h) else some (.v (.c (.own h.length ys)), h ++ [.tok ys.length z none]) := by
  unfold apSl
  rw [if_pos ⟨by simp [allLen], h1, by simpa using h3, by simpa using h4⟩]
  simp

end
end Go.Ab

/-
  Contracts that forget, from code that is stepped through with weakenings.
-/
namespace Go.Ab
open Go.RowKit

/-- A call, from the body, stepped through with weakenings. -/
theorem fok_of_awpSW {X : Ctx} {f : FuncId} {fn : Func} {c : Code} {args : List AV} {h : Hp} {out : COut} (hf : X.P.funcs[f]? = some fn) (hb : fn.body = some c) (hname : (fn.name == "runtime.NumGoroutine") = false)
    (hok : okCode X fn.ntmps c = true) (hmix : X.P.follows .mixedOrders = true) (hK : KOk X) (hal : args.length ≤ fn.ntmps)
    (hbody : awpS X c ⟨argV 0 args, h⟩ (RetsW X h.length fn.results.toList out)) : FOk X.P X.G f args h out := by
  refine fok_of_end hf hb hname fun A E vs hG hE hs hrel => ?_
  have hr := enter_rel (n := fn.ntmps) [] hE hal hs hrel
  have hsz : (vs ++ Array.replicate (fn.ntmps - vs.size) undef).size = fn.ntmps := by simp; omega
  refine calls_of_wp hf hb (wp_mono (awpS_sim (A := { A with ds := [] }) hK hmix c ⟨argV 0 args, h⟩ _ _ E hok hbody ⟨hG, hr⟩ hsz) fun e a' w' ⟨ex, s', E', ev, hrel', _, he, hq⟩ => ?_)
  have hw := hrel'.world
  subst hw
  have fin : (∃ s2, Wk h.length s' s2 ∧ ∃ vs, resAllV X s2 fn.results.toList = some vs ∧ out = .ret (resVV vs) s2.h) → a'.defers = [] ∧ ∃ v, (results fn a'.tmps).run X.P E'.w = .ok v E'.w ∧ EndOk A E h out (.returned v) E'.w := by
    rintro ⟨s2, hwk, r, hres, rfl⟩
    obtain ⟨E2, ev2, hrel2⟩ := hwk _ E' a' E'.w ev.len hrel'
    have hw2 := hrel2.world
    obtain ⟨v, hv, hrv⟩ := results_rel (by rw [hw2]; exact hrel2) hres
    rw [hw2] at hv
    exact ⟨hrel'.defers, v, hv, E2, s2.h, hw2.symm, ev.trans ev2 (Nat.le_refl _), hrel2.env.nods, .inl ⟨v, _, rfl, rfl, hrv⟩⟩
  cases ex <;> simp only [RetsW] at hq
  · have := exrel_normal he
    subst this
    exact fin hq
  · cases e <;> first | exact he.elim | exact fin hq
  · cases e <;> first | exact he.elim | skip
    obtain ⟨u, rfl, hx⟩ := he
    obtain ⟨t, xs, ag, h', rfl, hwk, rfl⟩ := hq
    obtain ⟨E2, ev2, hrel2⟩ := hwk _ E' a' E'.w ev.len hrel'
    exact ⟨hrel'.defers, E2, h', hrel2.world.symm, ev.trans ev2 (Nat.le_refl _), hrel2.env.nods, .inr ⟨u, _, rfl, rfl, ifc_evo ev2 hx⟩⟩

/-- What a body must do: return this, its objects perhaps read otherwise. -/
def RetsU (X : Ctx) (rs : List ResultVar) (r : List PA) : Ex → S → Prop
  | .ret, s => ∃ s', Wk 0 s s' ∧ resAll X s' rs = some r
  | .normal, s => ∃ s', Wk 0 s s' ∧ resAll X s' rs = some r
  | _, _ => False
theorem RetsU_ret {X : Ctx} {rs : List ResultVar} {r : List PA} {s : S} : RetsU X rs r .ret s = ∃ s', Wk 0 s s' ∧ resAll X s' rs = some r := rfl
theorem RetsU_normal {X : Ctx} {rs : List ResultVar} {r : List PA} {s : S} : RetsU X rs r .normal s = ∃ s', Wk 0 s s' ∧ resAll X s' rs = some r := rfl

/-- A body that returns m's value, for all arguments; at its end the objects may be read otherwise. -/
theorem pure_of_awpSW {X : Ctx} {f : FuncId} {fn : Func} {c : Code} {m : List PA → Option (List PA)} (hf : X.P.funcs[f]? = some fn) (hb : fn.body = some c) (hname : (fn.name == "runtime.NumGoroutine") = false)
    (hok : okCode X fn.ntmps c = true) (hmix : X.P.follows .mixedOrders = true) (hK : KOk X)
    (hbody : ∀ args r, m args = some r → args.length ≤ fn.ntmps ∧ awpS X c ⟨argSlots 0 args, []⟩ (RetsU X fn.results.toList r)) : PureC X.P X.G f m := by
  have hne : ¬ fn.name = "runtime.NumGoroutine" := by simpa using hname
  refine ⟨fun vs w => by simp [callFunc, hf, hne, hb], fun w F vs args r hlt hG hvs hrel hm => ?_⟩
  obtain ⟨hal, ha⟩ := hbody args r hm
  let A : Actn := ⟨w, F, X.G, []⟩
  let E : Env := ⟨fun _ => none, F, w⟩
  let a : Act := { tmps := vs ++ Array.replicate (fn.ntmps - vs.size) undef, defers := [] }
  have hE : EnvOk A E [] := ⟨Below.refl _ _, hlt, fun b o _ h => h, fun b o h => h, fun i j b hi => by simp at hi, fun i b hi => by simp at hi, fun i o ho => by simp at ho, hG.1, hG.2, fun _ => Nat.le_refl _⟩
  have hr : Rel A E ⟨argSlots 0 args, []⟩ a w := by
    refine ⟨hE, rfl, rfl, fun t => ?_⟩
    show (look (argSlots 0 args) t).rel E [] _
    rw [look_args, if_pos (Nat.zero_le _), Nat.sub_zero]
    cases hx : args[t]? with
    | none => trivial
    | some x =>
      have htl := lt_of_get hx
      have hv := hrel t x hx
      have : a.tmps.getD t undef = vs.getD t undef := by
        simp only [a, Array.getD_eq_getD_getElem?]
        rw [Array.getElem?_append_left (by omega)]
      rw [this]
      exact DV.rel_av (E := E) hv
  have hsz : a.tmps.size = fn.ntmps := by simp [a]; omega
  refine calls_of_wp hf hb (wp_mono (awpS_sim hK hmix c ⟨argSlots 0 args, []⟩ _ a E hok ha ⟨rfl, hr⟩ hsz) fun e a' w' ⟨ex, s', E', ev, hrel', _, he, hq⟩ => ?_)
  have hw := hrel'.world
  subst hw
  have fin0 : ∀ (E' : Env) (s' : S), Rel A E' s' a' E'.w → resAll X s' fn.results.toList = some r → a'.defers = [] ∧ ∃ v, (results fn a'.tmps).run X.P E'.w = .ok v E'.w ∧ ∃ u, Ending.returned v = .returned u ∧ RRel E'.w (newF w F E'.w) u r ∧ Below w.heap.size w E'.w ∧ (X.G.dr = true → w.drawn ≤ E'.w.drawn) := by
    intro E' s' hrel' hres
    obtain ⟨vs', hv, hl, hx⟩ := results_run hrel' _ _ hres
    have hold : ∀ b o, E'.F b o → newF w F E'.w b o := fun b o hfr => by
      by_cases hbw : b < w.heap.size
      · exact .inl (hrel'.env.old b o hbw hfr)
      · exact .inr ⟨by omega, hrel'.env.lt b o hfr⟩
    have hx' : ∀ (j : Nat) (x : PA), r[j]? = some x → ∃ u, vs'[j]? = some u ∧ x.rel E'.w (newF w F E'.w) u := fun j x hj => by
      obtain ⟨u, hu, hru⟩ := hx j x hj
      refine ⟨u, hu, ?_⟩
      cases x with
      | c d => exact Rd.mono hru hold (fun _ _ _ => rfl)
      | agg xs =>
        obtain ⟨us, rfl, h1, h2⟩ := hru
        exact ⟨us, rfl, h1, fun j x hj => let ⟨y, hy, hry⟩ := h2 j x hj; ⟨y, hy, hry.mono hold (fun _ _ _ => rfl)⟩⟩
    have hrun : (results fn a'.tmps).run X.P E'.w = .ok (match vs' with | [v] => v | l => .tuple l.toArray) E'.w := by
      have hm' : (fn.results.mapM (resSem a'.tmps)).run X.P E'.w = .ok vs'.toArray E'.w := by
        rw [Array.mapM_eq_mapM_toList]
        simp only [Sem.run_map, hv, Result.andThen_ok]
      rw [results_eq]
      simp only [Sem.run_bind, hm', Result.andThen_ok]
      cases vs' with
      | nil => simp
      | cons v l =>
        cases l with
        | nil => simp
        | cons v2 l => simp
    refine ⟨hrel'.defers, _, hrun, _, rfl, ?_, hrel'.env.below, hrel'.env.drw⟩
    unfold RRel
    split
    · obtain ⟨u, hu, hru⟩ := hx' 0 _ rfl
      cases vs' with
      | nil => cases hu
      | cons v l =>
        have : l = [] := List.eq_nil_of_length_eq_zero (by simpa using hl)
        subst this
        cases hu
        exact hru
    · rename_i hne
      refine ⟨vs', ?_, hl, hx'⟩
      cases vs' with
      | nil => rfl
      | cons v l =>
        cases l with
        | nil =>
          cases r with
          | nil => simp at hl
          | cons x r =>
            have : r = [] := List.eq_nil_of_length_eq_zero (by simpa using hl.symm)
            subst this
            exact absurd rfl (hne x)
        | cons v2 l => rfl
  have fin : (∃ s2, Wk 0 s' s2 ∧ resAll X s2 fn.results.toList = some r) → a'.defers = [] ∧ ∃ v, (results fn a'.tmps).run X.P E'.w = .ok v E'.w ∧ ∃ u, Ending.returned v = .returned u ∧ RRel E'.w (newF w F E'.w) u r ∧ Below w.heap.size w E'.w ∧ (X.G.dr = true → w.drawn ≤ E'.w.drawn) := by
    rintro ⟨s2, hwk, hres⟩
    obtain ⟨E2, ev2, hrel2⟩ := hwk _ E' a' E'.w (Nat.zero_le _) hrel'
    have hw2 := hrel2.world
    have := fin0 E2 s2 (by rw [hw2]; exact hrel2) hres
    rw [hw2] at this
    exact this
  cases ex <;> simp only [RetsU] at hq
  · have := exrel_normal he
    subst this
    exact fin hq
  · cases e <;> first | exact he.elim | exact fin hq

/-- For simp: arguments' slots, what a body must do at its end. -/
theorem NPV : type_of% @look_argV_cons ∧ type_of% @look_argV_nil ∧ type_of% @RetsW_ret ∧ type_of% @RetsW_normal ∧ type_of% @RetsU_ret ∧ type_of% @RetsU_normal := ⟨@look_argV_cons, @look_argV_nil, @RetsW_ret, @RetsW_normal, @RetsU_ret, @RetsU_normal⟩

end Go.Ab
