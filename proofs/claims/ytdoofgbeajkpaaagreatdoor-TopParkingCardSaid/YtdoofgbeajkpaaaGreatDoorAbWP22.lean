/-
  Texts of the layer and of the laws, put together: AbH8, AbH9, AbH10, AbH12, AbH14, AbH17, AbH18.
-/
import Derived.Test.YtdoofgbeajkpaaaGreatDoorAbWP10
import Derived.Test.YtdoofgbeajkpaaaGreatDoorAbWP11
set_option linter.unusedSimpArgs false
set_option linter.unusedVariables false
set_option maxRecDepth 100000
set_option linter.defProp false
namespace Go.Ab
open Go.RowKit
theorem Wk.val {n : Nat} {t : List (Nat × AV)} {h : Hp} (k : Nat) (x y : AV) (hk : look t k = x) (hxy : ∀ (E : Env) (v : Value), x.rel E h v → y.rel E h v) : Wk n ⟨t, h⟩ ⟨(k, y) :: t, h⟩ := fun A E a w hn hr =>
  ⟨E, Evo.refl hn, hr.env, hr.world, hr.defers, rel_put (hxy _ _ (hk ▸ hr.tmps k)) hr.tmps⟩
theorem Wk.ofOwn {n : Nat} {t : List (Nat × AV)} {h : Hp} (k id : Nat) (es : List (List D)) (hk : look t k = .v (.c (.own id es))) : Wk n ⟨t, h⟩ ⟨(k, .v (.c (.d (.sl false es)))) :: t, h⟩ :=
  Wk.val k _ _ hk fun _ _ hr => hr.1
theorem Wk.ofFull {n : Nat} {t : List (Nat × AV)} {h : Hp} (k : Nat) (f : Bool) (es : List (List D)) (hk : look t k = .v (.c (.d (.sl f es)))) : Wk n ⟨t, h⟩ ⟨(k, .v (.c (.d (.sl false es)))) :: t, h⟩ :=
  Wk.val k _ _ hk fun _ _ hr => Rd.weak hr
noncomputable section
open Classical
section
variable {X : Ctx}
def slX (ful : Bool) (z : Nat) (es : List (List D)) (l u : Int) : Option D := if allLen z es ∧ 0 ≤ l ∧ l ≤ u ∧ u ≤ es.length then some (.sl ful ((es.drop l.toNat).take (u.toNat - l.toNat))) else none
def slZ (f : Bool) (es : List (List D)) (lo hi : Option Int) : Option Nat → Option D
  | some z => slX (f && decide (hi.getD es.length = es.length)) z es (lo.getD 0) (hi.getD es.length)
  | none => none
def slT' (X : Ctx) (f : Bool) (es : List (List D)) (lo hi : Option Int) : Option TypeDesc → Option D
  | some (.slice e) => slZ f es lo hi (X.size e)
  | _ => none
theorem sla_eq {t : TypeId} {f : Bool} {es : List (List D)} {lo hi : Option Int} : X.sliceA t (.v (.c (.d (.sl f es)))) lo hi none = slT' X f es lo hi (X.P.underlying t) := by
  unfold Ctx.sliceA slT'
  cases X.P.underlying t with
  | none => rfl
  | some d =>
    cases d <;> try rfl
    rename_i e
    simp only [Option.bind_some, C1.elems]
    cases X.size e with
    | none => rfl
    | some z =>
      simp only [Option.bind_some, Option.isNone_none, true_or, true_and, fullOf, reduceCtorEq, false_implies, implies_true, slZ]
      split
      · rename_i h1; exact (if_pos (show allLen z es ∧ _ from h1)).symm
      rename_i h1; exact (if_neg (show ¬ (allLen z es ∧ _) from h1)).symm
theorem slT_sl {e : TypeId} {f : Bool} {es : List (List D)} {lo hi : Option Int} : slT' X f es lo hi (some (.slice e)) = slZ f es lo hi (X.size e) := rfl
theorem slZ_some {z : Nat} {f : Bool} {es : List (List D)} {lo hi : Option Int} : slZ f es lo hi (some z) = slX (f && decide (hi.getD es.length = es.length)) z es (lo.getD 0) (hi.getD es.length) := rfl
theorem slX_ok {ful : Bool} {z : Nat} {es : List (List D)} {l u : Int} (h0 : allLen z es = True) (h1 : (0 ≤ l) = True) (h2 : (l ≤ u) = True) (h3 : (u ≤ (es.length : Int)) = True) : slX ful z es l u = some (.sl ful ((es.drop l.toNat).take (u.toNat - l.toNat))) := by
  unfold slX
  rw [if_pos ⟨of_eq_true h0, of_eq_true h1, of_eq_true h2, of_eq_true h3⟩]
end
theorem apSl_new {h : Hp} {z b : Nat} {ys : List (List D)} (h1 : allLen z ys) (h3 : ys.length * b ≤ 140737488355328) (h4 : ys.length ≤ 4611686018427387904) :
    apSl h z b [] ys = if ys.length = 0 then some (.d (.sl true []), h) else some (.v (.c (.own h.length ys)), h ++ [.tok ys.length z none]) := by
  unfold apSl
  rw [if_pos ⟨by simp [allLen], h1, by simpa using h3, by simpa using h4⟩]
  simp
end
end Go.Ab
namespace Go.Ab
open Go.RowKit
theorem fok_of_awpSW {X : Ctx} {f : FuncId} {fn : Func} {c : Code} {args : List AV} {h : Hp} {out : COut} (hf : X.P.funcs[f]? = some fn) (hb : fn.body = some c) (hname : (fn.name == "runtime.NumGoroutine") = false)
    (hok : okCode X fn.ntmps c = true) (hmix : X.P.follows .mixedOrders = true) (hK : KOk X) (hal : args.length ≤ fn.ntmps)
    (hbody : awpS X c ⟨argV 0 args, h⟩ (RetsW X h.length fn.results.toList out)) : FOk X.P X.G f args h out := by
  refine fok_of_end hf hb hname fun A E vs hG hE hs hrel => ?_
  have hr := enter_rel (n := fn.ntmps) [] hE hal hs hrel
  have hsz : (vs ++ Array.replicate (fn.ntmps - vs.size) undef).size = fn.ntmps := by simp; omega
  refine calls_of_wp hf hb (wp_mono (awpS_sim (A := { A with ds := [] }) hK hmix c ⟨argV 0 args, h⟩ _ _ E hok hbody ⟨hG, hr⟩ hsz) fun e a' w' ⟨ex, s', E', ev, hrel', _, he, hq⟩ => ?_)
  have hw := hrel'.world
  subst hw
  have fin : (∃ s2, Wk h.length s' s2 ∧ ∃ vs, resAllV X s2 fn.results.toList = some vs ∧ out = .ret (resVV vs) s2.h) → a'.defers = [] ∧ ∃ v, (results fn a'.tmps).run X.P E'.w = .ok v E'.w ∧ EndOk A E h out (.returned v) E'.w := by
    rintro ⟨s2, hwk, r, hres, rfl⟩
    obtain ⟨E2, ev2, hrel2⟩ := hwk _ E' a' E'.w ev.len hrel'
    have hw2 := hrel2.world
    obtain ⟨v, hv, hrv⟩ := results_rel (by rw [hw2]; exact hrel2) hres
    rw [hw2] at hv
    exact ⟨hrel'.defers, v, hv, E2, s2.h, hw2.symm, ev.trans ev2 (Nat.le_refl _), hrel2.env.nods, .inl ⟨v, _, rfl, rfl, hrv⟩⟩
  cases ex <;> simp only [RetsW] at hq
  · have := exrel_normal he
    subst this
    exact fin hq
  · cases e <;> first | exact he.elim | exact fin hq
  cases e <;> first | exact he.elim | skip
  obtain ⟨u, rfl, hx⟩ := he
  obtain ⟨t, xs, ag, h', rfl, hwk, rfl⟩ := hq
  obtain ⟨E2, ev2, hrel2⟩ := hwk _ E' a' E'.w ev.len hrel'
  exact ⟨hrel'.defers, E2, h', hrel2.world.symm, ev.trans ev2 (Nat.le_refl _), hrel2.env.nods, .inr ⟨u, _, rfl, rfl, ifc_evo ev2 hx⟩⟩
def RetsU (X : Ctx) (rs : List ResultVar) (r : List PA) : Ex → S → Prop
  | .ret, s => ∃ s', Wk 0 s s' ∧ resAll X s' rs = some r
  | .normal, s => ∃ s', Wk 0 s s' ∧ resAll X s' rs = some r
  | _, _ => False
theorem RetsU_ret {X : Ctx} {rs : List ResultVar} {r : List PA} {s : S} : RetsU X rs r .ret s = ∃ s', Wk 0 s s' ∧ resAll X s' rs = some r := rfl
theorem pure_of_awpSW {X : Ctx} {f : FuncId} {fn : Func} {c : Code} {m : List PA → Option (List PA)} (hf : X.P.funcs[f]? = some fn) (hb : fn.body = some c) (hname : (fn.name == "runtime.NumGoroutine") = false)
    (hok : okCode X fn.ntmps c = true) (hmix : X.P.follows .mixedOrders = true) (hK : KOk X)
    (hbody : ∀ args r, m args = some r → args.length ≤ fn.ntmps ∧ awpS X c ⟨argSlots 0 args, []⟩ (RetsU X fn.results.toList r)) : PureC X.P X.G f m := by
  have hne : ¬ fn.name = "runtime.NumGoroutine" := by simpa using hname
  refine ⟨fun vs w => by simp [callFunc, hf, hne, hb], fun w F vs args r hlt hG hvs hrel hm => ?_⟩
  obtain ⟨hal, ha⟩ := hbody args r hm
  let A : Actn := ⟨w, F, X.G, []⟩
  let E : Env := ⟨fun _ => none, F, w⟩
  let a : Act := { tmps := vs ++ Array.replicate (fn.ntmps - vs.size) undef, defers := [] }
  have hE : EnvOk A E [] := ⟨Below.refl _ _, hlt, fun b o _ h => h, fun b o h => h, fun i j b hi => by simp at hi, fun i b hi => by simp at hi, fun i o ho => by simp at ho, hG.1, hG.2, fun _ => Nat.le_refl _⟩
  have hr : Rel A E ⟨argSlots 0 args, []⟩ a w := by
    refine ⟨hE, rfl, rfl, fun t => ?_⟩
    show (look (argSlots 0 args) t).rel E [] _
    rw [look_args, if_pos (Nat.zero_le _), Nat.sub_zero]
    cases hx : args[t]? with
    | none => trivial
    | some x =>
      have htl := lt_of_get hx
      have hv := hrel t x hx
      have : a.tmps.getD t undef = vs.getD t undef := by
        simp only [a, Array.getD_eq_getD_getElem?]
        rw [Array.getElem?_append_left (by omega)]
      rw [this]
      exact DV.rel_av (E := E) hv
  have hsz : a.tmps.size = fn.ntmps := by simp [a]; omega
  refine calls_of_wp hf hb (wp_mono (awpS_sim hK hmix c ⟨argSlots 0 args, []⟩ _ a E hok ha ⟨rfl, hr⟩ hsz) fun e a' w' ⟨ex, s', E', ev, hrel', _, he, hq⟩ => ?_)
  have hw := hrel'.world
  subst hw
  have fin0 : ∀ (E' : Env) (s' : S), Rel A E' s' a' E'.w → resAll X s' fn.results.toList = some r → a'.defers = [] ∧ ∃ v, (results fn a'.tmps).run X.P E'.w = .ok v E'.w ∧ ∃ u, Ending.returned v = .returned u ∧ RRel E'.w (newF w F E'.w) u r ∧ Below w.heap.size w E'.w ∧ (X.G.dr = true → w.drawn ≤ E'.w.drawn) := by
    intro E' s' hrel' hres
    obtain ⟨vs', hv, hl, hx⟩ := results_run hrel' _ _ hres
    have hold : ∀ b o, E'.F b o → newF w F E'.w b o := fun b o hfr => by
      by_cases hbw : b < w.heap.size
      · exact .inl (hrel'.env.old b o hbw hfr)
      exact .inr ⟨by omega, hrel'.env.lt b o hfr⟩
    have hx' : ∀ (j : Nat) (x : PA), r[j]? = some x → ∃ u, vs'[j]? = some u ∧ x.rel E'.w (newF w F E'.w) u := fun j x hj => by
      obtain ⟨u, hu, hru⟩ := hx j x hj
      refine ⟨u, hu, ?_⟩
      cases x with
      | c d => exact Rd.mono hru hold (fun _ _ _ => rfl)
      | agg xs =>
        obtain ⟨us, rfl, h1, h2⟩ := hru
        exact ⟨us, rfl, h1, fun j x hj => let ⟨y, hy, hry⟩ := h2 j x hj; ⟨y, hy, hry.mono hold (fun _ _ _ => rfl)⟩⟩
    have hrun : (results fn a'.tmps).run X.P E'.w = .ok (match vs' with | [v] => v | l => .tuple l.toArray) E'.w := by
      have hm' : (fn.results.mapM (resSem a'.tmps)).run X.P E'.w = .ok vs'.toArray E'.w := by
        rw [Array.mapM_eq_mapM_toList]
        simp only [Sem.run_map, hv, Result.andThen_ok]
      rw [results_eq]
      simp only [Sem.run_bind, hm', Result.andThen_ok]
      cases vs' with
      | nil => simp
      | cons v l =>
        cases l with
        | nil => simp
        | cons v2 l => simp
    refine ⟨hrel'.defers, _, hrun, _, rfl, ?_, hrel'.env.below, hrel'.env.drw⟩
    unfold RRel
    split
    · obtain ⟨u, hu, hru⟩ := hx' 0 _ rfl
      cases vs' with
      | nil => cases hu
      | cons v l =>
        have : l = [] := List.eq_nil_of_length_eq_zero (by simpa using hl)
        subst this
        cases hu
        exact hru
    rename_i hne
    refine ⟨vs', ?_, hl, hx'⟩
    cases vs' with
    | nil => rfl
    | cons v l =>
      cases l with
      | nil =>
        cases r with
        | nil => simp at hl
        | cons x r =>
          have : r = [] := List.eq_nil_of_length_eq_zero (by simpa using hl.symm)
          subst this
          exact absurd rfl (hne x)
      | cons v2 l => rfl
  have fin : (∃ s2, Wk 0 s' s2 ∧ resAll X s2 fn.results.toList = some r) → a'.defers = [] ∧ ∃ v, (results fn a'.tmps).run X.P E'.w = .ok v E'.w ∧ ∃ u, Ending.returned v = .returned u ∧ RRel E'.w (newF w F E'.w) u r ∧ Below w.heap.size w E'.w ∧ (X.G.dr = true → w.drawn ≤ E'.w.drawn) := by
    rintro ⟨s2, hwk, hres⟩
    obtain ⟨E2, ev2, hrel2⟩ := hwk _ E' a' E'.w (Nat.zero_le _) hrel'
    have hw2 := hrel2.world
    have := fin0 E2 s2 (by rw [hw2]; exact hrel2) hres
    rw [hw2] at this
    exact this
  cases ex <;> simp only [RetsU] at hq
  · have := exrel_normal he
    subst this
    exact fin hq
  cases e <;> first | exact he.elim | exact fin hq
def NPV := Zk @look_argV_cons <| Zk @look_argV_nil <| Zk @RetsW_ret <| Zk @RetsW_normal @RetsU_ret
end Go.Ab
namespace Go.Ab
open Go.RowKit
section
variable {h r : Hp} {a b c d e f x : Ob}
theorem ha0 : (h ++ a :: r)[h.length]? = some a := by simp
theorem ha1 : (h ++ a :: b :: r)[h.length + 1]? = some b := by simp
theorem ha2 : (h ++ a :: b :: c :: r)[h.length + 2]? = some c := by simp
theorem ha3 : (h ++ a :: b :: c :: d :: r)[h.length + 3]? = some d := by simp
theorem hs0 : (h ++ a :: r).set h.length x = h ++ x :: r := by simp
theorem hs1 : (h ++ a :: b :: r).set (h.length + 1) x = h ++ a :: x :: r := by simp [List.set_append_right]
theorem hs2 : (h ++ a :: b :: c :: r).set (h.length + 2) x = h ++ a :: b :: x :: r := by simp [List.set_append_right]
theorem hs3 : (h ++ a :: b :: c :: d :: r).set (h.length + 3) x = h ++ a :: b :: c :: x :: r := by simp [List.set_append_right]
theorem hs4 : (h ++ a :: b :: c :: d :: e :: r).set (h.length + 4) x = h ++ a :: b :: c :: d :: x :: r := by simp [List.set_append_right]
theorem hs5 : (h ++ a :: b :: c :: d :: e :: f :: r).set (h.length + 5) x = h ++ a :: b :: c :: d :: e :: x :: r := by simp [List.set_append_right]
end
theorem happ {h a b : Hp} : h ++ a ++ b = h ++ (a ++ b) := List.append_assoc _ _ _
theorem hlen {h a : Hp} : (h ++ a).length = h.length + a.length := List.length_append
theorem hl0 : ([] : Hp).length = 0 := rfl
theorem hlc {o : Ob} {a : Hp} : (o :: a).length = a.length + 1 := rfl
theorem hca {o : Ob} {a b : Hp} : o :: a ++ b = o :: (a ++ b) := rfl
theorem hset {h : Hp} {id : Nat} {o : Ob} : (h.set id o).length = h.length := List.length_set
def HX := Zk @ha0 <| Zk @ha1 <| Zk @ha2 <| Zk @hs0 <| Zk @hs1 <| Zk @hs2 <| Zk @happ <| Zk @hlen @hset
theorem C1.low_mono {m n : Nat} (hmn : m ≤ n) {x : C1} (h : x.low m = true) : x.low n = true := by
  cases x <;> simp only [C1.low, decide_eq_true_eq, List.all_eq_true] at h ⊢ <;> first | omega | (intro p hp; have := h p hp; omega) | trivial
theorem Ob.low_mono {m n : Nat} (hmn : m ≤ n) {o : Ob} (h : o.low m = true) : o.low n = true := by
  cases o with
  | box cs =>
    simp only [Ob.low, List.all_eq_true] at h ⊢
    exact fun x hx => C1.low_mono hmn (h x hx)
  | tok k z c =>
    cases c with
    | none => rfl
    | some cs =>
      simp only [Ob.low, List.all_eq_true] at h ⊢
      exact fun x hx => C1.low_mono hmn (h x hx)
  | _ => rfl
def LowH (h : Hp) : Prop := (h.all (Ob.low h.length)) = true
theorem LowH.app {h g : Hp} (hh : LowH h) (hg : (g.all (Ob.low (h.length + g.length))) = true) : LowH (h ++ g) := by
  unfold LowH at *
  rw [List.all_append, List.length_append, hg, Bool.and_true, List.all_eq_true]
  exact fun o ho => Ob.low_mono (by omega) (List.all_eq_true.1 hh o ho)
theorem LowH.set {h : Hp} {id : Nat} {o : Ob} (hh : LowH h) (ho : o.low h.length = true) : LowH (h.set id o) := by
  unfold LowH at *
  rw [List.length_set, List.all_eq_true]
  intro x hx
  rcases List.mem_or_eq_of_mem_set hx with h1 | rfl
  · exact List.all_eq_true.1 hh x h1
  exact ho
theorem Wk.back {n : Nat} {t t' : List (Nat × AV)} {h g : Hp} (hh : LowH h) (hn : n ≤ h.length) (hs : subT t t') (hl : (t'.all fun p => p.2.low h.length) = true) : Wk n ⟨t, h ++ g⟩ ⟨t', h⟩ := Wk.cut hn hs hl hh
theorem Wk.back' {n : Nat} {t t' : List (Nat × AV)} {h h' g : Hp} (hh : LowH h') (e : h = h' ++ g) (hn : n ≤ h'.length) (hs : subT t t') (hl : (t'.all fun p => p.2.low h'.length) = true) : Wk n ⟨t, h⟩ ⟨t', h'⟩ := e ▸ Wk.cut hn hs hl hh
end Go.Ab
namespace Go.Ab
open Go.RowKit
section
variable {α : Type} {row : α → List C1} {w : Nat}
theorem fm_len (hw : ∀ x, (row x).length = w) : ∀ {L : List α}, (L.flatMap row).length = L.length * w
  | [] => by simp
  | p :: L => by rw [List.flatMap_cons, List.length_append, fm_len hw, hw, List.length_cons, Nat.succ_mul]; omega
theorem fm_split {L : List α} {k : Nat} {x : α} (h : L[k]? = some x) : L.flatMap row = (L.take k).flatMap row ++ (row x ++ (L.drop (k + 1)).flatMap row) := by
  have hk := lt_of_get h
  rw [List.getElem?_eq_getElem hk] at h
  cases h
  rw [← List.flatMap_cons, ← List.drop_eq_getElem_cons hk, ← List.flatMap_append, List.take_append_drop]
theorem fm_pre (hw : ∀ x, (row x).length = w) {L : List α} {k : Nat} {x : α} (h : L[k]? = some x) : ((L.take k).flatMap row).length = k * w := by
  have hk := lt_of_get h
  rw [fm_len hw, List.length_take, Nat.min_eq_left (by omega)]
theorem fm_le (hw : ∀ x, (row x).length = w) {L : List α} {k : Nat} {x : α} (h : L[k]? = some x) : k * w + w ≤ (L.flatMap row).length := by
  rw [fm_split h, List.length_append, List.length_append, fm_pre hw h, hw]; omega
theorem fm_at (hw : ∀ x, (row x).length = w) {L : List α} {k : Nat} {x : α} (h : L[k]? = some x) : ((L.flatMap row).drop (k * w)).take w = row x := by
  rw [fm_split h, List.drop_append, fm_pre hw h, List.drop_of_length_le (by rw [fm_pre hw h]; omega), List.nil_append, Nat.sub_self, List.drop_zero, List.take_append, hw, Nat.sub_self, List.take_zero, List.append_nil, List.take_of_length_le (by rw [hw]; omega)]
theorem fm_cell (hw : ∀ x, (row x).length = w) {L : List α} {k : Nat} {x : α} (h : L[k]? = some x) {j : Nat} (hj : j < w) : (L.flatMap row)[k * w + j]? = (row x)[j]? := by
  rw [fm_split h, List.getElem?_append_right (by rw [fm_pre hw h]; omega), fm_pre hw h, show k * w + j - k * w = j by omega, List.getElem?_append_left (by rw [hw]; exact hj)]
theorem fm_put (hw : ∀ x, (row x).length = w) {L : List α} {k : Nat} {x x' : α} (h : L[k]? = some x) {j : Nat} (hj : j < w) {v : C1} (hs : (row x).set j v = row x') :
    (L.flatMap row).take (k * w + j) ++ v :: (L.flatMap row).drop (k * w + j + 1) = (L.set k x').flatMap row := by
  have hk := lt_of_get h
  have hl := fm_pre hw h
  have hlen := fm_le hw h
  have e1 : (L.flatMap row).set (k * w + j) v = (L.set k x').flatMap row := by
    have h2 : (L.set k x')[k]? = some x' := by simp [hk]
    rw [fm_split h, List.set_append_right _ _ (by omega), hl, show k * w + j - k * w = j by omega, List.set_append_left _ _ (by rw [hw]; exact hj), hs, fm_split h2, List.take_set_of_le (Nat.le_refl _), List.drop_set_of_lt (by omega)]
  rw [← e1, List.set_eq_take_append_cons_drop, if_pos (by omega)]
theorem stP_fm (hw : ∀ x, (row x).length = w) {h : Hp} {id k n : Nat} {L : List α} {x x' : α} (hx : L[k]? = some x) {j : Nat} (hj : j < w) {v : C1} (hs : (row x).set j v = row x') :
    stP h id (k * w + j) n w (L.flatMap row) (some [v]) (some 1) = some (h.set id (.tok n w (some ((L.set k x').flatMap row)))) := by
  have hlen := fm_le hw hx
  rw [stP_ok (dx := [v]) (k := 1) (eq_true rfl) (eq_true (by omega))]
  unfold setAt
  rw [← fm_put hw hx hj hs]
  rfl
end
end Go.Ab
namespace Go.Ab
open Go.RowKit
inductive Tr where
  | fin
  | run (l : List Nat) (r : Tr)
  | br (a : Nat) (ta : Tr) (b : Nat) (tb : Tr)
  | br3 (a : Nat) (ta : Tr) (b : Nat) (tb : Tr) (c : Nat) (tc : Tr)
  | br4 (a : Nat) (ta : Tr) (b : Nat) (tb : Tr) (c : Nat) (tc : Tr) (d : Nat) (td : Tr)
def trP (X : Ctx) (ops : Array Oper) (Q : S → Prop) : Tr → Ex → S → Prop
  | .fin, .normal, s => Q s
  | .run l r, .normal, s => fin true (trP X ops Q r) (runOps X ops (opsOf ops l) s)
  | .br a ta b tb, .normal, s => fin true (trP X ops Q ta) (runOps X ops (opsOf ops [a]) s) ∧ fin true (trP X ops Q tb) (runOps X ops (opsOf ops [b]) s)
  | .br3 a ta b tb c tc, .normal, s => fin true (trP X ops Q ta) (runOps X ops (opsOf ops [a]) s) ∧ fin true (trP X ops Q tb) (runOps X ops (opsOf ops [b]) s) ∧ fin true (trP X ops Q tc) (runOps X ops (opsOf ops [c]) s)
  | .br4 a ta b tb c tc d td, .normal, s => fin true (trP X ops Q ta) (runOps X ops (opsOf ops [a]) s) ∧ fin true (trP X ops Q tb) (runOps X ops (opsOf ops [b]) s) ∧ fin true (trP X ops Q tc) (runOps X ops (opsOf ops [c]) s) ∧ fin true (trP X ops Q td) (runOps X ops (opsOf ops [d]) s)
  | _, _, _ => False
@[congr] theorem trP_congr {X : Ctx} {ops : Array Oper} {Q : S → Prop} {T : Tr} {e : Ex} {s : S} : trP X ops Q T e s = trP X ops Q T e s := rfl
end Go.Ab
namespace Go.Ab
open Go.RowKit
theorem Wk.boxv {n : Nat} {t t' : List (Nat × AV)} {h h' : Hp} {id : Nat} {cs cs' : List C1} (hid : h[id]? = some (.box cs)) (hs : subT t t') (hlen : cs'.length = cs.length) (hcs : ∀ (E : Env) (j : Nat) (x y : C1) (v : Value), cs[j]? = some x → cs'[j]? = some y → x.rel E h v → y.rel E h v) (hh : h' = h.set id (.box cs')) : Wk n ⟨t, h⟩ ⟨t', h'⟩ := fun A E a w hn hr => by
  subst hh
  have hidl := lt_of_get hid
  have hset : ∀ j, j ≠ id → (h.set id (.box cs'))[j]? = h[j]? := fun j hj => by rw [List.getElem?_set_ne (Ne.symm hj)]
  have ev : Evo h.length E h E (h.set id (.box cs')) := by
    refine ⟨fun _ _ h => h, fun _ _ _ => rfl, fun j hj o ho hk => ⟨?_, rfl⟩, fun j hj m z c hm => ?_, by simp⟩
    · by_cases hji : j = id
      · subst hji
        rw [hid] at ho
        cases ho
        exact ⟨.box cs', by simp [hidl], rfl⟩
      exact ⟨o, by rw [hset j hji]; exact ho, rfl⟩
    have hji : j ≠ id := by
      rintro rfl
      rw [hid] at hm
      cases hm
    exact ⟨m, c, by rw [hset j hji]; exact hm, Nat.le_refl _, fun _ => ⟨rfl, fun b vs T _ hv => ⟨vs, T, hv, rfl⟩⟩⟩
  have he := hr.env
  refine ⟨E, ev.weak hn, ⟨he.below, he.lt, he.old, he.f0, fun i j b hi hj => he.inj i j b (by simpa using hi) (by simpa using hj), fun i b hi => he.base i b (by simpa using hi), fun i o ho => ?_, he.glob, he.ginv, he.drw⟩, hr.world, hr.defers, fun k => ?_⟩
  · by_cases hii : i = id
    · subst hii
      simp [hidl] at ho
      subst ho
      obtain ⟨b, vs, T, h1, h2, h3, h4⟩ := he.ob i _ hid
      refine ⟨b, vs, T, h1, h2, ⟨h3.1.trans hlen.symm, fun j x hj => ?_⟩, h4⟩
      have hjl := lt_of_get hj
      have hq : cs[j]? = some (cs[j]'(by omega)) := List.getElem?_eq_getElem (by omega)
      obtain ⟨u, hu, h5, h6⟩ := h3.2 j _ hq
      exact ⟨u, hu, (hcs E j _ x u hq hj h5).evo ev (Nat.le_refl _), h6⟩
    rw [hset i hii] at ho
    have hr := he.ob i o ho
    cases o with
    | dead => exact hr
    | box cs => obtain ⟨b, vs, T, h1, h2, h3, h4⟩ := hr; exact ⟨b, vs, T, h1, h2, h3.evo ev (Nat.le_refl _), h4⟩
    | tok n z c => cases c with
      | none => exact hr
      | some ds => exact ⟨hr.1, hr.2.imp (fun h => h) fun ⟨b, vs, T, h1, h2, h3, h4, h5⟩ => ⟨b, vs, T, h1, h2, h3, h4.evo ev (Nat.le_refl _), h5⟩⟩
    | siter s p => exact hr
    | pin ob => exact hr
    | map es clock => obtain ⟨b, ents, h1, h2, h3, h4, h5⟩ := hr; exact ⟨b, ents, h1, h2, h3, h4, fun j p hj => let ⟨e, he, g1, g2, g3⟩ := h5 j p hj; ⟨e, he, g1, g2.evo ev, g3.evo ev⟩⟩
    | bld T e l on =>
      obtain ⟨b, h1, h2, h3⟩ := hr
      refine ⟨b, h1, h2, fun hon => ?_⟩
      obtain ⟨p, v, a1, a2, a3, aT, a4⟩ := h3 hon
      exact ⟨p, v, a1, a2, a3, aT, fun g hg => let ⟨q1, q2, q3, q4⟩ := a4 g hg; ⟨q1, q2, q3, fun j hj => q4 j (by simpa using hj)⟩⟩
  show (look t' k).rel E _ _
  rcases look_sub t' hs k with h1 | h1
  · rw [h1]; trivial
  rw [h1]; exact (hr.tmps k).evo ev (Nat.le_refl _)
end Go.Ab
namespace Go.Ab
open Go.RowKit
def putM (es : MapA) (c : Nat) (k v : DV) : MapA × Nat := match findA k es with
  | some i => (es.modify i fun e => (e.1, k, v), c)
  | none => (es ++ [(c, k, v)], c + 1)
theorem putA_eq {es : MapA} {c : Nat} {k v : DV} : putA es c k v = .map (putM es c k v).1 (putM es c k v).2 := by
  unfold putA putM
  cases findA k es <;> rfl
def delM (es : MapA) (k : DV) : MapA := match findA k es with
  | some j => es.eraseIdx j
  | none => es
structure MW (d : KTy) (es : MapA) (c : Nat) : Prop where
  keys : KeysD d es
  lt : ∀ e ∈ es, e.1 < c
  nd : es.Pairwise (fun a b => a.1 ≠ b.1)
  ks : es.Pairwise (fun a b => a.2.1 ≠ b.2.1)
theorem MW.nil {d : KTy} {c : Nat} : MW d [] c := ⟨fun _ h => (by cases h), fun _ h => (by cases h), List.Pairwise.nil, List.Pairwise.nil⟩
theorem findA_cons {k : DV} {e : Nat × DV × DV} {es : MapA} : findA k (e :: es) = if keyEq e.2.1 k = true then some 0 else (findA k es).map (· + 1) := by
  unfold findA
  rw [List.findIdx?_cons]
theorem findA_some {d : KTy} {k : DV} (hk : isKeyA d k = true) : ∀ {es : MapA} {j : Nat}, KeysD d es → findA k es = some j → ∃ e, es[j]? = some e ∧ e.2.1 = k
  | [], j, _, h => by cases h
  | e :: es, j, hd, h => by
    rw [findA_cons] at h
    split at h
    · rename_i hq
      cases h
      exact ⟨e, rfl, (keyEq_iff (hd e List.mem_cons_self) hk).1 hq⟩
    obtain ⟨j', hj, rfl⟩ := Option.map_eq_some_iff.1 h
    obtain ⟨e', h1, h2⟩ := findA_some hk (fun x hx => hd x (List.mem_cons_of_mem _ hx)) hj
    exact ⟨e', by simpa using h1, h2⟩
theorem findA_none {d : KTy} {k : DV} (hk : isKeyA d k = true) : ∀ {es : MapA}, KeysD d es → findA k es = none → ∀ e ∈ es, e.2.1 ≠ k
  | [], _, _, e, h => by cases h
  | x :: es, hd, h, e, he => by
    rw [findA_cons] at h
    split at h
    · cases h
    rename_i hq
    rcases List.mem_cons.1 he with rfl | he
    · exact fun e1 => hq ((keyEq_iff (hd e List.mem_cons_self) hk).2 e1)
    exact findA_none hk (fun x hx => hd x (List.mem_cons_of_mem _ hx)) (by simpa using h) e he
theorem modify_eq {α : Type} {f : α → α} : ∀ {l : List α} {i : Nat} {x : α}, l[i]? = some x → l.modify i f = l.set i (f x)
  | [], i, x, h => by simp at h
  | a :: l, 0, x, h => by simp at h; subst h; simp
  | a :: l, i + 1, x, h => by simp at h; simp [modify_eq h]
theorem MW.put {d : KTy} {es : MapA} {c : Nat} {k v : DV} (h : MW d es c) (hk : isKeyA d k = true) : MW d (putM es c k v).1 (putM es c k v).2 := by
  unfold putM
  cases hf : findA k es with
  | some i =>
    obtain ⟨e0, he0, hek⟩ := findA_some hk h.keys hf
    have hi := lt_of_get he0
    dsimp only
    rw [modify_eq he0]
    have hg : es[i] = e0 := by rw [List.getElem?_eq_getElem hi] at he0; exact Option.some.inj he0
    refine ⟨fun e he => ?_, fun e he => ?_, ?_, ?_⟩
    · rcases List.mem_or_eq_of_mem_set he with he | rfl
      · exact h.keys e he
      exact hk
    · rcases List.mem_or_eq_of_mem_set he with he | rfl
      · exact h.lt e he
      exact h.lt e0 (List.mem_of_getElem? he0)
    · have : es.map (·.1) = (es.set i (e0.1, k, v)).map (·.1) := by
        rw [List.map_set]
        have := List.set_getElem_self (as := es.map (·.1)) (i := i) (by simpa using hi)
        rw [List.getElem_map, hg] at this
        exact this.symm
      have h1 := h.nd
      rw [← List.pairwise_map (f := fun e : Nat × DV × DV => e.1) (R := fun a b => a ≠ b)] at h1 ⊢
      rw [← this]
      exact h1
    · have : es.map (·.2.1) = (es.set i (e0.1, k, v)).map (·.2.1) := by
        rw [List.map_set]
        have := List.set_getElem_self (as := es.map (·.2.1)) (i := i) (by simpa using hi)
        rw [List.getElem_map, hg, hek] at this
        exact this.symm
      have h1 := h.ks
      rw [← List.pairwise_map (f := fun e : Nat × DV × DV => e.2.1) (R := fun a b => a ≠ b)] at h1 ⊢
      rw [← this]
      exact h1
  | none =>
    have hn := findA_none hk h.keys hf
    dsimp only
    refine ⟨fun e he => ?_, fun e he => ?_, ?_, ?_⟩
    · rcases List.mem_append.1 he with he | he
      · exact h.keys e he
      rw [List.mem_singleton.1 he]; exact hk
    · rcases List.mem_append.1 he with he | he
      · have := h.lt e he; omega
      rw [List.mem_singleton.1 he]; exact Nat.lt_succ_self _
    · rw [List.pairwise_append]
      refine ⟨h.nd, List.pairwise_singleton _ _, fun a ha b hb => ?_⟩
      rw [List.mem_singleton.1 hb]
      have := h.lt a ha
      dsimp only
      omega
    rw [List.pairwise_append]
    refine ⟨h.ks, List.pairwise_singleton _ _, fun a ha b hb => ?_⟩
    rw [List.mem_singleton.1 hb]
    exact hn a ha
open Classical in
theorem get_put {d : KTy} {es : MapA} {c : Nat} {k v : DV} (h : MW d es c) (hk : isKeyA d k = true) {k' : DV} (hk' : isKeyA d k' = true) : getM (putM es c k v).1 k' = if k = k' then some v else getM es k' := by
  obtain ⟨es', c', e, _, _, h4⟩ := putA_spec (c := c) (y := v) hk h.keys
  rw [putA_eq] at e
  cases e
  have := h4 k' hk'
  rw [this]
theorem MW.del {d : KTy} {es : MapA} {c : Nat} {k : DV} (h : MW d es c) : MW d (delM es k) c := by
  unfold delM
  cases hf : findA k es with
  | none => exact h
  | some j =>
    have hs := List.eraseIdx_sublist es j
    exact ⟨fun e he => h.keys e (hs.subset he), fun e he => h.lt e (hs.subset he), h.nd.sublist hs, h.ks.sublist hs⟩
theorem getM_mem {d : KTy} {k : DV} (hk : isKeyA d k = true) : ∀ {es : MapA} {v : DV}, KeysD d es → es.Pairwise (fun a b => a.2.1 ≠ b.2.1) → (getM es k = some v ↔ ∃ b, (b, k, v) ∈ es)
  | [], v, _, _ => by simp [getM_nil]
  | e :: es, v, hd, hp => by
    obtain ⟨h1, h2⟩ := List.pairwise_cons.1 hp
    have ih := getM_mem hk (v := v) (fun x hx => hd x (List.mem_cons_of_mem _ hx)) h2
    have he := hd e List.mem_cons_self
    rw [getM_cons]
    obtain ⟨eb, ek, ev⟩ := e
    dsimp only at *
    by_cases hq : keyEq ek k = true
    · rw [if_pos hq]
      have hek := (keyEq_iff he hk).1 hq
      subst hek
      constructor
      · intro h
        cases h
        exact ⟨eb, List.mem_cons_self⟩
      rintro ⟨b, hb⟩
      rcases List.mem_cons.1 hb with hb | hb
      · cases hb
        rfl
      exact absurd rfl (h1 _ hb)
    rw [if_neg hq, ih]
    constructor
    · rintro ⟨b, hb⟩
      exact ⟨b, List.mem_cons_of_mem _ hb⟩
    rintro ⟨b, hb⟩
    rcases List.mem_cons.1 hb with hb | hb
    · cases hb
      exact absurd ((keyEq_iff he hk).2 rfl) hq
    exact ⟨b, hb⟩
theorem getM_ext {d : KTy} {a b : MapA} {k : DV} (hk : isKeyA d k = true) (ha : KeysD d a) (hb : KeysD d b) (pa : a.Pairwise (fun a b => a.2.1 ≠ b.2.1)) (pb : b.Pairwise (fun a b => a.2.1 ≠ b.2.1)) (h : ∀ s v, (s, k, v) ∈ a ↔ (s, k, v) ∈ b) : getM a k = getM b k := by
  have ga := fun v => getM_mem hk (v := v) ha pa
  have gb := fun v => getM_mem hk (v := v) hb pb
  cases hA : getM a k with
  | some v =>
    obtain ⟨s, hs⟩ := (ga v).1 hA
    exact ((gb v).2 ⟨s, (h s v).1 hs⟩).symm
  | none =>
    cases hB : getM b k with
    | none => rfl
    | some v =>
      obtain ⟨s, hs⟩ := (gb v).1 hB
      rw [(ga v).2 ⟨s, (h s v).2 hs⟩] at hA
      cases hA
open Classical in
theorem get_del {d : KTy} {es : MapA} {c : Nat} {k : DV} (h : MW d es c) (hk : isKeyA d k = true) {k' : DV} (hk' : isKeyA d k' = true) : getM (delM es k) k' = if k = k' then none else getM es k' := by
  have hd := h.del (k := k)
  have hmem : ∀ e, e ∈ delM es k ↔ e ∈ es ∧ e.2.1 ≠ k := fun e => by
    unfold delM
    cases hf : findA k es with
    | none => exact ⟨fun he => ⟨he, findA_none hk h.keys hf e he⟩, fun he => he.1⟩
    | some j =>
      obtain ⟨e0, he0, hek⟩ := findA_some hk h.keys hf
      have hj := lt_of_get he0
      have hg : es[j] = e0 := by rw [List.getElem?_eq_getElem hj] at he0; exact Option.some.inj he0
      dsimp only
      rw [List.mem_eraseIdx_iff_getElem?]
      have hp := List.pairwise_iff_getElem.1 h.ks
      constructor
      · rintro ⟨i, hne, hi⟩
        have hil := lt_of_get hi
        have hgi : es[i] = e := by rw [List.getElem?_eq_getElem hil] at hi; exact Option.some.inj hi
        refine ⟨List.mem_of_getElem? hi, fun e1 => ?_⟩
        rcases Nat.lt_or_gt_of_ne hne with hlt | hgt
        · have := hp i j hil hj hlt
          rw [hgi, hg, e1, hek] at this
          exact this rfl
        have := hp j i hj hil hgt
        rw [hgi, hg, e1, hek] at this
        exact this rfl
      rintro ⟨he, hne⟩
      obtain ⟨i, hi⟩ := List.getElem?_of_mem he
      refine ⟨i, fun e1 => hne ?_, hi⟩
      subst e1
      rw [hi] at he0
      rw [Option.some.inj he0]
      exact hek
  by_cases hq : k = k'
  · subst hq
    rw [if_pos rfl]
    cases hg : getM (delM es k) k with
    | none => rfl
    | some v =>
      obtain ⟨s, hs⟩ := (getM_mem hk hd.keys hd.ks).1 hg
      exact absurd rfl ((hmem _).1 hs).2
  rw [if_neg hq]
  exact getM_ext hk' hd.keys h.keys hd.ks h.ks fun s v => by
    rw [hmem]
    exact ⟨fun h => h.1, fun h => ⟨h, fun e => hq e.symm⟩⟩
end Go.Ab
