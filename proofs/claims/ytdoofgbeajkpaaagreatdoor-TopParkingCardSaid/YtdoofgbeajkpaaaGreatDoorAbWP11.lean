/-
  Texts of the layer and of the laws, put together: AbH4, Ab19, AbH5, AbH6, AbH7.
-/
import Derived.Test.YtdoofgbeajkpaaaGreatDoorAbWP10
import Derived.Recover
set_option linter.unusedSimpArgs false
set_option linter.unusedVariables false
set_option maxRecDepth 100000
set_option linter.defProp false
namespace Go.Ab
open Go.RowKit
def EndOk (A : Actn) (E : Env) (h : Hp) (out : COut) (e : Ending) (w' : World) : Prop :=
  ∃ E' h', w' = E'.w ∧ Evo h.length E h E' h' ∧ EnvOk A E' h' ∧
    ((∃ v r, e = .returned v ∧ out = .ret r h' ∧ r.rel E' h' v) ∨ (∃ u x, e = .panicked [{ v := u, recovered := false }] ∧ out = .pan x h' ∧ x.rel E' h' u))
theorem fok_of_end {X : Ctx} {f : FuncId} {fn : Func} {c : Code} {args : List AV} {h : Hp} {out : COut} (hf : X.P.funcs[f]? = some fn) (hb : fn.body = some c) (hname : (fn.name == "runtime.NumGoroutine") = false)
    (H : ∀ (A : Actn) (E : Env) (vs : Array Value), A.G = X.G → EnvOk A E h → vs.size = args.length → (∀ (j : Nat) (x : AV), args[j]? = some x → x.rel E h (vs.getD j undef)) → Calls X.P f vs E.w (EndOk A E h out)) : FOk X.P X.G f args h out := by
  have hne : ¬ fn.name = "runtime.NumGoroutine" := by simpa using hname
  intro A E vs hG hE hs hrel o a K Q hd
  have henter : (callFunc f vs).run X.P E.w = .ok (.enter f vs) E.w := by simp [callFunc, hf, hne, hb]
  rw [henter, Oper.upon_enter]
  refine (H A E vs hG hE hs hrel).mono ?_
  rintro e w' ⟨E', h', rfl, ev, hok', hx⟩
  rcases hx with ⟨v, r, rfl, rfl, hrv⟩ | ⟨u, x, rfl, rfl, hx⟩
  · exact hd v E' ev hok' hrv
  exact hd u E' ev hok' hx
theorem enter_rel {A : Actn} {E : Env} {h : Hp} {args : List AV} {vs : Array Value} {n : Nat} (d : List Deferred) (hE : EnvOk A E h) (hal : args.length ≤ n) (hs : vs.size = args.length)
    (hrel : ∀ (j : Nat) (x : AV), args[j]? = some x → x.rel E h (vs.getD j undef)) :
    Rel { A with ds := d } E ⟨argV 0 args, h⟩ { tmps := vs ++ Array.replicate (n - vs.size) undef, defers := d } E.w := by
  refine ⟨hE.ds d, rfl, rfl, fun t => ?_⟩
  show (look (argV 0 args) t).rel E h _
  rw [look_argV, if_pos (Nat.zero_le _), Nat.sub_zero]
  cases hx : args[t]? with
  | none => trivial
  | some x =>
    have htl := lt_of_get hx
    have hv := hrel t x hx
    have : (vs ++ Array.replicate (n - vs.size) undef).getD t undef = vs.getD t undef := by
      simp only [Array.getD_eq_getD_getElem?]
      rw [Array.getElem?_append_left (by omega)]
    show x.rel E h ((vs ++ Array.replicate (n - vs.size) undef).getD t undef)
    rw [this]
    exact hv
theorem results_rel {X : Ctx} {A : Actn} {E : Env} {s : S} {a : Act} {fn : Func} (hrel : Rel A E s a E.w) {r : List V} (hres : resAllV X s fn.results.toList = some r) :
    ∃ v, (results fn a.tmps).run X.P E.w = .ok v E.w ∧ (resVV r).rel E s.h v := by
  obtain ⟨vs', hv, hl, hx⟩ := resultsV_run hrel _ _ hres
  have hrun : (results fn a.tmps).run X.P E.w = .ok (match vs' with | [v] => v | l => .tuple l.toArray) E.w := by
    have hm' : (fn.results.mapM (resSem a.tmps)).run X.P E.w = .ok vs'.toArray E.w := by
      rw [Array.mapM_eq_mapM_toList]
      simp only [Sem.run_map, hv, Result.andThen_ok]
    rw [results_eq]
    simp only [Sem.run_bind, hm', Result.andThen_ok]
    cases vs' with
    | nil => simp
    | cons v l =>
      cases l with
      | nil => simp
      | cons v2 l => simp
  refine ⟨_, hrun, ?_⟩
  match r, vs', hl, hx with
  | [x], [v], _, hx =>
    obtain ⟨u, hu, hru⟩ := hx 0 x rfl
    cases hu
    exact hru
  | [], [], _, hx => exact ⟨[], rfl, rfl, fun j x hj => by simp at hj⟩
  | x :: y :: r, v :: v2 :: l, hl, hx => exact ⟨v :: v2 :: l, rfl, hl, hx⟩
def Mode (E : Env) (h : Hp) : Option C1 → FrameMode → FrameMode → Prop
  | none, u, u' => u = .returning ∧ u' = .returning
  | some x, u, u' => ∃ v, x.rel E h v ∧ u = .panicking [{ v := v, recovered := false }] ∧ u' = .panicking [{ v := v, recovered := true }]
end Go.Ab
namespace Go.Ab
open Go.RowKit
section
variable {X : Ctx} {h : Hp} {ρ : Operand → AV} {dst : Option Nat} {ty : TypeId} {pos : String} {after : Array Edge} {guard : Option (Nat × Bool)}
theorem op_func {f : FuncId} {l : List Operand} : opR X ρ h ⟨dst, .makeFunc (.func f) #[] l.toArray, ty, pos, after, guard⟩ = (ptrsA (l.map ρ)).map fun l => .val (.v (.c (.fn f l))) h := rfl
theorem ptrs_nil : ptrsA [] = some [] := rfl
theorem ptrs_cons {id off : Nat} {r : List AV} : ptrsA (.v (.c (.ptr id off)) :: r) = (ptrsA r).map fun l => (id, off) :: l := rfl
theorem bin_agg {op : BinOp} {e : TypeId} {xs ys : List C1} : X.binA op e (.v (.agg xs)) (.v (.agg ys)) = eqAgg0 op (X.isAgg e) (X.flat e) (allD xs) (allD ys) := rfl
theorem eqAgg_ok {op : BinOp} {l : List Lf} {dx dy : List D} (h1 : (fitsL l dx = true) = True) (h2 : (fitsL l dy = true) = True) : eqAgg0 op (some true) (some l) (some dx) (some dy) = eqOp op (eqL dx dy) := by
  simp only [eqAgg0, of_eq_true h1, of_eq_true h2, and_self, if_true]
theorem fits_nil : fitsL [] [] = true := rfl
theorem fits_i {l : List Lf} {k : IntKind} {x : Int} {xs : List D} : fitsL (.i k :: l) (.int k x :: xs) = fitsL l xs := by simp [fitsL]
theorem fits_s {l : List Lf} {x : List UInt8} {xs : List D} : fitsL (.s :: l) (.str x :: xs) = fitsL l xs := rfl
theorem eqOp_eql {b : Bool} : eqOp .eql b = some (.bool b) := rfl
theorem eqOp_neq {b : Bool} : eqOp .neq b = some (.bool (!b)) := rfl
def NW := Zk @op_func <| Zk @ptrs_nil @ptrs_cons
variable {P : Program} {G : Gl} {tab : Tab} {kt : KTab}
end
end Go.Ab
namespace Go.Ab
open Go.RowKit
inductive PO where
  | ret (l : List PA)
  | pan (t : TypeId) (xs : List D) (ag : Bool)
def PO.n : PO → NOut
  | .ret l => .ret (resV l)
  | .pan t xs ag => .pan (.ifc t xs ag)
def nM (m : List PA → Option PO) (args : List AV) : Option NOut := (allPA args).bind fun ps => (m ps).map PO.n
abbrev NTab := List (FuncId × (List PA → Option PO))
def tabN : NTab → FuncId → Option (List AV → Option NOut)
  | [], _ => none
  | (k, m) :: r, f => if k = f then some (nM m) else tabN r f
def ctxN (P : Program) (G : Gl) (tab : Tab) (kt : KTab) (nt : NTab) (B : Option (TypeId × TypeId)) (U : TypeId → Bool := fun _ => false) (Ex : Nat → Bool := fun _ => false) : Ctx := ⟨P, G, tabM tab, tabK kt, tabN nt, B, U, Ex⟩
def NPure (P : Program) (G : Gl) (f : FuncId) (m : List PA → Option PO) : Prop := ∀ (ps : List PA) (r : PO), m ps = some r → ∀ h, FOk P G f (ps.map DV.av) h (r.n.at h)
theorem fok_pa {P : Program} {G : Gl} {f : FuncId} {args : List AV} {ps : List PA} {h : Hp} {out : COut} (ha : allPA args = some ps) (hk : FOk P G f (ps.map DV.av) h out) : FOk P G f args h out := by
  intro A E vs hG hE hs hrel o a K Q hd
  obtain ⟨hl, hg⟩ := allPA_rel args ps ha
  refine hk A E vs hG hE (by simp; omega) (fun j x hj => ?_) o a K Q hd
  rw [List.getElem?_map] at hj
  cases hp : ps[j]? with
  | none => simp [hp] at hj
  | some p =>
    simp [hp] at hj
    subst hj
    obtain ⟨y, hy, hyp⟩ := hg j p hp
    exact DV.rel_av (E := E) (pa_rel (hrel j y hy) hyp)
inductive AllN (P : Program) (G : Gl) : NTab → Prop where
  | nil : AllN P G []
  | cons {f : FuncId} {m : List PA → Option PO} {r : NTab} (h : NPure P G f m) (hr : AllN P G r) : AllN P G ((f, m) :: r)
theorem AllN.get {P : Program} {G : Gl} {tab : NTab} (h : AllN P G tab) {f : FuncId} {g : List AV → Option NOut} (hg : tabN tab f = some g) : ∃ m, g = nM m ∧ NPure P G f m := by
  induction h with
  | nil => cases hg
  | cons h hr ih =>
    simp only [tabN] at hg
    split at hg
    · rename_i he
      subst he
      cases hg
      exact ⟨_, rfl, h⟩
    exact ih hg
theorem kok_n {P : Program} {G : Gl} {tab : Tab} {kt : KTab} {nt : NTab} {B : Option (TypeId × TypeId)} {U : TypeId → Bool} {Ex : Nat → Bool} (h : AllOk P G tab) (hk : AllK P G kt) (hn : AllN P G nt) : KOk (ctxN P G tab kt nt B U Ex) := by
  intro f args hp out ho
  simp only [hdl, ctxN] at ho
  cases hm : tabM tab f with
  | none =>
    simp only [hm] at ho
    cases hN : tabN nt f with
    | none =>
      simp only [hN] at ho
      exact hk.get ho
    | some g =>
      simp only [hN, Option.map_eq_some_iff] at ho
      obtain ⟨r, hr, rfl⟩ := ho
      obtain ⟨m, rfl, hp2⟩ := hn.get hN
      simp only [nM, Option.bind_eq_some_iff, Option.map_eq_some_iff] at hr
      obtain ⟨ps, hps, r', hr', rfl⟩ := hr
      exact fok_pa hps (hp2 ps r' hr' hp)
  | some g =>
    simp only [hm, Option.map_eq_some_iff] at ho
    obtain ⟨v, hv, rfl⟩ := ho
    obtain ⟨m, rfl, hp⟩ := h.get hm
    exact fok_of_pure hp hv
section
variable {P : Program} {G : Gl} {tab : Tab} {kt : KTab} {nt : NTab} {B : Option (TypeId × TypeId)} {U : TypeId → Bool} {Ex : Nat → Bool}
theorem nx_P : (ctxN P G tab kt nt B U Ex).P = P := rfl
theorem nx_M {f : FuncId} : (ctxN P G tab kt nt B U Ex).M f = tabM tab f := rfl
theorem nx_E {i : Nat} : (ctxN P G tab kt nt B U Ex).E i = Ex i := rfl
theorem nx_U {e : TypeId} : (ctxN P G tab kt nt B U Ex).U e = U e := rfl
theorem nx_B : (ctxN P G tab kt nt B U Ex).B = B := rfl
theorem nx_size {t : TypeId} : (ctxN P G tab kt nt B U Ex).size t = (ctx P G tab).size t := rfl
theorem nx_isAgg {t : TypeId} : (ctxN P G tab kt nt B U Ex).isAgg t = (ctx P G tab).isAgg t := rfl
theorem nx_zero {t : TypeId} : (ctxN P G tab kt nt B U Ex).zero t = (ctx P G tab).zero t := rfl
theorem nx_apz {t : TypeId} : (ctxN P G tab kt nt B U Ex).apz t = (ctx P G tab).apz t := rfl
theorem nx_place {t : TypeId} : (ctxN P G tab kt nt B U Ex).place t = (ctx P G tab).place t := rfl
theorem nx_mapTy {t : TypeId} : (ctxN P G tab kt nt B U Ex).mapTy t = (ctx P G tab).mapTy t := rfl
theorem nx_flat {t : TypeId} : (ctxN P G tab kt nt B U Ex).flat t = (ctx P G tab).flat t := rfl
theorem nx_fldA {d : Option TypeDesc} {x : AV} {f : Nat} {h : Hp} : fldA (ctxN P G tab kt nt B U Ex) d x f h = fldA (ctx P G tab) d x f h := by
  cases d with
  | none => rfl
  | some d => cases d <;> rfl
def clN (kt : KTab) (h : Hp) (f : FuncId) (args : List AV) : Option (List AV → Option NOut) → Option OpR
  | some m => (m args).map fun r => (r.at h).op
  | none => (tabK kt f args h).map COut.op
theorem nx_call {h : Hp} {f : FuncId} {args : List AV} : clM (ctxN P G tab kt nt B U Ex) h f args none = clN kt h f args (tabN nt f) := by
  show (match tabN nt f with
    | some m => (m args).map fun r => (NOut.at h r).op
    | none => (tabK kt f args h).map COut.op) = _
  unfold clN
  cases tabN nt f <;> rfl
theorem clN_none {h : Hp} {f : FuncId} {args : List AV} : clN kt h f args none = (tabK kt f args h).map COut.op := rfl
theorem tabN_nil {f : FuncId} : tabN [] f = none := rfl
def NX := Zk @nx_P <| Zk @nx_M <| Zk @nx_B <| Zk @nx_U <| Zk @nx_E <| Zk @nx_size <| Zk @nx_isAgg <| Zk @nx_zero <| Zk @nx_apz <| Zk @nx_place <| Zk @nx_mapTy <| Zk @nx_flat <| Zk @nx_fldA <| Zk @nx_call <| Zk @clN_none <| Zk @tabN_nil <| Zk @kx_here <| Zk @kx_next <| Zk @kx_ret @tab_nil
end
section
variable {X : Ctx} {md : Region.Mode} {ops : Array Oper} {p : Nat}
def extOp (X : Ctx) (o : Oper) : Bool := decide (lvl X o ≤ 1) || adds o
def panAt (X : Ctx) (ops : Array Oper) (p : Nat) (x : C1) (s : S) : Prop := ∃ o, ops[p]? = some o ∧ wantA ops o s = some true ∧ opA X s o = some (.pan x s.h)
def lexX (X : Ctx) (md : Region.Mode) (ops : Array Oper) (p : Nat) : List Nat → Array Bool → Bool
  | [], listed => Region.ready md ops listed == [p]
  | k :: r, listed => (Region.ready md ops listed).contains k && k != p && freeA X md ops listed k &&
      (match ops[k]?, ops[p]? with | some ok, some op => extOp X ok && (lvl X op == 0) | _, _ => false) && lexX X md ops p r (listed.setIfInBounds k true)
def runX (X : Ctx) (ops : Array Oper) : List Nat → S → Option S
  | [], s => some s
  | k :: r, s => (ops[k]?).bind fun o => (st X ops o s).bind fun s' => runX X ops r s'
end
def awpX (X : Ctx) : Code → S → (Ex → S → Prop) → Prop
  | .seq x y, s, Q => awpX X x s (fun ex s' => match ex with | .normal => ∃ s'', Wk s.h.length s' s'' ∧ awpX X y s'' Q | ex => Q ex s')
  | .cond c x y, s, Q => ∃ b, bIs (X.ev s c) b ∧ (b ≠ some false → awpX X x s Q) ∧ (b ≠ some true → awpX X y s Q)
  | .region i ops true, s, Q => awpS X (.region i ops true) s Q ∨ ∃ (p : Nat) (l : List Nat) (s' : S) (t : TypeId) (xs : List D) (ag : Bool), l.length + 1 ≤ ops.size ∧ lexX X .any ops p l (Array.replicate ops.size false) = true ∧ runX X ops l s = some s' ∧ panAt X ops p (.ifc t xs ag) s' ∧
      s.h.all (Ob.low s.h.length) = true ∧ Q (.pan (.ifc t xs ag)) ⟨[], s.h⟩
  | c, s, Q => awpS X c s Q
theorem ifc_evo {n : Nat} {E E' : Env} {h h' : Hp} (ev : Evo n E h E' h') {t : TypeId} {xs : List D} {ag : Bool} {v : Value} (hr : (C1.ifc t xs ag).rel E h v) : (C1.ifc t xs ag).rel E' h' v := by
  obtain ⟨u, hv, hx⟩ := hr
  refine ⟨u, hv, ?_⟩
  cases ag
  · simp only [Bool.false_eq_true, if_false] at hx ⊢
    obtain ⟨x, he, hr⟩ := hx
    exact ⟨x, he, hr.evo ev⟩
  simp only [if_true] at hx ⊢
  obtain ⟨vs, hu, hl, hr⟩ := hx
  refine ⟨vs, hu, hl, fun j x hj => ?_⟩
  obtain ⟨y, hy, hr'⟩ := hr j x hj
  exact ⟨y, hy, hr'.evo ev⟩
variable {X : Ctx} {A : Actn}
end Go.Ab
namespace Go.Ab
open Go.RowKit
theorem Wk.tops {n : Nat} {t t' : List (Nat × AV)} {h h' : Hp} {id : Nat} {cs cs' : List C1} (hid : h[id]? = some (.box cs)) (hs : subT t t') (hcs : cs' = cs.map fun _ => .top) (hh : h' = h.set id (.box cs')) : Wk n ⟨t, h⟩ ⟨t', h'⟩ := fun A E a w hn hr => by
  subst hh hcs
  have hidl := lt_of_get hid
  have hset : ∀ j, j ≠ id → (h.set id (.box (cs.map fun _ => C1.top)))[j]? = h[j]? := fun j hj => by rw [List.getElem?_set_ne (Ne.symm hj)]
  have ev : Evo h.length E h E (h.set id (.box (cs.map fun _ => C1.top))) := by
    refine ⟨fun _ _ h => h, fun _ _ _ => rfl, fun j hj o ho hk => ⟨?_, rfl⟩, fun j hj m z c hm => ?_, by simp⟩
    · by_cases hji : j = id
      · subst hji
        rw [hid] at ho
        cases ho
        exact ⟨.box (cs.map fun _ => C1.top), by simp [hidl], rfl⟩
      exact ⟨o, by rw [hset j hji]; exact ho, rfl⟩
    have hji : j ≠ id := by
      rintro rfl
      rw [hid] at hm
      cases hm
    exact ⟨m, c, by rw [hset j hji]; exact hm, Nat.le_refl _, fun _ => ⟨rfl, fun b vs T _ hv => ⟨vs, T, hv, rfl⟩⟩⟩
  have he := hr.env
  refine ⟨E, ev.weak hn, ⟨he.below, he.lt, he.old, he.f0, fun i j b hi hj => he.inj i j b (by simpa using hi) (by simpa using hj), fun i b hi => he.base i b (by simpa using hi), fun i o ho => ?_, he.glob, he.ginv, he.drw⟩, hr.world, hr.defers, fun k => ?_⟩
  · by_cases hii : i = id
    · subst hii
      simp [hidl] at ho
      subst ho
      obtain ⟨b, vs, T, h1, h2, h3, h4⟩ := he.ob i _ hid
      refine ⟨b, vs, T, h1, h2, ⟨by simpa using h3.1, fun j x hj => ?_⟩, h4⟩
      rw [List.getElem?_map] at hj
      cases hq : cs[j]? with
      | none => simp [hq] at hj
      | some y =>
        simp [hq] at hj
        subst hj
        obtain ⟨u, hu, _, h1⟩ := h3.2 j y hq
        exact ⟨u, hu, trivial, h1⟩
    rw [hset i hii] at ho
    have hr := he.ob i o ho
    cases o with
    | dead => exact hr
    | box cs => obtain ⟨b, vs, T, h1, h2, h3, h4⟩ := hr; exact ⟨b, vs, T, h1, h2, h3.evo ev (Nat.le_refl _), h4⟩
    | tok n z c => cases c with
      | none => exact hr
      | some ds => exact ⟨hr.1, hr.2.imp (fun h => h) fun ⟨b, vs, T, h1, h2, h3, h4, h5⟩ => ⟨b, vs, T, h1, h2, h3, h4.evo ev (Nat.le_refl _), h5⟩⟩
    | siter s p => exact hr
    | pin ob => exact hr
    | map es clock => obtain ⟨b, ents, h1, h2, h3, h4, h5⟩ := hr; exact ⟨b, ents, h1, h2, h3, h4, fun j p hj => let ⟨e, he, g1, g2, g3⟩ := h5 j p hj; ⟨e, he, g1, g2.evo ev, g3.evo ev⟩⟩
    | bld T e l on =>
      obtain ⟨b, h1, h2, h3⟩ := hr
      refine ⟨b, h1, h2, fun hon => ?_⟩
      obtain ⟨p, v, a1, a2, a3, aT, a4⟩ := h3 hon
      exact ⟨p, v, a1, a2, a3, aT, fun g hg => let ⟨q1, q2, q3, q4⟩ := a4 g hg; ⟨q1, q2, q3, fun j hj => q4 j (by simpa using hj)⟩⟩
  show (look t' k).rel E _ _
  rcases look_sub t' hs k with h1 | h1
  · rw [h1]; trivial
  rw [h1]; exact (hr.tmps k).evo ev (Nat.le_refl _)
def RetsW (X : Ctx) (n : Nat) (rs : List ResultVar) (out : COut) : Ex → S → Prop
  | .ret, s => ∃ s', Wk n s s' ∧ ∃ vs, resAllV X s' rs = some vs ∧ out = .ret (resVV vs) s'.h
  | .normal, s => ∃ s', Wk n s s' ∧ ∃ vs, resAllV X s' rs = some vs ∧ out = .ret (resVV vs) s'.h
  | .pan x, s => ∃ t xs ag h', x = .ifc t xs ag ∧ Wk n s ⟨[], h'⟩ ∧ out = .pan (.ifc t xs ag) h'
  | _, _ => False
theorem RetsW_ret {X : Ctx} {n : Nat} {rs : List ResultVar} {out : COut} {s : S} : RetsW X n rs out .ret s = ∃ s', Wk n s s' ∧ ∃ vs, resAllV X s' rs = some vs ∧ out = .ret (resVV vs) s'.h := rfl
theorem RetsW_normal {X : Ctx} {n : Nat} {rs : List ResultVar} {out : COut} {s : S} : RetsW X n rs out .normal s = ∃ s', Wk n s s' ∧ ∃ vs, resAllV X s' rs = some vs ∧ out = .ret (resVV vs) s'.h := rfl
end Go.Ab
namespace Go.Ab
open Go.RowKit
variable {X : Ctx}
def seqX (n : Nat) (X : Ctx) (y : Code) (Q : Ex → S → Prop) : Ex → S → Prop
  | .normal, s => ∃ s', Wk n s s' ∧ awpX X y s' Q
  | ex, s => Q ex s
@[congr] theorem awpX_congr {c : Code} {s : S} {Q : Ex → S → Prop} : awpX X c s Q = awpX X c s Q := rfl
@[congr] theorem seqX_congr {n : Nat} {c : Code} {e : Ex} {s : S} {Q : Ex → S → Prop} : seqX n X c Q e s = seqX n X c Q e s := rfl
def panE (Q : Ex → S → Prop) (h0 : Hp) : Ex → S → Prop
  | .pan (.ifc t xs ag), _ => Q (.pan (.ifc t xs ag)) ⟨[], h0⟩
  | _, _ => False
def panQ (X : Ctx) (ops : Array Oper) (o : Oper) (Q : Ex → S → Prop) (h0 : Hp) : Ex → S → Prop
  | .normal, s => fin false (panE Q h0) (runOps X ops [o] s)
  | _, _ => False
@[congr] theorem panQ_congr {ops : Array Oper} {o : Oper} {Q : Ex → S → Prop} {h0 : Hp} {e : Ex} {s : S} : panQ X ops o Q h0 e s = panQ X ops o Q h0 e s := rfl
@[congr] theorem panE_congr {Q : Ex → S → Prop} {h0 : Hp} {e : Ex} {s : S} : panE Q h0 e s = panE Q h0 e s := rfl
open Classical in
noncomputable def kR {α : Type} (R : α → List AV → Hp → Prop) (g : α → Option COut) (args : List AV) (h : Hp) : Option COut :=
  if hx : ∃ a, R a args h then g (Classical.choose hx) else none
theorem kR_inv {α : Type} {R : α → List AV → Hp → Prop} {g : α → Option COut} {args : List AV} {h : Hp} {out : COut} (hm : kR R g args h = some out) : ∃ a, R a args h ∧ g a = some out := by
  unfold kR at hm
  split at hm
  · rename_i hx
    exact ⟨_, Classical.choose_spec hx, hm⟩
  cases hm
theorem kR_eq {α : Type} {R : α → List AV → Hp → Prop} {g : α → Option COut} {args : List AV} {h : Hp} {a : α} (hu : ∀ b, R b args h → g b = g a) (hr : R a args h) : kR R g args h = g a := by
  unfold kR
  rw [dif_pos ⟨a, hr⟩]
  exact hu _ (Classical.choose_spec (p := fun b => R b args h) ⟨a, hr⟩)
end Go.Ab
