/-
  Maps as equations, and maps with one kind of keys.
-/
import Derived.Test.YteeffcglpljdpaaDoorAb15
set_option linter.unusedSimpArgs false
set_option linter.unusedVariables false
namespace Go.Ab
open Go.RowKit

section
variable {X : Ctx} {h : Hp}

def upM (ty : Option (TypeDesc × TypeId)) (h : Hp) (id : Nat) (o : Option Ob) (k v : Option DV) : Option Hp :=
  ty.bind fun ty => match o with
    | some (.map es clock) => k.bind fun k => v.bind fun y => if keysOk ty.1 k es then some (h.set id (putA es clock k y)) else none
    | _ => none
theorem up_mp {t : TypeId} {id : Nat} {i v : AV} : X.updateA h t (.v (.c (.mp id))) i v = upM (X.mapTy t) h id h[id]? i.dv v.dv := by
  unfold Ctx.updateA upM
  cases X.mapTy t with
  | none => rfl
  | some ty =>
    simp only [Option.bind_some]
    generalize h[id]? = q
    cases q with
    | none => rfl
    | some o => cases o <;> rfl
theorem upM_ok {ty : TypeDesc × TypeId} {id clock : Nat} {es : MapA} {k y : DV} (hk : keysOk ty.1 k es = true) : upM (some ty) h id (some (.map es clock)) (some k) (some y) = some (h.set id (putA es clock k y)) := by
  simp only [upM, Option.bind_some, hk, if_true]

def luM (ty : Option (TypeDesc × TypeId)) (es : Option MapA) (k : Option DV) (z : TypeId → Option V) (ok : Bool) : Option AV :=
  ty.bind fun ty => es.bind fun es => k.bind fun k => (z ty.2).bind fun z =>
    if keysOk ty.1 k es then some (if ok then .tup [match pickA es k with | some v => v.V | none => z, .c (.d (.bool (findA k es).isSome))] else .v (match pickA es k with | some v => v.V | none => z)) else none
theorem lu_eq {t : TypeId} {x i : AV} {ok : Bool} : X.lookupA h t x i ok = luM (X.mapTy t) (X.mapOf h x) i.dv X.zeroV ok := rfl
def pkV (es : MapA) (k : DV) (z : V) : V := match pickA es k with | some v => v.V | none => z
theorem luM_ok {ty : TypeDesc × TypeId} {es : MapA} {k : DV} {z : TypeId → Option V} (hk : keysOk ty.1 k es = true) : luM (some ty) (some es) (some k) z false = (z ty.2).map fun z => .v (pkV es k z) := by
  simp only [luM, Option.bind_some, hk, if_true]
  cases z ty.2 <;> rfl
theorem luM_ok2 {ty : TypeDesc × TypeId} {es : MapA} {k : DV} {z : TypeId → Option V} (hk : keysOk ty.1 k es = true) : luM (some ty) (some es) (some k) z true = (z ty.2).map fun z => .tup [pkV es k z, .c (.d (.bool (findA k es).isSome))] := by
  simp only [luM, Option.bind_some, hk, if_true]
  cases z ty.2 <;> rfl
def moM : Option Ob → Option MapA
  | some (.map es _) => some es
  | _ => none
theorem mo_mp {id : Nat} : X.mapOf h (.v (.c (.mp id))) = moM h[id]? := by
  unfold Ctx.mapOf moM
  simp only
  generalize h[id]? = q
  cases q with
  | none => rfl
  | some o => cases o <;> rfl
theorem moM_map {es : MapA} {c : Nat} : moM (some (.map es c)) = some es := rfl
def zvA : Option AV → Option V
  | some (.v z) => some z
  | _ => none
theorem zv_eq {t : TypeId} : X.zeroV t = zvA (X.zero t) := by
  unfold Ctx.zeroV zvA
  cases X.zero t with
  | none => rfl
  | some x => cases x <;> rfl
theorem zvA_v {z : V} : zvA (some (.v z)) = some z := rfl
theorem MP : type_of% @up_mp ∧ type_of% @upM_ok ∧ type_of% @lu_eq ∧ type_of% @luM_ok ∧ type_of% @luM_ok2 ∧ type_of% @mo_mp ∧ type_of% @moM_map ∧ type_of% @zv_eq ∧ type_of% @zvA_v :=
  ⟨@up_mp, @upM_ok, @lu_eq, @luM_ok, @luM_ok2, @mo_mp, @moM_map, @zv_eq, @zvA_v⟩
end

/-! ### What a map holds, as a function -/

/-- All keys are of the kind d. -/
def KeysD (d : TypeDesc) (es : MapA) : Prop := ∀ e ∈ es, isKeyA d e.2.1 = true

theorem keysOk_of {d : TypeDesc} {k : DV} {es : MapA} (hk : isKeyA d k = true) (h : KeysD d es) : keysOk d k es = true := by
  simp only [keysOk, hk, Bool.true_and, List.all_eq_true]
  exact h

theorem keyEq_iff {d : TypeDesc} {a b : DV} (ha : isKeyA d a = true) (hb : isKeyA d b = true) : keyEq a b = true ↔ a = b := by
  cases a with
  | agg xs => cases d <;> simp [isKeyA] at ha
  | c x => cases b with
    | agg xs => cases d <;> simp [isKeyA] at hb
    | c y => cases d <;> cases x <;> simp [isKeyA] at ha <;> cases y <;> simp [isKeyA] at hb <;> simp [keyEq] <;> simp_all

/-- The value of a key. -/
def getM (es : MapA) (k : DV) : Option DV := pickA es k

theorem getM_nil {k : DV} : getM [] k = none := rfl

theorem getM_cons {e : Nat × DV × DV} {es : MapA} {k : DV} : getM (e :: es) k = if keyEq e.2.1 k = true then some e.2.2 else getM es k := by
  unfold getM pickA findA
  rw [List.findIdx?_cons]
  by_cases hq : keyEq e.2.1 k = true
  · rw [if_pos hq, if_pos hq]; rfl
  · rw [if_neg hq, if_neg hq]
    cases es.findIdx? fun e => keyEq e.2.1 k with
    | none => rfl
    | some j => simp

theorem find_some_get {k : DV} : ∀ {es : MapA}, (findA k es).isSome = (getM es k).isSome
  | [] => rfl
  | e :: es => by
    rw [getM_cons]
    unfold findA
    rw [List.findIdx?_cons]
    by_cases hq : keyEq e.2.1 k = true
    · rw [if_pos hq, if_pos hq]; rfl
    · rw [if_neg hq, if_neg hq, ← find_some_get (es := es)]
      unfold findA
      cases es.findIdx? fun e => keyEq e.2.1 k <;> rfl

theorem getM_append {k : DV} {ks : MapA} : ∀ {es : MapA}, getM (es ++ ks) k = (getM es k).or (getM ks k)
  | [] => by simp [getM_nil]
  | e :: es => by
    rw [List.cons_append, getM_cons, getM_cons, getM_append (es := es)]
    split <;> simp

open Classical in
theorem getM_modify {d : TypeDesc} {k k' y : DV} (hk : isKeyA d k = true) (hk' : isKeyA d k' = true) : ∀ {es : MapA} {i : Nat}, KeysD d es → findA k es = some i →
    getM (es.modify i fun e => (e.1, k, y)) k' = if k = k' then some y else getM es k'
  | [], i, _, h => by simp [findA] at h
  | e :: es, i, hd, h => by
    have he := hd e List.mem_cons_self
    unfold findA at h
    rw [List.findIdx?_cons] at h
    by_cases hq : keyEq e.2.1 k = true
    · rw [if_pos hq] at h
      cases h
      have hek := (keyEq_iff he hk).1 hq
      rw [List.modify_zero_cons, getM_cons, getM_cons]
      by_cases hkk : k = k'
      · subst hkk
        rw [if_pos ((keyEq_iff hk hk).2 rfl), if_pos rfl]
      · rw [if_neg (fun h => hkk ((keyEq_iff hk hk').1 h)), if_neg hkk, if_neg (fun h => hkk (by rw [← hek]; exact (keyEq_iff he hk').1 h))]
    · rw [if_neg hq] at h
      simp only [Option.map_eq_some_iff] at h
      obtain ⟨j, hj, rfl⟩ := h
      rw [List.modify_succ_cons, getM_cons, getM_cons, getM_modify hk hk' (fun e he => hd e (List.mem_cons_of_mem _ he)) hj]
      by_cases hkk : k = k'
      · subst hkk
        rw [if_neg hq, if_pos rfl]
        simp
      · rw [if_neg hkk]
        simp [hkk]

open Classical in
/-- m[k] = y: what the map holds then. -/
theorem putA_spec {d : TypeDesc} {k y : DV} {es : MapA} {c : Nat} (hk : isKeyA d k = true) (hd : KeysD d es) :
    ∃ es' c', putA es c k y = .map es' c' ∧ KeysD d es' ∧ es'.length ≤ es.length + 1 ∧ ∀ k', isKeyA d k' = true → getM es' k' = if k = k' then some y else getM es k' := by
  unfold putA
  cases hf : findA k es with
  | some i =>
    refine ⟨_, _, rfl, fun e he => ?_, by simp, fun k' hk' => getM_modify hk hk' hd hf⟩
    obtain ⟨j, hj⟩ := List.getElem?_of_mem he
    rw [List.getElem?_modify] at hj
    cases hq : es[j]? with
    | none => simp [hq] at hj
    | some q =>
      simp only [hq, Option.map_eq_map, Option.map_some, Option.some.injEq] at hj
      subst hj
      split
      · exact hk
      · exact hd q (List.mem_of_getElem? hq)
  | none =>
    refine ⟨_, _, rfl, fun e he => ?_, by simp, fun k' hk' => ?_⟩
    · rcases List.mem_append.1 he with h | h
      · exact hd e h
      · simp at h; subst h; exact hk
    · rw [getM_append, getM_cons, getM_nil]
      have hn : getM es k = none := by
        have := find_some_get (k := k) (es := es)
        rw [hf] at this
        simpa using this.symm
      by_cases hkk : k = k'
      · subst hkk
        rw [if_pos rfl, hn]
        simp [(keyEq_iff hk hk).2 rfl]
      · rw [if_neg hkk]
        have : ¬ keyEq k k' = true := fun h => hkk ((keyEq_iff hk hk').1 h)
        simp [this]

theorem pkV_eq {es : MapA} {k : DV} {z : V} : pkV es k z = match getM es k with | some v => v.V | none => z := rfl

end Go.Ab
