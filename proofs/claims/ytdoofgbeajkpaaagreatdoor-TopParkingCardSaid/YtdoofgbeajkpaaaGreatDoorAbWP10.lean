/-
  Texts of the layer and of the laws, put together: Ab15, Ab16, Ab17, Ab18, AbH1, AbH2, AbH3.
-/
import Derived.Test.YtdoofgbeajkpaaaGreatDoorAbWP9
set_option linter.unusedSimpArgs false
set_option linter.unusedVariables false
set_option maxRecDepth 100000
set_option linter.defProp false
namespace Go.Ab
open Go.RowKit
def lpQ (n : Nat) {σ : Type} (I : σ → Prop) (sta : σ → S) (μ : σ → Nat) (m : Nat) (Q : Ex → S → Prop) : Ex → S → Prop
  | .normal, s' => ∃ y, Wk n s' (sta y) ∧ I y ∧ μ y < m
  | ex, s' => Q ex s'
@[congr] theorem lpQ_congr {n : Nat} {σ : Type} {I : σ → Prop} {sta : σ → S} {μ : σ → Nat} {m : Nat} {Q : Ex → S → Prop} {e : Ex} {s : S} : lpQ n I sta μ m Q e s = lpQ n I sta μ m Q e s := rfl
theorem lpQ_ret {n : Nat} {σ : Type} {I : σ → Prop} {sta : σ → S} {μ : σ → Nat} {m : Nat} {Q : Ex → S → Prop} {s : S} : lpQ n I sta μ m Q .ret s = Q .ret s := rfl
theorem lpQ_exit {n i : Nat} {σ : Type} {I : σ → Prop} {sta : σ → S} {μ : σ → Nat} {m : Nat} {Q : Ex → S → Prop} {s : S} : lpQ n I sta μ m Q (.exit i) s = Q (.exit i) s := rfl
def LP := Zk @lpQ_ret @lpQ_exit
theorem lp_next {n : Nat} {σ : Type} {I : σ → Prop} {sta : σ → S} {μ : σ → Nat} {m : Nat} {Q : Ex → S → Prop} {s' : S} (y : σ) (hw : Wk n s' (sta y)) (hI : I y) (hμ : μ y < m) : lpQ n I sta μ m Q .normal s' := ⟨y, hw, hI, hμ⟩
theorem awp_loop {X : Ctx} {c : Code} {t : List (Nat × AV)} {h : Hp} {Q : Ex → S → Prop} {σ : Type} (I : σ → Prop) (sta : σ → S) (μ : σ → Nat) (x0 : σ) (h0 : Wk h.length ⟨t, h⟩ (sta x0)) (hI : I x0)
    (hs : ∀ x, I x → awp X c (sta x) (lpQ h.length I sta μ (μ x) Q)) : awp X (.loop c) ⟨t, h⟩ Q := by
  refine ⟨σ, I, sta, μ, ⟨x0, h0, hI⟩, fun x hx => awp_mono c _ _ _ (fun ex s' hq => ?_) (hs x hx)⟩
  cases ex <;> exact hq
theorem Wk.trans {n : Nat} {s s1 s2 : S} (h : Wk n s s1) (k : Wk n s1 s2) : Wk n s s2 := fun A E a w hn hr => by
  obtain ⟨E1, e1, r1⟩ := h A E a w hn hr
  obtain ⟨E2, e2, r2⟩ := k A E1 a w e1.len r1
  exact ⟨E2, e1.trans e2 (Nat.le_refl _), r2⟩
def subT (t : List (Nat × AV)) : List (Nat × AV) → Prop
  | [] => True
  | (k, v) :: r => look t k = v ∧ subT t r
theorem look_sub {t : List (Nat × AV)} : ∀ (t' : List (Nat × AV)), subT t t' → ∀ k, look t' k = .top ∨ look t' k = look t k
  | [], _, _ => .inl rfl
  | (j, v) :: r, h, k => by
    simp only [look]
    by_cases hj : j = k
    · rw [if_pos hj]
      subst hj
      exact .inr h.1.symm
    rw [if_neg hj]
    exact look_sub r h.2 k
theorem Wk.sub {n : Nat} {t t' : List (Nat × AV)} {h : Hp} (hs : subT t t') : Wk n ⟨t, h⟩ ⟨t', h⟩ := fun A E a w hn hr =>
  ⟨E, Evo.refl hn, hr.env, hr.world, hr.defers, fun k => by
    show (look t' k).rel E h _
    rcases look_sub t' hs k with h1 | h1
    · rw [h1]; trivial
    · rw [h1]; exact hr.tmps k⟩
theorem Wk.sub' {n : Nat} {t t' : List (Nat × AV)} {h h' : Hp} (hs : subT t t') (hh : h = h') : Wk n ⟨t, h⟩ ⟨t', h'⟩ := hh ▸ Wk.sub hs
theorem rel_put {E : Env} {h : Hp} {a : Act} {t : List (Nat × AV)} {k : Nat} {v : AV} (hv : v.rel E h (a.tmps.getD k undef)) (ht : ∀ j, (look t j).rel E h (a.tmps.getD j undef)) : ∀ j, (look ((k, v) :: t) j).rel E h (a.tmps.getD j undef) := fun j => by
  simp only [look]
  by_cases hj : k = j
  · subst hj; rw [if_pos rfl]; exact hv
  rw [if_neg hj]; exact ht j
theorem Wk.own {n : Nat} {t : List (Nat × AV)} {h : Hp} (k z : Nat) (hz : 0 < z) (hk : look t k = .v (.c (.d (.sl true [])))) : Wk n ⟨t, h⟩ ⟨(k, .v (.c (.own h.length []))) :: t, h ++ [.tok 0 z none]⟩ := fun A E a w hn hr => by
  let E' : Env := { ρ := fun i => if i = h.length then none else E.ρ i, F := E.F, w := E.w }
  have st : Stp A.G.dr E h h.length E' (h ++ [.tok 0 z none]) := {
    os := rfl, tape := rfl, output := rfl, size := Nat.le_refl _, blk := fun _ _ _ => rfl, idle := Nat.le_refl _, len := by simp, len' := by simp
    ρ := fun j _ hj => by simp [E', hj]
    hh := fun j hj _ => by rw [List.getElem?_append_left hj]
    F := fun _ _ h => h
    F' := fun _ _ h => .inl h
    same := fun _ _ _ => rfl
    at' := fun b _ hb => by simp [E'] at hb
    keep := fun o ho => by have := lt_of_get ho; omega }
  have ev := st.evo hr.env
  have hat : (h ++ [Ob.tok 0 z none])[h.length]? = some (.tok 0 z none) := by simp
  refine ⟨E', ev.weak hn, st.ok hr.env fun o ho => ?_, hr.world, hr.defers, rel_put ?_ fun j => (hr.tmps j).evo ev (Nat.le_refl _)⟩
  · rw [hat] at ho
    cases ho
    exact ⟨hz, .inl ⟨by simp [E'], rfl⟩⟩
  have hv := hr.tmps k
  have hv' : (look t k).rel E h _ := hv
  rw [hk] at hv'
  have hrd : Rd E.w E.F (a.tmps.getD k undef) (.sl true []) := hv'
  obtain ⟨base, cap, hu, hcap, hfull, hnil⟩ := sl_inv hrd
  have hc0 : cap = 0 := by have := hfull rfl; simpa using this
  subst hc0
  refine ⟨?_, 0, z, none, hat, Nat.le_refl _, by simp, fun _ => ?_⟩
  · show Rd E.w E.F _ _
    rw [hu]; exact .nil _ _
  unfold OwnRow
  simp only [E', if_true]
  exact ⟨⟨base, hu⟩, trivial⟩
theorem Wk.msl {n : Nat} {t : List (Nat × AV)} {h : Hp} (k z : Nat) (hz : 0 < z) (hk : look t k = .v (.c (.d (.sl true [])))) : Wk n ⟨t, h⟩ ⟨(k, .v (.c (.msl h.length 0))) :: t, h ++ [.tok 0 z (some [])]⟩ := fun A E a w hn hr => by
  let E' : Env := { ρ := fun i => if i = h.length then none else E.ρ i, F := E.F, w := E.w }
  have st : Stp A.G.dr E h h.length E' (h ++ [.tok 0 z (some [])]) := {
    os := rfl, tape := rfl, output := rfl, size := Nat.le_refl _, blk := fun _ _ _ => rfl, idle := Nat.le_refl _, len := by simp, len' := by simp
    ρ := fun j _ hj => by simp [E', hj]
    hh := fun j hj _ => by rw [List.getElem?_append_left hj]
    F := fun _ _ h => h
    F' := fun _ _ h => .inl h
    same := fun _ _ _ => rfl
    at' := fun b _ hb => by simp [E'] at hb
    keep := fun o ho => by have := lt_of_get ho; omega }
  have ev := st.evo hr.env
  have hat : (h ++ [Ob.tok 0 z (some [])])[h.length]? = some (.tok 0 z (some [])) := by simp
  refine ⟨E', ev.weak hn, st.ok hr.env fun o ho => ?_, hr.world, hr.defers, rel_put ?_ fun j => (hr.tmps j).evo ev (Nat.le_refl _)⟩
  · rw [hat] at ho
    cases ho
    exact ⟨hz, .inl ⟨by simp [E'], rfl, rfl⟩⟩
  have hv := hr.tmps k
  have hv' : (look t k).rel E h _ := hv
  rw [hk] at hv'
  have hrd : Rd E.w E.F (a.tmps.getD k undef) (.sl true []) := hv'
  obtain ⟨base, cap, hu, hcap, hfull, hnil⟩ := sl_inv hrd
  have hc0 : cap = 0 := by have := hfull rfl; simpa using this
  subst hc0
  refine ⟨hrd.one, 0, z, some [], hat, Nat.le_refl _, fun _ => ?_⟩
  unfold OwnRow
  simp only [E', if_true]
  exact ⟨⟨base, hu⟩, trivial⟩
theorem allD_mapd : ∀ {xs : List D}, allD (xs.map .d) = some xs
  | [] => rfl
  | x :: xs => by
    show ((C1.d x).toD).bind _ = _
    rw [allD_mapd]
    rfl
theorem Wk.freezeC {n : Nat} {t : List (Nat × AV)} {h : Hp} (k id m z : Nat) (cs : List C1) (ds : List D) (hk : look t k = .v (.c (.msl id m))) (hid : h[id]? = some (.tok m z (some cs))) (hds : allD cs = some ds) :
    Wk n ⟨t, h⟩ ⟨(k, .v (.c (.own id (chunk z m ds)))) :: t, h.set id (.tok m z none)⟩ := fun A E a w hn hr => by
  have hidl := lt_of_get hid
  let E' : Env := { ρ := E.ρ, F := fun b o => E.F b o ∨ (E.ρ id = some b ∧ o < m * z), w := E.w }
  have st : Stp A.G.dr E h id E' (h.set id (.tok m z none)) := {
    os := rfl, tape := rfl, output := rfl, size := Nat.le_refl _, blk := fun _ _ _ => rfl, idle := Nat.le_of_lt hidl, len := by simp, len' := by simp; omega
    ρ := fun j _ hj => rfl
    hh := fun j hj hji => by rw [List.getElem?_set_ne (Ne.symm hji)]
    F := fun _ _ h => .inl h
    F' := fun b o h => by
      rcases h with h | ⟨h1, _⟩
      · exact .inl h
      exact .inr ⟨(hr.env.base id b hidl h1).2, .inr ⟨hidl, h1⟩⟩
    same := fun _ _ _ => rfl
    at' := fun b _ hb => ⟨(hr.env.base id b hidl hb).2, .inr ⟨hidl, hb⟩⟩
    keep := fun o ho => by
      rw [hid] at ho
      cases ho
      exact ⟨m, none, by simp [hidl], Nat.le_refl _, fun _ => ⟨rfl, fun b vs T _ hb => ⟨vs, T, hb, rfl⟩⟩⟩ }
  have ev := st.evo hr.env
  have hat : (h.set id (.tok m z none))[id]? = some (.tok m z none) := by simp [hidl]
  have hob := hr.env.ob id _ hid
  obtain ⟨hz, hob⟩ := hob
  refine ⟨E', ev.weak hn, st.ok hr.env fun o ho => ?_, hr.world, hr.defers, rel_put ?_ fun j => (hr.tmps j).evo ev (Nat.le_refl _)⟩
  · rw [hat] at ho
    cases ho
    refine ⟨hz, ?_⟩
    rcases hob with ⟨h1, h2, _⟩ | ⟨b, vs, T, h1, h2, h3, h4, h5⟩
    · exact .inl ⟨h1, h2⟩
    refine .inr ⟨b, vs, T, h1, h2, h3, fun o ho hf => ?_⟩
    rcases hf with hf | ⟨_, h6⟩
    · exact h5 o hf
    omega
  have hv' : (look t k).rel E h _ := hr.tmps k
  rw [hk] at hv'
  obtain ⟨h1, m', z', c', hid', _, ho⟩ := hv'
  rw [hid] at hid'
  cases hid'
  have ho := ho rfl
  rcases hob with ⟨g1, g2, g3⟩ | ⟨b, vs, T, g1, g2, g3, g4, g5⟩
  · subst g2; subst g3
    obtain rfl : ds = [] := (Option.some.inj hds).symm
    have ho' := ho
    unfold OwnRow at ho'
    rw [g1] at ho'
    obtain ⟨⟨base, hu⟩, _⟩ := ho'
    refine ⟨?_, 0, z, none, hat, Nat.le_refl _, by simp [chunk], fun _ => ?_⟩
    · show Rd E.w E'.F _ (.sl false [])
      rw [hu]
      exact .nil _ _
    show OwnRow E' id 0 z _
    unfold OwnRow
    simp only [E', g1]
    exact ⟨⟨base, hu⟩, trivial⟩
  have ho' := ho
  unfold OwnRow at ho'
  rw [g1] at ho'
  obtain ⟨cap, vs', T', hu, hc1, hc2, hb', hs'⟩ := ho'
  rw [g2] at hb'
  cases hb'
  obtain ⟨hdl0, hdr⟩ := allD_rel cs ds _ g4 hds
  have hdl : ds.length = m * z := by rw [hdl0]; simp; omega
  have hcl : (chunk z m ds).length = m := chunk_length z m ds
  have hrow : ∀ e ∈ chunk z m ds, e.length = z := fun e he => by
    obtain ⟨i, hi⟩ := List.getElem?_of_mem he
    obtain ⟨h3, rfl⟩ := chunk_get z m ds i e hi
    have : (i + 1) * z ≤ m * z := Nat.mul_le_mul_right _ h3
    rw [Nat.add_mul] at this
    simp
    omega
  refine ⟨?_, m, z, none, hat, by rw [hcl]; exact Nat.le_refl _, hrow, fun _ => ?_⟩
  · show Rd E.w E'.F _ _
    rw [hu]
    refine row_rd (z := z) g2 hcl hc1 (fun h => by cases h) g3 hrow (fun o ho => .inr ⟨g1, ho⟩) (fun i j e y hi hj => ?_) (fun o ho u hu' => ?_)
    · obtain ⟨h3, rfl⟩ := chunk_get z m ds i e hi
      have hjl := lt_of_get hj
      simp at hjl
      rw [List.getElem?_take, if_pos (by omega), List.getElem?_drop] at hj
      obtain ⟨u, hu1, hu2⟩ := hdr _ _ hj
      have hlt := lt_of_get hu1
      simp at hlt
      rw [List.getElem?_take, if_pos (by omega)] at hu1
      exact ⟨u, by simpa using hu1, Rd.mono hu2 (fun _ _ h => .inl h) (fun _ _ _ => rfl)⟩
    have hcl' : cs.length = m * z := by have := g4.1; simp at this; omega
    obtain ⟨u', hu1, _, hu3⟩ := g4.2 o (cs[o]'(by omega)) (List.getElem?_eq_getElem (by omega))
    rw [List.getElem?_take, if_pos (by omega)] at hu1
    have : vs[o]? = some u' := by simpa using hu1
    rw [this] at hu'
    cases hu'
    exact hu3
  show OwnRow E' id m z _
  unfold OwnRow
  simp only [E', g1]
  exact ⟨cap, vs, T, hu, hc1, hc2, g2, hs'⟩
theorem Wk.freezeO {n : Nat} {t : List (Nat × AV)} {h : Hp} (k id m z q : Nat) (cs : List C1) (ds : List D) (hk : look t k = .v (.c (.mso id m 0 q))) (hid : h[id]? = some (.tok m z (some cs))) (hds : allD cs = some ds) :
    Wk n ⟨t, h⟩ ⟨(k, .v (.c (.d (.sl false (chunk z q ds))))) :: t, h.set id (.tok m z none)⟩ := fun A E a w hn hr => by
  have hidl := lt_of_get hid
  let E' : Env := { ρ := E.ρ, F := fun b o => E.F b o ∨ (E.ρ id = some b ∧ o < m * z), w := E.w }
  have st : Stp A.G.dr E h id E' (h.set id (.tok m z none)) := {
    os := rfl, tape := rfl, output := rfl, size := Nat.le_refl _, blk := fun _ _ _ => rfl, idle := Nat.le_of_lt hidl, len := by simp, len' := by simp; omega
    ρ := fun j _ hj => rfl
    hh := fun j hj hji => by rw [List.getElem?_set_ne (Ne.symm hji)]
    F := fun _ _ h => .inl h
    F' := fun b o h => by
      rcases h with h | ⟨h1, _⟩
      · exact .inl h
      exact .inr ⟨(hr.env.base id b hidl h1).2, .inr ⟨hidl, h1⟩⟩
    same := fun _ _ _ => rfl
    at' := fun b _ hb => ⟨(hr.env.base id b hidl hb).2, .inr ⟨hidl, hb⟩⟩
    keep := fun o ho => by
      rw [hid] at ho
      cases ho
      exact ⟨m, none, by simp [hidl], Nat.le_refl _, fun _ => ⟨rfl, fun b vs T _ hb => ⟨vs, T, hb, rfl⟩⟩⟩ }
  have ev := st.evo hr.env
  have hat : (h.set id (.tok m z none))[id]? = some (.tok m z none) := by simp [hidl]
  have hob := hr.env.ob id _ hid
  obtain ⟨hz, hob⟩ := hob
  refine ⟨E', ev.weak hn, st.ok hr.env fun o ho => ?_, hr.world, hr.defers, rel_put ?_ fun j => (hr.tmps j).evo ev (Nat.le_refl _)⟩
  · rw [hat] at ho
    cases ho
    refine ⟨hz, ?_⟩
    rcases hob with ⟨h1, h2, _⟩ | ⟨b, vs, T, h1, h2, h3, h4, h5⟩
    · exact .inl ⟨h1, h2⟩
    refine .inr ⟨b, vs, T, h1, h2, h3, fun o ho hf => ?_⟩
    rcases hf with hf | ⟨_, h6⟩
    · exact h5 o hf
    omega
  have hv' : (look t k).rel E h _ := hr.tmps k
  rw [hk] at hv'
  obtain ⟨b, cap, hu, hqc, m', z', c', hid', _, ho⟩ := hv'
  rw [hid] at hid'
  cases hid'
  obtain ⟨g1, hqm⟩ := ho rfl
  rcases hob with ⟨g0, _⟩ | ⟨b', vs, T, g0, g2, g3, g4, g5⟩
  · rw [g1] at g0; cases g0
  rw [g1] at g0
  cases g0
  obtain ⟨hdl0, hdr⟩ := allD_rel cs ds _ g4 hds
  have hdl : ds.length = m * z := by rw [hdl0]; simp; omega
  have hcl : (chunk z q ds).length = q := chunk_length z q ds
  have hqz : q * z ≤ m * z := by omega
  have hrow : ∀ e ∈ chunk z q ds, e.length = z := fun e he => by
    obtain ⟨i, hi⟩ := List.getElem?_of_mem he
    obtain ⟨h3, rfl⟩ := chunk_get z q ds i e hi
    have : (i + 1) * z ≤ q * z := Nat.mul_le_mul_right _ h3
    rw [Nat.add_mul] at this
    simp
    omega
  show Rd E.w E'.F _ _
  rw [hu]
  refine row_rd (z := z) g2 hcl hqc (fun h => by cases h) (by omega) hrow (fun o ho => .inr ⟨g1, by omega⟩) (fun i j e y hi hj => ?_) (fun o ho u hu' => ?_)
  · obtain ⟨h3, rfl⟩ := chunk_get z q ds i e hi
    have hjl := lt_of_get hj
    simp at hjl
    rw [List.getElem?_take, if_pos (by omega), List.getElem?_drop] at hj
    obtain ⟨u, hu1, hu2⟩ := hdr _ _ hj
    have hlt := lt_of_get hu1
    simp at hlt
    rw [List.getElem?_take, if_pos (by omega)] at hu1
    exact ⟨u, by simpa using hu1, Rd.mono hu2 (fun _ _ h => .inl h) (fun _ _ _ => rfl)⟩
  have hcl' : cs.length = m * z := by have := g4.1; simp at this; omega
  obtain ⟨u', hu1, _, hu3⟩ := g4.2 o (cs[o]'(by omega)) (List.getElem?_eq_getElem (by omega))
  rw [List.getElem?_take, if_pos (by omega)] at hu1
  have : vs[o]? = some u' := by simpa using hu1
  rw [this] at hu'
  cases hu'
  exact hu3
theorem wI {n : Int} (h1 : -9223372036854775808 ≤ n) (h2 : n ≤ 9223372036854775807) : IntKind.i64.wrap n = n := by rw [IntKind.wrap_i64]; omega
end Go.Ab
namespace Go.Ab
open Go.RowKit
section
variable {X : Ctx} {h : Hp}
def upM (ty : Option (KTy × TypeId)) (h : Hp) (id : Nat) (o : Option Ob) (k v : Option DV) : Option Hp :=
  ty.bind fun ty => match o with
    | some (.map es clock) => k.bind fun k => v.bind fun y => if keysOk ty.1 k es then some (h.set id (putA es clock k y)) else none
    | _ => none
theorem up_mp {t : TypeId} {id : Nat} {i v : AV} : X.updateA h t (.v (.c (.mp id))) i v = upM (X.mapTy t) h id h[id]? i.dv v.dv := by
  unfold Ctx.updateA upM
  cases X.mapTy t with
  | none => rfl
  | some ty =>
    simp only [Option.bind_some]
    generalize h[id]? = q
    cases q with
    | none => rfl
    | some o => cases o <;> rfl
theorem upM_ok {ty : KTy × TypeId} {id clock : Nat} {es : MapA} {k y : DV} (hk : keysOk ty.1 k es = true) : upM (some ty) h id (some (.map es clock)) (some k) (some y) = some (h.set id (putA es clock k y)) := by
  simp only [upM, Option.bind_some, hk, if_true]
def luM (ty : Option (KTy × TypeId)) (es : Option MapA) (k : Option DV) (z : TypeId → Option V) (ok : Bool) : Option AV :=
  ty.bind fun ty => es.bind fun es => k.bind fun k => (z ty.2).bind fun z =>
    if keysOk ty.1 k es then some (if ok then .tup [match pickA es k with | some v => v.V | none => z, .c (.d (.bool (findA k es).isSome))] else .v (match pickA es k with | some v => v.V | none => z)) else none
theorem lu_eq {t : TypeId} {x i : AV} {ok : Bool} : X.lookupA h t x i ok = luM (X.mapTy t) (X.mapOf h x) i.dv X.zeroV ok := rfl
def pkV (es : MapA) (k : DV) (z : V) : V := match pickA es k with | some v => v.V | none => z
theorem luM_ok2 {ty : KTy × TypeId} {es : MapA} {k : DV} {z : TypeId → Option V} (hk : keysOk ty.1 k es = true) : luM (some ty) (some es) (some k) z true = (z ty.2).map fun z => .tup [pkV es k z, .c (.d (.bool (findA k es).isSome))] := by
  simp only [luM, Option.bind_some, hk, if_true]
  cases z ty.2 <;> rfl
def moM : Option Ob → Option MapA
  | some (.map es _) => some es
  | _ => none
theorem mo_mp {id : Nat} : X.mapOf h (.v (.c (.mp id))) = moM h[id]? := by
  unfold Ctx.mapOf moM
  simp only
  generalize h[id]? = q
  cases q with
  | none => rfl
  | some o => cases o <;> rfl
theorem moM_map {es : MapA} {c : Nat} : moM (some (.map es c)) = some es := rfl
def zvA : Option AV → Option V
  | some (.v z) => some z
  | _ => none
theorem zv_eq {t : TypeId} : X.zeroV t = zvA (X.zero t) := by
  unfold Ctx.zeroV zvA
  cases X.zero t with
  | none => rfl
  | some x => cases x <;> rfl
theorem zvA_v {z : V} : zvA (some (.v z)) = some z := rfl
def MP := Zk @up_mp <| Zk @upM_ok <| Zk @lu_eq <| Zk @luM_ok2 <| Zk @mo_mp <| Zk @moM_map <| Zk @zv_eq @zvA_v
end
def KeysD (d : KTy) (es : MapA) : Prop := ∀ e ∈ es, isKeyA d e.2.1 = true
theorem keysOk_of {d : KTy} {k : DV} {es : MapA} (hk : isKeyA d k = true) (h : KeysD d es) : keysOk d k es = true := by
  simp only [keysOk, hk, Bool.true_and, List.all_eq_true]
  exact h
theorem eqL_iff : ∀ (l : List Lf) (xs ys : List D), fitsL l xs = true → fitsL l ys = true → (eqL xs ys = true ↔ xs = ys)
  | [], [], [], _, _ => by simp [eqL]
  | [], _ :: _, _, h, _ => by simp [fitsL] at h
  | [], [], _ :: _, _, h => by simp [fitsL] at h
  | a :: l, [], _, h, _ => by cases a <;> simp [fitsL] at h
  | a :: l, _ :: _, [], _, h => by cases a <;> simp [fitsL] at h
  | a :: l, x :: xs, y :: ys, hx, hy => by
    cases a <;> cases x <;> simp only [fitsL, Bool.false_eq_true, Bool.and_eq_true, decide_eq_true_eq] at hx <;> cases y <;> simp only [fitsL, Bool.false_eq_true, Bool.and_eq_true, decide_eq_true_eq] at hy
    · simp [eqL, eqL_iff l xs ys hx hy]
    · obtain ⟨k1, hx⟩ := hx
      obtain ⟨k2, hy⟩ := hy
      subst k1 k2
      simp [eqL, eqL_iff l xs ys hx hy]
    simp [eqL, eqL_iff l xs ys hx hy]
theorem keyEq_iff {d : KTy} {a b : DV} (ha : isKeyA d a = true) (hb : isKeyA d b = true) : keyEq a b = true ↔ a = b := by
  cases a with
  | agg xs =>
    cases d <;> simp only [isKeyA, Bool.false_eq_true] at ha
    cases b with
    | c y => cases y <;> simp [isKeyA] at hb
    | agg ys => rw [show keyEq (.agg xs) (.agg ys) = eqL xs ys from rfl, eqL_iff _ xs ys ha hb, DV.agg.injEq]
  | c x => cases b with
    | agg xs => cases d <;> cases x <;> simp [isKeyA] at ha <;> simp [isKeyA] at hb
    | c y => cases d <;> cases x <;> simp [isKeyA] at ha <;> cases y <;> simp [isKeyA] at hb <;> simp [keyEq] <;> simp_all
def getM (es : MapA) (k : DV) : Option DV := pickA es k
theorem getM_nil {k : DV} : getM [] k = none := rfl
theorem getM_cons {e : Nat × DV × DV} {es : MapA} {k : DV} : getM (e :: es) k = if keyEq e.2.1 k = true then some e.2.2 else getM es k := by
  unfold getM pickA findA
  rw [List.findIdx?_cons]
  by_cases hq : keyEq e.2.1 k = true
  · rw [if_pos hq, if_pos hq]; rfl
  rw [if_neg hq, if_neg hq]
  cases es.findIdx? fun e => keyEq e.2.1 k with
  | none => rfl
  | some j => simp
theorem find_some_get {k : DV} : ∀ {es : MapA}, (findA k es).isSome = (getM es k).isSome
  | [] => rfl
  | e :: es => by
    rw [getM_cons]
    unfold findA
    rw [List.findIdx?_cons]
    by_cases hq : keyEq e.2.1 k = true
    · rw [if_pos hq, if_pos hq]; rfl
    rw [if_neg hq, if_neg hq, ← find_some_get (es := es)]
    unfold findA
    cases es.findIdx? fun e => keyEq e.2.1 k <;> rfl
theorem getM_append {k : DV} {ks : MapA} : ∀ {es : MapA}, getM (es ++ ks) k = (getM es k).or (getM ks k)
  | [] => by simp [getM_nil]
  | e :: es => by
    rw [List.cons_append, getM_cons, getM_cons, getM_append (es := es)]
    split <;> simp
open Classical in
theorem getM_modify {d : KTy} {k k' y : DV} (hk : isKeyA d k = true) (hk' : isKeyA d k' = true) : ∀ {es : MapA} {i : Nat}, KeysD d es → findA k es = some i →
    getM (es.modify i fun e => (e.1, k, y)) k' = if k = k' then some y else getM es k'
  | [], i, _, h => by simp [findA] at h
  | e :: es, i, hd, h => by
    have he := hd e List.mem_cons_self
    unfold findA at h
    rw [List.findIdx?_cons] at h
    by_cases hq : keyEq e.2.1 k = true
    · rw [if_pos hq] at h
      cases h
      have hek := (keyEq_iff he hk).1 hq
      rw [List.modify_zero_cons, getM_cons, getM_cons]
      by_cases hkk : k = k'
      · subst hkk
        rw [if_pos ((keyEq_iff hk hk).2 rfl), if_pos rfl]
      rw [if_neg (fun h => hkk ((keyEq_iff hk hk').1 h)), if_neg hkk, if_neg (fun h => hkk (by rw [← hek]; exact (keyEq_iff he hk').1 h))]
    rw [if_neg hq] at h
    simp only [Option.map_eq_some_iff] at h
    obtain ⟨j, hj, rfl⟩ := h
    rw [List.modify_succ_cons, getM_cons, getM_cons, getM_modify hk hk' (fun e he => hd e (List.mem_cons_of_mem _ he)) hj]
    by_cases hkk : k = k'
    · subst hkk
      rw [if_neg hq, if_pos rfl]
      simp
    rw [if_neg hkk]
    simp [hkk]
open Classical in
theorem putA_spec {d : KTy} {k y : DV} {es : MapA} {c : Nat} (hk : isKeyA d k = true) (hd : KeysD d es) :
    ∃ es' c', putA es c k y = .map es' c' ∧ KeysD d es' ∧ es'.length ≤ es.length + 1 ∧ ∀ k', isKeyA d k' = true → getM es' k' = if k = k' then some y else getM es k' := by
  unfold putA
  cases hf : findA k es with
  | some i =>
    refine ⟨_, _, rfl, fun e he => ?_, by simp, fun k' hk' => getM_modify hk hk' hd hf⟩
    obtain ⟨j, hj⟩ := List.getElem?_of_mem he
    rw [List.getElem?_modify] at hj
    cases hq : es[j]? with
    | none => simp [hq] at hj
    | some q =>
      simp only [hq, Option.map_eq_map, Option.map_some, Option.some.injEq] at hj
      subst hj
      split
      · exact hk
      · exact hd q (List.mem_of_getElem? hq)
  | none =>
    refine ⟨_, _, rfl, fun e he => ?_, by simp, fun k' hk' => ?_⟩
    · rcases List.mem_append.1 he with h | h
      · exact hd e h
      simp at h; subst h; exact hk
    rw [getM_append, getM_cons, getM_nil]
    have hn : getM es k = none := by
      have := find_some_get (k := k) (es := es)
      rw [hf] at this
      simpa using this.symm
    by_cases hkk : k = k'
    · subst hkk
      rw [if_pos rfl, hn]
      simp [(keyEq_iff hk hk).2 rfl]
    rw [if_neg hkk]
    have : ¬ keyEq k k' = true := fun h => hkk ((keyEq_iff hk hk').1 h)
    simp [this]
theorem pkV_eq {es : MapA} {k : DV} {z : V} : pkV es k z = match getM es k with | some v => v.V | none => z := rfl
end Go.Ab
namespace Go.Ab
open Go.RowKit
def argV : Nat → List AV → List (Nat × AV)
  | _, [] => []
  | k, x :: r => (k, x) :: argV (k + 1) r
theorem look_argV : ∀ (args : List AV) (k t : Nat), look (argV k args) t = if k ≤ t then (args[t - k]?).getD .top else .top
  | [], k, t => by simp [argV, look]
  | x :: r, k, t => by
    simp only [argV, look, look_argV r]
    by_cases h : k = t
    · subst h; simp
    rw [if_neg h]
    by_cases h2 : k ≤ t
    · rw [if_pos h2, if_pos (by omega)]
      have : t - k = (t - (k + 1)) + 1 := by omega
      rw [this, List.getElem?_cons_succ]
    rw [if_neg h2, if_neg (by omega)]
def AV.one : AV → Option V
  | .v x => some x
  | .tup _ => none
def resOneV (X : Ctx) (s : S) : ResultVar → Option V
  | .tmp t => (s.get t).one
  | .cell a t => (X.loadA s.h t (s.get a)).bind AV.one
def resAllV (X : Ctx) (s : S) : List ResultVar → Option (List V)
  | [] => some []
  | x :: r => (resOneV X s x).bind fun p => (resAllV X s r).map fun ps => p :: ps
def resVV : List V → AV
  | [x] => .v x
  | l => .tup l
def RetsV (X : Ctx) (rs : List ResultVar) (out : COut) : Ex → S → Prop
  | .ret, s => ∃ vs, resAllV X s rs = some vs ∧ out = .ret (resVV vs) s.h
  | .normal, s => ∃ vs, resAllV X s rs = some vs ∧ out = .ret (resVV vs) s.h
  | _, _ => False
theorem resultsV_run {X : Ctx} {A : Actn} {E : Env} {s : S} {a : Act} (hrel : Rel A E s a E.w) : ∀ (rs : List ResultVar) (r : List V), resAllV X s rs = some r →
    ∃ vs : List Value, (rs.mapM (resSem a.tmps)).run X.P E.w = .ok vs E.w ∧ vs.length = r.length ∧ ∀ (j : Nat) (x : V), r[j]? = some x → ∃ u, vs[j]? = some u ∧ x.rel E s.h u
  | [], r, h => by simp [resAllV] at h; subst h; exact ⟨[], by simp, rfl, fun j x hj => by simp at hj⟩
  | x :: rs, r, h => by
    simp only [resAllV, Option.bind_eq_some_iff, Option.map_eq_some_iff] at h
    obtain ⟨p, hp, ps, hps, rfl⟩ := h
    obtain ⟨vs, hvs, hl, hx⟩ := resultsV_run hrel rs ps hps
    have one : ∃ u, (resSem a.tmps x).run X.P E.w = .ok u E.w ∧ p.rel E s.h u := by
      cases x with
      | tmp t =>
        refine ⟨_, rfl, ?_⟩
        have hr := hrel.tmps t
        simp only [resOneV] at hp
        cases hg : s.get t with
        | v y => rw [hg] at hp hr; cases hp; exact hr
        | tup l => rw [hg] at hp; cases hp
      | cell q t =>
        simp only [resOneV, Option.bind_eq_some_iff] at hp
        obtain ⟨v, hv, hvp⟩ := hp
        obtain ⟨b, o, u, hu1, hu2, hr⟩ := load_rel hrel (hrel.tmps q) hv
        cases v with
        | v y => cases hvp; exact ⟨u, by simp only [resSem, hu1, asAddr, Sem.run_bind, Sem.run_pure, Result.andThen_ok, hu2], hr⟩
        | tup l => cases hvp
    obtain ⟨u, hu, hr⟩ := one
    refine ⟨u :: vs, ?_, by simp [hl], fun j q hj => ?_⟩
    · rw [List.mapM_cons]
      simp only [Sem.run_bind, hu, Result.andThen_ok, hvs, Sem.run_pure]
    cases j with
    | zero => simp at hj; subst hj; exact ⟨u, rfl, hr⟩
    | succ j => simpa using hx j q (by simpa using hj)
abbrev KTab := List (FuncId × (List AV → Hp → Option COut))
def tabK : KTab → FuncId → List AV → Hp → Option COut
  | [], _, _, _ => none
  | (k, m) :: r, f, args, h => if k = f then m args h else tabK r f args h
def ctxK (P : Program) (G : Gl) (tab : Tab) (ktab : KTab) : Ctx := ⟨P, G, tabM tab, tabK ktab, fun _ => none, none, fun _ => false, fun _ => false⟩
def ImpC (P : Program) (G : Gl) (f : FuncId) (m : List AV → Hp → Option COut) : Prop := ∀ args h out, m args h = some out → FOk P G f args h out
inductive AllK (P : Program) (G : Gl) : KTab → Prop where
  | nil : AllK P G []
  | cons {f : FuncId} {m : List AV → Hp → Option COut} {r : KTab} (h : ImpC P G f m) (hr : AllK P G r) : AllK P G ((f, m) :: r)
theorem AllK.get {P : Program} {G : Gl} {tab : KTab} (h : AllK P G tab) {f : FuncId} {args : List AV} {hp : Hp} {out : COut} (hg : tabK tab f args hp = some out) : FOk P G f args hp out := by
  induction h with
  | nil => cases hg
  | cons h hr ih =>
    simp only [tabK] at hg
    split at hg
    · rename_i he
      subst he
      exact h _ _ _ hg
    exact ih hg
theorem kok_of {P : Program} {G : Gl} {tab : Tab} {ktab : KTab} (h : AllOk P G tab) (hk : AllK P G ktab) : KOk (ctxK P G tab ktab) := by
  intro f args hp out ho
  simp only [hdl, ctxK] at ho
  cases hm : tabM tab f with
  | none =>
    simp only [hm] at ho
    exact hk.get ho
  | some g =>
    simp only [hm, Option.map_eq_some_iff] at ho
    obtain ⟨v, hv, rfl⟩ := ho
    obtain ⟨m, rfl, hp⟩ := h.get hm
    exact fok_of_pure hp hv
end Go.Ab
namespace Go.Ab
open Go.RowKit
variable {X : Ctx} {h : Hp}
theorem mk_eq {t : TypeId} {l c : Int} : X.makeA h t l c = mkD X h l c (X.P.underlying t) := rfl
theorem mkD_sl {e : TypeId} {l c : Int} : mkD X h l c (some (.slice e)) = mkZ h l c (X.apz e) ((X.zero e).bind fun zr => (zr.cs).bind allD) := rfl
theorem mkZ_ok {l c : Int} {z b : Nat} {zd : List D} (h0 : (0 ≤ l) = True) (h1 : (l ≤ c) = True) (h2 : (zd.length = z) = True) (h3 : ((b : Int) * c ≤ 281474976710656) = True) (h4 : (c ≤ 4611686018427387904) = True) :
    mkZ h l c (some (z, b)) (some zd) = some (.v (.c (.msl h.length l.toNat)), h ++ [.tok l.toNat z (some ((rep l.toNat zd).map .d))]) := by
  simp only [mkZ, if_pos (And.intro (of_eq_true h0) (And.intro (of_eq_true h1) (And.intro (of_eq_true h2) (And.intro (of_eq_true h3) (of_eq_true h4)))))]
def MK := Zk @op_makeSlice <| Zk @mk_eq <| Zk @mkD_sl @mkZ_ok
end Go.Ab
namespace Go.Ab
open Go.RowKit
def C1.low (m : Nat) : C1 → Bool
  | .ptr id _ => decide (id < m)
  | .own id _ => decide (id < m)
  | .msl id _ => decide (id < m)
  | .bptr id _ _ => decide (id < m)
  | .fn _ caps => caps.all fun p => decide (p.1 < m)
  | .it id => decide (id < m)
  | .mp id => decide (id < m)
  | .mso id _ _ _ => decide (id < m)
  | .psl ps => ps.all fun p => decide (p.1 < m)
  | .ppt ps => ps.all fun p => decide (p.1 < m)
  | _ => true
def V.low (m : Nat) : V → Bool
  | .c x => x.low m
  | .agg xs => xs.all (C1.low m)
def AV.low (m : Nat) : AV → Bool
  | .v x => x.low m
  | .tup xs => xs.all (V.low m)
def Ob.low (m : Nat) : Ob → Bool
  | .box cs => cs.all (C1.low m)
  | .tok _ _ (some cs) => cs.all (C1.low m)
  | _ => true
theorem get_low {h g : Hp} {id : Nat} (hl : id < h.length) : (h ++ g)[id]? = h[id]? := List.getElem?_append_left hl
theorem At.low {E : Env} {h g : Hp} {k id b : Nat} (hl : id < h.length) (ha : At E (h ++ g) k id b) : At E h k id b := by
  obtain ⟨⟨o, ho, hk⟩, hb⟩ := ha
  exact ⟨⟨o, by rw [← get_low hl]; exact ho, hk⟩, hb⟩
theorem PCells.low {E : Env} {h g : Hp} {b o : Nat} {ps : List (Nat × Nat)} (hl : (ps.all fun p => decide (p.1 < h.length)) = true) (hp : PCells E (h ++ g) b o ps) : PCells E h b o ps := fun j p hj => by
  obtain ⟨hf, k, hk, hc⟩ := hp j p hj
  rw [List.all_eq_true] at hl
  have := hl p (List.mem_of_getElem? hj)
  exact ⟨hf, k, hk.low (by simpa using this), hc⟩
theorem C1.rel_low {E : Env} {h g : Hp} {v : Value} {x : C1} (hl : x.low h.length = true) (hr : x.rel E (h ++ g) v) : x.rel E h v := by
  cases x <;> simp only [C1.rel, C1.low, decide_eq_true_eq] at hr hl ⊢
  case d => exact hr
  case dptr => exact hr
  case nilp => exact hr
  case nili => exact hr
  case nilm => exact hr
  case ub => exact hr
  case ifc => exact hr
  case ptr id off => obtain ⟨b, hb, hv⟩ := hr; exact ⟨b, hb.low hl, hv⟩
  case it id => obtain ⟨b, hb, hv⟩ := hr; exact ⟨b, hb.low hl, hv⟩
  case mp id => obtain ⟨b, hb, hv⟩ := hr; exact ⟨b, hb.low hl, hv⟩
  case own id es => rw [get_low hl] at hr; exact hr
  case msl id n => rw [get_low hl] at hr; exact hr
  case mso id k o n =>
    obtain ⟨b, cap, hv, hc, m, z, c, hg, hr⟩ := hr
    rw [get_low hl] at hg
    exact ⟨b, cap, hv, hc, m, z, c, hg, hr⟩
  case bptr id n off =>
    obtain ⟨b, hv, m, z, c, hg, hr⟩ := hr
    rw [get_low hl] at hg
    exact ⟨b, hv, m, z, c, hg, hr⟩
  case fn f caps =>
    obtain ⟨vs, hv, hlen, hc⟩ := hr
    refine ⟨vs, hv, hlen, fun j p hp => ?_⟩
    obtain ⟨b, hb, hg⟩ := hc j p hp
    rw [List.all_eq_true] at hl
    have := hl p (List.mem_of_getElem? hp)
    exact ⟨b, hb.low (by simpa using this), hg⟩
  case psl ps => obtain ⟨b, o, cap, hv, hp⟩ := hr; exact ⟨b, o, cap, hv, hp.low hl⟩
  case ppt ps => obtain ⟨b, o, hv, hp⟩ := hr; exact ⟨b, o, hv, hp.low hl⟩
theorem CellsRel.low {E : Env} {h g : Hp} {vs : List Value} {xs : List C1} (hl : xs.all (C1.low h.length) = true) (hr : CellsRel E (h ++ g) vs xs) : CellsRel E h vs xs :=
  ⟨hr.1, fun j x hj => by
    obtain ⟨u, hu, h1, h2⟩ := hr.2 j x hj
    rw [List.all_eq_true] at hl
    exact ⟨u, hu, C1.rel_low (hl x (List.mem_of_getElem? hj)) h1, h2⟩⟩
theorem V.rel_low {E : Env} {h g : Hp} {v : Value} {x : V} (hl : x.low h.length = true) (hr : x.rel E (h ++ g) v) : x.rel E h v := by
  cases x with
  | c x => exact C1.rel_low hl hr
  | agg xs =>
    obtain ⟨vs, hv, hc⟩ := hr
    exact ⟨vs, hv, hc.low hl⟩
theorem AV.rel_low {E : Env} {h g : Hp} {v : Value} {x : AV} (hl : x.low h.length = true) (hr : x.rel E (h ++ g) v) : x.rel E h v := by
  cases x with
  | v x => exact V.rel_low hl hr
  | tup xs =>
    obtain ⟨vs, hv, hlen, hc⟩ := hr
    refine ⟨vs, hv, hlen, fun j x hj => ?_⟩
    obtain ⟨u, hu, h1⟩ := hc j x hj
    simp only [AV.low, List.all_eq_true] at hl
    exact ⟨u, hu, V.rel_low (hl x (List.mem_of_getElem? hj)) h1⟩
theorem all_low_d (m : Nat) (ds : List D) : (ds.map C1.d).all (C1.low m) = true := by
  rw [List.all_eq_true]
  intro x hx
  obtain ⟨d, _, rfl⟩ := List.mem_map.1 hx
  rfl
theorem Ob.rel_low {E : Env} {h g : Hp} {id : Nat} {o : Ob} (hl : o.low h.length = true) (hr : o.rel E (h ++ g) id) : o.rel E h id := by
  cases o with
  | dead => trivial
  | box cs =>
    obtain ⟨b, vs, T, h1, h2, h3, h4⟩ := hr
    exact ⟨b, vs, T, h1, h2, h3.low hl, h4⟩
  | tok n z c =>
    cases c with
    | none => exact hr
    | some ds =>
      obtain ⟨hz, hr⟩ := hr
      refine ⟨hz, ?_⟩
      rcases hr with hr | ⟨b, vs, T, h1, h2, h3, h4, h5⟩
      · exact .inl hr
      · exact .inr ⟨b, vs, T, h1, h2, h3, h4.low hl, h5⟩
  | siter s p => exact hr
  | map es c => exact hr
  | pin ob => exact hr
  | bld T e l on =>
    obtain ⟨b, h1, h2, h3⟩ := hr
    refine ⟨b, h1, h2, fun hon => ?_⟩
    obtain ⟨p, v, a1, a2, a3, aT, a4⟩ := h3 hon
    refine ⟨p, v, a1, a2, a3, aT, fun g hg => ?_⟩
    obtain ⟨q1, q2, q3, q4⟩ := a4 g hg
    exact ⟨q1, q2, q3, fun j hj => q4 j (by rw [List.length_append]; omega)⟩
theorem look_low {m : Nat} : ∀ {t : List (Nat × AV)}, (t.all fun p => p.2.low m) = true → ∀ k, (look t k).low m = true
  | [], _, _ => rfl
  | (j, v) :: r, h, k => by
    simp only [List.all_cons, Bool.and_eq_true] at h
    simp only [look]
    split
    · exact h.1
    exact look_low h.2 k
theorem Wk.cut {n : Nat} {t t' : List (Nat × AV)} {h g : Hp} (hn : n ≤ h.length) (hs : subT t t') (hl : (t'.all fun p => p.2.low h.length) = true) (ho : (h.all (Ob.low h.length)) = true) : Wk n ⟨t, h ++ g⟩ ⟨t', h⟩ := fun A E a w _ hr => by
  have hlt : ∀ {i : Nat} {o : Ob}, h[i]? = some o → (h ++ g)[i]? = some o := fun {i o} hi => by rw [get_low (lt_of_get hi)]; exact hi
  refine ⟨E, ?_, ?_, hr.world, hr.defers, fun k => ?_⟩
  · refine ⟨fun _ _ h => h, fun _ _ _ => rfl, fun id hid o ho _ => ⟨⟨o, ?_, rfl⟩, rfl⟩, fun id hid m z c hk => ⟨m, c, ?_, Nat.le_refl _, fun _ => ⟨rfl, fun b vs T _ hb => ⟨vs, T, hb, rfl⟩⟩⟩, hn⟩
    · have := get_low (g := g) (Nat.lt_of_lt_of_le hid hn)
      exact this ▸ ho
    have := get_low (g := g) (Nat.lt_of_lt_of_le hid hn)
    exact this ▸ hk
  · have he := hr.env
    have hle : h.length ≤ (h ++ g).length := by rw [List.length_append]; omega
    exact ⟨he.below, he.lt, he.old, he.f0, fun i j b hi hj => he.inj i j b (Nat.lt_of_lt_of_le hi hle) (Nat.lt_of_lt_of_le hj hle), fun i b hi => he.base i b (Nat.lt_of_lt_of_le hi hle),
      fun i o hi => Ob.rel_low (by rw [List.all_eq_true] at ho; exact ho o (List.mem_of_getElem? hi)) (he.ob i o (hlt hi)), he.glob, he.ginv, he.drw⟩
  show (look t' k).rel E h _
  rcases look_sub t' hs k with h1 | h1
  · rw [h1]; trivial
  refine AV.rel_low (look_low hl k) (g := g) ?_
  rw [h1]
  exact hr.tmps k
theorem Wk.cut' {n : Nat} {t t' : List (Nat × AV)} {h h' g : Hp} (e : h = h' ++ g) (hn : n ≤ h'.length) (hs : subT t t') (hl : (t'.all fun p => p.2.low h'.length) = true) (ho : (h'.all (Ob.low h'.length)) = true) : Wk n ⟨t, h⟩ ⟨t', h'⟩ := e ▸ Wk.cut hn hs hl ho
theorem Wk.cutk {n : Nat} {t t' : List (Nat × AV)} {h h' : Hp} {k : Nat} (hk : n ≤ k) (hk2 : k ≤ h.length) (e : h.take k = h') (hs : subT t t') (hl : (t'.all fun p => p.2.low k) = true) (ho : (h'.all (Ob.low k)) = true) : Wk n ⟨t, h⟩ ⟨t', h'⟩ := by
  subst e
  have hlen : (h.take k).length = k := by rw [List.length_take]; exact Nat.min_eq_left hk2
  have hw : Wk n ⟨t, h.take k ++ h.drop k⟩ ⟨t', h.take k⟩ := Wk.cut (by rw [hlen]; exact hk) hs (by rw [hlen]; exact hl) (by rw [hlen]; exact ho)
  rwa [List.take_append_drop] at hw
end Go.Ab
namespace Go.Ab
open Go.RowKit
def awpS (X : Ctx) : Code → S → (Ex → S → Prop) → Prop
  | .seq x y, s, Q => awpS X x s (fun ex s' => match ex with | .normal => ∃ s'', Wk s.h.length s' s'' ∧ awpS X y s'' Q | ex => Q ex s')
  | .cond c x y, s, Q => ∃ b, bIs (X.ev s c) b ∧ (b ≠ some false → awpS X x s Q) ∧ (b ≠ some true → awpS X y s Q)
  | .block id c, s, Q => awpS X c s (blk s.h.length id Q)
  | .loop c, s, Q => Lp s.h.length (awpS X c) s Q
  | .skip, s, Q => Q .normal s
  | .exit id, s, Q => Q (.exit id) s
  | .ret, s, Q => Q .ret s
  | c, s, Q => awp X c s Q
def seqS (n : Nat) (X : Ctx) (y : Code) (Q : Ex → S → Prop) : Ex → S → Prop
  | .normal, s => ∃ s', Wk n s s' ∧ awpS X y s' Q
  | ex, s => Q ex s
@[congr] theorem awpS_congr {X : Ctx} {c : Code} {s : S} {Q : Ex → S → Prop} : awpS X c s Q = awpS X c s Q := rfl
@[congr] theorem seqS_congr {n : Nat} {X : Ctx} {c : Code} {e : Ex} {s : S} {Q : Ex → S → Prop} : seqS n X c Q e s = seqS n X c Q e s := rfl
theorem awpS_seq {X : Ctx} {x y : Code} {t : List (Nat × AV)} {h : Hp} {Q : Ex → S → Prop} : awpS X (.seq x y) ⟨t, h⟩ Q = awpS X x ⟨t, h⟩ (seqS h.length X y Q) := by
  simp only [awpS]
  congr 1
  funext ex s'
  cases ex <;> rfl
theorem awpS_region {X : Ctx} {i : Nat} {ops : Array Oper} {d : Bool} {s : S} {Q : Ex → S → Prop} : awpS X (.region i ops d) s Q = awp X (.region i ops d) s Q := rfl
theorem awpS_cond {X : Ctx} {c : Operand} {x y : Code} {t : List (Nat × AV)} {h : Hp} {Q : Ex → S → Prop} : awpS X (.cond c x y) ⟨t, h⟩ Q = cnd (X.ev ⟨t, h⟩ c) (awpS X x ⟨t, h⟩ Q) (awpS X y ⟨t, h⟩ Q) := rfl
theorem awpS_block {X : Ctx} {i : Nat} {c : Code} {t : List (Nat × AV)} {h : Hp} {Q : Ex → S → Prop} : awpS X (.block i c) ⟨t, h⟩ Q = awpS X c ⟨t, h⟩ (blk h.length i Q) := rfl
theorem awpS_skip {X : Ctx} {s : S} {Q : Ex → S → Prop} : awpS X .skip s Q = Q .normal s := rfl
theorem awpS_exit {X : Ctx} {i : Nat} {s : S} {Q : Ex → S → Prop} : awpS X (.exit i) s Q = Q (.exit i) s := rfl
theorem awpS_ret {X : Ctx} {s : S} {Q : Ex → S → Prop} : awpS X .ret s Q = Q .ret s := rfl
theorem seqS_ret {n : Nat} {X : Ctx} {y : Code} {Q : Ex → S → Prop} {s : S} : seqS n X y Q .ret s = Q .ret s := rfl
theorem seqS_exit {n : Nat} {X : Ctx} {y : Code} {Q : Ex → S → Prop} {i : Nat} {s : S} : seqS n X y Q (.exit i) s = Q (.exit i) s := rfl
def AS := Zk @awpS_seq <| Zk @awpS_region <| Zk @awpS_cond <| Zk @awpS_block <| Zk @awpS_skip <| Zk @awpS_exit <| Zk @awpS_ret <| Zk @seqS_ret @seqS_exit
theorem seqS_id {n : Nat} {X : Ctx} {y : Code} {Q : Ex → S → Prop} {s : S} (h : awpS X y s Q) : seqS n X y Q .normal s := ⟨s, Wk.refl, h⟩
theorem awpS_loop {X : Ctx} {c : Code} {t : List (Nat × AV)} {h : Hp} {Q : Ex → S → Prop} {σ : Type} (I : σ → Prop) (sta : σ → S) (μ : σ → Nat) (x0 : σ) (h0 : Wk h.length ⟨t, h⟩ (sta x0)) (hI : I x0)
    (hs : ∀ x, I x → awpS X c (sta x) (lpQ h.length I sta μ (μ x) Q)) : awpS X (.loop c) ⟨t, h⟩ Q := by
  refine ⟨σ, I, sta, μ, ⟨x0, h0, hI⟩, fun x hx => ?_⟩
  have := hs x hx
  have e : (fun ex s' => match ex with | .normal => ∃ y, Wk h.length s' (sta y) ∧ I y ∧ μ y < μ x | ex => Q ex s') = lpQ h.length I sta μ (μ x) Q := by
    funext ex s'
    cases ex <;> rfl
  show awpS X c (sta x) (fun ex s' => match ex with | .normal => ∃ y, Wk h.length s' (sta y) ∧ I y ∧ μ y < μ x | ex => Q ex s')
  rw [e]
  exact this
variable {X : Ctx} {A : Actn}
theorem awpS_sim (hK : KOk X) (hm : X.P.follows .mixedOrders = true) {m : Nat} : ∀ (c : Code) (s : S) (Q : Ex → S → Prop) (a : Act) (E : Env), okCode X m c = true → awpS X c s Q → Now X A E s a → a.tmps.size = m →
    c.wp X.P (Post A s.h.length m E s.h Q) a E.w
  | .skip, s, Q, a, E, hok, h, hn, hs => awp_sim hK hm .skip s Q a E hok h hn hs
  | .exit id, s, Q, a, E, hok, h, hn, hs => awp_sim hK hm (.exit id) s Q a E hok h hn hs
  | .ret, s, Q, a, E, hok, h, hn, hs => awp_sim hK hm .ret s Q a E hok h hn hs
  | .region id ops draw, s, Q, a, E, hok, h, hn, hs => awp_sim hK hm (.region id ops draw) s Q a E hok h hn hs
  | .seq x y, s, Q, a, E, hok, h, hn, hs => by
    simp only [okCode, Bool.and_eq_true] at hok
    refine wp_seq (wp_mono (awpS_sim hK hm x s _ a E hok.1 h hn hs) fun e a1 w1 ⟨ex, s1, E1, ev, hrel, hsz, he, hq⟩ => ?_)
    by_cases hex : ex = .normal
    · subst hex
      have := exrel_normal he
      subst this
      obtain ⟨s2, hw2, hq⟩ := hq
      obtain ⟨E2, ev2, hrel2⟩ := hw2 A E1 a1 w1 ev.len hrel
      have hw := hrel2.world
      subst hw
      have ev12 := ev.trans ev2 (Nat.le_refl _)
      exact wp_mono (awpS_sim hK hm y s2 Q a1 E2 hok.2 hq ⟨hn.G, hrel2⟩ hsz) fun e a2 w2 ⟨ex, s3, E3, ev3, hrel3, hsz3, he3, hq3⟩ => ⟨ex, s3, E3, ev12.trans ev3 ev12.len, hrel3, hsz3, he3, hq3⟩
    · have hne : e ≠ .normal := fun h => hex (exrel_normal' (h ▸ he))
      rw [then_ne hne]
      exact ⟨ex, s1, E1, ev, hrel, hsz, he, by cases ex <;> first | exact absurd rfl hex | exact hq⟩
  | .cond c x y, s, Q, a, E, hok, h, hn, hs => by
    simp only [okCode, Bool.and_eq_true] at hok
    obtain ⟨b, hb, h1, h2⟩ := h
    have hr := ev_rel hn c
    obtain ⟨b', hb', i1, i2⟩ := bIs_inv hb hr
    refine wp_cond_split hb' (fun ht => awpS_sim hK hm x s Q a E hok.1 (h1 (i1 ht)) hn hs) (fun hf => awpS_sim hK hm y s Q a E hok.2 (h2 (i2 hf)) hn hs)
  | .block id c, s, Q, a, E, hok, h, hn, hs => by
    refine wp_block (wp_mono (awpS_sim hK hm c s _ a E hok h hn hs) fun e a1 w1 ⟨ex, s1, E1, ev, hrel, hsz, he, hq⟩ => ?_)
    cases ex with
    | exit i =>
      cases e <;> try (exact he.elim)
      have he' : i = _ := he
      subst he'
      simp only [Exit.inBlock, blk] at hq ⊢
      split at hq
      · rename_i hid
        rw [if_pos hid]
        obtain ⟨s2, hw, hq⟩ := hq
        obtain ⟨E2, ev2, hrel2⟩ := hw A E1 a1 w1 ev.len hrel
        exact ⟨.normal, s2, E2, ev.trans ev2 (Nat.le_refl _), hrel2, hsz, trivial, hq⟩
      · rename_i hid
        rw [if_neg hid]
        exact ⟨.exit i, s1, E1, ev, hrel, hsz, rfl, hq⟩
    | _ => cases e <;> first | exact he.elim | exact ⟨_, s1, E1, ev, hrel, hsz, he, hq⟩
  | .loop c, s, Q, a, E, hok, h, hn, hs => by
    obtain ⟨σ, I, sta, μ, ⟨x0, hw0, hI0⟩, hround⟩ := h
    obtain ⟨E0, ev0, hrel0⟩ := hw0 A E a E.w (Nat.le_refl _) hn.rel
    refine wp_loop_by (R := fun x a1 w1 => ∃ E1, I x ∧ Evo s.h.length E s.h E1 (sta x).h ∧ Rel A E1 (sta x) a1 w1 ∧ a1.tmps.size = m) (μ := μ) x0 ⟨E0, hI0, ev0, hrel0, hs⟩ fun x a1 w1 ⟨E1, hI1, ev1, hrel1, hs1⟩ => ?_
    have hw1 := hrel1.world
    subst hw1
    refine wp_mono (awpS_sim hK hm c (sta x) _ a1 E1 hok (hround x hI1) ⟨hn.G, hrel1⟩ hs1) fun e a2 w2 ⟨ex, s2, E2, ev2, hrel2, hsz2, he2, hq2⟩ => ?_
    have ev12 := ev1.trans ev2 ev1.len
    by_cases hex : ex = .normal
    · subst hex
      have := exrel_normal he2
      subst this
      obtain ⟨y, hw3, hI3, hμ⟩ := hq2
      obtain ⟨E3, ev3, hrel3⟩ := hw3 A E2 a2 w2 ev12.len hrel2
      exact ⟨y, ⟨E3, hI3, ev12.trans ev3 (Nat.le_refl _), hrel3, hsz2⟩, hμ⟩
    · have hne : e ≠ .normal := fun h => hex (exrel_normal' (h ▸ he2))
      rw [then_ne hne]
      exact ⟨ex, s2, E2, ev12, hrel2, hsz2, he2, by cases ex <;> first | exact absurd rfl hex | exact hq2⟩
  | .rangeFunc _ _ _ _, _, _, _, _, hok, _, _, _ => by simp [okCode] at hok
  | .scope _, _, _, _, _, hok, _, _, _ => by simp [okCode] at hok
  | .label _, _, _, _, _, hok, _, _, _ => by simp [okCode] at hok
  | .goto _, _, _, _, _, hok, _, _, _ => by simp [okCode] at hok
  | .refuse _, _, _, _, _, hok, _, _, _ => by simp [okCode] at hok
end Go.Ab
namespace Go.Ab
open Go.RowKit
theorem pure_of_awpS {X : Ctx} {f : FuncId} {fn : Func} {c : Code} {m : List PA → Option (List PA)} (hf : X.P.funcs[f]? = some fn) (hb : fn.body = some c) (hname : (fn.name == "runtime.NumGoroutine") = false)
    (hok : okCode X fn.ntmps c = true) (hmix : X.P.follows .mixedOrders = true) (hK : KOk X)
    (hbody : ∀ args r, m args = some r → args.length ≤ fn.ntmps ∧ awpS X c ⟨argSlots 0 args, []⟩ (Rets X fn.results.toList r)) : PureC X.P X.G f m := by
  have hne : ¬ fn.name = "runtime.NumGoroutine" := by simpa using hname
  refine ⟨fun vs w => by simp [callFunc, hf, hne, hb], fun w F vs args r hlt hG hvs hrel hm => ?_⟩
  obtain ⟨hal, ha⟩ := hbody args r hm
  let A : Actn := ⟨w, F, X.G, []⟩
  let E : Env := ⟨fun _ => none, F, w⟩
  let a : Act := { tmps := vs ++ Array.replicate (fn.ntmps - vs.size) undef, defers := [] }
  have hE : EnvOk A E [] := ⟨Below.refl _ _, hlt, fun b o _ h => h, fun b o h => h, fun i j b hi => by simp at hi, fun i b hi => by simp at hi, fun i o ho => by simp at ho, hG.1, hG.2, fun _ => Nat.le_refl _⟩
  have hr : Rel A E ⟨argSlots 0 args, []⟩ a w := by
    refine ⟨hE, rfl, rfl, fun t => ?_⟩
    show (look (argSlots 0 args) t).rel E [] _
    rw [look_args, if_pos (Nat.zero_le _), Nat.sub_zero]
    cases hx : args[t]? with
    | none => trivial
    | some x =>
      have htl := lt_of_get hx
      have hv := hrel t x hx
      have : a.tmps.getD t undef = vs.getD t undef := by
        simp only [a, Array.getD_eq_getD_getElem?]
        rw [Array.getElem?_append_left (by omega)]
      rw [this]
      exact DV.rel_av (E := E) hv
  have hsz : a.tmps.size = fn.ntmps := by simp [a]; omega
  refine calls_of_wp hf hb (wp_mono (awpS_sim hK hmix c ⟨argSlots 0 args, []⟩ _ a E hok ha ⟨rfl, hr⟩ hsz) fun e a' w' ⟨ex, s', E', ev, hrel', _, he, hq⟩ => ?_)
  have hw := hrel'.world
  subst hw
  have fin : resAll X s' fn.results.toList = some r → a'.defers = [] ∧ ∃ v, (results fn a'.tmps).run X.P E'.w = .ok v E'.w ∧ ∃ u, Ending.returned v = .returned u ∧ RRel E'.w (newF w F E'.w) u r ∧ Below w.heap.size w E'.w ∧ (X.G.dr = true → w.drawn ≤ E'.w.drawn) := by
    intro hres
    obtain ⟨vs', hv, hl, hx⟩ := results_run hrel' _ _ hres
    have hold : ∀ b o, E'.F b o → newF w F E'.w b o := fun b o hfr => by
      by_cases hbw : b < w.heap.size
      · exact .inl (hrel'.env.old b o hbw hfr)
      exact .inr ⟨by omega, hrel'.env.lt b o hfr⟩
    have hx' : ∀ (j : Nat) (x : PA), r[j]? = some x → ∃ u, vs'[j]? = some u ∧ x.rel E'.w (newF w F E'.w) u := fun j x hj => by
      obtain ⟨u, hu, hru⟩ := hx j x hj
      refine ⟨u, hu, ?_⟩
      cases x with
      | c d => exact Rd.mono hru hold (fun _ _ _ => rfl)
      | agg xs =>
        obtain ⟨us, rfl, h1, h2⟩ := hru
        exact ⟨us, rfl, h1, fun j x hj => let ⟨y, hy, hry⟩ := h2 j x hj; ⟨y, hy, hry.mono hold (fun _ _ _ => rfl)⟩⟩
    have hrun : (results fn a'.tmps).run X.P E'.w = .ok (match vs' with | [v] => v | l => .tuple l.toArray) E'.w := by
      have hm' : (fn.results.mapM (resSem a'.tmps)).run X.P E'.w = .ok vs'.toArray E'.w := by
        rw [Array.mapM_eq_mapM_toList]
        simp only [Sem.run_map, hv, Result.andThen_ok]
      rw [results_eq]
      simp only [Sem.run_bind, hm', Result.andThen_ok]
      cases vs' with
      | nil => simp
      | cons v l =>
        cases l with
        | nil => simp
        | cons v2 l => simp
    refine ⟨hrel'.defers, _, hrun, _, rfl, ?_, hrel'.env.below, hrel'.env.drw⟩
    unfold RRel
    split
    · obtain ⟨u, hu, hru⟩ := hx' 0 _ rfl
      cases vs' with
      | nil => cases hu
      | cons v l =>
        have : l = [] := List.eq_nil_of_length_eq_zero (by simpa using hl)
        subst this
        cases hu
        exact hru
    rename_i hne
    refine ⟨vs', ?_, hl, hx'⟩
    cases vs' with
    | nil => rfl
    | cons v l =>
      cases l with
      | nil =>
        cases r with
        | nil => simp at hl
        | cons x r =>
          have : r = [] := List.eq_nil_of_length_eq_zero (by simpa using hl.symm)
          subst this
          exact absurd rfl (hne x)
      | cons v2 l => rfl
  cases ex <;> simp only [Rets] at hq
  · have := exrel_normal he
    subst this
    exact fin hq
  cases e <;> first | exact he.elim | exact fin hq
theorem fok_of_awpS {X : Ctx} {f : FuncId} {fn : Func} {c : Code} {args : List AV} {h : Hp} {out : COut} (hf : X.P.funcs[f]? = some fn) (hb : fn.body = some c) (hname : (fn.name == "runtime.NumGoroutine") = false)
    (hok : okCode X fn.ntmps c = true) (hmix : X.P.follows .mixedOrders = true) (hK : KOk X) (hal : args.length ≤ fn.ntmps)
    (hbody : awpS X c ⟨argV 0 args, h⟩ (RetsV X fn.results.toList out)) : FOk X.P X.G f args h out := by
  have hne : ¬ fn.name = "runtime.NumGoroutine" := by simpa using hname
  intro A E vs hG hE hs hrel o a K Q hd
  have henter : (callFunc f vs).run X.P E.w = .ok (.enter f vs) E.w := by simp [callFunc, hf, hne, hb]
  rw [henter, Oper.upon_enter]
  let a0 : Act := { tmps := vs ++ Array.replicate (fn.ntmps - vs.size) undef, defers := [] }
  let A0 : Actn := { A with ds := [] }
  have hr : Rel A0 E ⟨argV 0 args, h⟩ a0 E.w := by
    refine ⟨hE.ds [], rfl, rfl, fun t => ?_⟩
    show (look (argV 0 args) t).rel E h _
    rw [look_argV, if_pos (Nat.zero_le _), Nat.sub_zero]
    cases hx : args[t]? with
    | none => trivial
    | some x =>
      have htl := lt_of_get hx
      have hv := hrel t x hx
      have : a0.tmps.getD t undef = vs.getD t undef := by
        simp only [a0, Array.getD_eq_getD_getElem?]
        rw [Array.getElem?_append_left (by omega)]
      rw [this]
      exact hv
  have hsz : a0.tmps.size = fn.ntmps := by simp [a0]; omega
  refine (calls_of_wp (R := fun e w' => ∃ v E', e = .returned v ∧ w' = E'.w ∧ ∃ r h', out = .ret r h' ∧ Evo h.length E h E' h' ∧ EnvOk A E' h' ∧ r.rel E' h' v) hf hb (wp_mono (awpS_sim (A := A0) hK hmix c ⟨argV 0 args, h⟩ _ a0 E hok hbody ⟨hG, hr⟩ hsz) fun e a' w' ⟨ex, s', E', ev, hrel', _, he, hq⟩ => ?_)).mono ?_
  · have hw := hrel'.world
    subst hw
    have fin : (∃ vs, resAllV X s' fn.results.toList = some vs ∧ out = .ret (resVV vs) s'.h) → a'.defers = [] ∧ ∃ v, (results fn a'.tmps).run X.P E'.w = .ok v E'.w ∧ ∃ u E'', Ending.returned v = .returned u ∧ E'.w = E''.w ∧ ∃ r h', out = .ret r h' ∧ Evo h.length E h E'' h' ∧ EnvOk A E'' h' ∧ r.rel E'' h' u := by
      rintro ⟨r, hres, hout⟩
      obtain ⟨vs', hv, hl, hx⟩ := resultsV_run hrel' _ _ hres
      have hrun : (results fn a'.tmps).run X.P E'.w = .ok (match vs' with | [v] => v | l => .tuple l.toArray) E'.w := by
        have hm' : (fn.results.mapM (resSem a'.tmps)).run X.P E'.w = .ok vs'.toArray E'.w := by
          rw [Array.mapM_eq_mapM_toList]
          simp only [Sem.run_map, hv, Result.andThen_ok]
        rw [results_eq]
        simp only [Sem.run_bind, hm', Result.andThen_ok]
        cases vs' with
        | nil => simp
        | cons v l =>
          cases l with
          | nil => simp
          | cons v2 l => simp
      refine ⟨hrel'.defers, _, hrun, _, E', rfl, rfl, _, _, hout, ev, hrel'.env.nods, ?_⟩
      match r, vs', hl, hx with
      | [x], [v], _, hx =>
        obtain ⟨u, hu, hru⟩ := hx 0 x rfl
        cases hu
        exact hru
      | [], [], _, hx => exact ⟨[], rfl, rfl, fun j x hj => by simp at hj⟩
      | x :: y :: r, v :: v2 :: l, hl, hx => exact ⟨v :: v2 :: l, rfl, hl, hx⟩
    cases ex <;> simp only [RetsV] at hq
    · have := exrel_normal he
      subst this
      exact fin hq
    cases e <;> first | exact he.elim | exact fin hq
  rintro e w' ⟨v, E', rfl, rfl, r, h', rfl, ev, hok', hrv⟩
  exact hd v E' ev hok' hrv
section
variable {P : Program} {G : Gl} {tab : Tab} {kt : KTab}
theorem kx_P : (ctxK P G tab kt).P = P := rfl
theorem kx_M {f : FuncId} : (ctxK P G tab kt).M f = tabM tab f := rfl
theorem kx_size {t : TypeId} : (ctxK P G tab kt).size t = (ctx P G tab).size t := rfl
theorem kx_isAgg {t : TypeId} : (ctxK P G tab kt).isAgg t = (ctx P G tab).isAgg t := rfl
theorem kx_zero {t : TypeId} : (ctxK P G tab kt).zero t = (ctx P G tab).zero t := rfl
theorem kx_apz {t : TypeId} : (ctxK P G tab kt).apz t = (ctx P G tab).apz t := rfl
theorem kx_place {t : TypeId} : (ctxK P G tab kt).place t = (ctx P G tab).place t := rfl
theorem kx_mapTy {t : TypeId} : (ctxK P G tab kt).mapTy t = (ctx P G tab).mapTy t := rfl
theorem kx_fldA {d : Option TypeDesc} {x : AV} {f : Nat} {h : Hp} : fldA (ctxK P G tab kt) d x f h = fldA (ctx P G tab) d x f h := by
  cases d with
  | none => rfl
  | some d => cases d <;> rfl
theorem kx_here {k : FuncId} {m : List AV → Hp → Option COut} {r : KTab} {args : List AV} {h : Hp} : tabK ((k, m) :: r) k args h = m args h := by simp [tabK]
theorem kx_next {k f : FuncId} {m : List AV → Hp → Option COut} {r : KTab} {args : List AV} {h : Hp} (hn : (k = f) = False) : tabK ((k, m) :: r) f args h = tabK r f args h := by simp [tabK, hn]
theorem kx_E {i : Nat} : (ctxK P G tab kt).E i = false := rfl
theorem kx_U {e : TypeId} : (ctxK P G tab kt).U e = false := rfl
theorem kx_B : (ctxK P G tab kt).B = none := rfl
theorem kx_call {h : Hp} {f : FuncId} {args : List AV} : clM (ctxK P G tab kt) h f args none = (tabK kt f args h).map COut.op := rfl
theorem kx_ret {v : AV} {h : Hp} : COut.op (.ret v h) = .val v h := rfl
def KX := Zk @kx_P <| Zk @kx_M <| Zk @kx_B <| Zk @kx_U <| Zk @kx_E <| Zk @kx_size <| Zk @kx_isAgg <| Zk @kx_zero <| Zk @kx_apz <| Zk @kx_place <| Zk @kx_mapTy <| Zk @kx_fldA <| Zk @kx_here <| Zk @kx_call <| Zk @kx_ret @tab_nil
end
theorem look_argV_cons {k : Nat} {x : AV} {r : List AV} : argV k (x :: r) = (k, x) :: argV (k + 1) r := rfl
theorem look_argV_nil {k : Nat} : argV k [] = [] := rfl
theorem hp_len {h g : Hp} : (h ++ g).length = h.length + g.length := List.length_append
theorem hp_get {h g : Hp} {k : Nat} : (h ++ g)[h.length + k]? = g[k]? := by rw [List.getElem?_append_right (by omega)]; congr 1; omega
theorem hp_get0 {h g : Hp} : (h ++ g)[h.length]? = g[0]? := by rw [List.getElem?_append_right (Nat.le_refl _), Nat.sub_self]
theorem hp_set {h g : Hp} {k : Nat} {o : Ob} : (h ++ g).set (h.length + k) o = h ++ g.set k o := by rw [List.set_append, if_neg (by omega)]; congr 2; omega
theorem hp_set0 {h g : Hp} {o : Ob} : (h ++ g).set h.length o = h ++ g.set 0 o := by rw [List.set_append, if_neg (by omega), Nat.sub_self]
end Go.Ab
