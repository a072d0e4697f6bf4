/-
  Loops by families of states, and what may be forgotten between rounds.
-/
import Derived.Test.YteeffcglpljdpaaDoorAb14
set_option linter.unusedSimpArgs false
set_option linter.unusedVariables false
namespace Go.Ab
open Go.RowKit

/-- What a round of a loop must reach. -/
def lpQ (n : Nat) {σ : Type} (I : σ → Prop) (sta : σ → S) (μ : σ → Nat) (m : Nat) (Q : Ex → S → Prop) : Ex → S → Prop
  | .normal, s' => ∃ y, Wk n s' (sta y) ∧ I y ∧ μ y < m
  | ex, s' => Q ex s'

@[congr] theorem lpQ_congr {n : Nat} {σ : Type} {I : σ → Prop} {sta : σ → S} {μ : σ → Nat} {m : Nat} {Q : Ex → S → Prop} {e : Ex} {s : S} : lpQ n I sta μ m Q e s = lpQ n I sta μ m Q e s := rfl
theorem lpQ_ret {n : Nat} {σ : Type} {I : σ → Prop} {sta : σ → S} {μ : σ → Nat} {m : Nat} {Q : Ex → S → Prop} {s : S} : lpQ n I sta μ m Q .ret s = Q .ret s := rfl
theorem lpQ_exit {n i : Nat} {σ : Type} {I : σ → Prop} {sta : σ → S} {μ : σ → Nat} {m : Nat} {Q : Ex → S → Prop} {s : S} : lpQ n I sta μ m Q (.exit i) s = Q (.exit i) s := rfl
theorem lpQ_pan {n : Nat} {x : C1} {σ : Type} {I : σ → Prop} {sta : σ → S} {μ : σ → Nat} {m : Nat} {Q : Ex → S → Prop} {s : S} : lpQ n I sta μ m Q (.pan x) s = Q (.pan x) s := rfl
theorem LP : type_of% @lpQ_ret ∧ type_of% @lpQ_exit ∧ type_of% @lpQ_pan := ⟨@lpQ_ret, @lpQ_exit, @lpQ_pan⟩

theorem lp_next {n : Nat} {σ : Type} {I : σ → Prop} {sta : σ → S} {μ : σ → Nat} {m : Nat} {Q : Ex → S → Prop} {s' : S} (y : σ) (hw : Wk n s' (sta y)) (hI : I y) (hμ : μ y < m) : lpQ n I sta μ m Q .normal s' := ⟨y, hw, hI, hμ⟩

theorem awp_loop {X : Ctx} {c : Code} {t : List (Nat × AV)} {h : Hp} {Q : Ex → S → Prop} {σ : Type} (I : σ → Prop) (sta : σ → S) (μ : σ → Nat) (x0 : σ) (h0 : Wk h.length ⟨t, h⟩ (sta x0)) (hI : I x0)
    (hs : ∀ x, I x → awp X c (sta x) (lpQ h.length I sta μ (μ x) Q)) : awp X (.loop c) ⟨t, h⟩ Q := by
  refine ⟨σ, I, sta, μ, ⟨x0, h0, hI⟩, fun x hx => awp_mono c _ _ _ (fun ex s' hq => ?_) (hs x hx)⟩
  cases ex <;> exact hq

theorem Wk.trans {n : Nat} {s s1 s2 : S} (h : Wk n s s1) (k : Wk n s1 s2) : Wk n s s2 := fun A E a w hn hr => by
  obtain ⟨E1, e1, r1⟩ := h A E a w hn hr
  obtain ⟨E2, e2, r2⟩ := k A E1 a w e1.len r1
  exact ⟨E2, e1.trans e2 (Nat.le_refl _), r2⟩

def subT (t : List (Nat × AV)) : List (Nat × AV) → Prop
  | [] => True
  | (k, v) :: r => look t k = v ∧ subT t r

theorem subT_nil {t : List (Nat × AV)} : subT t [] = True := rfl
theorem subT_cons {t r : List (Nat × AV)} {k : Nat} {v : AV} : subT t ((k, v) :: r) = (look t k = v ∧ subT t r) := rfl

theorem look_sub {t : List (Nat × AV)} : ∀ (t' : List (Nat × AV)), subT t t' → ∀ k, look t' k = .top ∨ look t' k = look t k
  | [], _, _ => .inl rfl
  | (j, v) :: r, h, k => by
    simp only [look]
    by_cases hj : j = k
    · rw [if_pos hj]
      subst hj
      exact .inr h.1.symm
    · rw [if_neg hj]
      exact look_sub r h.2 k

/-- Slots may be forgotten. -/
theorem Wk.sub {n : Nat} {t t' : List (Nat × AV)} {h : Hp} (hs : subT t t') : Wk n ⟨t, h⟩ ⟨t', h⟩ := fun A E a w hn hr =>
  ⟨E, Evo.refl hn, hr.env, hr.world, hr.defers, fun k => by
    show (look t' k).rel E h _
    rcases look_sub t' hs k with h1 | h1
    · rw [h1]; trivial
    · rw [h1]; exact hr.tmps k⟩

theorem Wk.sub' {n : Nat} {t t' : List (Nat × AV)} {h h' : Hp} (hs : subT t t') (hh : h = h') : Wk n ⟨t, h⟩ ⟨t', h'⟩ := hh ▸ Wk.sub hs

theorem rel_put {E : Env} {h : Hp} {a : Act} {t : List (Nat × AV)} {k : Nat} {v : AV} (hv : v.rel E h (a.tmps.getD k undef)) (ht : ∀ j, (look t j).rel E h (a.tmps.getD j undef)) : ∀ j, (look ((k, v) :: t) j).rel E h (a.tmps.getD j undef) := fun j => by
  simp only [look]
  by_cases hj : k = j
  · subst hj; rw [if_pos rfl]; exact hv
  · rw [if_neg hj]; exact ht j

/-- A slice that is nil (or has no room) becomes one that is appended to. -/
theorem Wk.own {n : Nat} {t : List (Nat × AV)} {h : Hp} (k z : Nat) (hz : 0 < z) (hk : look t k = .v (.c (.d (.sl true [])))) : Wk n ⟨t, h⟩ ⟨(k, .v (.c (.own h.length []))) :: t, h ++ [.tok 0 z none]⟩ := fun A E a w hn hr => by
  let E' : Env := { ρ := fun i => if i = h.length then none else E.ρ i, F := E.F, w := E.w }
  have st : Stp E h h.length E' (h ++ [.tok 0 z none]) := {
    os := rfl, tape := rfl, output := rfl, size := Nat.le_refl _, blk := fun _ _ _ => rfl, idle := Nat.le_refl _, len := by simp, len' := by simp
    ρ := fun j _ hj => by simp [E', hj]
    hh := fun j hj _ => by rw [List.getElem?_append_left hj]
    F := fun _ _ h => h
    F' := fun _ _ h => .inl h
    same := fun _ _ _ => rfl
    at' := fun b _ hb => by simp [E'] at hb
    keep := fun o ho => by have := lt_of_get ho; omega }
  have ev := st.evo hr.env
  have hat : (h ++ [Ob.tok 0 z none])[h.length]? = some (.tok 0 z none) := by simp
  refine ⟨E', ev.weak hn, st.ok hr.env fun o ho => ?_, hr.world, hr.defers, rel_put ?_ fun j => (hr.tmps j).evo ev (Nat.le_refl _)⟩
  · rw [hat] at ho
    cases ho
    exact ⟨hz, .inl ⟨by simp [E'], rfl⟩⟩
  · have hv := hr.tmps k
    have hv' : (look t k).rel E h _ := hv
    rw [hk] at hv'
    have hrd : Rd E.w E.F (a.tmps.getD k undef) (.sl true []) := hv'
    obtain ⟨base, cap, hu, hcap, hfull, hnil⟩ := sl_inv hrd
    have hc0 : cap = 0 := by have := hfull rfl; simpa using this
    subst hc0
    refine ⟨?_, 0, z, none, hat, Nat.le_refl _, by simp, fun _ => ?_⟩
    · show Rd E.w E.F _ _
      rw [hu]; exact .nil _ _
    · unfold OwnRow
      simp only [E', if_true]
      exact ⟨⟨base, hu⟩, trivial⟩

/-- The same, for a slice whose elements will be written. -/
theorem Wk.msl {n : Nat} {t : List (Nat × AV)} {h : Hp} (k z : Nat) (hz : 0 < z) (hk : look t k = .v (.c (.d (.sl true [])))) : Wk n ⟨t, h⟩ ⟨(k, .v (.c (.msl h.length 0))) :: t, h ++ [.tok 0 z (some [])]⟩ := fun A E a w hn hr => by
  let E' : Env := { ρ := fun i => if i = h.length then none else E.ρ i, F := E.F, w := E.w }
  have st : Stp E h h.length E' (h ++ [.tok 0 z (some [])]) := {
    os := rfl, tape := rfl, output := rfl, size := Nat.le_refl _, blk := fun _ _ _ => rfl, idle := Nat.le_refl _, len := by simp, len' := by simp
    ρ := fun j _ hj => by simp [E', hj]
    hh := fun j hj _ => by rw [List.getElem?_append_left hj]
    F := fun _ _ h => h
    F' := fun _ _ h => .inl h
    same := fun _ _ _ => rfl
    at' := fun b _ hb => by simp [E'] at hb
    keep := fun o ho => by have := lt_of_get ho; omega }
  have ev := st.evo hr.env
  have hat : (h ++ [Ob.tok 0 z (some [])])[h.length]? = some (.tok 0 z (some [])) := by simp
  refine ⟨E', ev.weak hn, st.ok hr.env fun o ho => ?_, hr.world, hr.defers, rel_put ?_ fun j => (hr.tmps j).evo ev (Nat.le_refl _)⟩
  · rw [hat] at ho
    cases ho
    exact ⟨hz, .inl ⟨by simp [E'], rfl, rfl⟩⟩
  · have hv := hr.tmps k
    have hv' : (look t k).rel E h _ := hv
    rw [hk] at hv'
    have hrd : Rd E.w E.F (a.tmps.getD k undef) (.sl true []) := hv'
    obtain ⟨base, cap, hu, hcap, hfull, hnil⟩ := sl_inv hrd
    have hc0 : cap = 0 := by have := hfull rfl; simpa using this
    subst hc0
    refine ⟨hrd.one, 0, z, some [], hat, Nat.le_refl _, fun _ => ?_⟩
    unfold OwnRow
    simp only [E', if_true]
    exact ⟨⟨base, hu⟩, trivial⟩

/-- A slice that was written is written no more. -/
theorem Wk.freeze {n : Nat} {t : List (Nat × AV)} {h : Hp} (k id m z : Nat) (ds : List D) (hk : look t k = .v (.c (.msl id m))) (hid : h[id]? = some (.tok m z (some ds))) :
    Wk n ⟨t, h⟩ ⟨(k, .v (.c (.own id (chunk z m ds)))) :: t, h.set id (.tok m z none)⟩ := fun A E a w hn hr => by
  have hidl := lt_of_get hid
  let E' : Env := { ρ := E.ρ, F := fun b o => E.F b o ∨ (E.ρ id = some b ∧ o < m * z), w := E.w }
  have st : Stp E h id E' (h.set id (.tok m z none)) := {
    os := rfl, tape := rfl, output := rfl, size := Nat.le_refl _, blk := fun _ _ _ => rfl, idle := Nat.le_of_lt hidl, len := by simp, len' := by simp; omega
    ρ := fun j _ hj => rfl
    hh := fun j hj hji => by rw [List.getElem?_set_ne (Ne.symm hji)]
    F := fun _ _ h => .inl h
    F' := fun b o h => by
      rcases h with h | ⟨h1, _⟩
      · exact .inl h
      · exact .inr ⟨(hr.env.base id b hidl h1).2, .inr ⟨hidl, h1⟩⟩
    same := fun _ _ _ => rfl
    at' := fun b _ hb => ⟨(hr.env.base id b hidl hb).2, .inr ⟨hidl, hb⟩⟩
    keep := fun o ho => by
      rw [hid] at ho
      cases ho
      exact ⟨m, none, by simp [hidl], Nat.le_refl _, fun _ => ⟨rfl, fun b vs T _ hb => ⟨vs, T, hb, rfl⟩⟩⟩ }
  have ev := st.evo hr.env
  have hat : (h.set id (.tok m z none))[id]? = some (.tok m z none) := by simp [hidl]
  have hob := hr.env.ob id _ hid
  obtain ⟨hz, hob⟩ := hob
  refine ⟨E', ev.weak hn, st.ok hr.env fun o ho => ?_, hr.world, hr.defers, rel_put ?_ fun j => (hr.tmps j).evo ev (Nat.le_refl _)⟩
  · rw [hat] at ho
    cases ho
    refine ⟨hz, ?_⟩
    rcases hob with ⟨h1, h2, _⟩ | ⟨b, vs, T, h1, h2, h3, h4, h5⟩
    · exact .inl ⟨h1, h2⟩
    · refine .inr ⟨b, vs, T, h1, h2, h3, fun o ho hf => ?_⟩
      rcases hf with hf | ⟨_, h6⟩
      · exact h5 o hf
      · omega
  · have hv' : (look t k).rel E h _ := hr.tmps k
    rw [hk] at hv'
    obtain ⟨h1, m', z', c', hid', _, ho⟩ := hv'
    rw [hid] at hid'
    cases hid'
    have ho := ho rfl
    rcases hob with ⟨g1, g2, g3⟩ | ⟨b, vs, T, g1, g2, g3, g4, g5⟩
    · subst g2; subst g3
      have ho' := ho
      unfold OwnRow at ho'
      rw [g1] at ho'
      obtain ⟨⟨base, hu⟩, _⟩ := ho'
      refine ⟨?_, 0, z, none, hat, Nat.le_refl _, by simp [chunk], fun _ => ?_⟩
      · show Rd E.w E'.F _ (.sl false [])
        rw [hu]
        exact .nil _ _
      · show OwnRow E' id 0 z _
        unfold OwnRow
        simp only [E', g1]
        exact ⟨⟨base, hu⟩, trivial⟩
    · have ho' := ho
      unfold OwnRow at ho'
      rw [g1] at ho'
      obtain ⟨cap, vs', T', hu, hc1, hc2, hb', hs'⟩ := ho'
      rw [g2] at hb'
      cases hb'
      have hdl : ds.length = m * z := by have := g4.1; simp at this; omega
      have hcl : (chunk z m ds).length = m := chunk_length z m ds
      have hrow : ∀ e ∈ chunk z m ds, e.length = z := fun e he => by
        obtain ⟨i, hi⟩ := List.getElem?_of_mem he
        obtain ⟨h3, rfl⟩ := chunk_get z m ds i e hi
        have : (i + 1) * z ≤ m * z := Nat.mul_le_mul_right _ h3
        rw [Nat.add_mul] at this
        simp
        omega
      refine ⟨?_, m, z, none, hat, by rw [hcl]; exact Nat.le_refl _, hrow, fun _ => ?_⟩
      · show Rd E.w E'.F _ _
        rw [hu]
        refine row_rd (z := z) g2 hcl hc1 (fun h => by cases h) g3 hrow (fun o ho => .inr ⟨g1, ho⟩) (fun i j e y hi hj => ?_) (fun o ho u hu' => ?_)
        · obtain ⟨h3, rfl⟩ := chunk_get z m ds i e hi
          have hjl := lt_of_get hj
          simp at hjl
          rw [List.getElem?_take, if_pos (by omega), List.getElem?_drop] at hj
          have hmap : (ds.map C1.d)[i * z + j]? = some (.d y) := by rw [List.getElem?_map, hj]; rfl
          obtain ⟨u, hu1, hu2, _⟩ := g4.2 _ _ hmap
          have hlt := lt_of_get hu1
          simp at hlt
          rw [List.getElem?_take, if_pos (by omega)] at hu1
          exact ⟨u, by simpa using hu1, Rd.mono hu2 (fun _ _ h => .inl h) (fun _ _ _ => rfl)⟩
        · have hmap : (ds.map C1.d)[o]? = some (.d (ds[o]'(by omega))) := by rw [List.getElem?_map, List.getElem?_eq_getElem (by omega)]; rfl
          obtain ⟨u', hu1, _, hu3⟩ := g4.2 _ _ hmap
          rw [List.getElem?_take, if_pos (by omega)] at hu1
          have : vs[o]? = some u' := by simpa using hu1
          rw [this] at hu'
          cases hu'
          exact hu3
      · show OwnRow E' id m z _
        unfold OwnRow
        simp only [E', g1]
        exact ⟨cap, vs, T, hu, hc1, hc2, g2, hs'⟩

theorem wI {n : Int} (h1 : -9223372036854775808 ≤ n) (h2 : n ≤ 9223372036854775807) : IntKind.i64.wrap n = n := by rw [IntKind.wrap_i64]; omega

end Go.Ab
