/-
  Texts of the layer and of the laws, put together: AbH19, AbH20, AbTF8.
-/
import Derived.Test.YtbcklcmhmbfgnaaGreatDoorAbF14
import Derived.Test.YtbcklcmhmbfgnaaGreatDoorAbF36
import Derived.Test.YtbcklcmhmbfgnaaGreatDoorAbF37
import Derived.Test.YtbcklcmhmbfgnaaGreatDoorAbF11
set_option linter.unusedSimpArgs false
set_option linter.unusedVariables false
set_option maxRecDepth 100000
set_option linter.defProp false
namespace Go.Ab
open Go.RowKit
def C1.ren (σ : Nat → Nat) : C1 → C1
  | .ptr id o => .ptr (σ id) o
  | .own id es => .own (σ id) es
  | .msl id n => .msl (σ id) n
  | .bptr id n o => .bptr (σ id) n o
  | .fn f caps => .fn f (caps.map fun p => (σ p.1, p.2))
  | .it id => .it (σ id)
  | .mp id => .mp (σ id)
  | .mso id m o n => .mso (σ id) m o n
  | .psl ps => .psl (ps.map fun p => (σ p.1, p.2))
  | .ppt ps => .ppt (ps.map fun p => (σ p.1, p.2))
  | x => x
def V.ren (σ : Nat → Nat) : V → V
  | .c x => .c (x.ren σ)
  | .agg xs => .agg (xs.map (C1.ren σ))
def AV.ren (σ : Nat → Nat) : AV → AV
  | .v x => .v (x.ren σ)
  | .tup xs => .tup (xs.map (V.ren σ))
def Ob.ren (σ : Nat → Nat) : Ob → Ob
  | .box cs => .box (cs.map (C1.ren σ))
  | .tok n z (some cs) => .tok n z (some (cs.map (C1.ren σ)))
  | o => o
structure Ren (σ : Nat → Nat) (E : Env) (h : Hp) (E' : Env) (h' : Hp) : Prop where
  w : E'.w = E.w
  F : E'.F = E.F
  ρ : ∀ i, E'.ρ i = E.ρ (σ i)
  at' : ∀ (i : Nat) (o : Ob), h'[i]? = some o → h[σ i]? = some (o.ren σ)
theorem Ob.ren_kind {σ : Nat → Nat} {o : Ob} : (o.ren σ).kind = o.kind := by
  cases o with
  | tok n z c => cases c <;> rfl
  | _ => rfl
theorem Ob.ren_tok {σ : Nat → Nat} {o : Ob} {n z : Nat} {c : Option (List C1)} (h : o.ren σ = .tok n z c) : ∃ c', o = .tok n z c' := by
  cases o with
  | tok n' z' c' => cases c' <;> (cases h; exact ⟨_, rfl⟩)
  | _ => cases h
section
variable {σ : Nat → Nat} {E E' : Env} {h h' : Hp}
theorem Ren.get (R : Ren σ E h E' h') {i : Nat} (hi : i < h'.length) : ∃ o, h'[i]? = some o ∧ h[σ i]? = some (o.ren σ) :=
  ⟨h'[i], List.getElem?_eq_getElem hi, R.at' i _ (List.getElem?_eq_getElem hi)⟩
theorem Ren.At (R : Ren σ E h E' h') {k id b : Nat} (hi : id < h'.length) (ha : At E h k (σ id) b) : At E' h' k id b := by
  obtain ⟨⟨o, ho, hk⟩, hb⟩ := ha
  obtain ⟨o', h1, h2⟩ := R.get hi
  rw [ho] at h2
  cases h2
  exact ⟨⟨o', h1, by rw [← hk, Ob.ren_kind]⟩, (R.ρ id).trans hb⟩
theorem Ren.tok (R : Ren σ E h E' h') {id n z : Nat} {c : Option (List C1)} (hi : id < h'.length) (ha : h[σ id]? = some (.tok n z c)) : ∃ c', h'[id]? = some (.tok n z c') := by
  obtain ⟨o', h1, h2⟩ := R.get hi
  rw [ha] at h2
  obtain ⟨c', rfl⟩ := Ob.ren_tok (Option.some.inj h2).symm
  exact ⟨c', h1⟩
theorem Ren.OwnRow (R : Ren σ E h E' h') {id n z : Nat} {v : Value} (ho : OwnRow E (σ id) n z v) : OwnRow E' id n z v := by
  unfold Go.Ab.OwnRow at *
  rw [R.ρ id, R.w]
  exact ho
theorem Ren.PCells (R : Ren σ E h E' h') {b o : Nat} {ps : List (Nat × Nat)} (hl : (ps.all fun p => decide (p.1 < h'.length)) = true) (hp : PCells E h b o (ps.map fun p => (σ p.1, p.2))) : PCells E' h' b o ps := fun j p hj => by
  rw [List.all_eq_true] at hl
  have hpl := hl p (List.mem_of_getElem? hj)
  obtain ⟨hf, k, hk, hc⟩ := hp j (σ p.1, p.2) (by rw [List.getElem?_map, hj]; rfl)
  exact ⟨by rw [R.F]; exact hf, k, R.At (by simpa using hpl) hk, by rw [R.w]; exact hc⟩
theorem C1.rel_ren (R : Ren σ E h E' h') {v : Value} {x : C1} (hl : x.low h'.length = true) (hr : (x.ren σ).rel E h v) : x.rel E' h' v := by
  cases x <;> simp only [C1.rel, C1.low, C1.ren, decide_eq_true_eq] at hr hl ⊢
  case d => rw [R.w, R.F]; exact hr
  case dptr => rw [R.w, R.F]; exact hr
  case nilp => exact hr
  case nili => exact hr
  case nilm => exact hr
  case ub => exact hr
  case ifc => rw [R.w, R.F]; exact hr
  case ptr id off => obtain ⟨b, hb, hv⟩ := hr; exact ⟨b, R.At hl hb, hv⟩
  case it id => obtain ⟨b, hb, hv⟩ := hr; exact ⟨b, R.At hl hb, hv⟩
  case mp id => obtain ⟨b, hb, hv⟩ := hr; exact ⟨b, R.At hl hb, hv⟩
  case own id es =>
    obtain ⟨h0, n, z, c, hk, h1, h2, h3⟩ := hr
    obtain ⟨c', hk'⟩ := R.tok hl hk
    exact ⟨by rw [R.w, R.F]; exact h0, n, z, c', hk', h1, h2, fun e => R.OwnRow (h3 e)⟩
  case msl id n =>
    obtain ⟨h0, m, z, c, hk, h1, h3⟩ := hr
    obtain ⟨c', hk'⟩ := R.tok hl hk
    exact ⟨h0, m, z, c', hk', h1, fun e => R.OwnRow (h3 e)⟩
  case mso id k o n =>
    obtain ⟨b, cap, hv, hc, m, z, c, hg, h1, h2⟩ := hr
    obtain ⟨c', hk'⟩ := R.tok hl hg
    exact ⟨b, cap, hv, hc, m, z, c', hk', h1, fun e => ⟨(R.ρ id).trans (h2 e).1, (h2 e).2⟩⟩
  case bptr id n off =>
    obtain ⟨b, hv, m, z, c, hg, h1, h2⟩ := hr
    obtain ⟨c', hk'⟩ := R.tok hl hg
    exact ⟨b, hv, m, z, c', hk', h1, fun e => (R.ρ id).trans (h2 e)⟩
  case fn f caps =>
    obtain ⟨vs, hv, hlen, hc⟩ := hr
    refine ⟨vs, hv, by rw [hlen, List.length_map], fun j p hp => ?_⟩
    obtain ⟨b, hb, hg⟩ := hc j (σ p.1, p.2) (by rw [List.getElem?_map, hp]; rfl)
    rw [List.all_eq_true] at hl
    have := hl p (List.mem_of_getElem? hp)
    exact ⟨b, R.At (by simpa using this) hb, hg⟩
  case psl ps =>
    obtain ⟨b, o, cap, hv, hp⟩ := hr
    rw [List.length_map] at hv
    exact ⟨b, o, cap, hv, R.PCells hl hp⟩
  case ppt ps => obtain ⟨b, o, hv, hp⟩ := hr; exact ⟨b, o, hv, R.PCells hl hp⟩
theorem CellsRel.ren (R : Ren σ E h E' h') {vs : List Value} {xs : List C1} (hl : xs.all (C1.low h'.length) = true) (hr : CellsRel E h vs (xs.map (C1.ren σ))) : CellsRel E' h' vs xs := by
  refine ⟨by rw [hr.1, List.length_map], fun j x hj => ?_⟩
  obtain ⟨u, hu, h1, h2⟩ := hr.2 j (x.ren σ) (by rw [List.getElem?_map, hj]; rfl)
  rw [List.all_eq_true] at hl
  exact ⟨u, hu, C1.rel_ren R (hl x (List.mem_of_getElem? hj)) h1, h2⟩
theorem V.rel_ren (R : Ren σ E h E' h') {v : Value} {x : V} (hl : x.low h'.length = true) (hr : (x.ren σ).rel E h v) : x.rel E' h' v := by
  cases x with
  | c x => exact C1.rel_ren R hl hr
  | agg xs => obtain ⟨vs, hv, hc⟩ := hr; exact ⟨vs, hv, hc.ren R hl⟩
theorem AV.rel_ren (R : Ren σ E h E' h') {v : Value} {x : AV} (hl : x.low h'.length = true) (hr : (x.ren σ).rel E h v) : x.rel E' h' v := by
  cases x with
  | v x => exact V.rel_ren R hl hr
  | tup xs =>
    obtain ⟨vs, hv, hlen, hc⟩ := hr
    refine ⟨vs, hv, by rw [hlen, List.length_map], fun j x hj => ?_⟩
    obtain ⟨u, hu, h1⟩ := hc j (x.ren σ) (by rw [List.getElem?_map, hj]; rfl)
    simp only [AV.low, List.all_eq_true] at hl
    exact ⟨u, hu, V.rel_ren R (hl x (List.mem_of_getElem? hj)) h1⟩
theorem Ob.rel_ren (R : Ren σ E h E' h') (hlt : ∀ j, j < h'.length → σ j < h.length) {id : Nat} {o : Ob} (hl : o.low h'.length = true) (hr : (o.ren σ).rel E h (σ id)) : o.rel E' h' id := by
  have hρ := R.ρ id
  cases o with
  | dead => trivial
  | box cs =>
    obtain ⟨b, vs, T, h1, h2, h3, h4⟩ := hr
    exact ⟨b, vs, T, hρ.trans h1, by rw [R.w]; exact h2, h3.ren R hl, by rw [R.F]; exact h4⟩
  | tok n z c =>
    cases c with
    | none =>
      obtain ⟨hz, hr⟩ := hr
      refine ⟨hz, ?_⟩
      rcases hr with ⟨h1, h2⟩ | ⟨b, vs, T, h1, h2, h3, h4⟩
      · exact .inl ⟨hρ.trans h1, h2⟩
      · exact .inr ⟨b, vs, T, hρ.trans h1, by rw [R.w]; exact h2, h3, by rw [R.F]; exact h4⟩
    | some ds =>
      obtain ⟨hz, hr⟩ := hr
      refine ⟨hz, ?_⟩
      rcases hr with ⟨h1, h2, h3⟩ | ⟨b, vs, T, h1, h2, h3, h4, h5⟩
      · exact .inl ⟨hρ.trans h1, h2, List.map_eq_nil_iff.1 h3⟩
      · exact .inr ⟨b, vs, T, hρ.trans h1, by rw [R.w]; exact h2, h3, h4.ren R hl, by rw [R.F]; exact h5⟩
  | siter s p =>
    obtain ⟨b, h1, h2⟩ := hr
    exact ⟨b, hρ.trans h1, by rw [R.w]; exact h2⟩
  | map es c =>
    obtain ⟨b, ents, h1, h2, h3, h4, h5⟩ := hr
    exact ⟨b, ents, hρ.trans h1, by rw [R.w]; exact h2, h3, by rw [R.F]; exact h4, by rw [R.w, R.F]; exact h5⟩
  | pin ob =>
    obtain ⟨b, h1, h2, h3⟩ := hr
    exact ⟨b, hρ.trans h1, by rw [R.w]; exact h2, by rw [R.F]; exact h3⟩
  | bld T e l on =>
    obtain ⟨b, h1, h2, h3⟩ := hr
    refine ⟨b, hρ.trans h1, by rw [R.F]; exact h2, fun hon => ?_⟩
    obtain ⟨p, v, a1, a2, a3, aT, a4⟩ := h3 hon
    refine ⟨p, v, by rw [R.w]; exact a1, a2, by rw [R.w]; exact a3, aT, fun g hg => ?_⟩
    obtain ⟨q1, q2, q3, q4⟩ := a4 g hg
    exact ⟨by rw [R.w]; exact q1, q2, by rw [R.F]; exact q3, fun j hj => by rw [R.ρ]; exact q4 _ (hlt j hj)⟩
end
def subR (σ : Nat → Nat) (t : List (Nat × AV)) : List (Nat × AV) → Prop
  | [] => True
  | (k, v) :: r => look t k = v.ren σ ∧ subR σ t r
theorem look_subR {σ : Nat → Nat} {t : List (Nat × AV)} : ∀ (t' : List (Nat × AV)), subR σ t t' → ∀ k, look t' k = .top ∨ look t k = (look t' k).ren σ
  | [], _, _ => .inl rfl
  | (j, v) :: r, h, k => by
    simp only [look]
    by_cases hj : j = k
    · rw [if_pos hj]
      subst hj
      exact .inr h.1
    rw [if_neg hj]
    exact look_subR r h.2 k
theorem Wk.ren {n : Nat} {t t' : List (Nat × AV)} {h h' : Hp} (σ : Nat → Nat) (hn : n ≤ h'.length) (hid : ∀ i, i < n → σ i = i) (hinj : ∀ i j, i < h'.length → j < h'.length → σ i = σ j → i = j)
    (hat : ∀ (i : Nat) (o : Ob), h'[i]? = some o → h[σ i]? = some (o.ren σ)) (hs : subR σ t t') (hl : (t'.all fun p => p.2.low h'.length) = true) (ho : LowH h') : Wk n ⟨t, h⟩ ⟨t', h'⟩ := fun A E a w _ hr => by
  let E' : Env := { ρ := fun i => E.ρ (σ i), F := E.F, w := E.w }
  have R : Ren σ E h E' h' := ⟨rfl, rfl, fun _ => rfl, hat⟩
  have hlt : ∀ j, j < h'.length → σ j < h.length := fun j hj => by
    obtain ⟨o, _, h2⟩ := R.get hj
    exact lt_of_get h2
  have he := hr.env
  refine ⟨E', ?_, ?_, hr.world, hr.defers, fun k => ?_⟩
  · refine ⟨fun _ _ h => h, fun _ _ _ => rfl, fun id hi o ho' _ => ?_, fun id hi m z c hk => ?_, hn⟩
    · obtain ⟨o', h1, h2⟩ := R.get (Nat.lt_of_lt_of_le hi hn)
      rw [hid id hi, ho'] at h2
      cases h2
      exact ⟨⟨o', h1, Ob.ren_kind.symm⟩, by show E.ρ (σ id) = _; rw [hid id hi]⟩
    obtain ⟨c', hk'⟩ := R.tok (c := c) (Nat.lt_of_lt_of_le hi hn) (by rw [hid id hi]; exact hk)
    exact ⟨m, c', hk', Nat.le_refl _, fun _ => ⟨by show E.ρ (σ id) = _; rw [hid id hi], fun b vs T _ hb => ⟨vs, T, hb, rfl⟩⟩⟩
  · exact ⟨he.below, he.lt, he.old, he.f0, fun i j b hi hj h1 h2 => hinj i j hi hj (he.inj _ _ b (hlt i hi) (hlt j hj) h1 h2), fun i b hi h1 => he.base _ b (hlt i hi) h1,
      fun i o hi => Ob.rel_ren R hlt (List.all_eq_true.1 ho o (List.mem_of_getElem? hi)) (he.ob _ _ (hat i o hi)), he.glob, he.ginv, he.drw⟩
  show (look t' k).rel E' h' _
  rcases look_subR t' hs k with h1 | h1
  · rw [h1]; trivial
  refine AV.rel_ren R (look_low hl k) ?_
  rw [← h1]
  exact hr.tmps k
def shf (m : Nat) (p : List Nat) (i : Nat) : Nat := if i < m then i else m + p.getD (i - m) 0
theorem shf_add {m j : Nat} {p : List Nat} : shf m p (m + j) = m + p.getD j 0 := by
  unfold shf
  rw [if_neg (by omega), Nat.add_sub_cancel_left]
theorem shf_0 {m : Nat} {p : List Nat} : shf m p m = m + p.getD 0 0 := by
  have := @shf_add m 0 p
  rwa [Nat.add_zero] at this
theorem shf_lt {m i : Nat} {p : List Nat} (h : i < m) : shf m p i = i := if_pos h
theorem C1.ren_low {σ : Nat → Nat} {m : Nat} (hσ : ∀ i, i < m → σ i = i) {x : C1} (h : x.low m = true) : x.ren σ = x := by
  have key : ∀ ps : List (Nat × Nat), (ps.all fun p => decide (p.1 < m)) = true → ps.map (fun p => (σ p.1, p.2)) = ps := fun ps hp => by
    rw [List.all_eq_true] at hp
    conv => rhs; rw [← List.map_id ps]
    refine List.map_congr_left fun p hm => ?_
    have := hp p hm
    rw [hσ p.1 (by simpa using this)]
    rfl
  cases x <;> simp only [C1.low, C1.ren, decide_eq_true_eq] at h ⊢ <;> first | (rw [hσ _ h]) | (rw [key _ h])
theorem C1.ren_all {σ : Nat → Nat} {m : Nat} (hσ : ∀ i, i < m → σ i = i) {xs : List C1} (h : xs.all (C1.low m) = true) : xs.map (C1.ren σ) = xs := by
  rw [List.all_eq_true] at h
  conv => rhs; rw [← List.map_id xs]
  exact List.map_congr_left fun x hx => C1.ren_low hσ (h x hx)
theorem Ob.ren_low {σ : Nat → Nat} {m : Nat} (hσ : ∀ i, i < m → σ i = i) {o : Ob} (h : o.low m = true) : o.ren σ = o := by
  cases o with
  | box cs => show Ob.box _ = _; rw [C1.ren_all hσ h]
  | tok n z c =>
    cases c with
    | none => rfl
    | some cs => show Ob.tok n z (some _) = _; rw [C1.ren_all hσ h]
  | _ => rfl
def renG (σ : Nat → Nat) (g : Hp) : List Nat → Hp → Prop
  | p :: ps, o :: os => g[p]? = some (o.ren σ) ∧ renG σ g ps os
  | [], [] => True
  | _, _ => False
theorem renG_at {σ : Nat → Nat} {g : Hp} : ∀ {ps : List Nat} {os : Hp}, renG σ g ps os → ps.length = os.length ∧ ∀ (j : Nat) (o : Ob), os[j]? = some o → g[ps.getD j 0]? = some (o.ren σ)
  | [], [], _ => ⟨rfl, fun j o h => by simp at h⟩
  | p :: ps, o :: os, h => by
    obtain ⟨h1, h2⟩ := renG_at h.2
    refine ⟨by simp [h1], fun j x hj => ?_⟩
    cases j with
    | zero => cases hj; exact h.1
    | succ j => exact h2 j x hj
  | [], _ :: _, h => h.elim
  | _ :: _, [], h => h.elim
theorem Wk.renk {n : Nat} {t t' : List (Nat × AV)} {h g g' H : Hp} (p : List Nat) (hH : H = h ++ g) (hn : n ≤ h.length) (hh : LowH h) (hp : p.Nodup) (hg : renG (shf h.length p) g p g') (hs : subR (shf h.length p) t t')
    (hl : (t'.all fun p => p.2.low (h.length + g'.length)) = true) (ho : (g'.all (Ob.low (h.length + g'.length))) = true) : Wk n ⟨t, H⟩ ⟨t', h ++ g'⟩ := by
  subst hH
  obtain ⟨hlen, hga⟩ := renG_at hg
  refine Wk.ren (shf h.length p) (by rw [List.length_append]; omega) (fun i hi => shf_lt (by omega)) (fun i j hi hj e => ?_) (fun i o hi => ?_) hs (by rw [List.length_append]; exact hl) (LowH.app hh ho)
  · rw [List.length_append] at hi hj
    by_cases h1 : i < h.length <;> by_cases h2 : j < h.length
    · rwa [shf_lt h1, shf_lt h2] at e
    · rw [shf_lt h1] at e
      unfold shf at e
      rw [if_neg h2] at e
      omega
    · rw [shf_lt h2] at e
      unfold shf at e
      rw [if_neg h1] at e
      omega
    unfold shf at e
    rw [if_neg h1, if_neg h2] at e
    have hi' : i - h.length < p.length := by omega
    have hj' : j - h.length < p.length := by omega
    simp only [List.getD_eq_getElem?_getD, List.getElem?_eq_getElem hi', List.getElem?_eq_getElem hj', Option.getD_some] at e
    have hpw := List.pairwise_iff_getElem.1 hp
    rcases Nat.lt_trichotomy (i - h.length) (j - h.length) with h3 | h3 | h3
    · exact absurd (show p[i - h.length] = p[j - h.length] by omega) (hpw _ _ hi' hj' h3)
    · omega
    exact absurd (show p[j - h.length] = p[i - h.length] by omega) (hpw _ _ hj' hi' h3)
  by_cases h1 : i < h.length
  · rw [List.getElem?_append_left h1] at hi
    rw [shf_lt h1, List.getElem?_append_left h1, hi, Ob.ren_low (fun j hj => shf_lt hj) (List.all_eq_true.1 hh o (List.mem_of_getElem? hi))]
  rw [List.getElem?_append_right (by omega)] at hi
  unfold shf
  rw [if_neg h1, List.getElem?_append_right (by omega), Nat.add_sub_cancel_left]
  exact hga _ _ hi
end Go.Ab
namespace Go.Ab
open Go.RowKit
def RetsZ (X : Ctx) (n : Nat) (rs : List ResultVar) (out : COut) : Ex → S → Prop
  | .ret, s => ∃ vs, resAllV X s rs = some vs ∧ ∃ r h', Wk n ⟨[(0, resVV vs)], s.h⟩ ⟨[(0, r)], h'⟩ ∧ out = .ret r h'
  | .normal, s => ∃ vs, resAllV X s rs = some vs ∧ ∃ r h', Wk n ⟨[(0, resVV vs)], s.h⟩ ⟨[(0, r)], h'⟩ ∧ out = .ret r h'
  | _, _ => False
theorem RetsZ_ret {X : Ctx} {n : Nat} {rs : List ResultVar} {out : COut} {s : S} : RetsZ X n rs out .ret s = ∃ vs, resAllV X s rs = some vs ∧ ∃ r h', Wk n ⟨[(0, resVV vs)], s.h⟩ ⟨[(0, r)], h'⟩ ∧ out = .ret r h' := rfl
theorem RetsZ_normal {X : Ctx} {n : Nat} {rs : List ResultVar} {out : COut} {s : S} : RetsZ X n rs out .normal s = ∃ vs, resAllV X s rs = some vs ∧ ∃ r h', Wk n ⟨[(0, resVV vs)], s.h⟩ ⟨[(0, r)], h'⟩ ∧ out = .ret r h' := rfl
def RZ := Zk @RetsZ_ret @RetsZ_normal
theorem fok_of_awpSZ {X : Ctx} {f : FuncId} {fn : Func} {c : Code} {args : List AV} {h : Hp} {out : COut} (hf : X.P.funcs[f]? = some fn) (hb : fn.body = some c) (hname : (fn.name == "runtime.NumGoroutine") = false)
    (hok : okCode X fn.ntmps c = true) (hmix : X.P.follows .mixedOrders = true) (hK : KOk X) (hal : args.length ≤ fn.ntmps)
    (hbody : awpS X c ⟨argV 0 args, h⟩ (RetsZ X h.length fn.results.toList out)) : FOk X.P X.G f args h out := by
  refine fok_of_end hf hb hname fun A E vs hG hE hs hrel => ?_
  have hr := enter_rel (n := fn.ntmps) [] hE hal hs hrel
  have hsz : (vs ++ Array.replicate (fn.ntmps - vs.size) undef).size = fn.ntmps := by simp; omega
  refine calls_of_wp hf hb (wp_mono (awpS_sim (A := { A with ds := [] }) hK hmix c ⟨argV 0 args, h⟩ _ _ E hok hbody ⟨hG, hr⟩ hsz) fun e a' w' ⟨ex, s', E', ev, hrel', _, he, hq⟩ => ?_)
  have hw := hrel'.world
  subst hw
  have fin : (∃ vs, resAllV X s' fn.results.toList = some vs ∧ ∃ r h', Wk h.length ⟨[(0, resVV vs)], s'.h⟩ ⟨[(0, r)], h'⟩ ∧ out = .ret r h') → a'.defers = [] ∧ ∃ v, (results fn a'.tmps).run X.P E'.w = .ok v E'.w ∧ EndOk A E h out (.returned v) E'.w := by
    rintro ⟨rs, hres, r, h', hwk, rfl⟩
    obtain ⟨v, hv, hrv⟩ := results_rel hrel' hres
    let a2 : Act := { tmps := #[v], defers := a'.defers }
    have h2 : Rel { A with ds := [] } E' ⟨[(0, resVV rs)], s'.h⟩ a2 E'.w := by
      refine ⟨hrel'.env, rfl, hrel'.defers, fun t => ?_⟩
      show (look [(0, resVV rs)] t).rel E' s'.h _
      simp only [look]
      split
      · rename_i ht
        subst ht
        exact hrv
      trivial
    obtain ⟨E2, ev2, hrel2⟩ := hwk _ E' a2 E'.w ev.len h2
    have hv2 : r.rel E2 h' v := hrel2.tmps 0
    exact ⟨hrel'.defers, v, hv, E2, h', hrel2.world.symm, ev.trans ev2 (Nat.le_refl _), hrel2.env.nods, .inl ⟨v, r, rfl, rfl, hv2⟩⟩
  cases ex <;> simp only [RetsZ] at hq
  · have := exrel_normal he
    subst this
    exact fin hq
  cases e <;> first | exact he.elim | exact fin hq
theorem Wk.backs {n : Nat} {t t' : List (Nat × AV)} {h : Hp} (g g' : Hp) (hh : LowH h) (hn : n ≤ h.length) (hs : subT t t') (hl : (t'.all fun p => p.2.low (h.length + g.length)) = true) (ho : (g.all (Ob.low (h.length + g.length))) = true) : Wk n ⟨t, h ++ (g ++ g')⟩ ⟨t', h ++ g⟩ :=
  Wk.back' (hh.app ho) happ.symm (by rw [List.length_append]; omega) hs (by rw [List.length_append]; exact hl)
theorem pure_out {P : Program} {G : Gl} {f : FuncId} {m m' : List PA → Option (List PA)} (h : PureC P G f m) (hm : ∀ args r, m' args = some r → ∃ r', m args = some r' ∧ r'.length = r.length ∧ ∀ (j : Nat) (x y : PA), r'[j]? = some x → r[j]? = some y → ∀ (w : World) (F : Fz) (v : Value), x.rel w F v → y.rel w F v) : PureC P G f m' := by
  refine ⟨h.1, fun w F vs args r hlt hG hs hrel ha => ?_⟩
  obtain ⟨r', hr', hl, hx⟩ := hm args r ha
  refine (h.2 w F vs args r' hlt hG hs hrel hr').mono ?_
  rintro e w' ⟨v, rfl, hv, hb, hd⟩
  refine ⟨v, rfl, ?_, hb, hd⟩
  have hgen : ∀ (l : List PA), RRel w' (newF w F w') v l ↔ (∃ x, l = [x] ∧ x.rel w' (newF w F w') v) ∨ (l.length ≠ 1 ∧ ∃ vs : List Value, v = .tuple vs.toArray ∧ vs.length = l.length ∧ ∀ (j : Nat) (x : PA), l[j]? = some x → ∃ u, vs[j]? = some u ∧ x.rel w' (newF w F w') u) := fun l => by
    match l with
    | [x] =>
      constructor
      · exact fun h => .inl ⟨x, rfl, h⟩
      · rintro (⟨y, e, h⟩ | ⟨hne, _⟩)
        · cases e; exact h
        · exact absurd rfl hne
    | [] =>
      constructor
      · exact fun h => .inr ⟨by simp, h⟩
      · rintro (⟨y, e, h⟩ | ⟨_, h⟩)
        · cases e
        · exact h
    | a :: b :: l =>
      constructor
      · exact fun h => .inr ⟨by simp, h⟩
      rintro (⟨y, e, h⟩ | ⟨_, h⟩)
      · cases e
      exact h
  rw [hgen r]
  rcases (hgen r').1 hv with ⟨x, rfl, h1⟩ | ⟨hne, us, rfl, h1, h2⟩
  · have : r.length = 1 := by rw [← hl]; rfl
    obtain ⟨y, rfl⟩ := List.length_eq_one_iff.1 this
    exact .inl ⟨y, rfl, hx 0 x y rfl rfl _ _ _ h1⟩
  refine .inr ⟨by omega, us, rfl, by omega, fun j y hj => ?_⟩
  have hjl := lt_of_get hj
  have hq : r'[j]? = some (r'[j]'(by omega)) := List.getElem?_eq_getElem (by omega)
  obtain ⟨u, hu, h3⟩ := h2 j _ hq
  exact ⟨u, hu, hx j _ y hq hj _ _ _ h3⟩
end Go.Ab
namespace Go.Ab
open Go.RowKit Go.Proofs
def nf (f : Fil) : Fil := { f with rf := false }
theorem nf_id {f : Fil} (h : f.rf = false) : nf f = f := by
  obtain ⟨a, b, c, d, e⟩ := f
  cases h
  rfl
theorem lenFl {l : List Fil} : ((l.map Fil.row).length : Int) = l.length := by simp
theorem fl_at {l : List Fil} {j : Nat} (h : j < l.length) : (l.map Fil.row)[j]? = some [.str l[j].fr, .str l[j].dst, .int .i64 l[j].seq, .sl l[j].rf (l[j].recs.map Rec.row)] := by simp [h, Fil.row]
theorem allLen_fl {l : List Fil} : allLen 4 (l.map Fil.row) := fun r hr => by obtain ⟨x, _, rfl⟩ := List.mem_map.1 hr; rfl
theorem allLen_rc {l : List Rec} : allLen 5 (l.map Rec.row) := fun r hr => by obtain ⟨x, _, rfl⟩ := List.mem_map.1 hr; rfl
open Classical in
noncomputable def clW (z b : Nat) (args : List AV) (h : Hp) : Option COut := match args with
  | [.v (.c (.d (.sl _ es)))] => if allLen z es ∧ es.length * b ≤ 140737488355328 ∧ es.length ≤ 4611686018427387904 then some (.ret (.v (.c (.own h.length es))) (h ++ [.tok es.length z none])) else none
  | _ => none
theorem clW_inv {z b : Nat} {args : List AV} {h : Hp} {out : COut} (hm : clW z b args h = some out) : ∃ f es, args = [.v (.c (.d (.sl f es)))] ∧ allLen z es ∧ es.length * b ≤ 140737488355328 ∧ es.length ≤ 4611686018427387904 ∧ out = .ret (.v (.c (.own h.length es))) (h ++ [.tok es.length z none]) := by
  unfold clW at hm
  split at hm
  · rename_i f es
    split at hm
    · rename_i hc
      cases hm
      exact ⟨f, es, rfl, hc.1, hc.2.1, hc.2.2, rfl⟩
    cases hm
  cases hm
structure FlA where
  h : Hp
  f : Bool
  l : List Fil
def flRl (a : FlA) (args : List AV) (h : Hp) : Prop := args = [.v (.c (.d (.sl a.f (a.l.map Fil.row))))] ∧ h = a.h
theorem flRl_inj {a b : FlA} {args : List AV} {h : Hp} (ha : flRl a args h) (hb : flRl b args h) : b = a := by
  obtain ⟨a1, a2, a3⟩ := a
  obtain ⟨b1, b2, b3⟩ := b
  obtain ⟨h1, h2⟩ := ha
  obtain ⟨g1, g2⟩ := hb
  dsimp only at *
  subst h2 g2
  rw [h1] at g1
  simp only [List.cons.injEq, AV.v.injEq, V.c.injEq, C1.d.injEq, D.sl.injEq, and_true] at g1
  obtain ⟨rfl, g2⟩ := g1
  rw [mapFl_inj.1 g2]
def flOk (l : List Fil) : Prop := l.length ≤ 1000000 ∧ ∀ f ∈ l, f.recs.length ≤ 1000000
noncomputable section
open Classical
def clR_k : List AV → Hp → Option COut := clW 5 48
def clP_m : List PA → Option (List PA) := mE encRs fun p => if p.2.length ≤ 1000000 then some [.c (.sl false (p.2.map Rec.row))] else none
def xcopied_m : List PA → Option (List PA) := mE encF fun f => if f.recs.length ≤ 1000000 then some [.agg (nf f).row] else none
def xfiles_k : List AV → Hp → Option COut := kR flRl fun a => if LowH a.h ∧ flOk a.l then some (.ret (.v (.c (.own a.h.length ((a.l.map nf).map Fil.row)))) (a.h ++ [.tok a.l.length 4 none])) else none
def xresend_m : List PA → Option (List PA) := mE encPt fun q => if flOk q.2.wait then some [.c (.sl false ((q.2.wait.map nf).map Fil.row))] else none
theorem clR_kok : ImpC Tryz.prog Gt 42 clR_k := by
  intro args h out h0
  refine fok_of_awpSW (X := ctxN Tryz.prog Gt [] [] [] none) Tryz.func42 rfl rfl (by kernel_rfl) (by kernel_rfl) (kok_n AllOk.nil AllK.nil AllN.nil) ?_ ?_
  · obtain ⟨f, es, rfl, _⟩ := clW_inv h0
    exact Nat.le_of_ble_eq_true rfl
  obtain ⟨f, es, rfl, h1, h2, h3, rfl⟩ := clW_inv h0
  have ap0 : ∀ h, apSl h 5 48 [] [] = some (.d (.sl true []), h) := fun h => by
    rw [apSl_new (by simp [allLen]) (by simp) (by simp)]
    simp
  by_cases c0 : es = []
  · subst c0
    have ee : ([] : List (List D)).isEmpty = true := rfl
    have hc := Nat.zero_add 0
    repeat' (first | simp only [hc, AS, Tryz.f42, NX, NPV, SX, ee, ZZ, simprocAttr, ↓reduceIte] | ((first | apply Za | apply Zb | apply Zc | apply Zd | apply Ze | apply Zf | apply Zg | apply Zh) <;> intro hc) | refine Zi ?_ | refine Zj ?_)
    refine ⟨seqS_id ?_, seqS_id ?_⟩
    · skip
      have hc := Nat.zero_add 0
      repeat' (first | simp only [hc, AS, Tryz.f42, NX, NPV, SX, ZZ, simprocAttr, ↓reduceIte] | ((first | apply Za | apply Zb | apply Zc | apply Zd | apply Ze | apply Zf | apply Zg | apply Zh) <;> intro hc) | refine Zi ?_ | refine Zj ?_)
      exact ⟨_, Wk.own 2 5 (by decide) (by simp [look]), [.c (.own h.length [])], by simp [resAllV, resOneV, S.get, look, AV.one], by simp [resVV]⟩
    · skip
      have hc := Nat.zero_add 0
      repeat' (first | simp only [hc, AS, Tryz.f42, NX, NPV, SX, ap0, ZZ, simprocAttr, ↓reduceIte] | ((first | apply Za | apply Zb | apply Zc | apply Zd | apply Ze | apply Zf | apply Zg | apply Zh) <;> intro hc) | refine Zi ?_ | refine Zj ?_)
      exact ⟨_, Wk.own 2 5 (by decide) (by simp [look]), [.c (.own h.length [])], by simp [resAllV, resOneV, S.get, look, AV.one], by simp [resVV]⟩
  have ee : es.isEmpty = false := by cases es <;> simp_all
  have ap : ∀ h, apSl h 5 48 [] es = some (.v (.c (.own h.length es)), h ++ [.tok es.length 5 none]) := fun h => by
    rw [apSl_new h1 h2 h3, if_neg (by simpa using c0)]
  have hc := Nat.zero_add 0
  repeat' (first | simp only [hc, AS, Tryz.f42, NX, NPV, SX, ee, ap, ZZ, simprocAttr, ↓reduceIte] | ((first | apply Za | apply Zb | apply Zc | apply Zd | apply Ze | apply Zf | apply Zg | apply Zh) <;> intro hc) | refine Zi ?_ | refine Zj ?_)
  exact ⟨_, Wk.refl, [.c (.own h.length es)], by simp [resAllV, resOneV, S.get, look, AV.one], by simp [resVV]⟩
theorem clP_ok : PureC Tryz.prog Gt 42 clP_m := by
  refine pure_of_awpSW (X := ctxN Tryz.prog Gt [] [] [] none) Tryz.func42 rfl rfl (by kernel_rfl) (by kernel_rfl) (kok_n AllOk.nil AllK.nil AllN.nil) ?_
  intro args r h0
  obtain ⟨⟨f, l⟩, rfl, h⟩ := mE_inv h0
  refine ⟨Nat.le_of_ble_eq_true rfl, ?_⟩
  split at h
  · rename_i hl
    dsimp only at hl h
    simp only [Option.some.injEq] at h
    have h1 := @allLen_rc l
    have h2 : (l.map Rec.row).length * 48 ≤ 140737488355328 := by simp; omega
    have h3 : (l.map Rec.row).length ≤ 4611686018427387904 := by simp; omega
    have hE : encRs (f, l) = [.c (.sl f (l.map Rec.row))] := rfl
    rw [hE]
    clear hE h0
    generalize l.map Rec.row = es at *
    have ap0 : ∀ h, apSl h 5 48 [] [] = some (.d (.sl true []), h) := fun h => by
      rw [apSl_new (by simp [allLen]) (by simp) (by simp)]
      simp
    by_cases c0 : es = []
    · subst c0
      have ee : ([] : List (List D)).isEmpty = true := rfl
      have hc := Nat.zero_add 0
      repeat' (first | simp only [hc, AS, Tryz.f42, encRs, NX, NPV, SX, ee, ZZ, simprocAttr, ↓reduceIte] | ((first | apply Za | apply Zb | apply Zc | apply Zd | apply Ze | apply Zf | apply Zg | apply Zh) <;> intro hc) | refine Zi ?_ | refine Zj ?_)
      refine ⟨seqS_id ?_, seqS_id ?_⟩
      · skip
        have hc := Nat.zero_add 0
        repeat' (first | simp only [hc, AS, Tryz.f42, NX, NPV, SX, ZZ, simprocAttr, ↓reduceIte] | ((first | apply Za | apply Zb | apply Zc | apply Zd | apply Ze | apply Zf | apply Zg | apply Zh) <;> intro hc) | refine Zi ?_ | refine Zj ?_)
        exact ⟨_, Wk.ofFull 2 true [] (by simp [look]), by rw [← h]; rfl⟩
      · skip
        have hc := Nat.zero_add 0
        repeat' (first | simp only [hc, AS, Tryz.f42, NX, NPV, SX, ap0, ZZ, simprocAttr, ↓reduceIte] | ((first | apply Za | apply Zb | apply Zc | apply Zd | apply Ze | apply Zf | apply Zg | apply Zh) <;> intro hc) | refine Zi ?_ | refine Zj ?_)
        exact ⟨_, Wk.ofFull 2 true [] (by simp [look]), by rw [← h]; rfl⟩
    have ee : es.isEmpty = false := by cases es <;> simp_all
    have ap : ∀ h, apSl h 5 48 [] es = some (.v (.c (.own h.length es)), h ++ [.tok es.length 5 none]) := fun h => by
      rw [apSl_new h1 h2 h3, if_neg (by simpa using c0)]
    have hc := Nat.zero_add 0
    repeat' (first | simp only [hc, AS, Tryz.f42, encRs, NX, NPV, SX, ee, ap, ZZ, simprocAttr, ↓reduceIte] | ((first | apply Za | apply Zb | apply Zc | apply Zd | apply Ze | apply Zf | apply Zg | apply Zh) <;> intro hc) | refine Zi ?_ | refine Zj ?_)
    exact ⟨_, Wk.ofOwn 2 0 es (by simp [look]), by rw [← h]; rfl⟩
  cases h
theorem clP_at {f : Bool} {l : List Rec} (h : l.length ≤ 1000000) : clP_m [.c (.sl f (l.map Rec.row))] = some [.c (.sl false (l.map Rec.row))] := by
  have := mE_eq encRs_inj (g := fun p => if p.2.length ≤ 1000000 then some [DV.c (.sl false (p.2.map Rec.row))] else none) (a := (f, l))
  exact this.trans (if_pos h)
theorem xcopied_ok : PureC Tryz.prog Gt 19 xcopied_m := by
  refine pure_of_awpS (X := ctx Tryz.prog Gt [(42, clP_m)]) Tryz.func19 rfl rfl (by kernel_rfl) (by kernel_rfl) (AllOk.cons clP_ok AllOk.nil).kok ?_
  intro args r h0
  obtain ⟨x, rfl, h⟩ := mE_inv h0
  refine ⟨Nat.le_of_ble_eq_true rfl, ?_⟩
  split at h
  · rename_i hl
    simp only [Option.some.injEq] at h
    obtain ⟨a1, a2, a3, a4, a5⟩ := x
    dsimp only at hl
    have f1 := @clP_at a4 a5 hl
    simp only [nf, Fil.row] at h
    have hc := Nat.zero_add 0
    repeat' (first | simp only [hc, AS, Tryz.f19, encF, Fil.row, SX, f1, ZZ, simprocAttr, ↓reduceIte] | ((first | apply Za | apply Zb | apply Zc | apply Zd | apply Ze | apply Zf | apply Zg | apply Zh) <;> intro hc) | refine Zi ?_ | refine Zj ?_)
    rw [← h]
  cases h
theorem xcopied_at {x : Fil} (h : x.recs.length ≤ 1000000) : xcopied_m [.agg x.row] = some [.agg (nf x).row] := by
  have := mE_eq encF_inj (g := fun f : Fil => if f.recs.length ≤ 1000000 then some [DV.agg (nf f).row] else none) (a := x)
  exact this.trans (if_pos h)
theorem xfiles_kok : ImpC Tryz.prog Gt 41 xfiles_k := by
  intro args h out h0
  refine fok_of_awpSW (X := ctxN Tryz.prog Gt [(19, xcopied_m)] [] [] none) Tryz.func41 rfl rfl (by kernel_rfl) (by kernel_rfl) (kok_n (AllOk.cons xcopied_ok AllOk.nil) AllK.nil AllN.nil) ?_ ?_
  · obtain ⟨a, ⟨rfl, _⟩, _⟩ := kR_inv h0
    exact Nat.le_of_ble_eq_true rfl
  obtain ⟨⟨h', f, l⟩, ⟨rfl, rfl⟩, hg⟩ := kR_inv h0
  dsimp only at hg ⊢
  split at hg
  · rename_i hc
    obtain ⟨hh, hlen, hsn⟩ := hc
    cases hg
    have l1 := @lenFl l
    have hc := Nat.zero_add 0
    repeat' (first | simp only [hc, AS, Tryz.f41, NX, NPV, SX, HX, l1, ZZ, simprocAttr, ↓reduceIte] | ((first | apply Za | apply Zb | apply Zc | apply Zd | apply Ze | apply Zf | apply Zg | apply Zh) <;> intro hc) | refine Zi ?_ | refine Zj ?_)
    refine awpS_loop (σ := Nat) (fun j => j ≤ l.length) (fun j => ⟨[(8, AV.i j), (7, AV.i l.length), (6, AV.d (.sl f (l.map Fil.row))), (3, .v (.c (.own h.length (((l.take j).map nf).map Fil.row))))], h ++ [.tok j 4 none]⟩) (fun j => l.length - j) 0 ((Wk.own 3 4 (by decide) (by simp [look])).trans (Wk.sub' (by simp [subT, look]) rfl)) (Nat.zero_le _) ?_
    intro j hj
    by_cases hjl : j < l.length
    · have hlt : ((j : Int) < (l.length : Int)) = True := eq_true (by omega)
      have e1 := fl_at hjl
      have hw := wI (n := (j : Int) + 1) (by omega) (by omega)
      have hll : (((l.take j).map nf).map Fil.row).length = j := by simp; omega
      have f1 := xcopied_at (x := l[j]) (hsn _ (List.getElem_mem hjl))
      have hnx : ((l.take (j + 1)).map nf).map Fil.row = ((l.take j).map nf).map Fil.row ++ [(nf l[j]).row] := by rw [List.take_succ_eq_append_getElem hjl, List.map_append, List.map_append]; rfl
      have ap : ∀ g : Hp, apTok g h.length 4 64 (((l.take j).map nf).map Fil.row) [(nf l[j]).row] (some (.tok j 4 none)) = some (.v (.c (.own h.length (((l.take (j + 1)).map nf).map Fil.row))), g.set h.length (.tok (j + 1) 4 none)) := fun g => by
        rw [apTok_ok (eq_true hll) (eq_true (by simp [allLen, Fil.row])) (eq_true (by rw [hll]; simp; omega)) (eq_true (by rw [hll]; simp; omega)), hll, hnx]
        rfl
      generalize hR1 : ((l.take (j + 1)).map nf).map Fil.row = R1 at *
      generalize ((l.take j).map nf).map Fil.row = R0 at *
      generalize l[j] = x at *
      obtain ⟨a1, a2, a3, a4, a5⟩ := x
      simp only [nf, Fil.row] at f1 ap
      have hc := Nat.zero_add 0
      repeat' (first | simp only [hc, AS, NX, NPV, SX, HX, l1, hlt, hw, nn, e1, f1, ap, ZZ, simprocAttr, ↓reduceIte] | ((first | apply Za | apply Zb | apply Zc | apply Zd | apply Ze | apply Zf | apply Zg | apply Zh) <;> intro hc) | refine Zi ?_ | refine Zj ?_)
      refine lp_next (j + 1) ?_ (by omega) (by omega)
      rw [hR1]
      exact Wk.backs [.tok (j + 1) 4 none] [_] hh (Nat.le_refl _) (by simp [subT, look]) (by simp [AV.low, V.low, C1.low]) rfl
    have hlt : ((j : Int) < (l.length : Int)) = False := eq_false (by omega)
    rw [List.take_of_length_le (by omega)]
    have hjj : j = l.length := by omega
    subst hjj
    have hc := Nat.zero_add 0
    repeat' (first | simp only [hc, AS, NX, NPV, SX, HX, l1, hlt, ZZ, simprocAttr, ↓reduceIte] | ((first | apply Za | apply Zb | apply Zc | apply Zd | apply Ze | apply Zf | apply Zg | apply Zh) <;> intro hc) | refine Zi ?_ | refine Zj ?_)
    exact ⟨_, Wk.refl, [.c (.own h.length ((l.map nf).map Fil.row))], by simp [resAllV, resOneV, S.get, look, AV.one], by simp [resVV]⟩
  cases hg
theorem xfiles_at {h : Hp} {f : Bool} {l : List Fil} (hh : LowH h) (hl : flOk l) : xfiles_k [.v (.c (.d (.sl f (l.map Fil.row))))] h = some (.ret (.v (.c (.own h.length ((l.map nf).map Fil.row)))) (h ++ [.tok l.length 4 none])) :=
  (kR_eq (R := flRl) (g := fun a : FlA => if LowH a.h ∧ flOk a.l then some (COut.ret (.v (.c (.own a.h.length ((a.l.map nf).map Fil.row)))) (a.h ++ [Ob.tok a.l.length 4 none])) else none) (a := ⟨h, f, l⟩) (fun b hb => by rw [flRl_inj (a := ⟨_, _, _⟩) ⟨rfl, rfl⟩ hb]) ⟨rfl, rfl⟩).trans (if_pos ⟨hh, hl⟩)
theorem xresend_ok : PureC Tryz.prog Gt 20 xresend_m := by
  refine pure_of_awpSW (X := ctxN Tryz.prog Gt [] [(41, xfiles_k)] [] none) Tryz.func20 rfl rfl (by kernel_rfl) (by kernel_rfl) (kok_n AllOk.nil (AllK.cons xfiles_kok AllK.nil) AllN.nil) ?_
  intro args r h0
  obtain ⟨⟨⟨w, o, t⟩, p⟩, rfl, h⟩ := mE_inv h0
  refine ⟨Nat.le_of_ble_eq_true rfl, ?_⟩
  split at h
  · rename_i hok
    dsimp only at hok h
    simp only [Option.some.injEq] at h
    have f1 := fun (h : Hp) (hh : LowH h) => xfiles_at (f := w) hh hok
    obtain ⟨p1, p2, p3, p4, p5, p6⟩ := p
    dsimp only at f1 h hok
    have f2 := f1 [.box [.d (.str p1), .d (.int .i64 p2), .d (.int .i64 p3), .d (.sl w (p4.map Fil.row)), .d (.sl o (p5.map Rec.row)), .d (.sl t (p6.map Rec.row))]] (by simp [LowH, Ob.low, C1.low])
    simp only [List.length_cons, List.length_nil, Nat.zero_add, List.cons_append, List.nil_append] at f2
    generalize (p4.map nf).map Fil.row = R at *
    have hc := Nat.zero_add 0
    repeat' (first | simp only [hc, AS, Tryz.f20, encPt, prow, NX, NPV, SX, f2, ZZ, simprocAttr, ↓reduceIte] | ((first | apply Za | apply Zb | apply Zc | apply Zd | apply Ze | apply Zf | apply Zg | apply Zh) <;> intro hc) | refine Zi ?_ | refine Zj ?_)
    exact ⟨_, Wk.ofOwn 2 1 R (by simp [look]), by rw [← h]; rfl⟩
  cases h
theorem xresend_at {w o t : Bool} {p : Ptn} (h : flOk p.wait) : xresend_m [.agg (prow w o t p)] = some [.c (.sl false ((p.wait.map nf).map Fil.row))] := by
  have := mE_eq encPt_inj (g := fun q => if flOk q.2.wait then some [DV.c (.sl false ((q.2.wait.map nf).map Fil.row))] else none) (a := ((w, o, t), p))
  exact this.trans (if_pos h)
end
end Go.Ab
