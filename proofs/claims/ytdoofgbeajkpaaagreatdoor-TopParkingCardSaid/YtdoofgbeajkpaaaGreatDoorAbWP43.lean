/-
  Texts of the layer and of the laws, put together: AbJ21, AbJ22, AbJ23, AbJ24, AbI5, AbI8.
-/
import Derived.Test.YtdoofgbeajkpaaaGreatDoorAbWP40
import Derived.Test.YtdoofgbeajkpaaaGreatDoorAbWP28
import Derived.Test.YtdoofgbeajkpaaaGreatDoorAbWP29
import Derived.Test.YtdoofgbeajkpaaaGreatDoorAbWP32
set_option linter.unusedSimpArgs false
set_option linter.unusedVariables false
set_option maxRecDepth 100000
namespace Go.Ab
open Go.RowKit Go.Proofs
def sameP (a b : Par) : Bool := decide (a.zone = b.zone) && decide (a.plate = b.plate)
def hitP (p x : Par) : Bool := sameP x p && isT x.time
def befN (l : List Par) (p : Par) : Nat → Int
  | 0 => -1
  | k + 1 => if (match l[k]? with | some x => hitP p x | none => false) = true then (k : Int) else befN l p k
def befF (l : List Par) (i : Nat) : Int := match l[i]? with | some p => befN l p i | none => -1
def aftL (p : Par) : List Par → Nat → Int
  | [], _ => -1
  | x :: r, j => if hitP p x = true then (j : Int) else aftL p r (j + 1)
def aftF (l : List Par) (i : Nat) : Int := match l[i]? with | some p => aftL p (l.drop (i + 1)) (i + 1) | none => -1
theorem lenP' {l : List Par} : ((l.map Par.row).length : Int) = l.length := by simp
noncomputable section
open Classical
end
end Go.Ab
namespace Go.Ab
open Go.RowKit Go.Proofs
def whyF (l : List Par) (i : Nat) : Int := match l[i]? with
  | none => 0
  | some p => if isT p.time = false then 2 else
    let k := if p.kind = 6 then befF l i else aftF l i
    let reason := if p.kind = 6 then (10 : Int) else 11
    let want := if p.kind = 6 then (5 : Int) else 6
    match (if k < 0 then none else l[k.toNat]?) with
    | none => reason
    | some x => if x.kind ≠ want then reason else if x.time = p.time then 2 else 0
theorem aftL_lt {p : Par} : ∀ {r : List Par} {j : Nat}, -1 ≤ aftL p r j ∧ aftL p r j < (j : Int) + r.length ∧ (aftL p r j = -1 ∨ (j : Int) ≤ aftL p r j)
  | [], j => ⟨by simp [aftL], by have : aftL p [] j = -1 := rfl; rw [this]; simp; omega, .inl rfl⟩
  | x :: r, j => by
    have ih := @aftL_lt p r (j + 1)
    rw [aftL, List.length_cons]
    split <;> omega
theorem aftF_lt {l : List Par} {i : Nat} (h : i < l.length) : -1 ≤ aftF l i ∧ aftF l i < l.length := by
  rw [aftF, List.getElem?_eq_getElem h]
  have := @aftL_lt l[i] (l.drop (i + 1)) (i + 1)
  rw [List.length_drop] at this
  dsimp only
  omega
noncomputable section
open Classical
end
end Go.Ab
namespace Go.Ab
open Go.RowKit Go.Proofs
def isGate (p : Par) : Bool := decide (p.kind = 5) || decide (p.kind = 6)
def gatesF (l : List Par) : List Par := sortR (l.filter isGate)
theorem allLenP (l : List Par) : allLen 5 (l.map Par.row) := fun r hr => by
  obtain ⟨x, _, rfl⟩ := List.mem_map.1 hr
  rfl
noncomputable section
open Classical
end
end Go.Ab
namespace Go.Ab
open Go.RowKit Go.Proofs
def exOf (l : List Par) (i : Nat) : List Exc := match l[i]? with
  | none => []
  | some p => if whyF l i ≠ 0 then [⟨keyF p, whyF l i⟩] else []
def stOf (l : List Par) (i : Nat) : List Sty := match l[i]? with
  | none => []
  | some p => if whyF l i ≠ 0 then [] else if p.kind = 5 then [⟨keyF p, p.zone, p.plate, (p.time, (l[(aftF l i).toNat]?.map (·.time)).getD 0)⟩] else []
def rstays (l : List Par) : List Sty := (List.range l.length).flatMap (stOf l)
def rexcl (l : List Par) : List Exc := (List.range l.length).flatMap (exOf l)
theorem flat_succ {α : Type} {f : Nat → List α} {k : Nat} : (List.range (k + 1)).flatMap f = (List.range k).flatMap f ++ f k := by
  rw [List.range_succ, List.flatMap_append]
  simp
theorem exOf_len {l : List Par} {i : Nat} : (exOf l i).length ≤ 1 := by
  unfold exOf
  split
  · simp
  split <;> simp
theorem stOf_len {l : List Par} {i : Nat} : (stOf l i).length ≤ 1 := by
  unfold stOf
  split
  · simp
  split
  · simp
  split <;> simp
theorem fmap_len {α : Type} {f : Nat → List α} (hf : ∀ i, (f i).length ≤ 1) : ∀ {k : Nat}, ((List.range k).flatMap f).length ≤ k
  | 0 => by simp
  | k + 1 => by
    rw [flat_succ, List.length_append]
    have := @fmap_len α f hf k
    have := hf k
    omega
theorem gates_ok {l : List Par} (h : parsOk l) : parsOk (gatesF l) := by
  refine ⟨Nat.le_trans (sortR_len _) (Nat.le_trans (List.length_filter_le _ _) h.1), fun x hx => h.2 x ?_⟩
  exact (List.mem_filter.1 (mem_sortR.1 hx)).1
theorem why_zero {l : List Par} {i : Nat} (hi : i < l.length) (hk : l[i].kind = 5) (h : whyF l i = 0) : ∃ m : Nat, aftF l i = m ∧ m < l.length := by
  have b := aftF_lt hi
  rw [whyF, List.getElem?_eq_getElem hi] at h
  have h6 : ¬ l[i].kind = 6 := by omega
  by_cases hn : aftF l i < 0
  · exfalso
    by_cases ht : isT l[i].time = false
    · simp [ht] at h
    simp [ht, h6, hn] at h
  exact ⟨(aftF l i).toNat, by omega, by omega⟩
noncomputable section
open Classical
end
end Go.Ab
namespace Go.Ab
open Go.RowKit Go.Proofs
def opnN (l : List Par) (z p : List UInt8) : Nat → Option Nat
  | 0 => none
  | k + 1 => match l[k]? with
    | none => opnN l z p k
    | some e => if isT e.time = true ∧ e.zone = z ∧ e.plate = p then (if e.kind = 5 then some k else none) else opnN l z p k
def timN (l : List Par) (i : Nat) : Int := (l[i]?.map (·.time)).getD 0
def extN (l : List Par) (i : Nat) : Nat → Option Nat
  | 0 => none
  | k + 1 => match l[k]? with
    | none => extN l i k
    | some e => if isT e.time = true ∧ ¬ e.kind = 5 ∧ opnN l e.zone e.plate k = some i ∧ timN l i < e.time then some k else extN l i k
def whyN (l : List Par) (i : Nat) : Nat → Int
  | 0 => 0
  | k + 1 => match l[k]? with
    | none => whyN l i k
    | some e => if isT e.time = false then (if i = k then 2 else whyN l i k) else match opnN l e.zone e.plate k with
      | none => if e.kind = 5 then whyN l i k else if i = k then 10 else whyN l i k
      | some j => if e.kind = 5 then (if i = j then 11 else whyN l i k) else if timN l j < e.time then whyN l i k else if i = k then 2 else if i = j then 2 else whyN l i k
def whyE (l : List Par) (i : Nat) : Int := match l[i]? with
  | none => 0
  | some p => if opnN l p.zone p.plate l.length = some i then 11 else whyN l i l.length
theorem hitP_iff {p x : Par} : hitP p x = true ↔ isT x.time = true ∧ x.zone = p.zone ∧ x.plate = p.plate := by
  simp only [hitP, sameP, Bool.and_eq_true, decide_eq_true_eq]
  exact ⟨fun h => ⟨h.2, h.1.1, h.1.2⟩, fun h => ⟨⟨h.2.1, h.2.2⟩, h.1⟩⟩
theorem opn_hit {l : List Par} {p : Par} {k : Nat} (hk : k < l.length) : opnN l p.zone p.plate (k + 1) = if hitP p l[k] = true then (if l[k].kind = 5 then some k else none) else opnN l p.zone p.plate k := by
  rw [opnN, List.getElem?_eq_getElem hk]
  dsimp only
  by_cases h : hitP p l[k] = true
  · rw [if_pos h, if_pos (hitP_iff.1 h)]
  rw [if_neg h, if_neg fun h2 => h (hitP_iff.2 h2)]
theorem opn_bef {l : List Par} {p : Par} : ∀ {k : Nat}, k ≤ l.length → (befN l p k = -1 ∧ opnN l p.zone p.plate k = none) ∨
    ∃ j : Nat, befN l p k = (j : Int) ∧ ∃ h : j < l.length, j < k ∧ hitP p l[j] = true ∧ opnN l p.zone p.plate k = if l[j].kind = 5 then some j else none
  | 0, _ => .inl ⟨rfl, rfl⟩
  | k + 1, h => by
    rw [opn_hit (by omega), befN, List.getElem?_eq_getElem (by omega)]
    dsimp only
    by_cases hh : hitP p l[k] = true
    · rw [if_pos hh, if_pos hh]
      exact .inr ⟨k, rfl, by omega, by omega, hh, rfl⟩
    rw [if_neg hh, if_neg hh]
    rcases @opn_bef l p k (by omega) with h1 | ⟨j, h1, h2, h3, h4, h5⟩
    · exact .inl h1
    exact .inr ⟨j, h1, h2, by omega, h4, h5⟩
theorem opn_some {l : List Par} {z p : List UInt8} {i : Nat} : ∀ {k : Nat}, k ≤ l.length → opnN l z p k = some i → ∃ h : i < l.length, i < k ∧ isT l[i].time = true ∧ l[i].zone = z ∧ l[i].plate = p ∧ l[i].kind = 5 ∧ ∀ (j : Nat) (hj : j < l.length), i < j → j < k → hitP l[i] l[j] = false
  | 0, _, h => by cases h
  | k + 1, hk, h => by
    have hkl : k < l.length := by omega
    rw [opnN, List.getElem?_eq_getElem hkl] at h
    dsimp only at h
    split at h
    · rename_i h1
      split at h
      · rename_i h2
        cases h
        exact ⟨hkl, Nat.lt_succ_self _, h1.1, h1.2.1, h1.2.2, h2, fun j _ a b => by omega⟩
      cases h
    rename_i h1
    obtain ⟨h2, h3, h4, h5, h6, h7, h8⟩ := opn_some (by omega) h
    refine ⟨h2, by omega, h4, h5, h6, h7, fun j hj a b => ?_⟩
    by_cases hjk : j = k
    · subst hjk
      cases hb : hitP l[i] l[j]
      · rfl
      have := hitP_iff.1 hb
      rw [h5, h6] at this
      exact absurd this h1
    exact h8 j hj a (by omega)
theorem opn_stay {l : List Par} {i : Nat} (hi : i < l.length) (ht : isT l[i].time = true) (h5 : l[i].kind = 5) : ∀ {k : Nat}, i < k → k ≤ l.length → (∀ (j : Nat) (hj : j < l.length), i < j → j < k → hitP l[i] l[j] = false) → opnN l l[i].zone l[i].plate k = some i
  | 0, h, _, _ => by omega
  | k + 1, h, hk, hn => by
    rw [opn_hit (by omega)]
    by_cases hik : i = k
    · subst hik
      rw [if_pos (hitP_iff.2 ⟨ht, rfl, rfl⟩), if_pos h5]
    rw [hn k (by omega) (by omega) (by omega), if_neg (by decide)]
    exact opn_stay hi ht h5 (by omega) (by omega) fun j hj a b => hn j hj a (by omega)
theorem why_step {l : List Par} {i k : Nat} (hk : k < l.length) : whyN l i (k + 1) = if isT l[k].time = false then (if i = k then 2 else whyN l i k) else match opnN l l[k].zone l[k].plate k with
      | none => if l[k].kind = 5 then whyN l i k else if i = k then 10 else whyN l i k
      | some j => if l[k].kind = 5 then (if i = j then 11 else whyN l i k) else if timN l j < l[k].time then whyN l i k else if i = k then 2 else if i = j then 2 else whyN l i k := by
  rw [whyN, List.getElem?_eq_getElem hk]
theorem ext_step {l : List Par} {i k : Nat} (hk : k < l.length) : extN l i (k + 1) = if isT l[k].time = true ∧ ¬ l[k].kind = 5 ∧ opnN l l[k].zone l[k].plate k = some i ∧ timN l i < l[k].time then some k else extN l i k := by
  rw [extN, List.getElem?_eq_getElem hk]
theorem timN_at {l : List Par} {i : Nat} (h : i < l.length) : timN l i = l[i].time := by rw [timN, List.getElem?_eq_getElem h]; rfl
theorem why_ahead {l : List Par} {i : Nat} : ∀ {k : Nat}, k ≤ i → k ≤ l.length → whyN l i k = 0 ∧ extN l i k = none
  | 0, _, _ => ⟨rfl, rfl⟩
  | k + 1, h, hk => by
    have hkl : k < l.length := by omega
    obtain ⟨h1, h2⟩ := @why_ahead l i k (by omega) (by omega)
    have hno : ∀ j, opnN l l[k].zone l[k].plate k = some j → i ≠ j := fun j hj => by
      obtain ⟨_, h3, _⟩ := opn_some (by omega) hj
      omega
    rw [why_step hkl, ext_step hkl, h1, h2]
    refine ⟨?_, if_neg fun h => hno i h.2.2.1 rfl⟩
    have hik : ¬ i = k := by omega
    simp only [hik, if_false]
    split
    · rfl
    split
    · split <;> rfl
    rename_i j hj
    simp only [hno j hj, if_false]
    split
    · rfl
    split <;> rfl
theorem why_keep {l : List Par} {i k : Nat} (hk : k < l.length) (hik : ¬ i = k) (hno : isT l[k].time = true → opnN l l[k].zone l[k].plate k ≠ some i) : whyN l i (k + 1) = whyN l i k ∧ extN l i (k + 1) = extN l i k := by
  rw [why_step hk, ext_step hk]
  constructor
  · simp only [hik, if_false]
    split
    · rfl
    rename_i ht
    have ht : isT l[k].time = true := by simpa using ht
    have hno := hno ht
    split
    · split <;> rfl
    rename_i j hj
    have hij : ¬ i = j := fun e => hno (by rw [e]; exact hj)
    simp only [hij, if_false]
    split
    · rfl
    split <;> rfl
  exact if_neg fun h => hno h.1 h.2.2.1
theorem why_still {l : List Par} {i k : Nat} : ∀ {d : Nat}, k + d ≤ l.length → (∀ j (hj : j < l.length), k ≤ j → j < k + d → ¬ i = j ∧ (isT l[j].time = true → opnN l l[j].zone l[j].plate j ≠ some i)) → whyN l i (k + d) = whyN l i k ∧ extN l i (k + d) = extN l i k
  | 0, _, _ => ⟨rfl, rfl⟩
  | d + 1, h, hn => by
    obtain ⟨h1, h2⟩ := @why_still l i k d (by omega) fun j hj a b => hn j hj a (by omega)
    obtain ⟨n1, n2⟩ := hn (k + d) (by omega) (by omega) (by omega)
    obtain ⟨h3, h4⟩ := why_keep (i := i) (by omega) n1 n2
    rw [show k + (d + 1) = k + d + 1 by omega, h3, h4, h1, h2]
    exact ⟨rfl, rfl⟩
theorem aft_none {p : Par} : ∀ {r : List Par} {j : Nat}, aftL p r j = -1 → ∀ x ∈ r, hitP p x = false
  | [], _, _, x, hx => by cases hx
  | y :: r, j, h, x, hx => by
    rw [aftL] at h
    split at h
    · omega
    rename_i hy
    rcases List.mem_cons.1 hx with rfl | hx
    · simpa using hy
    exact aft_none h x hx
theorem aft_some {p : Par} : ∀ {r : List Par} {j m : Nat}, aftL p r j = (m : Int) → ∃ d, m = j + d ∧ ∃ h : d < r.length, hitP p r[d] = true ∧ ∀ (c : Nat) (hc : c < r.length), c < d → hitP p r[c] = false
  | [], j, m, h => by
    have : aftL p [] j = -1 := rfl
    omega
  | y :: r, j, m, h => by
    rw [aftL] at h
    split at h
    · rename_i hy
      exact ⟨0, by omega, by simp, hy, fun c _ hc => by omega⟩
    rename_i hy
    obtain ⟨d, h1, h2, h3, h4⟩ := aft_some h
    refine ⟨d + 1, by omega, by simpa using h2, by simpa using h3, fun c hc hcd => ?_⟩
    cases c with
    | zero => simpa using hy
    | succ c => simpa using h4 c (by simpa using hc) (by omega)
theorem aftF_cases {l : List Par} {i : Nat} (hi : i < l.length) : (aftF l i = -1 ∧ ∀ (j : Nat) (hj : j < l.length), i < j → hitP l[i] l[j] = false) ∨
    ∃ m : Nat, aftF l i = (m : Int) ∧ i < m ∧ ∃ h : m < l.length, hitP l[i] l[m] = true ∧ ∀ (j : Nat) (hj : j < l.length), i < j → j < m → hitP l[i] l[j] = false := by
  have hb := aftF_lt hi
  have he : aftF l i = aftL l[i] (l.drop (i + 1)) (i + 1) := by rw [aftF, List.getElem?_eq_getElem hi]
  rw [he] at hb ⊢
  by_cases h : aftL l[i] (l.drop (i + 1)) (i + 1) = -1
  · refine .inl ⟨h, fun j hj hij => aft_none h _ ?_⟩
    refine List.mem_iff_getElem?.2 ⟨j - (i + 1), ?_⟩
    rw [List.getElem?_drop, show i + 1 + (j - (i + 1)) = j by omega, List.getElem?_eq_getElem hj]
  obtain ⟨m, hm⟩ : ∃ m : Nat, aftL l[i] (l.drop (i + 1)) (i + 1) = m := ⟨(aftL l[i] (l.drop (i + 1)) (i + 1)).toNat, by omega⟩
  obtain ⟨d, h1, h2, h3, h4⟩ := aft_some hm
  have h2' := h2
  rw [List.length_drop] at h2'
  subst h1
  refine .inr ⟨_, hm, by omega, by omega, by simpa using h3, fun j hj a b => ?_⟩
  have := h4 (j - (i + 1)) (by rw [List.length_drop]; omega) (by omega)
  rw [List.getElem_drop] at this
  simpa [show i + 1 + (j - (i + 1)) = j by omega] using this
abbrev TimS (l : List Par) : Prop := ∀ (i j : Nat) (hi : i < l.length) (hj : j < l.length), i < j → l[i].time ≤ l[j].time
theorem why_all {l : List Par} (hs : TimS l) (hg : ∀ x ∈ l, isGate x = true) {i : Nat} (hi : i < l.length) : whyE l i = whyF l i ∧ (l[i].kind = 5 → whyF l i = 0 → ∃ m : Nat, aftF l i = m ∧ extN l i l.length = some m) ∧ (¬ l[i].kind = 5 → extN l i l.length = none) := by
  have hk56 : l[i].kind = 5 ∨ l[i].kind = 6 := by
    have := hg l[i] (List.getElem_mem hi)
    simp only [isGate, Bool.or_eq_true, decide_eq_true_eq] at this
    exact this
  obtain ⟨a1, a2⟩ := @why_ahead l i i (Nat.le_refl _) (by omega)
  have hno : ∀ j, opnN l l[i].zone l[i].plate i = some j → ¬ i = j := fun j hj => by
    obtain ⟨_, h3, _⟩ := opn_some (by omega) hj
    omega
  -- once it is not open, nothing changes
  have rest : ∀ m, i < m → m ≤ l.length → (∀ (j : Nat) (hj : j < l.length), m ≤ j → isT l[j].time = true → opnN l l[j].zone l[j].plate j ≠ some i) → whyN l i l.length = whyN l i m ∧ extN l i l.length = extN l i m := fun m hm hml h => by
    have := @why_still l i m (l.length - m) (by omega) fun j hj a b => ⟨by omega, h j hj a⟩
    rwa [show m + (l.length - m) = l.length by omega] at this
  have never : ¬ (l[i].kind = 5 ∧ isT l[i].time = true) → ∀ (k : Nat) (z p : List UInt8), k ≤ l.length → opnN l z p k ≠ some i := fun h k z p hk hop => by
    obtain ⟨_, _, h1, _, _, h2, _⟩ := opn_some hk hop
    exact h ⟨h2, h1⟩
  rw [whyE, whyF, List.getElem?_eq_getElem hi]
  dsimp only
  by_cases ht : isT l[i].time = false
  · have hnv := never (by rw [ht]; simp)
    obtain ⟨r1, r2⟩ := rest (i + 1) (by omega) (by omega) fun j hj _ _ => hnv _ _ _ (by omega)
    rw [if_neg (hnv _ _ _ (Nat.le_refl _)), r1, r2, why_step hi, ext_step hi, if_pos ht, if_pos rfl, if_pos ht, a2]
    exact ⟨rfl, fun _ h => by omega, fun _ => if_neg fun h => by rw [ht] at h; exact absurd h.1 (by decide)⟩
  have ht' : isT l[i].time = true := by simpa using ht
  rw [if_neg ht]
  by_cases h5 : l[i].kind = 5
  · have h6 : ¬ l[i].kind = 6 := by omega
    simp only [if_neg h6]
    -- behind i itself
    have b1 : whyN l i (i + 1) = 0 ∧ extN l i (i + 1) = none := by
      rw [why_step hi, ext_step hi, if_neg ht, a1, a2]
      refine ⟨?_, if_neg fun h => h.2.1 h5⟩
      split
      · rw [if_pos h5]
      rename_i j hj
      rw [if_pos h5, if_neg (hno j hj)]
    -- as long as nothing follows
    have quiet : ∀ m, i < m → m ≤ l.length → (∀ (j : Nat) (hj : j < l.length), i < j → j < m → hitP l[i] l[j] = false) → whyN l i m = 0 ∧ extN l i m = none := fun m hm hml hq => by
      have := @why_still l i (i + 1) (m - (i + 1)) (by omega) fun j hj a b => ⟨by omega, fun htj hop => by
        obtain ⟨_, _, _, c1, c2, _, _⟩ := opn_some (by omega) hop
        have := hq j hj (by omega) (by omega)
        rw [hitP_iff.2 ⟨htj, c1.symm, c2.symm⟩] at this
        cases this⟩
      rw [show i + 1 + (m - (i + 1)) = m by omega, b1.1, b1.2] at this
      exact this
    rcases aftF_cases hi with ⟨e1, e2⟩ | ⟨m, e1, e2, e3, e4, e5⟩
    · rw [e1, if_pos (by decide : (-1 : Int) < 0), if_pos (opn_stay hi ht' h5 hi (Nat.le_refl _) fun j hj a _ => e2 j hj a)]
      dsimp only
      exact ⟨rfl, fun _ h => by omega, fun h => absurd h5 h⟩
    obtain ⟨q1, q2⟩ := quiet m e2 (by omega) e5
    have hop := opn_stay hi ht' h5 e2 (by omega) e5
    obtain ⟨g1, g2, g3⟩ := hitP_iff.1 e4
    rw [← g2, ← g3] at hop
    have gone : ∀ (j : Nat), m < j → j ≤ l.length → opnN l l[i].zone l[i].plate j ≠ some i := fun j hmj hj hoj => by
      obtain ⟨_, _, _, _, _, _, c3⟩ := opn_some hj hoj
      rw [c3 m e3 e2 (by omega)] at e4
      cases e4
    obtain ⟨r1, r2⟩ := rest (m + 1) (by omega) (by omega) fun j hj a htj hoj => by
      obtain ⟨_, _, _, c1, c2, _, _⟩ := opn_some (by omega) hoj
      exact gone j (by omega) (by omega) (by rw [c1, c2]; exact hoj)
    have hkm : l[m].kind = 5 ∨ l[m].kind = 6 := by
      have := hg l[m] (List.getElem_mem e3)
      simp only [isGate, Bool.or_eq_true, decide_eq_true_eq] at this
      exact this
    have htm := hs i m hi e3 e2
    rw [if_neg (gone _ (by omega) (Nat.le_refl _)), r1, r2, why_step e3, ext_step e3, hop, timN_at hi, if_neg (by rw [g1]; decide), e1, if_neg (show ¬ ((m : Int) < 0) by omega), show ((m : Int)).toNat = m by omega, List.getElem?_eq_getElem e3, q1, q2]
    dsimp only
    rw [if_pos rfl, if_neg (by omega : ¬ i = m)]
    simp only [timN_at hi]
    rcases hkm with hm5 | hm6
    · rw [if_pos hm5, if_pos (by omega)]
      exact ⟨rfl, fun _ h => by omega, fun h => absurd h5 h⟩
    have hm5 : ¬ l[m].kind = 5 := by omega
    rw [if_neg hm5, if_neg (by omega : ¬ l[m].kind ≠ 6)]
    by_cases hlt : l[i].time < l[m].time
    · rw [if_pos hlt, if_neg (by omega : ¬ l[m].time = l[i].time), if_pos ⟨g1, hm5, trivial, hlt⟩]
      exact ⟨rfl, fun _ _ => ⟨m, rfl, rfl⟩, fun h => absurd h5 h⟩
    rw [if_neg hlt, if_pos trivial, if_pos (by omega : l[m].time = l[i].time)]
    exact ⟨rfl, fun _ h => by omega, fun h => absurd h5 h⟩
  have h6 : l[i].kind = 6 := by omega
  have hnv := never fun h => h5 h.1
  obtain ⟨r1, r2⟩ := rest (i + 1) (by omega) (by omega) fun j hj _ _ => hnv _ _ _ (by omega)
  simp only [if_pos h6]
  rw [if_neg (hnv _ _ _ (Nat.le_refl _)), r1, r2, why_step hi, ext_step hi, if_neg ht, a1, a2]
  refine ⟨?_, fun h => absurd h h5, fun _ => if_neg fun h => hno i h.2.2.1 rfl⟩
  have hbf : befF l i = befN l l[i] i := by rw [befF, List.getElem?_eq_getElem hi]
  rw [hbf]
  rcases @opn_bef l l[i] i (by omega) with ⟨c1, c2⟩ | ⟨j, c1, c2, c3, c4, c5⟩
  · rw [c1, c2, if_pos (by decide : (-1 : Int) < 0)]
    dsimp only
    rw [if_neg h5, if_pos rfl]
  have hkj : l[j].kind = 5 ∨ l[j].kind = 6 := by
    have := hg l[j] (List.getElem_mem c2)
    simp only [isGate, Bool.or_eq_true, decide_eq_true_eq] at this
    exact this
  have htj := hs j i c2 hi c3
  rw [c1, if_neg (show ¬ ((j : Int) < 0) by omega), show ((j : Int)).toNat = j by omega, List.getElem?_eq_getElem c2, c5]
  dsimp only
  by_cases hj5 : l[j].kind = 5
  · rw [if_pos hj5, if_neg (by omega : ¬ l[j].kind ≠ 5)]
    dsimp only
    rw [if_neg h5, timN_at c2]
    by_cases hlt : l[j].time < l[i].time
    · rw [if_pos hlt, if_neg (by omega)]
    rw [if_neg hlt, if_pos rfl, if_pos (by omega)]
  rw [if_neg hj5, if_pos (by omega : l[j].kind ≠ 5)]
  dsimp only
  rw [if_neg h5, if_pos rfl]
end Go.Ab
namespace Go.Ab
open Go.RowKit Go.Proofs
structure Pr (l : List Par) (i m : Nat) (hi : i < l.length) (hm : m < l.length) : Prop where
  lt : i < m
  hit : hitP l[i] l[m] = true
  ti : isT l[i].time = true
  ki : l[i].kind = 5
  km : l[m].kind = 6
  time : l[i].time < l[m].time
  none : ∀ (j : Nat) (hj : j < l.length), i < j → j < m → hitP l[i] l[j] = false
theorem hit_same {p q x : Par} (hz : p.zone = q.zone) (hp : p.plate = q.plate) : hitP p x = hitP q x := by
  unfold hitP sameP
  rw [hz, hp]
theorem gate_kind {l : List Par} (hg : ∀ x ∈ l, isGate x = true) {i : Nat} (hi : i < l.length) : l[i].kind = 5 ∨ l[i].kind = 6 := by
  have := hg l[i] (List.getElem_mem hi)
  simp only [isGate, Bool.or_eq_true, decide_eq_true_eq] at this
  exact this
theorem why_t {l : List Par} {i : Nat} (hi : i < l.length) (h : whyF l i = 0) : isT l[i].time = true := by
  rw [whyF, List.getElem?_eq_getElem hi] at h
  dsimp only at h
  cases ht : isT l[i].time
  · rw [ht, if_pos rfl] at h; omega
  rfl
theorem pr_in {l : List Par} (hs : TimS l) {i : Nat} (hi : i < l.length) (h5 : l[i].kind = 5) (h : whyF l i = 0) : ∃ m : Nat, aftF l i = (m : Int) ∧ ∃ hm : m < l.length, Pr l i m hi hm := by
  have ht := why_t hi h
  rw [whyF, List.getElem?_eq_getElem hi] at h
  dsimp only at h
  have h6 : ¬ l[i].kind = 6 := by omega
  rw [if_neg (by rw [ht]; decide)] at h
  simp only [if_neg h6] at h
  rcases aftF_cases hi with ⟨e1, _⟩ | ⟨m, e1, e2, e3, e4, e5⟩
  · rw [e1, if_pos (by decide : (-1 : Int) < 0)] at h
    dsimp only at h
    omega
  rw [e1, if_neg (show ¬ ((m : Int) < 0) by omega), show ((m : Int)).toNat = m by omega, List.getElem?_eq_getElem e3] at h
  dsimp only at h
  split at h
  · omega
  rename_i hk
  split at h
  · omega
  rename_i hne
  have := hs i m hi e3 e2
  exact ⟨m, e1, e3, e2, e4, ht, h5, by omega, by omega, e5⟩
theorem bef_last {l : List Par} {p : Par} : ∀ {k j : Nat}, k ≤ l.length → befN l p k = (j : Int) → ∀ (c : Nat) (hc : c < l.length), j < c → c < k → hitP p l[c] = false
  | 0, _, _, _, c, _, _, h => by omega
  | k + 1, j, hk, h, c, hc, h1, h2 => by
    rw [befN, List.getElem?_eq_getElem (by omega)] at h
    dsimp only at h
    split at h
    · omega
    rename_i hn
    by_cases hck : c = k
    · subst hck
      simpa using hn
    exact bef_last (by omega) h c hc h1 (by omega)
theorem pr_out {l : List Par} (hs : TimS l) {m : Nat} (hm : m < l.length) (h6 : l[m].kind = 6) (h : whyF l m = 0) : ∃ i, ∃ hi : i < l.length, Pr l i m hi hm := by
  have ht := why_t hm h
  rw [whyF, List.getElem?_eq_getElem hm] at h
  dsimp only at h
  rw [if_neg (by rw [ht]; decide)] at h
  simp only [if_pos h6] at h
  have hbf : befF l m = befN l l[m] m := by rw [befF, List.getElem?_eq_getElem hm]
  rw [hbf] at h
  rcases @opn_bef l l[m] m (by omega) with ⟨c1, _⟩ | ⟨i, c1, c2, c3, c4, _⟩
  · rw [c1, if_pos (by decide : (-1 : Int) < 0)] at h
    dsimp only at h
    omega
  rw [c1, if_neg (show ¬ ((i : Int) < 0) by omega), show ((i : Int)).toNat = i by omega, List.getElem?_eq_getElem c2] at h
  dsimp only at h
  obtain ⟨g1, g2, g3⟩ := hitP_iff.1 c4
  split at h
  · omega
  rename_i hk
  split at h
  · omega
  rename_i hne
  have := hs i m c2 hm c3
  refine ⟨i, c2, c3, hitP_iff.2 ⟨ht, g2.symm, g3.symm⟩, g1, by omega, h6, by omega, fun j hj a b => ?_⟩
  rw [hit_same g2 g3]
  exact bef_last (by omega) c1 j hj a b
theorem pr_aft {l : List Par} {i m : Nat} {hi : i < l.length} {hm : m < l.length} (h : Pr l i m hi hm) : aftF l i = (m : Int) := by
  rcases aftF_cases hi with ⟨e1, e2⟩ | ⟨k, e1, e2, e3, e4, e5⟩
  · have := e2 m hm h.lt
    rw [h.hit] at this
    cases this
  rw [e1]
  rcases Nat.lt_trichotomy k m with hk | hk | hk
  · have := h.none k e3 e2 hk
    rw [e4] at this
    cases this
  · rw [hk]
  have := e5 m hm h.lt hk
  rw [h.hit] at this
  cases this
theorem pr_why {l : List Par} {i m : Nat} {hi : i < l.length} {hm : m < l.length} (h : Pr l i m hi hm) : whyF l i = 0 ∧ whyF l m = 0 := by
  obtain ⟨g1, g2, g3⟩ := hitP_iff.1 h.hit
  have k5 := h.ki
  have k6 := h.km
  have ht := h.time
  constructor
  · rw [whyF, List.getElem?_eq_getElem hi]
    dsimp only
    rw [if_neg (by rw [h.ti]; decide)]
    simp only [if_neg (show ¬ l[i].kind = 6 by omega)]
    rw [pr_aft h, if_neg (show ¬ ((m : Int) < 0) by omega), show ((m : Int)).toNat = m by omega, List.getElem?_eq_getElem hm]
    dsimp only
    rw [if_neg (by omega), if_neg (by omega)]
  rw [whyF, List.getElem?_eq_getElem hm]
  dsimp only
  rw [if_neg (by rw [g1]; decide)]
  simp only [if_pos k6]
  have hbf : befF l m = befN l l[m] m := by rw [befF, List.getElem?_eq_getElem hm]
  rw [hbf]
  have hmi : hitP l[m] l[i] = true := hitP_iff.2 ⟨h.ti, g2.symm, g3.symm⟩
  rcases @opn_bef l l[m] m (by omega) with ⟨c1, c2⟩ | ⟨k, c1, c2, c3, c4, _⟩
  · exfalso
    -- the entry is a hit
    have : ∀ {k : Nat}, k ≤ l.length → befN l l[m] k = -1 → ∀ (c : Nat) (hc : c < l.length), c < k → hitP l[m] l[c] = false := fun {k} => by
      induction k with
      | zero => intro _ _ c _ h; omega
      | succ k ih =>
        intro hk hb c hc hck
        rw [befN, List.getElem?_eq_getElem (by omega)] at hb
        dsimp only at hb
        split at hb
        · omega
        rename_i hn
        by_cases e : c = k
        · subst e
          simpa using hn
        exact ih (by omega) hb c hc (by omega)
    have := this (by omega) c1 i hi h.lt
    rw [hmi] at this
    cases this
  have hki : k = i := by
    rcases Nat.lt_trichotomy k i with hk | hk | hk
    · have := bef_last (by omega) c1 i hi hk h.lt
      rw [hmi] at this
      cases this
    · exact hk
    have := h.none k c2 hk c3
    rw [hit_same g2.symm g3.symm, c4] at this
    cases this
  subst hki
  rw [c1, if_neg (show ¬ ((k : Int) < 0) by omega), show ((k : Int)).toNat = k by omega, List.getElem?_eq_getElem c2]
  dsimp only
  rw [if_neg (by omega), if_neg (by omega)]
theorem pr_inj {l : List Par} {i k m : Nat} {hi : i < l.length} {hk : k < l.length} {hm : m < l.length} (h : Pr l i m hi hm) (h' : Pr l k m hk hm) : i = k := by
  obtain ⟨_, g2, g3⟩ := hitP_iff.1 h.hit
  obtain ⟨_, f2, f3⟩ := hitP_iff.1 h'.hit
  rcases Nat.lt_trichotomy i k with hik | hik | hik
  · have := h.none k hk hik h'.lt
    rw [hitP_iff.2 ⟨h'.ti, f2.symm.trans g2, f3.symm.trans g3⟩] at this
    cases this
  · exact hik
  have := h'.none i hi hik h.lt
  rw [hitP_iff.2 ⟨h.ti, g2.symm.trans f2, g3.symm.trans f3⟩] at this
  cases this
theorem nodup_le {l : List Nat} : ∀ {m : List Nat}, l.Nodup → (∀ x ∈ l, x ∈ m) → l.length ≤ m.length := by
  induction l with
  | nil => intro m _ _; exact Nat.zero_le _
  | cons x l ih =>
    intro m hn h
    obtain ⟨h1, h2⟩ := List.nodup_cons.1 hn
    have hx := h x List.mem_cons_self
    have := ih (m := m.erase x) h2 fun y hy => (List.mem_erase_of_ne (fun e => h1 (by rw [← e]; exact hy))).2 (h y (List.mem_cons_of_mem _ hy))
    rw [List.length_erase_of_mem hx] at this
    have hp := List.length_pos_of_mem hx
    rw [List.length_cons]
    omega
theorem fm_count {α : Type} {f : Nat → List α} {p : Nat → Bool} : ∀ {L : List Nat}, (∀ i ∈ L, (f i).length = if p i = true then 1 else 0) → (L.flatMap f).length = (L.filter p).length
  | [], _ => rfl
  | i :: L, h => by
    rw [List.flatMap_cons, List.length_append, fm_count fun j hj => h j (List.mem_cons_of_mem _ hj), h i List.mem_cons_self, List.filter_cons]
    split <;> simp <;> omega
theorem filter_parts {p q : Nat → Bool} : ∀ {L : List Nat}, (L.filter p).length = (L.filter fun i => p i && q i).length + (L.filter fun i => p i && !q i).length
  | [] => rfl
  | i :: L => by
    have ih := filter_parts (p := p) (q := q) (L := L)
    simp only [List.filter_cons]
    cases p i <;> cases q i <;> simp <;> omega
def isIn (l : List Par) (i : Nat) : Bool := match l[i]? with | some p => decide (p.kind = 5) | none => false
def okI (l : List Par) (i : Nat) : Bool := decide (whyF l i = 0)
theorem isIn_at {l : List Par} {i : Nat} (hi : i < l.length) : isIn l i = decide (l[i].kind = 5) := by rw [isIn, List.getElem?_eq_getElem hi]
theorem pairs_count {l : List Par} (hs : TimS l) (hg : ∀ x ∈ l, isGate x = true) : ((List.range l.length).filter fun i => okI l i && isIn l i).length = ((List.range l.length).filter fun i => okI l i && !isIn l i).length := by
  have hn : (List.range l.length).Nodup := List.nodup_range
  have memS : ∀ i, i ∈ (List.range l.length).filter (fun i => okI l i && isIn l i) ↔ ∃ hi : i < l.length, whyF l i = 0 ∧ l[i].kind = 5 := fun i => by
    rw [List.mem_filter, List.mem_range]
    constructor
    · rintro ⟨hi, h⟩
      rw [isIn_at hi] at h
      simp only [okI, Bool.and_eq_true, decide_eq_true_eq] at h
      exact ⟨hi, h⟩
    rintro ⟨hi, h⟩
    refine ⟨hi, ?_⟩
    rw [isIn_at hi]
    simp only [okI, Bool.and_eq_true, decide_eq_true_eq]
    exact h
  have memT : ∀ i, i ∈ (List.range l.length).filter (fun i => okI l i && !isIn l i) ↔ ∃ hi : i < l.length, whyF l i = 0 ∧ l[i].kind = 6 := fun i => by
    rw [List.mem_filter, List.mem_range]
    constructor
    · rintro ⟨hi, h⟩
      rw [isIn_at hi] at h
      simp only [okI, Bool.and_eq_true, decide_eq_true_eq, Bool.not_eq_true', decide_eq_false_iff_not] at h
      have := gate_kind hg hi
      exact ⟨hi, h.1, by omega⟩
    rintro ⟨hi, h⟩
    refine ⟨hi, ?_⟩
    rw [isIn_at hi]
    simp only [okI, Bool.and_eq_true, decide_eq_true_eq, Bool.not_eq_true', decide_eq_false_iff_not]
    exact ⟨h.1, by omega⟩
  have nS : ((List.range l.length).filter fun i => okI l i && isIn l i).Nodup := List.Pairwise.filter _ hn
  have nT : ((List.range l.length).filter fun i => okI l i && !isIn l i).Nodup := List.Pairwise.filter _ hn
  generalize (List.range l.length).filter (fun i => okI l i && isIn l i) = S at *
  generalize (List.range l.length).filter (fun i => okI l i && !isIn l i) = T at *
  have h1 : (S.map fun i => (aftF l i).toNat).Nodup := by
    rw [List.Nodup, List.pairwise_map]
    refine List.Pairwise.imp_of_mem (fun {a b} ha hb hne => ?_) nS
    obtain ⟨ha1, ha2, ha3⟩ := (memS a).1 ha
    obtain ⟨hb1, hb2, hb3⟩ := (memS b).1 hb
    obtain ⟨m, e1, hm, p1⟩ := pr_in hs ha1 ha3 ha2
    obtain ⟨k, e2, hk, p2⟩ := pr_in hs hb1 hb3 hb2
    rw [e1, e2]
    intro e
    have : m = k := by omega
    subst this
    exact hne (pr_inj p1 p2)
  have l1 := nodup_le (m := T) h1 fun x hx => by
    obtain ⟨i, hi, rfl⟩ := List.mem_map.1 hx
    obtain ⟨ha1, ha2, ha3⟩ := (memS i).1 hi
    obtain ⟨m, e1, hm, p1⟩ := pr_in hs ha1 ha3 ha2
    rw [e1]
    exact (memT _).2 ⟨hm, (pr_why p1).2, p1.km⟩
  have l2 := nodup_le (m := S.map fun i => (aftF l i).toNat) nT fun m hm => by
    obtain ⟨hm1, hm2, hm3⟩ := (memT m).1 hm
    obtain ⟨i, hi, p1⟩ := pr_out hs hm1 hm3 hm2
    refine List.mem_map.2 ⟨i, (memS i).2 ⟨hi, (pr_why p1).1, p1.ki⟩, ?_⟩
    rw [pr_aft p1]
    rfl
  rw [List.length_map] at l1 l2
  omega
theorem stays_count {l : List Par} (hs : TimS l) (hg : ∀ x ∈ l, isGate x = true) : l.length = 2 * (rstays l).length + (rexcl l).length := by
  have e1 : (rstays l).length = ((List.range l.length).filter fun i => okI l i && isIn l i).length := fm_count fun i hi => by
    have hi := List.mem_range.1 hi
    rw [stOf, List.getElem?_eq_getElem hi, isIn_at hi]
    dsimp only
    unfold okI
    by_cases h : whyF l i = 0
    · rw [if_neg (by simp [h]), decide_eq_true h, Bool.true_and]
      by_cases h5 : l[i].kind = 5
      · rw [if_pos h5, decide_eq_true h5]
        rfl
      rw [if_neg h5, decide_eq_false h5]
      rfl
    rw [if_pos h, decide_eq_false h, Bool.false_and]
    rfl
  have e2 : (rexcl l).length = ((List.range l.length).filter fun i => true && !okI l i).length := fm_count fun i hi => by
    have hi := List.mem_range.1 hi
    rw [exOf, List.getElem?_eq_getElem hi]
    dsimp only
    unfold okI
    by_cases h : whyF l i = 0
    · rw [if_neg (by simp [h]), decide_eq_true h]
      rfl
    rw [if_pos h, decide_eq_false h]
    rfl
  have e3 := filter_parts (p := fun _ => true) (q := fun i => okI l i) (L := List.range l.length)
  have e4 := filter_parts (p := fun i => okI l i) (q := isIn l) (L := List.range l.length)
  have e5 := pairs_count hs hg
  have e6 : ((List.range l.length).filter fun _ => true) = List.range l.length := List.filter_eq_self.2 fun _ _ => rfl
  rw [e6, List.length_range] at e3
  simp only [Bool.true_and] at e3 e2
  omega
theorem stay_of {l : List Par} (hs : TimS l) {i : Nat} {x : Sty} (hx : x ∈ stOf l i) : ∃ (hi : i < l.length) (m : Nat) (hm : m < l.length), Pr l i m hi hm ∧ x.zone = l[i].zone ∧ x.plate = l[i].plate ∧ x.v = (l[i].time, l[m].time) := by
  unfold stOf at hx
  by_cases hi : i < l.length
  · rw [List.getElem?_eq_getElem hi] at hx
    dsimp only at hx
    split at hx
    · cases hx
    rename_i hw
    have hw : whyF l i = 0 := by simpa using hw
    split at hx
    · rename_i h5
      obtain ⟨m, e1, hm, p1⟩ := pr_in hs hi h5 hw
      rw [List.mem_singleton] at hx
      subst hx
      refine ⟨hi, m, hm, p1, rfl, rfl, ?_⟩
      rw [e1, show ((m : Int)).toNat = m by omega, List.getElem?_eq_getElem hm]
      rfl
    cases hx
  rw [List.getElem?_eq_none (by omega)] at hx
  cases hx
theorem ordP_tm {a b : Par} (h : ordP a b < 0) : a.time ≤ b.time := by
  apply Classical.byContradiction
  intro hn
  have h1 : ¬ a.time < b.time := by omega
  have h2 : b.time < a.time := by omega
  rw [ordP, ordI, if_neg h1, if_pos h2] at h
  simp [firstNz] at h
theorem strict_time {l : List Par} (h : StrictS l) : TimS l := fun i j hi hj hij => ordP_tm (List.pairwise_iff_getElem.1 h i j hi hj hij)
theorem gates_time (l : List Par) : TimS (gatesF l) := strict_time (sortR_strict _)
theorem gates_gate (l : List Par) : ∀ x ∈ gatesF l, isGate x = true := fun x hx => (List.mem_filter.1 (mem_sortR.1 hx)).2
theorem gates_sort (l : List Par) : (sortR l).filter isGate = gatesF l :=
  strict_ext (List.Pairwise.filter _ (sortR_strict _)) (sortR_strict _) fun x => by rw [gatesF, List.mem_filter, mem_sortR, mem_sortR, List.mem_filter]
end Go.Ab
