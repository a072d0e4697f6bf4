/-
  Texts of the layer and of the laws, put together: AbJ20, AbI6.
-/
import Derived.Test.YtdoofgbeajkpaaaGreatDoorAbWP41
import Derived.Test.YtdoofgbeajkpaaaGreatDoorAbWP37
import Derived.Test.YtdoofgbeajkpaaaGreatDoorAbWP36
import Derived.Test.YtdoofgbeajkpaaaGreatDoorAbWP35
set_option linter.unusedSimpArgs false
set_option linter.unusedVariables false
set_option maxRecDepth 100000
namespace Go.Ab
open Go.RowKit Go.Proofs
theorem minusJ_len {a b : List Iv} : (minusJ a b).length ≤ a.length + b.length + 1 := by
  have h1 := @meetJ_len a (gapsF 0 (joinF b))
  have h2 := @gapsF_len (joinF b) 0
  have h3 := @joinF_len b
  unfold minusJ
  omega
noncomputable section
open Classical
end
end Go.Ab
namespace Go.Ab
open Go.RowKit Go.Proofs
theorem hrs_valid {hs : List Win} {t : Int} : (hs.filter wOk).any (fun w => inB w.d w.f w.t t) = hs.any fun w => inB w.d w.f w.t t := by
  rw [List.any_filter]
  congr 1
  funext w
  cases hw : wOk w
  · have hw : validB w.d w.f w.t = false := hw
    simp [inB, hw]
  rfl
theorem days_iv {i : Iv} (h : daysErr i = 0) : ivOk i = true := by
  unfold daysErr at h
  split at h
  · cases h
  rename_i h'; simpa using h'
theorem iv_range {i : Iv} (h : ivOk i = true) {t : Int} (ht : i.1 ≤ t ∧ t < i.2) : 0 ≤ t ∧ t < mxT := by
  have := ivOk_iff.1 h
  omega
theorem hasV_one {i : Iv} {t : Int} : hasV [i] t ↔ ivOk i = true ∧ i.1 ≤ t ∧ t < i.2 := by
  rw [hasV_cons]
  exact ⟨fun h => h.elim id fun h => absurd h hasV_nil, .inl⟩
theorem hrsU_in {i : Iv} (hd : daysErr i = 0) {t : Int} : ∀ {hs : List Win} {o : Option (List Iv)}, hasV ((hs.foldl (stepU i) o).getD []) t ↔ hasV (o.getD []) t ∨ ((i.1 ≤ t ∧ t < i.2) ∧ hs.any (fun w => inB w.d w.f w.t t) = true)
  | [], o => by simp
  | w :: hs, o => by
    rw [List.foldl_cons, hrsU_in hd]
    have : hasV ((stepU i o w).getD []) t ↔ hasV (o.getD []) t ∨ ((i.1 ≤ t ∧ t < i.2) ∧ inB w.d w.f w.t t = true) := by
      show hasV (joinF _) t ↔ _
      rw [joinF_has, hasV_append]
      exact or_congr Iff.rfl (spans_in hd)
    rw [this, List.any_cons, Bool.or_eq_true]
    constructor
    · rintro ((h | ⟨h1, h2⟩) | ⟨h1, h2⟩)
      · exact .inl h
      · exact .inr ⟨h1, .inl h2⟩
      exact .inr ⟨h1, .inr h2⟩
    rintro (h | ⟨h1, h2 | h2⟩)
    · exact .inl (.inl h)
    · exact .inl (.inr ⟨h1, h2⟩)
    exact .inr ⟨h1, h2⟩
theorem hrsU_in0 {i : Iv} (hd : daysErr i = 0) {t : Int} {hs : List Win} : hasV ((hrsU i hs).getD []) t ↔ (i.1 ≤ t ∧ t < i.2) ∧ hs.any (fun w => inB w.d w.f w.t t) = true := by
  rw [hrsU, hrsU_in hd]
  exact ⟨fun h => h.elim (fun h => absurd h hasV_nil) id, .inr⟩
theorem enf_in {z : Zon} {i : Iv} (hd : daysErr i = 0) {t : Int} : hasV ((enfF z i).1.getD []) t ↔ (i.1 ≤ t ∧ t < i.2) ∧ hrsP z.hrs t = true := by
  have hv := days_iv hd
  unfold enfF
  rw [if_neg (by rw [hd]; simp)]
  split
  · rename_i h0
    show hasV [i] t ↔ _
    rw [hasV_one, h0]
    exact ⟨fun h => ⟨h.2, rfl⟩, fun h => ⟨hv, h.1⟩⟩
  rename_i h0
  show hasV ((hrsU i (z.hrs.filter wOk)).getD []) t ↔ _
  rw [hrsU_in0 hd, hrs_valid]
  have : z.hrs.isEmpty = false := by
    cases hz : z.hrs with
    | nil => exact absurd hz h0
    | cons a l => rfl
  rw [hrsP, this, Bool.false_or]
theorem open_in {z : Zon} {t : Int} (h0 : 0 ≤ t) (h1 : t < mxT) : openF z t = hrsP z.hrs t := by
  have : btwB t 0 68719476735 = true := decide_eq_true ⟨h0, by have : t < 68719476736 := h1; omega⟩
  rw [openF, this, Bool.true_and, hrsP]
  congr 1
  rw [openW]
  congr 1
  funext w
  cases hw : wOk w
  · have hw : validB w.d w.f w.t = false := hw
    simp [inB, hw]
  rfl
theorem allow_in {p : Pmt} {s : List UInt8} {i : Iv} (hd : daysErr i = 0) {t : Int} : hasV ((allowF p s i).1.getD []) t ↔ (i.1 ≤ t ∧ t < i.2) ∧ validP p s t = true := by
  have hv := days_iv hd
  have hW : hasW [p.v] t = true ↔ hasV [p.v] t := hasW_iff
  have mi : inV (meetJ [i] [p.v]) t ↔ (i.1 ≤ t ∧ t < i.2) ∧ hasV [p.v] t := by
    rw [meetJ_in, hasV_one]
    exact ⟨fun h => ⟨h.1.2, h.2⟩, fun h => ⟨⟨hv, h.1⟩, h.2⟩⟩
  have mh : hasV (meetJ [i] [p.v]) t ↔ (i.1 ≤ t ∧ t < i.2) ∧ hasV [p.v] t := (hasV_ok meetJ_ok).trans mi
  unfold allowF validP
  rw [if_neg (by rw [hd]; simp)]
  cases hl : listB p s
  · rw [if_pos rfl, Bool.false_and]
    exact ⟨fun h => absurd h hasV_nil, fun h => by cases h.2⟩
  rw [if_neg (by decide), Bool.true_and, Bool.and_eq_true, hW]
  split
  · rename_i h0
    show hasV (meetJ [i] [p.v]) t ↔ _
    rw [mh, h0]
    exact ⟨fun h => ⟨h.1, h.2, rfl⟩, fun h => ⟨h.1, h.2.1⟩⟩
  rename_i h0
  show hasV (meetJ (meetJ [i] [p.v]) ((hrsU i p.hrs).getD [])) t ↔ _
  rw [hasV_ok meetJ_ok, meetJ_in, mh, hrsU_in0 hd]
  have : p.hrs.isEmpty = false := by
    cases hz : p.hrs with
    | nil => exact absurd hz h0
    | cons a l => rfl
  rw [hrsP, this, Bool.false_or]
  exact ⟨fun h => ⟨h.1.1, h.1.2, h.2.2⟩, fun h => ⟨⟨h.1, h.2.1⟩, h.1, h.2.2⟩⟩
def cvB (n s : List UInt8) (t : Int) (p : Pmt) : Bool := decide (p.zone = n) && validP p s t
theorem stepC_in {s n : List UInt8} {i : Iv} (hd : daysErr i = 0) {t : Int} : ∀ {l : List Pmt} {o : Option (List Iv)}, hasV ((l.foldl (stepC s n i) o).getD []) t ↔ hasV (o.getD []) t ∨ ((i.1 ≤ t ∧ t < i.2) ∧ l.any (cvB n s t) = true)
  | [], o => by simp
  | p :: l, o => by
    rw [List.foldl_cons, stepC_in hd]
    have : hasV ((stepC s n i o p).getD []) t ↔ hasV (o.getD []) t ∨ ((i.1 ≤ t ∧ t < i.2) ∧ cvB n s t p = true) := by
      unfold stepC cvB
      by_cases hz : p.zone = n
      · rw [if_pos hz, decide_eq_true hz, Bool.true_and]
        show hasV (joinF _) t ↔ _
        rw [joinF_has, hasV_append]
        exact or_congr Iff.rfl (allow_in hd)
      rw [if_neg hz, decide_eq_false hz, Bool.false_and]
      simp
    rw [this, List.any_cons, Bool.or_eq_true]
    constructor
    · rintro ((h | ⟨h1, h2⟩) | ⟨h1, h2⟩)
      · exact .inl h
      · exact .inr ⟨h1, .inl h2⟩
      exact .inr ⟨h1, .inr h2⟩
    rintro (h | ⟨h1, h2 | h2⟩)
    · exact .inl (.inl h)
    · exact .inl (.inr ⟨h1, h2⟩)
    exact .inr ⟨h1, h2⟩
theorem cov_in {l : List Pmt} {s n : List UInt8} {i : Iv} (hd : daysErr i = 0) {t : Int} : hasV ((covF l s n i).1.getD []) t ↔ (i.1 ≤ t ∧ t < i.2) ∧ l.any (cvB n s t) = true := by
  unfold covF
  rw [if_neg (by rw [hd]; simp)]
  show hasV ((l.foldl (stepC s n i) none).getD []) t ↔ _
  rw [stepC_in hd]
  exact ⟨fun h => h.elim (fun h => absurd h hasV_nil) id, .inr⟩
theorem enf_e {z : Zon} {i : Iv} : (enfF z i).2 = daysErr i := by
  unfold enfF
  split
  · rfl
  rename_i h
  split <;> simp_all
theorem paidL_in {s : Sty} {z : Zon} {ss : List Ses} {t : Int} (hv : ivOk s.v = true) (hf : 0 ≤ z.free) (ht : s.v.1 ≤ t ∧ t < s.v.2) : hasV (paidL s z ss) t ↔ t - s.v.1 < z.free ∨ ∃ x ∈ ss, x.zone = s.zone ∧ x.plate = s.plate ∧ (paidF x).1 ≤ t ∧ t < (paidF x).2 := by
  have hb := ivOk_iff.1 hv
  rw [paidL, hasV_cons]
  refine or_congr ?_ ?_
  · rw [ivOk_iff, freeI]
    dsimp only
    omega
  constructor
  · rintro ⟨i, hi, _, h1, h2⟩
    obtain ⟨x, hx, rfl⟩ := List.mem_map.1 hi
    obtain ⟨hx, hp⟩ := List.mem_filter.1 hx
    simp only [paidS, Bool.and_eq_true, decide_eq_true_eq] at hp
    exact ⟨x, hx, hp.1, hp.2, h1, h2⟩
  rintro ⟨x, hx, h1, h2, h3, h4⟩
  refine ⟨paidF x, List.mem_map.2 ⟨x, List.mem_filter.2 ⟨hx, by simp [paidS, h1, h2]⟩, rfl⟩, ?_, h3, h4⟩
  unfold paidF at h3 h4 ⊢
  split
  · rename_i hi
    rw [ival_iv] at hi
    exact hi
  rename_i hi
  rw [if_neg hi] at h3 h4
  dsimp only at h3 h4
  omega
theorem unp_in {zs : List Zon} {ss : List Ses} {ps : List Pmt} {s : Sty} (he : (unpF zs ss ps s).2 = 0) : ∃ z, findZ zs s.zone = some z ∧ NF ((unpF zs ss ps s).1.getD []) ∧ ∀ t, inV ((unpF zs ss ps s).1.getD []) t ↔
    (s.v.1 ≤ t ∧ t < s.v.2) ∧ openF z t = true ∧ z.free ≤ t - s.v.1 ∧ ¬ (∃ x ∈ ss, x.zone = s.zone ∧ x.plate = s.plate ∧ (paidF x).1 ≤ t ∧ t < (paidF x).2) ∧ ps.any (cvB s.zone s.plate t) = false := by
  unfold unpF at he ⊢
  by_cases hc : chkF zs s = 0
  · rw [if_neg (by rw [hc]; simp)] at he ⊢
    obtain ⟨z, hz, hze, hv⟩ := chk_zero hc
    obtain ⟨⟨hf0, _⟩, _⟩ := free_ok hze
    rw [hz] at he ⊢
    dsimp only at he ⊢
    rw [enf_e] at he ⊢
    by_cases hd : daysErr s.v = 0
    · rw [if_neg (by rw [hd]; simp)]
      refine ⟨z, rfl, minusJ_nf, fun t => ?_⟩
      show inV (minusJ _ _) t ↔ _
      rw [minusJ_in, hasV_append, enf_in hd, cov_in hd]
      constructor
      · rintro ⟨⟨a, b⟩, c⟩
        have hr := iv_range hv a
        refine ⟨a, by rw [open_in hr.1 hr.2]; exact b, ?_, fun h => c (.inl ((paidL_in hv hf0 a).2 (.inr h))), ?_⟩
        · apply Classical.byContradiction
          intro h
          exact c (.inl ((paidL_in hv hf0 a).2 (.inl (by omega))))
        cases hp : ps.any (cvB s.zone s.plate t)
        · rfl
        exact absurd (.inr ⟨a, hp⟩) c
      rintro ⟨a, b, c, d, e⟩
      have hr := iv_range hv a
      refine ⟨⟨a, by rw [← open_in hr.1 hr.2]; exact b⟩, ?_⟩
      rintro (h | ⟨_, h⟩)
      · rcases (paidL_in hv hf0 a).1 h with h | h
        · omega
        exact d h
      rw [e] at h; cases h
    rw [if_pos hd] at he
    exact absurd he hd
  rw [if_pos hc] at he
  exact absurd he hc
end Go.Ab
