/-
  Texts of the layer and of the laws, put together: AbJ39.
-/
import Derived.Test.YtdoofgbeajkpaaaGreatDoorAbWP46
import Derived.Test.YtdoofgbeajkpaaaGreatDoorAbWP45
set_option linter.unusedSimpArgs false
set_option linter.unusedVariables false
set_option maxRecDepth 100000
namespace Go.Ab
open Go.RowKit Go.Proofs
theorem unp_iv {zs : List Zon} {ss : List Ses} {ps : List Pmt} {s : Sty} (he : (unpF zs ss ps s).2 = 0) : ivOk s.v = true ∧ ∀ z, findZ zs s.zone = some z → z.err = 0 := by
  unfold unpF at he
  by_cases hc : chkF zs s = 0
  · obtain ⟨z, hz, hze, hv⟩ := chk_zero hc
    exact ⟨hv, fun z' h => by rw [hz] at h; cases h; exact hze⟩
  rw [if_pos hc] at he
  exact absurd he hc
theorem due_iff {zs : List Zon} {s : Sty} {c : Clm} {t : Int} {z : Zon} (he : (unpF c.zs c.ss c.ps s).2 = 0) (hz : findZ c.zs s.zone = some z) : inV ((unpF c.zs c.ss c.ps s).1.getD []) t ↔ (s.v.1 ≤ t ∧ t < s.v.2) ∧ openF z t = true ∧ z.free ≤ t - s.v.1 ∧ covV s c t = false := by
  obtain ⟨z', hz', _, hin⟩ := unp_in he
  rw [hz] at hz'
  cases hz'
  rw [hin t]
  have hcov : covV s c t = false ↔ ¬ (∃ x ∈ c.ss, x.zone = s.zone ∧ x.plate = s.plate ∧ (paidF x).1 ≤ t ∧ t < (paidF x).2) ∧ c.ps.any (cvB s.zone s.plate t) = false := by
    rw [covV, Bool.or_eq_false_iff]
    refine and_congr ?_ Iff.rfl
    rw [List.any_eq_false]
    constructor
    · rintro h ⟨x, hx, h1, h2, h3, h4⟩
      exact h x hx (by simp [cvS, h1, h2, h3, h4])
    intro h x hx hc
    simp only [cvS, Bool.and_eq_true, decide_eq_true_eq] at hc
    exact h ⟨x, hx, hc.1, hc.2.1, hc.2.2.1, hc.2.2.2⟩
  rw [hcov]
noncomputable section
open Classical
end
end Go.Ab
