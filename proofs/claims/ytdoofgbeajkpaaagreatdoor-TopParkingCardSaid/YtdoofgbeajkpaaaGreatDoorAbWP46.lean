/-
  Texts of the layer and of the laws, put together: AbJ35.
-/
import Derived.Test.YtdoofgbeajkpaaaGreatDoorAbWP45
set_option linter.unusedSimpArgs false
set_option linter.unusedVariables false
set_option maxRecDepth 100000
namespace Go.Ab
open Go.RowKit Go.Proofs
theorem unp_len {zs : List Zon} {ss : List Ses} {ps : List Pmt} {s : Sty} (hss : ss.length ≤ 1000) (hps : pmtsOk ps) : ((unpF zs ss ps s).1.getD []).length ≤ 1000000 := by
  have hcl : ((covF ps s.plate s.zone s.v).1.getD []).length ≤ 370000 := by
    unfold covF
    split
    · simp
    have h1 := @covF_len s.plate s.zone s.v 10 ps none (fun p hp => (hps.2 p hp).2)
    have h2 := hps.1
    simp only [Option.getD_none, List.length_nil] at h1
    dsimp only
    omega
  unfold unpF
  by_cases hc : chkF zs s = 0
  · rw [if_neg (by rw [hc]; simp)]
    obtain ⟨z, hz, hze, _⟩ := chk_zero hc
    obtain ⟨_, hzh⟩ := free_ok hze
    rw [hz]
    dsimp only
    split
    · simp
    have h1 := @minusJ_len ((enfF z s.v).1.getD []) (paidL s z ss ++ (covF ps s.plate s.zone s.v).1.getD [])
    have h2 := @enfF_len z s.v hzh
    have h3 : (paidL s z ss).length ≤ 1 + ss.length := by
      unfold paidL
      have := List.length_filter_le (paidS s) ss
      simp
      omega
    rw [List.length_append] at h1
    show (minusJ _ _).length ≤ _
    omega
  rw [if_pos hc]
  simp
noncomputable section
open Classical
end
end Go.Ab
