/-
  Texts of the layer and of the laws, put together: AbJ35.
-/
import Derived.Test.YtdoofgbeajkpaaaGreatDoorAbWC46
set_option linter.unusedSimpArgs false
set_option linter.unusedVariables false
set_option maxRecDepth 100000
namespace Go.Ab
open Go.RowKit Go.Proofs
def Sty.In (s : Sty) : Prop := inI s.v.1 = true ∧ inI s.v.2 = true
theorem short3_ok {s : Sty} (h : shortY s = true) (hi : s.In) : s.Ok := by
  simp only [shortY, Bool.and_eq_true, decide_eq_true_eq] at h
  exact ⟨hi.1, hi.2, by omega, by omega⟩
theorem some3_ok {c : Clm} (h : someV c = true) : zonesOk c.zs ∧ c.ss.length ≤ 20 ∧ pmtsOk c.ps := by
  simp only [someV, smN, Bool.and_eq_true, decide_eq_true_eq, List.all_eq_true] at h
  obtain ⟨h1, h2, h3, h4, h5, h6⟩ := h
  refine ⟨⟨by omega, fun z hz => ?_⟩, by omega, by omega, fun p hp => ?_⟩
  · have := h1 z hz
    simp only [smZ, Bool.and_eq_true, decide_eq_true_eq] at this
    exact ⟨by omega, by omega⟩
  have := h3 p hp
  simp only [smP, Bool.and_eq_true, decide_eq_true_eq] at this
  exact ⟨by omega, by omega⟩
theorem unp_len {zs : List Zon} {ss : List Ses} {ps : List Pmt} {s : Sty} (hss : ss.length ≤ 1000) (hps : pmtsOk ps) : ((unpF zs ss ps s).1.getD []).length ≤ 1000000 := by
  have hcl : ((covF ps s.plate s.zone s.v).1.getD []).length ≤ 370000 := by
    unfold covF
    split
    · simp
    have h1 := @covF_len s.plate s.zone s.v 10 ps none (fun p hp => (hps.2 p hp).2)
    have h2 := hps.1
    simp only [Option.getD_none, List.length_nil] at h1
    dsimp only
    omega
  unfold unpF
  by_cases hc : chkF zs s = 0
  · rw [if_neg (by rw [hc]; simp)]
    obtain ⟨z, hz, hze, _⟩ := chk_zero hc
    obtain ⟨_, hzh⟩ := free_ok hze
    rw [hz]
    dsimp only
    split
    · simp
    have h1 := @minusJ_len ((enfF z s.v).1.getD []) (paidL s z ss ++ (covF ps s.plate s.zone s.v).1.getD [])
    have h2 := @enfF_len z s.v hzh
    have h3 : (paidL s z ss).length ≤ 1 + ss.length := by
      unfold paidL
      have := List.length_filter_le (paidS s) ss
      simp
      omega
    rw [List.length_append] at h1
    show (minusJ _ _).length ≤ _
    omega
  rw [if_pos hc]
  simp
noncomputable section
open Classical
theorem short3_at {s : Sty} : short30_m [.agg s.row] = some [.b (shortY s)] := mE_eq encSy_inj (g := fun s => some [DV.b (shortY s)]) (a := s)
theorem some3_at {c : Clm} (h1 : c.zs.length ≤ 9223372036854775807) (h2 : c.ss.length ≤ 9223372036854775807) (h3 : c.ps.length ≤ 9223372036854775807) : some30_m [.agg c.row] = some [.b (someV c)] := by
  have := mE_eq encC_inj (g := fun c : Clm => if decide (c.zs.length ≤ 9223372036854775807 ∧ c.ss.length ≤ 9223372036854775807 ∧ c.ps.length ≤ 9223372036854775807) = true then some [DV.b (someV c)] else none) (a := c)
  exact this.trans (if_pos (decide_eq_true ⟨h1, h2, h3⟩))
def Clm.Fit (c : Clm) : Prop := c.zs.length ≤ 9223372036854775807 ∧ c.ss.length ≤ 9223372036854775807 ∧ c.ps.length ≤ 9223372036854775807
end
end Go.Ab
