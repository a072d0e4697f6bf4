/-
  Texts of the layer and of the laws, put together: AbJ35.
-/
import Derived.Test.YtdoofgbeajkpaaaGreatDoorAbWD47
set_option linter.unusedSimpArgs false
set_option linter.unusedVariables false
set_option maxRecDepth 100000
namespace Go.Ab
open Go.RowKit Go.Proofs
def Sty.In (s : Sty) : Prop := inI s.v.1 = true ∧ inI s.v.2 = true
theorem short3_ok {s : Sty} (h : shortY s = true) (hi : s.In) : s.Ok := by
  simp only [shortY, Bool.and_eq_true, decide_eq_true_eq] at h
  exact ⟨hi.1, hi.2, by omega, by omega⟩
theorem some3_ok {c : Clm} (h : someV c = true) : zonesOk c.zs ∧ c.ss.length ≤ 20 ∧ pmtsOk c.ps := by
  simp only [someV, smN, Bool.and_eq_true, decide_eq_true_eq, List.all_eq_true] at h
  obtain ⟨h1, h2, h3, h4, h5, h6⟩ := h
  refine ⟨⟨by omega, fun z hz => ?_⟩, by omega, by omega, fun p hp => ?_⟩
  · have := h1 z hz
    simp only [smZ, Bool.and_eq_true, decide_eq_true_eq] at this
    exact ⟨by omega, by omega⟩
  have := h3 p hp
  simp only [smP, Bool.and_eq_true, decide_eq_true_eq] at this
  exact ⟨by omega, by omega⟩
theorem unp_len {zs : List Zon} {ss : List Ses} {ps : List Pmt} {s : Sty} (hss : ss.length ≤ 1000) (hps : pmtsOk ps) : ((unpF zs ss ps s).1.getD []).length ≤ 1000000 := by
  have hcl : ((covF ps s.plate s.zone s.v).1.getD []).length ≤ 370000 := by
    unfold covF
    split
    · simp
    have h1 := @covF_len s.plate s.zone s.v 10 ps none (fun p hp => (hps.2 p hp).2)
    have h2 := hps.1
    simp only [Option.getD_none, List.length_nil] at h1
    dsimp only
    omega
  unfold unpF
  by_cases hc : chkF zs s = 0
  · rw [if_neg (by rw [hc]; simp)]
    obtain ⟨z, hz, hze, _⟩ := chk_zero hc
    obtain ⟨_, hzh⟩ := free_ok hze
    rw [hz]
    dsimp only
    split
    · simp
    have h1 := @minusJ_len ((enfF z s.v).1.getD []) (paidL s z ss ++ (covF ps s.plate s.zone s.v).1.getD [])
    have h2 := @enfF_len z s.v hzh
    have h3 : (paidL s z ss).length ≤ 1 + ss.length := by
      unfold paidL
      have := List.length_filter_le (paidS s) ss
      simp
      omega
    rw [List.length_append] at h1
    show (minusJ _ _).length ≤ _
    omega
  rw [if_pos hc]
  simp
noncomputable section
open Classical
theorem short3_at {s : Sty} : short30_m [.agg s.row] = some [.b (shortY s)] := mE_eq encSy_inj (g := fun s => some [DV.b (shortY s)]) (a := s)
theorem some3_at {c : Clm} (h1 : c.zs.length ≤ 9223372036854775807) (h2 : c.ss.length ≤ 9223372036854775807) (h3 : c.ps.length ≤ 9223372036854775807) : some30_m [.agg c.row] = some [.b (someV c)] := by
  have := mE_eq encC_inj (g := fun c : Clm => if decide (c.zs.length ≤ 9223372036854775807 ∧ c.ss.length ≤ 9223372036854775807 ∧ c.ps.length ≤ 9223372036854775807) = true then some [DV.b (someV c)] else none) (a := c)
  exact this.trans (if_pos (decide_eq_true ⟨h1, h2, h3⟩))
theorem r0unp_at {f g k : Bool} {zs : List Zon} {ss : List Ses} {ps : List Pmt} {s : Sty} (h : unpOk ((s, f, zs), (g, ss), k, ps)) : r0unp_m [.agg s.row, .c (.sl f (zs.map Zon.row)), .c (.sl g (ss.map Ses.row)), .c (.sl k (ps.map Pmt.row))] = some [.c (.sl (runpF zs ss ps s).1.isNone (((runpF zs ss ps s).1.getD []).map rwI)), .i (runpF zs ss ps s).2] := by
  have := mE_eq encUnp_inj (g := fun p => if unpOk p then some [DV.c (.sl (runpF p.1.2.2 p.2.1.2 p.2.2.2 p.1.1).1.isNone (((runpF p.1.2.2 p.2.1.2 p.2.2.2 p.1.1).1.getD []).map rwI)), .i (runpF p.1.2.2 p.2.1.2 p.2.2.2 p.1.1).2] else none) (a := ((s, f, zs), (g, ss), k, ps))
  exact this.trans (if_pos h)
def encSC (p : Sty × Clm) : List PA := [.agg p.1.row, .agg p.2.row]
theorem encSC_inj (a b : Sty × Clm) (h : encSC a = encSC b) : a = b := by
  simp only [encSC, List.cons.injEq, DV.agg.injEq, and_true] at h
  exact Prod.ext (Sty.inj _ _ h.1) (Clm.inj _ _ h.2)
def Clm.Fit (c : Clm) : Prop := c.zs.length ≤ 9223372036854775807 ∧ c.ss.length ≤ 9223372036854775807 ∧ c.ps.length ≤ 9223372036854775807
def yUnpaid_m : List PA → Option (List PA) := mE encSC fun p => if p.1.In ∧ p.2.Fit then some [.b true] else none
theorem yUnpaid_ok : PureC Tryz.prog Gt 6 yUnpaid_m := by
  refine pure_of_awpS (X := ctx Tryz.prog Gt [(27, short30_m), (28, some30_m), (20, stunp_m), (33, r0unp_m), (34, r5same_m), (23, yawake_m)]) Tryz.func6 rfl rfl (by kernel_rfl) (by kernel_rfl) (AllOk.cons short30_ok (AllOk.cons some30_ok (AllOk.cons stunp_ok (AllOk.cons r0unp_ok (AllOk.cons r5same_ok (AllOk.cons yawake_ok AllOk.nil)))))).kok ?_
  intro args r h0
  obtain ⟨⟨s, c⟩, rfl, h⟩ := mE_inv h0
  refine ⟨Nat.le_of_ble_eq_true rfl, ?_⟩
  split at h
  · rename_i hl
    dsimp only at hl h
    cases h
    have e0 := yawake_at
    have f1 := @short3_at s
    have f2 := @some3_at c hl.2.1 hl.2.2.1 hl.2.2.2
    cases c1 : shortY s
    · rw [c1] at f1
      simp only [Sty.row] at f1
      have hc := Nat.zero_add 0
      repeat' (first | simp only [hc, AS, Tryz.f6, encSC, Sty.row, Clm.row, SX, e0, f1, ZZ, simprocAttr, ↓reduceIte] | refine Zi ?_ )
      all_goals simp [DV.b]
    rw [c1] at f1
    cases c2 : someV c
    · rw [c2] at f2
      simp only [Sty.row, Clm.row] at f1 f2
      have hc := Nat.zero_add 0
      repeat' (first | simp only [hc, AS, Tryz.f6, encSC, Sty.row, Clm.row, SX, e0, f1, f2, ZZ, simprocAttr, ↓reduceIte] | refine Zi ?_ )
      all_goals simp [DV.b]
    rw [c2] at f2
    have hs := short3_ok c1 hl.1
    obtain ⟨hz, hss, hps⟩ := some3_ok c2
    have hok : unpOk ((s, c.zf, c.zs), (c.sf, c.ss), c.pf, c.ps) := ⟨hs, hz, by show c.ss.length ≤ 1000; omega, hps⟩
    have f3 := stunp_at hok
    have f4 := r0unp_at hok
    rw [← unp_same] at f4
    have hul : ((unpF c.zs c.ss c.ps s).1.getD []).length ≤ 1000000000 := Nat.le_trans (unp_len (by omega) hps) (by decide)
    have f5 := r5same_at (f := (unpF c.zs c.ss c.ps s).1.isNone) (g := (unpF c.zs c.ss c.ps s).1.isNone) (a := (unpF c.zs c.ss c.ps s).1.getD []) (b := (unpF c.zs c.ss c.ps s).1.getD []) hul
    rw [decide_eq_true rfl] at f5
    generalize unpF c.zs c.ss c.ps s = u at *
    simp only [Sty.row, Clm.row] at f1 f2 f3 f4
    have hc := Nat.zero_add 0
    repeat' (first | simp only [hc, AS, Tryz.f6, encSC, Sty.row, Clm.row, SX, e0, f1, f2, f3, f4, f5, ZZ, simprocAttr, ↓reduceIte] | refine Zi ?_ )
    all_goals simp [DV.b]
  cases h
end
end Go.Ab
