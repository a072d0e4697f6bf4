/-
  Texts of the layer and of the laws, put together: AbU4.
-/
import Derived.Test.YtdoofgbeajkpaaaGreatDoorAbWP17
import Derived.Test.YtdoofgbeajkpaaaGreatDoorAbWP24
set_option linter.unusedSimpArgs false
set_option linter.unusedVariables false
set_option maxRecDepth 100000
namespace Go.Ab
open Go.RowKit Go.Proofs
def lowB (c : UInt8) : Bool := decide (97 ≤ c.toNat ∧ c.toNat ≤ 122)
def upC (c : UInt8) : UInt8 := if lowB c = true then c - 32 else c
def gapB (c : UInt8) : Bool := decide (c.toNat = 32 ∨ c.toNat = 45)
def platB (c : UInt8) : Bool := decide ((65 ≤ c.toNat ∧ c.toNat ≤ 90) ∨ (48 ≤ c.toNat ∧ c.toNat ≤ 57))
def plL (s : List UInt8) : List UInt8 := (s.filter (fun c => !gapB c)).map upC
def plOk (o : List UInt8) : Bool := o.all platB && decide (2 ≤ o.length ∧ o.length ≤ 10)
def plF (s : List UInt8) : List UInt8 × Int := if plOk (plL s) = true then (plL s, 0) else ([], 19)
theorem up_low {c : UInt8} (h : lowB c = true) : (upC c).toNat = c.toNat - 32 := by
  unfold upC
  rw [if_pos h]
  have hc := of_decide_eq_true h
  rw [UInt8.toNat_sub, show (32 : UInt8).toNat = 32 from rfl]
  omega
theorem up_else {c : UInt8} (h : lowB c = false) : upC c = c := by unfold upC; rw [if_neg (by simp [h])]
theorem plL_split (s : List UInt8) (j : Nat) : plL s = plL (s.take j) ++ plL (s.drop j) := by
  unfold plL
  rw [← List.map_append, ← List.filter_append, List.take_append_drop]
theorem plL_cons (c : UInt8) (r : List UInt8) : plL (c :: r) = (if gapB c = true then [] else [upC c]) ++ plL r := by
  unfold plL
  cases h : gapB c <;> simp [h]
theorem plL_next {s : List UInt8} {j : Nat} (hj : j < s.length) : plL (s.take (j + 1)) = plL (s.take j) ++ (if gapB s[j] = true then [] else [upC s[j]]) := by
  rw [plL_split (s.take (j + 1)) j, List.take_take, Nat.min_eq_left (by omega), List.take_succ_eq_append_getElem hj, List.drop_left' (by simp; omega), plL_cons]
  simp [plL]
theorem plL_at {s : List UInt8} {j : Nat} (hj : j < s.length) : plL s = plL (s.take j) ++ ((if gapB s[j] = true then [] else [upC s[j]]) ++ plL (s.drop (j + 1))) := by
  rw [plL_split s j, List.drop_eq_getElem_cons hj, plL_cons]
noncomputable section
open Classical
def pnorm_m : List PA → Option (List PA) := ms fun s => if decide (s.length ≤ 1000000000) = true then some [.c (.str (plF s).1), .i (plF s).2] else none
theorem plF_no {s : List UInt8} (h : plOk (plL s) = false) : plF s = ([], 19) := by unfold plF; rw [if_neg (by simp [h])]
theorem plF_yes {s : List UInt8} (h : plOk (plL s) = true) : plF s = (plL s, 0) := by unfold plF; rw [if_pos h]
theorem pnorm_ok : PureC Tryz.prog Gt 66 pnorm_m := by
  refine pure_of_awp (X := ctx Tryz.prog Gt []) Tryz.func66 rfl rfl (by kernel_rfl) (by kernel_rfl) AllOk.nil.kok ?_
  intro args r h0
  obtain ⟨s, rfl, h⟩ := ms_inv h0
  refine ⟨Nat.le_of_ble_eq_true rfl, ?_⟩
  split at h
  · rename_i hlen
    have hlen := of_decide_eq_true hlen
    cases h
    have hc := Nat.zero_add 0
    repeat' (first | simp only [hc, Tryz.f66, SX, ZZ, simprocAttr, ↓reduceIte] | ((first | apply Za | apply Zb | apply Zc | apply Zd | apply Ze | apply Zf | apply Zg | apply Zh) <;> intro hc) | refine Zj ?_)
    refine awp_loop (σ := Nat × List UInt8) (fun p => p.1 ≤ s.length ∧ p.2 = plL (s.take p.1) ∧ p.2.all platB = true ∧ p.2.length ≤ 10) (fun p => ⟨[(9, AV.i p.1), (8, AV.i s.length), (0, AV.s s), (4, .v (.c (.own 0 (p.2.map byR))))], [.tok p.2.length 1 none]⟩) (fun p => s.length - p.1) (0, []) (Wk.trans (Wk.own 4 1 (by omega) (by simp [look])) (Wk.sub' (by simp [subT, look]) rfl)) (by simp [plL]) ?_
    rintro ⟨j, out⟩ ⟨hj, hout, hall, hlo⟩
    dsimp only at hj hout hall hlo ⊢
    have l1 : (out.map byR).length = out.length := by simp
    by_cases hjl : j < s.length
    · have e1 : s[j]? = some s[j] := by simp [hjl]
      have hlt : ((j : Int) < (s.length : Int)) = True := by simp; omega
      have hw := wI (n := (j : Int) + 1) (by omega) (by omega)
      have hs1 := plL_next hjl
      have hs2 := plL_at hjl
      rw [← hout] at hs1 hs2
      generalize s[j] = c at *
      have k3 : ((out.length + 1) * 1 ≤ 140737488355328) = True := eq_true (by omega)
      have k4 : (out.length + 1 ≤ 4611686018427387904) = True := eq_true (by omega)
      have hcl := c.toNat_lt
      have hno : ∀ d : UInt8, plL s = out ++ ([d] ++ plL (s.drop (j + 1))) → (platB d = false ∨ out.length = 10) → plF s = ([], 19) := by
        intro d hd hx
        refine plF_no ?_
        rw [hd]
        rcases hx with hx | hx
        · simp [plOk, hx]
        simp [plOk, hx] <;> omega
      by_cases hg : gapB c = true
      · rw [if_pos hg, List.append_nil] at hs1
        have hg2 := of_decide_eq_true hg
        have a1 : (97 ≤ (c.toNat : Int)) = False := eq_false (by omega)
        have a2 : ((c.toNat : Int) = 32 ∨ (c.toNat : Int) = 45) := by omega
        rcases a2 with a2 | a2
        all_goals
          have hc := Nat.zero_add 0
          repeat' (first | simp only [hc, SX, e1, hlt, nn, hw, a1, a2, l1, ZZ, simprocAttr, ↓reduceIte] | ((first | apply Za | apply Zb | apply Zc | apply Zd | apply Ze | apply Zf | apply Zg | apply Zh) <;> intro hc) | refine Zj ?_)
          exact lp_next (j + 1, out) (Wk.sub' (by simp [subT, look]) rfl) ⟨by simp only []; omega, by rw [hs1], hall, hlo⟩ (by simp only []; omega)
      rw [if_neg hg] at hs1 hs2
      have hg2 : ¬ (c.toNat = 32 ∨ c.toNat = 45) := by simpa [gapB] using hg
      cases hlw : lowB c
      · rw [up_else hlw] at hs1 hs2
        have hlw2 : ¬ (97 ≤ c.toNat ∧ c.toNat ≤ 122) := by simpa [lowB] using hlw
        have h1 := hno c hs2
        have hok : platB c = true → out.length < 10 → (out ++ [c]).all platB = true ∧ (out ++ [c]).length ≤ 10 := by
          intro x y
          simp [hall, x]; omega
        have hpl : platB c = decide ((65 ≤ c.toNat ∧ c.toNat ≤ 90) ∨ (48 ≤ c.toNat ∧ c.toNat ≤ 57)) := rfl
        have hc := Nat.zero_add 0
        repeat' (first | simp only [hc, SX, e1, hlt, nn, hw, l1, k3, k4, ZZ, simprocAttr, ↓reduceIte] | ((first | apply Za | apply Zb | apply Zc | apply Zd | apply Ze | apply Zf | apply Zg | apply Zh) <;> intro hc) | refine Zj ?_)
        all_goals first
          | (exfalso; omega)
          | (have h2 := h1 (by first | (left; rw [hpl]; simp; omega) | (right; omega)); simp [h2, DV.i]; done)
          | exact lp_next (j + 1, out ++ [c]) (Wk.sub' (by simp [subT, look, byR]) (by simp)) ⟨by simp only []; omega, by rw [hs1], (hok (by rw [hpl]; simp; omega) (by omega)).1, (hok (by rw [hpl]; simp; omega) (by omega)).2⟩ (by simp only []; omega)
      have hlw2 : 97 ≤ c.toNat ∧ c.toNat ≤ 122 := of_decide_eq_true hlw
      have hu := up_low hlw
      generalize upC c = d at *
      have h1 := hno d hs2
      have hok : out.length < 10 → (out ++ [d]).all platB = true ∧ (out ++ [d]).length ≤ 10 := by
        intro y
        simp [hall, platB]; omega
      have hu2 : (c.toNat : Int) - 32 = (d.toNat : Int) := by omega
      have hw8 := wU8 (n := (d.toNat : Int)) (by omega) (by omega)
      have a1 : (97 ≤ (c.toNat : Int)) = True := eq_true (by omega)
      have a2 : ((c.toNat : Int) ≤ 122) = True := eq_true (by omega)
      have hc := Nat.zero_add 0
      repeat' (first | simp only [hc, SX, e1, hlt, nn, hw, l1, k3, k4, a1, a2, hu2, hw8, ZZ, simprocAttr, ↓reduceIte] | ((first | apply Za | apply Zb | apply Zc | apply Zd | apply Ze | apply Zf | apply Zg | apply Zh) <;> intro hc) | refine Zj ?_)
      all_goals first
        | (exfalso; omega)
        | (have h2 := h1 (by right; omega); simp [h2, DV.i]; done)
        | exact lp_next (j + 1, out ++ [d]) (Wk.sub' (by simp [subT, look, byR]) (by simp)) ⟨by simp only []; omega, by rw [hs1], (hok (by omega)).1, (hok (by omega)).2⟩ (by simp only []; omega)
    have hlt : ((j : Int) < (s.length : Int)) = False := by simp; omega
    rw [List.take_of_length_le (by omega)] at hout
    by_cases h2 : out.length < 2
    · have h3 : plF s = ([], 19) := plF_no (by rw [← hout]; simp [plOk]; omega)
      have h2' : (out.length : Int) < 2 := by omega
      have hc := Nat.zero_add 0
      repeat' (first | simp only [hc, SX, hlt, l1, h2', ZZ, simprocAttr, ↓reduceIte] | ((first | apply Za | apply Zb | apply Zc | apply Zd | apply Ze | apply Zf | apply Zg | apply Zh) <;> intro hc) | refine Zj ?_)
      all_goals simp [h3, DV.i]
    have h3 : plF s = (out, 0) := by rw [plF_yes (by rw [← hout]; simp [plOk, hall]; omega), hout]
    have h2' : ¬ (out.length : Int) < 2 := by omega
    have hc := Nat.zero_add 0
    repeat' (first | simp only [hc, SX, hlt, l1, h2', ZZ, simprocAttr, ↓reduceIte] | ((first | apply Za | apply Zb | apply Zc | apply Zd | apply Ze | apply Zf | apply Zg | apply Zh) <;> intro hc) | refine Zj ?_)
    all_goals simp [h3, DV.i]
  cases h
end
end Go.Ab
