/-
  Texts of the layer and of the laws, put together: AbC3, AbC6.
-/
import Derived.Test.YtdoofgbeajkpaaaGreatDoorAbWP18
import Derived.Test.YtdoofgbeajkpaaaGreatDoorAbWP22
set_option linter.unusedSimpArgs false
set_option linter.unusedVariables false
set_option maxRecDepth 100000
namespace Go.Ab
open Go.RowKit Go.Proofs
theorem on_all : ((List.range 128).all fun a => (List.range 7).all fun k => (decide (bits .and .i64 ((a : Int).fdiv (2 ^ (min k 64))) 1 = 1)) == setB (a : Int) k) = true := by kernel_rfl
theorem on_eq {a : Int} {k : Nat} (h1 : 0 ≤ a) (h2 : a ≤ 127) (hk : k < 7) : decide (bits .and .i64 (a.fdiv (2 ^ (min k 64))) 1 = 1) = setB a k := by
  have h := on_all
  rw [List.all_eq_true] at h
  have h3 := h a.toNat (List.mem_range.2 (by omega))
  rw [List.all_eq_true] at h3
  have h4 := h3 k (List.mem_range.2 hk)
  rw [show ((a.toNat : Nat) : Int) = a by omega] at h4
  exact eq_of_beq h4
def inB (a b c t : Int) : Bool := isT t && validB a b c && setB a ((t.tdiv 86400).tmod 7).toNat && decide (b ≤ minF t) && decide (minF t < c)
def con_m : List PA → Option (List PA) := mwi fun a _ _ d => if 0 ≤ a ∧ a ≤ 127 ∧ 0 ≤ d then some [.b (setB a (d.tmod 7).toNat)] else none
def cin_m : List PA → Option (List PA) := mwi fun a b c t => some [.b (inB a b c t)]
theorem validB_iff {a b c : Int} : validB a b c = true ↔ 1 ≤ a ∧ a ≤ 127 ∧ 0 ≤ b ∧ b < c ∧ c ≤ 1440 := by
  simp only [validB, Bool.and_eq_true, decide_eq_true_eq]
  omega
theorem isT_iff {t : Int} : isT t = true ↔ 0 ≤ t ∧ t < 68719476736 := by
  simp only [isT, Bool.and_eq_true, decide_eq_true_eq]
theorem con_ok : PureC Tryz.prog Gt 99 con_m := by
  refine pure_of_awp (X := ctx Tryz.prog Gt []) Tryz.func99 rfl rfl (by kernel_rfl) (by kernel_rfl) AllOk.nil.kok ?_
  intro args r h0
  obtain ⟨a, b, c, d, rfl, h⟩ := mwi_inv h0
  refine ⟨Nat.le_of_ble_eq_true rfl, ?_⟩
  split at h
  · rename_i hd
    cases h
    have h7 : d.tmod 7 = d % 7 := Int.tmod_eq_emod_of_nonneg (by omega)
    have hneg : (d.tmod 7 < 0) = False := by rw [h7]; simp; omega
    have hon := on_eq (a := a) (k := (d.tmod 7).toNat) (by omega) (by omega) (by rw [h7]; omega)
    have hc := Nat.zero_add 0
    repeat' (first | simp only [hc, Tryz.f99, hneg, ZZ, simprocAttr, ↓reduceIte] | ((first | apply Za | apply Zb | apply Zc | apply Zd | apply Ze | apply Zf | apply Zg | apply Zh) <;> intro hc) | refine Zj ?_)
    all_goals simp_all [DV.b]
  cases h
theorem cin_ok : PureC Tryz.prog Gt 52 cin_m := by
  refine pure_of_awp (X := ctx Tryz.prog Gt [(97, isTime_m), (98, cvalid_m), (99, con_m), (100, cmin_m)]) Tryz.func52 rfl rfl (by kernel_rfl) (by kernel_rfl) (AllOk.cons isTime_ok (AllOk.cons cvalid_ok (AllOk.cons con_ok (AllOk.cons cmin_ok AllOk.nil)))).kok ?_
  intro args r h0
  obtain ⟨a, b, c, t, rfl, h⟩ := mwi_inv h0
  refine ⟨Nat.le_of_ble_eq_true rfl, ?_⟩
  cases h
  by_cases hT : isT t = true
  · by_cases hV : validB a b c = true
    · have h1 := validB_iff.1 hV
      have h2 := isT_iff.1 hT
      have hd : t.tdiv 86400 = t / 86400 := Int.tdiv_eq_ediv_of_nonneg (by omega)
      have hw := wI (n := t.tdiv 86400) (by omega) (by omega)
      have hcc : (0 ≤ a ∧ a ≤ 127 ∧ 0 ≤ t.tdiv 86400) = True := by simp; omega
      have hc := Nat.zero_add 0
      repeat' (first | simp only [hc, Tryz.f52, isTime_m, cvalid_m, con_m, cmin_m, mEq, mw_eq, mwi_eq, hT, hV, hw, hcc, ZZ, simprocAttr, ↓reduceIte] | ((first | apply Za | apply Zb | apply Zc | apply Zd | apply Ze | apply Zf | apply Zg | apply Zh) <;> intro hc) | refine Zj ?_)
      all_goals (simp_all [inB, DV.b]; try omega)
    · skip
      have hc := Nat.zero_add 0
      repeat' (first | simp only [hc, Tryz.f52, isTime_m, cvalid_m, con_m, cmin_m, mEq, mw_eq, mwi_eq, hT, hV, ZZ, simprocAttr, ↓reduceIte] | ((first | apply Za | apply Zb | apply Zc | apply Zd | apply Ze | apply Zf | apply Zg | apply Zh) <;> intro hc) | refine Zj ?_)
      all_goals (simp_all [inB, DV.b]; try omega)
  · skip
    have hc := Nat.zero_add 0
    repeat' (first | simp only [hc, Tryz.f52, isTime_m, cvalid_m, con_m, cmin_m, mEq, mw_eq, mwi_eq, hT, ZZ, simprocAttr, ↓reduceIte] | ((first | apply Za | apply Zb | apply Zc | apply Zd | apply Ze | apply Zf | apply Zg | apply Zh) <;> intro hc) | refine Zj ?_)
    all_goals (simp_all [inB, DV.b]; try omega)
end Go.Ab
namespace Go.Ab
open Go.RowKit Go.Proofs
abbrev Iv := Int × Int
def rwI (p : Iv) : List D := [.int .i64 p.1, .int .i64 p.2]
def encI (l : List Iv) : List D := l.flatMap rwI
def rowIC (p : Iv) : List C1 := [.d (.int .i64 p.1), .d (.int .i64 p.2)]
abbrev icd (l : List Iv) : List C1 := l.flatMap rowIC
theorem rowIC_len (x : Iv) : (rowIC x).length = 2 := rfl
theorem icd_enc : ∀ (l : List Iv), (encI l).map C1.d = icd l
  | [] => rfl
  | p :: l => by
    have := icd_enc l
    simp only [encI, icd, List.flatMap_cons, List.map_append] at this ⊢
    rw [this]
    rfl
theorem icd_allD (l : List Iv) : allD (icd l) = some (encI l) := by rw [← icd_enc]; exact allD_mapd
theorem icd_snoc {l : List Iv} {x : Iv} : icd (l ++ [x]) = icd l ++ rowIC x := by simp [icd, List.flatMap_append]
theorem icd_len (l : List Iv) : (icd l).length = l.length * 2 := fm_len rowIC_len
theorem chunk_enc : ∀ (l : List Iv), chunk 2 l.length (encI l) = l.map rwI
  | [] => rfl
  | p :: l => by simp [chunk, encI, rwI, ← chunk_enc l]
end Go.Ab
