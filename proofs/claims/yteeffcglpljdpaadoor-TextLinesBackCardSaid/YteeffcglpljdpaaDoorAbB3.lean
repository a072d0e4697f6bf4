/-
  Shapes, inverted.
-/
import Derived.Test.YteeffcglpljdpaaDoorAbB2
set_option linter.unusedSimpArgs false
set_option linter.unusedVariables false
namespace Go.Ab
open Go.RowKit Go.ChangeShapes Go.WideShapes

section
variable {P : Program} {n : Nat} {t : TypeId} {xs : List D}

theorem shp_int {k : IntKind} (hd : P.underlying t = some (.int k)) (h : shp P n t xs = true) : ∃ m, xs = [.int k m] ∧ k.has m := by
  cases n with
  | zero => cases h
  | succ n =>
    simp only [shp, hd] at h
    split at h
    · simp only [Bool.and_eq_true, decide_eq_true_eq] at h
      obtain ⟨rfl, hw⟩ := h
      simp only [Lit.wf, Bool.and_eq_true, decide_eq_true_eq] at hw
      exact ⟨_, rfl, hw⟩
    · cases h

theorem shp_str (hd : P.underlying t = some .string) (h : shp P n t xs = true) : ∃ s, xs = [.str s] ∧ s.length ≤ maxLen := by
  cases n with
  | zero => cases h
  | succ n =>
    simp only [shp, hd] at h
    split at h
    · exact ⟨_, rfl, by simpa using h⟩
    · cases h

theorem shp_bool (hd : P.underlying t = some .bool) (h : shp P n t xs = true) : ∃ b, xs = [.bool b] := by
  cases n with
  | zero => cases h
  | succ n =>
    simp only [shp, hd] at h
    split at h
    · exact ⟨_, rfl⟩
    · cases h

theorem shp_slice {e : TypeId} (hd : P.underlying t = some (.slice e)) (h : shp P n t xs = true) : ∃ es m, xs = [.sl false es] ∧ es.length ≤ maxLen ∧ ∀ r ∈ es, shp P m e r = true := by
  cases n with
  | zero => cases h
  | succ n =>
    simp only [shp, hd] at h
    split at h
    · rename_i f es
      simp only [Bool.and_eq_true, Bool.not_eq_true', decide_eq_true_eq, List.all_eq_true] at h
      obtain ⟨⟨rfl, h1⟩, h2⟩ := h
      exact ⟨es, n, rfl, h1, h2⟩
    · cases h

theorem shp_struct {fs : Array Field} (hd : P.underlying t = some (.struct fs)) (h : shp P n t xs = true) : ∃ m, shpL (fun f => shp P m f.type) (fun f => P.cellsOf f.type) fs.toList xs = true := by
  cases n with
  | zero => cases h
  | succ n =>
    simp only [shp, hd] at h
    exact ⟨n, h⟩

theorem shpL_nil {α : Type} {f : α → List D → Bool} {z : α → Nat} (h : shpL f z [] xs = true) : xs = [] := by
  simpa [shpL] using h

theorem shpL_cons {α : Type} {f : α → List D → Bool} {z : α → Nat} {a : α} {r : List α} (h : shpL f z (a :: r) xs = true) : ∃ x y, xs = x ++ y ∧ f a x = true ∧ shpL f z r y = true := by
  simp only [shpL, Bool.and_eq_true, decide_eq_true_eq] at h
  exact ⟨xs.take (z a), xs.drop (z a), (List.take_append_drop _ _).symm, h.1.2, h.2⟩

theorem shpA_c {p : PA} (ha : isAggT P t = false) (h : shpA P n t p) : ∃ x, p = .c x ∧ shp P n t [x] = true := by
  cases p with
  | c x => exact ⟨x, rfl, h.2⟩
  | agg xs => rw [h.1] at ha; cases ha

theorem shpA_agg {p : PA} (ha : isAggT P t = true) (h : shpA P n t p) : ∃ xs, p = .agg xs ∧ shp P n t xs = true := by
  cases p with
  | agg x => exact ⟨x, rfl, h.2⟩
  | c xs => rw [h.1] at ha; cases ha

theorem shpArgs_cons {ts : List TypeId} {ps : List PA} (h : shpArgs P (t :: ts) ps) : ∃ p r, ps = p :: r ∧ (∃ n, shpA P n t p) ∧ shpArgs P ts r := by
  cases ps with
  | nil => exact h.elim
  | cons p r => exact ⟨p, r, rfl, h⟩

theorem shpArgs_nil {ps : List PA} (h : shpArgs P [] ps) : ps = [] := by
  cases ps with
  | nil => rfl
  | cons p r => exact h.elim

theorem arg_int {k : IntKind} (hd : P.underlying t = some (.int k)) {p : PA} (h : ∃ n, shpA P n t p) : ∃ m, p = .c (.int k m) ∧ k.has m := by
  obtain ⟨n, h⟩ := h
  obtain ⟨x, rfl, hx⟩ := shpA_c (by simp [isAggT, hd]) h
  obtain ⟨m, hm, hw⟩ := shp_int hd hx
  cases hm
  exact ⟨m, rfl, hw⟩

theorem arg_str (hd : P.underlying t = some .string) {p : PA} (h : ∃ n, shpA P n t p) : ∃ s, p = .c (.str s) ∧ s.length ≤ maxLen := by
  obtain ⟨n, h⟩ := h
  obtain ⟨x, rfl, hx⟩ := shpA_c (by simp [isAggT, hd]) h
  obtain ⟨m, hm, hw⟩ := shp_str hd hx
  cases hm
  exact ⟨m, rfl, hw⟩

theorem arg_slice {e : TypeId} (hd : P.underlying t = some (.slice e)) {p : PA} (h : ∃ n, shpA P n t p) : ∃ es m, p = .c (.sl false es) ∧ es.length ≤ maxLen ∧ ∀ r ∈ es, shp P m e r = true := by
  obtain ⟨n, h⟩ := h
  obtain ⟨x, rfl, hx⟩ := shpA_c (by simp [isAggT, hd]) h
  obtain ⟨es, m, hm, hw⟩ := shp_slice hd hx
  cases hm
  exact ⟨es, m, rfl, hw⟩

theorem arg_struct {fs : Array Field} (hd : P.underlying t = some (.struct fs)) {p : PA} (h : ∃ n, shpA P n t p) : ∃ xs m, p = .agg xs ∧ shpL (fun f => shp P m f.type) (fun f => P.cellsOf f.type) fs.toList xs = true := by
  obtain ⟨n, h⟩ := h
  obtain ⟨x, rfl, hx⟩ := shpA_agg (by simp [isAggT, hd]) h
  obtain ⟨m, hm⟩ := shp_struct hd hx
  exact ⟨x, m, rfl, hm⟩

end
end Go.Ab
