/-
  Texts of the layer and of the laws, put together: AbC1, AbC2.
-/
import Derived.Test.YtdoofgbeajkpaaaGreatDoorAbWP13
import Derived.Test.YtdoofgbeajkpaaaGreatDoorAbWP12
set_option linter.unusedSimpArgs false
set_option linter.unusedVariables false
set_option maxRecDepth 100000
namespace Go.Ab
open Go.RowKit Go.Proofs
def isT (t : Int) : Bool := decide (0 ≤ t) && decide (t < 68719476736)
def minF (t : Int) : Int := if isT t = true then W ((t.tmod 86400).tdiv 60) else -1
def isTime_m : List PA → Option (List PA) := m1 fun t => some [.b (isT t)]
def risTime_m : List PA → Option (List PA) := m1 fun t => some [.b (isT t)]
def cmin_m : List PA → Option (List PA) := m1 fun t => some [.i (minF t)]
theorem isTime_ok : PureC Tryz.prog Gt 97 isTime_m := by
  refine pure_of_awp (X := ctx Tryz.prog Gt []) Tryz.func97 rfl rfl (by kernel_rfl) (by kernel_rfl) AllOk.nil.kok ?_
  intro args r h0
  obtain ⟨y, rfl, h⟩ := m1_inv h0
  refine ⟨Nat.le_of_ble_eq_true rfl, ?_⟩
  cases h
  have hc := Nat.zero_add 0
  repeat' (first | simp only [hc, Tryz.f97, ZZ, simprocAttr, ↓reduceIte] | ((first | apply Za | apply Zb | apply Zc | apply Zd | apply Ze | apply Zf | apply Zg | apply Zh) <;> intro hc) | refine Zj ?_)
  all_goals (simp_all [isT, DV.b]; try omega)
theorem risTime_ok : PureC Tryz.prog Gt 81 risTime_m := by
  refine pure_of_awp (X := ctx Tryz.prog Gt []) Tryz.func81 rfl rfl (by kernel_rfl) (by kernel_rfl) AllOk.nil.kok ?_
  intro args r h0
  obtain ⟨y, rfl, h⟩ := m1_inv h0
  refine ⟨Nat.le_of_ble_eq_true rfl, ?_⟩
  cases h
  have hc := Nat.zero_add 0
  repeat' (first | simp only [hc, Tryz.f81, ZZ, simprocAttr, ↓reduceIte] | ((first | apply Za | apply Zb | apply Zc | apply Zd | apply Ze | apply Zf | apply Zg | apply Zh) <;> intro hc) | refine Zj ?_)
  all_goals (simp_all [isT, DV.b]; try omega)
theorem cmin_ok : PureC Tryz.prog Gt 100 cmin_m := by
  refine pure_of_awp (X := ctx Tryz.prog Gt [(97, isTime_m)]) Tryz.func100 rfl rfl (by kernel_rfl) (by kernel_rfl) (AllOk.cons isTime_ok AllOk.nil).kok ?_
  intro args r h0
  obtain ⟨y, rfl, h⟩ := m1_inv h0
  refine ⟨Nat.le_of_ble_eq_true rfl, ?_⟩
  cases h
  have hc := Nat.zero_add 0
  repeat' (first | simp only [hc, Tryz.f100, isTime_m, mEq, ZZ, simprocAttr, ↓reduceIte] | ((first | apply Za | apply Zb | apply Zc | apply Zd | apply Ze | apply Zf | apply Zg | apply Zh) <;> intro hc) | refine Zj ?_)
  all_goals simp_all [minF, DV.i]
end Go.Ab
namespace Go.Ab
open Go.RowKit Go.Proofs
def setB (d : Int) : Nat → Bool
  | 0 => decide (d.tmod 2 = 1)
  | n + 1 => setB (W (d.tdiv 2)) n
def mw (g : Int → Int → Int → Option (List PA)) : List PA → Option (List PA)
  | [.agg [.int .i64 a, .int .i64 b, .int .i64 c]] => g a b c
  | _ => none
theorem mw_inv {g : Int → Int → Int → Option (List PA)} {args r : List PA} (h : mw g args = some r) : ∃ a b c, args = [.agg [.int .i64 a, .int .i64 b, .int .i64 c]] ∧ g a b c = some r := by
  unfold mw at h
  split at h
  · exact ⟨_, _, _, rfl, h⟩
  cases h
theorem mw_eq {g : Int → Int → Int → Option (List PA)} {a b c : Int} : mw g [.agg [.int .i64 a, .int .i64 b, .int .i64 c]] = g a b c := rfl
def mwi (g : Int → Int → Int → Int → Option (List PA)) : List PA → Option (List PA)
  | [.agg [.int .i64 a, .int .i64 b, .int .i64 c], .c (.int .i64 d)] => g a b c d
  | _ => none
theorem mwi_inv {g : Int → Int → Int → Int → Option (List PA)} {args r : List PA} (h : mwi g args = some r) : ∃ a b c d, args = [.agg [.int .i64 a, .int .i64 b, .int .i64 c], .c (.int .i64 d)] ∧ g a b c d = some r := by
  unfold mwi at h
  split at h
  · exact ⟨_, _, _, _, rfl, h⟩
  cases h
theorem mwi_eq {g : Int → Int → Int → Int → Option (List PA)} {a b c d : Int} : mwi g [.agg [.int .i64 a, .int .i64 b, .int .i64 c], .c (.int .i64 d)] = g a b c d := rfl
def validB (d f t : Int) : Bool := decide (1 ≤ d) && decide (d ≤ 127) && decide (0 ≤ f) && decide (f < t) && decide (t ≤ 1440)
def ivalB (f t : Int) : Bool := decide (0 ≤ f) && decide (f < t) && decide (t ≤ 68719476736)
def cvalid_m : List PA → Option (List PA) := mw fun a b c => some [.b (validB a b c)]
theorem cvalid_ok : PureC Tryz.prog Gt 98 cvalid_m := by
  refine pure_of_awp (X := ctx Tryz.prog Gt []) Tryz.func98 rfl rfl (by kernel_rfl) (by kernel_rfl) AllOk.nil.kok ?_
  intro args r h0
  obtain ⟨a, b, c, rfl, h⟩ := mw_inv h0
  refine ⟨Nat.le_of_ble_eq_true rfl, ?_⟩
  cases h
  have hc := Nat.zero_add 0
  repeat' (first | simp only [hc, Tryz.f98, ZZ, simprocAttr, ↓reduceIte] | ((first | apply Za | apply Zb | apply Zc | apply Zd | apply Ze | apply Zf | apply Zg | apply Zh) <;> intro hc) | refine Zj ?_)
  all_goals (simp_all [validB, DV.b]; try omega)
end Go.Ab
