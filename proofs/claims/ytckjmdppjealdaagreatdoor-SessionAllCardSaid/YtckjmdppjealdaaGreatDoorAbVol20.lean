/-
  Texts of the layer and of the laws, put together: AbC1, AbC2. No law is stated here.
-/
import Derived.Test.YtckjmdppjealdaaGreatDoorAbVol15
import Derived.Test.YtckjmdppjealdaaGreatDoorAbVol11
set_option linter.unusedSimpArgs false
set_option linter.unusedVariables false
set_option maxRecDepth 100000

/-
  What the small functions of the calendar compute.
-/
namespace Go.Ab
open Go.RowKit Go.Proofs

def isT (t : Int) : Bool := decide (0 ≤ t) && decide (t < 68719476736)
def isD (t : Int) : Bool := decide (0 ≤ t) && decide (t < 795364)
def leapB (y : Int) : Bool := (decide (y.tmod 4 = 0) && decide (y.tmod 100 ≠ 0)) || decide (y.tmod 400 = 0)
def dayF (t : Int) : Int := if isT t = true then W (t.tdiv 86400) else -1
def minF (t : Int) : Int := if isT t = true then W ((t.tmod 86400).tdiv 60) else -1
def wdF (t : Int) : Int := if isD t = true then t.tmod 7 else -1


def risTime_m : List PA → Option (List PA) := m1 fun t => some [.b (isT t)]












theorem risTime_ok : PureC Tryz.prog Gt 72 risTime_m := by
  refine pure_of_awp (X := ctx Tryz.prog Gt []) Tryz.func72 rfl rfl (by kernel_rfl) (by kernel_rfl) AllOk.nil.kok ?_
  intro args r h0
  obtain ⟨y, rfl, h⟩ := m1_inv h0
  refine ⟨Nat.le_of_ble_eq_true rfl, ?_⟩
  cases h
  have hc := Nat.zero_add 0
  repeat' (first | simp only [hc, Tryz.f72, AB, PL, RG, LP, TY, simprocAttr, ↓reduceIte, forall_const, eq_self, ne_eq, Option.some.injEq, beq_self_eq_true] | ((first | apply fin_ndec | apply fin_dec | apply cnd_ndec | apply cnd_dec' | apply fin_nsplit | apply fin_split | apply cnd_nsplit | apply cnd_split) <;> intro hc) | refine blk_exit_id ?_)
  all_goals (simp_all [isT, DV.b]; try omega)

end Go.Ab

/-
  What the functions of the calendar compute: months, windows.
-/
namespace Go.Ab
open Go.RowKit Go.Proofs

def lenF (y m : Int) : Int := if m = 2 then (if leapB y = true then 29 else 28) else if m = 4 ∨ m = 6 ∨ m = 9 ∨ m = 11 then 30 else 31

def setB (d : Int) : Nat → Bool
  | 0 => decide (d.tmod 2 = 1)
  | n + 1 => setB (W (d.tdiv 2)) n





/-! Windows -/

def mw (g : Int → Int → Int → Option (List PA)) : List PA → Option (List PA)
  | [.agg [.int .i64 a, .int .i64 b, .int .i64 c]] => g a b c
  | _ => none
theorem mw_inv {g : Int → Int → Int → Option (List PA)} {args r : List PA} (h : mw g args = some r) : ∃ a b c, args = [.agg [.int .i64 a, .int .i64 b, .int .i64 c]] ∧ g a b c = some r := by
  unfold mw at h
  split at h
  · exact ⟨_, _, _, rfl, h⟩
  · cases h
theorem mw_eq {g : Int → Int → Int → Option (List PA)} {a b c : Int} : mw g [.agg [.int .i64 a, .int .i64 b, .int .i64 c]] = g a b c := rfl
def mwi (g : Int → Int → Int → Int → Option (List PA)) : List PA → Option (List PA)
  | [.agg [.int .i64 a, .int .i64 b, .int .i64 c], .c (.int .i64 d)] => g a b c d
  | _ => none
theorem mwi_inv {g : Int → Int → Int → Int → Option (List PA)} {args r : List PA} (h : mwi g args = some r) : ∃ a b c d, args = [.agg [.int .i64 a, .int .i64 b, .int .i64 c], .c (.int .i64 d)] ∧ g a b c d = some r := by
  unfold mwi at h
  split at h
  · exact ⟨_, _, _, _, rfl, h⟩
  · cases h
theorem mwi_eq {g : Int → Int → Int → Int → Option (List PA)} {a b c d : Int} : mwi g [.agg [.int .i64 a, .int .i64 b, .int .i64 c], .c (.int .i64 d)] = g a b c d := rfl
def mv (g : Int → Int → Option (List PA)) : List PA → Option (List PA)
  | [.agg [.int .i64 a, .int .i64 b]] => g a b
  | _ => none
theorem mv_inv {g : Int → Int → Option (List PA)} {args r : List PA} (h : mv g args = some r) : ∃ a b, args = [.agg [.int .i64 a, .int .i64 b]] ∧ g a b = some r := by
  unfold mv at h
  split at h
  · exact ⟨_, _, rfl, h⟩
  · cases h
theorem mv_eq {g : Int → Int → Option (List PA)} {a b : Int} : mv g [.agg [.int .i64 a, .int .i64 b]] = g a b := rfl

def validB (d f t : Int) : Bool := decide (1 ≤ d) && decide (d ≤ 127) && decide (0 ≤ f) && decide (f < t) && decide (t ≤ 1440)
def ivalB (f t : Int) : Bool := decide (0 ≤ f) && decide (f < t) && decide (t ≤ 68719476736)





end Go.Ab
