/-
  Texts of the layer and of the laws, put together: AbC1, AbC2, AbD1. No law is stated here.
-/
import Derived.Test.YtckjmdppjealdaaGreatDoorAbVol14
import Derived.Test.YtckjmdppjealdaaGreatDoorAbVol11
import Derived.Test.YtckjmdppjealdaaGreatDoorAbVol17
set_option linter.unusedSimpArgs false
set_option linter.unusedVariables false
set_option maxRecDepth 100000

/-
  What the small functions of the calendar compute.
-/
namespace Go.Ab
open Go.RowKit Go.Proofs

def isT (t : Int) : Bool := decide (0 ≤ t) && decide (t < 68719476736)
def isD (t : Int) : Bool := decide (0 ≤ t) && decide (t < 795364)
def leapB (y : Int) : Bool := (decide (y.tmod 4 = 0) && decide (y.tmod 100 ≠ 0)) || decide (y.tmod 400 = 0)
def dayF (t : Int) : Int := if isT t = true then W (t.tdiv 86400) else -1
def minF (t : Int) : Int := if isT t = true then W ((t.tmod 86400).tdiv 60) else -1
def wdF (t : Int) : Int := if isD t = true then t.tmod 7 else -1


def risTime_m : List PA → Option (List PA) := m1 fun t => some [.b (isT t)]












theorem risTime_ok : PureC Tryz.prog Gt 72 risTime_m := by
  refine pure_of_awp (X := ctx Tryz.prog Gt []) Tryz.func72 rfl rfl (by kernel_rfl) (by kernel_rfl) AllOk.nil.kok ?_
  intro args r h0
  obtain ⟨y, rfl, h⟩ := m1_inv h0
  refine ⟨Nat.le_of_ble_eq_true rfl, ?_⟩
  cases h
  have hc := Nat.zero_add 0
  repeat' (first | simp only [hc, Tryz.f72, AB, PL, RG, LP, TY, simprocAttr, ↓reduceIte, forall_const, eq_self, ne_eq, Option.some.injEq, beq_self_eq_true] | ((first | apply fin_ndec | apply fin_dec | apply cnd_ndec | apply cnd_dec' | apply fin_nsplit | apply fin_split | apply cnd_nsplit | apply cnd_split) <;> intro hc) | refine blk_exit_id ?_)
  all_goals (simp_all [isT, DV.b]; try omega)

end Go.Ab

/-
  What the functions of the calendar compute: months, windows.
-/
namespace Go.Ab
open Go.RowKit Go.Proofs

def lenF (y m : Int) : Int := if m = 2 then (if leapB y = true then 29 else 28) else if m = 4 ∨ m = 6 ∨ m = 9 ∨ m = 11 then 30 else 31

def setB (d : Int) : Nat → Bool
  | 0 => decide (d.tmod 2 = 1)
  | n + 1 => setB (W (d.tdiv 2)) n





/-! Windows -/

def mw (g : Int → Int → Int → Option (List PA)) : List PA → Option (List PA)
  | [.agg [.int .i64 a, .int .i64 b, .int .i64 c]] => g a b c
  | _ => none
theorem mw_inv {g : Int → Int → Int → Option (List PA)} {args r : List PA} (h : mw g args = some r) : ∃ a b c, args = [.agg [.int .i64 a, .int .i64 b, .int .i64 c]] ∧ g a b c = some r := by
  unfold mw at h
  split at h
  · exact ⟨_, _, _, rfl, h⟩
  · cases h
theorem mw_eq {g : Int → Int → Int → Option (List PA)} {a b c : Int} : mw g [.agg [.int .i64 a, .int .i64 b, .int .i64 c]] = g a b c := rfl
def mwi (g : Int → Int → Int → Int → Option (List PA)) : List PA → Option (List PA)
  | [.agg [.int .i64 a, .int .i64 b, .int .i64 c], .c (.int .i64 d)] => g a b c d
  | _ => none
theorem mwi_inv {g : Int → Int → Int → Int → Option (List PA)} {args r : List PA} (h : mwi g args = some r) : ∃ a b c d, args = [.agg [.int .i64 a, .int .i64 b, .int .i64 c], .c (.int .i64 d)] ∧ g a b c d = some r := by
  unfold mwi at h
  split at h
  · exact ⟨_, _, _, _, rfl, h⟩
  · cases h
theorem mwi_eq {g : Int → Int → Int → Int → Option (List PA)} {a b c d : Int} : mwi g [.agg [.int .i64 a, .int .i64 b, .int .i64 c], .c (.int .i64 d)] = g a b c d := rfl
def mv (g : Int → Int → Option (List PA)) : List PA → Option (List PA)
  | [.agg [.int .i64 a, .int .i64 b]] => g a b
  | _ => none
theorem mv_inv {g : Int → Int → Option (List PA)} {args r : List PA} (h : mv g args = some r) : ∃ a b, args = [.agg [.int .i64 a, .int .i64 b]] ∧ g a b = some r := by
  unfold mv at h
  split at h
  · exact ⟨_, _, rfl, h⟩
  · cases h
theorem mv_eq {g : Int → Int → Option (List PA)} {a b : Int} : mv g [.agg [.int .i64 a, .int .i64 b]] = g a b := rfl

def validB (d f t : Int) : Bool := decide (1 ≤ d) && decide (d ≤ 127) && decide (0 ≤ f) && decide (f < t) && decide (t ≤ 1440)
def ivalB (f t : Int) : Bool := decide (0 ≤ f) && decide (f < t) && decide (t ≤ 68719476736)





end Go.Ab

/-
  The program's records as data: lines and charges, posts and entries, cases, accounts.
-/
namespace Go.Ab

/-- An int of the program's. -/
def inI (n : Int) : Bool := decide (-9223372036854775808 ≤ n ∧ n ≤ 9223372036854775807)
theorem inI_iff {n : Int} : inI n = true ↔ -9223372036854775808 ≤ n ∧ n ≤ 9223372036854775807 := by simp [inI]

def rowL (p : List UInt8 × Int) : List D := [.str p.1, .int .i64 p.2]
theorem rowL_inj (a b : List UInt8 × Int) (h : rowL a = rowL b) : a = b := by
  obtain ⟨a1, a2⟩ := a
  obtain ⟨b1, b2⟩ := b
  simpa [rowL] using h
theorem mapL_inj {l k : List (List UInt8 × Int)} : l.map rowL = k.map rowL ↔ l = k := ⟨map_inj rowL_inj, fun h => by rw [h]⟩

structure Chg where
  key : List UInt8
  veh : List UInt8
  sys : List UInt8
  cls : Int
  time : Int
  lf : Bool
  lines : List (List UInt8 × Int)
  cents : Int
def Chg.row (x : Chg) : List D := [.str x.key, .str x.veh, .str x.sys, .int .i64 x.cls, .int .i64 x.time, .sl x.lf (x.lines.map rowL), .int .i64 x.cents]
theorem Chg.inj (a b : Chg) (h : a.row = b.row) : a = b := by
  cases a; cases b
  simpa [Chg.row, mapL_inj, and_assoc] using h
theorem mapC_inj {l k : List Chg} : l.map Chg.row = k.map Chg.row ↔ l = k := ⟨map_inj Chg.inj, fun h => by rw [h]⟩

/-- Posts are rows of the same form as lines. -/
structure Ent where
  key : List UInt8
  time : Int
  pf : Bool
  posts : List (List UInt8 × Int)
def Ent.row (x : Ent) : List D := [.str x.key, .int .i64 x.time, .sl x.pf (x.posts.map rowL)]
theorem Ent.inj (a b : Ent) (h : a.row = b.row) : a = b := by
  cases a; cases b
  simpa [Ent.row, mapL_inj] using h
theorem mapE_inj {l k : List Ent} : l.map Ent.row = k.map Ent.row ↔ l = k := ⟨map_inj Ent.inj, fun h => by rw [h]⟩

structure Cas where
  id : List UInt8
  plate : List UInt8
  key : List UInt8
  begun : Int
  since : Int
  stage : Int
  owed : Int
  paid : Int
  paused : Int
  ast : Int
  agr : Int
  aday : Int
def Cas.row (x : Cas) : List D := [.str x.id, .str x.plate, .str x.key, .int .i64 x.begun, .int .i64 x.since, .int .i64 x.stage, .int .i64 x.owed, .int .i64 x.paid, .int .i64 x.paused, .int .i64 x.ast, .int .i64 x.agr, .int .i64 x.aday]
theorem Cas.inj (a b : Cas) (h : a.row = b.row) : a = b := by
  cases a; cases b
  simpa [Cas.row] using h
theorem mapK_inj {l k : List Cas} : l.map Cas.row = k.map Cas.row ↔ l = k := ⟨map_inj Cas.inj, fun h => by rw [h]⟩

structure Own where
  tag : List UInt8
  plate : List UInt8
  fr : Int
  to : Int
def Own.row (x : Own) : List D := [.str x.tag, .str x.plate, .int .i64 x.fr, .int .i64 x.to]
theorem Own.inj (a b : Own) (h : a.row = b.row) : a = b := by
  cases a; cases b
  simpa [Own.row] using h
theorem mapO_inj {l k : List Own} : l.map Own.row = k.map Own.row ↔ l = k := ⟨map_inj Own.inj, fun h => by rw [h]⟩

structure Acc where
  name : List UInt8
  agency : List UInt8
  prepay : Bool
  owf : Bool
  owned : List Own
  below : Int
  rcents : Int
  tries : Int
  wait : Int
  exempt : Bool
def Acc.row (x : Acc) : List D := [.str x.name, .str x.agency, .bool x.prepay, .sl x.owf (x.owned.map Own.row), .int .i64 x.below, .int .i64 x.rcents, .int .i64 x.tries, .int .i64 x.wait, .bool x.exempt]
theorem Acc.inj (a b : Acc) (h : a.row = b.row) : a = b := by
  cases a; cases b
  simpa [Acc.row, mapO_inj, and_assoc] using h
theorem mapA_inj {l k : List Acc} : l.map Acc.row = k.map Acc.row ↔ l = k := ⟨map_inj Acc.inj, fun h => by rw [h]⟩

end Go.Ab
