/-
  Texts of the layer and of the laws, put together: AbD1.
-/
import Derived.Test.YtbcklcmhmbfgnaaGreatDoorAbF17
import Derived.Test.YtbcklcmhmbfgnaaGreatDoorAbF12
set_option linter.unusedSimpArgs false
set_option linter.unusedVariables false
set_option maxRecDepth 100000
namespace Go.Ab
def inI (n : Int) : Bool := decide (-9223372036854775808 ≤ n ∧ n ≤ 9223372036854775807)
theorem inI_iff {n : Int} : inI n = true ↔ -9223372036854775808 ≤ n ∧ n ≤ 9223372036854775807 := by simp [inI]
def rowL (p : List UInt8 × Int) : List D := [.str p.1, .int .i64 p.2]
theorem rowL_inj (a b : List UInt8 × Int) (h : rowL a = rowL b) : a = b := by
  obtain ⟨a1, a2⟩ := a
  obtain ⟨b1, b2⟩ := b
  simpa [rowL] using h
theorem mapL_inj {l k : List (List UInt8 × Int)} : l.map rowL = k.map rowL ↔ l = k := ⟨map_inj rowL_inj, fun h => by rw [h]⟩
structure Chg where
  key : List UInt8
  veh : List UInt8
  sys : List UInt8
  cls : Int
  time : Int
  lf : Bool
  lines : List (List UInt8 × Int)
  cents : Int
def Chg.row (x : Chg) : List D := [.str x.key, .str x.veh, .str x.sys, .int .i64 x.cls, .int .i64 x.time, .sl x.lf (x.lines.map rowL), .int .i64 x.cents]
theorem Chg.inj (a b : Chg) (h : a.row = b.row) : a = b := by
  cases a; cases b
  simpa [Chg.row, mapL_inj, and_assoc] using h
structure Ent where
  key : List UInt8
  time : Int
  pf : Bool
  posts : List (List UInt8 × Int)
def Ent.row (x : Ent) : List D := [.str x.key, .int .i64 x.time, .sl x.pf (x.posts.map rowL)]
theorem Ent.inj (a b : Ent) (h : a.row = b.row) : a = b := by
  cases a; cases b
  simpa [Ent.row, mapL_inj] using h
structure Cas where
  id : List UInt8
  plate : List UInt8
  key : List UInt8
  begun : Int
  since : Int
  stage : Int
  owed : Int
  paid : Int
  paused : Int
  ast : Int
  agr : Int
  aday : Int
def Cas.row (x : Cas) : List D := [.str x.id, .str x.plate, .str x.key, .int .i64 x.begun, .int .i64 x.since, .int .i64 x.stage, .int .i64 x.owed, .int .i64 x.paid, .int .i64 x.paused, .int .i64 x.ast, .int .i64 x.agr, .int .i64 x.aday]
theorem Cas.inj (a b : Cas) (h : a.row = b.row) : a = b := by
  cases a; cases b
  simpa [Cas.row] using h
structure Own where
  tag : List UInt8
  plate : List UInt8
  fr : Int
  to : Int
def Own.row (x : Own) : List D := [.str x.tag, .str x.plate, .int .i64 x.fr, .int .i64 x.to]
theorem Own.inj (a b : Own) (h : a.row = b.row) : a = b := by
  cases a; cases b
  simpa [Own.row] using h
theorem mapO_inj {l k : List Own} : l.map Own.row = k.map Own.row ↔ l = k := ⟨map_inj Own.inj, fun h => by rw [h]⟩
structure Acc where
  name : List UInt8
  agency : List UInt8
  prepay : Bool
  owf : Bool
  owned : List Own
  below : Int
  rcents : Int
  tries : Int
  wait : Int
  exempt : Bool
def Acc.row (x : Acc) : List D := [.str x.name, .str x.agency, .bool x.prepay, .sl x.owf (x.owned.map Own.row), .int .i64 x.below, .int .i64 x.rcents, .int .i64 x.tries, .int .i64 x.wait, .bool x.exempt]
theorem Acc.inj (a b : Acc) (h : a.row = b.row) : a = b := by
  cases a; cases b
  simpa [Acc.row, mapO_inj, and_assoc] using h
end Go.Ab
