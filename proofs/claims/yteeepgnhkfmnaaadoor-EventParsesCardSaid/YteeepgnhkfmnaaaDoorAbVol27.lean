/-
  Texts of the layer and of the laws, put together: AbF1, AbF2. No law is stated here.
-/
import Derived.Test.YteeepgnhkfmnaaaDoorAbVol26
set_option linter.unusedSimpArgs false
set_option linter.unusedVariables false
set_option maxRecDepth 100000

/-
  Events: data, fields by kind, what is right, lines.
-/
namespace Go.Ab

structure Evt where
  kind : Int
  dev : List UInt8
  seq : Int
  time : Int
  tag : List UInt8
  plt : List UInt8
  axl : Int
  score : Int
  pk : Int
  pz : List UInt8
  pp : List UInt8
  pt : Int
  pu : Int
  day : Int
  name : List UInt8
  cents : Int
abbrev evRow (k : Int) (a : List UInt8) (b c : Int) (d e : List UInt8) (f g h : Int) (i j : List UInt8) (l m n : Int) (o : List UInt8) (p : Int) : List D :=
  [.int .i64 k, .str a, .int .i64 b, .int .i64 c, .str d, .str e, .int .i64 f, .int .i64 g, .int .i64 h, .str i, .str j, .int .i64 l, .int .i64 m, .int .i64 n, .str o, .int .i64 p]
def Evt.row (e : Evt) : List D := evRow e.kind e.dev e.seq e.time e.tag e.plt e.axl e.score e.pk e.pz e.pp e.pt e.pu e.day e.name e.cents
theorem Evt.inj (a b : Evt) (h : a.row = b.row) : a = b := by
  obtain ⟨a1, a2, a3, a4, a5, a6, a7, a8, a9, a10, a11, a12, a13, a14, a15, a16⟩ := a
  obtain ⟨b1, b2, b3, b4, b5, b6, b7, b8, b9, b10, b11, b12, b13, b14, b15, b16⟩ := b
  simp only [Evt.row, List.cons.injEq, D.int.injEq, D.str.injEq, and_true, true_and] at h
  obtain ⟨rfl, rfl, rfl, rfl, rfl, rfl, rfl, rfl, rfl, rfl, rfl, rfl, rfl, rfl, rfl, rfl⟩ := h
  rfl
def Evt.tup (e : Evt) : List Int × List (List UInt8) :=
  ([e.kind, e.seq, e.time, e.axl, e.score, e.pk, e.pt, e.pu, e.day, e.cents], [e.dev, e.tag, e.plt, e.pz, e.pp, e.name])
theorem Evt.tup_inj {a b : Evt} (h : a.tup = b.tup) : a = b := by
  obtain ⟨a1, a2, a3, a4, a5, a6, a7, a8, a9, a10, a11, a12, a13, a14, a15, a16⟩ := a
  obtain ⟨b1, b2, b3, b4, b5, b6, b7, b8, b9, b10, b11, b12, b13, b14, b15, b16⟩ := b
  simp only [Evt.tup, Prod.mk.injEq, List.cons.injEq, and_true] at h
  obtain ⟨⟨rfl, rfl, rfl, rfl, rfl, rfl, rfl, rfl, rfl, rfl⟩, rfl, rfl, rfl, rfl, rfl, rfl⟩ := h
  rfl
instance : DecidableEq Evt := fun a b => decidable_of_iff (a.tup = b.tup) ⟨Evt.tup_inj, fun h => by rw [h]⟩
def zEvt (k : Int) : Evt := ⟨k, [], 0, 0, [], [], 0, 0, 0, [], [], 0, 0, 0, [], 0⟩

/-- The fields of an event of a kind: is it a text, and where does it lie? -/
abbrev Fld := Bool × Nat
def fldK (k : Int) : List Fld :=
  if k = 1 then [(true, 1), (false, 2), (false, 3), (true, 4), (true, 5), (false, 6), (false, 7)]
  else if k = 2 then [(false, 8), (true, 9), (true, 10), (false, 11), (false, 12)]
  else if k = 3 then [(false, 13)]
  else if k = 4 then [(true, 14), (false, 15)]
  else if k = 5 then [(false, 13)]
  else []
def wrdK (k : Int) : List UInt8 :=
  if k = 1 then [100, 101, 116, 101, 99, 116] else if k = 2 then [112, 97, 114, 107] else if k = 3 then [99, 108, 111, 115, 101] else if k = 4 then [112, 97, 121] else if k = 5 then [108, 97, 116, 101] else []
def rTx (r : List D) (o : Nat) : List UInt8 := match r[o]? with | some (.str s) => s | _ => []
def rNm (r : List D) (o : Nat) : Int := match r[o]? with | some (.int .i64 n) => n | _ => 0
/-- A row whose fields are of their sort. -/
def Typed (r : List D) (p : Fld) : Prop := r[p.2]? = some (if p.1 = true then .str (rTx r p.2) else .int .i64 (rNm r p.2))
theorem typed_row (e : Evt) (k : Int) : ∀ p ∈ fldK k, Typed e.row p := by
  intro p hp
  unfold fldK at hp
  split at hp
  · simp only [List.mem_cons, List.not_mem_nil, or_false] at hp
    rcases hp with rfl | rfl | rfl | rfl | rfl | rfl | rfl <;> rfl
  split at hp
  · simp only [List.mem_cons, List.not_mem_nil, or_false] at hp
    rcases hp with rfl | rfl | rfl | rfl | rfl <;> rfl
  split at hp
  · simp only [List.mem_cons, List.not_mem_nil, or_false] at hp
    rcases hp with rfl <;> rfl
  split at hp
  · simp only [List.mem_cons, List.not_mem_nil, or_false] at hp
    rcases hp with rfl | rfl <;> rfl
  split at hp
  · simp only [List.mem_cons, List.not_mem_nil, or_false] at hp
    rcases hp with rfl <;> rfl
  · cases hp
theorem fld_lt (k : Int) : ∀ p ∈ fldK k, p.2 < 16 ∧ p.2 ≠ 0 := by
  intro p hp
  unfold fldK at hp
  split at hp
  · simp only [List.mem_cons, List.not_mem_nil, or_false] at hp
    rcases hp with rfl | rfl | rfl | rfl | rfl | rfl | rfl <;> decide
  split at hp
  · simp only [List.mem_cons, List.not_mem_nil, or_false] at hp
    rcases hp with rfl | rfl | rfl | rfl | rfl <;> decide
  split at hp
  · simp only [List.mem_cons, List.not_mem_nil, or_false] at hp
    rcases hp with rfl <;> decide
  split at hp
  · simp only [List.mem_cons, List.not_mem_nil, or_false] at hp
    rcases hp with rfl | rfl <;> decide
  split at hp
  · simp only [List.mem_cons, List.not_mem_nil, or_false] at hp
    rcases hp with rfl <;> decide
  · cases hp
theorem fld_len (k : Int) : (fldK k).length ≤ 7 := by
  unfold fldK
  repeat' split
  all_goals decide

abbrev mTime : Int := 68719476736
abbrev mMon : Int := 1125899906842624
def fitF (k : Int) (r : List D) (p : Fld) : Bool :=
  if p.1 = true then decide ((rTx r p.2).length ≤ 32)
  else decide (-mTime ≤ rNm r p.2 ∧ rNm r p.2 ≤ mTime) || (decide (k = 4) && decide (-mMon ≤ rNm r p.2 ∧ rNm r p.2 ≤ mMon))
/-- Another row's fields laid into a row. -/
def putF (r : List D) (w : List D) (ps : List Fld) : List D := ps.foldl (fun w p => w.set p.2 (if p.1 = true then .str (rTx r p.2) else .int .i64 (rNm r p.2))) w
def onlyR (e : Evt) : List D := putF e.row (zEvt e.kind).row (fldK e.kind)
def kindB (k : Int) : Bool := decide (1 ≤ k ∧ k ≤ 5)
def onlyE (e : Evt) : Evt :=
  if e.kind = 1 then ⟨e.kind, e.dev, e.seq, e.time, e.tag, e.plt, e.axl, e.score, 0, [], [], 0, 0, 0, [], 0⟩
  else if e.kind = 2 then ⟨e.kind, [], 0, 0, [], [], 0, 0, e.pk, e.pz, e.pp, e.pt, e.pu, 0, [], 0⟩
  else if e.kind = 3 ∨ e.kind = 5 then ⟨e.kind, [], 0, 0, [], [], 0, 0, 0, [], [], 0, 0, e.day, [], 0⟩
  else if e.kind = 4 then ⟨e.kind, [], 0, 0, [], [], 0, 0, 0, [], [], 0, 0, 0, e.name, e.cents⟩
  else zEvt 0
def rightE (e : Evt) : Bool := kindB e.kind && (fldK e.kind).all (fitF e.kind e.row) && decide (onlyE e = e)

def pieceF (r : List D) (p : Fld) : List UInt8 := if p.1 = true then escF (rTx r p.2) else Lib.itoa (rNm r p.2)
def wordsE (e : Evt) : List (List UInt8) := wrdK e.kind :: (fldK e.kind).map (pieceF e.row)
def lineE (e : Evt) : List UInt8 := Lib.join (wordsE e) [32]
def printE (e : Evt) : List UInt8 × Int := if rightE e = true then (lineE e, 0) else ([], 1)
def keyE (e : Evt) : List UInt8 := if rightE e = true then escF (lineE e) else []

end Go.Ab

/-
  Events: what is right, as the reference says it (plain).
-/
namespace Go.Ab

def numB (n : Int) : Bool := decide (-mTime ≤ n ∧ n ≤ mTime)
def shtB (s : List UInt8) : Bool := decide (s.length ≤ 32)
def capB (e : Evt) : Bool :=
  shtB e.dev && shtB e.tag && shtB e.plt && numB e.seq && numB e.time && numB e.axl && numB e.score &&
  (shtB e.pz && shtB e.pp && numB e.pk && numB e.pt && numB e.pu) &&
  (shtB e.name && numB e.day && decide (-mMon ≤ e.cents ∧ e.cents ≤ mMon))
theorem kind_cases {k : Int} (h : kindB k = true) : k = 1 ∨ k = 2 ∨ k = 3 ∨ k = 4 ∨ k = 5 := by
  have := of_decide_eq_true h
  omega
theorem only_row {e : Evt} (h : kindB e.kind = true) : onlyR e = (onlyE e).row := by
  obtain ⟨k, a, b, c, d, f, g, i, j, l, m, n, o, p, q, r⟩ := e
  rcases kind_cases h with h | h | h | h | h <;> (dsimp only at h; subst h; rfl)
theorem right_iff (e : Evt) : rightE e = (kindB e.kind && decide (onlyE e = e) && capB e) := by
  unfold rightE
  cases hk : kindB e.kind with
  | false => simp
  | true =>
    by_cases h : onlyE e = e
    · rw [decide_eq_true h]
      simp only [Bool.true_and, Bool.and_true]
      obtain ⟨k, a, b, c, d, f, g, i, j, l, m, n, o, p, q, r⟩ := e
      rcases kind_cases hk with h1 | h1 | h1 | h1 | h1 <;> dsimp only at h1 <;> subst h1
      · simp only [onlyE, if_pos, Evt.mk.injEq, true_and] at h
        obtain ⟨rfl, rfl, rfl, rfl, rfl, rfl, rfl, rfl⟩ := h
        simp [fldK, fitF, rTx, rNm, Evt.row, capB, numB, shtB, Bool.and_assoc, Bool.and_comm, Bool.and_left_comm]
      · simp only [onlyE, if_pos, Evt.mk.injEq, true_and] at h
        have h := h
        simp at h
        obtain ⟨rfl, rfl, rfl, rfl, rfl, rfl, rfl, rfl, rfl, rfl⟩ := h
        simp [fldK, fitF, rTx, rNm, Evt.row, capB, numB, shtB, Bool.and_assoc, Bool.and_comm, Bool.and_left_comm]
      · simp [onlyE] at h
        obtain ⟨rfl, rfl, rfl, rfl, rfl, rfl, rfl, rfl, rfl, rfl, rfl, rfl, rfl, rfl⟩ := h
        simp [fldK, fitF, rTx, rNm, Evt.row, capB, numB, shtB]
      · simp [onlyE] at h
        obtain ⟨rfl, rfl, rfl, rfl, rfl, rfl, rfl, rfl, rfl, rfl, rfl, rfl, rfl⟩ := h
        simp [fldK, fitF, rTx, rNm, Evt.row, capB, numB, shtB]
        rw [Bool.eq_iff_iff]
        simp
        simp only [mTime, mMon] at *
        omega
      · simp [onlyE] at h
        obtain ⟨rfl, rfl, rfl, rfl, rfl, rfl, rfl, rfl, rfl, rfl, rfl, rfl, rfl, rfl⟩ := h
        simp [fldK, fitF, rTx, rNm, Evt.row, capB, numB, shtB]
    · rw [decide_eq_false h]
      simp
theorem only_iff {e : Evt} (h : kindB e.kind = true) : onlyR e = e.row ↔ onlyE e = e := by
  rw [only_row h]
  exact ⟨fun h => Evt.inj _ _ h, fun h => by rw [h]⟩
theorem right_kind {e : Evt} (h : rightE e = true) : kindB e.kind = true := by
  rw [rightE, Bool.and_eq_true, Bool.and_eq_true] at h
  exact h.1.1
theorem right_cap {e : Evt} (h : rightE e = true) : capB e = true := by
  rw [right_iff, Bool.and_eq_true] at h
  exact h.2

end Go.Ab
