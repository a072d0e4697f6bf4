/-
  Texts of the layer and of the laws, put together: AbQ2. No law is stated here.
-/
import Derived.Test.YtfokeholingnjaaDoorAbV26
import Derived.Test.YtfokeholingnjaaDoorAbV25
set_option linter.unusedSimpArgs false
set_option linter.unusedVariables false
set_option maxRecDepth 100000

/-
  Reports as plain texts: charges, days, accounts, cases, totals; how long they are.
-/
namespace Go.Ab
open Go.RowKit Go.Proofs

def fitsB (n : Int) : Bool := decide (-1125899906842624 ≤ n) && decide (n ≤ 1125899906842624)
theorem fits_inI {n : Int} (h : fitsB n = true) : inI n = true := by
  simp only [fitsB, Bool.and_eq_true, decide_eq_true_eq] at h
  exact inI_iff.2 (by omega)

/-- A charge that the statements speak of. -/
def Chg.one (x : Chg) : Bool := decide (x.lines.length ≤ 40) && decide (x.key.length ≤ 200) && decide (x.veh.length ≤ 200) && decide (x.sys.length ≤ 200) && fitsB x.cents && x.lines.all fun l => decide (l.1.length ≤ 200)
/-- Its numbers are ints. -/
def Chg.rng (x : Chg) : Bool := inI x.cls && inI x.time && inI x.cents && x.lines.all fun l => inI l.2

def lineL (l : List UInt8 × Int) : List UInt8 := lineF [[108, 105, 110, 101], showF l.2, escF l.1]
def headC (x : Chg) : List UInt8 := lineF [[99, 104, 97, 114, 103, 101], escF x.key, escF x.veh, escF x.sys, Lib.itoa x.cls, Lib.itoa x.time, showF x.cents]
def chargeF (x : Chg) : List UInt8 := headC x ++ x.lines.flatMap lineL

theorem line_le {l : List (List UInt8)} (h : ∀ p ∈ l, p.length ≤ 1000) : (lineF l).length ≤ 1001 * l.length + 1 := by
  have := join_le 1000 l h
  unfold lineF
  simp only [List.length_append, List.length_singleton]
  omega
theorem fl_le {α : Type} (f : α → List UInt8) (m : Nat) : ∀ (l : List α), (∀ x ∈ l, (f x).length ≤ m) → (l.flatMap f).length ≤ m * l.length
  | [], _ => by simp
  | x :: l, h => by
    have := fl_le f m l (fun y hy => h y (List.mem_cons_of_mem _ hy))
    have hx := h x List.mem_cons_self
    simp only [List.flatMap_cons, List.length_append, List.length_cons, Nat.mul_add, Nat.mul_one]
    omega
theorem esc1_le (c : UInt8) : (esc1 c).length ≤ 3 := by unfold esc1; split <;> simp
theorem esc_le {s : List UInt8} (h : s.length ≤ 200) : (escF s).length ≤ 601 := by
  have := fl_le esc1 3 s (fun c _ => esc1_le c)
  unfold escF
  split
  · simp
  · omega
theorem lineL_le {l : List UInt8 × Int} (h1 : l.1.length ≤ 200) (h2 : inI l.2 = true) : (lineL l).length ≤ 3004 := by
  refine line_le (l := [_, _, _]) ?_
  have a := esc_le h1
  have b := show_le h2
  simp only [List.mem_cons, List.not_mem_nil, or_false]
  rintro p (rfl | rfl | rfl)
  · simp
  · omega
  · omega
theorem Chg.one_iff {x : Chg} : x.one = true ↔ x.lines.length ≤ 40 ∧ x.key.length ≤ 200 ∧ x.veh.length ≤ 200 ∧ x.sys.length ≤ 200 ∧ fitsB x.cents = true ∧ ∀ l ∈ x.lines, l.1.length ≤ 200 := by
  simp only [Chg.one, Bool.and_eq_true, decide_eq_true_eq, List.all_eq_true, and_assoc]
theorem Chg.rng_iff {x : Chg} : x.rng = true ↔ inI x.cls = true ∧ inI x.time = true ∧ inI x.cents = true ∧ ∀ l ∈ x.lines, inI l.2 = true := by
  simp only [Chg.rng, Bool.and_eq_true, List.all_eq_true, and_assoc]
theorem headC_le {x : Chg} (h1 : x.one = true) (h2 : x.rng = true) : (headC x).length ≤ 7008 := by
  obtain ⟨_, a1, a2, a3, _, _⟩ := Chg.one_iff.1 h1
  obtain ⟨b1, b2, b3, _⟩ := Chg.rng_iff.1 h2
  refine line_le (l := [_, _, _, _, _, _, _]) ?_
  have c1 := esc_le a1
  have c2 := esc_le a2
  have c3 := esc_le a3
  have d1 := itoa_le b1
  have d2 := itoa_le b2
  have d3 := show_le b3
  simp only [List.mem_cons, List.not_mem_nil, or_false]
  rintro p (rfl | rfl | rfl | rfl | rfl | rfl | rfl) <;> first | omega | simp
theorem lines_le {x : Chg} (h1 : x.one = true) (h2 : x.rng = true) (k : Nat) : ((x.lines.take k).flatMap lineL).length ≤ 3004 * 40 := by
  obtain ⟨a0, _, _, _, _, a4⟩ := Chg.one_iff.1 h1
  obtain ⟨_, _, _, b4⟩ := Chg.rng_iff.1 h2
  have := fl_le lineL 3004 (x.lines.take k) (fun l hl => lineL_le (a4 l (List.mem_of_mem_take hl)) (b4 l (List.mem_of_mem_take hl)))
  have hk : (x.lines.take k).length ≤ 40 := by rw [List.length_take]; omega
  have := Nat.mul_le_mul_left 3004 hk
  omega
theorem chargeF_le {x : Chg} (h1 : x.one = true) (h2 : x.rng = true) : (chargeF x).length ≤ 200000 := by
  have a := headC_le h1 h2
  have b := lines_le h1 h2 x.lines.length
  rw [List.take_length] at b
  unfold chargeF
  rw [List.length_append]
  omega

/-! Days -/
def sumC (l : List Chg) : Int := l.foldl (fun n x => W (n + x.cents)) 0
def onDay (d : Int) (l : List Chg) : List Chg := l.filter fun x => decide (dayF x.time = d)
def dayRep (l : List Chg) (d : Int) : List UInt8 := lineF [[100, 97, 121], dateF d] ++ (onDay d l).flatMap chargeF ++ lineF [[115, 117, 109], Lib.itoa (onDay d l).length, showF (sumC (onDay d l))]

/-! Accounts -/
def ownF (name : List UInt8) : List UInt8 := [97, 99, 99, 111, 117, 110, 116, 58] ++ name
def addP (k : List UInt8) (n : Int) (p : List UInt8 × Int) : Int := if p.1 = k then W (n + p.2) else n
def sumP (k : List UInt8) (n : Int) (l : List (List UInt8 × Int)) : Int := l.foldl (addP k) n
def balF (l : List Ent) (k : List UInt8) : Int := l.foldl (fun n e => sumP k n e.posts) 0
def hasP (k : List UInt8) (l : List (List UInt8 × Int)) : Bool := l.any fun p => p.1 == k
def entL (k : List UInt8) (e : Ent) : List UInt8 := if hasP k e.posts = true then lineF [[101, 110, 116, 114, 121], dateF (dayF e.time), showF (sumP k 0 e.posts), escF e.key] else []
def kindF (a : Acc) : List UInt8 := if a.exempt = true then [101, 120, 101, 109, 112, 116] else if a.prepay = true then [112, 114, 101, 112, 97, 121] else [112, 111, 115, 116, 112, 97, 121]
def findA? (l : List Acc) (name : List UInt8) : Option Acc := l.find? fun a => a.name == name
def accRep (a : Acc) (es : List Ent) (name : List UInt8) : List UInt8 := lineF [[97, 99, 99, 111, 117, 110, 116], escF name, kindF a] ++ lineF [[98, 97, 108, 97, 110, 99, 101], showF (balF es (ownF name))] ++ es.flatMap (entL (ownF name))

/-! Cases -/
def wordF (n : Int) (l : List (List UInt8)) : List UInt8 := if n < 1 ∨ (l.length : Int) < n then [45] else l.getD (n.toNat - 1) []
def openB (stage : Int) : Bool := decide (1 ≤ stage) && decide (stage ≤ 5)
structure Lw where
  df : Bool
  days : List Int
  ff : Bool
  fees : List Int
  limit : Int
def Lw.row (x : Lw) : List D := [.sl x.df (x.days.map rowN), .sl x.ff (x.fees.map rowN), .int .i64 x.limit]
def lawOk (w : Lw) : Int :=
  if w.days.length ≠ 4 ∨ w.fees.length ≠ 4 then 3
  else if w.days.any (fun d => decide (d < 1) || decide (4096 < d)) = true then 1
  else if w.fees.any (fun n => decide (n < 0) || decide (2147483648 < n)) = true then 13
  else if w.limit < 1 ∨ 795364 ≤ w.limit then 12 else 0
def laterP (l : List Int) (d n : Int) : Int × Int := match laterOf l d n with
  | [.c (.int _ a), .c (.int _ b)] => (a, b)
  | _ => (0, 0)
def dueF (w : Lw) (cal : List Int) (x : Cas) : Int × Bool :=
  if lawOk w = 0 ∧ openB x.stage = true ∧ x.stage ≤ 4 ∧ x.ast ≠ 1 then ((laterP cal x.since (w.days.getD (x.stage.toNat - 1) 0)).1, decide ((laterP cal x.since (w.days.getD (x.stage.toNat - 1) 0)).2 = 0)) else (0, false)
def stageW : List (List UInt8) := [[110, 101, 119], [110, 111, 116, 105, 99, 101], [114, 101, 109, 105, 110, 100], [112, 101, 110, 97, 108, 116, 121], [99, 111, 117, 114, 116], [112, 97, 105, 100], [119, 97, 105, 118, 101, 100], [98, 97, 114, 114, 101, 100]]
def appealW : List (List UInt8) := [[102, 105, 108, 101, 100], [117, 112, 104, 101, 108, 100], [100, 101, 110, 105, 101, 100]]
def caseRep (w : Lw) (cal : List Int) (x : Cas) : List UInt8 :=
  lineF [[99, 97, 115, 101], escF x.id, escF x.plate, escF x.key] ++ lineF [[115, 116, 97, 103, 101], wordF x.stage stageW, dateF x.since] ++ lineF [[111, 119, 101, 100], showF x.owed] ++ lineF [[112, 97, 105, 100], showF x.paid]
    ++ (if (dueF w cal x).2 = true then lineF [[100, 117, 101], dateF (dueF w cal x).1] else lineF [[100, 117, 101], [45]])
    ++ (if wordF x.ast appealW ≠ [45] then lineF [[97, 112, 112, 101, 97, 108], wordF x.ast appealW, dateF x.aday] else lineF [[97, 112, 112, 101, 97, 108], [45]])

/-! Totals -/
def debF (l : List Ent) : Int := l.foldl (fun n e => e.posts.foldl (fun n p => W (n + (if 0 > p.2 then 0 else p.2))) n) 0
def openN (l : List Cas) : Nat := (l.filter fun x => openB x.stage).length

end Go.Ab
