/-
  Texts of the layer and of the laws, put together: AbC1, AbC2, AbC3, AbC4, AbC5, AbC6, AbC7, AbC8. No law is stated here.
-/
import Derived.Test.YtckjmdppjealdaaGreatDoorAbVol21
import Derived.Test.YtckjmdppjealdaaGreatDoorAbVol16
set_option linter.unusedSimpArgs false
set_option linter.unusedVariables false
set_option maxRecDepth 100000

/-
  What the small functions of the calendar compute.
-/
namespace Go.Ab
open Go.RowKit Go.Proofs

def isT (t : Int) : Bool := decide (0 ≤ t) && decide (t < 68719476736)
def isD (t : Int) : Bool := decide (0 ≤ t) && decide (t < 795364)
def leapB (y : Int) : Bool := (decide (y.tmod 4 = 0) && decide (y.tmod 100 ≠ 0)) || decide (y.tmod 400 = 0)
def dayF (t : Int) : Int := if isT t = true then W (t.tdiv 86400) else -1
def minF (t : Int) : Int := if isT t = true then W ((t.tmod 86400).tdiv 60) else -1
def wdF (t : Int) : Int := if isD t = true then t.tmod 7 else -1


def risTime_m : List PA → Option (List PA) := m1 fun t => some [.b (isT t)]












theorem risTime_ok : PureC Tryz.prog Gt 72 risTime_m := by
  refine pure_of_awp (X := ctx Tryz.prog Gt []) Tryz.func72 rfl rfl (by kernel_rfl) (by kernel_rfl) AllOk.nil.kok ?_
  intro args r h0
  obtain ⟨y, rfl, h⟩ := m1_inv h0
  refine ⟨Nat.le_of_ble_eq_true rfl, ?_⟩
  cases h
  have hc := Nat.zero_add 0
  repeat' (first | simp only [hc, Tryz.f72, AB, PL, RG, LP, TY, simprocAttr, ↓reduceIte, forall_const, eq_self, ne_eq, Option.some.injEq, beq_self_eq_true] | ((first | apply fin_ndec | apply fin_dec | apply cnd_ndec | apply cnd_dec' | apply fin_nsplit | apply fin_split | apply cnd_nsplit | apply cnd_split) <;> intro hc) | refine blk_exit_id ?_)
  all_goals (simp_all [isT, DV.b]; try omega)

end Go.Ab

/-
  What the functions of the calendar compute: months, windows.
-/
namespace Go.Ab
open Go.RowKit Go.Proofs

def lenF (y m : Int) : Int := if m = 2 then (if leapB y = true then 29 else 28) else if m = 4 ∨ m = 6 ∨ m = 9 ∨ m = 11 then 30 else 31

def setB (d : Int) : Nat → Bool
  | 0 => decide (d.tmod 2 = 1)
  | n + 1 => setB (W (d.tdiv 2)) n





/-! Windows -/

def mw (g : Int → Int → Int → Option (List PA)) : List PA → Option (List PA)
  | [.agg [.int .i64 a, .int .i64 b, .int .i64 c]] => g a b c
  | _ => none
theorem mw_inv {g : Int → Int → Int → Option (List PA)} {args r : List PA} (h : mw g args = some r) : ∃ a b c, args = [.agg [.int .i64 a, .int .i64 b, .int .i64 c]] ∧ g a b c = some r := by
  unfold mw at h
  split at h
  · exact ⟨_, _, _, rfl, h⟩
  · cases h
theorem mw_eq {g : Int → Int → Int → Option (List PA)} {a b c : Int} : mw g [.agg [.int .i64 a, .int .i64 b, .int .i64 c]] = g a b c := rfl
def mwi (g : Int → Int → Int → Int → Option (List PA)) : List PA → Option (List PA)
  | [.agg [.int .i64 a, .int .i64 b, .int .i64 c], .c (.int .i64 d)] => g a b c d
  | _ => none
theorem mwi_inv {g : Int → Int → Int → Int → Option (List PA)} {args r : List PA} (h : mwi g args = some r) : ∃ a b c d, args = [.agg [.int .i64 a, .int .i64 b, .int .i64 c], .c (.int .i64 d)] ∧ g a b c d = some r := by
  unfold mwi at h
  split at h
  · exact ⟨_, _, _, _, rfl, h⟩
  · cases h
theorem mwi_eq {g : Int → Int → Int → Int → Option (List PA)} {a b c d : Int} : mwi g [.agg [.int .i64 a, .int .i64 b, .int .i64 c], .c (.int .i64 d)] = g a b c d := rfl
def mv (g : Int → Int → Option (List PA)) : List PA → Option (List PA)
  | [.agg [.int .i64 a, .int .i64 b]] => g a b
  | _ => none
theorem mv_inv {g : Int → Int → Option (List PA)} {args r : List PA} (h : mv g args = some r) : ∃ a b, args = [.agg [.int .i64 a, .int .i64 b]] ∧ g a b = some r := by
  unfold mv at h
  split at h
  · exact ⟨_, _, rfl, h⟩
  · cases h
theorem mv_eq {g : Int → Int → Option (List PA)} {a b : Int} : mv g [.agg [.int .i64 a, .int .i64 b]] = g a b := rfl

def validB (d f t : Int) : Bool := decide (1 ≤ d) && decide (d ≤ 127) && decide (0 ≤ f) && decide (f < t) && decide (t ≤ 1440)
def ivalB (f t : Int) : Bool := decide (0 ≤ f) && decide (f < t) && decide (t ≤ 68719476736)





end Go.Ab

/-
  What the functions of the calendar compute: whether a time lies in a window.
-/
namespace Go.Ab
open Go.RowKit Go.Proofs

theorem on_all : ((List.range 128).all fun a => (List.range 7).all fun k => (decide (bits .and .i64 ((a : Int).fdiv (2 ^ (min k 64))) 1 = 1)) == setB (a : Int) k) = true := by kernel_rfl

theorem on_eq {a : Int} {k : Nat} (h1 : 0 ≤ a) (h2 : a ≤ 127) (hk : k < 7) : decide (bits .and .i64 (a.fdiv (2 ^ (min k 64))) 1 = 1) = setB a k := by
  have h := on_all
  rw [List.all_eq_true] at h
  have h3 := h a.toNat (List.mem_range.2 (by omega))
  rw [List.all_eq_true] at h3
  have h4 := h3 k (List.mem_range.2 hk)
  rw [show ((a.toNat : Nat) : Int) = a by omega] at h4
  exact eq_of_beq h4

def inB (a b c t : Int) : Bool := isT t && validB a b c && setB a ((t.tdiv 86400).tmod 7).toNat && decide (b ≤ minF t) && decide (minF t < c)





theorem validB_iff {a b c : Int} : validB a b c = true ↔ 1 ≤ a ∧ a ≤ 127 ∧ 0 ≤ b ∧ b < c ∧ c ≤ 1440 := by
  simp only [validB, Bool.and_eq_true, decide_eq_true_eq]
  omega
theorem isT_iff {t : Int} : isT t = true ↔ 0 ≤ t ∧ t < 68719476736 := by
  simp only [isT, Bool.and_eq_true, decide_eq_true_eq]
theorem isD_iff {t : Int} : isD t = true ↔ 0 ≤ t ∧ t < 795364 := by
  simp only [isD, Bool.and_eq_true, decide_eq_true_eq]

end Go.Ab

/-
  What the functions of the calendar compute: dates.
-/
namespace Go.Ab
open Go.RowKit Go.Proofs

def ylen (y : Int) : Int := if leapB y = true then 366 else 365

/-- Years: fuel, year, days left. -/
def yf : Nat → Int → Int → Int × Int
  | 0, y, r => (y, r)
  | n + 1, y, r => if r < ylen y then (y, r) else yf n (y + 1) (r - ylen y)

/-- Months 13 - n .. 12. -/
def mf : Nat → Int → Int → Int × Int
  | 0, _, r => (13, r)
  | n + 1, y, r => if r < lenF y (12 - n) then (12 - n, r) else mf n y (r - lenF y (12 - n))

def tl (y : Int) : Nat → Int
  | 0 => 0
  | n + 1 => lenF y (12 - n) + tl y n

theorem ylen_pos (y : Int) : 365 ≤ ylen y ∧ ylen y ≤ 366 := by
  unfold ylen; split <;> omega

theorem tl_all (y : Int) : tl y 12 = ylen y := by
  simp [tl, lenF, ylen]
  split <;> rfl

def dateOf (y0 d : Int) : List PA :=
  let p := yf 2200 y0 d
  let q := mf 12 p.1 p.2
  [.i p.1, .i q.1, .i (W (q.2 + 1))]




theorem yf_bound : ∀ (n : Nat) (y r : Int), 0 ≤ r → r < 365 * n → 2001 ≤ y → 0 ≤ (yf n y r).2 ∧ (yf n y r).2 < ylen (yf n y r).1 ∧ y ≤ (yf n y r).1 ∧ (yf n y r).1 ≤ y + n
  | 0, y, r, h0, h1, _ => by simp at h1; omega
  | n + 1, y, r, h0, h1, hy => by
    simp only [yf]
    split
    · exact ⟨h0, by assumption, Int.le_refl _, by omega⟩
    · have h2 := ylen_pos y
      have := yf_bound n (y + 1) (r - ylen y) (by omega) (by omega) (by omega)
      omega

end Go.Ab

/-
  What the functions of the calendar compute: the day of a date.
-/
namespace Go.Ab
open Go.RowKit Go.Proofs

def msum (y : Int) : Nat → Int
  | 0 => 0
  | n + 1 => msum y n + lenF y (n + 1)

def dbase (y d : Int) : Int := 365 * (y - 2001) + (y - 1) / 4 - 500 - ((y - 1) / 100 - 20) + (y - 1) / 400 - 5 + d - 1

def dayOf (y m d : Int) : List PA :=
  if y < 2001 ∨ 9999 < y then [.i 0, .i 12] else if m < 1 ∨ 12 < m ∨ d < 1 ∨ lenF y m < d then [.i 0, .i 1] else
    if isD (dbase y d + msum y (m.toNat - 1)) = true then [.i (dbase y d + msum y (m.toNat - 1)), .i 0] else [.i 0, .i 12]



theorem lenF_b (y m : Int) : 28 ≤ lenF y m ∧ lenF y m ≤ 31 := by unfold lenF; split <;> (try split) <;> omega
theorem msum_b (y : Int) : ∀ n : Nat, 0 ≤ msum y n ∧ msum y n ≤ 31 * n
  | 0 => by simp [msum]
  | n + 1 => by have := msum_b y n; have := lenF_b y (n + 1); simp only [msum]; omega

end Go.Ab

/-
  What the functions of the calendar compute: lists of intervals.
-/
namespace Go.Ab
open Go.RowKit Go.Proofs

abbrev Iv := Int × Int
def rowI (p : Iv) : List D := [.int .i64 p.1, .int .i64 p.2]
def encI (l : List Iv) : List D := l.flatMap rowI
def decR : List D → Option Iv
  | [.int .i64 a, .int .i64 b] => some (a, b)
  | _ => none
def decI (es : List (List D)) : Option (List Iv) := es.mapM decR

theorem decR_inv {e : List D} {p : Iv} (h : decR e = some p) : e = rowI p := by
  unfold decR at h
  split at h
  · cases h; rfl
  · cases h
theorem decI_inv : ∀ {es : List (List D)} {l : List Iv}, decI es = some l → es = l.map rowI
  | [], l, h => by simp [decI] at h; subst h; rfl
  | e :: es, l, h => by
    simp only [decI, List.mapM_cons, Option.bind_eq_bind, Option.bind_eq_some_iff, Option.pure_def, Option.some.injEq] at h
    obtain ⟨p, hp, ps, hps, rfl⟩ := h
    rw [decR_inv hp, decI_inv (es := es) hps]
    rfl
theorem decI_map : ∀ (l : List Iv), decI (l.map rowI) = some l
  | [] => rfl
  | p :: l => by
    have := decI_map l
    simp only [decI] at this
    simp [decI, decR, rowI, this]
theorem encI_len : ∀ (l : List Iv), (encI l).length = l.length * 2
  | [] => rfl
  | p :: l => by have := encI_len l; simp only [encI, List.flatMap_cons, List.length_append] at *; rw [this]; simp [rowI]; omega
theorem encI_append (l k : List Iv) : encI (l ++ k) = encI l ++ encI k := by simp [encI]
theorem chunk_enc : ∀ (l : List Iv), chunk 2 l.length (encI l) = l.map rowI
  | [] => rfl
  | p :: l => by simp [chunk, encI, rowI, ← chunk_enc l]

/-- SameIntervals on two lists. -/
def msame : List PA → Option (List PA)
  | [.c (.sl _ a), .c (.sl _ b)] => (decI a).bind fun l => (decI b).bind fun k => if l.length ≤ 1000000000000 then some [.b (decide (l = k))] else none
  | _ => none
theorem msame_inv {args r : List PA} (h : msame args = some r) : ∃ (f g : Bool) (l k : List Iv), args = [.c (.sl f (l.map rowI)), .c (.sl g (k.map rowI))] ∧ l.length ≤ 1000000000000 ∧ [.b (decide (l = k))] = r := by
  unfold msame at h
  split at h
  · simp only [Option.bind_eq_some_iff] at h
    obtain ⟨l, hl, k, hk, h⟩ := h
    split at h
    · cases h
      exact ⟨_, _, l, k, by rw [decI_inv hl, decI_inv hk], by assumption, rfl⟩
    · cases h
  · cases h



end Go.Ab

/-
  What the functions of the calendar compute: the occurrences of a window within an interval.
-/
namespace Go.Ab
open Go.RowKit Go.Proofs

def mxI (f x : Int) : Int := if x > f then x else f
def mnI (t y : Int) : Int := if y < t then y else t

/-- One day. -/
def spStep (a b c f t dd : Int) (out : List Iv) : List Iv :=
  if setB a (dd.tmod 7).toNat = true then
    (if mnI t (dd * 86400 + c * 60) ≤ mxI f (dd * 86400 + b * 60) then out else
      match out.getLast? with
      | some p => if p.2 = mxI f (dd * 86400 + b * 60) then out.dropLast ++ [(p.1, mnI t (dd * 86400 + c * 60))] else out ++ [(mxI f (dd * 86400 + b * 60), mnI t (dd * 86400 + c * 60))]
      | none => [(mxI f (dd * 86400 + b * 60), mnI t (dd * 86400 + c * 60))])
  else out

def spL (a b c f t : Int) : Nat → Int → List Iv → List Iv
  | 0, _, out => out
  | n + 1, dd, out => spL a b c f t n (dd + 1) (spStep a b c f t dd out)

def spansOf (a b c f t : Int) : Option (List Iv) × Int :=
  if ivalB f t = true then
    (if 366 ≤ (t - 1) / 86400 - f / 86400 then (none, 3) else if validB a b c = true then (some (spL a b c f t ((t - 1) / 86400 - f / 86400 + 1).toNat (f / 86400) []), 0) else (none, 0))
  else (none, 12)

def slI : Option (List Iv) → D
  | none => .sl true []
  | some l => .sl false (l.map rowI)

def mwv (g : Int → Int → Int → Int → Int → Option (List PA)) : List PA → Option (List PA)
  | [.agg [.int .i64 a, .int .i64 b, .int .i64 c], .agg [.int .i64 f, .int .i64 t]] => g a b c f t
  | _ => none
theorem mwv_inv {g : Int → Int → Int → Int → Int → Option (List PA)} {args r : List PA} (h : mwv g args = some r) : ∃ a b c f t, args = [.agg [.int .i64 a, .int .i64 b, .int .i64 c], .agg [.int .i64 f, .int .i64 t]] ∧ g a b c f t = some r := by
  unfold mwv at h
  split at h
  · exact ⟨_, _, _, _, _, rfl, h⟩
  · cases h
theorem mwv_eq {g : Int → Int → Int → Int → Int → Option (List PA)} {a b c f t : Int} : mwv g [.agg [.int .i64 a, .int .i64 b, .int .i64 c], .agg [.int .i64 f, .int .i64 t]] = g a b c f t := rfl



theorem ivalB_iff {f t : Int} : ivalB f t = true ↔ 0 ≤ f ∧ f < t ∧ t ≤ 68719476736 := by
  simp only [ivalB, Bool.and_eq_true, decide_eq_true_eq]
  omega

end Go.Ab

/-
  What the functions of the calendar compute: the reference's day of a date; both calendars are one.
-/
namespace Go.Ab
open Go.RowKit Go.Proofs

def cumD (y : Int) : Int := 365 * (y - 2001) + (y - 1) / 4 - 500 - ((y - 1) / 100 - 20) + (y - 1) / 400 - 5

theorem cumD_2001 : cumD 2001 = 0 := by decide
theorem cumD_succ {y : Int} (h : 0 ≤ y) : cumD (y + 1) = cumD y + ylen y := by
  have e1 : y.tmod 4 = y % 4 := Int.tmod_eq_emod_of_nonneg h
  have e2 : y.tmod 100 = y % 100 := Int.tmod_eq_emod_of_nonneg h
  have e3 : y.tmod 400 = y % 400 := Int.tmod_eq_emod_of_nonneg h
  unfold cumD ylen leapB
  simp only [e1, e2, e3, Bool.or_eq_true, Bool.and_eq_true, decide_eq_true_eq, ne_eq]
  split <;> omega
theorem cumD_add {y : Int} (h : 0 ≤ y) : ∀ n : Nat, cumD y + 365 * n ≤ cumD (y + n)
  | 0 => by simp
  | n + 1 => by
    have h1 := cumD_add h n
    have h2 := cumD_succ (y := y + n) (by omega)
    have h3 := ylen_pos (y + n)
    rw [show y + ((n + 1 : Nat) : Int) = y + n + 1 by omega]
    omega
theorem cumD_mono {a b : Int} (h : 0 ≤ a) (hab : a ≤ b) : cumD a ≤ cumD b := by
  have := cumD_add h (b - a).toNat
  rw [show a + (((b - a).toNat : Nat) : Int) = b by omega] at this
  omega
theorem cumD_inj {Y Y' R R' : Int} (h : 0 ≤ Y) (h' : 0 ≤ Y') (e : cumD Y + R = cumD Y' + R') (r1 : 0 ≤ R) (r2 : R < ylen Y) (r3 : 0 ≤ R') (r4 : R' < ylen Y') : Y = Y' ∧ R = R' := by
  rcases Int.lt_trichotomy Y Y' with hlt | heq | hgt
  · have := cumD_mono (a := Y + 1) (by omega) (show Y + 1 ≤ Y' by omega)
    rw [cumD_succ h] at this
    omega
  · subst heq; exact ⟨rfl, by omega⟩
  · have := cumD_mono (a := Y' + 1) (by omega) (show Y' + 1 ≤ Y by omega)
    rw [cumD_succ h'] at this
    omega

theorem yf_spec : ∀ (n : Nat) (y r : Int), 0 ≤ y → 0 ≤ r → r < 365 * n → y ≤ (yf n y r).1 ∧ (yf n y r).1 ≤ y + n ∧ 0 ≤ (yf n y r).2 ∧ (yf n y r).2 < ylen (yf n y r).1 ∧ cumD (yf n y r).1 + (yf n y r).2 = cumD y + r
  | 0, y, r, _, h0, h1 => by simp at h1; omega
  | n + 1, y, r, hy, h0, h1 => by
    simp only [yf]
    split
    · exact ⟨Int.le_refl _, by omega, h0, by assumption, rfl⟩
    · have h2 := ylen_pos y
      have h3 := cumD_succ hy
      have := yf_spec n (y + 1) (r - ylen y) (by omega) (by omega) (by omega)
      omega

theorem mf_spec (y : Int) : ∀ (n : Nat) (r : Int), n ≤ 12 → 0 ≤ r → r < tl y n → 13 - n ≤ (mf n y r).1 ∧ (mf n y r).1 ≤ 12 ∧ 0 ≤ (mf n y r).2 ∧ (mf n y r).2 < lenF y (mf n y r).1 ∧ msum y ((mf n y r).1.toNat - 1) + (mf n y r).2 = msum y (12 - n) + r
  | 0, r, _, h0, h1 => by simp [tl] at h1; omega
  | n + 1, r, hn, h0, h1 => by
    have e0 : ((12 : Int) - n).toNat - 1 = 12 - (n + 1) := by omega
    simp only [mf]
    split
    · refine ⟨by omega, by omega, h0, by assumption, ?_⟩
      simp only [e0]
    · have h2 : r < lenF y (12 - n) + tl y n := h1
      have := mf_spec y n (r - lenF y (12 - n)) (by omega) (by omega) (by omega)
      have e1 : 12 - n = (12 - (n + 1)) + 1 := by omega
      have e2 : msum y (12 - n) = msum y (12 - (n + 1)) + lenF y (12 - n) := by
        rw [e1]; simp only [msum]; congr 1; congr 1; omega
      omega

theorem msum_succ (y : Int) (k : Nat) : msum y (k + 1) = msum y k + lenF y (k + 1) := rfl
theorem msum_mono (y : Int) : ∀ (n k : Nat), msum y k ≤ msum y (k + n)
  | 0, k => by simp
  | n + 1, k => by
    have := msum_mono y n k
    have h2 := lenF_b y ((k + n : Nat) + 1)
    rw [show k + (n + 1) = (k + n) + 1 by omega, msum_succ]
    omega
theorem msum_12 (y : Int) : msum y 12 = ylen y := by
  simp [msum, lenF, ylen]
  split <;> rfl

/-- y, m, q (the days before): the date of day d. -/
def IsDate (d y m q : Int) : Prop := 0 ≤ y ∧ 1 ≤ m ∧ m ≤ 12 ∧ 0 ≤ q ∧ q < lenF y m ∧ cumD y + msum y (m.toNat - 1) + q = d

theorem IsDate.rest {d y m q : Int} (h : IsDate d y m q) : 0 ≤ msum y (m.toNat - 1) + q ∧ msum y (m.toNat - 1) + q < ylen y := by
  obtain ⟨h0, h1, h2, h3, h4, h5⟩ := h
  have hb := msum_b y (m.toNat - 1)
  refine ⟨by omega, ?_⟩
  have e := msum_succ y (m.toNat - 1)
  rw [show ((m.toNat - 1 : Nat) : Int) + 1 = m by omega] at e
  have hm := msum_mono y (12 - m.toNat) (m.toNat - 1 + 1)
  rw [show m.toNat - 1 + 1 + (12 - m.toNat) = 12 by omega, msum_12] at hm
  omega

theorem IsDate.unique {d y m q y' m' q' : Int} (h : IsDate d y m q) (h' : IsDate d y' m' q') : y = y' ∧ m = m' ∧ q = q' := by
  have r1 := h.rest
  have r2 := h'.rest
  obtain ⟨h0, h1, h2, h3, h4, h5⟩ := h
  obtain ⟨g0, g1, g2, g3, g4, g5⟩ := h'
  obtain ⟨rfl, hr⟩ := cumD_inj h0 g0 (R := msum y (m.toNat - 1) + q) (R' := msum y' (m'.toNat - 1) + q') (by omega) r1.1 r1.2 r2.1 r2.2
  have lt : ∀ {m q m' q' : Int}, 1 ≤ m → m < m' → q < lenF y m → 0 ≤ q' → msum y (m.toNat - 1) + q = msum y (m'.toNat - 1) + q' → False := fun {m q m' q'} a1 a2 a3 a4 a5 => by
    have e := msum_succ y (m.toNat - 1)
    rw [show ((m.toNat - 1 : Nat) : Int) + 1 = m by omega] at e
    have hm := msum_mono y (m'.toNat - 1 - m.toNat) (m.toNat - 1 + 1)
    rw [show m.toNat - 1 + 1 + (m'.toNat - 1 - m.toNat) = m'.toNat - 1 by omega] at hm
    omega
  rcases Int.lt_trichotomy m m' with hlt | heq | hgt
  · exact (lt h1 hlt h4 g3 hr).elim
  · subst heq; exact ⟨rfl, rfl, by omega⟩
  · exact (lt g1 hgt g4 h3 hr.symm).elim

theorem date_of {y0 d : Int} (hy : 0 ≤ y0) (h0 : 0 ≤ d) (h1 : d < 803000) : ∃ y m q, dateOf y0 d = [.i y, .i m, .i (q + 1)] ∧ IsDate (cumD y0 + d) y m q ∧ y0 ≤ y ∧ y ≤ y0 + 2200 := by
  obtain ⟨a1, a2, a3, a4, a5⟩ := yf_spec 2200 y0 d hy h0 (by omega)
  obtain ⟨b1, b2, b3, b4, b5⟩ := mf_spec (yf 2200 y0 d).1 12 (yf 2200 y0 d).2 (Nat.le_refl _) a3 (by rw [tl_all]; exact a4)
  have hl := lenF_b (yf 2200 y0 d).1 (mf 12 (yf 2200 y0 d).1 (yf 2200 y0 d).2).1
  refine ⟨_, _, _, ?_, ⟨by omega, by omega, b2, b3, b4, ?_⟩, a1, a2⟩
  · dsimp only [dateOf]
    rw [show W ((mf 12 (yf 2200 y0 d).1 (yf 2200 y0 d).2).2 + 1) = (mf 12 (yf 2200 y0 d).1 (yf 2200 y0 d).2).2 + 1 from wI (by omega) (by omega)]
  · rw [show msum (yf 2200 y0 d).1 (12 - 12) = 0 from rfl] at b5
    omega

theorem date_eq {d : Int} (h : isD d = true) : dateOf (2001 + d / 146097 * 400) (d % 146097) = dateOf 2001 d := by
  have hd := isD_iff.1 h
  obtain ⟨y, m, q, e1, h1, g1, g2⟩ := date_of (y0 := 2001 + d / 146097 * 400) (d := d % 146097) (by omega) (by omega) (by omega)
  obtain ⟨y', m', q', e2, h2, _⟩ := date_of (y0 := 2001) (d := d) (by omega) (by omega) (by omega)
  have e3 : cumD (2001 + d / 146097 * 400) + d % 146097 = cumD 2001 + d := by unfold cumD; omega
  rw [e3] at h1
  obtain ⟨rfl, rfl, rfl⟩ := h1.unique h2
  rw [e1, e2]

theorem date_spec {d : Int} (h : isD d = true) : ∃ y m q, dateOf 2001 d = [.i y, .i m, .i (q + 1)] ∧ IsDate d y m q ∧ 2001 ≤ y ∧ y ≤ 9999 := by
  have hd := isD_iff.1 h
  obtain ⟨y', m', q', e2, h2, h3, h4⟩ := date_of (y0 := 2001) (d := d) (by omega) (by omega) (by omega)
  rw [cumD_2001, Int.zero_add] at h2
  exact ⟨y', m', q', e2, h2, h3, by omega⟩



end Go.Ab
