/-
  Texts of the layer and of the laws, put together: AbA7, AbO1, AbV13. No law is stated here.
-/
import Derived.Test.YtckjmdppjealdaaGreatDoorAbVol33
set_option linter.unusedSimpArgs false
set_option linter.unusedVariables false
set_option maxRecDepth 100000

/-
  Agencies' files: the statements' own functions; what is owed for a key.
-/
namespace Go.Ab
open Go.RowKit Go.Proofs

def exR : List Rec := [⟨1, [107], 5, 120, 0⟩, ⟨3, [107], 6, 0, 9⟩]
def exF : Fil := ⟨[97], [98], 1, true, exR⟩
def smallF (f : Fil) : Bool := decide (f.recs.length ≤ 60) && decide (f.fr.length ≤ 1000) && decide (f.dst.length ≤ 1000) && f.recs.all fun x => decide (x.key.length ≤ 1000)
def afterF (n : Int) (x : Rec) : Int := if x.kind = 1 ∨ x.kind = 2 then IntKind.i64.wrap (n + x.cents) else if x.kind = 4 then IntKind.i64.wrap (n - x.cents) else if x.kind = 3 then 0 else n
def amtF (key : List UInt8) : Int → List Rec → Int
  | n, [] => n
  | n, x :: r => amtF key (if x.key = key then afterF n x else n) r
def encNR (p : Int × Rec) : List PA := [.c (.int .i64 p.1), .agg p.2.row]
theorem encNR_inj (a b : Int × Rec) (h : encNR a = encNR b) : a = b := by
  obtain ⟨a1, a2⟩ := a
  obtain ⟨b1, b2⟩ := b
  simp only [encNR, List.cons.injEq, DV.agg.injEq, DV.c.injEq, D.int.injEq, and_true, true_and] at h
  rw [h.1, Rec.inj _ _ h.2]

noncomputable section
open Classical


def exam_m : List PA → Option (List PA) := m0 (some [.agg exF.row])
def aafter_m : List PA → Option (List PA) := mE encNR fun p => some [.i (afterF p.1 p.2)]
def aamt_m : List PA → Option (List PA) := mE encRK fun p => if decide (p.1.2.length ≤ 9223372036854775807) = true then some [.i (amtF p.2 0 p.1.2)] else none

theorem exam_ok : PureC Tryz.prog Gt 49 exam_m := by
  refine pure_of_awp (X := ctx Tryz.prog Gt []) Tryz.func49 rfl rfl (by kernel_rfl) (by kernel_rfl) AllOk.nil.kok ?_
  intro args r h0
  obtain ⟨rfl, h⟩ := m0_inv h0
  refine ⟨Nat.le_of_ble_eq_true rfl, ?_⟩
  cases h
  have hc := Nat.zero_add 0
  repeat' (first | simp only [hc, Tryz.f49, SX, AB, PL, RG, LP, TY, simprocAttr, ↓reduceIte, forall_const, eq_self, ne_eq, Option.some.injEq, beq_self_eq_true] | ((first | apply fin_ndec | apply fin_dec | apply cnd_ndec | apply cnd_dec' | apply fin_nsplit | apply fin_split | apply cnd_nsplit | apply cnd_split) <;> intro hc) | refine blk_exit_id ?_)
  all_goals simp [exF, exR, Fil.row, Rec.row]

theorem aafter_ok : PureC Tryz.prog Gt 43 aafter_m := by
  refine pure_of_awp (X := ctx Tryz.prog Gt []) Tryz.func43 rfl rfl (by kernel_rfl) (by kernel_rfl) AllOk.nil.kok ?_
  intro args r h0
  obtain ⟨⟨n, x⟩, rfl, h⟩ := mE_inv h0
  refine ⟨Nat.le_of_ble_eq_true rfl, ?_⟩
  cases h
  by_cases c1 : x.kind = 1
  · have hr : afterF n x = IntKind.i64.wrap (n + x.cents) := if_pos (.inl c1)
    generalize afterF n x = R at *
    have hc := Nat.zero_add 0
    repeat' (first | simp only [hc, Tryz.f43, encNR, Rec.row, SX, c1, AB, PL, RG, LP, TY, simprocAttr, ↓reduceIte, forall_const, eq_self, ne_eq, Option.some.injEq, beq_self_eq_true] | ((first | apply fin_ndec | apply fin_dec | apply cnd_ndec | apply cnd_dec' | apply fin_nsplit | apply fin_split | apply cnd_nsplit | apply cnd_split) <;> intro hc) | refine blk_exit_id ?_)
    all_goals simp [hr, DV.i]
  by_cases c2 : x.kind = 2
  · have hr : afterF n x = IntKind.i64.wrap (n + x.cents) := if_pos (.inr c2)
    generalize afterF n x = R at *
    have hc := Nat.zero_add 0
    repeat' (first | simp only [hc, Tryz.f43, encNR, Rec.row, SX, c1, c2, AB, PL, RG, LP, TY, simprocAttr, ↓reduceIte, forall_const, eq_self, ne_eq, Option.some.injEq, beq_self_eq_true] | ((first | apply fin_ndec | apply fin_dec | apply cnd_ndec | apply cnd_dec' | apply fin_nsplit | apply fin_split | apply cnd_nsplit | apply cnd_split) <;> intro hc) | refine blk_exit_id ?_)
    all_goals simp [hr, DV.i]
  by_cases c3 : x.kind = 4
  · have hr : afterF n x = IntKind.i64.wrap (n - x.cents) := by unfold afterF; rw [if_neg (by omega), if_pos c3]
    generalize afterF n x = R at *
    have hc := Nat.zero_add 0
    repeat' (first | simp only [hc, Tryz.f43, encNR, Rec.row, SX, c1, c2, c3, AB, PL, RG, LP, TY, simprocAttr, ↓reduceIte, forall_const, eq_self, ne_eq, Option.some.injEq, beq_self_eq_true] | ((first | apply fin_ndec | apply fin_dec | apply cnd_ndec | apply cnd_dec' | apply fin_nsplit | apply fin_split | apply cnd_nsplit | apply cnd_split) <;> intro hc) | refine blk_exit_id ?_)
    all_goals simp [hr, DV.i]
  by_cases c4 : x.kind = 3
  · have hr : afterF n x = 0 := by unfold afterF; rw [if_neg (by omega), if_neg c3, if_pos c4]
    generalize afterF n x = R at *
    have hc := Nat.zero_add 0
    repeat' (first | simp only [hc, Tryz.f43, encNR, Rec.row, SX, c1, c2, c3, c4, AB, PL, RG, LP, TY, simprocAttr, ↓reduceIte, forall_const, eq_self, ne_eq, Option.some.injEq, beq_self_eq_true] | ((first | apply fin_ndec | apply fin_dec | apply cnd_ndec | apply cnd_dec' | apply fin_nsplit | apply fin_split | apply cnd_nsplit | apply cnd_split) <;> intro hc) | refine blk_exit_id ?_)
    all_goals simp [hr, DV.i]
  · have hr : afterF n x = n := by unfold afterF; rw [if_neg (by omega), if_neg c3, if_neg c4]
    generalize afterF n x = R at *
    have hc := Nat.zero_add 0
    repeat' (first | simp only [hc, Tryz.f43, encNR, Rec.row, SX, c1, c2, c3, c4, AB, PL, RG, LP, TY, simprocAttr, ↓reduceIte, forall_const, eq_self, ne_eq, Option.some.injEq, beq_self_eq_true] | ((first | apply fin_ndec | apply fin_dec | apply cnd_ndec | apply cnd_dec' | apply fin_nsplit | apply fin_split | apply cnd_nsplit | apply cnd_split) <;> intro hc) | refine blk_exit_id ?_)
    all_goals simp [hr, DV.i]
theorem aafter_at {n : Int} {x : Rec} : aafter_m [.c (.int .i64 n), .agg x.row] = some [.i (afterF n x)] := by
  rw [aafter_m, show ([.c (.int .i64 n), .agg x.row] : List PA) = encNR (n, x) from rfl, mE_eq encNR_inj]

theorem amt_take {key : List UInt8} : ∀ {l : List Rec} {j : Nat} (h : j < l.length) (n : Int), amtF key n (l.take (j + 1)) = (if l[j].key = key then afterF (amtF key n (l.take j)) l[j] else amtF key n (l.take j))
  | x :: l, 0, _, n => by simp [amtF]
  | x :: l, j + 1, h, n => by
    simp only [List.take_succ_cons, amtF, List.getElem_cons_succ]
    exact amt_take (by simpa using h) _

theorem aamt_ok : PureC Tryz.prog Gt 19 aamt_m := by
  refine pure_of_awp (X := ctx Tryz.prog Gt [(43, aafter_m)]) Tryz.func19 rfl rfl (by kernel_rfl) (by kernel_rfl) (AllOk.cons aafter_ok AllOk.nil).kok ?_
  intro args r h0
  obtain ⟨⟨⟨f, l⟩, key⟩, rfl, h⟩ := mE_inv h0
  refine ⟨Nat.le_of_ble_eq_true rfl, ?_⟩
  split at h
  · rename_i hl
    have hl := of_decide_eq_true hl
    dsimp only at hl h
    cases h
    have l1 := @lenR l
    have hc := Nat.zero_add 0
    repeat' (first | simp only [hc, Tryz.f19, encRK, SX, l1, AB, PL, RG, LP, TY, simprocAttr, ↓reduceIte, forall_const, eq_self, ne_eq, Option.some.injEq, beq_self_eq_true] | ((first | apply fin_ndec | apply fin_dec | apply cnd_ndec | apply cnd_dec' | apply fin_nsplit | apply fin_split | apply cnd_nsplit | apply cnd_split) <;> intro hc) | refine blk_exit_id ?_)
    refine awp_loop (σ := Nat) (fun j => j ≤ l.length) (fun j => ⟨[(10, AV.i j), (9, AV.i l.length), (8, AV.d (.sl f (l.map Rec.row))), (1, AV.s key), (5, AV.i (amtF key 0 (l.take j)))], []⟩) (fun j => l.length - j) 0 (Wk.sub' (by simp [subT, look, amtF]) rfl) (by simp) ?_
    intro j hj
    by_cases hjl : j < l.length
    · have e1 := row_at hjl
      have hlt : ((j : Int) < (l.length : Int)) = True := eq_true (by omega)
      have hw := wI (n := (j : Int) + 1) (by omega) (by omega)
      have hstep := amt_take (key := key) hjl 0
      generalize l[j] = x at *
      generalize amtF key 0 (l.take j) = q at *
      have f1 := @aafter_at q x
      simp only [Rec.row] at f1
      by_cases c1 : x.key = key
      · rw [if_pos c1] at hstep
        have c1' : (x.key == key) = true := by simp [c1]
        have hc := Nat.zero_add 0
        repeat' (first | simp only [hc, SX, l1, e1, hlt, nn, hw, c1', f1, AB, PL, RG, LP, TY, simprocAttr, ↓reduceIte, forall_const, eq_self, ne_eq, Option.some.injEq, beq_self_eq_true] | ((first | apply fin_ndec | apply fin_dec | apply cnd_ndec | apply cnd_dec' | apply fin_nsplit | apply fin_split | apply cnd_nsplit | apply cnd_split) <;> intro hc) | refine blk_exit_id ?_)
        exact lp_next (j + 1) (Wk.cutk (k := 0) (by simp) (by simp) (by simp) (by simp [subT, look, hstep]) (by simp [AV.low, V.low, C1.low]) (by simp [Ob.low, C1.low])) (by omega) (by omega)
      · rw [if_neg c1] at hstep
        have c1' : (x.key == key) = false := by simp [c1]
        have hc := Nat.zero_add 0
        repeat' (first | simp only [hc, SX, l1, e1, hlt, nn, hw, c1', f1, AB, PL, RG, LP, TY, simprocAttr, ↓reduceIte, forall_const, eq_self, ne_eq, Option.some.injEq, beq_self_eq_true] | ((first | apply fin_ndec | apply fin_dec | apply cnd_ndec | apply cnd_dec' | apply fin_nsplit | apply fin_split | apply cnd_nsplit | apply cnd_split) <;> intro hc) | refine blk_exit_id ?_)
        exact lp_next (j + 1) (Wk.cutk (k := 0) (by simp) (by simp) (by simp) (by simp [subT, look, hstep]) (by simp [AV.low, V.low, C1.low]) (by simp [Ob.low, C1.low])) (by omega) (by omega)
    · have hlt : ((j : Int) < (l.length : Int)) = False := eq_false (by omega)
      rw [List.take_of_length_le (by omega)]
      have hc := Nat.zero_add 0
      repeat' (first | simp only [hc, SX, l1, hlt, AB, PL, RG, LP, TY, simprocAttr, ↓reduceIte, forall_const, eq_self, ne_eq, Option.some.injEq, beq_self_eq_true] | ((first | apply fin_ndec | apply fin_dec | apply cnd_ndec | apply cnd_dec' | apply fin_nsplit | apply fin_split | apply cnd_nsplit | apply cnd_split) <;> intro hc) | refine blk_exit_id ?_)
      all_goals simp
  · cases h
theorem aamt_at {f : Bool} {l : List Rec} {key : List UInt8} (h : l.length ≤ 9223372036854775807) : aamt_m [.c (.sl f (l.map Rec.row)), .c (.str key)] = some [.i (amtF key 0 l)] := by
  rw [aamt_m, show ([.c (.sl f (l.map Rec.row)), .c (.str key)] : List PA) = encRK ((f, l), key) from rfl, mE_eq encRK_inj, if_pos (decide_eq_true h)]

theorem small_no {f : Fil} {j : Nat} (hj : j < f.recs.length) (h : ¬ f.recs[j].key.length ≤ 1000) : smallF f = false := by
  unfold smallF
  rw [Bool.and_eq_false_iff]
  right
  rw [← Bool.not_eq_true, List.all_eq_true]
  intro hh
  exact h (of_decide_eq_true (hh _ (List.getElem_mem hj)))
theorem small_yes {f : Fil} (h1 : f.recs.length ≤ 60) (h2 : f.fr.length ≤ 1000) (h3 : f.dst.length ≤ 1000) (h4 : (f.recs.all fun x => decide (x.key.length ≤ 1000)) = true) : smallF f = true := by
  unfold smallF
  rw [decide_eq_true h1, decide_eq_true h2, decide_eq_true h3, h4]
  rfl

end
end Go.Ab

/-
  Numbers and texts in order (the same as in AbU9 and AbV1, for seats without sessions: never load both).
-/
namespace Go.Ab
open Go.RowKit Go.Proofs

def ordI (a b : Int) : Int := if a < b then -1 else if b < a then 1 else 0
/-- a before b, byte by byte. -/
def befB : List UInt8 → List UInt8 → Bool
  | [], [] => false
  | [], _ :: _ => true
  | _ :: _, [] => false
  | a :: l, b :: k => if a = b then befB l k else decide (a.toNat < b.toNat)
def ordS (a b : List UInt8) : Int := if a = b then 0 else if befB a b = true then -1 else 1
theorem befB_drop {a b : List UInt8} {j : Nat} {x y : UInt8} (h1 : a[j]? = some x) (h2 : b[j]? = some y) : befB (a.drop j) (b.drop j) = if x = y then befB (a.drop (j + 1)) (b.drop (j + 1)) else decide (x.toNat < y.toNat) := by
  rw [drop_of h1, drop_of h2, befB]
theorem befB_end {a b : List UInt8} (h : a = [] ∨ b = []) : befB a b = decide (a.length < b.length) := by
  rcases h with rfl | rfl
  · cases b <;> simp [befB]
  · cases a <;> simp [befB]

/-- Comparisons: a total preorder, as signs. -/
structure Cmp {α : Type} (c : α → α → Int) : Prop where
  anti : ∀ a b, c a b < 0 ↔ 0 < c b a
  lt : ∀ a b d, c a b < 0 → c b d < 0 → c a d < 0
  el : ∀ a b d, c a b = 0 → c b d < 0 → c a d < 0
  le : ∀ a b d, c a b < 0 → c b d = 0 → c a d < 0
  ee : ∀ a b d, c a b = 0 → c b d = 0 → c a d = 0

theorem Cmp.sym {α : Type} {c : α → α → Int} (h : Cmp c) {a b : α} (e : c a b = 0) : c b a = 0 := by
  have h1 := h.anti a b
  have h2 := h.anti b a
  omega

theorem Cmp.of_eq {α : Type} {c : α → α → Int} (h0 : ∀ a b, c a b = 0 ↔ a = b) (h1 : ∀ a b, c a b < 0 ↔ 0 < c b a) (h2 : ∀ a b d, c a b < 0 → c b d < 0 → c a d < 0) : Cmp c :=
  ⟨h1, h2, fun a b d e h => by rw [(h0 a b).1 e]; exact h, fun a b d h e => by rw [← (h0 b d).1 e]; exact h, fun a b d e f => by rw [(h0 a b).1 e]; exact f⟩

theorem Cmp.key {α β : Type} {c : β → β → Int} (h : Cmp c) (f : α → β) : Cmp (fun a b => c (f a) (f b)) :=
  ⟨fun _ _ => h.anti _ _, fun _ _ _ => h.lt _ _ _, fun _ _ _ => h.el _ _ _, fun _ _ _ => h.le _ _ _, fun _ _ _ => h.ee _ _ _⟩

theorem Cmp.lex {α : Type} {c d : α → α → Int} (h : Cmp c) (k : Cmp d) : Cmp (fun a b => if c a b ≠ 0 then c a b else d a b) := by
  constructor
  · intro a b
    have h1 := h.anti a b
    have h2 := h.anti b a
    have k1 := k.anti a b
    split <;> split <;> omega
  · intro a b e
    have h1 := h.lt a b e
    have h2 := h.el a b e
    have h3 := h.le a b e
    have h4 := h.ee a b e
    have k1 := k.lt a b e
    split <;> split <;> split <;> (intro x y; first | omega | (have := h1 x y; omega) | (have := h2 (by omega) y; omega) | (have := h3 x (by omega); omega) | (have := h4 (by omega) (by omega); omega) | exact k1 x y)
  · intro a b e
    have h2 := h.el a b e
    have h4 := h.ee a b e
    have k1 := k.el a b e
    split <;> split <;> split <;> (intro x y; first | omega | (have := h2 (by omega) y; omega) | (have := h4 (by omega) (by omega); omega) | exact k1 x y)
  · intro a b e
    have h3 := h.le a b e
    have h4 := h.ee a b e
    have k1 := k.le a b e
    split <;> split <;> split <;> (intro x y; first | omega | (have := h3 x (by omega); omega) | (have := h4 (by omega) (by omega); omega) | exact k1 x y)
  · intro a b e
    have h4 := h.ee a b e
    have k1 := k.ee a b e
    split <;> split <;> split <;> (intro x y; first | omega | (have := h4 (by omega) (by omega); omega) | exact k1 x y)

theorem cmp_ordI : Cmp ordI := by
  have e : ∀ x y, ordI x y < 0 ↔ x < y := by intro x y; simp only [ordI]; (repeat' split) <;> omega
  refine Cmp.of_eq ?_ ?_ ?_
  · intro a b; simp only [ordI]; (repeat' split) <;> omega
  · intro a b; simp only [ordI]; (repeat' split) <;> omega
  · intro a b d h1 h2
    rw [e] at *
    omega
theorem ordI_zero {a b : Int} : ordI a b = 0 ↔ a = b := by simp only [ordI]; (repeat' split) <;> omega

theorem befB_irr : ∀ a, befB a a = false
  | [] => rfl
  | a :: l => by rw [befB, if_pos rfl, befB_irr l]
theorem befB_tot : ∀ a b, a ≠ b → befB a b = !befB b a
  | [], [], h => absurd rfl h
  | [], _ :: _, _ => rfl
  | _ :: _, [], _ => rfl
  | a :: l, b :: k, h => by
    by_cases e : a = b
    · subst e
      rw [befB, befB, if_pos rfl, if_pos rfl, befB_tot l k (fun he => h (by rw [he]))]
    · rw [befB, befB, if_neg e, if_neg (fun x => e x.symm), Bool.eq_iff_iff]
      have : a.toNat ≠ b.toNat := fun x => e (UInt8.toNat_inj.1 x)
      simp only [decide_eq_true_eq, Bool.not_eq_true', decide_eq_false_iff_not]
      omega
theorem befB_trans : ∀ a b c, befB a b = true → befB b c = true → befB a c = true
  | [], [], _, h, _ => absurd h (by simp [befB])
  | [], _ :: _, [], _, h => absurd h (by simp [befB])
  | [], _ :: _, _ :: _, _, _ => rfl
  | _ :: _, [], _, h, _ => absurd h (by simp [befB])
  | _ :: _, _ :: _, [], _, h => absurd h (by simp [befB])
  | a :: l, b :: k, c :: m, h1, h2 => by
    rw [befB] at h1 h2 ⊢
    by_cases e1 : a = b
    · subst e1
      rw [if_pos rfl] at h1
      by_cases e2 : a = c
      · rw [if_pos e2] at h2 ⊢
        exact befB_trans l k m h1 h2
      · rw [if_neg e2] at h2 ⊢
        exact h2
    · rw [if_neg e1] at h1
      by_cases e2 : b = c
      · subst e2
        rw [if_neg e1]
        exact h1
      · rw [if_neg e2] at h2
        have h1 := of_decide_eq_true h1
        have h2 := of_decide_eq_true h2
        rw [if_neg (by rintro rfl; omega)]
        exact decide_eq_true (by omega)
theorem ordS_zero {a b : List UInt8} : ordS a b = 0 ↔ a = b := by
  unfold ordS
  split
  · simp_all
  · split <;> simp_all
theorem cmp_ordS : Cmp ordS := by
  refine Cmp.of_eq (fun _ _ => ordS_zero) ?_ ?_
  · intro a b
    by_cases e : a = b
    · subst e
      simp [ordS]
    · have h := befB_tot a b e
      have e' : ¬ b = a := fun x => e x.symm
      simp only [ordS, e, e', if_false, h]
      cases befB b a <;> simp
  · intro a b d h1 h2
    have lt : ∀ {x y : List UInt8}, ordS x y < 0 → x ≠ y ∧ befB x y = true := by
      intro x y h
      unfold ordS at h
      split at h
      · omega
      · split at h
        · rename_i h3 h4; exact ⟨h3, h4⟩
        · omega
    obtain ⟨n1, b1⟩ := lt h1
    obtain ⟨n2, b2⟩ := lt h2
    have b3 := befB_trans a b d b1 b2
    have n3 : a ≠ d := by
      rintro rfl
      rw [befB_irr] at b3
      cases b3
    unfold ordS
    rw [if_neg n3, if_pos b3]
    decide


end Go.Ab

/-
  Plain laws: one record for each key; the program's and the reference's list are the same.
-/
namespace Go.Ab

/-- The last time of a key. -/
def timF (key : List UInt8) : Int → List Rec → Int
  | t, [] => t
  | t, x :: r => timF key (if x.key = key then x.time else t) r
/-- A key's record, reckoned anew. -/
def recK (l : List Rec) (k : List UInt8) : Rec := ⟨1, k, timF k 0 l, amtF k 0 l, 0⟩
/-- A record laid to those of its key. -/
def putK (x : Rec) : List Rec → List Rec
  | [] => [⟨1, x.key, x.time, afterF 0 x, 0⟩]
  | y :: r => if y.key = x.key then ⟨y.kind, y.key, x.time, afterF y.cents x, y.why⟩ :: r else y :: putK x r
def netU (l : List Rec) : List Rec := l.foldl (fun out x => putK x out) []

theorem amtF_snoc (k : List UInt8) (x : Rec) : ∀ (l : List Rec) (n : Int), amtF k n (l ++ [x]) = if x.key = k then afterF (amtF k n l) x else amtF k n l
  | [], n => by
    simp only [List.nil_append, amtF]
  | y :: l, n => by
    rw [List.cons_append, amtF, amtF_snoc k x l, amtF]
theorem timF_snoc (k : List UInt8) (x : Rec) : ∀ (l : List Rec) (n : Int), timF k n (l ++ [x]) = if x.key = k then x.time else timF k n l
  | [], n => by
    simp only [List.nil_append, timF]
  | y :: l, n => by
    rw [List.cons_append, timF, timF_snoc k x l, timF]
theorem amtF_out {k : List UInt8} : ∀ {l : List Rec} {n : Int}, k ∉ l.map Rec.key → amtF k n l = n
  | [], _, _ => rfl
  | x :: l, n, h => by
    simp only [List.map_cons, List.mem_cons, not_or] at h
    rw [amtF, if_neg (fun e => h.1 e.symm), amtF_out h.2]
theorem timF_out {k : List UInt8} : ∀ {l : List Rec} {n : Int}, k ∉ l.map Rec.key → timF k n l = n
  | [], _, _ => rfl
  | x :: l, n, h => by
    simp only [List.map_cons, List.mem_cons, not_or] at h
    rw [timF, if_neg (fun e => h.1 e.symm), timF_out h.2]

/-- One record for each key, each as reckoned anew. -/
structure NetOk (l out : List Rec) : Prop where
  one : (out.map Rec.key).Nodup
  keys : ∀ k, k ∈ out.map Rec.key ↔ k ∈ l.map Rec.key
  each : ∀ y ∈ out, y = recK l y.key

theorem putK_keys {x : Rec} : ∀ {out : List Rec}, (putK x out).map Rec.key = if x.key ∈ out.map Rec.key then out.map Rec.key else out.map Rec.key ++ [x.key]
  | [] => by simp [putK]
  | y :: r => by
    rw [putK]
    by_cases h : y.key = x.key
    · rw [if_pos h]
      simp [h]
    · rw [if_neg h, List.map_cons, putK_keys]
      have h' : ¬ x.key = y.key := fun e => h e.symm
      simp only [List.map_cons, List.mem_cons, h', false_or]
      split <;> simp
theorem putK_mem {x : Rec} : ∀ {out : List Rec} {y : Rec}, (out.map Rec.key).Nodup → y ∈ putK x out → (y.key ≠ x.key ∧ y ∈ out) ∨ (y.key = x.key ∧ ((x.key ∉ out.map Rec.key ∧ y = ⟨1, x.key, x.time, afterF 0 x, 0⟩) ∨ ∃ z ∈ out, z.key = x.key ∧ y = ⟨z.kind, z.key, x.time, afterF z.cents x, z.why⟩))
  | [], y, _, h => by
    simp only [putK, List.mem_singleton] at h
    subst h
    exact .inr ⟨rfl, .inl ⟨by simp, rfl⟩⟩
  | z :: r, y, hn, h => by
    rw [List.map_cons, List.nodup_cons] at hn
    rw [putK] at h
    by_cases hz : z.key = x.key
    · rw [if_pos hz] at h
      rcases List.mem_cons.1 h with rfl | h
      · exact .inr ⟨hz, .inr ⟨z, List.mem_cons_self, hz, rfl⟩⟩
      · refine .inl ⟨fun e => hn.1 ?_, List.mem_cons_of_mem _ h⟩
        rw [hz, ← e]
        exact List.mem_map_of_mem h
    · rw [if_neg hz] at h
      rcases List.mem_cons.1 h with rfl | h
      · exact .inl ⟨hz, List.mem_cons_self⟩
      · rcases putK_mem hn.2 h with ⟨a, b⟩ | ⟨a, ⟨b, c⟩ | ⟨w, b, c⟩⟩
        · exact .inl ⟨a, List.mem_cons_of_mem _ b⟩
        · refine .inr ⟨a, .inl ⟨?_, c⟩⟩
          rw [List.map_cons, List.mem_cons, not_or]
          exact ⟨fun e => hz e.symm, b⟩
        · exact .inr ⟨a, .inr ⟨w, List.mem_cons_of_mem _ b, c⟩⟩

theorem NetOk.put {l out : List Rec} {x : Rec} (h : NetOk l out) : NetOk (l ++ [x]) (putK x out) := by
  constructor
  · rw [putK_keys]
    split
    · exact h.one
    · rename_i hx
      exact List.nodup_append.2 ⟨h.one, List.nodup_cons.2 ⟨by simp, List.nodup_nil⟩, fun a ha b hb => by
        rw [List.mem_singleton] at hb
        subst hb
        rintro rfl
        exact hx ha⟩
  · intro k
    rw [putK_keys, List.map_append, List.mem_append, List.map_cons, List.map_nil, List.mem_singleton]
    split
    · rename_i hx
      rw [h.keys]
      exact ⟨.inl, fun hk => by
        rcases hk with hk | rfl
        · exact hk
        · exact (h.keys _).1 hx⟩
    · rw [List.mem_append, List.mem_singleton, h.keys]
  · intro y hy
    rcases putK_mem h.one hy with ⟨a, b⟩ | ⟨a, ⟨b, rfl⟩ | ⟨z, b, c, rfl⟩⟩
    · have e := h.each y b
      rw [recK, timF_snoc, amtF_snoc, if_neg (fun e => a e.symm), if_neg (fun e => a e.symm)]
      exact e
    · have hk : x.key ∉ l.map Rec.key := fun e => b ((h.keys _).2 e)
      rw [recK, timF_snoc, amtF_snoc, if_pos rfl, if_pos rfl, amtF_out hk]
    · have e := h.each z b
      rw [recK, timF_snoc, amtF_snoc]
      dsimp only
      rw [if_pos c.symm, if_pos c.symm]
      obtain ⟨zk, zkey, zt, zc, zw⟩ := z
      simp only [recK, Rec.mk.injEq] at e
      obtain ⟨e1, _, _, e4, e5⟩ := e
      dsimp only at e4 ⊢
      rw [e1, e5, ← e4]
theorem net_go : ∀ (r l out : List Rec), NetOk l out → NetOk (l ++ r) (r.foldl (fun out x => putK x out) out)
  | [], l, out, h => by simpa using h
  | x :: r, l, out, h => by
    have := net_go r (l ++ [x]) (putK x out) h.put
    rw [List.append_assoc, List.singleton_append] at this
    exact this
theorem netU_ok (l : List Rec) : NetOk l (netU l) := by
  have := net_go l [] [] ⟨List.nodup_nil, fun k => by simp, fun y hy => by simp at hy⟩
  rw [List.nil_append] at this
  exact this

/-! Keys in order -/
abbrev StrK (l : List Rec) : Prop := l.Pairwise (fun a b => ordS a.key b.key < 0)
theorem ordS_irr (a : List UInt8) : ¬ ordS a a < 0 := by rw [ordS_zero.2 rfl]; decide
/-- Lists in strict order of keys that hold the same records are the same. -/
theorem strK_ext : ∀ {l k : List Rec}, StrK l → StrK k → (∀ x, x ∈ l ↔ x ∈ k) → l = k
  | [], [], _, _, _ => rfl
  | [], y :: k, _, _, h => absurd ((h y).2 (by simp)) (by simp)
  | x :: l, [], _, _, h => absurd ((h x).1 (by simp)) (by simp)
  | x :: l, y :: k, h1, h2, h => by
    obtain ⟨a1, a2⟩ := List.pairwise_cons.1 h1
    obtain ⟨b1, b2⟩ := List.pairwise_cons.1 h2
    have hxy : x = y := by
      rcases List.mem_cons.1 ((h x).1 (by simp)) with e | e
      · exact e
      rcases List.mem_cons.1 ((h y).2 (by simp)) with f | f
      · exact f.symm
      exact absurd (cmp_ordS.lt _ _ _ (a1 y f) (b1 x e)) (ordS_irr _)
    subst hxy
    rw [strK_ext a2 b2 fun z => ?_]
    have hz := h z
    simp only [List.mem_cons] at hz
    constructor
    · intro hl
      rcases hz.1 (.inr hl) with rfl | hk
      · exact absurd (a1 z hl) (ordS_irr _)
      · exact hk
    · intro hk
      rcases hz.2 (.inr hk) with rfl | hl
      · exact absurd (b1 z hk) (ordS_irr _)
      · exact hl

/-- A key laid into keys in order (it is none of them). -/
def insK (s : List UInt8) : List (List UInt8) → List (List UInt8)
  | [] => [s]
  | x :: r => if befB s x = true then s :: x :: r else x :: insK s r
def keysR (l : List Rec) : List (List UInt8) := l.foldl (fun out x => if x.key ∈ out then out else insK x.key out) []
def netR (l : List Rec) : List Rec := (keysR l).map (recK l)
abbrev StrS (l : List (List UInt8)) : Prop := l.Pairwise (fun a b => ordS a b < 0)
theorem mem_insK {s x : List UInt8} : ∀ {l : List (List UInt8)}, x ∈ insK s l ↔ x = s ∨ x ∈ l
  | [] => by simp [insK]
  | y :: l => by
    rw [insK]
    split
    · simp
    · rw [List.mem_cons, mem_insK, List.mem_cons]
      constructor
      · rintro (h | h | h)
        · exact .inr (.inl h)
        · exact .inl h
        · exact .inr (.inr h)
      · rintro (h | h | h)
        · exact .inr (.inl h)
        · exact .inl h
        · exact .inr (.inr h)
theorem insK_str {s : List UInt8} : ∀ {l : List (List UInt8)}, StrS l → s ∉ l → StrS (insK s l)
  | [], _, _ => List.pairwise_singleton _ _
  | y :: l, h, hs => by
    obtain ⟨h1, h2⟩ := List.pairwise_cons.1 h
    rw [List.mem_cons, not_or] at hs
    rw [insK]
    split
    · rename_i hb
      have hlt : ordS s y < 0 := by
        unfold ordS
        rw [if_neg hs.1, if_pos hb]
        decide
      refine List.pairwise_cons.2 ⟨fun x hx => ?_, h⟩
      rcases List.mem_cons.1 hx with rfl | hx
      · exact hlt
      · exact cmp_ordS.lt _ _ _ hlt (h1 x hx)
    · rename_i hb
      have hgt : 0 < ordS s y := by
        unfold ordS
        rw [if_neg hs.1, if_neg hb]
        decide
      refine List.pairwise_cons.2 ⟨fun x hx => ?_, insK_str h2 hs.2⟩
      rcases mem_insK.1 hx with rfl | hx
      · exact (cmp_ordS.anti _ _).2 hgt
      · exact h1 x hx
theorem keys_go : ∀ (r l : List Rec) (out : List (List UInt8)), StrS out → (∀ k, k ∈ out ↔ k ∈ l.map Rec.key) →
    StrS (r.foldl (fun out x => if x.key ∈ out then out else insK x.key out) out) ∧ ∀ k, k ∈ r.foldl (fun out x => if x.key ∈ out then out else insK x.key out) out ↔ k ∈ (l ++ r).map Rec.key
  | [], l, out, h1, h2 => ⟨h1, by simpa using h2⟩
  | x :: r, l, out, h1, h2 => by
    rw [List.foldl_cons]
    have e : l ++ x :: r = (l ++ [x]) ++ r := by simp
    rw [e]
    by_cases hx : x.key ∈ out
    · rw [if_pos hx]
      refine keys_go r (l ++ [x]) out h1 fun k => ?_
      rw [h2, List.map_append, List.mem_append, List.map_cons, List.map_nil, List.mem_singleton]
      exact ⟨.inl, fun h => by
        rcases h with h | rfl
        · exact h
        · exact (h2 _).1 hx⟩
    · rw [if_neg hx]
      refine keys_go r (l ++ [x]) _ (insK_str h1 hx) fun k => ?_
      rw [mem_insK, h2, List.map_append, List.mem_append, List.map_cons, List.map_nil, List.mem_singleton]
      exact ⟨fun h => h.symm, fun h => h.symm⟩
theorem keysR_str (l : List Rec) : StrS (keysR l) := (keys_go l [] [] List.Pairwise.nil (by simp)).1
theorem mem_keysR {l : List Rec} {k : List UInt8} : k ∈ keysR l ↔ k ∈ l.map Rec.key := by
  have := (keys_go l [] [] List.Pairwise.nil (by simp)).2 k
  rw [List.nil_append] at this
  exact this
theorem netR_str (l : List Rec) : StrK (netR l) := by
  unfold netR StrK
  rw [List.pairwise_map]
  exact keysR_str l
/-- What is sorted by key out of the records of the program is the reference's list. -/
theorem net_same {l S : List Rec} (hm : ∀ x, x ∈ S ↔ x ∈ netU l) (hn : (S.map Rec.key).Nodup) (hs : S.Pairwise (fun a b => ordS a.key b.key ≤ 0)) : S = netR l := by
  have ho := netU_ok l
  refine strK_ext ?_ (netR_str l) fun x => ?_
  · have hp : S.Pairwise (fun a b => a.key ≠ b.key) := by rw [List.Nodup, List.pairwise_map] at hn; exact hn
    exact (hs.and hp).imp fun ⟨a, b⟩ => by
      rcases Int.lt_or_eq_of_le a with h | h
      · exact h
      · exact absurd (ordS_zero.1 h) b
  · rw [hm]
    unfold netR
    rw [List.mem_map]
    constructor
    · intro hx
      exact ⟨x.key, mem_keysR.2 ((ho.keys _).1 (List.mem_map_of_mem hx)), (ho.each x hx).symm⟩
    · rintro ⟨k, hk, rfl⟩
      have := (ho.keys k).2 (mem_keysR.1 hk)
      obtain ⟨y, hy, rfl⟩ := List.mem_map.1 this
      rw [← ho.each y hy]
      exact hy

end Go.Ab
