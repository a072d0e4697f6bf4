/-
  Texts of the layer and of the laws, put together: AbU11. No law is stated here.
-/
import Derived.Test.YtckjmdppjealdaaGreatDoorAbVol28
set_option linter.unusedSimpArgs false
set_option linter.unusedVariables false
set_option maxRecDepth 100000

/-
  Lists of events, sessions, exclusions compared; what the statements bound.
-/
namespace Go.Ab
open Go.RowKit Go.Proofs

def sameL {α : Type} (p : α → α → Bool) : List α → List α → Bool
  | [], [] => true
  | x :: l, y :: k => p x y && sameL p l k
  | _, _ => false
theorem sameL_len {α : Type} {p : α → α → Bool} : ∀ {l k : List α}, l.length ≠ k.length → sameL p l k = false
  | [], [], h => absurd rfl h
  | [], _ :: _, _ => rfl
  | _ :: _, [], _ => rfl
  | x :: l, y :: k, h => by
    rw [sameL, @sameL_len α p l k (by simpa using h), Bool.and_false]
theorem sameL_drop {α : Type} {p : α → α → Bool} {l k : List α} {j : Nat} (h1 : j < l.length) (h2 : j < k.length) : sameL p (l.drop j) (k.drop j) = (p l[j] k[j] && sameL p (l.drop (j + 1)) (k.drop (j + 1))) := by
  rw [List.drop_eq_getElem_cons h1, List.drop_eq_getElem_cons h2, sameL]
theorem sameL_end {α : Type} {p : α → α → Bool} {l k : List α} {j : Nat} (h1 : ¬ j < l.length) (h2 : ¬ j < k.length) : sameL p (l.drop j) (k.drop j) = true := by
  rw [List.drop_of_length_le (by omega), List.drop_of_length_le (by omega), sameL]

structure Exc where
  id : List UInt8
  why : Int
def Exc.row (x : Exc) : List D := [.str x.id, .int .i64 x.why]
theorem Exc.inj (a b : Exc) (h : a.row = b.row) : a = b := by cases a; cases b; simpa [Exc.row] using h
theorem mapEx_inj {l k : List Exc} : l.map Exc.row = k.map Exc.row ↔ l = k := ⟨map_inj Exc.inj, fun h => by rw [h]⟩
def Exc.same (a b : Exc) : Bool := decide (a.id = b.id ∧ a.why = b.why)
def intEq (a b : Int) : Bool := decide (a = b)
def Ses.same (a b : Ses) : Bool := decide (a.id = b.id ∧ a.zone = b.zone ∧ a.plate = b.plate ∧ a.fr = b.fr ∧ a.til = b.til ∧ a.state = b.state) && sameL intEq a.seen b.seen
def parEq (a b : Par) : Bool := decide (ordP a b = 0)
def shortB (p : Par) : Bool := decide (p.zone.length ≤ 40 ∧ p.plate.length ≤ 40)
def fewB (l : List Par) : Bool := l.all shortB && decide (l.length ≤ 40)
def fewZ1 (z : Zon) : Bool := decide (z.name.length ≤ 40 ∧ z.hrs.length ≤ 40 ∧ z.sts.length ≤ 20)
def fewZB (l : List Zon) : Bool := l.all fewZ1 && decide (l.length ≤ 8)

def encEs2 (p : (Bool × List Exc) × Bool × List Exc) : List PA := [.c (.sl p.1.1 (p.1.2.map Exc.row)), .c (.sl p.2.1 (p.2.2.map Exc.row))]
theorem encEs2_inj (a b : (Bool × List Exc) × Bool × List Exc) (h : encEs2 a = encEs2 b) : a = b := by
  obtain ⟨⟨a1, a2⟩, a3, a4⟩ := a
  obtain ⟨⟨b1, b2⟩, b3, b4⟩ := b
  simp [encEs2, mapEx_inj] at h
  simp [h]
def encSs2 (p : (Bool × List Ses) × Bool × List Ses) : List PA := [.c (.sl p.1.1 (p.1.2.map Ses.row)), .c (.sl p.2.1 (p.2.2.map Ses.row))]
theorem encSs2_inj (a b : (Bool × List Ses) × Bool × List Ses) (h : encSs2 a = encSs2 b) : a = b := by
  obtain ⟨⟨a1, a2⟩, a3, a4⟩ := a
  obtain ⟨⟨b1, b2⟩, b3, b4⟩ := b
  simp [encSs2, mapS_inj] at h
  simp [h]
def encSS (p : Ses × Ses) : List PA := [.agg p.1.row, .agg p.2.row]
theorem encSS_inj (a b : Ses × Ses) (h : encSS a = encSS b) : a = b := by
  obtain ⟨a1, a2⟩ := a
  obtain ⟨b1, b2⟩ := b
  simp [encSS] at h
  simp [Ses.inj a1 b1 h.1, Ses.inj a2 b2 h.2]
def encZs (p : Bool × List Zon) : List PA := [.c (.sl p.1 (p.2.map Zon.row))]
theorem encZs_inj (a b : Bool × List Zon) (h : encZs a = encZs b) : a = b := by
  obtain ⟨a1, a2⟩ := a
  obtain ⟨b1, b2⟩ := b
  simpa [encZs, mapZn_inj] using h

theorem lenEx {l : List Exc} : ((l.map Exc.row).length : Int) = l.length := by simp
theorem ex_at {l : List Exc} {j : Nat} (h : j < l.length) : (l.map Exc.row)[j]? = some [.str l[j].id, .int .i64 l[j].why] := by simp [h, Exc.row]
theorem lenSs {l : List Ses} : ((l.map Ses.row).length : Int) = l.length := by simp
theorem ss_at {l : List Ses} {j : Nat} (h : j < l.length) : (l.map Ses.row)[j]? = some [.str l[j].id, .str l[j].zone, .str l[j].plate, .int .i64 l[j].fr, .int .i64 l[j].til, .int .i64 l[j].state, .sl l[j].sf (l[j].seen.map rowI)] := by simp [h, Ses.row]
theorem lenIs {l : List Int} : ((l.map rowI).length : Int) = l.length := by simp
theorem is_at {l : List Int} {j : Nat} (h : j < l.length) : (l.map rowI)[j]? = some [.int .i64 l[j]] := by simp [h, rowI]

noncomputable section
open Classical

def sameEv_m : List PA → Option (List PA) := mE encPs2 fun p => if parsOk p.1.2 ∧ parsOk p.2.2 then some [.b (sameL parEq p.1.2 p.2.2)] else none
def sameEx_m : List PA → Option (List PA) := mE encEs2 fun p => if decide (p.1.2.length ≤ 1000000000) = true then some [.b (sameL Exc.same p.1.2 p.2.2)] else none
def sameSe_m : List PA → Option (List PA) := mE encSS fun p => if decide (p.1.seen.length ≤ 1000000000) = true then some [.b (Ses.same p.1 p.2)] else none
def sameSs_m : List PA → Option (List PA) := mE encSs2 fun p => if p.1.2.length ≤ 1000000000 ∧ ∀ x ∈ p.1.2, x.seen.length ≤ 1000000000 then some [.b (sameL Ses.same p.1.2 p.2.2)] else none
def shortP_m : List PA → Option (List PA) := mE encP fun p => some [.b (shortB p)]
def fewP_m : List PA → Option (List PA) := mE encPs fun p => if decide (p.2.length ≤ 9223372036854775807) = true then some [.b (fewB p.2)] else none
def fewZs_m : List PA → Option (List PA) := mE encZs fun p => if decide (p.2.length ≤ 9223372036854775807) = true then some [.b (fewZB p.2)] else none

theorem sameEv_ok : PureC Tryz.prog Gt 30 sameEv_m := by
  refine pure_of_awp (X := ctx Tryz.prog Gt [(59, rcmp_m)]) Tryz.func30 rfl rfl (by kernel_rfl) (by kernel_rfl) (AllOk.cons rcmp_ok AllOk.nil).kok ?_
  intro args r h0
  obtain ⟨⟨⟨f, l⟩, g, k⟩, rfl, h⟩ := mE_inv h0
  refine ⟨Nat.le_of_ble_eq_true rfl, ?_⟩
  split at h
  · rename_i hl
    obtain ⟨⟨a1, a2⟩, b1, b2⟩ := hl
    dsimp only at a1 a2 b1 b2 h
    cases h
    have l1 := @lenPr l
    have l2 := @lenPr k
    by_cases c1 : l.length ≠ k.length
    · have c1' : ¬ ((l.length : Int) = (k.length : Int)) := by omega
      rw [sameL_len c1]
      have hc := Nat.zero_add 0
      repeat' (first | simp only [hc, Tryz.f30, encPs2, SX, l1, l2, c1', AB, PL, RG, LP, TY, simprocAttr, ↓reduceIte, forall_const, eq_self, ne_eq, Option.some.injEq, beq_self_eq_true] | ((first | apply fin_ndec | apply fin_dec | apply cnd_ndec | apply cnd_dec' | apply fin_nsplit | apply fin_split | apply cnd_nsplit | apply cnd_split) <;> intro hc) | refine blk_exit_id ?_)
      all_goals simp [DV.b]
    have c1 : l.length = k.length := by simpa using c1
    have c1' : ((l.length : Int) = (k.length : Int)) := by omega
    generalize hR : sameL parEq l k = R at *
    have hc := Nat.zero_add 0
    repeat' (first | simp only [hc, Tryz.f30, encPs2, SX, l1, l2, c1', AB, PL, RG, LP, TY, simprocAttr, ↓reduceIte, forall_const, eq_self, ne_eq, Option.some.injEq, beq_self_eq_true] | ((first | apply fin_ndec | apply fin_dec | apply cnd_ndec | apply cnd_dec' | apply fin_nsplit | apply fin_split | apply cnd_nsplit | apply cnd_split) <;> intro hc) | refine blk_exit_id ?_)
    refine awp_loop (σ := Nat) (fun j => j ≤ l.length ∧ R = sameL parEq (l.drop j) (k.drop j)) (fun j => ⟨[(5, AV.i j), (0, AV.d (.sl f (l.map Par.row))), (1, AV.d (.sl g (k.map Par.row)))], []⟩) (fun j => l.length - j) 0 (Wk.sub' (by simp [subT, look]) rfl) (by simp [hR]) ?_
    rintro j ⟨hj, hout⟩
    by_cases hjl : j < l.length
    · have hjk : j < k.length := by omega
      have hlt : ((j : Int) < (l.length : Int)) = True := eq_true (by omega)
      have hlt' : ((j : Int) < (k.length : Int)) = True := eq_true (by omega)
      have hw := wI (n := (j : Int) + 1) (by omega) (by omega)
      have e1 := pr_at hjl
      have e2 := pr_at hjk
      rw [sameL_drop hjl hjk] at hout
      have f1 := rcmp_at (a2 _ (List.getElem_mem hjl)) (b2 _ (List.getElem_mem hjk))
      rw [show parEq l[j] k[j] = decide (ordP l[j] k[j] = 0) from rfl] at hout
      simp only [Par.row] at f1
      generalize ordP l[j] k[j] = o at *
      generalize l[j] = x at *
      generalize k[j] = y at *
      by_cases c2 : o = 0
      · rw [decide_eq_true c2, Bool.true_and] at hout
        have hc := Nat.zero_add 0
        repeat' (first | simp only [hc, SX, l1, l2, hlt, hlt', nn, hw, e1, e2, f1, c2, AB, PL, RG, LP, TY, simprocAttr, ↓reduceIte, forall_const, eq_self, ne_eq, Option.some.injEq, beq_self_eq_true] | ((first | apply fin_ndec | apply fin_dec | apply cnd_ndec | apply cnd_dec' | apply fin_nsplit | apply fin_split | apply cnd_nsplit | apply cnd_split) <;> intro hc) | refine blk_exit_id ?_)
        exact lp_next (j + 1) (Wk.sub' (by simp [subT, look]) rfl) ⟨by omega, hout⟩ (by omega)
      · rw [decide_eq_false c2, Bool.false_and] at hout
        have hc := Nat.zero_add 0
        repeat' (first | simp only [hc, SX, l1, l2, hlt, hlt', nn, e1, e2, f1, c2, AB, PL, RG, LP, TY, simprocAttr, ↓reduceIte, forall_const, eq_self, ne_eq, Option.some.injEq, beq_self_eq_true] | ((first | apply fin_ndec | apply fin_dec | apply cnd_ndec | apply cnd_dec' | apply fin_nsplit | apply fin_split | apply cnd_nsplit | apply cnd_split) <;> intro hc) | refine blk_exit_id ?_)
        all_goals simp [hout, DV.b]
    · have hlt : ((j : Int) < (l.length : Int)) = False := eq_false (by omega)
      have hlt' : ((j : Int) < (k.length : Int)) = False := eq_false (by omega)
      rw [sameL_end hjl (by omega)] at hout
      have hc := Nat.zero_add 0
      repeat' (first | simp only [hc, SX, l1, l2, c1', hlt, hlt', AB, PL, RG, LP, TY, simprocAttr, ↓reduceIte, forall_const, eq_self, ne_eq, Option.some.injEq, beq_self_eq_true] | ((first | apply fin_ndec | apply fin_dec | apply cnd_ndec | apply cnd_dec' | apply fin_nsplit | apply fin_split | apply cnd_nsplit | apply cnd_split) <;> intro hc) | refine blk_exit_id ?_)
      all_goals simp [hout, DV.b]
  · cases h

theorem sameEx_ok : PureC Tryz.prog Gt 17 sameEx_m := by
  refine pure_of_awp (X := ctx Tryz.prog Gt []) Tryz.func17 rfl rfl (by kernel_rfl) (by kernel_rfl) AllOk.nil.kok ?_
  intro args r h0
  obtain ⟨⟨⟨f, l⟩, g, k⟩, rfl, h⟩ := mE_inv h0
  refine ⟨Nat.le_of_ble_eq_true rfl, ?_⟩
  split at h
  · rename_i hl
    have a1 := of_decide_eq_true hl
    dsimp only at a1 h
    cases h
    have l1 := @lenEx l
    have l2 := @lenEx k
    by_cases c1 : l.length ≠ k.length
    · have c1' : ¬ ((l.length : Int) = (k.length : Int)) := by omega
      rw [sameL_len c1]
      have hc := Nat.zero_add 0
      repeat' (first | simp only [hc, Tryz.f17, encEs2, SX, l1, l2, c1', AB, PL, RG, LP, TY, simprocAttr, ↓reduceIte, forall_const, eq_self, ne_eq, Option.some.injEq, beq_self_eq_true] | ((first | apply fin_ndec | apply fin_dec | apply cnd_ndec | apply cnd_dec' | apply fin_nsplit | apply fin_split | apply cnd_nsplit | apply cnd_split) <;> intro hc) | refine blk_exit_id ?_)
      all_goals simp [DV.b]
    have c1 : l.length = k.length := by simpa using c1
    have c1' : ((l.length : Int) = (k.length : Int)) := by omega
    generalize hR : sameL Exc.same l k = R at *
    have hc := Nat.zero_add 0
    repeat' (first | simp only [hc, Tryz.f17, encEs2, SX, l1, l2, c1', AB, PL, RG, LP, TY, simprocAttr, ↓reduceIte, forall_const, eq_self, ne_eq, Option.some.injEq, beq_self_eq_true] | ((first | apply fin_ndec | apply fin_dec | apply cnd_ndec | apply cnd_dec' | apply fin_nsplit | apply fin_split | apply cnd_nsplit | apply cnd_split) <;> intro hc) | refine blk_exit_id ?_)
    refine awp_loop (σ := Nat) (fun j => j ≤ l.length ∧ R = sameL Exc.same (l.drop j) (k.drop j)) (fun j => ⟨[(5, AV.i j), (0, AV.d (.sl f (l.map Exc.row))), (1, AV.d (.sl g (k.map Exc.row)))], []⟩) (fun j => l.length - j) 0 (Wk.sub' (by simp [subT, look]) rfl) (by simp [hR]) ?_
    rintro j ⟨hj, hout⟩
    by_cases hjl : j < l.length
    · have hjk : j < k.length := by omega
      have hlt : ((j : Int) < (l.length : Int)) = True := eq_true (by omega)
      have hlt' : ((j : Int) < (k.length : Int)) = True := eq_true (by omega)
      have hw := wI (n := (j : Int) + 1) (by omega) (by omega)
      have e1 := ex_at hjl
      have e2 := ex_at hjk
      rw [sameL_drop hjl hjk] at hout
      rw [show Exc.same l[j] k[j] = decide (l[j].id = k[j].id ∧ l[j].why = k[j].why) from rfl] at hout
      generalize l[j] = x at *
      generalize k[j] = y at *
      by_cases c2 : x.id = y.id
      · have c2' : (x.id == y.id) = true := by simpa using c2
        by_cases c3 : x.why = y.why
        · rw [decide_eq_true ⟨c2, c3⟩, Bool.true_and] at hout
          have hc := Nat.zero_add 0
          repeat' (first | simp only [hc, SX, l1, l2, hlt, hlt', nn, hw, e1, e2, c2', c3, bne, AB, PL, RG, LP, TY, simprocAttr, ↓reduceIte, forall_const, eq_self, ne_eq, Option.some.injEq, beq_self_eq_true] | ((first | apply fin_ndec | apply fin_dec | apply cnd_ndec | apply cnd_dec' | apply fin_nsplit | apply fin_split | apply cnd_nsplit | apply cnd_split) <;> intro hc) | refine blk_exit_id ?_)
          exact lp_next (j + 1) (Wk.sub' (by simp [subT, look]) rfl) ⟨by omega, hout⟩ (by omega)
        · rw [decide_eq_false (fun h => c3 h.2), Bool.false_and] at hout
          have hc := Nat.zero_add 0
          repeat' (first | simp only [hc, SX, l1, l2, hlt, hlt', nn, e1, e2, c2', c3, bne, AB, PL, RG, LP, TY, simprocAttr, ↓reduceIte, forall_const, eq_self, ne_eq, Option.some.injEq, beq_self_eq_true] | ((first | apply fin_ndec | apply fin_dec | apply cnd_ndec | apply cnd_dec' | apply fin_nsplit | apply fin_split | apply cnd_nsplit | apply cnd_split) <;> intro hc) | refine blk_exit_id ?_)
          all_goals simp [hout, DV.b]
      · have c2' : (x.id == y.id) = false := by simpa using c2
        rw [decide_eq_false (fun h => c2 h.1), Bool.false_and] at hout
        have hc := Nat.zero_add 0
        repeat' (first | simp only [hc, SX, l1, l2, hlt, hlt', nn, e1, e2, c2', bne, AB, PL, RG, LP, TY, simprocAttr, ↓reduceIte, forall_const, eq_self, ne_eq, Option.some.injEq, beq_self_eq_true] | ((first | apply fin_ndec | apply fin_dec | apply cnd_ndec | apply cnd_dec' | apply fin_nsplit | apply fin_split | apply cnd_nsplit | apply cnd_split) <;> intro hc) | refine blk_exit_id ?_)
        all_goals simp [hout, DV.b]
    · have hlt : ((j : Int) < (l.length : Int)) = False := eq_false (by omega)
      have hlt' : ((j : Int) < (k.length : Int)) = False := eq_false (by omega)
      rw [sameL_end hjl (by omega)] at hout
      have hc := Nat.zero_add 0
      repeat' (first | simp only [hc, SX, l1, l2, c1', hlt, hlt', AB, PL, RG, LP, TY, simprocAttr, ↓reduceIte, forall_const, eq_self, ne_eq, Option.some.injEq, beq_self_eq_true] | ((first | apply fin_ndec | apply fin_dec | apply cnd_ndec | apply cnd_dec' | apply fin_nsplit | apply fin_split | apply cnd_nsplit | apply cnd_split) <;> intro hc) | refine blk_exit_id ?_)
      all_goals simp [hout, DV.b]
  · cases h

theorem sameSe_ok : PureC Tryz.prog Gt 41 sameSe_m := by
  refine pure_of_awp (X := ctx Tryz.prog Gt []) Tryz.func41 rfl rfl (by kernel_rfl) (by kernel_rfl) AllOk.nil.kok ?_
  intro args r h0
  obtain ⟨⟨⟨i1, z1, p1, f1, t1, s1, g1, l⟩, ⟨i2, z2, p2, f2, t2, s2, g2, k⟩⟩, rfl, h⟩ := mE_inv h0
  refine ⟨Nat.le_of_ble_eq_true rfl, ?_⟩
  split at h
  · rename_i hl
    have a1 := of_decide_eq_true hl
    dsimp only at a1 h
    cases h
    have l1 := @lenIs l
    have l2 := @lenIs k
    have hS : Ses.same ⟨i1, z1, p1, f1, t1, s1, g1, l⟩ ⟨i2, z2, p2, f2, t2, s2, g2, k⟩ = (decide (i1 = i2 ∧ z1 = z2 ∧ p1 = p2 ∧ f1 = f2 ∧ t1 = t2 ∧ s1 = s2) && sameL intEq l k) := rfl
    rw [hS]
    by_cases c1 : i1 = i2
    rotate_left
    · have c1' : (i1 == i2) = false := by simpa using c1
      rw [decide_eq_false (by simp [c1]), Bool.false_and]
      have hc := Nat.zero_add 0
      repeat' (first | simp only [hc, Tryz.f41, encSS, Ses.row, SX, bne, c1', AB, PL, RG, LP, TY, simprocAttr, ↓reduceIte, forall_const, eq_self, ne_eq, Option.some.injEq, beq_self_eq_true] | ((first | apply fin_ndec | apply fin_dec | apply cnd_ndec | apply cnd_dec' | apply fin_nsplit | apply fin_split | apply cnd_nsplit | apply cnd_split) <;> intro hc) | refine blk_exit_id ?_)
      all_goals simp [DV.b]
    have c1' : (i1 == i2) = true := by simpa using c1
    by_cases c2 : z1 = z2
    rotate_left
    · have c2' : (z1 == z2) = false := by simpa using c2
      rw [decide_eq_false (by simp [c2]), Bool.false_and]
      have hc := Nat.zero_add 0
      repeat' (first | simp only [hc, Tryz.f41, encSS, Ses.row, SX, bne, c1', c2', AB, PL, RG, LP, TY, simprocAttr, ↓reduceIte, forall_const, eq_self, ne_eq, Option.some.injEq, beq_self_eq_true] | ((first | apply fin_ndec | apply fin_dec | apply cnd_ndec | apply cnd_dec' | apply fin_nsplit | apply fin_split | apply cnd_nsplit | apply cnd_split) <;> intro hc) | refine blk_exit_id ?_)
      all_goals simp [DV.b]
    have c2' : (z1 == z2) = true := by simpa using c2
    by_cases c3 : p1 = p2
    rotate_left
    · have c3' : (p1 == p2) = false := by simpa using c3
      rw [decide_eq_false (by simp [c3]), Bool.false_and]
      have hc := Nat.zero_add 0
      repeat' (first | simp only [hc, Tryz.f41, encSS, Ses.row, SX, bne, c1', c2', c3', AB, PL, RG, LP, TY, simprocAttr, ↓reduceIte, forall_const, eq_self, ne_eq, Option.some.injEq, beq_self_eq_true] | ((first | apply fin_ndec | apply fin_dec | apply cnd_ndec | apply cnd_dec' | apply fin_nsplit | apply fin_split | apply cnd_nsplit | apply cnd_split) <;> intro hc) | refine blk_exit_id ?_)
      all_goals simp [DV.b]
    have c3' : (p1 == p2) = true := by simpa using c3
    by_cases c4 : f1 = f2
    rotate_left
    · rw [decide_eq_false (by simp [c4]), Bool.false_and]
      have hc := Nat.zero_add 0
      repeat' (first | simp only [hc, Tryz.f41, encSS, Ses.row, SX, bne, c1', c2', c3', c4, AB, PL, RG, LP, TY, simprocAttr, ↓reduceIte, forall_const, eq_self, ne_eq, Option.some.injEq, beq_self_eq_true] | ((first | apply fin_ndec | apply fin_dec | apply cnd_ndec | apply cnd_dec' | apply fin_nsplit | apply fin_split | apply cnd_nsplit | apply cnd_split) <;> intro hc) | refine blk_exit_id ?_)
      all_goals simp [DV.b]
    by_cases c5 : t1 = t2
    rotate_left
    · rw [decide_eq_false (by simp [c5]), Bool.false_and]
      have hc := Nat.zero_add 0
      repeat' (first | simp only [hc, Tryz.f41, encSS, Ses.row, SX, bne, c1', c2', c3', c4, c5, AB, PL, RG, LP, TY, simprocAttr, ↓reduceIte, forall_const, eq_self, ne_eq, Option.some.injEq, beq_self_eq_true] | ((first | apply fin_ndec | apply fin_dec | apply cnd_ndec | apply cnd_dec' | apply fin_nsplit | apply fin_split | apply cnd_nsplit | apply cnd_split) <;> intro hc) | refine blk_exit_id ?_)
      all_goals simp [DV.b]
    by_cases c6 : s1 = s2
    rotate_left
    · rw [decide_eq_false (by simp [c6]), Bool.false_and]
      have hc := Nat.zero_add 0
      repeat' (first | simp only [hc, Tryz.f41, encSS, Ses.row, SX, bne, c1', c2', c3', c4, c5, c6, AB, PL, RG, LP, TY, simprocAttr, ↓reduceIte, forall_const, eq_self, ne_eq, Option.some.injEq, beq_self_eq_true] | ((first | apply fin_ndec | apply fin_dec | apply cnd_ndec | apply cnd_dec' | apply fin_nsplit | apply fin_split | apply cnd_nsplit | apply cnd_split) <;> intro hc) | refine blk_exit_id ?_)
      all_goals simp [DV.b]
    rw [decide_eq_true ⟨c1, c2, c3, c4, c5, c6⟩, Bool.true_and]
    by_cases c7 : l.length ≠ k.length
    · have c7' : ¬ ((l.length : Int) = (k.length : Int)) := by omega
      rw [sameL_len c7]
      have hc := Nat.zero_add 0
      repeat' (first | simp only [hc, Tryz.f41, encSS, Ses.row, SX, bne, c1', c2', c3', c4, c5, c6, l1, l2, c7', AB, PL, RG, LP, TY, simprocAttr, ↓reduceIte, forall_const, eq_self, ne_eq, Option.some.injEq, beq_self_eq_true] | ((first | apply fin_ndec | apply fin_dec | apply cnd_ndec | apply cnd_dec' | apply fin_nsplit | apply fin_split | apply cnd_nsplit | apply cnd_split) <;> intro hc) | refine blk_exit_id ?_)
      all_goals simp [DV.b]
    have c7 : l.length = k.length := by simpa using c7
    have c7' : ((l.length : Int) = (k.length : Int)) := by omega
    generalize hR : sameL intEq l k = R at *
    have hc := Nat.zero_add 0
    repeat' (first | simp only [hc, Tryz.f41, encSS, Ses.row, SX, bne, c1', c2', c3', c4, c5, c6, l1, l2, c7', AB, PL, RG, LP, TY, simprocAttr, ↓reduceIte, forall_const, eq_self, ne_eq, Option.some.injEq, beq_self_eq_true] | ((first | apply fin_ndec | apply fin_dec | apply cnd_ndec | apply cnd_dec' | apply fin_nsplit | apply fin_split | apply cnd_nsplit | apply cnd_split) <;> intro hc) | refine blk_exit_id ?_)
    refine awp_loop (σ := Nat) (fun j => j ≤ l.length ∧ R = sameL intEq (l.drop j) (k.drop j)) (fun j => ⟨[(5, AV.i j), (2, .v (.c (.ptr 0 0))), (3, .v (.c (.ptr 1 0)))], [.box [.d (.str i1), .d (.str z1), .d (.str p1), .d (.int .i64 f1), .d (.int .i64 t1), .d (.int .i64 s1), .d (.sl g1 (l.map rowI))], .box [.d (.str i2), .d (.str z2), .d (.str p2), .d (.int .i64 f2), .d (.int .i64 t2), .d (.int .i64 s2), .d (.sl g2 (k.map rowI))]]⟩) (fun j => l.length - j) 0 (Wk.sub' (by simp [subT, look]) (by simp [c4, c5, c6])) (by simp [hR]) ?_
    rintro j ⟨hj, hout⟩
    by_cases hjl : j < l.length
    · have hjk : j < k.length := by omega
      have hlt : ((j : Int) < (l.length : Int)) = True := eq_true (by omega)
      have hlt' : ((j : Int) < (k.length : Int)) = True := eq_true (by omega)
      have hw := wI (n := (j : Int) + 1) (by omega) (by omega)
      have e1 := is_at hjl
      have e2 := is_at hjk
      rw [sameL_drop hjl hjk, show intEq l[j] k[j] = decide (l[j] = k[j]) from rfl] at hout
      generalize l[j] = x at *
      generalize k[j] = y at *
      by_cases c8 : x = y
      · rw [decide_eq_true c8, Bool.true_and] at hout
        have hc := Nat.zero_add 0
        repeat' (first | simp only [hc, SX, l1, l2, hlt, hlt', nn, hw, e1, e2, c8, AB, PL, RG, LP, TY, simprocAttr, ↓reduceIte, forall_const, eq_self, ne_eq, Option.some.injEq, beq_self_eq_true] | ((first | apply fin_ndec | apply fin_dec | apply cnd_ndec | apply cnd_dec' | apply fin_nsplit | apply fin_split | apply cnd_nsplit | apply cnd_split) <;> intro hc) | refine blk_exit_id ?_)
        exact lp_next (j + 1) (Wk.sub' (by simp [subT, look]) rfl) ⟨by omega, hout⟩ (by omega)
      · rw [decide_eq_false c8, Bool.false_and] at hout
        have hc := Nat.zero_add 0
        repeat' (first | simp only [hc, SX, l1, l2, hlt, hlt', nn, e1, e2, c8, AB, PL, RG, LP, TY, simprocAttr, ↓reduceIte, forall_const, eq_self, ne_eq, Option.some.injEq, beq_self_eq_true] | ((first | apply fin_ndec | apply fin_dec | apply cnd_ndec | apply cnd_dec' | apply fin_nsplit | apply fin_split | apply cnd_nsplit | apply cnd_split) <;> intro hc) | refine blk_exit_id ?_)
        all_goals simp [hout, DV.b]
    · have hlt : ((j : Int) < (l.length : Int)) = False := eq_false (by omega)
      have hlt' : ((j : Int) < (k.length : Int)) = False := eq_false (by omega)
      rw [sameL_end hjl (by omega)] at hout
      have hc := Nat.zero_add 0
      repeat' (first | simp only [hc, SX, l1, l2, c7', hlt, hlt', AB, PL, RG, LP, TY, simprocAttr, ↓reduceIte, forall_const, eq_self, ne_eq, Option.some.injEq, beq_self_eq_true] | ((first | apply fin_ndec | apply fin_dec | apply cnd_ndec | apply cnd_dec' | apply fin_nsplit | apply fin_split | apply cnd_nsplit | apply cnd_split) <;> intro hc) | refine blk_exit_id ?_)
      all_goals simp [hout, DV.b]
  · cases h
theorem sameSe_at {a b : Ses} (h : a.seen.length ≤ 1000000000) : sameSe_m [.agg a.row, .agg b.row] = some [.b (Ses.same a b)] := by
  have := mE_eq encSS_inj (g := fun p => if decide (p.1.seen.length ≤ 1000000000) = true then some [.b (Ses.same p.1 p.2)] else none) (a := (a, b))
  exact this.trans (if_pos (by simpa using h))

theorem sameSs_ok : PureC Tryz.prog Gt 13 sameSs_m := by
  refine pure_of_awp (X := ctx Tryz.prog Gt [(41, sameSe_m)]) Tryz.func13 rfl rfl (by kernel_rfl) (by kernel_rfl) (AllOk.cons sameSe_ok AllOk.nil).kok ?_
  intro args r h0
  obtain ⟨⟨⟨f, l⟩, g, k⟩, rfl, h⟩ := mE_inv h0
  refine ⟨Nat.le_of_ble_eq_true rfl, ?_⟩
  split at h
  · rename_i hl
    obtain ⟨a1, a2⟩ := hl
    dsimp only at a1 a2 h
    cases h
    have l1 := @lenSs l
    have l2 := @lenSs k
    by_cases c1 : l.length ≠ k.length
    · have c1' : ¬ ((l.length : Int) = (k.length : Int)) := by omega
      rw [sameL_len c1]
      have hc := Nat.zero_add 0
      repeat' (first | simp only [hc, Tryz.f13, encSs2, SX, l1, l2, c1', AB, PL, RG, LP, TY, simprocAttr, ↓reduceIte, forall_const, eq_self, ne_eq, Option.some.injEq, beq_self_eq_true] | ((first | apply fin_ndec | apply fin_dec | apply cnd_ndec | apply cnd_dec' | apply fin_nsplit | apply fin_split | apply cnd_nsplit | apply cnd_split) <;> intro hc) | refine blk_exit_id ?_)
      all_goals simp [DV.b]
    have c1 : l.length = k.length := by simpa using c1
    have c1' : ((l.length : Int) = (k.length : Int)) := by omega
    generalize hR : sameL Ses.same l k = R at *
    have hc := Nat.zero_add 0
    repeat' (first | simp only [hc, Tryz.f13, encSs2, SX, l1, l2, c1', AB, PL, RG, LP, TY, simprocAttr, ↓reduceIte, forall_const, eq_self, ne_eq, Option.some.injEq, beq_self_eq_true] | ((first | apply fin_ndec | apply fin_dec | apply cnd_ndec | apply cnd_dec' | apply fin_nsplit | apply fin_split | apply cnd_nsplit | apply cnd_split) <;> intro hc) | refine blk_exit_id ?_)
    refine awp_loop (σ := Nat) (fun j => j ≤ l.length ∧ R = sameL Ses.same (l.drop j) (k.drop j)) (fun j => ⟨[(5, AV.i j), (0, AV.d (.sl f (l.map Ses.row))), (1, AV.d (.sl g (k.map Ses.row)))], []⟩) (fun j => l.length - j) 0 (Wk.sub' (by simp [subT, look]) rfl) (by simp [hR]) ?_
    rintro j ⟨hj, hout⟩
    by_cases hjl : j < l.length
    · have hjk : j < k.length := by omega
      have hlt : ((j : Int) < (l.length : Int)) = True := eq_true (by omega)
      have hlt' : ((j : Int) < (k.length : Int)) = True := eq_true (by omega)
      have hw := wI (n := (j : Int) + 1) (by omega) (by omega)
      have e1 := ss_at hjl
      have e2 := ss_at hjk
      rw [sameL_drop hjl hjk] at hout
      have f1 := sameSe_at (b := k[j]) (a2 _ (List.getElem_mem hjl))
      simp only [Ses.row] at f1
      generalize Ses.same l[j] k[j] = o at *
      generalize l[j] = x at *
      generalize k[j] = y at *
      cases o
      · rw [Bool.false_and] at hout
        have hc := Nat.zero_add 0
        repeat' (first | simp only [hc, SX, l1, l2, hlt, hlt', nn, e1, e2, f1, AB, PL, RG, LP, TY, simprocAttr, ↓reduceIte, forall_const, eq_self, ne_eq, Option.some.injEq, beq_self_eq_true] | ((first | apply fin_ndec | apply fin_dec | apply cnd_ndec | apply cnd_dec' | apply fin_nsplit | apply fin_split | apply cnd_nsplit | apply cnd_split) <;> intro hc) | refine blk_exit_id ?_)
        all_goals simp [hout, DV.b]
      · rw [Bool.true_and] at hout
        have hc := Nat.zero_add 0
        repeat' (first | simp only [hc, SX, l1, l2, hlt, hlt', nn, hw, e1, e2, f1, AB, PL, RG, LP, TY, simprocAttr, ↓reduceIte, forall_const, eq_self, ne_eq, Option.some.injEq, beq_self_eq_true] | ((first | apply fin_ndec | apply fin_dec | apply cnd_ndec | apply cnd_dec' | apply fin_nsplit | apply fin_split | apply cnd_nsplit | apply cnd_split) <;> intro hc) | refine blk_exit_id ?_)
        exact lp_next (j + 1) (Wk.sub' (by simp [subT, look]) rfl) ⟨by omega, hout⟩ (by omega)
    · have hlt : ((j : Int) < (l.length : Int)) = False := eq_false (by omega)
      have hlt' : ((j : Int) < (k.length : Int)) = False := eq_false (by omega)
      rw [sameL_end hjl (by omega)] at hout
      have hc := Nat.zero_add 0
      repeat' (first | simp only [hc, SX, l1, l2, c1', hlt, hlt', AB, PL, RG, LP, TY, simprocAttr, ↓reduceIte, forall_const, eq_self, ne_eq, Option.some.injEq, beq_self_eq_true] | ((first | apply fin_ndec | apply fin_dec | apply cnd_ndec | apply cnd_dec' | apply fin_nsplit | apply fin_split | apply cnd_nsplit | apply cnd_split) <;> intro hc) | refine blk_exit_id ?_)
      all_goals simp [hout, DV.b]
  · cases h

theorem shortP_ok : PureC Tryz.prog Gt 8 shortP_m := by
  refine pure_of_awp (X := ctx Tryz.prog Gt []) Tryz.func8 rfl rfl (by kernel_rfl) (by kernel_rfl) AllOk.nil.kok ?_
  intro args r h0
  obtain ⟨⟨kind, zone, plate, time, til⟩, rfl, h⟩ := mE_inv h0
  refine ⟨Nat.le_of_ble_eq_true rfl, ?_⟩
  cases h
  have hR : shortB ⟨kind, zone, plate, time, til⟩ = (decide ((zone.length : Int) ≤ 40) && decide ((plate.length : Int) ≤ 40)) := by
    rw [Bool.eq_iff_iff]; simp only [shortB, decide_eq_true_eq, Bool.and_eq_true]; omega
  rw [hR]
  by_cases c1 : (zone.length : Int) ≤ 40
  all_goals
    have hc := Nat.zero_add 0
    repeat' (first | simp only [hc, Tryz.f8, encP, Par.row, SX, c1, AB, PL, RG, LP, TY, simprocAttr, ↓reduceIte, forall_const, eq_self, ne_eq, Option.some.injEq, beq_self_eq_true] | ((first | apply fin_ndec | apply fin_dec | apply cnd_ndec | apply cnd_dec' | apply fin_nsplit | apply fin_split | apply cnd_nsplit | apply cnd_split) <;> intro hc) | refine blk_exit_id ?_)

  all_goals simp [c1, DV.b]
theorem shortP_at {p : Par} : shortP_m [.agg p.row] = some [.b (shortB p)] :=
  mE_eq encP_inj (g := fun p => some [.b (shortB p)]) (a := p)

theorem fewP_ok : PureC Tryz.prog Gt 14 fewP_m := by
  refine pure_of_awp (X := ctx Tryz.prog Gt [(8, shortP_m)]) Tryz.func14 rfl rfl (by kernel_rfl) (by kernel_rfl) (AllOk.cons shortP_ok AllOk.nil).kok ?_
  intro args r h0
  obtain ⟨⟨f, l⟩, rfl, h⟩ := mE_inv h0
  refine ⟨Nat.le_of_ble_eq_true rfl, ?_⟩
  split at h
  · rename_i hl
    have hl := of_decide_eq_true hl
    dsimp only at hl h
    cases h
    have l1 := @lenPr l
    have hR : fewB l = (l.all shortB && decide (l.length ≤ 40)) := rfl
    generalize fewB l = R at *
    have hc := Nat.zero_add 0
    repeat' (first | simp only [hc, Tryz.f14, encPs, SX, l1, AB, PL, RG, LP, TY, simprocAttr, ↓reduceIte, forall_const, eq_self, ne_eq, Option.some.injEq, beq_self_eq_true] | ((first | apply fin_ndec | apply fin_dec | apply cnd_ndec | apply cnd_dec' | apply fin_nsplit | apply fin_split | apply cnd_nsplit | apply cnd_split) <;> intro hc) | refine blk_exit_id ?_)
    refine awp_loop (σ := Nat) (fun j => j ≤ l.length ∧ (l.take j).all shortB = true) (fun j => ⟨[(3, AV.i j), (0, AV.d (.sl f (l.map Par.row)))], []⟩) (fun j => l.length - j) 0 (Wk.sub' (by simp [subT, look]) rfl) (by simp) ?_
    rintro j ⟨hj, hall⟩
    by_cases hjl : j < l.length
    · have hlt : ((j : Int) < (l.length : Int)) = True := eq_true (by omega)
      have hw := wI (n := (j : Int) + 1) (by omega) (by omega)
      have e1 := pr_at hjl
      have h1 := all_next (p := shortB) hjl hall
      have h2 := all_bad (p := shortB) hjl
      have f1 := @shortP_at l[j]
      simp only [Par.row] at f1
      generalize shortB l[j] = o at *
      generalize l[j] = x at *
      cases o
      · have hR : R = false := by rw [hR, h2 rfl]; rfl
        have hc := Nat.zero_add 0
        repeat' (first | simp only [hc, SX, l1, hlt, nn, e1, f1, AB, PL, RG, LP, TY, simprocAttr, ↓reduceIte, forall_const, eq_self, ne_eq, Option.some.injEq, beq_self_eq_true] | ((first | apply fin_ndec | apply fin_dec | apply cnd_ndec | apply cnd_dec' | apply fin_nsplit | apply fin_split | apply cnd_nsplit | apply cnd_split) <;> intro hc) | refine blk_exit_id ?_)
        all_goals simp [hR, DV.b]
      · skip
        have hc := Nat.zero_add 0
        repeat' (first | simp only [hc, SX, l1, hlt, nn, hw, e1, f1, AB, PL, RG, LP, TY, simprocAttr, ↓reduceIte, forall_const, eq_self, ne_eq, Option.some.injEq, beq_self_eq_true] | ((first | apply fin_ndec | apply fin_dec | apply cnd_ndec | apply cnd_dec' | apply fin_nsplit | apply fin_split | apply cnd_nsplit | apply cnd_split) <;> intro hc) | refine blk_exit_id ?_)
        exact lp_next (j + 1) (Wk.sub' (by simp [subT, look]) rfl) ⟨by omega, h1 rfl⟩ (by omega)
    · have hlt : ((j : Int) < (l.length : Int)) = False := eq_false (by omega)
      rw [List.take_of_length_le (by omega)] at hall
      have hR : R = decide ((l.length : Int) ≤ 40) := by rw [hR, hall, Bool.true_and]; congr 1; apply propext; omega
      have hc := Nat.zero_add 0
      repeat' (first | simp only [hc, SX, l1, hlt, AB, PL, RG, LP, TY, simprocAttr, ↓reduceIte, forall_const, eq_self, ne_eq, Option.some.injEq, beq_self_eq_true] | ((first | apply fin_ndec | apply fin_dec | apply cnd_ndec | apply cnd_dec' | apply fin_nsplit | apply fin_split | apply cnd_nsplit | apply cnd_split) <;> intro hc) | refine blk_exit_id ?_)
      all_goals simp [hR, DV.b]
  · cases h

theorem fewZs_ok : PureC Tryz.prog Gt 7 fewZs_m := by
  refine pure_of_awp (X := ctx Tryz.prog Gt []) Tryz.func7 rfl rfl (by kernel_rfl) (by kernel_rfl) AllOk.nil.kok ?_
  intro args r h0
  obtain ⟨⟨f, l⟩, rfl, h⟩ := mE_inv h0
  refine ⟨Nat.le_of_ble_eq_true rfl, ?_⟩
  split at h
  · rename_i hl
    have hl := of_decide_eq_true hl
    dsimp only at hl h
    cases h
    have l1 := @lenZn l
    have hR : fewZB l = (l.all fewZ1 && decide (l.length ≤ 8)) := rfl
    generalize fewZB l = R at *
    have hc := Nat.zero_add 0
    repeat' (first | simp only [hc, Tryz.f7, encZs, SX, l1, AB, PL, RG, LP, TY, simprocAttr, ↓reduceIte, forall_const, eq_self, ne_eq, Option.some.injEq, beq_self_eq_true] | ((first | apply fin_ndec | apply fin_dec | apply cnd_ndec | apply cnd_dec' | apply fin_nsplit | apply fin_split | apply cnd_nsplit | apply cnd_split) <;> intro hc) | refine blk_exit_id ?_)
    refine awp_loop (σ := Nat) (fun j => j ≤ l.length ∧ (l.take j).all fewZ1 = true) (fun j => ⟨[(3, AV.i j), (0, AV.d (.sl f (l.map Zon.row)))], []⟩) (fun j => l.length - j) 0 (Wk.sub' (by simp [subT, look]) rfl) (by simp) ?_
    rintro j ⟨hj, hall⟩
    by_cases hjl : j < l.length
    · have hlt : ((j : Int) < (l.length : Int)) = True := eq_true (by omega)
      have hw := wI (n := (j : Int) + 1) (by omega) (by omega)
      have e1 := zn_at hjl
      have h1 := all_next (p := fewZ1) hjl hall
      have h2 := all_bad (p := fewZ1) hjl
      have h3 : fewZ1 l[j] = decide (l[j].name.length ≤ 40 ∧ l[j].hrs.length ≤ 40 ∧ l[j].sts.length ≤ 20) := rfl
      have m2 := @lenWn l[j].hrs
      have m3 := @lenSt l[j].sts
      rw [h3] at h1 h2
      generalize l[j] = x at *
      by_cases c1 : x.name.length ≤ 40 ∧ x.hrs.length ≤ 40 ∧ x.sts.length ≤ 20
      · have d1 : ¬ ((40 : Int) < x.name.length) := by omega
        have d2 : ¬ ((40 : Int) < x.hrs.length) := by omega
        have d3 : ¬ ((20 : Int) < x.sts.length) := by omega
        have hc := Nat.zero_add 0
        repeat' (first | simp only [hc, SX, l1, hlt, nn, hw, e1, m2, m3, d1, d2, d3, AB, PL, RG, LP, TY, simprocAttr, ↓reduceIte, forall_const, eq_self, ne_eq, Option.some.injEq, beq_self_eq_true] | ((first | apply fin_ndec | apply fin_dec | apply cnd_ndec | apply cnd_dec' | apply fin_nsplit | apply fin_split | apply cnd_nsplit | apply cnd_split) <;> intro hc) | refine blk_exit_id ?_)
        exact lp_next (j + 1) (Wk.sub' (by simp [subT, look]) rfl) ⟨by omega, h1 (decide_eq_true c1)⟩ (by omega)
      · have hR : R = false := by rw [hR, h2 (decide_eq_false c1)]; rfl
        have hc := Nat.zero_add 0
        repeat' (first | simp only [hc, SX, l1, hlt, nn, hw, e1, m2, m3, AB, PL, RG, LP, TY, simprocAttr, ↓reduceIte, forall_const, eq_self, ne_eq, Option.some.injEq, beq_self_eq_true] | ((first | apply fin_ndec | apply fin_dec | apply cnd_ndec | apply cnd_dec' | apply fin_nsplit | apply fin_split | apply cnd_nsplit | apply cnd_split) <;> intro hc) | refine blk_exit_id ?_)
        all_goals first
          | (exfalso; omega)
          | (simp [hR, DV.b]; done)
    · have hlt : ((j : Int) < (l.length : Int)) = False := eq_false (by omega)
      rw [List.take_of_length_le (by omega)] at hall
      have hR : R = decide ((l.length : Int) ≤ 8) := by rw [hR, hall, Bool.true_and]; congr 1; apply propext; omega
      have hc := Nat.zero_add 0
      repeat' (first | simp only [hc, SX, l1, hlt, AB, PL, RG, LP, TY, simprocAttr, ↓reduceIte, forall_const, eq_self, ne_eq, Option.some.injEq, beq_self_eq_true] | ((first | apply fin_ndec | apply fin_dec | apply cnd_ndec | apply cnd_dec' | apply fin_nsplit | apply fin_split | apply cnd_nsplit | apply cnd_split) <;> intro hc) | refine blk_exit_id ?_)
      all_goals simp [hR, DV.b]
  · cases h

end
end Go.Ab
