/-
  Texts of the layer and of the laws, put together: AbA36, AbA37, AbA38. No law is stated here.
-/
import Derived.Test.YtckjmdppjealdaaGreatDoorAbVol34
import Derived.Test.YtckjmdppjealdaaGreatDoorAbVol15
set_option linter.unusedSimpArgs false
set_option linter.unusedVariables false
set_option maxRecDepth 100000

/-
  Agency, the reference's reading: an amount; keys in a list, laid in order; what fits.
-/
namespace Go.Ab
open Go.RowKit Go.Proofs

def fitB (x : Rec) : Bool := decide (-1125899906842624 ≤ x.cents ∧ x.cents ≤ 1125899906842624)
def fitsB (l : List Rec) : Bool := decide (l.length ≤ 60) && l.all fitB
theorem all_badA {α : Type} {l : List α} {p : α → Bool} {j : Nat} (hj : j < l.length) (hx : p l[j] = false) : l.all p = false := by
  rw [← Bool.not_eq_true, List.all_eq_true]
  intro h
  rw [h _ (List.getElem_mem hj)] at hx
  cases hx
theorem lenS {l : List (List UInt8)} : ((l.map rowS).length : Int) = l.length := by simp
theorem s_at {l : List (List UInt8)} {j : Nat} (h : j < l.length) : (l.map rowS)[j]? = some [.str l[j]] := by simp [h, rowS]
def encLS (p : (Bool × List (List UInt8)) × List UInt8) : List PA := [.c (.sl p.1.1 (p.1.2.map rowS)), .c (.str p.2)]
theorem encLS_inj (a b : (Bool × List (List UInt8)) × List UInt8) (h : encLS a = encLS b) : a = b := by
  obtain ⟨⟨a1, a2⟩, a3⟩ := a
  obtain ⟨⟨b1, b2⟩, b3⟩ := b
  simp only [encLS, List.cons.injEq, DV.c.injEq, D.sl.injEq, D.str.injEq, and_true] at h
  obtain ⟨⟨h1, h2⟩, h3⟩ := h
  have : a2 = b2 := map_inj (fun x y h => by simpa [rowS] using h) h2
  rw [h1, this, h3]
def encRs (p : Bool × List Rec) : List PA := [.c (.sl p.1 (p.2.map Rec.row))]
theorem encRs_inj (a b : Bool × List Rec) (h : encRs a = encRs b) : a = b := by
  obtain ⟨a1, a2⟩ := a
  obtain ⟨b1, b2⟩ := b
  simpa [encRs, mapR_inj] using h

noncomputable section
open Classical

def ramt_m : List PA → Option (List PA) := mE encRK fun p => if decide (p.1.2.length ≤ 9223372036854775807) = true then some [.i (amtF p.2 0 p.1.2)] else none
def rbefL_m : List PA → Option (List PA) := mss fun a b => if decide (a.length ≤ 9223372036854775807 ∧ b.length ≤ 9223372036854775807) = true then some [.b (befB a b)] else none
def hast_m : List PA → Option (List PA) := mE encLS fun p => if decide (p.1.2.length ≤ 9223372036854775807) = true then some [.b (decide (p.2 ∈ p.1.2))] else none
def afits_m : List PA → Option (List PA) := mE encRs fun p => if decide (p.2.length ≤ 9223372036854775807) = true then some [.b (fitsB p.2)] else none

theorem ramt_ok : PureC Tryz.prog Gt 20 ramt_m := by
  refine pure_of_awp (X := ctx Tryz.prog Gt []) Tryz.func20 rfl rfl (by kernel_rfl) (by kernel_rfl) AllOk.nil.kok ?_
  intro args r h0
  obtain ⟨⟨⟨f, l⟩, key⟩, rfl, h⟩ := mE_inv h0
  refine ⟨Nat.le_of_ble_eq_true rfl, ?_⟩
  split at h
  · rename_i hl
    have hl := of_decide_eq_true hl
    dsimp only at hl h
    cases h
    have l1 := @lenR l
    have hc := Nat.zero_add 0
    repeat' (first | simp only [hc, Tryz.f20, encRK, SX, l1, AB, PL, RG, LP, TY, simprocAttr, ↓reduceIte, forall_const, eq_self, ne_eq, Option.some.injEq, beq_self_eq_true] | ((first | apply fin_ndec | apply fin_dec | apply cnd_ndec | apply cnd_dec' | apply fin_nsplit | apply fin_split | apply cnd_nsplit | apply cnd_split) <;> intro hc) | refine blk_exit_id ?_)
    refine awp_loop (σ := Nat) (fun j => j ≤ l.length) (fun j => ⟨[(6, AV.i j), (5, AV.i (amtF key 0 (l.take j))), (1, AV.s key), (0, AV.d (.sl f (l.map Rec.row)))], []⟩) (fun j => l.length - j) 0 (Wk.sub' (by simp [subT, look, amtF]) rfl) (by simp) ?_
    intro j hj
    by_cases hjl : j < l.length
    · have e1 := row_at hjl
      have hlt : ((j : Int) < (l.length : Int)) = True := eq_true (by omega)
      have hw := wI (n := (j : Int) + 1) (by omega) (by omega)
      have hstep := amt_take (key := key) hjl 0
      have hdef : ∀ (q : Int) (x : Rec), afterF q x = if x.kind = 1 ∨ x.kind = 2 then IntKind.i64.wrap (q + x.cents) else if x.kind = 4 then IntKind.i64.wrap (q - x.cents) else if x.kind = 3 then 0 else q := fun _ _ => rfl
      generalize l[j] = x at *
      generalize amtF key 0 (l.take j) = q at *
      by_cases c1 : x.key = key
      · rw [if_pos c1, hdef] at hstep
        have c1' : (x.key == key) = true := by simp [c1]
        by_cases k1 : x.kind = 1
        · rw [if_pos (.inl k1)] at hstep
          have hc := Nat.zero_add 0
          repeat' (first | simp only [hc, SX, l1, e1, hlt, nn, hw, c1', k1, AB, PL, RG, LP, TY, simprocAttr, ↓reduceIte, forall_const, eq_self, ne_eq, Option.some.injEq, beq_self_eq_true] | ((first | apply fin_ndec | apply fin_dec | apply cnd_ndec | apply cnd_dec' | apply fin_nsplit | apply fin_split | apply cnd_nsplit | apply cnd_split) <;> intro hc) | refine blk_exit_id ?_)
          exact lp_next (j + 1) (Wk.sub' (by simp [subT, look, hstep]) rfl) (by omega) (by omega)
        by_cases k2 : x.kind = 2
        · rw [if_pos (.inr k2)] at hstep
          have hc := Nat.zero_add 0
          repeat' (first | simp only [hc, SX, l1, e1, hlt, nn, hw, c1', k1, k2, AB, PL, RG, LP, TY, simprocAttr, ↓reduceIte, forall_const, eq_self, ne_eq, Option.some.injEq, beq_self_eq_true] | ((first | apply fin_ndec | apply fin_dec | apply cnd_ndec | apply cnd_dec' | apply fin_nsplit | apply fin_split | apply cnd_nsplit | apply cnd_split) <;> intro hc) | refine blk_exit_id ?_)
          exact lp_next (j + 1) (Wk.sub' (by simp [subT, look, hstep]) rfl) (by omega) (by omega)
        rw [if_neg (by omega)] at hstep
        by_cases k4 : x.kind = 4
        · rw [if_pos k4] at hstep
          have hc := Nat.zero_add 0
          repeat' (first | simp only [hc, SX, l1, e1, hlt, nn, hw, c1', k1, k2, k4, AB, PL, RG, LP, TY, simprocAttr, ↓reduceIte, forall_const, eq_self, ne_eq, Option.some.injEq, beq_self_eq_true] | ((first | apply fin_ndec | apply fin_dec | apply cnd_ndec | apply cnd_dec' | apply fin_nsplit | apply fin_split | apply cnd_nsplit | apply cnd_split) <;> intro hc) | refine blk_exit_id ?_)
          exact lp_next (j + 1) (Wk.sub' (by simp [subT, look, hstep]) rfl) (by omega) (by omega)
        rw [if_neg k4] at hstep
        by_cases k3 : x.kind = 3
        · rw [if_pos k3] at hstep
          have hc := Nat.zero_add 0
          repeat' (first | simp only [hc, SX, l1, e1, hlt, nn, hw, c1', k1, k2, k4, k3, AB, PL, RG, LP, TY, simprocAttr, ↓reduceIte, forall_const, eq_self, ne_eq, Option.some.injEq, beq_self_eq_true] | ((first | apply fin_ndec | apply fin_dec | apply cnd_ndec | apply cnd_dec' | apply fin_nsplit | apply fin_split | apply cnd_nsplit | apply cnd_split) <;> intro hc) | refine blk_exit_id ?_)
          exact lp_next (j + 1) (Wk.sub' (by simp [subT, look, hstep]) rfl) (by omega) (by omega)
        · rw [if_neg k3] at hstep
          have hc := Nat.zero_add 0
          repeat' (first | simp only [hc, SX, l1, e1, hlt, nn, hw, c1', k1, k2, k4, k3, AB, PL, RG, LP, TY, simprocAttr, ↓reduceIte, forall_const, eq_self, ne_eq, Option.some.injEq, beq_self_eq_true] | ((first | apply fin_ndec | apply fin_dec | apply cnd_ndec | apply cnd_dec' | apply fin_nsplit | apply fin_split | apply cnd_nsplit | apply cnd_split) <;> intro hc) | refine blk_exit_id ?_)
          exact lp_next (j + 1) (Wk.sub' (by simp [subT, look, hstep]) rfl) (by omega) (by omega)
      · rw [if_neg c1] at hstep
        have c1' : (x.key == key) = false := by simp [c1]
        have hc := Nat.zero_add 0
        repeat' (first | simp only [hc, SX, l1, e1, hlt, nn, hw, c1', AB, PL, RG, LP, TY, simprocAttr, ↓reduceIte, forall_const, eq_self, ne_eq, Option.some.injEq, beq_self_eq_true] | ((first | apply fin_ndec | apply fin_dec | apply cnd_ndec | apply cnd_dec' | apply fin_nsplit | apply fin_split | apply cnd_nsplit | apply cnd_split) <;> intro hc) | refine blk_exit_id ?_)
        exact lp_next (j + 1) (Wk.sub' (by simp [subT, look, hstep]) rfl) (by omega) (by omega)
    · have hlt : ((j : Int) < (l.length : Int)) = False := eq_false (by omega)
      rw [List.take_of_length_le (by omega)]
      have hc := Nat.zero_add 0
      repeat' (first | simp only [hc, SX, l1, hlt, AB, PL, RG, LP, TY, simprocAttr, ↓reduceIte, forall_const, eq_self, ne_eq, Option.some.injEq, beq_self_eq_true] | ((first | apply fin_ndec | apply fin_dec | apply cnd_ndec | apply cnd_dec' | apply fin_nsplit | apply fin_split | apply cnd_nsplit | apply cnd_split) <;> intro hc) | refine blk_exit_id ?_)
      all_goals simp
  · cases h
theorem ramt_at {f : Bool} {l : List Rec} {key : List UInt8} (h : l.length ≤ 9223372036854775807) : ramt_m [.c (.sl f (l.map Rec.row)), .c (.str key)] = some [.i (amtF key 0 l)] := by
  rw [ramt_m, show ([.c (.sl f (l.map Rec.row)), .c (.str key)] : List PA) = encRK ((f, l), key) from rfl, mE_eq encRK_inj, if_pos (decide_eq_true h)]

theorem rbefL_ok : PureC Tryz.prog Gt 80 rbefL_m := by
  refine pure_of_awp (X := ctx Tryz.prog Gt []) Tryz.func80 rfl rfl (by kernel_rfl) (by kernel_rfl) AllOk.nil.kok ?_
  intro args r h0
  obtain ⟨a, b, rfl, h⟩ := mss_inv h0
  refine ⟨Nat.le_of_ble_eq_true rfl, ?_⟩
  split at h
  · rename_i hl
    obtain ⟨hl1, hl2⟩ := of_decide_eq_true hl
    cases h
    have hc := Nat.zero_add 0
    repeat' (first | simp only [hc, Tryz.f80, SX, AB, PL, RG, LP, TY, simprocAttr, ↓reduceIte, forall_const, eq_self, ne_eq, Option.some.injEq, beq_self_eq_true] | ((first | apply fin_ndec | apply fin_dec | apply cnd_ndec | apply cnd_dec' | apply fin_nsplit | apply fin_split | apply cnd_nsplit | apply cnd_split) <;> intro hc) | refine blk_exit_id ?_)
    refine awp_loop (σ := Nat) (fun j => j ≤ a.length ∧ j ≤ b.length ∧ befB a b = befB (a.drop j) (b.drop j)) (fun j => ⟨[(5, AV.i j), (0, AV.s a), (1, AV.s b)], []⟩) (fun j => a.length - j) 0 (Wk.sub' (by simp [subT, look]) rfl) (by simp) ?_
    rintro j ⟨hj1, hj2, hout⟩
    by_cases c1 : j < a.length
    · have hlt1 : ((j : Int) < (a.length : Int)) = True := eq_true (by omega)
      by_cases c2 : j < b.length
      · have hlt2 : ((j : Int) < (b.length : Int)) = True := eq_true (by omega)
        have hw := wI (n := (j : Int) + 1) (by omega) (by omega)
        have e1 : a[j]? = some a[j] := by simp [c1]
        have e2 : b[j]? = some b[j] := by simp [c2]
        rw [befB_drop e1 e2] at hout
        generalize a[j] = x at *
        generalize b[j] = y at *
        have hxy : x = y ↔ ((x.toNat : Int) = (y.toNat : Int)) := by
          constructor
          · rintro rfl; rfl
          · intro h; exact UInt8.toNat_inj.1 (by omega)
        by_cases c3 : x = y
        · rw [if_pos c3] at hout
          subst c3
          have hc := Nat.zero_add 0
          repeat' (first | simp only [hc, SX, hlt1, hlt2, nn, hw, e1, e2, AB, PL, RG, LP, TY, simprocAttr, ↓reduceIte, forall_const, eq_self, ne_eq, Option.some.injEq, beq_self_eq_true] | ((first | apply fin_ndec | apply fin_dec | apply cnd_ndec | apply cnd_dec' | apply fin_nsplit | apply fin_split | apply cnd_nsplit | apply cnd_split) <;> intro hc) | refine blk_exit_id ?_)
          exact lp_next (j + 1) (Wk.sub' (by simp [subT, look]) rfl) ⟨by omega, by omega, hout⟩ (by omega)
        · rw [if_neg c3] at hout
          have c3' : ¬ ((x.toNat : Int) = (y.toNat : Int)) := fun h => c3 (hxy.2 h)
          have hc := Nat.zero_add 0
          repeat' (first | simp only [hc, SX, hlt1, hlt2, nn, e1, e2, c3', AB, PL, RG, LP, TY, simprocAttr, ↓reduceIte, forall_const, eq_self, ne_eq, Option.some.injEq, beq_self_eq_true] | ((first | apply fin_ndec | apply fin_dec | apply cnd_ndec | apply cnd_dec' | apply fin_nsplit | apply fin_split | apply cnd_nsplit | apply cnd_split) <;> intro hc) | refine blk_exit_id ?_)
          all_goals simp [hout, DV.b]
      · have hlt2 : ((j : Int) < (b.length : Int)) = False := eq_false (by omega)
        rw [befB_end (.inr (List.drop_of_length_le (by omega))), List.length_drop, List.length_drop] at hout
        have hR : befB a b = decide ((a.length : Int) < (b.length : Int)) := by rw [hout]; congr 1; apply propext; omega
        have hc := Nat.zero_add 0
        repeat' (first | simp only [hc, SX, hlt1, hlt2, AB, PL, RG, LP, TY, simprocAttr, ↓reduceIte, forall_const, eq_self, ne_eq, Option.some.injEq, beq_self_eq_true] | ((first | apply fin_ndec | apply fin_dec | apply cnd_ndec | apply cnd_dec' | apply fin_nsplit | apply fin_split | apply cnd_nsplit | apply cnd_split) <;> intro hc) | refine blk_exit_id ?_)
        all_goals simp [hR, DV.b]
    · have hlt1 : ((j : Int) < (a.length : Int)) = False := eq_false (by omega)
      rw [befB_end (.inl (List.drop_of_length_le (by omega))), List.length_drop, List.length_drop] at hout
      have hR : befB a b = decide ((a.length : Int) < (b.length : Int)) := by rw [hout]; congr 1; apply propext; omega
      have hc := Nat.zero_add 0
      repeat' (first | simp only [hc, SX, hlt1, AB, PL, RG, LP, TY, simprocAttr, ↓reduceIte, forall_const, eq_self, ne_eq, Option.some.injEq, beq_self_eq_true] | ((first | apply fin_ndec | apply fin_dec | apply cnd_ndec | apply cnd_dec' | apply fin_nsplit | apply fin_split | apply cnd_nsplit | apply cnd_split) <;> intro hc) | refine blk_exit_id ?_)
      all_goals simp [hR, DV.b]
  · cases h
theorem rbefL_at {a b : List UInt8} (h1 : a.length ≤ 9223372036854775807) (h2 : b.length ≤ 9223372036854775807) : rbefL_m [.c (.str a), .c (.str b)] = some [.b (befB a b)] := by rw [rbefL_m, mss_eq]; exact if_pos (decide_eq_true ⟨h1, h2⟩)

theorem hast_ok : PureC Tryz.prog Gt 25 hast_m := by
  refine pure_of_awp (X := ctx Tryz.prog Gt []) Tryz.func25 rfl rfl (by kernel_rfl) (by kernel_rfl) AllOk.nil.kok ?_
  intro args r h0
  obtain ⟨⟨⟨f, l⟩, s⟩, rfl, h⟩ := mE_inv h0
  refine ⟨Nat.le_of_ble_eq_true rfl, ?_⟩
  split at h
  · rename_i hl
    have hl := of_decide_eq_true hl
    dsimp only at hl h
    cases h
    have l1 := @lenS l
    have hc := Nat.zero_add 0
    repeat' (first | simp only [hc, Tryz.f25, encLS, SX, l1, AB, PL, RG, LP, TY, simprocAttr, ↓reduceIte, forall_const, eq_self, ne_eq, Option.some.injEq, beq_self_eq_true] | ((first | apply fin_ndec | apply fin_dec | apply cnd_ndec | apply cnd_dec' | apply fin_nsplit | apply fin_split | apply cnd_nsplit | apply cnd_split) <;> intro hc) | refine blk_exit_id ?_)
    refine awp_loop (σ := Nat) (fun j => j ≤ l.length ∧ s ∉ l.take j) (fun j => ⟨[(5, AV.i j), (1, AV.s s), (0, AV.d (.sl f (l.map rowS)))], []⟩) (fun j => l.length - j) 0 (Wk.sub' (by simp [subT, look]) rfl) (by simp) ?_
    rintro j ⟨hj, hn⟩
    by_cases hjl : j < l.length
    · have e1 := s_at hjl
      have hlt : ((j : Int) < (l.length : Int)) = True := eq_true (by omega)
      have hw := wI (n := (j : Int) + 1) (by omega) (by omega)
      by_cases c1 : l[j] = s
      · have c1' : (l[j] == s) = true := by simp [c1]
        have hin : s ∈ l := c1 ▸ List.getElem_mem hjl
        have hc := Nat.zero_add 0
        repeat' (first | simp only [hc, SX, l1, e1, hlt, nn, hw, c1', AB, PL, RG, LP, TY, simprocAttr, ↓reduceIte, forall_const, eq_self, ne_eq, Option.some.injEq, beq_self_eq_true] | ((first | apply fin_ndec | apply fin_dec | apply cnd_ndec | apply cnd_dec' | apply fin_nsplit | apply fin_split | apply cnd_nsplit | apply cnd_split) <;> intro hc) | refine blk_exit_id ?_)
        all_goals simp [DV.b, hin]
      · have c1' : (l[j] == s) = false := by simp [c1]
        have hn' : s ∉ l.take (j + 1) := by
          rw [List.take_succ_eq_append_getElem hjl, List.mem_append, List.mem_singleton, not_or]
          exact ⟨hn, fun h => c1 h.symm⟩
        have hc := Nat.zero_add 0
        repeat' (first | simp only [hc, SX, l1, e1, hlt, nn, hw, c1', AB, PL, RG, LP, TY, simprocAttr, ↓reduceIte, forall_const, eq_self, ne_eq, Option.some.injEq, beq_self_eq_true] | ((first | apply fin_ndec | apply fin_dec | apply cnd_ndec | apply cnd_dec' | apply fin_nsplit | apply fin_split | apply cnd_nsplit | apply cnd_split) <;> intro hc) | refine blk_exit_id ?_)
        exact lp_next (j + 1) (Wk.sub' (by simp [subT, look]) rfl) ⟨by omega, hn'⟩ (by omega)
    · have hlt : ((j : Int) < (l.length : Int)) = False := eq_false (by omega)
      rw [List.take_of_length_le (by omega)] at hn
      have hc := Nat.zero_add 0
      repeat' (first | simp only [hc, SX, l1, hlt, AB, PL, RG, LP, TY, simprocAttr, ↓reduceIte, forall_const, eq_self, ne_eq, Option.some.injEq, beq_self_eq_true] | ((first | apply fin_ndec | apply fin_dec | apply cnd_ndec | apply cnd_dec' | apply fin_nsplit | apply fin_split | apply cnd_nsplit | apply cnd_split) <;> intro hc) | refine blk_exit_id ?_)
      all_goals simp [DV.b, hn]
  · cases h
theorem hast_at {f : Bool} {l : List (List UInt8)} {s : List UInt8} (h : l.length ≤ 9223372036854775807) : hast_m [.c (.sl f (l.map rowS)), .c (.str s)] = some [.b (decide (s ∈ l))] := by
  have := mE_eq encLS_inj (g := fun p => if decide (p.1.2.length ≤ 9223372036854775807) = true then some [DV.b (decide (p.2 ∈ p.1.2))] else none) (a := ((f, l), s))
  exact this.trans (if_pos (decide_eq_true h))

theorem afits_ok : PureC Tryz.prog Gt 18 afits_m := by
  refine pure_of_awp (X := ctx Tryz.prog Gt []) Tryz.func18 rfl rfl (by kernel_rfl) (by kernel_rfl) AllOk.nil.kok ?_
  intro args r h0
  obtain ⟨⟨f, l⟩, rfl, h⟩ := mE_inv h0
  refine ⟨Nat.le_of_ble_eq_true rfl, ?_⟩
  split at h
  · rename_i hl
    have hl := of_decide_eq_true hl
    dsimp only at hl h
    cases h
    have l1 := @lenR l
    have hR : fitsB l = (decide (l.length ≤ 60) && l.all fitB) := rfl
    generalize fitsB l = R at *
    by_cases c0 : (60 : Int) < l.length
    · have hR : R = false := by rw [hR, decide_eq_false (by omega), Bool.false_and]
      have hc := Nat.zero_add 0
      repeat' (first | simp only [hc, Tryz.f18, encRs, SX, l1, c0, AB, PL, RG, LP, TY, simprocAttr, ↓reduceIte, forall_const, eq_self, ne_eq, Option.some.injEq, beq_self_eq_true] | ((first | apply fin_ndec | apply fin_dec | apply cnd_ndec | apply cnd_dec' | apply fin_nsplit | apply fin_split | apply cnd_nsplit | apply cnd_split) <;> intro hc) | refine blk_exit_id ?_)
      all_goals simp [DV.b, hR]
    rw [decide_eq_true (by omega), Bool.true_and] at hR
    have hc := Nat.zero_add 0
    repeat' (first | simp only [hc, Tryz.f18, encRs, SX, l1, c0, AB, PL, RG, LP, TY, simprocAttr, ↓reduceIte, forall_const, eq_self, ne_eq, Option.some.injEq, beq_self_eq_true] | ((first | apply fin_ndec | apply fin_dec | apply cnd_ndec | apply cnd_dec' | apply fin_nsplit | apply fin_split | apply cnd_nsplit | apply cnd_split) <;> intro hc) | refine blk_exit_id ?_)
    refine awp_loop (σ := Nat) (fun j => j ≤ l.length ∧ (l.take j).all fitB = true) (fun j => ⟨[(3, AV.i j), (0, AV.d (.sl f (l.map Rec.row)))], []⟩) (fun j => l.length - j) 0 (Wk.sub' (by simp [subT, look]) rfl) (by simp) ?_
    rintro j ⟨hj, hall⟩
    by_cases hjl : j < l.length
    · have hlt : ((j : Int) < (l.length : Int)) = True := eq_true (by omega)
      have hw := wI (n := (j : Int) + 1) (by omega) (by omega)
      have e1 := row_at hjl
      have h1 := all_next (p := fitB) hjl hall
      have h2 := all_badA (p := fitB) hjl
      have h3 : fitB l[j] = decide (-1125899906842624 ≤ l[j].cents ∧ l[j].cents ≤ 1125899906842624) := rfl
      rw [h3] at h1 h2
      generalize l[j] = x at *
      by_cases c1 : -1125899906842624 ≤ x.cents ∧ x.cents ≤ 1125899906842624
      · have d1 : ¬ (x.cents < -1125899906842624) := by omega
        have d2 : ¬ ((1125899906842624 : Int) < x.cents) := by omega
        have hc := Nat.zero_add 0
        repeat' (first | simp only [hc, SX, l1, hlt, nn, hw, e1, d1, d2, AB, PL, RG, LP, TY, simprocAttr, ↓reduceIte, forall_const, eq_self, ne_eq, Option.some.injEq, beq_self_eq_true] | ((first | apply fin_ndec | apply fin_dec | apply cnd_ndec | apply cnd_dec' | apply fin_nsplit | apply fin_split | apply cnd_nsplit | apply cnd_split) <;> intro hc) | refine blk_exit_id ?_)
        exact lp_next (j + 1) (Wk.sub' (by simp [subT, look]) rfl) ⟨by omega, h1 (decide_eq_true c1)⟩ (by omega)
      · have hR : R = false := by rw [hR, h2 (decide_eq_false c1)]
        have hc := Nat.zero_add 0
        repeat' (first | simp only [hc, SX, l1, hlt, nn, hw, e1, AB, PL, RG, LP, TY, simprocAttr, ↓reduceIte, forall_const, eq_self, ne_eq, Option.some.injEq, beq_self_eq_true] | ((first | apply fin_ndec | apply fin_dec | apply cnd_ndec | apply cnd_dec' | apply fin_nsplit | apply fin_split | apply cnd_nsplit | apply cnd_split) <;> intro hc) | refine blk_exit_id ?_)
        all_goals first
          | (exfalso; omega)
          | (simp [hR, DV.b]; done)
    · have hlt : ((j : Int) < (l.length : Int)) = False := eq_false (by omega)
      rw [List.take_of_length_le (by omega)] at hall
      have hc := Nat.zero_add 0
      repeat' (first | simp only [hc, SX, l1, hlt, AB, PL, RG, LP, TY, simprocAttr, ↓reduceIte, forall_const, eq_self, ne_eq, Option.some.injEq, beq_self_eq_true] | ((first | apply fin_ndec | apply fin_dec | apply cnd_ndec | apply cnd_dec' | apply fin_nsplit | apply fin_split | apply cnd_nsplit | apply cnd_split) <;> intro hc) | refine blk_exit_id ?_)
      all_goals simp [hR, hall, DV.b]
  · cases h
theorem afits_at {f : Bool} {l : List Rec} (h : l.length ≤ 9223372036854775807) : afits_m [.c (.sl f (l.map Rec.row))] = some [.b (fitsB l)] := by
  have := mE_eq encRs_inj (g := fun p => if decide (p.2.length ≤ 9223372036854775807) = true then some [DV.b (fitsB p.2)] else none) (a := (f, l))
  exact this.trans (if_pos (decide_eq_true h))

end
end Go.Ab

/-
  Agency, the reference's reading: keys laid in order; Net.
-/
namespace Go.Ab
open Go.RowKit Go.Proofs

def anyK (s : List UInt8) (l : List (List UInt8)) : Bool := l.any fun x => befB s x
theorem insK_none {s : List UInt8} : ∀ {l : List (List UInt8)}, anyK s l = false → insK s l = l ++ [s]
  | [], _ => rfl
  | x :: l, h => by
    rw [anyK, List.any_cons, Bool.or_eq_false_iff] at h
    rw [insK, if_neg (by simp [h.1]), insK_none h.2]
    rfl
theorem insK_some {s x : List UInt8} : ∀ {l : List (List UInt8)}, anyK s l = true → insK s (l ++ [x]) = insK s l ++ [x]
  | [], h => by simp [anyK] at h
  | y :: l, h => by
    rw [List.cons_append, insK, insK]
    split
    · rfl
    · rename_i hy
      rw [anyK, List.any_cons] at h
      have h2 : anyK s l = true := by rw [Bool.or_eq_true] at h; exact h.resolve_left hy
      rw [insK_some h2]
      rfl
theorem insK_hit {s x : List UInt8} : ∀ {l : List (List UInt8)}, anyK s l = false → befB s x = true → insK s (l ++ [x]) = l ++ [s, x]
  | [], _, h => by simp [insK, h]
  | y :: l, h, hx => by
    rw [anyK, List.any_cons, Bool.or_eq_false_iff] at h
    rw [List.cons_append, insK, if_neg (by simp [h.1]), insK_hit h.2 hx]
    rfl
theorem insK_len (s : List UInt8) : ∀ l : List (List UInt8), (insK s l).length = l.length + 1
  | [] => rfl
  | x :: l => by
    rw [insK]
    split
    · rfl
    · rw [List.length_cons, insK_len s l, List.length_cons]
/-- What stands behind j of them. -/
def insO (s : List UInt8) (l : List (List UInt8)) : List (List UInt8) := if anyK s l = true then insK s l else l

noncomputable section
open Classical

def rins_m : List PA → Option (List PA) := mE encLS fun p => if p.2 ∉ p.1.2 ∧ p.1.2.length ≤ 1000000 ∧ p.2.length ≤ 9223372036854775807 ∧ (∀ x ∈ p.1.2, x.length ≤ 9223372036854775807) then some [.c (.sl false ((insK p.2 p.1.2).map rowS))] else none

theorem rins_ok : PureC Tryz.prog Gt 47 rins_m := by
  refine pure_of_awp (X := ctx Tryz.prog Gt [(80, rbefL_m)]) Tryz.func47 rfl rfl (by kernel_rfl) (by kernel_rfl) (AllOk.cons rbefL_ok AllOk.nil).kok ?_
  intro args r h0
  obtain ⟨⟨⟨f, l⟩, s⟩, rfl, h⟩ := mE_inv h0
  refine ⟨Nat.le_of_ble_eq_true rfl, ?_⟩
  split at h
  · rename_i hl
    obtain ⟨hn, hl1, hl2, hl3⟩ := hl
    dsimp only at hn hl1 hl2 hl3 h
    cases h
    have l1 := @lenS l
    have hc := Nat.zero_add 0
    repeat' (first | simp only [hc, Tryz.f47, encLS, SX, l1, AB, PL, RG, LP, TY, simprocAttr, ↓reduceIte, forall_const, eq_self, ne_eq, Option.some.injEq, beq_self_eq_true] | ((first | apply fin_ndec | apply fin_dec | apply cnd_ndec | apply cnd_dec' | apply fin_nsplit | apply fin_split | apply cnd_nsplit | apply cnd_split) <;> intro hc) | refine blk_exit_id ?_)
    refine awp_loop (σ := Nat) (fun j => j ≤ l.length) (fun j => ⟨[(7, AV.i j), (6, AV.b (anyK s (l.take j))), (5, .v (.c (.own 0 ((insO s (l.take j)).map rowS)))), (1, AV.s s), (0, AV.d (.sl f (l.map rowS)))], [.tok (insO s (l.take j)).length 1 none]⟩) (fun j => l.length - j) 0 ((Wk.own 5 1 (by decide) (by simp [look])).trans (Wk.sub' (by simp [subT, look, insO, anyK]) (by simp [insO, anyK]))) (by simp) ?_
    intro j hj
    have hO : (insO s (l.take j)).length ≤ j + 1 := by
      unfold insO
      split
      · rw [insK_len, List.length_take]; omega
      · rw [List.length_take]; omega
    by_cases hjl : j < l.length
    · have e1 := s_at hjl
      have hlt : ((j : Int) < (l.length : Int)) = True := eq_true (by omega)
      have hw := wI (n := (j : Int) + 1) (by omega) (by omega)
      have c1' : (l[j] == s) = false := by
        rw [beq_eq_false_iff_ne]
        rintro rfl
        exact hn (List.getElem_mem hjl)
      have f1 := rbefL_at (a := s) (b := l[j]) hl2 (hl3 _ (List.getElem_mem hjl))
      have hany : anyK s (l.take (j + 1)) = (anyK s (l.take j) || befB s l[j]) := by unfold anyK; rw [List.take_succ_eq_append_getElem hjl, List.any_append]; simp
      have ap : ∀ (h : Hp) (L : List (List UInt8)) (x : List UInt8), L.length ≤ j + 2 → apTok h 0 1 16 (L.map rowS) [[.str x]] (some (.tok L.length 1 none)) = some (.v (.c (.own 0 ((L ++ [x]).map rowS))), h.set 0 (.tok (L ++ [x]).length 1 none)) := fun h L x hL => by
        rw [apTok_ok (eq_true (by simp)) (eq_true (by simp [allLen])) (eq_true (by simp; omega)) (eq_true (by simp; omega))]
        simp [rowS]
      have hnext : insO s (l.take (j + 1)) = if anyK s (l.take j) = true then insO s (l.take j) ++ [l[j]] else if befB s l[j] = true then (insO s (l.take j) ++ [s]) ++ [l[j]] else insO s (l.take j) ++ [l[j]] := by
        unfold insO
        rw [hany, List.take_succ_eq_append_getElem hjl]
        by_cases ha : anyK s (l.take j) = true
        · rw [if_pos (by simp [ha]), if_pos ha, if_pos ha, insK_some ha]
        · by_cases hb : befB s l[j] = true
          · rw [if_pos (by simp [hb]), if_neg ha, if_pos hb, if_neg ha, insK_hit (by simpa using ha) hb]
            simp
          · rw [if_neg (by simp [ha, hb]), if_neg ha, if_neg hb, if_neg ha]
      generalize anyK s (l.take j) = P at *
      generalize insO s (l.take j) = O at *
      generalize befB s l[j] = B at *
      have ap1 := fun h => ap h O l[j] (by omega)
      have ap2 := fun h => ap h O s (by omega)
      have ap3 := fun h => ap h (O ++ [s]) l[j] (by simp; omega)
      generalize l[j] = x at *
      cases P
      · cases B
        · rw [if_neg (by simp), if_neg (by simp)] at hnext
          have hc := Nat.zero_add 0
          repeat' (first | simp only [hc, SX, l1, e1, hlt, nn, hw, c1', f1, ap1, AB, PL, RG, LP, TY, simprocAttr, ↓reduceIte, forall_const, eq_self, ne_eq, Option.some.injEq, beq_self_eq_true] | ((first | apply fin_ndec | apply fin_dec | apply cnd_ndec | apply cnd_dec' | apply fin_nsplit | apply fin_split | apply cnd_nsplit | apply cnd_split) <;> intro hc) | refine blk_exit_id ?_)
          exact lp_next (j + 1) (Wk.sub' (by simp [subT, look, hnext, hany]) (by rw [hnext])) (by omega) (by omega)
        · rw [if_neg (by simp), if_pos rfl] at hnext
          have hc := Nat.zero_add 0
          repeat' (first | simp only [hc, SX, l1, e1, hlt, nn, hw, c1', f1, ap2, ap3, AB, PL, RG, LP, TY, simprocAttr, ↓reduceIte, forall_const, eq_self, ne_eq, Option.some.injEq, beq_self_eq_true] | ((first | apply fin_ndec | apply fin_dec | apply cnd_ndec | apply cnd_dec' | apply fin_nsplit | apply fin_split | apply cnd_nsplit | apply cnd_split) <;> intro hc) | refine blk_exit_id ?_)
          exact lp_next (j + 1) (Wk.sub' (by simp [subT, look, hnext, hany]) (by rw [hnext])) (by omega) (by omega)
      · rw [if_pos rfl] at hnext
        have hc := Nat.zero_add 0
        repeat' (first | simp only [hc, SX, l1, e1, hlt, nn, hw, c1', f1, ap1, AB, PL, RG, LP, TY, simprocAttr, ↓reduceIte, forall_const, eq_self, ne_eq, Option.some.injEq, beq_self_eq_true] | ((first | apply fin_ndec | apply fin_dec | apply cnd_ndec | apply cnd_dec' | apply fin_nsplit | apply fin_split | apply cnd_nsplit | apply cnd_split) <;> intro hc) | refine blk_exit_id ?_)
        exact lp_next (j + 1) (Wk.sub' (by simp [subT, look, hnext, hany]) (by rw [hnext])) (by omega) (by omega)
    · have hlt : ((j : Int) < (l.length : Int)) = False := eq_false (by omega)
      rw [List.take_of_length_le (by omega)] at hO ⊢
      have ap : ∀ h : Hp, apTok h 0 1 16 (l.map rowS) [[.str s]] (some (.tok l.length 1 none)) = some (.v (.c (.own 0 ((l ++ [s]).map rowS))), h.set 0 (.tok (l ++ [s]).length 1 none)) := fun h => by
        rw [apTok_ok (eq_true (by simp)) (eq_true (by simp [allLen])) (eq_true (by simp; omega)) (eq_true (by simp; omega))]
        simp [rowS]
      unfold insO
      cases hP : anyK s l
      · rw [insK_none hP, if_neg (by simp)]
        have hc := Nat.zero_add 0
        repeat' (first | simp only [hc, SX, l1, hlt, ap, AB, PL, RG, LP, TY, simprocAttr, ↓reduceIte, forall_const, eq_self, ne_eq, Option.some.injEq, beq_self_eq_true] | ((first | apply fin_ndec | apply fin_dec | apply cnd_ndec | apply cnd_dec' | apply fin_nsplit | apply fin_split | apply cnd_nsplit | apply cnd_split) <;> intro hc) | refine blk_exit_id ?_)
        all_goals simp
      · rw [if_pos rfl]
        have hc := Nat.zero_add 0
        repeat' (first | simp only [hc, SX, l1, hlt, AB, PL, RG, LP, TY, simprocAttr, ↓reduceIte, forall_const, eq_self, ne_eq, Option.some.injEq, beq_self_eq_true] | ((first | apply fin_ndec | apply fin_dec | apply cnd_ndec | apply cnd_dec' | apply fin_nsplit | apply fin_split | apply cnd_nsplit | apply cnd_split) <;> intro hc) | refine blk_exit_id ?_)
        all_goals simp
  · cases h
theorem rins_at {f : Bool} {l : List (List UInt8)} {s : List UInt8} (h1 : s ∉ l) (h2 : l.length ≤ 1000000) (h3 : s.length ≤ 9223372036854775807) (h4 : ∀ x ∈ l, x.length ≤ 9223372036854775807) : rins_m [.c (.sl f (l.map rowS)), .c (.str s)] = some [.c (.sl false ((insK s l).map rowS))] := by
  have := mE_eq encLS_inj (g := fun p => if p.2 ∉ p.1.2 ∧ p.1.2.length ≤ 1000000 ∧ p.2.length ≤ 9223372036854775807 ∧ (∀ x ∈ p.1.2, x.length ≤ 9223372036854775807) then some [DV.c (.sl false ((insK p.2 p.1.2).map rowS))] else none) (a := ((f, l), s))
  exact this.trans (if_pos ⟨h1, h2, h3, h4⟩)

end
end Go.Ab

/-
  Agency, the reference's reading: Net.
-/
namespace Go.Ab
open Go.RowKit Go.Proofs

theorem keys_next {l : List Rec} {j : Nat} (h : j < l.length) : keysR (l.take (j + 1)) = if l[j].key ∈ keysR (l.take j) then keysR (l.take j) else insK l[j].key (keysR (l.take j)) := by
  unfold keysR
  rw [List.take_succ_eq_append_getElem h, List.foldl_append]
  rfl
theorem keys_len (l : List Rec) : ∀ j, j ≤ l.length → (keysR (l.take j)).length ≤ j
  | 0, _ => by simp [keysR]
  | j + 1, h => by
    have ih := keys_len l j (by omega)
    rw [keys_next (by omega)]
    split
    · omega
    · rw [insK_len]; omega
theorem tim_take {key : List UInt8} {l : List Rec} {j : Nat} (h : j < l.length) (n : Int) : timF key n (l.take (j + 1)) = (if l[j].key = key then l[j].time else timF key n (l.take j)) := by
  rw [List.take_succ_eq_append_getElem h, timF_snoc]

noncomputable section
open Classical

def rnet_m : List PA → Option (List PA) := mE encRs fun p => if p.2.length ≤ 1000000 ∧ (∀ x ∈ p.2, x.key.length ≤ 9223372036854775807) then some [.c (.sl false ((netR p.2).map Rec.row))] else none

theorem rnet_ok : PureC Tryz.prog Gt 23 rnet_m := by
  refine pure_of_awp (X := ctx Tryz.prog Gt [(25, hast_m), (47, rins_m), (20, ramt_m)]) Tryz.func23 rfl rfl (by kernel_rfl) (by kernel_rfl) (AllOk.cons hast_ok (AllOk.cons rins_ok (AllOk.cons ramt_ok AllOk.nil))).kok ?_
  intro args r h0
  obtain ⟨⟨f, l⟩, rfl, h⟩ := mE_inv h0
  refine ⟨Nat.le_of_ble_eq_true rfl, ?_⟩
  split at h
  · rename_i hl
    obtain ⟨hl1, hl2⟩ := hl
    dsimp only at hl1 hl2 h
    cases h
    have l1 := @lenR l
    have hkb : ∀ j, ∀ k ∈ keysR (l.take j), k.length ≤ 9223372036854775807 := fun j k hk => by
      rw [mem_keysR] at hk
      obtain ⟨x, hx, rfl⟩ := List.mem_map.1 hk
      exact hl2 x (List.mem_of_mem_take hx)
    have hc := Nat.zero_add 0
    repeat' (first | simp only [hc, Tryz.f23, encRs, SX, l1, AB, PL, RG, LP, TY, simprocAttr, ↓reduceIte, forall_const, eq_self, ne_eq, Option.some.injEq, beq_self_eq_true] | ((first | apply fin_ndec | apply fin_dec | apply cnd_ndec | apply cnd_dec' | apply fin_nsplit | apply fin_split | apply cnd_nsplit | apply cnd_split) <;> intro hc) | refine blk_exit_id ?_)
    refine awp_loop (σ := Nat) (fun j => j ≤ l.length) (fun j => ⟨[(4, AV.i j), (3, AV.d (.sl false ((keysR (l.take j)).map rowS))), (0, AV.d (.sl f (l.map Rec.row)))], []⟩) (fun j => l.length - j) 0 (Wk.trans (Wk.ofFull 3 true [] (by simp [look])) (Wk.sub' (by simp [subT, look, keysR]) rfl)) (by simp) ?_
    intro j hj
    by_cases hjl : j < l.length
    · have e1 := row_at hjl
      have hlt : ((j : Int) < (l.length : Int)) = True := eq_true (by omega)
      have hw := wI (n := (j : Int) + 1) (by omega) (by omega)
      have hnx := keys_next hjl
      have hkl := keys_len l j hj
      have hkj := hkb j
      have hxb := hl2 _ (List.getElem_mem hjl)
      generalize keysR (l.take j) = K at *
      generalize l[j] = x at *
      have f1 := hast_at (f := false) (l := K) (s := x.key) (by omega)
      by_cases c1 : x.key ∈ K
      · rw [if_pos c1] at hnx
        rw [decide_eq_true c1] at f1
        have hc := Nat.zero_add 0
        repeat' (first | simp only [hc, SX, l1, e1, hlt, nn, hw, f1, AB, PL, RG, LP, TY, simprocAttr, ↓reduceIte, forall_const, eq_self, ne_eq, Option.some.injEq, beq_self_eq_true] | ((first | apply fin_ndec | apply fin_dec | apply cnd_ndec | apply cnd_dec' | apply fin_nsplit | apply fin_split | apply cnd_nsplit | apply cnd_split) <;> intro hc) | refine blk_exit_id ?_)
        exact lp_next (j + 1) (Wk.sub' (by simp [subT, look, hnx]) rfl) (by omega) (by omega)
      · rw [if_neg c1] at hnx
        rw [decide_eq_false c1] at f1
        have f2 := rins_at (f := false) c1 (by omega) hxb hkj
        have hc := Nat.zero_add 0
        repeat' (first | simp only [hc, SX, l1, e1, hlt, nn, hw, f1, f2, AB, PL, RG, LP, TY, simprocAttr, ↓reduceIte, forall_const, eq_self, ne_eq, Option.some.injEq, beq_self_eq_true] | ((first | apply fin_ndec | apply fin_dec | apply cnd_ndec | apply cnd_dec' | apply fin_nsplit | apply fin_split | apply cnd_nsplit | apply cnd_split) <;> intro hc) | refine blk_exit_id ?_)
        exact lp_next (j + 1) (Wk.sub' (by simp [subT, look, hnx]) rfl) (by omega) (by omega)
    have hlt : ((j : Int) < (l.length : Int)) = False := eq_false (by omega)
    have hkl := keys_len l l.length (Nat.le_refl _)
    rw [List.take_of_length_le (by omega)]
    rw [List.take_length] at hkl
    have hN : netR l = (keysR l).map (recK l) := rfl
    generalize netR l = R at *
    generalize keysR l = K at *
    have l2 := @lenS K
    have hc := Nat.zero_add 0
    repeat' (first | simp only [hc, SX, l1, hlt, AB, PL, RG, LP, TY, simprocAttr, ↓reduceIte, forall_const, eq_self, ne_eq, Option.some.injEq, beq_self_eq_true] | ((first | apply fin_ndec | apply fin_dec | apply cnd_ndec | apply cnd_dec' | apply fin_nsplit | apply fin_split | apply cnd_nsplit | apply cnd_split) <;> intro hc) | refine blk_exit_id ?_)
    refine awp_loop (σ := Nat) (fun i => i ≤ K.length) (fun i => ⟨[(6, AV.i i), (5, .v (.c (.own 0 (((K.take i).map (recK l)).map Rec.row)))), (3, AV.d (.sl false (K.map rowS))), (0, AV.d (.sl f (l.map Rec.row)))], [.tok i 5 none]⟩) (fun i => K.length - i) 0 ((Wk.own 5 5 (by decide) (by simp [look])).trans (Wk.sub' (by simp [subT, look]) rfl)) (by simp) ?_
    intro i hi
    by_cases hik : i < K.length
    · have e2 := s_at hik
      have hlt2 : ((i : Int) < (K.length : Int)) = True := eq_true (by omega)
      have hw2 := wI (n := (i : Int) + 1) (by omega) (by omega)
      have hnx : (K.take (i + 1)).map (recK l) = (K.take i).map (recK l) ++ [recK l K[i]] := by rw [List.take_succ_eq_append_getElem hik, List.map_append]; rfl
      have hlen : (((K.take i).map (recK l)).map Rec.row).length = i := by rw [List.length_map, List.length_map, List.length_take, Nat.min_eq_left (by omega)]
      have f3 := ramt_at (f := f) (l := l) (key := K[i]) (by omega)
      generalize K[i] = k at *
      have hrk : recK l k = ⟨1, k, timF k 0 l, amtF k 0 l, 0⟩ := rfl
      have hc := Nat.zero_add 0
      repeat' (first | simp only [hc, SX, l1, l2, hlt2, nn, e2, f3, AB, PL, RG, LP, TY, simprocAttr, ↓reduceIte, forall_const, eq_self, ne_eq, Option.some.injEq, beq_self_eq_true] | ((first | apply fin_ndec | apply fin_dec | apply cnd_ndec | apply cnd_dec' | apply fin_nsplit | apply fin_split | apply cnd_nsplit | apply cnd_split) <;> intro hc) | refine blk_exit_id ?_)
      refine awp_loop (σ := Nat) (fun m => m ≤ l.length) (fun m => ⟨[(8, AV.i m), (7, .v (.c (.ptr 1 0))), (6, AV.i i), (5, .v (.c (.own 0 (((K.take i).map (recK l)).map Rec.row)))), (3, AV.d (.sl false (K.map rowS))), (0, AV.d (.sl f (l.map Rec.row)))], [.tok i 5 none, .box [.d (.int .i64 1), .d (.str k), .d (.int .i64 (timF k 0 (l.take m))), .d (.int .i64 (amtF k 0 l)), .d (.int .i64 0)]]⟩) (fun m => l.length - m) 0 (Wk.sub' (by simp [subT, look]) (by simp [timF])) (by simp) ?_
      intro m hm
      by_cases hml : m < l.length
      · have e1 := row_at hml
        have hlt3 : ((m : Int) < (l.length : Int)) = True := eq_true (by omega)
        have hw3 := wI (n := (m : Int) + 1) (by omega) (by omega)
        have htn := tim_take (key := k) hml 0
        generalize l[m] = x at *
        by_cases c1 : x.key = k
        · rw [if_pos c1] at htn
          have c1' : (x.key == k) = true := by simp [c1]
          have hc := Nat.zero_add 0
          repeat' (first | simp only [hc, SX, l1, hlt3, nn, e1, e2, hw3, c1', AB, PL, RG, LP, TY, simprocAttr, ↓reduceIte, forall_const, eq_self, ne_eq, Option.some.injEq, beq_self_eq_true] | ((first | apply fin_ndec | apply fin_dec | apply cnd_ndec | apply cnd_dec' | apply fin_nsplit | apply fin_split | apply cnd_nsplit | apply cnd_split) <;> intro hc) | refine blk_exit_id ?_)
          exact lp_next (m + 1) (Wk.sub' (by simp [subT, look]) (by simp [htn])) (by omega) (by omega)
        · rw [if_neg c1] at htn
          have c1' : (x.key == k) = false := by simp [c1]
          have hc := Nat.zero_add 0
          repeat' (first | simp only [hc, SX, l1, hlt3, nn, e1, e2, hw3, c1', AB, PL, RG, LP, TY, simprocAttr, ↓reduceIte, forall_const, eq_self, ne_eq, Option.some.injEq, beq_self_eq_true] | ((first | apply fin_ndec | apply fin_dec | apply cnd_ndec | apply cnd_dec' | apply fin_nsplit | apply fin_split | apply cnd_nsplit | apply cnd_split) <;> intro hc) | refine blk_exit_id ?_)
          exact lp_next (m + 1) (Wk.sub' (by simp [subT, look]) (by simp [htn])) (by omega) (by omega)
      · have hlt3 : ((m : Int) < (l.length : Int)) = False := eq_false (by omega)
        have htk : l.take m = l := List.take_of_length_le (by omega)
        rw [htk]
        have ap : ∀ h : Hp, apTok h 0 5 48 (((K.take i).map (recK l)).map Rec.row) [[.int .i64 1, .str k, .int .i64 (timF k 0 l), .int .i64 (amtF k 0 l), .int .i64 0]] (some (.tok i 5 none)) = some (.v (.c (.own 0 (((K.take (i + 1)).map (recK l)).map Rec.row))), h.set 0 (.tok (i + 1) 5 none)) := fun h => by
          rw [apTok_ok (eq_true hlen) (eq_true (by simp [allLen])) (eq_true (by rw [hlen]; simp; omega)) (eq_true (by rw [hlen]; simp; omega)), hnx, hlen, List.map_append, hrk]
          rfl
        have hc := Nat.zero_add 0
        repeat' (first | simp only [hc, SX, l1, hlt3, nn, ap, hw2, AB, PL, RG, LP, TY, simprocAttr, ↓reduceIte, forall_const, eq_self, ne_eq, Option.some.injEq, beq_self_eq_true] | ((first | apply fin_ndec | apply fin_dec | apply cnd_ndec | apply cnd_dec' | apply fin_nsplit | apply fin_split | apply cnd_nsplit | apply cnd_split) <;> intro hc) | refine blk_exit_id ?_)
        exact lp_next (i + 1) (Wk.cutk (k := 1) (by simp) (by simp) (by simp) (by simp [subT, look]) (by simp [AV.low, V.low, C1.low]) (by simp [Ob.low, C1.low])) (by omega) (by omega)
    · have hlt2 : ((i : Int) < (K.length : Int)) = False := eq_false (by omega)
      rw [List.take_of_length_le (by omega)]
      have hc := Nat.zero_add 0
      repeat' (first | simp only [hc, SX, l2, hlt2, AB, PL, RG, LP, TY, simprocAttr, ↓reduceIte, forall_const, eq_self, ne_eq, Option.some.injEq, beq_self_eq_true] | ((first | apply fin_ndec | apply fin_dec | apply cnd_ndec | apply cnd_dec' | apply fin_nsplit | apply fin_split | apply cnd_nsplit | apply cnd_split) <;> intro hc) | refine blk_exit_id ?_)
      all_goals simp [hN]
  · cases h
theorem rnet_at {f : Bool} {l : List Rec} (h1 : l.length ≤ 1000000) (h2 : ∀ x ∈ l, x.key.length ≤ 9223372036854775807) : rnet_m [.c (.sl f (l.map Rec.row))] = some [.c (.sl false ((netR l).map Rec.row))] := by
  have := mE_eq encRs_inj (g := fun p => if p.2.length ≤ 1000000 ∧ (∀ x ∈ p.2, x.key.length ≤ 9223372036854775807) then some [DV.c (.sl false ((netR p.2).map Rec.row))] else none) (a := (f, l))
  exact this.trans (if_pos ⟨h1, h2⟩)

end
end Go.Ab
