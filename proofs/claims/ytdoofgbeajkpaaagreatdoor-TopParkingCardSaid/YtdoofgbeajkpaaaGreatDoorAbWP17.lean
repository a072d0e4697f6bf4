/-
  Texts of the layer and of the laws, put together: AbY1, AbY2, AbY3, AbY4.
-/
import Derived.Test.YtdoofgbeajkpaaaGreatDoorAbWP15
import Derived.Test.YtdoofgbeajkpaaaGreatDoorAbWP12
set_option linter.unusedSimpArgs false
set_option linter.unusedVariables false
set_option maxRecDepth 100000
set_option linter.defProp false
namespace Go.Ab
open Go.RowKit Go.Proofs
def SX := Zk @si_eq <| Zk @u8_of ST
end Go.Ab
namespace Go.Ab
open Go.RowKit Go.Proofs
theorem nn (n : Nat) : ((0 : Int) ≤ (n : Int)) = True := eq_true (by omega)
end Go.Ab
namespace Go.Ab
open Go.RowKit Go.Proofs
theorem drop_of {s : List UInt8} {j : Nat} {c : UInt8} (h : s[j]? = some c) : s.drop j = c :: s.drop (j + 1) := by
  obtain ⟨hj, rfl⟩ := List.getElem?_eq_some_iff.1 h
  exact List.drop_eq_getElem_cons hj
end Go.Ab
namespace Go.Ab
open Go.RowKit Go.Proofs
def tname_m : List PA → Option (List PA) := ms fun s => some [.b (nameB s)]
def tfmt_m : List PA → Option (List PA) := m1 fun n => if decide (-9223372036854775808 ≤ n ∧ n ≤ 9223372036854775807) = true then some [.c (.str (Lib.itoa n))] else none
def okN (j : Int) (c : Int) : Prop := (97 ≤ c ∧ c ≤ 122) ∨ (j ≠ 0 ∧ ((48 ≤ c ∧ c ≤ 57) ∨ c = 45))
theorem nm_ok {j : Nat} {c : UInt8} {r : List UInt8} (h : okN j c.toNat) : nmAll (decide (j = 0)) (c :: r) = nmAll false r := by
  have : (letB c || (!decide (j = 0) && digB c)) = true := by
    simp only [letB, digB, isDig, Bool.or_eq_true, Bool.and_eq_true, decide_eq_true_eq, Bool.not_eq_true', decide_eq_false_iff_not]
    unfold okN at h
    omega
  rw [nmAll, this, Bool.true_and]
theorem nm_no {j : Nat} {c : UInt8} {r : List UInt8} (h : ¬ okN j c.toNat) : nmAll (decide (j = 0)) (c :: r) = false := by
  have : (letB c || (!decide (j = 0) && digB c)) = false := by
    rw [Bool.eq_false_iff]
    intro hc
    simp only [letB, digB, isDig, Bool.or_eq_true, Bool.and_eq_true, decide_eq_true_eq, Bool.not_eq_true', decide_eq_false_iff_not] at hc
    unfold okN at h
    omega
  rw [nmAll, this, Bool.false_and]
theorem dec_at {s : List UInt8} {j : Nat} {c : UInt8} (h : s[j]? = some c) : (c.toNat < 128 → Utf8.decode ⟨s.toArray⟩ j = (c.toNat, 1)) ∧ (¬ c.toNat < 128 → 128 ≤ (Utf8.decode ⟨s.toArray⟩ j).1 ∧ 1 ≤ (Utf8.decode ⟨s.toArray⟩ j).2) := by
  obtain ⟨hj, rfl⟩ := List.getElem?_eq_some_iff.1 h
  have e : s = s.take j ++ s[j] :: s.drop (j + 1) := by rw [← List.drop_eq_getElem_cons hj, List.take_append_drop]
  have hl : (s.take j).length = j := by rw [List.length_take]; omega
  have k1 := @dec_asc (s.take j) (s.drop (j + 1)) s[j]
  have k2 := @dec_high (s.take j) (s.drop (j + 1)) s[j]
  rw [hl, ← e] at k1 k2
  exact ⟨k1, k2⟩
theorem tname_ok : PureC Tryz.prog Gt 111 tname_m := by
  refine pure_of_awp (X := ctx Tryz.prog Gt []) Tryz.func111 rfl rfl (by kernel_rfl) (by kernel_rfl) AllOk.nil.kok ?_
  intro args r h0
  obtain ⟨s, rfl, h⟩ := ms_inv h0
  refine ⟨Nat.le_of_ble_eq_true rfl, ?_⟩
  cases h
  by_cases hs : s = []
  · subst hs
    have hc := Nat.zero_add 0
    repeat' (first | simp only [hc, Tryz.f111, SX, ZZ, simprocAttr, ↓reduceIte] | ((first | apply Za | apply Zb | apply Zc | apply Zd | apply Ze | apply Zf | apply Zg | apply Zh) <;> intro hc) | refine Zj ?_)
    all_goals simp [nameB, DV.b]
  have hs2 : (s == []) = false := by simp [hs]
  have hpos := List.length_pos_iff.2 hs
  by_cases hl2 : (12 : Int) < s.length
  · have : nameB s = false := by simp [nameB]; omega
    have hc := Nat.zero_add 0
    repeat' (first | simp only [hc, Tryz.f111, SX, hs2, hl2, ZZ, simprocAttr, ↓reduceIte] | ((first | apply Za | apply Zb | apply Zc | apply Zd | apply Ze | apply Zf | apply Zg | apply Zh) <;> intro hc) | refine Zj ?_)
    all_goals simp [this, DV.b]
  have hn : nameB s = nmAll true s := by
    unfold nameB
    rw [show decide (1 ≤ s.length) = true by simp; omega, show decide (s.length ≤ 12) = true by simp; omega]; rfl
  have hc := Nat.zero_add 0
  repeat' (first | simp only [hc, Tryz.f111, SX, hs2, hl2, ZZ, simprocAttr, ↓reduceIte] | ((first | apply Za | apply Zb | apply Zc | apply Zd | apply Ze | apply Zf | apply Zg | apply Zh) <;> intro hc) | refine Zj ?_)
  refine awp_loop (σ := Nat) (fun j => j ≤ s.length ∧ nameB s = nmAll (decide (j = 0)) (s.drop j)) (fun j => ⟨[(14, .v (.c (.it 0)))], [.siter s j]⟩) (fun j => s.length - j) 0 (Wk.sub' (by simp [subT, look]) rfl) (by simp [hn]) ?_
  rintro j ⟨hj, hout⟩
  by_cases hjl : j < s.length
  · have e1 : s[j]? = some s[j] := by simp [hjl]
    have hlt : (j < s.length) = True := eq_true hjl
    generalize s[j] = c at *
    rw [drop_of e1] at hout
    have hno : ¬ okN j c.toNat → nameB s = false := fun h => by rw [hout, nm_no h]
    have hok : okN j c.toNat → nameB s = nmAll (decide (j + 1 = 0)) (s.drop (j + 1)) := fun h => by rw [hout, nm_ok h, decide_eq_false (by omega)]
    obtain ⟨d1, d2⟩ := dec_at e1
    by_cases ha : c.toNat < 128
    · have d3 := d1 ha
      have hc := Nat.zero_add 0
      repeat' (first | simp only [hc, SX, hlt, d3, ZZ, simprocAttr, ↓reduceIte] | ((first | apply Za | apply Zb | apply Zc | apply Zd | apply Ze | apply Zf | apply Zg | apply Zh) <;> intro hc) | refine Zj ?_)
      all_goals first
        | (exfalso; omega)
        | (have h := hno (by unfold okN; omega); simp [h, DV.b]; done)
        | exact lp_next (j + 1) (Wk.sub' (by simp [subT, look]) rfl) ⟨by omega, hok (by unfold okN; omega)⟩ (by omega)
    have d3 := (d2 ha).1
    have h := hno (by unfold okN; omega)
    have a1 : (((Utf8.decode ⟨s.toArray⟩ j).1 : Int) ≤ 122) = False := eq_false (by omega)
    have a2 : ((97 : Int) ≤ ((Utf8.decode ⟨s.toArray⟩ j).1)) = True := eq_true (by omega)
    have a3 : (((Utf8.decode ⟨s.toArray⟩ j).1 : Int) = 45) = False := eq_false (by omega)
    have a4 : (((Utf8.decode ⟨s.toArray⟩ j).1 : Int) < 48) = False := eq_false (by omega)
    have a5 : ((57 : Int) < ((Utf8.decode ⟨s.toArray⟩ j).1)) = True := eq_true (by omega)
    have hc := Nat.zero_add 0
    repeat' (first | simp only [hc, SX, hlt, a1, a2, a3, a4, a5, ZZ, simprocAttr, ↓reduceIte] | ((first | apply Za | apply Zb | apply Zc | apply Zd | apply Ze | apply Zf | apply Zg | apply Zh) <;> intro hc) | refine Zj ?_)
    all_goals simp [h, DV.b]
  have hlt : (j < s.length) = False := eq_false hjl
  rw [List.drop_of_length_le (by omega)] at hout
  have hc := Nat.zero_add 0
  repeat' (first | simp only [hc, SX, hlt, ZZ, simprocAttr, ↓reduceIte] | ((first | apply Za | apply Zb | apply Zc | apply Zd | apply Ze | apply Zf | apply Zg | apply Zh) <;> intro hc) | refine Zj ?_)
  simp [hout, nmAll, DV.b]
theorem tfmt_ok : PureC Tryz.prog Gt 94 tfmt_m := by
  refine pure_of_awp (X := ctx Tryz.prog Gt [(129, itoa_m)]) Tryz.func94 rfl rfl (by kernel_rfl) (by kernel_rfl) (AllOk.cons itoa_ok AllOk.nil).kok ?_
  intro args r h0
  obtain ⟨n, rfl, h⟩ := m1_inv h0
  refine ⟨Nat.le_of_ble_eq_true rfl, ?_⟩
  split at h
  · rename_i hn
    cases h
    have hc := Nat.zero_add 0
    repeat' (first | simp only [hc, Tryz.f94, SX, itoa_m, m1_eq, hn, ZZ, simprocAttr, ↓reduceIte] | ((first | apply Za | apply Zb | apply Zc | apply Zd | apply Ze | apply Zf | apply Zg | apply Zh) <;> intro hc) | refine Zj ?_)
    try simp
  cases h
def dd (u : Nat) : List UInt8 := if u = 0 then [] else Lib.decDigits u
theorem tq {m : Int} : (m.tdiv 10).natAbs = m.natAbs / 10 ∧ (-9223372036854775808 ≤ m → m ≤ 9223372036854775807 → -9223372036854775808 ≤ m.tdiv 10 ∧ m.tdiv 10 ≤ 9223372036854775807) := by
  by_cases h : 0 ≤ m
  · rw [Int.tdiv_eq_ediv_of_nonneg h]; omega
  have e : m.tdiv 10 = -((-m) / 10) := by
    rw [← Int.tdiv_eq_ediv_of_nonneg (by omega), Int.neg_tdiv, Int.neg_neg]
  rw [e]; omega
end Go.Ab
