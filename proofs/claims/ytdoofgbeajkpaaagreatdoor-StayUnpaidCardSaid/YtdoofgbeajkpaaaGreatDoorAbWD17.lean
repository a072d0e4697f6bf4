/-
  Texts of the layer and of the laws, put together: AbY1, AbY2, AbY3, AbY4.
-/
import Derived.Test.YtdoofgbeajkpaaaGreatDoorAbWD15
import Derived.Test.YtdoofgbeajkpaaaGreatDoorAbWD12
set_option linter.unusedSimpArgs false
set_option linter.unusedVariables false
set_option maxRecDepth 100000
set_option linter.defProp false
namespace Go.Ab
open Go.RowKit Go.Proofs
def SX := Zk @si_eq <| Zk @ss_eq <| Zk @u8_of ST
end Go.Ab
namespace Go.Ab
open Go.RowKit Go.Proofs
theorem nn (n : Nat) : ((0 : Int) ≤ (n : Int)) = True := eq_true (by omega)
theorem tn1 (n : Nat) : ((n : Int) + 1).toNat = n + 1 := by omega
theorem le1 (n : Nat) : ((n : Int) ≤ (n : Int) + 1) = True := eq_true (by omega)
theorem cut1 {s : List UInt8} {j : Nat} {c : UInt8} (h : s[j]? = some c) : List.take (j + 1 - j) (List.drop j s) = [c] := by
  obtain ⟨hj, rfl⟩ := List.getElem?_eq_some_iff.1 h
  rw [show j + 1 - j = 1 by omega, List.drop_eq_getElem_cons hj]
  rfl
end Go.Ab
namespace Go.Ab
open Go.RowKit Go.Proofs
theorem drop_of {s : List UInt8} {j : Nat} {c : UInt8} (h : s[j]? = some c) : s.drop j = c :: s.drop (j + 1) := by
  obtain ⟨hj, rfl⟩ := List.getElem?_eq_some_iff.1 h
  exact List.drop_eq_getElem_cons hj
end Go.Ab
namespace Go.Ab
open Go.RowKit Go.Proofs
def tname_m : List PA → Option (List PA) := ms fun s => some [.b (nameB s)]
def tfmt_m : List PA → Option (List PA) := m1 fun n => if decide (-9223372036854775808 ≤ n ∧ n ≤ 9223372036854775807) = true then some [.c (.str (Lib.itoa n))] else none
def rfmt_m : List PA → Option (List PA) := m1 fun n => if decide (-9223372036854775808 ≤ n ∧ n ≤ 9223372036854775807) = true then some [.c (.str (Lib.itoa n))] else none
def okN (j : Int) (c : Int) : Prop := (97 ≤ c ∧ c ≤ 122) ∨ (j ≠ 0 ∧ ((48 ≤ c ∧ c ≤ 57) ∨ c = 45))
theorem nm_ok {j : Nat} {c : UInt8} {r : List UInt8} (h : okN j c.toNat) : nmAll (decide (j = 0)) (c :: r) = nmAll false r := by
  have : (letB c || (!decide (j = 0) && digB c)) = true := by
    simp only [letB, digB, isDig, Bool.or_eq_true, Bool.and_eq_true, decide_eq_true_eq, Bool.not_eq_true', decide_eq_false_iff_not]
    unfold okN at h
    omega
  rw [nmAll, this, Bool.true_and]
theorem nm_no {j : Nat} {c : UInt8} {r : List UInt8} (h : ¬ okN j c.toNat) : nmAll (decide (j = 0)) (c :: r) = false := by
  have : (letB c || (!decide (j = 0) && digB c)) = false := by
    rw [Bool.eq_false_iff]
    intro hc
    simp only [letB, digB, isDig, Bool.or_eq_true, Bool.and_eq_true, decide_eq_true_eq, Bool.not_eq_true', decide_eq_false_iff_not] at hc
    unfold okN at h
    omega
  rw [nmAll, this, Bool.false_and]
theorem dec_at {s : List UInt8} {j : Nat} {c : UInt8} (h : s[j]? = some c) : (c.toNat < 128 → Utf8.decode ⟨s.toArray⟩ j = (c.toNat, 1)) ∧ (¬ c.toNat < 128 → 128 ≤ (Utf8.decode ⟨s.toArray⟩ j).1 ∧ 1 ≤ (Utf8.decode ⟨s.toArray⟩ j).2) := by
  obtain ⟨hj, rfl⟩ := List.getElem?_eq_some_iff.1 h
  have e : s = s.take j ++ s[j] :: s.drop (j + 1) := by rw [← List.drop_eq_getElem_cons hj, List.take_append_drop]
  have hl : (s.take j).length = j := by rw [List.length_take]; omega
  have k1 := @dec_asc (s.take j) (s.drop (j + 1)) s[j]
  have k2 := @dec_high (s.take j) (s.drop (j + 1)) s[j]
  rw [hl, ← e] at k1 k2
  exact ⟨k1, k2⟩
theorem tname_ok : PureC Tryz.prog Gt 111 tname_m := by
  refine pure_of_awp (X := ctx Tryz.prog Gt []) Tryz.func111 rfl rfl (by kernel_rfl) (by kernel_rfl) AllOk.nil.kok ?_
  intro args r h0
  obtain ⟨s, rfl, h⟩ := ms_inv h0
  refine ⟨Nat.le_of_ble_eq_true rfl, ?_⟩
  cases h
  by_cases hs : s = []
  · subst hs
    have hc := Nat.zero_add 0
    repeat' (first | simp only [hc, Tryz.f111, SX, ZZ, simprocAttr, ↓reduceIte] )
    all_goals simp [nameB, DV.b]
  have hs2 : (s == []) = false := by simp [hs]
  have hpos := List.length_pos_iff.2 hs
  by_cases hl2 : (12 : Int) < s.length
  · have : nameB s = false := by simp [nameB]; omega
    have hc := Nat.zero_add 0
    repeat' (first | simp only [hc, Tryz.f111, SX, hs2, hl2, ZZ, simprocAttr, ↓reduceIte] )
    all_goals simp [this, DV.b]
  have hn : nameB s = nmAll true s := by
    unfold nameB
    rw [show decide (1 ≤ s.length) = true by simp; omega, show decide (s.length ≤ 12) = true by simp; omega]; rfl
  have hc := Nat.zero_add 0
  repeat' (first | simp only [hc, Tryz.f111, SX, hs2, hl2, ZZ, simprocAttr, ↓reduceIte] )
  refine awp_loop (σ := Nat) (fun j => j ≤ s.length ∧ nameB s = nmAll (decide (j = 0)) (s.drop j)) (fun j => ⟨[(14, .v (.c (.it 0)))], [.siter s j]⟩) (fun j => s.length - j) 0 (Wk.sub' (by simp [subT, look]) rfl) (by simp [hn]) ?_
  rintro j ⟨hj, hout⟩
  by_cases hjl : j < s.length
  · have e1 : s[j]? = some s[j] := by simp [hjl]
    have hlt : (j < s.length) = True := eq_true hjl
    generalize s[j] = c at *
    rw [drop_of e1] at hout
    have hno : ¬ okN j c.toNat → nameB s = false := fun h => by rw [hout, nm_no h]
    have hok : okN j c.toNat → nameB s = nmAll (decide (j + 1 = 0)) (s.drop (j + 1)) := fun h => by rw [hout, nm_ok h, decide_eq_false (by omega)]
    obtain ⟨d1, d2⟩ := dec_at e1
    by_cases ha : c.toNat < 128
    · have d3 := d1 ha
      have hc := Nat.zero_add 0
      repeat' (first | simp only [hc, SX, hlt, d3, ZZ, simprocAttr, ↓reduceIte] | ((first | apply Za | apply Zb | apply Zd) <;> intro hc) )
      all_goals first
        | (exfalso; omega)
        | (have h := hno (by unfold okN; omega); simp [h, DV.b]; done)
        | exact lp_next (j + 1) (Wk.sub' (by simp [subT, look]) rfl) ⟨by omega, hok (by unfold okN; omega)⟩ (by omega)
    have d3 := (d2 ha).1
    have h := hno (by unfold okN; omega)
    have a1 : (((Utf8.decode ⟨s.toArray⟩ j).1 : Int) ≤ 122) = False := eq_false (by omega)
    have a2 : ((97 : Int) ≤ ((Utf8.decode ⟨s.toArray⟩ j).1)) = True := eq_true (by omega)
    have a3 : (((Utf8.decode ⟨s.toArray⟩ j).1 : Int) = 45) = False := eq_false (by omega)
    have a4 : (((Utf8.decode ⟨s.toArray⟩ j).1 : Int) < 48) = False := eq_false (by omega)
    have a5 : ((57 : Int) < ((Utf8.decode ⟨s.toArray⟩ j).1)) = True := eq_true (by omega)
    have hc := Nat.zero_add 0
    repeat' (first | simp only [hc, SX, hlt, a1, a2, a3, a4, a5, ZZ, simprocAttr, ↓reduceIte] | (apply Za <;> intro hc) )
    all_goals simp [h, DV.b]
  have hlt : (j < s.length) = False := eq_false hjl
  rw [List.drop_of_length_le (by omega)] at hout
  have hc := Nat.zero_add 0
  repeat' (first | simp only [hc, SX, hlt, ZZ, simprocAttr, ↓reduceIte] | refine Zj ?_)
  simp [hout, nmAll, DV.b]
theorem tfmt_ok : PureC Tryz.prog Gt 94 tfmt_m := by
  refine pure_of_awp (X := ctx Tryz.prog Gt [(129, itoa_m)]) Tryz.func94 rfl rfl (by kernel_rfl) (by kernel_rfl) (AllOk.cons itoa_ok AllOk.nil).kok ?_
  intro args r h0
  obtain ⟨n, rfl, h⟩ := m1_inv h0
  refine ⟨Nat.le_of_ble_eq_true rfl, ?_⟩
  split at h
  · rename_i hn
    cases h
    have hc := Nat.zero_add 0
    repeat' (first | simp only [hc, Tryz.f94, SX, itoa_m, m1_eq, hn, ZZ, simprocAttr, ↓reduceIte] )
    try simp
  cases h
theorem dec_len : ∀ (n u : Nat), u < n → (Lib.decDigits u).length ≤ u / 10 + 1
  | 0, u, h => by omega
  | n + 1, u, h => by
    by_cases hu : u < 10
    · rw [dec_small hu]; simp
    rw [dec_big hu]
    have := dec_len n (u / 10) (by omega)
    simp only [List.length_append, List.length_singleton]
    omega
def dd (u : Nat) : List UInt8 := if u = 0 then [] else Lib.decDigits u
theorem dig10 : ∀ n : Nat, n < 10 → ([48, 49, 50, 51, 52, 53, 54, 55, 56, 57] : List UInt8)[n]? = some (UInt8.ofNat (48 + n)) := by decide +kernel
theorem tq {m : Int} : (m.tdiv 10).natAbs = m.natAbs / 10 ∧ (-9223372036854775808 ≤ m → m ≤ 9223372036854775807 → -9223372036854775808 ≤ m.tdiv 10 ∧ m.tdiv 10 ≤ 9223372036854775807) := by
  by_cases h : 0 ≤ m
  · rw [Int.tdiv_eq_ediv_of_nonneg h]; omega
  have e : m.tdiv 10 = -((-m) / 10) := by
    rw [← Int.tdiv_eq_ediv_of_nonneg (by omega), Int.neg_tdiv, Int.neg_neg]
  rw [e]; omega
theorem tr {m : Int} : (0 ≤ m.tmod 10 ∧ m.tmod 10 = ((m.natAbs % 10 : Nat) : Int)) ∨ (m.tmod 10 < 0 ∧ 0 - m.tmod 10 = ((m.natAbs % 10 : Nat) : Int)) := by
  by_cases h : 0 ≤ m
  · rw [Int.tmod_eq_emod_of_nonneg h]; omega
  have e : m.tmod 10 = -((-m) % 10) := by
    rw [← Int.tmod_eq_emod_of_nonneg (by omega), Int.neg_tmod, Int.neg_neg]
  rw [e]; omega
theorem rfmt_ok : PureC Tryz.prog Gt 109 rfmt_m := by
  refine pure_of_awp (X := ctx Tryz.prog Gt []) Tryz.func109 rfl rfl (by kernel_rfl) (by kernel_rfl) AllOk.nil.kok ?_
  intro args r h0
  obtain ⟨n, rfl, h⟩ := m1_inv h0
  refine ⟨Nat.le_of_ble_eq_true rfl, ?_⟩
  split at h
  · rename_i hn
    obtain ⟨hn1, hn2⟩ := of_decide_eq_true hn
    cases h
    by_cases hz : n = 0
    · subst hz
      have hc := Nat.zero_add 0
      repeat' (first | simp only [hc, Tryz.f109, SX, ZZ, simprocAttr, ↓reduceIte] )
      all_goals simp [itoa_spec, dec_small]
    have hc := Nat.zero_add 0
    repeat' (first | simp only [hc, Tryz.f109, SX, hz, ZZ, simprocAttr, ↓reduceIte] )
    have hlen := dec_len (n.natAbs + 1) n.natAbs (by omega)
    refine awp_loop (σ := Int × List UInt8) (fun p => -9223372036854775808 ≤ p.1 ∧ p.1 ≤ 9223372036854775807 ∧ dd p.1.natAbs ++ p.2 = Lib.decDigits n.natAbs) (fun p => ⟨[(4, AV.i p.1), (3, AV.s p.2), (0, AV.i n)], []⟩) (fun p => p.1.natAbs) (n, []) (Wk.sub' (by simp [subT, look]) rfl) ⟨hn1, hn2, by rw [dd, if_neg (by omega), List.append_nil]⟩ ?_
    rintro ⟨m, out⟩ ⟨hm1, hm2, hout⟩
    dsimp only at hm1 hm2 hout ⊢
    have hol : out.length ≤ n.natAbs / 10 + 1 := by
      have := congrArg List.length hout
      rw [List.length_append] at this
      omega
    by_cases hm0 : m = 0
    · subst hm0
      have hout' : out = Lib.decDigits n.natAbs := by simpa [dd] using hout
      by_cases hneg : n < 0
      · have k1 : (1 + out.length ≤ 4611686018427387904) = True := eq_true (by omega)
        have hc := Nat.zero_add 0
        repeat' (first | simp only [hc, SX, hneg, k1, ZZ, simprocAttr, ↓reduceIte] | refine Zj ?_)
        all_goals simp [itoa_spec, hneg, hout']
      have e : n.natAbs = n.toNat := by omega
      have hc := Nat.zero_add 0
      repeat' (first | simp only [hc, SX, hneg, ZZ, simprocAttr, ↓reduceIte] | refine Zj ?_)
      all_goals simp [itoa_spec, hneg, hout', e]
    have hma : m.natAbs ≠ 0 := by omega
    obtain ⟨q1, q2⟩ := @tq m
    obtain ⟨q3, q4⟩ := q2 hm1 hm2
    have w1 := wI (n := m.tdiv 10) q3 q4
    have hstep : dd (m.natAbs / 10) ++ (UInt8.ofNat (48 + m.natAbs % 10) :: out) = Lib.decDigits n.natAbs := by
      rw [← hout]
      conv => rhs; rw [dd, if_neg hma, dec_rec _ hma]
      simp [dd]
    have z1 : (((m.natAbs % 10 : Nat) : Int) + 1 ≤ (10 : Int)) = True := eq_true (by omega)
    have g1 := cut1 (dig10 (m.natAbs % 10) (by omega))
    have w2 := wI (n := ((m.natAbs % 10 : Nat) : Int) + 1) (by omega) (by omega)
    have w3 := wI (n := ((m.natAbs % 10 : Nat) : Int)) (by omega) (by omega)
    have k1 : (1 + out.length ≤ 4611686018427387904) = True := eq_true (by omega)
    generalize hd : m.natAbs % 10 = dg at *
    rcases @tr m with ⟨r1, r2⟩ | ⟨r1, r2⟩
    · rw [hd] at r2
      have r3 : ((dg : Int) < 0) = False := eq_false (by omega)
      have hc := Nat.zero_add 0
      repeat' (first | simp only [hc, SX, hm0, r2, r3, w1, w2, w3, z1, g1, tn1, le1, nn, k1, Int.cast_ofNat_Int, ZZ, simprocAttr, ↓reduceIte] )
      exact lp_next (m.tdiv 10, UInt8.ofNat (48 + dg) :: out) (Wk.sub' (by simp [subT, look]) rfl) ⟨q3, q4, by rw [q1]; exact hstep⟩ (by simp only [q1]; omega)
    rw [hd] at r2
    have hc := Nat.zero_add 0
    repeat' (first | simp only [hc, SX, hm0, r1, r2, w1, w2, w3, z1, g1, tn1, le1, nn, k1, Int.cast_ofNat_Int, ZZ, simprocAttr, ↓reduceIte] )
    exact lp_next (m.tdiv 10, UInt8.ofNat (48 + dg) :: out) (Wk.sub' (by simp [subT, look]) rfl) ⟨q3, q4, by rw [q1]; exact hstep⟩ (by simp only [q1]; omega)
  cases h
end Go.Ab
