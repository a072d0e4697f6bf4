/-
  Texts of the layer and of the laws, put together: AbY4, AbY5, AbY6.
-/
import Derived.Test.YtbcklcmhmbfgnaaGreatDoorAbF18
set_option linter.unusedSimpArgs false
set_option linter.unusedVariables false
set_option maxRecDepth 100000
namespace Go.Ab
open Go.RowKit Go.Proofs
def tname_m : List PA → Option (List PA) := ms fun s => some [.b (nameB s)]
def tfmt_m : List PA → Option (List PA) := m1 fun n => if decide (-9223372036854775808 ≤ n ∧ n ≤ 9223372036854775807) = true then some [.c (.str (Lib.itoa n))] else none
def okN (j : Int) (c : Int) : Prop := (97 ≤ c ∧ c ≤ 122) ∨ (j ≠ 0 ∧ ((48 ≤ c ∧ c ≤ 57) ∨ c = 45))
theorem nm_ok {j : Nat} {c : UInt8} {r : List UInt8} (h : okN j c.toNat) : nmAll (decide (j = 0)) (c :: r) = nmAll false r := by
  have : (letB c || (!decide (j = 0) && digB c)) = true := by
    simp only [letB, digB, isDig, Bool.or_eq_true, Bool.and_eq_true, decide_eq_true_eq, Bool.not_eq_true', decide_eq_false_iff_not]
    unfold okN at h
    omega
  rw [nmAll, this, Bool.true_and]
theorem nm_no {j : Nat} {c : UInt8} {r : List UInt8} (h : ¬ okN j c.toNat) : nmAll (decide (j = 0)) (c :: r) = false := by
  have : (letB c || (!decide (j = 0) && digB c)) = false := by
    rw [Bool.eq_false_iff]
    intro hc
    simp only [letB, digB, isDig, Bool.or_eq_true, Bool.and_eq_true, decide_eq_true_eq, Bool.not_eq_true', decide_eq_false_iff_not] at hc
    unfold okN at h
    omega
  rw [nmAll, this, Bool.false_and]
theorem dec_at {s : List UInt8} {j : Nat} {c : UInt8} (h : s[j]? = some c) : (c.toNat < 128 → Utf8.decode ⟨s.toArray⟩ j = (c.toNat, 1)) ∧ (¬ c.toNat < 128 → 128 ≤ (Utf8.decode ⟨s.toArray⟩ j).1 ∧ 1 ≤ (Utf8.decode ⟨s.toArray⟩ j).2) := by
  obtain ⟨hj, rfl⟩ := List.getElem?_eq_some_iff.1 h
  have e : s = s.take j ++ s[j] :: s.drop (j + 1) := by rw [← List.drop_eq_getElem_cons hj, List.take_append_drop]
  have hl : (s.take j).length = j := by rw [List.length_take]; omega
  have k1 := @dec_asc (s.take j) (s.drop (j + 1)) s[j]
  have k2 := @dec_high (s.take j) (s.drop (j + 1)) s[j]
  rw [hl, ← e] at k1 k2
  exact ⟨k1, k2⟩
theorem tname_ok : PureC Tryz.prog Gt 16 tname_m := by
  refine pure_of_awp (X := ctx Tryz.prog Gt []) Tryz.func16 rfl rfl (by kernel_rfl) (by kernel_rfl) AllOk.nil.kok ?_
  intro args r h0
  obtain ⟨s, rfl, h⟩ := ms_inv h0
  refine ⟨Nat.le_of_ble_eq_true rfl, ?_⟩
  cases h
  by_cases hs : s = []
  · subst hs
    have hc := Nat.zero_add 0
    repeat' (first | simp only [hc, Tryz.f16, SX, ZZ, simprocAttr, ↓reduceIte] | ((first | apply Za | apply Zb | apply Zc | apply Zd | apply Ze | apply Zf | apply Zg | apply Zh) <;> intro hc) | refine Zj ?_)
    all_goals simp [nameB, DV.b]
  have hs2 : (s == []) = false := by simp [hs]
  have hpos := List.length_pos_iff.2 hs
  by_cases hl2 : (12 : Int) < s.length
  · have : nameB s = false := by simp [nameB]; omega
    have hc := Nat.zero_add 0
    repeat' (first | simp only [hc, Tryz.f16, SX, hs2, hl2, ZZ, simprocAttr, ↓reduceIte] | ((first | apply Za | apply Zb | apply Zc | apply Zd | apply Ze | apply Zf | apply Zg | apply Zh) <;> intro hc) | refine Zj ?_)
    all_goals simp [this, DV.b]
  have hn : nameB s = nmAll true s := by
    unfold nameB
    rw [show decide (1 ≤ s.length) = true by simp; omega, show decide (s.length ≤ 12) = true by simp; omega]; rfl
  have hc := Nat.zero_add 0
  repeat' (first | simp only [hc, Tryz.f16, SX, hs2, hl2, ZZ, simprocAttr, ↓reduceIte] | ((first | apply Za | apply Zb | apply Zc | apply Zd | apply Ze | apply Zf | apply Zg | apply Zh) <;> intro hc) | refine Zj ?_)
  refine awp_loop (σ := Nat) (fun j => j ≤ s.length ∧ nameB s = nmAll (decide (j = 0)) (s.drop j)) (fun j => ⟨[(14, .v (.c (.it 0)))], [.siter s j]⟩) (fun j => s.length - j) 0 (Wk.sub' (by simp [subT, look]) rfl) (by simp [hn]) ?_
  rintro j ⟨hj, hout⟩
  by_cases hjl : j < s.length
  · have e1 : s[j]? = some s[j] := by simp [hjl]
    have hlt : (j < s.length) = True := eq_true hjl
    generalize s[j] = c at *
    rw [drop_of e1] at hout
    have hno : ¬ okN j c.toNat → nameB s = false := fun h => by rw [hout, nm_no h]
    have hok : okN j c.toNat → nameB s = nmAll (decide (j + 1 = 0)) (s.drop (j + 1)) := fun h => by rw [hout, nm_ok h, decide_eq_false (by omega)]
    obtain ⟨d1, d2⟩ := dec_at e1
    by_cases ha : c.toNat < 128
    · have d3 := d1 ha
      have hc := Nat.zero_add 0
      repeat' (first | simp only [hc, SX, hlt, d3, ZZ, simprocAttr, ↓reduceIte] | ((first | apply Za | apply Zb | apply Zc | apply Zd | apply Ze | apply Zf | apply Zg | apply Zh) <;> intro hc) | refine Zj ?_)
      all_goals first
        | (exfalso; omega)
        | (have h := hno (by unfold okN; omega); simp [h, DV.b]; done)
        | exact lp_next (j + 1) (Wk.sub' (by simp [subT, look]) rfl) ⟨by omega, hok (by unfold okN; omega)⟩ (by omega)
    have d3 := (d2 ha).1
    have h := hno (by unfold okN; omega)
    have a1 : (((Utf8.decode ⟨s.toArray⟩ j).1 : Int) ≤ 122) = False := eq_false (by omega)
    have a2 : ((97 : Int) ≤ ((Utf8.decode ⟨s.toArray⟩ j).1)) = True := eq_true (by omega)
    have a3 : (((Utf8.decode ⟨s.toArray⟩ j).1 : Int) = 45) = False := eq_false (by omega)
    have a4 : (((Utf8.decode ⟨s.toArray⟩ j).1 : Int) < 48) = False := eq_false (by omega)
    have a5 : ((57 : Int) < ((Utf8.decode ⟨s.toArray⟩ j).1)) = True := eq_true (by omega)
    have hc := Nat.zero_add 0
    repeat' (first | simp only [hc, SX, hlt, a1, a2, a3, a4, a5, ZZ, simprocAttr, ↓reduceIte] | ((first | apply Za | apply Zb | apply Zc | apply Zd | apply Ze | apply Zf | apply Zg | apply Zh) <;> intro hc) | refine Zj ?_)
    all_goals simp [h, DV.b]
  have hlt : (j < s.length) = False := eq_false hjl
  rw [List.drop_of_length_le (by omega)] at hout
  have hc := Nat.zero_add 0
  repeat' (first | simp only [hc, SX, hlt, ZZ, simprocAttr, ↓reduceIte] | ((first | apply Za | apply Zb | apply Zc | apply Zd | apply Ze | apply Zf | apply Zg | apply Zh) <;> intro hc) | refine Zj ?_)
  simp [hout, nmAll, DV.b]
theorem tfmt_ok : PureC Tryz.prog Gt 25 tfmt_m := by
  refine pure_of_awp (X := ctx Tryz.prog Gt [(47, itoa_m)]) Tryz.func25 rfl rfl (by kernel_rfl) (by kernel_rfl) (AllOk.cons itoa_ok AllOk.nil).kok ?_
  intro args r h0
  obtain ⟨n, rfl, h⟩ := m1_inv h0
  refine ⟨Nat.le_of_ble_eq_true rfl, ?_⟩
  split at h
  · rename_i hn
    cases h
    have hc := Nat.zero_add 0
    repeat' (first | simp only [hc, Tryz.f25, SX, itoa_m, m1_eq, hn, ZZ, simprocAttr, ↓reduceIte] | ((first | apply Za | apply Zb | apply Zc | apply Zd | apply Ze | apply Zf | apply Zg | apply Zh) <;> intro hc) | refine Zj ?_)
    try simp
  cases h
def dd (u : Nat) : List UInt8 := if u = 0 then [] else Lib.decDigits u
end Go.Ab
namespace Go.Ab
open Go.RowKit Go.Proofs
theorem dig_iff {c : UInt8} : isDig c = true ↔ 48 ≤ c.toNat ∧ c.toNat ≤ 57 := by simp [isDig]
theorem take_snoc {s : List UInt8} {j : Nat} {c : UInt8} (h : s[j]? = some c) : s.take (j + 1) = s.take j ++ [c] := by
  obtain ⟨hj, rfl⟩ := List.getElem?_eq_some_iff.1 h
  exact List.take_succ_eq_append_getElem hj
theorem bad_mem {d : List UInt8} {j : Nat} {c : UInt8} (h : d[j]? = some c) (hc : ¬ isDig c = true) : ¬ d.all isDig = true := fun h2 => by
  rw [List.all_eq_true] at h2
  exact hc (h2 c (List.mem_of_getElem? h))
@[irreducible] def capN (v : Nat) : Nat := if v ≤ 2147483648 then v else 2147483649
end Go.Ab
namespace Go.Ab
open Go.RowKit Go.Proofs
def slT (f : Bool) : Option (List (List UInt8)) → D
  | none => .sl true []
  | some l => .sl f (l.map rowS)
def tfields_m : List PA → Option (List PA) := ms fun s => some [.c (slT true (fieldsF s).1), .i (fieldsF s).2]
def tjoin_m : List PA → Option (List PA) := ml fun l => if decide (l.length ≤ 140737488355328 ∧ (Lib.join l [32]).length ≤ 281474976710656) = true then some [.c (.str (Lib.join l [32]))] else none
theorem tjoin_ok : PureC Tryz.prog Gt 24 tjoin_m := by
  refine pure_of_awp (X := ctx Tryz.prog Gt [(46, join_m)]) Tryz.func24 rfl rfl (by kernel_rfl) (by kernel_rfl) (AllOk.cons join_ok AllOk.nil).kok ?_
  intro args r h0
  obtain ⟨f, l, rfl, h⟩ := ml_inv h0
  refine ⟨Nat.le_of_ble_eq_true rfl, ?_⟩
  split at h
  · rename_i hn
    cases h
    have hc := Nat.zero_add 0
    repeat' (first | simp only [hc, Tryz.f24, SX, join_m, mls_eq, hn, ZZ, simprocAttr, ↓reduceIte] | ((first | apply Za | apply Zb | apply Zc | apply Zd | apply Ze | apply Zf | apply Zg | apply Zh) <;> intro hc) | refine Zj ?_)
    try simp
  cases h
theorem okF_iff {c : UInt8} : okF c = true ↔ 32 ≤ c.toNat ∧ c.toNat ≤ 126 := by simp [okF]
theorem fields_no {s : List UInt8} (h1 : ¬ 512 < s.length) (h2 : s ≠ []) (h : ¬ (s.all okF = true ∧ [] ∉ spl 32 s)) : fieldsF s = (none, 5) := by
  unfold fieldsF; rw [if_neg h1, if_neg h2, if_neg h]
theorem fields_yes {s : List UInt8} (h1 : ¬ 512 < s.length) (h2 : s ≠ []) (h : s.all okF = true ∧ [] ∉ spl 32 s) : fieldsF s = (some (spl 32 s), 0) := by
  unfold fieldsF; rw [if_neg h1, if_neg h2, if_pos h]
theorem bad_ok {d : List UInt8} {j : Nat} {c : UInt8} (h : d[j]? = some c) (hc : ¬ okF c = true) : ¬ d.all okF = true := fun h2 => by
  rw [List.all_eq_true] at h2
  exact hc (h2 c (List.mem_of_getElem? h))
theorem tfields_ok : PureC Tryz.prog Gt 53 tfields_m := by
  refine pure_of_awp (X := ctx Tryz.prog Gt [(72, split_m)]) Tryz.func53 rfl rfl (by kernel_rfl) (by kernel_rfl) (AllOk.cons split_ok AllOk.nil).kok ?_
  intro args r h0
  obtain ⟨s, rfl, h⟩ := ms_inv h0
  refine ⟨Nat.le_of_ble_eq_true rfl, ?_⟩
  cases h
  by_cases hl : (512 : Int) < s.length
  · have hE : fieldsF s = (none, 4) := by unfold fieldsF; rw [if_pos (by omega)]
    have hc := Nat.zero_add 0
    repeat' (first | simp only [hc, Tryz.f53, SX, hl, ZZ, simprocAttr, ↓reduceIte] | ((first | apply Za | apply Zb | apply Zc | apply Zd | apply Ze | apply Zf | apply Zg | apply Zh) <;> intro hc) | refine Zj ?_)
    all_goals simp [hE, slT, DV.i]
  by_cases hs : s = []
  · subst hs
    have hE : fieldsF [] = (none, 0) := rfl
    have hc := Nat.zero_add 0
    repeat' (first | simp only [hc, Tryz.f53, SX, hl, ZZ, simprocAttr, ↓reduceIte] | ((first | apply Za | apply Zb | apply Zc | apply Zd | apply Ze | apply Zf | apply Zg | apply Zh) <;> intro hc) | refine Zj ?_)
    all_goals simp [hE, slT, DV.i]
  have hs2 : (s == []) = false := by simp [hs]
  have t2 : split_m [.c (.str s), .c (.str [32])] = some [.c (.sl true ((spl 32 s).map rowS))] := by
    rw [split_m, mss_eq, if_pos (decide_eq_true ⟨by omega, rfl⟩)]; rfl
  have hc := Nat.zero_add 0
  repeat' (first | simp only [hc, Tryz.f53, SX, hl, hs2, ZZ, simprocAttr, ↓reduceIte] | ((first | apply Za | apply Zb | apply Zc | apply Zd | apply Ze | apply Zf | apply Zg | apply Zh) <;> intro hc) | refine Zj ?_)
  refine awp_loop (σ := Nat) (fun j => j ≤ s.length ∧ (s.take j).all okF = true) (fun j => ⟨[(15, AV.i j), (14, AV.i s.length), (0, AV.s s)], []⟩) (fun j => s.length - j) 0 (Wk.sub' (by simp [subT, look]) rfl) (by simp) ?_
  rintro j ⟨hj, hout⟩
  by_cases hjl : j < s.length
  · have e1 : s[j]? = some s[j] := by simp [hjl]
    have hlt : ((j : Int) < (s.length : Int)) = True := eq_true (by omega)
    have hw := wI (n := (j : Int) + 1) (by omega) (by omega)
    generalize s[j] = c at *
    by_cases hok : okF c = true
    · have hok' := okF_iff.1 hok
      have b1 : ((c.toNat : Int) < 32) = False := eq_false (by omega)
      have b2 : ((126 : Int) < (c.toNat : Int)) = False := eq_false (by omega)
      have hc := Nat.zero_add 0
      repeat' (first | simp only [hc, SX, e1, hlt, nn, hw, b1, b2, ZZ, simprocAttr, ↓reduceIte] | ((first | apply Za | apply Zb | apply Zc | apply Zd | apply Ze | apply Zf | apply Zg | apply Zh) <;> intro hc) | refine Zj ?_)
      exact lp_next (j + 1) (Wk.sub' (by simp [subT, look]) rfl) ⟨by omega, by rw [take_snoc e1, List.all_append, hout]; simp [hok]⟩ (by omega)
    have hE := fields_no (by omega) hs (fun h => bad_ok e1 hok h.1)
    have hok' : ¬ (32 ≤ c.toNat ∧ c.toNat ≤ 126) := fun h => hok (okF_iff.2 h)
    by_cases b0 : (c.toNat : Int) < 32
    · skip
      have hc := Nat.zero_add 0
      repeat' (first | simp only [hc, SX, e1, hlt, nn, b0, ZZ, simprocAttr, ↓reduceIte] | ((first | apply Za | apply Zb | apply Zc | apply Zd | apply Ze | apply Zf | apply Zg | apply Zh) <;> intro hc) | refine Zj ?_)
      all_goals simp [hE, slT, DV.i]
    have b2 : ((126 : Int) < (c.toNat : Int)) = True := eq_true (by omega)
    have hc := Nat.zero_add 0
    repeat' (first | simp only [hc, SX, e1, hlt, nn, b0, b2, ZZ, simprocAttr, ↓reduceIte] | ((first | apply Za | apply Zb | apply Zc | apply Zd | apply Ze | apply Zf | apply Zg | apply Zh) <;> intro hc) | refine Zj ?_)
    all_goals simp [hE, slT, DV.i]
  have hlt : ((j : Int) < (s.length : Int)) = False := eq_false (by omega)
  rw [List.take_of_length_le (by omega)] at hout
  have hc := Nat.zero_add 0
  repeat' (first | simp only [hc, SX, hlt, t2, ZZ, simprocAttr, ↓reduceIte] | ((first | apply Za | apply Zb | apply Zc | apply Zd | apply Ze | apply Zf | apply Zg | apply Zh) <;> intro hc) | refine Zj ?_)
  have hfn : ¬ [] ∉ spl 32 s → fieldsF s = (none, 5) := fun h => fields_no (by omega) hs (fun h2 => h h2.2)
  have hfy : [] ∉ spl 32 s → fieldsF s = (some (spl 32 s), 0) := fun h => fields_yes (by omega) hs ⟨hout, h⟩
  have hsl := spl_len 32 s
  generalize spl 32 s = l at *
  have l1 : ((l.map rowS).length : Int) = l.length := by simp
  refine awp_loop (σ := Nat) (fun k => k ≤ l.length ∧ [] ∉ l.take k) (fun k => ⟨[(33, AV.i k), (32, AV.i l.length), (31, AV.d (.sl true (l.map rowS))), (5, AV.d (.sl true (l.map rowS)))], []⟩) (fun k => l.length - k) 0 (Wk.sub' (by simp [subT, look]) rfl) (by simp) ?_
  rintro k ⟨hk, hkt⟩
  by_cases hkl : k < l.length
  · have e2 : (l.map rowS)[k]? = some [.str l[k]] := by simp [hkl, rowS]
    have hlt2 : ((k : Int) < (l.length : Int)) = True := eq_true (by omega)
    have hw := wI (n := (k : Int) + 1) (by omega) (by omega)
    by_cases he : l[k] = []
    · have hb : (l[k] == []) = true := by simp [he]
      have hE := hfn (fun h => h (he ▸ List.getElem_mem hkl))
      have hc := Nat.zero_add 0
      repeat' (first | simp only [hc, SX, l1, e2, hlt2, nn, hw, hb, ZZ, simprocAttr, ↓reduceIte] | ((first | apply Za | apply Zb | apply Zc | apply Zd | apply Ze | apply Zf | apply Zg | apply Zh) <;> intro hc) | refine Zj ?_)
      all_goals simp [hE, slT, DV.i]
    have hb : (l[k] == []) = false := by simp [he]
    have hc := Nat.zero_add 0
    repeat' (first | simp only [hc, SX, l1, e2, hlt2, nn, hw, hb, ZZ, simprocAttr, ↓reduceIte] | ((first | apply Za | apply Zb | apply Zc | apply Zd | apply Ze | apply Zf | apply Zg | apply Zh) <;> intro hc) | refine Zj ?_)
    refine lp_next (k + 1) (Wk.sub' (by simp [subT, look]) rfl) ⟨by omega, ?_⟩ (by omega)
    rw [List.take_succ_eq_append_getElem hkl, List.mem_append]
    rintro (h | h)
    · exact hkt h
    simp at h; exact he h
  have hlt2 : ((k : Int) < (l.length : Int)) = False := eq_false (by omega)
  rw [List.take_of_length_le (by omega)] at hkt
  have hE := hfy hkt
  have hc := Nat.zero_add 0
  repeat' (first | simp only [hc, SX, l1, hlt2, ZZ, simprocAttr, ↓reduceIte] | ((first | apply Za | apply Zb | apply Zc | apply Zd | apply Ze | apply Zf | apply Zg | apply Zh) <;> intro hc) | refine Zj ?_)
  all_goals simp [hE, slT, DV.i]
end Go.Ab
