/-
  Texts of the layer and of the laws, put together: AbY1, AbY2, AbY3. No law is stated here.
-/
import Derived.Test.YteeepgnhkfmnaaaDoorAbVol23
import Derived.Test.YteeepgnhkfmnaaaDoorAbVol18
set_option linter.unusedSimpArgs false
set_option linter.unusedVariables false
set_option maxRecDepth 100000

/-
  What the functions of the texts compute: bytes, escapes.
-/
namespace Go.Ab
open Go.RowKit Go.Proofs

theorem SX : type_of% @si_eq ∧ type_of% @ss_eq ∧ type_of% @u8_of ∧ type_of% ST := ⟨@si_eq, @ss_eq, @u8_of, ST⟩

def plainI (n : Int) : Bool := decide (33 ≤ n) && decide (n ≤ 126) && !decide (n = 37)
theorem plainI_eq (c : UInt8) : plainI (c.toNat : Int) = plainB c := by
  unfold plainI plainB
  have e1 : decide ((33 : Int) ≤ (c.toNat : Int)) = decide (33 ≤ c.toNat) := decide_eq_decide.2 (by omega)
  have e2 : decide ((c.toNat : Int) ≤ 126) = decide (c.toNat ≤ 126) := decide_eq_decide.2 (by omega)
  have e3 : decide ((c.toNat : Int) = 37) = decide (c.toNat = 37) := decide_eq_decide.2 (by omega)
  rw [e1, e2, e3]

def tplain_m : List PA → Option (List PA) := mb fun n => some [.b (plainI n)]
def rplain_m : List PA → Option (List PA) := mb fun n => some [.b (plainI n)]


theorem tplain_ok : PureC Tryd.prog Gt 51 tplain_m := by
  refine pure_of_awp (X := ctx Tryd.prog Gt []) Tryd.func51 rfl rfl (by kernel_rfl) (by kernel_rfl) AllOk.nil.kok ?_
  intro args r h0
  obtain ⟨n, rfl, h⟩ := mb_inv h0
  refine ⟨Nat.le_of_ble_eq_true rfl, ?_⟩
  cases h
  have hc := Nat.zero_add 0
  repeat' (first | simp only [hc, Tryd.f51, AB, PL, RG, LP, TY, simprocAttr, ↓reduceIte, forall_const, eq_self, ne_eq, Option.some.injEq, beq_self_eq_true] | ((first | apply fin_ndec | apply fin_dec | apply cnd_ndec | apply cnd_dec' | apply fin_nsplit | apply fin_split | apply cnd_nsplit | apply cnd_split) <;> intro hc) | refine blk_exit_id ?_)
  all_goals (simp_all [plainI, DV.b]; try omega)

theorem rplain_ok : PureC Tryd.prog Gt 54 rplain_m := by
  refine pure_of_awp (X := ctx Tryd.prog Gt []) Tryd.func54 rfl rfl (by kernel_rfl) (by kernel_rfl) AllOk.nil.kok ?_
  intro args r h0
  obtain ⟨n, rfl, h⟩ := mb_inv h0
  refine ⟨Nat.le_of_ble_eq_true rfl, ?_⟩
  cases h
  have hc := Nat.zero_add 0
  repeat' (first | simp only [hc, Tryd.f54, AB, PL, RG, LP, TY, simprocAttr, ↓reduceIte, forall_const, eq_self, ne_eq, Option.some.injEq, beq_self_eq_true] | ((first | apply fin_ndec | apply fin_dec | apply cnd_ndec | apply cnd_dec' | apply fin_nsplit | apply fin_split | apply cnd_nsplit | apply cnd_split) <;> intro hc) | refine blk_exit_id ?_)
  all_goals (simp_all [plainI, DV.b]; try omega)

end Go.Ab

/-
  What the functions of the texts compute: Escape.
-/
namespace Go.Ab
open Go.RowKit Go.Proofs

def tesc_m : List PA → Option (List PA) := ms fun s => if decide (s.length ≤ 100000) = true then some [.c (.str (escF s))] else none
def resc_m : List PA → Option (List PA) := ms fun s => if decide (s.length ≤ 100000) = true then some [.c (.str (escF s))] else none

theorem hex16 : ∀ n : Nat, n < 16 → ([48, 49, 50, 51, 52, 53, 54, 55, 56, 57, 65, 66, 67, 68, 69, 70] : List UInt8)[n]? = some (hexD n) := by decide +kernel
theorem q16 (c : UInt8) : ((c.toNat : Int).tdiv 16) = ((c.toNat / 16 : Nat) : Int) := by
  rw [Int.tdiv_eq_ediv_of_nonneg (by omega)]; omega
theorem r16 (c : UInt8) : ((c.toNat : Int).tmod 16) = ((c.toNat % 16 : Nat) : Int) := by
  rw [Int.tmod_eq_emod_of_nonneg (by omega)]; omega
theorem esc1_len (c : UInt8) : (esc1 c).length ≤ 3 := by unfold esc1; split <;> simp
theorem nn (n : Nat) : ((0 : Int) ≤ (n : Int)) = True := eq_true (by omega)

theorem tesc_ok : PureC Tryd.prog Gt 26 tesc_m := by
  refine pure_of_awp (X := ctx Tryd.prog Gt [(51, tplain_m)]) Tryd.func26 rfl rfl (by kernel_rfl) (by kernel_rfl) (AllOk.cons tplain_ok AllOk.nil).kok ?_
  intro args r h0
  obtain ⟨s, rfl, h⟩ := ms_inv h0
  refine ⟨Nat.le_of_ble_eq_true rfl, ?_⟩
  split at h
  · rename_i hlen
    have hlen := of_decide_eq_true hlen
    cases h
    by_cases hs : s = []
    · subst hs
      have hc := Nat.zero_add 0
      repeat' (first | simp only [hc, Tryd.f26, SX, List.length_nil, AB, PL, RG, LP, TY, simprocAttr, ↓reduceIte, forall_const, eq_self, ne_eq, Option.some.injEq, beq_self_eq_true] | ((first | apply fin_ndec | apply fin_dec | apply cnd_ndec | apply cnd_dec' | apply fin_nsplit | apply fin_split | apply cnd_nsplit | apply cnd_split) <;> intro hc) | refine blk_exit_id ?_)
      all_goals simp_all [escF]
    · have hs2 : (s == []) = false := by simp [hs]
      have hc := Nat.zero_add 0
      repeat' (first | simp only [hc, Tryd.f26, SX, hs2, AB, PL, RG, LP, TY, simprocAttr, ↓reduceIte, forall_const, eq_self, ne_eq, Option.some.injEq, beq_self_eq_true] | ((first | apply fin_ndec | apply fin_dec | apply cnd_ndec | apply cnd_dec' | apply fin_nsplit | apply fin_split | apply cnd_nsplit | apply cnd_split) <;> intro hc) | refine blk_exit_id ?_)
      refine awp_loop (σ := Nat × List UInt8) (fun p => p.1 ≤ s.length ∧ p.2.length ≤ 3 * p.1 ∧ p.2 = (s.take p.1).flatMap esc1) (fun p => ⟨[(9, AV.i p.1), (8, AV.i s.length), (0, AV.s s), (3, .v (.c (.own 0 (p.2.map byR))))], [.tok p.2.length 1 none]⟩) (fun p => s.length - p.1) (0, []) (Wk.trans (Wk.own 3 1 (by omega) (by simp [look])) (Wk.sub' (by simp [subT, look]) rfl)) (by simp) ?_
      rintro ⟨j, out⟩ ⟨hj, ho, hout⟩
      dsimp only at hj ho hout ⊢
      have l1 : (out.map byR).length = out.length := by simp
      by_cases hjl : j < s.length
      · have e1 : s[j]? = some s[j] := by simp [hjl]
        have hlt : ((j : Int) < (s.length : Int)) = True := by simp; omega
        have hw := wI (n := (j : Int) + 1) (by omega) (by omega)
        have hstep : out ++ esc1 s[j] = (s.take (j + 1)).flatMap esc1 := by rw [List.take_succ_eq_append_getElem hjl, List.flatMap_append, hout]; simp
        have hc3 := esc1_len s[j]
        generalize s[j] = c at *
        have k3 : ((out.length + 1) * 1 ≤ 140737488355328) = True := eq_true (by omega)
        have k4 : (out.length + 1 ≤ 4611686018427387904) = True := eq_true (by omega)
        have k5 : ((out.length + 3) * 1 ≤ 140737488355328) = True := eq_true (by omega)
        have k6 : (out.length + 3 ≤ 4611686018427387904) = True := eq_true (by omega)
        have hcl := c.toNat_lt
        by_cases hp : plainB c = true
        · skip
          have hc := Nat.zero_add 0
          repeat' (first | simp only [hc, SX, e1, hlt, nn, hw, tplain_m, mb_eq, plainI_eq, hp, l1, k3, k4, AB, PL, RG, LP, TY, simprocAttr, ↓reduceIte, forall_const, eq_self, ne_eq, Option.some.injEq, beq_self_eq_true] | ((first | apply fin_ndec | apply fin_dec | apply cnd_ndec | apply cnd_dec' | apply fin_nsplit | apply fin_split | apply cnd_nsplit | apply cnd_split) <;> intro hc) | refine blk_exit_id ?_)
          exact lp_next (j + 1, out ++ esc1 c) (Wk.sub' (by simp [subT, look, byR, esc1, hp]) (by simp [esc1, hp])) ⟨by simp only []; omega, by simp only [List.length_append]; omega, hstep⟩ (by simp only []; omega)
        · have hp2 : plainB c = false := by simpa using hp
          have g1 := wU8 (n := ((c.toNat / 16 : Nat) : Int)) (by omega) (by omega)
          have g2 := hex16 (c.toNat / 16) (by omega)
          have g3 := hex16 (c.toNat % 16) (by omega)
          have hc := Nat.zero_add 0
          repeat' (first | simp only [hc, SX, e1, hlt, nn, hw, tplain_m, mb_eq, plainI_eq, hp2, l1, k5, k6, q16, r16, g1, g2, g3, AB, PL, RG, LP, TY, simprocAttr, ↓reduceIte, forall_const, eq_self, ne_eq, Option.some.injEq, beq_self_eq_true] | ((first | apply fin_ndec | apply fin_dec | apply cnd_ndec | apply cnd_dec' | apply fin_nsplit | apply fin_split | apply cnd_nsplit | apply cnd_split) <;> intro hc) | refine blk_exit_id ?_)
          exact lp_next (j + 1, out ++ esc1 c) (Wk.sub' (by simp [subT, look, byR, esc1, hp2]) (by simp [esc1, hp2])) ⟨by simp only []; omega, by simp only [List.length_append]; omega, hstep⟩ (by simp only []; omega)
      · have hlt : ((j : Int) < (s.length : Int)) = False := by simp; omega
        have hc := Nat.zero_add 0
        repeat' (first | simp only [hc, SX, hlt, AB, PL, RG, LP, TY, simprocAttr, ↓reduceIte, forall_const, eq_self, ne_eq, Option.some.injEq, beq_self_eq_true] | ((first | apply fin_ndec | apply fin_dec | apply cnd_ndec | apply cnd_dec' | apply fin_nsplit | apply fin_split | apply cnd_nsplit | apply cnd_split) <;> intro hc) | refine blk_exit_id ?_)
        rw [List.take_of_length_le (by omega)] at hout
        simp [escF, hs, hout]
  · cases h

theorem tn1 (n : Nat) : ((n : Int) + 1).toNat = n + 1 := by omega
theorem le1 (n : Nat) : ((n : Int) ≤ (n : Int) + 1) = True := eq_true (by omega)
theorem cut1 {s : List UInt8} {j : Nat} {c : UInt8} (h : s[j]? = some c) : List.take (j + 1 - j) (List.drop j s) = [c] := by
  obtain ⟨hj, rfl⟩ := List.getElem?_eq_some_iff.1 h
  rw [show j + 1 - j = 1 by omega, List.drop_eq_getElem_cons hj]
  rfl

theorem resc_ok : PureC Tryd.prog Gt 34 resc_m := by
  refine pure_of_awp (X := ctx Tryd.prog Gt [(54, rplain_m)]) Tryd.func34 rfl rfl (by kernel_rfl) (by kernel_rfl) (AllOk.cons rplain_ok AllOk.nil).kok ?_
  intro args r h0
  obtain ⟨s, rfl, h⟩ := ms_inv h0
  refine ⟨Nat.le_of_ble_eq_true rfl, ?_⟩
  split at h
  · rename_i hlen
    have hlen := of_decide_eq_true hlen
    cases h
    by_cases hs : s = []
    · subst hs
      have hc := Nat.zero_add 0
      repeat' (first | simp only [hc, Tryd.f34, SX, List.length_nil, AB, PL, RG, LP, TY, simprocAttr, ↓reduceIte, forall_const, eq_self, ne_eq, Option.some.injEq, beq_self_eq_true] | ((first | apply fin_ndec | apply fin_dec | apply cnd_ndec | apply cnd_dec' | apply fin_nsplit | apply fin_split | apply cnd_nsplit | apply cnd_split) <;> intro hc) | refine blk_exit_id ?_)
      all_goals simp_all [escF]
    · have hs2 : (s == []) = false := by simp [hs]
      have hc := Nat.zero_add 0
      repeat' (first | simp only [hc, Tryd.f34, SX, hs2, AB, PL, RG, LP, TY, simprocAttr, ↓reduceIte, forall_const, eq_self, ne_eq, Option.some.injEq, beq_self_eq_true] | ((first | apply fin_ndec | apply fin_dec | apply cnd_ndec | apply cnd_dec' | apply fin_nsplit | apply fin_split | apply cnd_nsplit | apply cnd_split) <;> intro hc) | refine blk_exit_id ?_)
      refine awp_loop (σ := Nat × List UInt8) (fun p => p.1 ≤ s.length ∧ p.2.length ≤ 3 * p.1 ∧ p.2 = (s.take p.1).flatMap esc1) (fun p => ⟨[(4, AV.i p.1), (0, AV.s s), (3, AV.s p.2)], []⟩) (fun p => s.length - p.1) (0, []) (Wk.sub' (by simp [subT, look]) rfl) (by simp) ?_
      rintro ⟨j, out⟩ ⟨hj, ho, hout⟩
      dsimp only at hj ho hout ⊢
      by_cases hjl : j < s.length
      · have e1 : s[j]? = some s[j] := by simp [hjl]
        have hlt : ((j : Int) < (s.length : Int)) = True := by simp; omega
        have hle : ((j : Int) + 1 ≤ (s.length : Int)) = True := eq_true (by omega)
        have hw := wI (n := (j : Int) + 1) (by omega) (by omega)
        have hstep : out ++ esc1 s[j] = (s.take (j + 1)).flatMap esc1 := by rw [List.take_succ_eq_append_getElem hjl, List.flatMap_append, hout]; simp
        have hc3 := esc1_len s[j]
        generalize s[j] = c at *
        have hcut := cut1 e1
        have k4 : (out.length + 1 ≤ 4611686018427387904) = True := eq_true (by omega)
        have k5 : (out.length + 1 + 1 ≤ 4611686018427387904) = True := eq_true (by omega)
        have k6 : (out.length + 2 + 1 ≤ 4611686018427387904) = True := eq_true (by omega)
        have m1 : ∀ x : UInt8, (out ++ [x]).length = out.length + 1 := fun x => by simp
        have m2 : ∀ x y : UInt8, (out ++ [x] ++ [y]).length = out.length + 2 := fun x y => by simp
        have hcl := c.toNat_lt
        by_cases hp : plainB c = true
        · skip
          have hc := Nat.zero_add 0
          repeat' (first | simp only [hc, SX, e1, hlt, nn, hw, rplain_m, mb_eq, plainI_eq, hp, tn1, le1, hle, hcut, k4, AB, PL, RG, LP, TY, simprocAttr, ↓reduceIte, forall_const, eq_self, ne_eq, Option.some.injEq, beq_self_eq_true] | ((first | apply fin_ndec | apply fin_dec | apply cnd_ndec | apply cnd_dec' | apply fin_nsplit | apply fin_split | apply cnd_nsplit | apply cnd_split) <;> intro hc) | refine blk_exit_id ?_)
          exact lp_next (j + 1, out ++ esc1 c) (Wk.sub' (by simp [subT, look, esc1, hp]) rfl) ⟨by simp only []; omega, by simp only [List.length_append]; omega, hstep⟩ (by simp only []; omega)
        · have hp2 : plainB c = false := by simpa using hp
          have g1 := wU8 (n := ((c.toNat / 16 : Nat) : Int)) (by omega) (by omega)
          have g2 := cut1 (hex16 (c.toNat / 16) (by omega))
          have g3 := cut1 (hex16 (c.toNat % 16) (by omega))
          have w1 := wI (n := ((c.toNat / 16 : Nat) : Int)) (by omega) (by omega)
          have w2 := wI (n := ((c.toNat % 16 : Nat) : Int)) (by omega) (by omega)
          have w3 := wI (n := ((c.toNat / 16 : Nat) : Int) + 1) (by omega) (by omega)
          have w4 := wI (n := ((c.toNat % 16 : Nat) : Int) + 1) (by omega) (by omega)
          have z1 : (((c.toNat / 16 : Nat) : Int) + 1 ≤ (16 : Int)) = True := eq_true (by omega)
          have z2 : (((c.toNat % 16 : Nat) : Int) + 1 ≤ (16 : Int)) = True := eq_true (by omega)
          have hc := Nat.zero_add 0
          repeat' (first | simp only [hc, SX, e1, hlt, nn, hw, rplain_m, mb_eq, plainI_eq, hp2, q16, r16, g1, g2, g3, w1, w2, w3, w4, z1, z2, tn1, le1, m1, m2, k4, k5, k6, Int.cast_ofNat_Int, AB, PL, RG, LP, TY, simprocAttr, ↓reduceIte, forall_const, eq_self, ne_eq, Option.some.injEq, beq_self_eq_true] | ((first | apply fin_ndec | apply fin_dec | apply cnd_ndec | apply cnd_dec' | apply fin_nsplit | apply fin_split | apply cnd_nsplit | apply cnd_split) <;> intro hc) | refine blk_exit_id ?_)
          exact lp_next (j + 1, out ++ esc1 c) (Wk.sub' (by simp [subT, look, esc1, hp2]) rfl) ⟨by simp only []; omega, by simp only [List.length_append]; omega, hstep⟩ (by simp only []; omega)
      · have hlt : ((j : Int) < (s.length : Int)) = False := by simp; omega
        have hc := Nat.zero_add 0
        repeat' (first | simp only [hc, SX, hlt, AB, PL, RG, LP, TY, simprocAttr, ↓reduceIte, forall_const, eq_self, ne_eq, Option.some.injEq, beq_self_eq_true] | ((first | apply fin_ndec | apply fin_dec | apply cnd_ndec | apply cnd_dec' | apply fin_nsplit | apply fin_split | apply cnd_nsplit | apply cnd_split) <;> intro hc) | refine blk_exit_id ?_)
        rw [List.take_of_length_le (by omega)] at hout
        simp [escF, hs, hout]
  · cases h

end Go.Ab

/-
  What the functions of the texts compute: Unescape.
-/
namespace Go.Ab
open Go.RowKit Go.Proofs

def hexI (n : Int) : Int := if 48 ≤ n ∧ n ≤ 57 then n - 48 else if 65 ≤ n ∧ n ≤ 70 then n - 55 else -1
theorem hexI_eq (c : UInt8) : hexI (c.toNat : Int) = hexV c := by
  unfold hexI hexV
  have e1 : ((48 : Int) ≤ (c.toNat : Int) ∧ (c.toNat : Int) ≤ 57) ↔ (48 ≤ c.toNat ∧ c.toNat ≤ 57) := by omega
  have e2 : ((65 : Int) ≤ (c.toNat : Int) ∧ (c.toNat : Int) ≤ 70) ↔ (65 ≤ c.toNat ∧ c.toNat ≤ 70) := by omega
  simp only [e1, e2]
theorem hexV_lt (c : UInt8) : hexV c < 16 := by unfold hexV; split <;> (try split) <;> omega
theorem ixh_all : ∀ n : Nat, n < 256 → Lib.indexByte [48, 49, 50, 51, 52, 53, 54, 55, 56, 57, 65, 66, 67, 68, 69, 70] n.toUInt8 = hexV (UInt8.ofNat n) := by decide +kernel
theorem ixh (c : UInt8) : Lib.indexByte [48, 49, 50, 51, 52, 53, 54, 55, 56, 57, 65, 66, 67, 68, 69, 70] c.toNat.toUInt8 = hexV c := by
  have := ixh_all c.toNat c.toNat_lt
  rwa [UInt8.ofNat_toNat] at this

def rdigit_m : List PA → Option (List PA) := mb fun n => some [.i (hexI n)]
def tunesc_m : List PA → Option (List PA) := ms fun s => if decide (s.length ≤ 100000) = true then some [.c (.str (unescF s).1), .i (unescF s).2] else none
def runesc_m : List PA → Option (List PA) := ms fun s => if decide (s.length ≤ 100000) = true then some [.c (.str (unescF s).1), .i (unescF s).2] else none

theorem rdigit_ok : PureC Tryd.prog Gt 68 rdigit_m := by
  refine pure_of_awp (X := ctx Tryd.prog Gt []) Tryd.func68 rfl rfl (by kernel_rfl) (by kernel_rfl) AllOk.nil.kok ?_
  intro args r h0
  obtain ⟨n, rfl, h⟩ := mb_inv h0
  refine ⟨Nat.le_of_ble_eq_true rfl, ?_⟩
  cases h
  by_cases h1 : 48 ≤ n ∧ n ≤ 57
  · have a1 : (48 ≤ n) = True := eq_true h1.1
    have a2 : (n ≤ 57) = True := eq_true h1.2
    have w1 := wU8 (n := n - 48) (by omega) (by omega)
    have w2 := wI (n := n - 48) (by omega) (by omega)
    have hc := Nat.zero_add 0
    repeat' (first | simp only [hc, Tryd.f68, a1, a2, w1, w2, AB, PL, RG, LP, TY, simprocAttr, ↓reduceIte, forall_const, eq_self, ne_eq, Option.some.injEq, beq_self_eq_true] | ((first | apply fin_ndec | apply fin_dec | apply cnd_ndec | apply cnd_dec' | apply fin_nsplit | apply fin_split | apply cnd_nsplit | apply cnd_split) <;> intro hc) | refine blk_exit_id ?_)
    all_goals simp_all [hexI, DV.i]
  · by_cases h2 : 65 ≤ n ∧ n ≤ 70
    · have a1 : (n ≤ 57) = False := eq_false (by omega)
      have a2 : (65 ≤ n) = True := eq_true h2.1
      have a3 : (n ≤ 70) = True := eq_true h2.2
      have a4 : (48 ≤ n) = True := eq_true (by omega)
      have w1 := wU8 (n := n - 65) (by omega) (by omega)
      have w2 := wI (n := n - 65) (by omega) (by omega)
      have w3 : IntKind.i64.wrap (n - 65 + 10) = n - 55 := by rw [wI (by omega) (by omega)]; omega
      have hc := Nat.zero_add 0
      repeat' (first | simp only [hc, Tryd.f68, a1, a2, a3, a4, w1, w2, w3, AB, PL, RG, LP, TY, simprocAttr, ↓reduceIte, forall_const, eq_self, ne_eq, Option.some.injEq, beq_self_eq_true] | ((first | apply fin_ndec | apply fin_dec | apply cnd_ndec | apply cnd_dec' | apply fin_nsplit | apply fin_split | apply cnd_nsplit | apply cnd_split) <;> intro hc) | refine blk_exit_id ?_)
      all_goals simp_all [hexI, DV.i]
    · have e : hexI n = -1 := by unfold hexI; rw [if_neg h1, if_neg h2]
      have hc := Nat.zero_add 0
      repeat' (first | simp only [hc, Tryd.f68, AB, PL, RG, LP, TY, simprocAttr, ↓reduceIte, forall_const, eq_self, ne_eq, Option.some.injEq, beq_self_eq_true] | ((first | apply fin_ndec | apply fin_dec | apply cnd_ndec | apply cnd_dec' | apply fin_nsplit | apply fin_split | apply cnd_nsplit | apply cnd_split) <;> intro hc) | refine blk_exit_id ?_)
      all_goals first
        | (exfalso; omega)
        | simp_all [DV.i]

theorem un_c {c : UInt8} (h : plainB c = false) (h37 : c.toNat ≠ 37) (r : List UInt8) : un (c :: r) = none := by
  match r with
  | [] => exact un_short h (by simp)
  | [_] => exact un_short h (by simp)
  | a :: b :: r => rw [un_hex h]; simp [okHex, h37]

theorem drop_of {s : List UInt8} {j : Nat} {c : UInt8} (h : s[j]? = some c) : s.drop j = c :: s.drop (j + 1) := by
  obtain ⟨hj, rfl⟩ := List.getElem?_eq_some_iff.1 h
  exact List.drop_eq_getElem_cons hj

theorem unesc_of {s : List UInt8} (h1 : s ≠ [37]) (h2 : s ≠ []) : unescF s = match un s with | some v => (v, 0) | none => ([], 5) := by
  unfold unescF
  rw [if_neg h1, if_neg h2]
  try rfl

theorem byte2_eq {a b : UInt8} (ha : 0 ≤ hexV a) (hb : 0 ≤ hexV b) : 16 * hexV a + hexV b = ((byte2 a b).toNat : Int) := by
  have h1 := hexV_lt a
  have h2 := hexV_lt b
  unfold byte2
  rw [ofNat_toNat (by omega)]
  omega

theorem tunesc_ok : PureC Tryd.prog Gt 56 tunesc_m := by
  refine pure_of_awp (X := ctx Tryd.prog Gt [(51, tplain_m), (67, ixb_m)]) Tryd.func56 rfl rfl (by kernel_rfl) (by kernel_rfl) (AllOk.cons tplain_ok (AllOk.cons ixb_ok AllOk.nil)).kok ?_
  intro args r h0
  obtain ⟨s, rfl, h⟩ := ms_inv h0
  refine ⟨Nat.le_of_ble_eq_true rfl, ?_⟩
  split at h
  · rename_i hlen
    have hlen := of_decide_eq_true hlen
    cases h
    by_cases hs1 : s = [37]
    · subst hs1
      have hc := Nat.zero_add 0
      repeat' (first | simp only [hc, Tryd.f56, SX, AB, PL, RG, LP, TY, simprocAttr, ↓reduceIte, forall_const, eq_self, ne_eq, Option.some.injEq, beq_self_eq_true] | ((first | apply fin_ndec | apply fin_dec | apply cnd_ndec | apply cnd_dec' | apply fin_nsplit | apply fin_split | apply cnd_nsplit | apply cnd_split) <;> intro hc) | refine blk_exit_id ?_)
      all_goals simp_all [unescF, DV.i]
    by_cases hs2 : s = []
    · subst hs2
      have hf : (([] : List UInt8) == [37]) = false := rfl
      have hc := Nat.zero_add 0
      repeat' (first | simp only [hc, Tryd.f56, SX, hf, List.length_nil, AB, PL, RG, LP, TY, simprocAttr, ↓reduceIte, forall_const, eq_self, ne_eq, Option.some.injEq, beq_self_eq_true] | ((first | apply fin_ndec | apply fin_dec | apply cnd_ndec | apply cnd_dec' | apply fin_nsplit | apply fin_split | apply cnd_nsplit | apply cnd_split) <;> intro hc) | refine blk_exit_id ?_)
      all_goals simp_all [unescF, DV.i]
    have hb1 : (s == [37]) = false := by simp [hs1]
    have hb2 : (s == []) = false := by simp [hs2]
    have hu := unesc_of hs1 hs2
    have hc := Nat.zero_add 0
    repeat' (first | simp only [hc, Tryd.f56, SX, hb1, hb2, AB, PL, RG, LP, TY, simprocAttr, ↓reduceIte, forall_const, eq_self, ne_eq, Option.some.injEq, beq_self_eq_true] | ((first | apply fin_ndec | apply fin_dec | apply cnd_ndec | apply cnd_dec' | apply fin_nsplit | apply fin_split | apply cnd_nsplit | apply cnd_split) <;> intro hc) | refine blk_exit_id ?_)
    refine awp_loop (σ := Nat × List UInt8) (fun p => p.1 ≤ s.length ∧ p.2.length ≤ p.1 ∧ un s = (un (s.drop p.1)).map (p.2 ++ ·)) (fun p => ⟨[(5, AV.i p.1), (0, AV.s s), (4, .v (.c (.own 0 (p.2.map byR))))], [.tok p.2.length 1 none]⟩) (fun p => s.length - p.1) (0, []) (Wk.trans (Wk.own 4 1 (by omega) (by simp [look])) (Wk.sub' (by simp [subT, look]) rfl)) (by simp) ?_
    rintro ⟨j, out⟩ ⟨hj, ho, hout⟩
    dsimp only at hj ho hout ⊢
    have l1 : (out.map byR).length = out.length := by simp
    by_cases hjl : j < s.length
    · have e1 : s[j]? = some s[j] := by simp [hjl]
      have hlt : ((j : Int) < (s.length : Int)) = True := by simp; omega
      have w1 := wI (n := (j : Int) + 1) (by omega) (by omega)
      generalize s[j] = c at *
      have hd1 := drop_of e1
      rw [hd1] at hout
      have k3 : ((out.length + 1) * 1 ≤ 140737488355328) = True := eq_true (by omega)
      have k4 : (out.length + 1 ≤ 4611686018427387904) = True := eq_true (by omega)
      by_cases hp : plainB c = true
      · skip
        have hc := Nat.zero_add 0
        repeat' (first | simp only [hc, SX, e1, hlt, nn, w1, tplain_m, mb_eq, plainI_eq, hp, l1, k3, k4, AB, PL, RG, LP, TY, simprocAttr, ↓reduceIte, forall_const, eq_self, ne_eq, Option.some.injEq, beq_self_eq_true] | ((first | apply fin_ndec | apply fin_dec | apply cnd_ndec | apply cnd_dec' | apply fin_nsplit | apply fin_split | apply cnd_nsplit | apply cnd_split) <;> intro hc) | refine blk_exit_id ?_)
        rw [un_plain hp] at hout
        exact lp_next (j + 1, out ++ [c]) (Wk.sub' (by simp [subT, look, byR]) (by simp)) ⟨by simp only []; omega, by simp only [List.length_append, List.length_singleton]; omega, by rw [hout]; simp [Option.map_map, Function.comp_def]⟩ (by simp only []; omega)
      have hp2 : plainB c = false := by simpa using hp
      have w2 := wI (n := (j : Int) + 2) (by omega) (by omega)
      have err : un s = none → unescF s = ([], 5) := fun h => by rw [hu, h]
      by_cases h37 : c.toNat = 37
      · by_cases hj2 : j + 2 < s.length
        · have e2 : s[j + 1]? = some s[j + 1] := List.getElem?_eq_getElem (by omega)
          have e3 : s[j + 2]? = some s[j + 2] := List.getElem?_eq_getElem (by omega)
          generalize s[j + 1] = a at *
          generalize s[j + 2] = b at *
          have c37 : ((c.toNat : Int) = 37) = True := eq_true (by omega)
          have i1 : ((s.length : Int) ≤ (j : Int) + 2) = False := eq_false (by omega)
          have n1 : ((j : Int) + 1).toNat = j + 1 := by omega
          have n2 : ((j : Int) + 2).toNat = j + 2 := by omega
          have p1 : ((0 : Int) ≤ (j : Int) + 1) = True := eq_true (by omega)
          have p2 : ((0 : Int) ≤ (j : Int) + 2) = True := eq_true (by omega)
          have hd2 := drop_of e2
          have hd3 := drop_of e3
          rw [hd2, hd3, un_hex hp2] at hout
          by_cases ha : hexV a < 0
          · have ok : okHex c a b = false := by simp only [okHex, Bool.and_eq_false_iff, decide_eq_false_iff_not]; left; left; right; omega
            rw [ok] at hout
            have hE := err (by simpa using hout)
            have hc := Nat.zero_add 0
            repeat' (first | simp only [hc, SX, e1, e2, e3, hlt, nn, w1, w2, tplain_m, ixb_m, msb_eq, mb_eq, plainI_eq, hp2, c37, i1, n1, n2, p1, p2, ixh, ha, Int.toNat_natCast, AB, PL, RG, LP, TY, simprocAttr, ↓reduceIte, forall_const, eq_self, ne_eq, Option.some.injEq, beq_self_eq_true] | ((first | apply fin_ndec | apply fin_dec | apply cnd_ndec | apply cnd_dec' | apply fin_nsplit | apply fin_split | apply cnd_nsplit | apply cnd_split) <;> intro hc) | refine blk_exit_id ?_)
            all_goals simp [hE, DV.i]
          by_cases hb : hexV b < 0
          · have ok : okHex c a b = false := by simp only [okHex, Bool.and_eq_false_iff, decide_eq_false_iff_not]; left; right; omega
            rw [ok] at hout
            have hE := err (by simpa using hout)
            have hc := Nat.zero_add 0
            repeat' (first | simp only [hc, SX, e1, e2, e3, hlt, nn, w1, w2, tplain_m, ixb_m, msb_eq, mb_eq, plainI_eq, hp2, c37, i1, n1, n2, p1, p2, ixh, ha, hb, Int.toNat_natCast, AB, PL, RG, LP, TY, simprocAttr, ↓reduceIte, forall_const, eq_self, ne_eq, Option.some.injEq, beq_self_eq_true] | ((first | apply fin_ndec | apply fin_dec | apply cnd_ndec | apply cnd_dec' | apply fin_nsplit | apply fin_split | apply cnd_nsplit | apply cnd_split) <;> intro hc) | refine blk_exit_id ?_)
            all_goals simp [hE, DV.i]
          have va := hexV_lt a
          have vb := hexV_lt b
          have x1 := wI (n := 16 * hexV a) (by omega) (by omega)
          have x2 := byte2_eq (a := a) (b := b) (by omega) (by omega)
          have vl := (byte2 a b).toNat_lt
          have x3 := wI (n := ((byte2 a b).toNat : Int)) (by omega) (by omega)
          have x4 := wU8 (n := ((byte2 a b).toNat : Int)) (by omega) (by omega)
          by_cases hq : plainB (byte2 a b) = true
          · have ok : okHex c a b = false := by simp [okHex, hq]
            rw [ok] at hout
            have hE := err (by simpa using hout)
            have hc := Nat.zero_add 0
            repeat' (first | simp only [hc, SX, e1, e2, e3, hlt, nn, w1, w2, tplain_m, ixb_m, msb_eq, mb_eq, plainI_eq, hp2, c37, i1, n1, n2, p1, p2, ixh, ha, hb, x1, x2, x3, x4, hq, Int.toNat_natCast, AB, PL, RG, LP, TY, simprocAttr, ↓reduceIte, forall_const, eq_self, ne_eq, Option.some.injEq, beq_self_eq_true] | ((first | apply fin_ndec | apply fin_dec | apply cnd_ndec | apply cnd_dec' | apply fin_nsplit | apply fin_split | apply cnd_nsplit | apply cnd_split) <;> intro hc) | refine blk_exit_id ?_)
            all_goals simp [hE, DV.i]
          · have hq2 : plainB (byte2 a b) = false := by simpa using hq
            have ok : okHex c a b = true := by
              simp only [okHex, hq2, Bool.not_false, Bool.and_true, Bool.and_eq_true, decide_eq_true_eq]; omega
            rw [ok, if_pos rfl] at hout
            have w3 : IntKind.i64.wrap ((j : Int) + 2 + 1) = ((j + 3 : Nat) : Int) := by rw [wI (by omega) (by omega)]; omega
            have hc := Nat.zero_add 0
            repeat' (first | simp only [hc, SX, e1, e2, e3, hlt, nn, w1, w2, w3, tplain_m, ixb_m, msb_eq, mb_eq, plainI_eq, hp2, c37, i1, n1, n2, p1, p2, ixh, ha, hb, x1, x2, x3, x4, hq2, l1, k3, k4, Int.toNat_natCast, AB, PL, RG, LP, TY, simprocAttr, ↓reduceIte, forall_const, eq_self, ne_eq, Option.some.injEq, beq_self_eq_true] | ((first | apply fin_ndec | apply fin_dec | apply cnd_ndec | apply cnd_dec' | apply fin_nsplit | apply fin_split | apply cnd_nsplit | apply cnd_split) <;> intro hc) | refine blk_exit_id ?_)
            exact lp_next (j + 3, out ++ [byte2 a b]) (Wk.sub' (by simp [subT, look, byR]) (by simp)) ⟨by simp only []; omega, by simp only [List.length_append, List.length_singleton]; omega, by rw [hout]; simp [Option.map_map, Function.comp_def]⟩ (by simp only []; omega)
        · have hE := err (by rw [hout, un_short hp2 (by simp; omega)]; rfl)
          have c37 : ((c.toNat : Int) = 37) = True := eq_true (by omega)
          have i1 : ((s.length : Int) ≤ (j : Int) + 2) = True := eq_true (by omega)
          have hc := Nat.zero_add 0
          repeat' (first | simp only [hc, SX, e1, hlt, nn, w1, w2, tplain_m, mb_eq, plainI_eq, hp2, c37, i1, AB, PL, RG, LP, TY, simprocAttr, ↓reduceIte, forall_const, eq_self, ne_eq, Option.some.injEq, beq_self_eq_true] | ((first | apply fin_ndec | apply fin_dec | apply cnd_ndec | apply cnd_dec' | apply fin_nsplit | apply fin_split | apply cnd_nsplit | apply cnd_split) <;> intro hc) | refine blk_exit_id ?_)
          all_goals simp [hE, DV.i]
      · have hE := err (by rw [hout, un_c hp2 h37]; rfl)
        have c37 : ((c.toNat : Int) = 37) = False := eq_false (by omega)
        have hc := Nat.zero_add 0
        repeat' (first | simp only [hc, SX, e1, hlt, nn, w1, w2, tplain_m, mb_eq, plainI_eq, hp2, c37, AB, PL, RG, LP, TY, simprocAttr, ↓reduceIte, forall_const, eq_self, ne_eq, Option.some.injEq, beq_self_eq_true] | ((first | apply fin_ndec | apply fin_dec | apply cnd_ndec | apply cnd_dec' | apply fin_nsplit | apply fin_split | apply cnd_nsplit | apply cnd_split) <;> intro hc) | refine blk_exit_id ?_)
        all_goals simp [hE, DV.i]
    · have hlt : ((j : Int) < (s.length : Int)) = False := by simp; omega
      rw [List.drop_of_length_le (by omega)] at hout
      have hE : unescF s = (out, 0) := by rw [hu, hout]; simp [un]
      have hc := Nat.zero_add 0
      repeat' (first | simp only [hc, SX, hlt, AB, PL, RG, LP, TY, simprocAttr, ↓reduceIte, forall_const, eq_self, ne_eq, Option.some.injEq, beq_self_eq_true] | ((first | apply fin_ndec | apply fin_dec | apply cnd_ndec | apply cnd_dec' | apply fin_nsplit | apply fin_split | apply cnd_nsplit | apply cnd_split) <;> intro hc) | refine blk_exit_id ?_)
      all_goals simp [hE, DV.i]
  · cases h

theorem runesc_ok : PureC Tryd.prog Gt 58 runesc_m := by
  refine pure_of_awp (X := ctx Tryd.prog Gt [(54, rplain_m), (68, rdigit_m)]) Tryd.func58 rfl rfl (by kernel_rfl) (by kernel_rfl) (AllOk.cons rplain_ok (AllOk.cons rdigit_ok AllOk.nil)).kok ?_
  intro args r h0
  obtain ⟨s, rfl, h⟩ := ms_inv h0
  refine ⟨Nat.le_of_ble_eq_true rfl, ?_⟩
  split at h
  · rename_i hlen
    have hlen := of_decide_eq_true hlen
    cases h
    by_cases hs1 : s = [37]
    · subst hs1
      have hc := Nat.zero_add 0
      repeat' (first | simp only [hc, Tryd.f58, SX, AB, PL, RG, LP, TY, simprocAttr, ↓reduceIte, forall_const, eq_self, ne_eq, Option.some.injEq, beq_self_eq_true] | ((first | apply fin_ndec | apply fin_dec | apply cnd_ndec | apply cnd_dec' | apply fin_nsplit | apply fin_split | apply cnd_nsplit | apply cnd_split) <;> intro hc) | refine blk_exit_id ?_)
      all_goals simp_all [unescF, DV.i]
    by_cases hs2 : s = []
    · subst hs2
      have hf : (([] : List UInt8) == [37]) = false := rfl
      have hc := Nat.zero_add 0
      repeat' (first | simp only [hc, Tryd.f58, SX, hf, List.length_nil, AB, PL, RG, LP, TY, simprocAttr, ↓reduceIte, forall_const, eq_self, ne_eq, Option.some.injEq, beq_self_eq_true] | ((first | apply fin_ndec | apply fin_dec | apply cnd_ndec | apply cnd_dec' | apply fin_nsplit | apply fin_split | apply cnd_nsplit | apply cnd_split) <;> intro hc) | refine blk_exit_id ?_)
      all_goals simp_all [unescF, DV.i]
    have hb1 : (s == [37]) = false := by simp [hs1]
    have hb2 : (s == []) = false := by simp [hs2]
    have hu := unesc_of hs1 hs2
    have hc := Nat.zero_add 0
    repeat' (first | simp only [hc, Tryd.f58, SX, hb1, hb2, AB, PL, RG, LP, TY, simprocAttr, ↓reduceIte, forall_const, eq_self, ne_eq, Option.some.injEq, beq_self_eq_true] | ((first | apply fin_ndec | apply fin_dec | apply cnd_ndec | apply cnd_dec' | apply fin_nsplit | apply fin_split | apply cnd_nsplit | apply cnd_split) <;> intro hc) | refine blk_exit_id ?_)
    refine awp_loop (σ := Nat × List UInt8) (fun p => p.1 ≤ s.length ∧ p.2.length ≤ p.1 ∧ un s = (un (s.drop p.1)).map (p.2 ++ ·)) (fun p => ⟨[(5, AV.i p.1), (0, AV.s s), (4, .v (.c (.own 0 (p.2.map byR))))], [.tok p.2.length 1 none]⟩) (fun p => s.length - p.1) (0, []) (Wk.trans (Wk.own 4 1 (by omega) (by simp [look])) (Wk.sub' (by simp [subT, look]) rfl)) (by simp) ?_
    rintro ⟨j, out⟩ ⟨hj, ho, hout⟩
    dsimp only at hj ho hout ⊢
    have l1 : (out.map byR).length = out.length := by simp
    by_cases hjl : j < s.length
    · have e1 : s[j]? = some s[j] := by simp [hjl]
      have hlt : ((j : Int) < (s.length : Int)) = True := by simp; omega
      have w1 := wI (n := (j : Int) + 1) (by omega) (by omega)
      generalize s[j] = c at *
      have hd1 := drop_of e1
      rw [hd1] at hout
      have k3 : ((out.length + 1) * 1 ≤ 140737488355328) = True := eq_true (by omega)
      have k4 : (out.length + 1 ≤ 4611686018427387904) = True := eq_true (by omega)
      by_cases hp : plainB c = true
      · skip
        have hc := Nat.zero_add 0
        repeat' (first | simp only [hc, SX, e1, hlt, nn, w1, rplain_m, mb_eq, plainI_eq, hp, l1, k3, k4, AB, PL, RG, LP, TY, simprocAttr, ↓reduceIte, forall_const, eq_self, ne_eq, Option.some.injEq, beq_self_eq_true] | ((first | apply fin_ndec | apply fin_dec | apply cnd_ndec | apply cnd_dec' | apply fin_nsplit | apply fin_split | apply cnd_nsplit | apply cnd_split) <;> intro hc) | refine blk_exit_id ?_)
        rw [un_plain hp] at hout
        exact lp_next (j + 1, out ++ [c]) (Wk.sub' (by simp [subT, look, byR]) (by simp)) ⟨by simp only []; omega, by simp only [List.length_append, List.length_singleton]; omega, by rw [hout]; simp [Option.map_map, Function.comp_def]⟩ (by simp only []; omega)
      have hp2 : plainB c = false := by simpa using hp
      have w2 := wI (n := (j : Int) + 2) (by omega) (by omega)
      have w0 := wI (n := (s.length : Int) - (j : Int)) (by omega) (by omega)
      have err : un s = none → unescF s = ([], 5) := fun h => by rw [hu, h]
      by_cases h37 : c.toNat = 37
      · by_cases hj2 : j + 2 < s.length
        · have e2 : s[j + 1]? = some s[j + 1] := List.getElem?_eq_getElem (by omega)
          have e3 : s[j + 2]? = some s[j + 2] := List.getElem?_eq_getElem (by omega)
          generalize s[j + 1] = a at *
          generalize s[j + 2] = b at *
          have c37 : ((c.toNat : Int) = 37) = True := eq_true (by omega)
          have i1 : ((s.length : Int) - (j : Int) < 3) = False := eq_false (by omega)
          have n1 : ((j : Int) + 1).toNat = j + 1 := by omega
          have n2 : ((j : Int) + 2).toNat = j + 2 := by omega
          have p1 : ((0 : Int) ≤ (j : Int) + 1) = True := eq_true (by omega)
          have p2 : ((0 : Int) ≤ (j : Int) + 2) = True := eq_true (by omega)
          have hd2 := drop_of e2
          have hd3 := drop_of e3
          rw [hd2, hd3, un_hex hp2] at hout
          by_cases ha : hexV a < 0
          · have ok : okHex c a b = false := by simp only [okHex, Bool.and_eq_false_iff, decide_eq_false_iff_not]; left; left; right; omega
            rw [ok] at hout
            have hE := err (by simpa using hout)
            have hc := Nat.zero_add 0
            repeat' (first | simp only [hc, SX, e1, e2, e3, hlt, nn, w0, w1, w2, rplain_m, rdigit_m, hexI_eq, mb_eq, plainI_eq, hp2, c37, i1, n1, n2, p1, p2, ha, Int.toNat_natCast, AB, PL, RG, LP, TY, simprocAttr, ↓reduceIte, forall_const, eq_self, ne_eq, Option.some.injEq, beq_self_eq_true] | ((first | apply fin_ndec | apply fin_dec | apply cnd_ndec | apply cnd_dec' | apply fin_nsplit | apply fin_split | apply cnd_nsplit | apply cnd_split) <;> intro hc) | refine blk_exit_id ?_)
            all_goals simp [hE, DV.i]
          by_cases hb : hexV b < 0
          · have ok : okHex c a b = false := by simp only [okHex, Bool.and_eq_false_iff, decide_eq_false_iff_not]; left; right; omega
            rw [ok] at hout
            have hE := err (by simpa using hout)
            have hc := Nat.zero_add 0
            repeat' (first | simp only [hc, SX, e1, e2, e3, hlt, nn, w0, w1, w2, rplain_m, rdigit_m, hexI_eq, mb_eq, plainI_eq, hp2, c37, i1, n1, n2, p1, p2, ha, hb, Int.toNat_natCast, AB, PL, RG, LP, TY, simprocAttr, ↓reduceIte, forall_const, eq_self, ne_eq, Option.some.injEq, beq_self_eq_true] | ((first | apply fin_ndec | apply fin_dec | apply cnd_ndec | apply cnd_dec' | apply fin_nsplit | apply fin_split | apply cnd_nsplit | apply cnd_split) <;> intro hc) | refine blk_exit_id ?_)
            all_goals simp [hE, DV.i]
          have va := hexV_lt a
          have vb := hexV_lt b
          have x1 := wI (n := hexV a * 16) (by omega) (by omega)
          have x2 : hexV a * 16 + hexV b = ((byte2 a b).toNat : Int) := by rw [← byte2_eq (a := a) (b := b) (by omega) (by omega)]; omega
          have vl := (byte2 a b).toNat_lt
          have x3 := wI (n := ((byte2 a b).toNat : Int)) (by omega) (by omega)
          have x4 := wU8 (n := ((byte2 a b).toNat : Int)) (by omega) (by omega)
          by_cases hq : plainB (byte2 a b) = true
          · have ok : okHex c a b = false := by simp [okHex, hq]
            rw [ok] at hout
            have hE := err (by simpa using hout)
            have hc := Nat.zero_add 0
            repeat' (first | simp only [hc, SX, e1, e2, e3, hlt, nn, w0, w1, w2, rplain_m, rdigit_m, hexI_eq, mb_eq, plainI_eq, hp2, c37, i1, n1, n2, p1, p2, ha, hb, x1, x2, x3, x4, hq, Int.toNat_natCast, AB, PL, RG, LP, TY, simprocAttr, ↓reduceIte, forall_const, eq_self, ne_eq, Option.some.injEq, beq_self_eq_true] | ((first | apply fin_ndec | apply fin_dec | apply cnd_ndec | apply cnd_dec' | apply fin_nsplit | apply fin_split | apply cnd_nsplit | apply cnd_split) <;> intro hc) | refine blk_exit_id ?_)
            all_goals simp [hE, DV.i]
          · have hq2 : plainB (byte2 a b) = false := by simpa using hq
            have ok : okHex c a b = true := by
              simp only [okHex, hq2, Bool.not_false, Bool.and_true, Bool.and_eq_true, decide_eq_true_eq]; omega
            rw [ok, if_pos rfl] at hout
            have w3 : IntKind.i64.wrap ((j : Int) + 2 + 1) = ((j + 3 : Nat) : Int) := by rw [wI (by omega) (by omega)]; omega
            have hc := Nat.zero_add 0
            repeat' (first | simp only [hc, SX, e1, e2, e3, hlt, nn, w0, w1, w2, w3, rplain_m, rdigit_m, hexI_eq, mb_eq, plainI_eq, hp2, c37, i1, n1, n2, p1, p2, ha, hb, x1, x2, x3, x4, hq2, l1, k3, k4, Int.toNat_natCast, AB, PL, RG, LP, TY, simprocAttr, ↓reduceIte, forall_const, eq_self, ne_eq, Option.some.injEq, beq_self_eq_true] | ((first | apply fin_ndec | apply fin_dec | apply cnd_ndec | apply cnd_dec' | apply fin_nsplit | apply fin_split | apply cnd_nsplit | apply cnd_split) <;> intro hc) | refine blk_exit_id ?_)
            exact lp_next (j + 3, out ++ [byte2 a b]) (Wk.sub' (by simp [subT, look, byR]) (by simp)) ⟨by simp only []; omega, by simp only [List.length_append, List.length_singleton]; omega, by rw [hout]; simp [Option.map_map, Function.comp_def]⟩ (by simp only []; omega)
        · have hE := err (by rw [hout, un_short hp2 (by simp; omega)]; rfl)
          have c37 : ((c.toNat : Int) = 37) = True := eq_true (by omega)
          have i1 : ((s.length : Int) - (j : Int) < 3) = True := eq_true (by omega)
          have hc := Nat.zero_add 0
          repeat' (first | simp only [hc, SX, e1, hlt, nn, w0, w1, w2, rplain_m, mb_eq, plainI_eq, hp2, c37, i1, AB, PL, RG, LP, TY, simprocAttr, ↓reduceIte, forall_const, eq_self, ne_eq, Option.some.injEq, beq_self_eq_true] | ((first | apply fin_ndec | apply fin_dec | apply cnd_ndec | apply cnd_dec' | apply fin_nsplit | apply fin_split | apply cnd_nsplit | apply cnd_split) <;> intro hc) | refine blk_exit_id ?_)
          all_goals simp [hE, DV.i]
      · have hE := err (by rw [hout, un_c hp2 h37]; rfl)
        have c37 : ((c.toNat : Int) = 37) = False := eq_false (by omega)
        have hc := Nat.zero_add 0
        repeat' (first | simp only [hc, SX, e1, hlt, nn, w0, w1, w2, rplain_m, mb_eq, plainI_eq, hp2, c37, AB, PL, RG, LP, TY, simprocAttr, ↓reduceIte, forall_const, eq_self, ne_eq, Option.some.injEq, beq_self_eq_true] | ((first | apply fin_ndec | apply fin_dec | apply cnd_ndec | apply cnd_dec' | apply fin_nsplit | apply fin_split | apply cnd_nsplit | apply cnd_split) <;> intro hc) | refine blk_exit_id ?_)
        all_goals simp [hE, DV.i]
    · have hlt : ((j : Int) < (s.length : Int)) = False := by simp; omega
      rw [List.drop_of_length_le (by omega)] at hout
      have hE : unescF s = (out, 0) := by rw [hu, hout]; simp [un]
      have hc := Nat.zero_add 0
      repeat' (first | simp only [hc, SX, hlt, AB, PL, RG, LP, TY, simprocAttr, ↓reduceIte, forall_const, eq_self, ne_eq, Option.some.injEq, beq_self_eq_true] | ((first | apply fin_ndec | apply fin_dec | apply cnd_ndec | apply cnd_dec' | apply fin_nsplit | apply fin_split | apply cnd_nsplit | apply cnd_split) <;> intro hc) | refine blk_exit_id ?_)
      all_goals simp [hE, DV.i]
  · cases h

end Go.Ab
