/-
  Texts of the layer and of the laws, put together: AbSo2. No law is stated here.
-/
import Derived.Test.YtckjmdppjealdaaGreatDoorAbVol31
import Derived.Test.YtckjmdppjealdaaGreatDoorAbVol30
set_option linter.unusedSimpArgs false
set_option linter.unusedVariables false
set_option maxRecDepth 100000

/-
  The order of events: the comparator of session.Sort.
-/
namespace Go.Ab
open Go.RowKit Go.Proofs

theorem bytesLess_bef : ∀ a b : List UInt8, Op.bytesLess a b = befB a b
  | [], [] => rfl
  | [], _ :: _ => rfl
  | _ :: _, [] => rfl
  | a :: l, b :: k => by
    rw [Op.bytesLess, befB, bytesLess_bef l k]
    by_cases e : a = b
    · subst e
      simp
    · rw [if_neg e]
      have : a.toNat ≠ b.toNat := fun x => e (UInt8.toNat_inj.1 x)
      by_cases h : a < b
      · have h2 : a.toNat < b.toNat := UInt8.lt_iff_toNat_lt.1 h
        simp [h, h2, e]
      · have h2 : ¬ a.toNat < b.toNat := fun x => h (UInt8.lt_iff_toNat_lt.2 x)
        simp [h, h2, e]
theorem s_gtr' {a b : List UInt8} : strA .gtr a b = some (.bool (!(Op.bytesLess a b || a == b))) := rfl

noncomputable section
open Classical

def dnI_m : List PA → Option (List PA) := m1 fun _ => some [.b false]
def dnS_m : List PA → Option (List PA) := ms fun _ => some [.b false]
def dcI_m : List PA → Option (List PA) := m2 fun a b => some [.i (ordI a b)]
def dcS_m : List PA → Option (List PA) := mss fun a b => some [.i (ordS a b)]
def encBI (p : Bool × List Int) : List PA := [.c (.sl p.1 (p.2.map rowI))]
theorem encBI_inj (a b : Bool × List Int) (h : encBI a = encBI b) : a = b := by
  obtain ⟨a1, a2⟩ := a
  obtain ⟨b1, b2⟩ := b
  simpa [encBI, mapI_inj] using h
def dor_m : List PA → Option (List PA) := mE encBI fun p => if p.2.length ≤ 1000000 then some [.i (firstNz p.2)] else none
def dsc_m : List PA → Option (List PA) := mE encPP fun p => some [.i (ordP p.1 p.2)]

theorem dnI_ok : PureC Tryz.prog Gd 101 dnI_m := by
  refine pure_of_awp (X := ctx Tryz.prog Gd []) Tryz.func101 rfl rfl (by kernel_rfl) (by kernel_rfl) AllOk.nil.kok ?_
  intro args r h0
  obtain ⟨a, rfl, h⟩ := m1_inv h0
  refine ⟨Nat.le_of_ble_eq_true rfl, ?_⟩
  cases h
  have hc := Nat.zero_add 0
  repeat' (first | simp only [hc, Tryz.f101, GX, AB, PL, RG, LP, TY, simprocAttr, ↓reduceIte, forall_const, eq_self, ne_eq, Option.some.injEq, beq_self_eq_true] | ((first | apply fin_ndec | apply fin_dec | apply cnd_ndec | apply cnd_dec' | apply fin_nsplit | apply fin_split | apply cnd_nsplit | apply cnd_split) <;> intro hc) | refine blk_exit_id ?_)
  all_goals simp [DV.b]
theorem dnS_ok : PureC Tryz.prog Gd 102 dnS_m := by
  refine pure_of_awp (X := ctx Tryz.prog Gd []) Tryz.func102 rfl rfl (by kernel_rfl) (by kernel_rfl) AllOk.nil.kok ?_
  intro args r h0
  obtain ⟨a, rfl, h⟩ := ms_inv h0
  refine ⟨Nat.le_of_ble_eq_true rfl, ?_⟩
  cases h
  have hc := Nat.zero_add 0
  repeat' (first | simp only [hc, Tryz.f102, GX, AB, PL, RG, LP, TY, simprocAttr, ↓reduceIte, forall_const, eq_self, ne_eq, Option.some.injEq, beq_self_eq_true] | ((first | apply fin_ndec | apply fin_dec | apply cnd_ndec | apply cnd_dec' | apply fin_nsplit | apply fin_split | apply cnd_nsplit | apply cnd_split) <;> intro hc) | refine blk_exit_id ?_)
  all_goals simp [DV.b]
theorem dcI_ok : PureC Tryz.prog Gd 64 dcI_m := by
  refine pure_of_awp (X := ctx Tryz.prog Gd [(101, dnI_m)]) Tryz.func64 rfl rfl (by kernel_rfl) (by kernel_rfl) (AllOk.cons dnI_ok AllOk.nil).kok ?_
  intro args r h0
  obtain ⟨a, b, rfl, h⟩ := m2_inv h0
  refine ⟨Nat.le_of_ble_eq_true rfl, ?_⟩
  cases h
  have f1 : ∀ x, dnI_m [.c (.int .i64 x)] = some [.b false] := fun x => rfl
  have hc := Nat.zero_add 0
  repeat' (first | simp only [hc, Tryz.f64, f1, GX, AB, PL, RG, LP, TY, simprocAttr, ↓reduceIte, forall_const, eq_self, ne_eq, Option.some.injEq, beq_self_eq_true] | ((first | apply fin_ndec | apply fin_dec | apply cnd_ndec | apply cnd_dec' | apply fin_nsplit | apply fin_split | apply cnd_nsplit | apply cnd_split) <;> intro hc) | refine blk_exit_id ?_)
  all_goals (simp_all [ordI, DV.i]; try omega)
theorem dcS_ok : PureC Tryz.prog Gd 65 dcS_m := by
  refine pure_of_awp (X := ctx Tryz.prog Gd [(102, dnS_m)]) Tryz.func65 rfl rfl (by kernel_rfl) (by kernel_rfl) (AllOk.cons dnS_ok AllOk.nil).kok ?_
  intro args r h0
  obtain ⟨a, b, rfl, h⟩ := mss_inv h0
  refine ⟨Nat.le_of_ble_eq_true rfl, ?_⟩
  cases h
  have f1 : ∀ x, dnS_m [.c (.str x)] = some [.b false] := fun x => rfl
  have hb := bytesLess_bef a b
  by_cases c1 : a = b
  · subst c1
    have c2 : Op.bytesLess a a = false := by rw [hb, befB_irr]
    have c3 : (a == a) = true := by simp
    have hc := Nat.zero_add 0
    repeat' (first | simp only [hc, Tryz.f65, f1, c2, c3, s_gtr', Bool.or_true, Bool.not_true, GX, AB, PL, RG, LP, TY, simprocAttr, ↓reduceIte, forall_const, eq_self, ne_eq, Option.some.injEq, beq_self_eq_true] | ((first | apply fin_ndec | apply fin_dec | apply cnd_ndec | apply cnd_dec' | apply fin_nsplit | apply fin_split | apply cnd_nsplit | apply cnd_split) <;> intro hc) | refine blk_exit_id ?_)
    all_goals simp [ordS, DV.i]
  · have c3 : (a == b) = false := by simpa using c1
    cases c2 : Op.bytesLess a b
    · have c4 : befB a b = false := by rw [← hb, c2]
      have hc := Nat.zero_add 0
      repeat' (first | simp only [hc, Tryz.f65, f1, c2, c3, s_gtr', Bool.or_false, Bool.not_false, GX, AB, PL, RG, LP, TY, simprocAttr, ↓reduceIte, forall_const, eq_self, ne_eq, Option.some.injEq, beq_self_eq_true] | ((first | apply fin_ndec | apply fin_dec | apply cnd_ndec | apply cnd_dec' | apply fin_nsplit | apply fin_split | apply cnd_nsplit | apply cnd_split) <;> intro hc) | refine blk_exit_id ?_)
      all_goals simp [ordS, DV.i, c1, c4]
    · have c4 : befB a b = true := by rw [← hb, c2]
      have hc := Nat.zero_add 0
      repeat' (first | simp only [hc, Tryz.f65, f1, c2, c3, GX, AB, PL, RG, LP, TY, simprocAttr, ↓reduceIte, forall_const, eq_self, ne_eq, Option.some.injEq, beq_self_eq_true] | ((first | apply fin_ndec | apply fin_dec | apply cnd_ndec | apply cnd_dec' | apply fin_nsplit | apply fin_split | apply cnd_nsplit | apply cnd_split) <;> intro hc) | refine blk_exit_id ?_)
      all_goals simp [ordS, DV.i, c1, c4]
theorem dor_ok : PureC Tryz.prog Gd 63 dor_m := by
  refine pure_of_awp (X := ctx Tryz.prog Gd []) Tryz.func63 rfl rfl (by kernel_rfl) (by kernel_rfl) AllOk.nil.kok ?_
  intro args r h0
  obtain ⟨⟨f, xs⟩, rfl, h⟩ := mE_inv h0
  refine ⟨Nat.le_of_ble_eq_true rfl, ?_⟩
  split at h
  · rename_i hl
    dsimp only at hl h
    cases h
    have l1 : ((xs.map rowI).length : Int) = xs.length := by simp
    have hc := Nat.zero_add 0
    repeat' (first | simp only [hc, Tryz.f63, encBI, l1, GX, AB, PL, RG, LP, TY, simprocAttr, ↓reduceIte, forall_const, eq_self, ne_eq, Option.some.injEq, beq_self_eq_true] | ((first | apply fin_ndec | apply fin_dec | apply cnd_ndec | apply cnd_dec' | apply fin_nsplit | apply fin_split | apply cnd_nsplit | apply cnd_split) <;> intro hc) | refine blk_exit_id ?_)
    refine awp_loop (σ := Nat) (fun j => j ≤ xs.length ∧ firstNz xs = firstNz (xs.drop j)) (fun j => ⟨[(8, AV.i j), (7, AV.i xs.length), (6, AV.d (.sl f (xs.map rowI))), (3, AV.i 0)], []⟩) (fun j => xs.length - j) 0 (Wk.sub' (by simp [subT, look]) rfl) (by simp) ?_
    rintro j ⟨hj, hout⟩
    by_cases hjl : j < xs.length
    · have hlt : ((j : Int) < (xs.length : Int)) = True := eq_true (by omega)
      have hw := wI (n := (j : Int) + 1) (by omega) (by omega)
      have e1 : (xs.map rowI)[j]? = some [.int .i64 xs[j]] := by simp [hjl, rowI]
      rw [List.drop_eq_getElem_cons hjl, firstNz] at hout
      generalize xs[j] = x at *
      by_cases c1 : x = 0
      · rw [if_neg (by simpa using c1)] at hout
        subst c1
        have hc := Nat.zero_add 0
        repeat' (first | simp only [hc, SX, l1, hlt, nn, hw, e1, GX, AB, PL, RG, LP, TY, simprocAttr, ↓reduceIte, forall_const, eq_self, ne_eq, Option.some.injEq, beq_self_eq_true] | ((first | apply fin_ndec | apply fin_dec | apply cnd_ndec | apply cnd_dec' | apply fin_nsplit | apply fin_split | apply cnd_nsplit | apply cnd_split) <;> intro hc) | refine blk_exit_id ?_)
        exact lp_next (j + 1) (Wk.sub' (by simp [subT, look]) rfl) ⟨by omega, hout⟩ (by omega)
      · rw [if_pos c1] at hout
        have hc := Nat.zero_add 0
        repeat' (first | simp only [hc, SX, l1, hlt, nn, e1, c1, GX, AB, PL, RG, LP, TY, simprocAttr, ↓reduceIte, forall_const, eq_self, ne_eq, Option.some.injEq, beq_self_eq_true] | ((first | apply fin_ndec | apply fin_dec | apply cnd_ndec | apply cnd_dec' | apply fin_nsplit | apply fin_split | apply cnd_nsplit | apply cnd_split) <;> intro hc) | refine blk_exit_id ?_)
        all_goals simp [hout, DV.i]
    · have hlt : ((j : Int) < (xs.length : Int)) = False := eq_false (by omega)
      rw [List.drop_of_length_le (by omega)] at hout
      have hc := Nat.zero_add 0
      repeat' (first | simp only [hc, SX, l1, hlt, GX, AB, PL, RG, LP, TY, simprocAttr, ↓reduceIte, forall_const, eq_self, ne_eq, Option.some.injEq, beq_self_eq_true] | ((first | apply fin_ndec | apply fin_dec | apply cnd_ndec | apply cnd_dec' | apply fin_nsplit | apply fin_split | apply cnd_nsplit | apply cnd_split) <;> intro hc) | refine blk_exit_id ?_)
      all_goals simp [hout, firstNz, DV.i]
  · cases h
theorem dor_at {l : List Int} {f : Bool} (h : l.length ≤ 1000000) : dor_m [.c (.sl f (l.map rowI))] = some [.i (firstNz l)] := by
  have := mE_eq encBI_inj (g := fun p => if p.2.length ≤ 1000000 then some [.i (firstNz p.2)] else none) (a := (f, l))
  exact this.trans (if_pos h)
theorem dsc_ok : PureC Tryz.prog Gd 62 dsc_m := by
  refine pure_of_awp (X := ctx Tryz.prog Gd [(64, dcI_m), (65, dcS_m), (63, dor_m)]) Tryz.func62 rfl rfl (by kernel_rfl) (by kernel_rfl) (AllOk.cons dcI_ok (AllOk.cons dcS_ok (AllOk.cons dor_ok AllOk.nil))).kok ?_
  intro args r h0
  obtain ⟨⟨⟨k1, z1, p1, t1, u1⟩, ⟨k2, z2, p2, t2, u2⟩⟩, rfl, h⟩ := mE_inv h0
  refine ⟨Nat.le_of_ble_eq_true rfl, ?_⟩
  dsimp only at h
  cases h
  have hR : ordP ⟨k1, z1, p1, t1, u1⟩ ⟨k2, z2, p2, t2, u2⟩ = firstNz [ordI t1 t2, ordI k1 k2, ordS z1 z2, ordS p1 p2, ordI u1 u2] := rfl
  have f1 : ∀ x y, dcI_m [.c (.int .i64 x), .c (.int .i64 y)] = some [.i (ordI x y)] := fun _ _ => rfl
  have f2 : ∀ x y, dcS_m [.c (.str x), .c (.str y)] = some [.i (ordS x y)] := fun _ _ => rfl
  rw [hR]
  have f3 : dor_m [.c (.sl true [[.int .i64 (ordI t1 t2)], [.int .i64 (ordI k1 k2)], [.int .i64 (ordS z1 z2)], [.int .i64 (ordS p1 p2)], [.int .i64 (ordI u1 u2)]])] = some [.i (firstNz [ordI t1 t2, ordI k1 k2, ordS z1 z2, ordS p1 p2, ordI u1 u2])] := dor_at (l := [ordI t1 t2, ordI k1 k2, ordS z1 z2, ordS p1 p2, ordI u1 u2]) (by simp)
  have hc := Nat.zero_add 0
  repeat' (first | simp only [hc, Tryz.f62, encPP, Par.row, SX, f1, f2, f3, GX, AB, PL, RG, LP, TY, simprocAttr, ↓reduceIte, forall_const, eq_self, ne_eq, Option.some.injEq, beq_self_eq_true] | ((first | apply fin_ndec | apply fin_dec | apply cnd_ndec | apply cnd_dec' | apply fin_nsplit | apply fin_split | apply cnd_nsplit | apply cnd_split) <;> intro hc) | refine blk_exit_id ?_)
  all_goals simp [DV.i]

end
end Go.Ab
