/-
  Texts of the layer and of the laws, put together: AbA31, AbA32. No law is stated here.
-/
import Derived.Test.YtkneajcbgoaadaaGreatDoorAbV34
import Derived.Test.YtkneajcbgoaadaaGreatDoorAbV38
set_option linter.unusedSimpArgs false
set_option linter.unusedVariables false
set_option maxRecDepth 100000

/-
  Agencies' files: amounts read, as the reference does it.
-/
namespace Go.Ab
open Go.RowKit Go.Proofs

noncomputable section
open Classical

def rmparse_m : List PA → Option (List PA) := ms fun s => if decide (s.length ≤ 100000) = true then some [.i (parseF s).1, .i (parseF s).2] else none

theorem rmparse_ok : PureC Tryz.prog Gt 47 rmparse_m := by
  refine pure_of_awp (X := ctx Tryz.prog Gt [(69, rfits_m)]) Tryz.func47 rfl rfl (by kernel_rfl) (by kernel_rfl) (AllOk.cons rfits_ok AllOk.nil).kok ?_
  intro args r h0
  obtain ⟨s, rfl, h⟩ := ms_inv h0
  refine ⟨Nat.le_of_ble_eq_true rfl, ?_⟩
  split at h
  · rename_i hlen
    have hlen := of_decide_eq_true hlen
    cases h
    have hP : parseF s = amtP (unsF s).1 (unsF s).2 := rfl
    cases s with
    | nil =>
      have hr : parseF [] = (0, 5) := by decide
      have b0 : IntKind.i64.wrap ((([] : List UInt8).length : Int) - 3) = -3 := wI (by decide) (by decide)
      have b0' : IntKind.i64.wrap (-3) = -3 := wI (by decide) (by decide)
      have hc := Nat.zero_add 0
      repeat' (first | simp only [hc, Tryz.f47, SX, b0, b0', AB, PL, RG, LP, TY, simprocAttr, ↓reduceIte, forall_const, eq_self, ne_eq, Option.some.injEq, beq_self_eq_true] | ((first | apply fin_ndec | apply fin_dec | apply cnd_ndec | apply cnd_dec' | apply fin_nsplit | apply fin_split | apply cnd_nsplit | apply cnd_split) <;> intro hc) | refine blk_exit_id ?_)
      all_goals simp [hr, DV.i]
    | cons c0 d0 =>
      have z0 : (c0 :: d0)[0]? = some c0 := rfl
      have zl : (0 : Int) < ((c0 :: d0).length : Int) ↔ True := ⟨fun _ => trivial, fun _ => by simp only [List.length_cons]; omega⟩
      by_cases hc0 : c0 = 45
      · have a0 : ((c0.toNat : Int) = 45) = True := eq_true (by rw [hc0]; rfl)
        have hu : unsF (c0 :: d0) = (d0, true) := if_pos hc0
        rw [hu] at hP
        have dr : ((c0 :: d0).drop 1).take ((c0 :: d0).length - 1) = d0 := by simp
        have k1 : ((1 : Int) ≤ ((c0 :: d0).length : Int)) = True := eq_true (by simp only [List.length_cons]; omega)
        have k2 : (((c0 :: d0).length : Int) ≤ ((c0 :: d0).length : Int)) = True := eq_true (Int.le_refl _)
        have hd : d0.length ≤ 100000 := by simp only [List.length_cons] at hlen; omega
        generalize hs : c0 :: d0 = s at *
        have n1 : ptOk d0 = false → parseF s = (0, 5) := fun h => by rw [hP]; exact amtP_form h
        have n2 : ¬ (d0.eraseIdx (d0.length - 3)).all isDig = true → parseF s = (0, 5) := fun h => by rw [hP]; exact amtP_dig h
        have n3 : ptOk d0 = true → (d0.eraseIdx (d0.length - 3)).all isDig = true → 1125899906842624 < accP 0 (d0.eraseIdx (d0.length - 3)) → parseF s = (0, 13) := fun h h2 h3 => by rw [hP]; exact amtP_big h h2 h3
        have n4 : ptOk d0 = true → (d0.eraseIdx (d0.length - 3)).all isDig = true → accP 0 (d0.eraseIdx (d0.length - 3)) = 0 → parseF s = (0, 5) := fun h h2 h3 => by rw [hP]; exact amtP_zero h h2 h3
        have n5 : ptOk d0 = true → (d0.eraseIdx (d0.length - 3)).all isDig = true → ¬ 1125899906842624 < accP 0 (d0.eraseIdx (d0.length - 3)) → accP 0 (d0.eraseIdx (d0.length - 3)) ≠ 0 → parseF s = (-(accP 0 (d0.eraseIdx (d0.length - 3)) : Int), 0) := fun h h2 h3 h4 => by rw [hP]; exact amtP_neg h h2 h3 h4
        have hpt : ptOk d0 = (decide (4 ≤ d0.length) && decide (d0[d0.length - 3]? = some 46) && (decide (d0.head? ≠ some 48) || decide (d0.length = 4))) := rfl
        generalize parseF s = R at *
        clear hP
        by_cases c4 : d0.length < 4
        · have b0 : IntKind.i64.wrap ((d0.length : Int) - 3) = (d0.length : Int) - 3 := wI (by omega) (by omega)
          have b1 : ((d0.length : Int) - 3 < 1) = True := eq_true (by omega)
          have hr := n1 (by rw [hpt, decide_eq_false (by omega : ¬ 4 ≤ d0.length)]; rfl)
          have hc := Nat.zero_add 0
          repeat' (first | simp only [hc, Tryz.f47, SX, z0, zl, a0, k1, k2, dr, Int.toNat_natCast, b0, b1, AB, PL, RG, LP, TY, simprocAttr, ↓reduceIte, forall_const, eq_self, ne_eq, Option.some.injEq, beq_self_eq_true] | ((first | apply fin_ndec | apply fin_dec | apply cnd_ndec | apply cnd_dec' | apply fin_nsplit | apply fin_split | apply cnd_nsplit | apply cnd_split) <;> intro hc) | refine blk_exit_id ?_)
          all_goals simp [hr, DV.i]
        obtain ⟨m, hm⟩ : ∃ m, m = d0.length - 3 := ⟨_, rfl⟩
        have b1 : ((m : Int) < 1) = False := eq_false (by omega)
        have w0 : IntKind.i64.wrap ((d0.length : Int) - 3) = (m : Int) := by rw [show (d0.length : Int) - 3 = (m : Int) by omega]; exact wI (by omega) (by omega)
        rw [← hm] at n2 n3 hpt n4 n5
        obtain ⟨cm, em⟩ : ∃ c, d0[m]? = some c := ⟨d0[m], List.getElem?_eq_getElem (by omega)⟩
        by_cases c46 : ¬ cm = 46
        · have b2 : ((cm.toNat : Int) = 46) = False := eq_false fun h => c46 (UInt8.toNat_inj.1 (by show cm.toNat = 46; omega))
          have hr := n1 (by rw [hpt, em, decide_eq_false (show ¬ some cm = some 46 from fun h => c46 (Option.some.inj h)), Bool.and_false, Bool.false_and])
          have hc := Nat.zero_add 0
          repeat' (first | simp only [hc, Tryz.f47, SX, z0, zl, a0, k1, k2, dr, Int.toNat_natCast, b1, w0, em, nn, b2, AB, PL, RG, LP, TY, simprocAttr, ↓reduceIte, forall_const, eq_self, ne_eq, Option.some.injEq, beq_self_eq_true] | ((first | apply fin_ndec | apply fin_dec | apply cnd_ndec | apply cnd_dec' | apply fin_nsplit | apply fin_split | apply cnd_nsplit | apply cnd_split) <;> intro hc) | refine blk_exit_id ?_)
          all_goals simp [hr, DV.i]
        have c46 := Classical.not_not.1 c46
        have b2 : ((cm.toNat : Int) = 46) = True := eq_true (by rw [c46]; rfl)
        obtain ⟨cz, ez⟩ : ∃ c, d0[0]? = some c := ⟨d0[0], List.getElem?_eq_getElem (by omega)⟩
        have hhd : d0.head? = some cz := by rw [← ez, List.head?_eq_getElem?]
        by_cases cz48 : cz = 48 ∧ 4 < d0.length
        · have b3 : ((cz.toNat : Int) = 48) = True := eq_true (by rw [cz48.1]; rfl)
          have b4 : ((1 : Int) < (m : Int)) = True := eq_true (by omega)
          have hr := n1 (by rw [hpt, hhd, cz48.1, decide_eq_false (show ¬ d0.length = 4 by omega)]; simp)
          have hc := Nat.zero_add 0
          repeat' (first | simp only [hc, Tryz.f47, SX, z0, zl, a0, k1, k2, dr, Int.toNat_natCast, b1, w0, em, nn, b2, ez, b3, b4, AB, PL, RG, LP, TY, simprocAttr, ↓reduceIte, forall_const, eq_self, ne_eq, Option.some.injEq, beq_self_eq_true] | ((first | apply fin_ndec | apply fin_dec | apply cnd_ndec | apply cnd_dec' | apply fin_nsplit | apply fin_split | apply cnd_nsplit | apply cnd_split) <;> intro hc) | refine blk_exit_id ?_)
          all_goals simp [hr, DV.i]
        have hok : ptOk d0 = true := by
          rw [hpt, em, c46, decide_eq_true (show 4 ≤ d0.length by omega), hhd]
          by_cases h : cz = 48
          · have : d0.length = 4 := by
              have : ¬ 4 < d0.length := fun h4 => cz48 ⟨h, h4⟩
              omega
            simp [this]
          · simp [h]
        have hb : (((1 : Int) < (m : Int)) = False ∧ True) ∨ (((1 : Int) < (m : Int)) = True ∧ ((cz.toNat : Int) = 48) = False) := by
          by_cases h4 : d0.length = 4
          · exact .inl ⟨eq_false (by omega), trivial⟩
          · have z1 : ¬ cz = 48 := fun h => cz48 ⟨h, by omega⟩
            exact .inr ⟨eq_true (by omega), eq_false fun h => z1 (UInt8.toNat_inj.1 (by show cz.toNat = 48; omega))⟩
        rcases hb with ⟨b4, b3⟩ | ⟨b4, b3⟩
        all_goals
          have hc := Nat.zero_add 0
          repeat' (first | simp only [hc, Tryz.f47, SX, z0, zl, a0, k1, k2, dr, Int.toNat_natCast, b1, w0, em, nn, b2, ez, b3, b4, AB, PL, RG, LP, TY, simprocAttr, ↓reduceIte, forall_const, eq_self, ne_eq, Option.some.injEq, beq_self_eq_true] | ((first | apply fin_ndec | apply fin_dec | apply cnd_ndec | apply cnd_dec' | apply fin_nsplit | apply fin_split | apply cnd_nsplit | apply cnd_split) <;> intro hc) | refine blk_exit_id ?_)
          refine awp_loop (σ := Nat) (fun j => j ≤ d0.length ∧ ((d0.take j).eraseIdx m).all isDig = true) (fun j => ⟨[(8, AV.i j), (7, AV.i (accP 0 ((d0.take j).eraseIdx m))), (6, AV.i m), (5, AV.d (.bool true)), (4, AV.s d0)], []⟩) (fun j => d0.length - j) 0 (Wk.sub' (by simp [subT, look, accP]) rfl) (by simp) ?_
          rintro j ⟨hj, hout⟩
          by_cases hjl : j < d0.length
          · have e1 : d0[j]? = some d0[j] := by simp [hjl]
            have hlt : ((j : Int) < (d0.length : Int)) = True := eq_true (by omega)
            have hw := wI (n := (j : Int) + 1) (by omega) (by omega)
            by_cases hjm : j = m
            · have hjm' : ((j : Int) = (m : Int)) = True := eq_true (by omega)
              have hs := er_skip e1
              rw [hjm] at hs
              have hc := Nat.zero_add 0
              repeat' (first | simp only [hc, SX, hlt, nn, hw, hjm', AB, PL, RG, LP, TY, simprocAttr, ↓reduceIte, forall_const, eq_self, ne_eq, Option.some.injEq, beq_self_eq_true] | ((first | apply fin_ndec | apply fin_dec | apply cnd_ndec | apply cnd_dec' | apply fin_nsplit | apply fin_split | apply cnd_nsplit | apply cnd_split) <;> intro hc) | refine blk_exit_id ?_)
              exact lp_next (j + 1) (Wk.sub' (by simp [subT, look, hjm, hs]) rfl) ⟨by omega, by rw [hjm, hs]; rw [hjm] at hout; exact hout⟩ (by omega)
            have hjm' : ((j : Int) = (m : Int)) = False := eq_false (by omega)
            have hs := er_snoc e1 hjm
            have hme := er_mem e1 hjm
            generalize d0[j] = c at *
            by_cases hdg : isDig c = true
            · have hdg' := dig_iff.1 hdg
              have hal : ((d0.take (j + 1)).eraseIdx m).all isDig = true := by rw [hs, List.all_append, hout]; simp [hdg]
              have hac := accP_snoc c ((d0.take j).eraseIdx m) 0
              have hle := accP_le _ 0 (by omega) hout
              rw [← hs] at hac
              have b5 : ((c.toNat : Int) < 48) = False := eq_false (by omega)
              have b6 : ((57 : Int) < (c.toNat : Int)) = False := eq_false (by omega)
              generalize accP 0 ((d0.take j).eraseIdx m) = n at *
              by_cases hn : n ≤ 1125899906842624
              · have b7 : ((n : Int) ≤ 1125899906842624) = True := eq_true (by omega)
                have w1 := wI (n := 10 * (n : Int)) (by omega) (by omega)
                have w3 := wI (n := (c.toNat : Int)) (by omega) (by omega)
                have w4 := wI (n := 10 * (n : Int) + (c.toNat : Int)) (by omega) (by omega)
                have w6 := wI (n := 10 * (n : Int) + (c.toNat : Int) - 48) (by omega) (by omega)
                rw [if_pos hn] at hac
                have hac' : ((accP 0 ((d0.take (j + 1)).eraseIdx m) : Nat) : Int) = 10 * (n : Int) + (c.toNat : Int) - 48 := by omega
                have hc := Nat.zero_add 0
                repeat' (first | simp only [hc, SX, e1, hlt, nn, hw, hjm', b5, b6, b7, w1, w3, w4, w6, AB, PL, RG, LP, TY, simprocAttr, ↓reduceIte, forall_const, eq_self, ne_eq, Option.some.injEq, beq_self_eq_true] | ((first | apply fin_ndec | apply fin_dec | apply cnd_ndec | apply cnd_dec' | apply fin_nsplit | apply fin_split | apply cnd_nsplit | apply cnd_split) <;> intro hc) | refine blk_exit_id ?_)
                exact lp_next (j + 1) (Wk.sub' (by simp [subT, look, hac']) rfl) ⟨by omega, hal⟩ (by omega)
              · have b7 : ((n : Int) ≤ 1125899906842624) = False := eq_false (by omega)
                rw [if_neg hn] at hac
                have hc := Nat.zero_add 0
                repeat' (first | simp only [hc, SX, e1, hlt, nn, hw, hjm', b5, b6, b7, AB, PL, RG, LP, TY, simprocAttr, ↓reduceIte, forall_const, eq_self, ne_eq, Option.some.injEq, beq_self_eq_true] | ((first | apply fin_ndec | apply fin_dec | apply cnd_ndec | apply cnd_dec' | apply fin_nsplit | apply fin_split | apply cnd_nsplit | apply cnd_split) <;> intro hc) | refine blk_exit_id ?_)
                exact lp_next (j + 1) (Wk.sub' (by simp [subT, look, hac]) rfl) ⟨by omega, hal⟩ (by omega)
            · have hr := n2 fun h => hdg (List.all_eq_true.1 h c hme)
              have hdg' : ¬ (48 ≤ c.toNat ∧ c.toNat ≤ 57) := fun h => hdg (dig_iff.2 h)
              by_cases b5 : (c.toNat : Int) < 48
              · skip
                have hc := Nat.zero_add 0
                repeat' (first | simp only [hc, SX, e1, hlt, nn, hw, hjm', b5, AB, PL, RG, LP, TY, simprocAttr, ↓reduceIte, forall_const, eq_self, ne_eq, Option.some.injEq, beq_self_eq_true] | ((first | apply fin_ndec | apply fin_dec | apply cnd_ndec | apply cnd_dec' | apply fin_nsplit | apply fin_split | apply cnd_nsplit | apply cnd_split) <;> intro hc) | refine blk_exit_id ?_)
                all_goals simp [hr, DV.i]
              · have b6 : ((57 : Int) < (c.toNat : Int)) = True := eq_true (by omega)
                have hc := Nat.zero_add 0
                repeat' (first | simp only [hc, SX, e1, hlt, nn, hw, hjm', b5, b6, AB, PL, RG, LP, TY, simprocAttr, ↓reduceIte, forall_const, eq_self, ne_eq, Option.some.injEq, beq_self_eq_true] | ((first | apply fin_ndec | apply fin_dec | apply cnd_ndec | apply cnd_dec' | apply fin_nsplit | apply fin_split | apply cnd_nsplit | apply cnd_split) <;> intro hc) | refine blk_exit_id ?_)
                all_goals simp [hr, DV.i]
          · have hlt : ((j : Int) < (d0.length : Int)) = False := eq_false (by omega)
            rw [List.take_of_length_le (by omega)] at hout
            rw [List.take_of_length_le (by omega)]
            have hle := accP_le _ 0 (by omega) hout
            have n3 := n3 hok hout
            have n4 := n4 hok hout
            have n5 := n5 hok hout
            generalize accP 0 (d0.eraseIdx m) = n at *
            by_cases hn0 : n = 0
            · have b8 : ((n : Int) = 0) = True := eq_true (by omega)
              have hr := n4 hn0
              have hc := Nat.zero_add 0
              repeat' (first | simp only [hc, SX, hlt, b8, AB, PL, RG, LP, TY, simprocAttr, ↓reduceIte, forall_const, eq_self, ne_eq, Option.some.injEq, beq_self_eq_true] | ((first | apply fin_ndec | apply fin_dec | apply cnd_ndec | apply cnd_dec' | apply fin_nsplit | apply fin_split | apply cnd_nsplit | apply cnd_split) <;> intro hc) | refine blk_exit_id ?_)
              all_goals simp [hr, DV.i]
            have b8 : ((n : Int) = 0) = False := eq_false (by omega)
            have f9 := @rfits_at (n : Int)
            by_cases hn : 1125899906842624 < n
            · have b9 : afit (n : Int) = false := by simp [afit]; omega
              rw [b9] at f9
              have hr := n3 hn
              have hc := Nat.zero_add 0
              repeat' (first | simp only [hc, SX, hlt, b8, f9, AB, PL, RG, LP, TY, simprocAttr, ↓reduceIte, forall_const, eq_self, ne_eq, Option.some.injEq, beq_self_eq_true] | ((first | apply fin_ndec | apply fin_dec | apply cnd_ndec | apply cnd_dec' | apply fin_nsplit | apply fin_split | apply cnd_nsplit | apply cnd_split) <;> intro hc) | refine blk_exit_id ?_)
              all_goals simp [hr, DV.i]
            · have b9 : afit (n : Int) = true := by simp [afit]; omega
              rw [b9] at f9
              have hr := n5 hn hn0
              have w5 : IntKind.i64.wrap (0 - (n : Int)) = -(n : Int) := by rw [Int.zero_sub]; exact wI (by omega) (by omega)
              have hc := Nat.zero_add 0
              repeat' (first | simp only [hc, SX, hlt, b8, f9, w5, AB, PL, RG, LP, TY, simprocAttr, ↓reduceIte, forall_const, eq_self, ne_eq, Option.some.injEq, beq_self_eq_true] | ((first | apply fin_ndec | apply fin_dec | apply cnd_ndec | apply cnd_dec' | apply fin_nsplit | apply fin_split | apply cnd_nsplit | apply cnd_split) <;> intro hc) | refine blk_exit_id ?_)
              all_goals simp [hr, DV.i]
      · have a0 : ((c0.toNat : Int) = 45) = False := eq_false fun h => hc0 (UInt8.toNat_inj.1 (by show c0.toNat = 45; omega))
        have hu : unsF (c0 :: d0) = (c0 :: d0, false) := if_neg hc0
        rw [hu] at hP
        generalize hs : c0 :: d0 = s at *
        have n1 : ptOk s = false → parseF s = (0, 5) := fun h => by rw [hP]; exact amtP_form h
        have n2 : ¬ (s.eraseIdx (s.length - 3)).all isDig = true → parseF s = (0, 5) := fun h => by rw [hP]; exact amtP_dig h
        have n3 : ptOk s = true → (s.eraseIdx (s.length - 3)).all isDig = true → 1125899906842624 < accP 0 (s.eraseIdx (s.length - 3)) → parseF s = (0, 13) := fun h h2 h3 => by rw [hP]; exact amtP_big h h2 h3
        have n4 : ptOk s = true → (s.eraseIdx (s.length - 3)).all isDig = true → ¬ 1125899906842624 < accP 0 (s.eraseIdx (s.length - 3)) → parseF s = ((accP 0 (s.eraseIdx (s.length - 3)) : Int), 0) := fun h h2 h3 => by rw [hP]; exact amtP_pos h h2 h3
        have hpt : ptOk s = (decide (4 ≤ s.length) && decide (s[s.length - 3]? = some 46) && (decide (s.head? ≠ some 48) || decide (s.length = 4))) := rfl
        generalize parseF s = R at *
        clear hP
        by_cases c4 : s.length < 4
        · have b0 : IntKind.i64.wrap ((s.length : Int) - 3) = (s.length : Int) - 3 := wI (by omega) (by omega)
          have b1 : ((s.length : Int) - 3 < 1) = True := eq_true (by omega)
          have hr := n1 (by rw [hpt, decide_eq_false (by omega : ¬ 4 ≤ s.length)]; rfl)
          have hc := Nat.zero_add 0
          repeat' (first | simp only [hc, Tryz.f47, SX, z0, zl, a0, b0, b1, AB, PL, RG, LP, TY, simprocAttr, ↓reduceIte, forall_const, eq_self, ne_eq, Option.some.injEq, beq_self_eq_true] | ((first | apply fin_ndec | apply fin_dec | apply cnd_ndec | apply cnd_dec' | apply fin_nsplit | apply fin_split | apply cnd_nsplit | apply cnd_split) <;> intro hc) | refine blk_exit_id ?_)
          all_goals simp [hr, DV.i]
        obtain ⟨m, hm⟩ : ∃ m, m = s.length - 3 := ⟨_, rfl⟩
        have b1 : ((m : Int) < 1) = False := eq_false (by omega)
        have w0 : IntKind.i64.wrap ((s.length : Int) - 3) = (m : Int) := by rw [show (s.length : Int) - 3 = (m : Int) by omega]; exact wI (by omega) (by omega)
        rw [← hm] at n2 n3 hpt n4
        obtain ⟨cm, em⟩ : ∃ c, s[m]? = some c := ⟨s[m], List.getElem?_eq_getElem (by omega)⟩
        by_cases c46 : ¬ cm = 46
        · have b2 : ((cm.toNat : Int) = 46) = False := eq_false fun h => c46 (UInt8.toNat_inj.1 (by show cm.toNat = 46; omega))
          have hr := n1 (by rw [hpt, em, decide_eq_false (show ¬ some cm = some 46 from fun h => c46 (Option.some.inj h)), Bool.and_false, Bool.false_and])
          have hc := Nat.zero_add 0
          repeat' (first | simp only [hc, Tryz.f47, SX, z0, zl, a0, b1, w0, em, nn, b2, AB, PL, RG, LP, TY, simprocAttr, ↓reduceIte, forall_const, eq_self, ne_eq, Option.some.injEq, beq_self_eq_true] | ((first | apply fin_ndec | apply fin_dec | apply cnd_ndec | apply cnd_dec' | apply fin_nsplit | apply fin_split | apply cnd_nsplit | apply cnd_split) <;> intro hc) | refine blk_exit_id ?_)
          all_goals simp [hr, DV.i]
        have c46 := Classical.not_not.1 c46
        have b2 : ((cm.toNat : Int) = 46) = True := eq_true (by rw [c46]; rfl)
        obtain ⟨cz, ez⟩ : ∃ c, s[0]? = some c := ⟨s[0], List.getElem?_eq_getElem (by omega)⟩
        obtain rfl : cz = c0 := Option.some.inj (ez.symm.trans z0)
        have hhd : s.head? = some cz := by rw [← ez, List.head?_eq_getElem?]
        by_cases cz48 : cz = 48 ∧ 4 < s.length
        · have b3 : ((cz.toNat : Int) = 48) = True := eq_true (by rw [cz48.1]; rfl)
          have b4 : ((1 : Int) < (m : Int)) = True := eq_true (by omega)
          have hr := n1 (by rw [hpt, hhd, cz48.1, decide_eq_false (show ¬ s.length = 4 by omega)]; simp)
          have hc := Nat.zero_add 0
          repeat' (first | simp only [hc, Tryz.f47, SX, z0, zl, a0, b1, w0, em, nn, b2, ez, b3, b4, AB, PL, RG, LP, TY, simprocAttr, ↓reduceIte, forall_const, eq_self, ne_eq, Option.some.injEq, beq_self_eq_true] | ((first | apply fin_ndec | apply fin_dec | apply cnd_ndec | apply cnd_dec' | apply fin_nsplit | apply fin_split | apply cnd_nsplit | apply cnd_split) <;> intro hc) | refine blk_exit_id ?_)
          all_goals simp [hr, DV.i]
        have hok : ptOk s = true := by
          rw [hpt, em, c46, decide_eq_true (show 4 ≤ s.length by omega), hhd]
          by_cases h : cz = 48
          · have : s.length = 4 := by
              have : ¬ 4 < s.length := fun h4 => cz48 ⟨h, h4⟩
              omega
            simp [this]
          · simp [h]
        have hb : (((1 : Int) < (m : Int)) = False ∧ True) ∨ (((1 : Int) < (m : Int)) = True ∧ ((cz.toNat : Int) = 48) = False) := by
          by_cases h4 : s.length = 4
          · exact .inl ⟨eq_false (by omega), trivial⟩
          · have z1 : ¬ cz = 48 := fun h => cz48 ⟨h, by omega⟩
            exact .inr ⟨eq_true (by omega), eq_false fun h => z1 (UInt8.toNat_inj.1 (by show cz.toNat = 48; omega))⟩
        rcases hb with ⟨b4, b3⟩ | ⟨b4, b3⟩
        all_goals
          have hc := Nat.zero_add 0
          repeat' (first | simp only [hc, Tryz.f47, SX, z0, zl, a0, b1, w0, em, nn, b2, ez, b3, b4, AB, PL, RG, LP, TY, simprocAttr, ↓reduceIte, forall_const, eq_self, ne_eq, Option.some.injEq, beq_self_eq_true] | ((first | apply fin_ndec | apply fin_dec | apply cnd_ndec | apply cnd_dec' | apply fin_nsplit | apply fin_split | apply cnd_nsplit | apply cnd_split) <;> intro hc) | refine blk_exit_id ?_)
          refine awp_loop (σ := Nat) (fun j => j ≤ s.length ∧ ((s.take j).eraseIdx m).all isDig = true) (fun j => ⟨[(8, AV.i j), (7, AV.i (accP 0 ((s.take j).eraseIdx m))), (6, AV.i m), (5, AV.d (.bool false)), (4, AV.s s)], []⟩) (fun j => s.length - j) 0 (Wk.sub' (by simp [subT, look, accP]) rfl) (by simp) ?_
          rintro j ⟨hj, hout⟩
          by_cases hjl : j < s.length
          · have e1 : s[j]? = some s[j] := by simp [hjl]
            have hlt : ((j : Int) < (s.length : Int)) = True := eq_true (by omega)
            have hw := wI (n := (j : Int) + 1) (by omega) (by omega)
            by_cases hjm : j = m
            · have hjm' : ((j : Int) = (m : Int)) = True := eq_true (by omega)
              have hs := er_skip e1
              rw [hjm] at hs
              have hc := Nat.zero_add 0
              repeat' (first | simp only [hc, SX, hlt, nn, hw, hjm', AB, PL, RG, LP, TY, simprocAttr, ↓reduceIte, forall_const, eq_self, ne_eq, Option.some.injEq, beq_self_eq_true] | ((first | apply fin_ndec | apply fin_dec | apply cnd_ndec | apply cnd_dec' | apply fin_nsplit | apply fin_split | apply cnd_nsplit | apply cnd_split) <;> intro hc) | refine blk_exit_id ?_)
              exact lp_next (j + 1) (Wk.sub' (by simp [subT, look, hjm, hs]) rfl) ⟨by omega, by rw [hjm, hs]; rw [hjm] at hout; exact hout⟩ (by omega)
            have hjm' : ((j : Int) = (m : Int)) = False := eq_false (by omega)
            have hs := er_snoc e1 hjm
            have hme := er_mem e1 hjm
            generalize s[j] = c at *
            by_cases hdg : isDig c = true
            · have hdg' := dig_iff.1 hdg
              have hal : ((s.take (j + 1)).eraseIdx m).all isDig = true := by rw [hs, List.all_append, hout]; simp [hdg]
              have hac := accP_snoc c ((s.take j).eraseIdx m) 0
              have hle := accP_le _ 0 (by omega) hout
              rw [← hs] at hac
              have b5 : ((c.toNat : Int) < 48) = False := eq_false (by omega)
              have b6 : ((57 : Int) < (c.toNat : Int)) = False := eq_false (by omega)
              generalize accP 0 ((s.take j).eraseIdx m) = n at *
              by_cases hn : n ≤ 1125899906842624
              · have b7 : ((n : Int) ≤ 1125899906842624) = True := eq_true (by omega)
                have w1 := wI (n := 10 * (n : Int)) (by omega) (by omega)
                have w3 := wI (n := (c.toNat : Int)) (by omega) (by omega)
                have w4 := wI (n := 10 * (n : Int) + (c.toNat : Int)) (by omega) (by omega)
                have w6 := wI (n := 10 * (n : Int) + (c.toNat : Int) - 48) (by omega) (by omega)
                rw [if_pos hn] at hac
                have hac' : ((accP 0 ((s.take (j + 1)).eraseIdx m) : Nat) : Int) = 10 * (n : Int) + (c.toNat : Int) - 48 := by omega
                have hc := Nat.zero_add 0
                repeat' (first | simp only [hc, SX, e1, hlt, nn, hw, hjm', b5, b6, b7, w1, w3, w4, w6, AB, PL, RG, LP, TY, simprocAttr, ↓reduceIte, forall_const, eq_self, ne_eq, Option.some.injEq, beq_self_eq_true] | ((first | apply fin_ndec | apply fin_dec | apply cnd_ndec | apply cnd_dec' | apply fin_nsplit | apply fin_split | apply cnd_nsplit | apply cnd_split) <;> intro hc) | refine blk_exit_id ?_)
                exact lp_next (j + 1) (Wk.sub' (by simp [subT, look, hac']) rfl) ⟨by omega, hal⟩ (by omega)
              · have b7 : ((n : Int) ≤ 1125899906842624) = False := eq_false (by omega)
                rw [if_neg hn] at hac
                have hc := Nat.zero_add 0
                repeat' (first | simp only [hc, SX, e1, hlt, nn, hw, hjm', b5, b6, b7, AB, PL, RG, LP, TY, simprocAttr, ↓reduceIte, forall_const, eq_self, ne_eq, Option.some.injEq, beq_self_eq_true] | ((first | apply fin_ndec | apply fin_dec | apply cnd_ndec | apply cnd_dec' | apply fin_nsplit | apply fin_split | apply cnd_nsplit | apply cnd_split) <;> intro hc) | refine blk_exit_id ?_)
                exact lp_next (j + 1) (Wk.sub' (by simp [subT, look, hac]) rfl) ⟨by omega, hal⟩ (by omega)
            · have hr := n2 fun h => hdg (List.all_eq_true.1 h c hme)
              have hdg' : ¬ (48 ≤ c.toNat ∧ c.toNat ≤ 57) := fun h => hdg (dig_iff.2 h)
              by_cases b5 : (c.toNat : Int) < 48
              · skip
                have hc := Nat.zero_add 0
                repeat' (first | simp only [hc, SX, e1, hlt, nn, hw, hjm', b5, AB, PL, RG, LP, TY, simprocAttr, ↓reduceIte, forall_const, eq_self, ne_eq, Option.some.injEq, beq_self_eq_true] | ((first | apply fin_ndec | apply fin_dec | apply cnd_ndec | apply cnd_dec' | apply fin_nsplit | apply fin_split | apply cnd_nsplit | apply cnd_split) <;> intro hc) | refine blk_exit_id ?_)
                all_goals simp [hr, DV.i]
              · have b6 : ((57 : Int) < (c.toNat : Int)) = True := eq_true (by omega)
                have hc := Nat.zero_add 0
                repeat' (first | simp only [hc, SX, e1, hlt, nn, hw, hjm', b5, b6, AB, PL, RG, LP, TY, simprocAttr, ↓reduceIte, forall_const, eq_self, ne_eq, Option.some.injEq, beq_self_eq_true] | ((first | apply fin_ndec | apply fin_dec | apply cnd_ndec | apply cnd_dec' | apply fin_nsplit | apply fin_split | apply cnd_nsplit | apply cnd_split) <;> intro hc) | refine blk_exit_id ?_)
                all_goals simp [hr, DV.i]
          · have hlt : ((j : Int) < (s.length : Int)) = False := eq_false (by omega)
            rw [List.take_of_length_le (by omega)] at hout
            rw [List.take_of_length_le (by omega)]
            have hle := accP_le _ 0 (by omega) hout
            have n3 := n3 hok hout
            have n4 := n4 hok hout
            generalize accP 0 (s.eraseIdx m) = n at *
            by_cases hn0 : n = 0
            · subst hn0
              have f9 := @rfits_at 0
              rw [show afit 0 = true by decide] at f9
              have hr := n4 (by decide)
              have hc := Nat.zero_add 0
              repeat' (first | simp only [hc, SX, hlt, f9, Int.natCast_zero, AB, PL, RG, LP, TY, simprocAttr, ↓reduceIte, forall_const, eq_self, ne_eq, Option.some.injEq, beq_self_eq_true] | ((first | apply fin_ndec | apply fin_dec | apply cnd_ndec | apply cnd_dec' | apply fin_nsplit | apply fin_split | apply cnd_nsplit | apply cnd_split) <;> intro hc) | refine blk_exit_id ?_)
              all_goals simp [hr, DV.i]
            have b8 : ((n : Int) = 0) = False := eq_false (by omega)
            have f9 := @rfits_at (n : Int)
            by_cases hn : 1125899906842624 < n
            · have b9 : afit (n : Int) = false := by simp [afit]; omega
              rw [b9] at f9
              have hr := n3 hn
              have hc := Nat.zero_add 0
              repeat' (first | simp only [hc, SX, hlt, b8, f9, AB, PL, RG, LP, TY, simprocAttr, ↓reduceIte, forall_const, eq_self, ne_eq, Option.some.injEq, beq_self_eq_true] | ((first | apply fin_ndec | apply fin_dec | apply cnd_ndec | apply cnd_dec' | apply fin_nsplit | apply fin_split | apply cnd_nsplit | apply cnd_split) <;> intro hc) | refine blk_exit_id ?_)
              all_goals simp [hr, DV.i]
            · have b9 : afit (n : Int) = true := by simp [afit]; omega
              rw [b9] at f9
              have hr := n4 hn
              have hc := Nat.zero_add 0
              repeat' (first | simp only [hc, SX, hlt, b8, f9, AB, PL, RG, LP, TY, simprocAttr, ↓reduceIte, forall_const, eq_self, ne_eq, Option.some.injEq, beq_self_eq_true] | ((first | apply fin_ndec | apply fin_dec | apply cnd_ndec | apply cnd_dec' | apply fin_nsplit | apply fin_split | apply cnd_nsplit | apply cnd_split) <;> intro hc) | refine blk_exit_id ?_)
              all_goals simp [hr, DV.i]
  · cases h

end
end Go.Ab

/-
  Agencies' files: the reference's reader: numbers, the first line, records, the last line.
-/
namespace Go.Ab
open Go.RowKit Go.Proofs

def encLs (p : Bool × List (List UInt8)) : List PA := [.c (.sl p.1 (p.2.map rowS))]
theorem mapS_inj {l k : List (List UInt8)} : l.map rowS = k.map rowS ↔ l = k := ⟨map_inj (fun a b h => by simpa [rowS] using h), fun h => by rw [h]⟩
theorem encLs_inj (a b : Bool × List (List UInt8)) (h : encLs a = encLs b) : a = b := by
  obtain ⟨a1, a2⟩ := a
  obtain ⟨b1, b2⟩ := b
  simpa [encLs, mapS_inj] using h
def encLF (p : (Bool × List (List UInt8)) × Fil) : List PA := [.c (.sl p.1.1 (p.1.2.map rowS)), .agg p.2.row]
theorem encLF_inj (a b : (Bool × List (List UInt8)) × Fil) (h : encLF a = encLF b) : a = b := by
  obtain ⟨⟨a1, a2⟩, a3⟩ := a
  obtain ⟨⟨b1, b2⟩, b3⟩ := b
  simp only [encLF, List.cons.injEq, DV.c.injEq, D.sl.injEq, DV.agg.injEq, and_true, mapS_inj] at h
  rw [h.1.1, h.1.2, Fil.inj _ _ h.2]
def encLI (p : (Bool × List (List UInt8)) × Int) : List PA := [.c (.sl p.1.1 (p.1.2.map rowS)), .c (.int .i64 p.2)]
theorem encLI_inj (a b : (Bool × List (List UInt8)) × Int) (h : encLI a = encLI b) : a = b := by
  obtain ⟨⟨a1, a2⟩, a3⟩ := a
  obtain ⟨⟨b1, b2⟩, b3⟩ := b
  simp only [encLI, List.cons.injEq, DV.c.injEq, D.sl.injEq, D.int.injEq, and_true, true_and, mapS_inj] at h
  rw [h.1.1, h.1.2, h.2]

/-- A number as the reference reads it: beyond the limits some other one beyond them. -/
def clT (v : Nat) : Nat := min v 68719476736
def clZ (n : Int) : Int := if n < -2147483648 then -1 else if 2147483648 < n then min n 68719476736 else n
def numR (s : List UInt8) : Option Int := (numA s).map clZ
theorem clT_step {v d : Nat} (hd : d ≤ 9) : (if (68719476736 : Int) < 10 * ((clT v : Nat) : Int) + (d : Int) then (68719476736 : Int) else 10 * ((clT v : Nat) : Int) + (d : Int)) = ((clT (10 * v + d) : Nat) : Int) := by
  unfold clT
  split <;> omega
theorem num_cases (s : List UInt8) : (∃ n, numF s = (n, 0) ∧ numR s = some n) ∨ (numF s = (0, 5) ∧ numR s = none) ∨ (numF s = (0, 2) ∧ s.head? = some 45 ∧ numR s = some (-1)) ∨ (numF s = (0, 2) ∧ s ≠ [] ∧ s.head? ≠ some 45 ∧ s.all isDig = true ∧ numR s = some ((clT (val s) : Nat) : Int)) := by
  by_cases h1 : Lib.trimPrefix s [45] = [] ∨ ((Lib.trimPrefix s [45]).head? = some 48 ∧ s ≠ [48])
  · right; left
    exact ⟨num_first h1, by unfold numR; rw [numA_first h1]; rfl⟩
  by_cases h2 : (Lib.trimPrefix s [45]).all isDig = true
  · rcases trim_minus s with ⟨r, e1, e2⟩ | ⟨e1, e2⟩
    · have hne : Lib.trimPrefix s [45] ≠ s := by rw [e2, e1]; intro h; have := congrArg List.length h; simp at this
      by_cases h3 : 2147483648 < val (Lib.trimPrefix s [45])
      · right; right; left
        refine ⟨num_big h1 h2 h3, by rw [e1]; rfl, ?_⟩
        have hc : 2147483648 < capM (val (Lib.trimPrefix s [45])) := by
          by_cases h : val (Lib.trimPrefix s [45]) ≤ 9223372036854775807
          · rw [capM_lo h]; exact h3
          · rw [capM_hi h]; decide
        unfold numR
        rw [numA_neg h1 h2 hne, Option.map_some, clZ, if_pos (by omega)]
      · left
        refine ⟨_, num_neg h1 h2 h3 hne, ?_⟩
        unfold numR
        rw [numA_neg h1 h2 hne, capM_lo (by omega), Option.map_some, clZ, if_neg (by omega), if_neg (by omega)]
    · by_cases h3 : 2147483648 < val (Lib.trimPrefix s [45])
      · right; right; right
        refine ⟨num_big h1 h2 h3, fun h => h1 (.inl (by rw [e2]; exact h)), ?_, by rw [← e2]; exact h2, ?_⟩
        · cases s with
          | nil => simp
          | cons c r =>
            intro h
            simp at h
            exact e1 r (by rw [h])
        · unfold numR
          rw [numA_pos h1 h2 e2, Option.map_some, clZ, e2]
          rw [e2] at h3
          have hc : 2147483648 < capM (val s) ∧ (min ((capM (val s) : Nat) : Int) 68719476736 = ((clT (val s) : Nat) : Int)) := by
            unfold clT
            by_cases h : val s ≤ 9223372036854775807
            · rw [capM_lo h]; omega
            · rw [capM_hi h]; omega
          rw [if_neg (by omega), if_pos (by omega), hc.2]
      · left
        refine ⟨_, num_pos h1 h2 h3 e2, ?_⟩
        unfold numR
        rw [numA_pos h1 h2 e2, capM_lo (by omega), Option.map_some, clZ, if_neg (by omega), if_neg (by omega)]
  · right; left
    refine ⟨?_, by unfold numR; rw [numA_bad h2]; rfl⟩
    unfold numF
    rw [if_neg h1, if_neg h2]

def kindF (s : List UInt8) : Int := if s = wordF 1 then 1 else if s = wordF 2 then 2 else if s = wordF 3 then 3 else if s = wordF 4 then 4 else 0
def firR : List (List UInt8) → Fil × Int
  | [a, b, c, d] => if a = [102, 105, 108, 101] then (match numR d with
    | none => (zFil, 5)
    | some n => (⟨b, c, n, true, []⟩, headF ⟨b, c, n, true, []⟩)) else (zFil, 5)
  | _ => (zFil, 5)
def lasR (rs : List Rec) : List (List UInt8) → Int
  | [_, b, c] => match numR b with
    | none => 5
    | some n => if (parseF c).2 ≠ 0 then (parseF c).2 else if (totF rs).2 ≠ 0 then (totF rs).2 else if n ≠ rs.length ∨ (parseF c).1 ≠ (totF rs).1 then 8 else 0
  | _ => 5
def zRec : Rec := ⟨0, [], 0, 0, 0⟩
def midC (n : Int) (x : Rec) : Rec × Int := if 1024 < n then (zRec, 3) else (x, rightF x)
def midR (n : Int) : List (List UInt8) → Rec × Int
  | [a, b, c, d] => if kindF a = 0 then (zRec, 5) else (match numR c with
    | none => (zRec, 5)
    | some t => if kindF a = 3 then (match numR d with
      | none => (zRec, 5)
      | some w => midC n ⟨3, b, t, 0, w⟩) else if (parseF d).2 ≠ 0 then (zRec, (parseF d).2) else midC n ⟨kindF a, b, t, (parseF d).1, 0⟩)
  | _ => (zRec, 5)

noncomputable section
open Classical

def rnumb_m : List PA → Option (List PA) := ms fun s => if decide (s.length ≤ 100000) = true then some [.i ((numR s).getD 0), .b (numR s).isSome] else none
def rkind_m : List PA → Option (List PA) := ms fun s => some [.i (kindF s)]
def rfirst_m : List PA → Option (List PA) := mE encLs fun p => if linOk p.2 then some [.agg (firR p.2).1.row, .i (firR p.2).2] else none
def rlast_m : List PA → Option (List PA) := mE encLF fun p => if linOk p.1.2 ∧ p.2.recs.length ≤ 1024 then some [.i (lasR p.2.recs p.1.2)] else none
def rmid_m : List PA → Option (List PA) := mE encLI fun p => if linOk p.1.2 then some [.agg (midR p.2 p.1.2).1.row, .i (midR p.2 p.1.2).2] else none

theorem rnum_at {s : List UInt8} (h : s.length ≤ 100000) : rnum_m [.c (.str s)] = some [.i (numF s).1, .i (numF s).2] := by
  rw [rnum_m, ms_eq, if_pos (decide_eq_true h)]

theorem rnumb_ok : PureC Tryz.prog Gt 45 rnumb_m := by
  refine pure_of_awp (X := ctx Tryz.prog Gt [(67, rnum_m)]) Tryz.func45 rfl rfl (by kernel_rfl) (by kernel_rfl) (AllOk.cons rnum_ok AllOk.nil).kok ?_
  intro args r h0
  obtain ⟨s, rfl, h⟩ := ms_inv h0
  refine ⟨Nat.le_of_ble_eq_true rfl, ?_⟩
  split at h
  · rename_i hlen
    have hlen := of_decide_eq_true hlen
    cases h
    have f1 := rnum_at hlen
    rcases num_cases s with ⟨n, e1, e2⟩ | ⟨e1, e2⟩ | ⟨e1, e3, e2⟩ | ⟨e1, e3, e4, e5, e2⟩
    · rw [e1] at f1
      rw [e2]
      have hc := Nat.zero_add 0
      repeat' (first | simp only [hc, Tryz.f45, SX, f1, AB, PL, RG, LP, TY, simprocAttr, ↓reduceIte, forall_const, eq_self, ne_eq, Option.some.injEq, beq_self_eq_true] | ((first | apply fin_ndec | apply fin_dec | apply cnd_ndec | apply cnd_dec' | apply fin_nsplit | apply fin_split | apply cnd_nsplit | apply cnd_split) <;> intro hc) | refine blk_exit_id ?_)
      all_goals simp [DV.i, DV.b]
    · rw [e1] at f1
      rw [e2]
      have hc := Nat.zero_add 0
      repeat' (first | simp only [hc, Tryz.f45, SX, f1, AB, PL, RG, LP, TY, simprocAttr, ↓reduceIte, forall_const, eq_self, ne_eq, Option.some.injEq, beq_self_eq_true] | ((first | apply fin_ndec | apply fin_dec | apply cnd_ndec | apply cnd_dec' | apply fin_nsplit | apply fin_split | apply cnd_nsplit | apply cnd_split) <;> intro hc) | refine blk_exit_id ?_)
      all_goals simp [DV.i, DV.b]
    · rw [e1] at f1
      rw [e2]
      obtain ⟨c0, z0, a0⟩ : ∃ c, s[0]? = some c ∧ ((c.toNat : Int) = 45) = True := ⟨45, by rw [← List.head?_eq_getElem?]; exact e3, eq_true rfl⟩
      have hc := Nat.zero_add 0
      repeat' (first | simp only [hc, Tryz.f45, SX, f1, z0, a0, AB, PL, RG, LP, TY, simprocAttr, ↓reduceIte, forall_const, eq_self, ne_eq, Option.some.injEq, beq_self_eq_true] | ((first | apply fin_ndec | apply fin_dec | apply cnd_ndec | apply cnd_dec' | apply fin_nsplit | apply fin_split | apply cnd_nsplit | apply cnd_split) <;> intro hc) | refine blk_exit_id ?_)
      all_goals simp [DV.i, DV.b]
    · rw [e1] at f1
      rw [e2]
      obtain ⟨c0, z0⟩ : ∃ c, s[0]? = some c := ⟨s[0]'(List.length_pos_iff.2 e3), List.getElem?_eq_getElem (List.length_pos_iff.2 e3)⟩
      have b0 : ((c0.toNat : Int) = 45) = False := eq_false fun h => e4 (by rw [List.head?_eq_getElem?, z0, UInt8.toNat_inj.1 (show c0.toNat = (45 : UInt8).toNat by show c0.toNat = 45; omega)])
      have hc := Nat.zero_add 0
      repeat' (first | simp only [hc, Tryz.f45, SX, f1, z0, b0, AB, PL, RG, LP, TY, simprocAttr, ↓reduceIte, forall_const, eq_self, ne_eq, Option.some.injEq, beq_self_eq_true] | ((first | apply fin_ndec | apply fin_dec | apply cnd_ndec | apply cnd_dec' | apply fin_nsplit | apply fin_split | apply cnd_nsplit | apply cnd_split) <;> intro hc) | refine blk_exit_id ?_)
      have hz : clT (val (s.take 0)) = 0 := by rw [List.take_zero]; rfl
      refine awp_loop (σ := Nat) (fun j => j ≤ s.length) (fun j => ⟨[(6, AV.i j), (4, AV.i (clT (val (s.take j)))), (0, AV.s s)], []⟩) (fun j => s.length - j) 0 (Wk.sub' (by simp only [subT, look, hz]; simp) rfl) (by simp) ?_
      intro j hj
      by_cases hjl : j < s.length
      · have e6 : s[j]? = some s[j] := by simp [hjl]
        have hlt : ((j : Int) < (s.length : Int)) = True := eq_true (by omega)
        have hw := wI (n := (j : Int) + 1) (by omega) (by omega)
        have hdg := dig_iff.1 (List.all_eq_true.1 e5 s[j] (List.getElem_mem hjl))
        have hv : val (s.take (j + 1)) = 10 * val (s.take j) + (s[j].toNat - 48) := by rw [take_snoc e6, val_snoc]
        have hst := @clT_step (val (s.take j)) (s[j].toNat - 48) (by omega)
        rw [← hv, show ((s[j].toNat - 48 : Nat) : Int) = (s[j].toNat : Int) - 48 by omega] at hst
        have hle : clT (val (s.take j)) ≤ 68719476736 := Nat.min_le_right _ _
        generalize s[j] = c at *
        generalize clT (val (s.take j)) = n at *
        generalize hn' : clT (val (s.take (j + 1))) = n' at *
        have w1 := wI (n := 10 * (n : Int)) (by omega) (by omega)
        have w2 := wU8 (n := (c.toNat : Int) - 48) (by omega) (by omega)
        have w3 := wI (n := (c.toNat : Int) - 48) (by omega) (by omega)
        have w4 := wI (n := 10 * (n : Int) + ((c.toNat : Int) - 48)) (by omega) (by omega)
        have hc := Nat.zero_add 0
        repeat' (first | simp only [hc, SX, e6, hlt, nn, hw, w1, w2, w3, w4, hst, AB, PL, RG, LP, TY, simprocAttr, ↓reduceIte, forall_const, eq_self, ne_eq, Option.some.injEq, beq_self_eq_true] | ((first | apply fin_ndec | apply fin_dec | apply cnd_ndec | apply cnd_dec' | apply fin_nsplit | apply fin_split | apply cnd_nsplit | apply cnd_split) <;> intro hc) | refine blk_exit_id ?_)
        exact lp_next (j + 1) (Wk.sub' (by simp [subT, look, hn']) rfl) (by omega) (by omega)
      · have hlt : ((j : Int) < (s.length : Int)) = False := eq_false (by omega)
        rw [List.take_of_length_le (by omega)]
        have hc := Nat.zero_add 0
        repeat' (first | simp only [hc, SX, hlt, AB, PL, RG, LP, TY, simprocAttr, ↓reduceIte, forall_const, eq_self, ne_eq, Option.some.injEq, beq_self_eq_true] | ((first | apply fin_ndec | apply fin_dec | apply cnd_ndec | apply cnd_dec' | apply fin_nsplit | apply fin_split | apply cnd_nsplit | apply cnd_split) <;> intro hc) | refine blk_exit_id ?_)
        all_goals simp [DV.i, DV.b]
  · cases h
theorem rnumb_at {s : List UInt8} (h : s.length ≤ 100000) : rnumb_m [.c (.str s)] = some [.i ((numR s).getD 0), .b (numR s).isSome] := by
  rw [rnumb_m, ms_eq, if_pos (decide_eq_true h)]

theorem rkind_ok : PureC Tryz.prog Gt 49 rkind_m := by
  refine pure_of_awp (X := ctx Tryz.prog Gt [(70, xword_m)]) Tryz.func49 rfl rfl (by kernel_rfl) (by kernel_rfl) (AllOk.cons xword_ok AllOk.nil).kok ?_
  intro args r h0
  obtain ⟨s, rfl, h⟩ := ms_inv h0
  refine ⟨Nat.le_of_ble_eq_true rfl, ?_⟩
  cases h
  have g1 := @xword_at 1 (by decide) (by decide)
  have g2 := @xword_at 2 (by decide) (by decide)
  have g3 := @xword_at 3 (by decide) (by decide)
  have g4 := @xword_at 4 (by decide) (by decide)
  have hK : kindF s = if s = wordF 1 then 1 else if s = wordF 2 then 2 else if s = wordF 3 then 3 else if s = wordF 4 then 4 else 0 := rfl
  generalize kindF s = R at *
  generalize wordF 1 = x1 at *
  generalize wordF 2 = x2 at *
  generalize wordF 3 = x3 at *
  generalize wordF 4 = x4 at *
  have hc := Nat.zero_add 0
  repeat' (first | simp only [hc, Tryz.f49, SX, AB, PL, RG, LP, TY, simprocAttr, ↓reduceIte, forall_const, eq_self, ne_eq, Option.some.injEq, beq_self_eq_true] | ((first | apply fin_ndec | apply fin_dec | apply cnd_ndec | apply cnd_dec' | apply fin_nsplit | apply fin_split | apply cnd_nsplit | apply cnd_split) <;> intro hc) | refine blk_exit_id ?_)
  refine awp_loop (σ := Nat) (fun j => 1 ≤ j ∧ j ≤ 5 ∧ (1 < j → ¬ s = x1) ∧ (2 < j → ¬ s = x2) ∧ (3 < j → ¬ s = x3) ∧ (4 < j → ¬ s = x4)) (fun j => ⟨[(3, AV.i j), (0, AV.s s)], []⟩) (fun j => 5 - j) 1 (Wk.sub' (by simp [subT, look]) rfl) ⟨by decide, by decide, fun h => absurd h (by decide), fun h => absurd h (by decide), fun h => absurd h (by decide), fun h => absurd h (by decide)⟩ ?_
  rintro j ⟨j1, j2, n1, n2, n3, n4⟩
  have hj : j = 1 ∨ j = 2 ∨ j = 3 ∨ j = 4 ∨ j = 5 := by omega
  rcases hj with rfl | rfl | rfl | rfl | rfl
  · have w := wI (n := 2) (by decide) (by decide)
    by_cases c : s = x1
    · have c' : (x1 == s) = true := by simp [c]
      rw [if_pos c] at hK
      have hc := Nat.zero_add 0
      repeat' (first | simp only [hc, SX, g1, c', w, Int.cast_ofNat_Int, AB, PL, RG, LP, TY, simprocAttr, ↓reduceIte, forall_const, eq_self, ne_eq, Option.some.injEq, beq_self_eq_true] | ((first | apply fin_ndec | apply fin_dec | apply cnd_ndec | apply cnd_dec' | apply fin_nsplit | apply fin_split | apply cnd_nsplit | apply cnd_split) <;> intro hc) | refine blk_exit_id ?_)
      all_goals simp [DV.i, hK]
    · have c' : (x1 == s) = false := by simp [Ne.symm c]
      have hc := Nat.zero_add 0
      repeat' (first | simp only [hc, SX, g1, c', w, Int.cast_ofNat_Int, AB, PL, RG, LP, TY, simprocAttr, ↓reduceIte, forall_const, eq_self, ne_eq, Option.some.injEq, beq_self_eq_true] | ((first | apply fin_ndec | apply fin_dec | apply cnd_ndec | apply cnd_dec' | apply fin_nsplit | apply fin_split | apply cnd_nsplit | apply cnd_split) <;> intro hc) | refine blk_exit_id ?_)
      exact lp_next 2 (Wk.sub' (by simp [subT, look]) rfl) ⟨by decide, by decide, fun _ => c, fun h => absurd h (by decide), fun h => absurd h (by decide), fun h => absurd h (by decide)⟩ (by decide)
  · have w := wI (n := 3) (by decide) (by decide)
    have m1 := n1 (by decide)
    by_cases c : s = x2
    · have c' : (x2 == s) = true := by simp [c]
      rw [if_neg m1, if_pos c] at hK
      have hc := Nat.zero_add 0
      repeat' (first | simp only [hc, SX, g2, c', w, Int.cast_ofNat_Int, AB, PL, RG, LP, TY, simprocAttr, ↓reduceIte, forall_const, eq_self, ne_eq, Option.some.injEq, beq_self_eq_true] | ((first | apply fin_ndec | apply fin_dec | apply cnd_ndec | apply cnd_dec' | apply fin_nsplit | apply fin_split | apply cnd_nsplit | apply cnd_split) <;> intro hc) | refine blk_exit_id ?_)
      all_goals simp [DV.i, hK]
    · have c' : (x2 == s) = false := by simp [Ne.symm c]
      have hc := Nat.zero_add 0
      repeat' (first | simp only [hc, SX, g2, c', w, Int.cast_ofNat_Int, AB, PL, RG, LP, TY, simprocAttr, ↓reduceIte, forall_const, eq_self, ne_eq, Option.some.injEq, beq_self_eq_true] | ((first | apply fin_ndec | apply fin_dec | apply cnd_ndec | apply cnd_dec' | apply fin_nsplit | apply fin_split | apply cnd_nsplit | apply cnd_split) <;> intro hc) | refine blk_exit_id ?_)
      exact lp_next 3 (Wk.sub' (by simp [subT, look]) rfl) ⟨by decide, by decide, fun _ => m1, fun _ => c, fun h => absurd h (by decide), fun h => absurd h (by decide)⟩ (by decide)
  · have w := wI (n := 4) (by decide) (by decide)
    have m1 := n1 (by decide)
    have m2 := n2 (by decide)
    by_cases c : s = x3
    · have c' : (x3 == s) = true := by simp [c]
      rw [if_neg m1, if_neg m2, if_pos c] at hK
      have hc := Nat.zero_add 0
      repeat' (first | simp only [hc, SX, g3, c', w, Int.cast_ofNat_Int, AB, PL, RG, LP, TY, simprocAttr, ↓reduceIte, forall_const, eq_self, ne_eq, Option.some.injEq, beq_self_eq_true] | ((first | apply fin_ndec | apply fin_dec | apply cnd_ndec | apply cnd_dec' | apply fin_nsplit | apply fin_split | apply cnd_nsplit | apply cnd_split) <;> intro hc) | refine blk_exit_id ?_)
      all_goals simp [DV.i, hK]
    · have c' : (x3 == s) = false := by simp [Ne.symm c]
      have hc := Nat.zero_add 0
      repeat' (first | simp only [hc, SX, g3, c', w, Int.cast_ofNat_Int, AB, PL, RG, LP, TY, simprocAttr, ↓reduceIte, forall_const, eq_self, ne_eq, Option.some.injEq, beq_self_eq_true] | ((first | apply fin_ndec | apply fin_dec | apply cnd_ndec | apply cnd_dec' | apply fin_nsplit | apply fin_split | apply cnd_nsplit | apply cnd_split) <;> intro hc) | refine blk_exit_id ?_)
      exact lp_next 4 (Wk.sub' (by simp [subT, look]) rfl) ⟨by decide, by decide, fun _ => m1, fun _ => m2, fun _ => c, fun h => absurd h (by decide)⟩ (by decide)
  · have w := wI (n := 5) (by decide) (by decide)
    have m1 := n1 (by decide)
    have m2 := n2 (by decide)
    have m3 := n3 (by decide)
    by_cases c : s = x4
    · have c' : (x4 == s) = true := by simp [c]
      rw [if_neg m1, if_neg m2, if_neg m3, if_pos c] at hK
      have hc := Nat.zero_add 0
      repeat' (first | simp only [hc, SX, g4, c', w, Int.cast_ofNat_Int, AB, PL, RG, LP, TY, simprocAttr, ↓reduceIte, forall_const, eq_self, ne_eq, Option.some.injEq, beq_self_eq_true] | ((first | apply fin_ndec | apply fin_dec | apply cnd_ndec | apply cnd_dec' | apply fin_nsplit | apply fin_split | apply cnd_nsplit | apply cnd_split) <;> intro hc) | refine blk_exit_id ?_)
      all_goals simp [DV.i, hK]
    · have c' : (x4 == s) = false := by simp [Ne.symm c]
      have hc := Nat.zero_add 0
      repeat' (first | simp only [hc, SX, g4, c', w, Int.cast_ofNat_Int, AB, PL, RG, LP, TY, simprocAttr, ↓reduceIte, forall_const, eq_self, ne_eq, Option.some.injEq, beq_self_eq_true] | ((first | apply fin_ndec | apply fin_dec | apply cnd_ndec | apply cnd_dec' | apply fin_nsplit | apply fin_split | apply cnd_nsplit | apply cnd_split) <;> intro hc) | refine blk_exit_id ?_)
      exact lp_next 5 (Wk.sub' (by simp [subT, look]) rfl) ⟨by decide, by decide, fun _ => m1, fun _ => m2, fun _ => m3, fun _ => c⟩ (by decide)
  · have m1 := n1 (by decide)
    have m2 := n2 (by decide)
    have m3 := n3 (by decide)
    have m4 := n4 (by decide)
    rw [if_neg m1, if_neg m2, if_neg m3, if_neg m4] at hK
    have hc := Nat.zero_add 0
    repeat' (first | simp only [hc, SX, Int.cast_ofNat_Int, AB, PL, RG, LP, TY, simprocAttr, ↓reduceIte, forall_const, eq_self, ne_eq, Option.some.injEq, beq_self_eq_true] | ((first | apply fin_ndec | apply fin_dec | apply cnd_ndec | apply cnd_dec' | apply fin_nsplit | apply fin_split | apply cnd_nsplit | apply cnd_split) <;> intro hc) | refine blk_exit_id ?_)
    all_goals simp [DV.i, hK]
theorem rkind_at {s : List UInt8} : rkind_m [.c (.str s)] = some [.i (kindF s)] := rfl

theorem firR_len {l : List (List UInt8)} (h : l.length ≠ 4) : firR l = (zFil, 5) := by
  unfold firR
  split
  · simp at h
  · rfl
theorem lasR_len {rs : List Rec} {l : List (List UInt8)} (h : l.length ≠ 3) : lasR rs l = 5 := by
  unfold lasR
  split
  · simp at h
  · rfl
theorem midR_len {n : Int} {l : List (List UInt8)} (h : l.length ≠ 4) : midR n l = (zRec, 5) := by
  unfold midR
  split
  · simp at h
  · rfl
theorem zFil_row : zFil.row = [.str [], .str [], .int .i64 0, .sl true []] := rfl
theorem zRec_row : zRec.row = [.int .i64 0, .str [], .int .i64 0, .int .i64 0, .int .i64 0] := rfl
theorem lenS {l : List (List UInt8)} : ((l.map rowS).length : Int) = l.length := by simp

theorem rfirst_ok : PureC Tryz.prog Gt 25 rfirst_m := by
  refine pure_of_awp (X := ctx Tryz.prog Gt [(45, rnumb_m), (46, rhead_m)]) Tryz.func25 rfl rfl (by kernel_rfl) (by kernel_rfl) (AllOk.cons rnumb_ok (AllOk.cons rhead_ok AllOk.nil)).kok ?_
  intro args r h0
  obtain ⟨⟨f, l⟩, rfl, h⟩ := mE_inv h0
  refine ⟨Nat.le_of_ble_eq_true rfl, ?_⟩
  split at h
  · rename_i hl
    dsimp only at hl h
    cases h
    have l1 := @lenS l
    by_cases h4 : l.length ≠ 4
    · have hn : ((l.length : Int) = 4) = False := eq_false (by omega)
      rw [firR_len h4, zFil_row]
      have hc := Nat.zero_add 0
      repeat' (first | simp only [hc, Tryz.f25, encLs, SX, l1, hn, AB, PL, RG, LP, TY, simprocAttr, ↓reduceIte, forall_const, eq_self, ne_eq, Option.some.injEq, beq_self_eq_true] | ((first | apply fin_ndec | apply fin_dec | apply cnd_ndec | apply cnd_dec' | apply fin_nsplit | apply fin_split | apply cnd_nsplit | apply cnd_split) <;> intro hc) | refine blk_exit_id ?_)
      all_goals simp [DV.i]
    · have h4 : l.length = 4 := Classical.not_not.1 h4
      obtain ⟨a, b, c, d, rfl⟩ : ∃ a b c d, l = [a, b, c, d] := by
        match l, h4 with
        | [a, b, c, d], _ => exact ⟨a, b, c, d, rfl⟩
      have hd := hl d (by simp)
      have hF : firR [a, b, c, d] = if a = [102, 105, 108, 101] then (match numR d with
        | none => (zFil, 5)
        | some n => (⟨b, c, n, true, []⟩, headF ⟨b, c, n, true, []⟩)) else (zFil, 5) := rfl
      generalize firR [a, b, c, d] = R at *
      obtain ⟨L, hL⟩ : ∃ L, L = [a, b, c, d].map rowS := ⟨_, rfl⟩
      have hn : ((L.length : Int) = 4) = True := eq_true (by rw [hL]; rfl)
      have i0 : L[0]? = some [.str a] := by rw [hL]; rfl
      have i1 : L[1]? = some [.str b] := by rw [hL]; rfl
      have i2 : L[2]? = some [.str c] := by rw [hL]; rfl
      have i3 : L[3]? = some [.str d] := by rw [hL]; rfl
      rw [show encLs (f, [a, b, c, d]) = [.c (.sl f L)] by rw [hL]; rfl]
      clear hL l1 h0
      have f1 := rnumb_at hd
      by_cases c1 : a = [102, 105, 108, 101]
      · have c1' : (a == [102, 105, 108, 101]) = true := by simp [c1]
        rw [if_pos c1] at hF
        cases hnum : numR d with
        | none =>
          rw [hnum] at hF f1
          dsimp only [Option.getD, Option.isSome] at hF f1
          subst hF
          rw [zFil_row]
          have hc := Nat.zero_add 0
          repeat' (first | simp only [hc, Tryz.f25, SX, hn, i0, i3, c1', f1, AB, PL, RG, LP, TY, simprocAttr, ↓reduceIte, forall_const, eq_self, ne_eq, Option.some.injEq, beq_self_eq_true] | ((first | apply fin_ndec | apply fin_dec | apply cnd_ndec | apply cnd_dec' | apply fin_nsplit | apply fin_split | apply cnd_nsplit | apply cnd_split) <;> intro hc) | refine blk_exit_id ?_)
          all_goals simp [DV.i]
        | some n =>
          rw [hnum] at hF f1
          dsimp only [Option.getD, Option.isSome] at hF f1
          subst hF
          have f2 := @rhead_at ⟨b, c, n, true, []⟩
          simp only [Fil.row, List.map_nil] at f2 ⊢
          generalize headF ⟨b, c, n, true, []⟩ = e at *
          have hc := Nat.zero_add 0
          repeat' (first | simp only [hc, Tryz.f25, SX, hn, i0, i1, i2, i3, c1', f1, f2, AB, PL, RG, LP, TY, simprocAttr, ↓reduceIte, forall_const, eq_self, ne_eq, Option.some.injEq, beq_self_eq_true] | ((first | apply fin_ndec | apply fin_dec | apply cnd_ndec | apply cnd_dec' | apply fin_nsplit | apply fin_split | apply cnd_nsplit | apply cnd_split) <;> intro hc) | refine blk_exit_id ?_)
          all_goals simp [DV.i]
      · have c1' : (a == [102, 105, 108, 101]) = false := by simp [c1]
        rw [if_neg c1] at hF
        subst hF
        rw [zFil_row]
        have hc := Nat.zero_add 0
        repeat' (first | simp only [hc, Tryz.f25, SX, hn, i0, c1', AB, PL, RG, LP, TY, simprocAttr, ↓reduceIte, forall_const, eq_self, ne_eq, Option.some.injEq, beq_self_eq_true] | ((first | apply fin_ndec | apply fin_dec | apply cnd_ndec | apply cnd_dec' | apply fin_nsplit | apply fin_split | apply cnd_nsplit | apply cnd_split) <;> intro hc) | refine blk_exit_id ?_)
        all_goals simp [DV.i]
  · cases h

theorem rlast_ok : PureC Tryz.prog Gt 26 rlast_m := by
  refine pure_of_awp (X := ctx Tryz.prog Gt [(45, rnumb_m), (47, rmparse_m), (48, rtotal_m)]) Tryz.func26 rfl rfl (by kernel_rfl) (by kernel_rfl) (AllOk.cons rnumb_ok (AllOk.cons rmparse_ok (AllOk.cons rtotal_ok AllOk.nil))).kok ?_
  intro args r h0
  obtain ⟨⟨⟨f, l⟩, fi⟩, rfl, h⟩ := mE_inv h0
  refine ⟨Nat.le_of_ble_eq_true rfl, ?_⟩
  split at h
  · rename_i hl
    obtain ⟨hl, hrs⟩ := hl
    dsimp only at hl hrs h
    cases h
    have l1 := @lenS l
    have fT := @rtotal_at fi hrs
    have l2 : ((fi.recs.map Rec.row).length : Int) = fi.recs.length := by simp
    obtain ⟨fr, dst, seq, rf, rs⟩ := fi
    simp only [Fil.row] at fT
    dsimp only at l2 hrs fT ⊢
    by_cases h3 : l.length ≠ 3
    · have hn : ((l.length : Int) = 3) = False := eq_false (by omega)
      rw [lasR_len h3]
      have hc := Nat.zero_add 0
      repeat' (first | simp only [hc, Tryz.f26, encLF, Fil.row, SX, l1, hn, AB, PL, RG, LP, TY, simprocAttr, ↓reduceIte, forall_const, eq_self, ne_eq, Option.some.injEq, beq_self_eq_true] | ((first | apply fin_ndec | apply fin_dec | apply cnd_ndec | apply cnd_dec' | apply fin_nsplit | apply fin_split | apply cnd_nsplit | apply cnd_split) <;> intro hc) | refine blk_exit_id ?_)
      all_goals simp [DV.i]
    · have h3 : l.length = 3 := Classical.not_not.1 h3
      obtain ⟨a, b, c, rfl⟩ : ∃ a b c, l = [a, b, c] := by
        match l, h3 with
        | [a, b, c], _ => exact ⟨a, b, c, rfl⟩
      have hb := hl b (by simp)
      have hc' := hl c (by simp)
      have hF : lasR rs [a, b, c] = match numR b with
        | none => 5
        | some n => if (parseF c).2 ≠ 0 then (parseF c).2 else if (totF rs).2 ≠ 0 then (totF rs).2 else if n ≠ rs.length ∨ (parseF c).1 ≠ (totF rs).1 then 8 else 0 := rfl
      generalize lasR rs [a, b, c] = R at *
      obtain ⟨L, hL⟩ : ∃ L, L = [a, b, c].map rowS := ⟨_, rfl⟩
      have hn : ((L.length : Int) = 3) = True := eq_true (by rw [hL]; rfl)
      have i1 : L[1]? = some [.str b] := by rw [hL]; rfl
      have i2 : L[2]? = some [.str c] := by rw [hL]; rfl
      rw [show encLF ((f, [a, b, c]), ⟨fr, dst, seq, rf, rs⟩) = [.c (.sl f L), .agg [.str fr, .str dst, .int .i64 seq, .sl rf (rs.map Rec.row)]] by rw [hL]; rfl]
      clear hL l1 h0
      have f1 := rnumb_at hb
      have f2 : rmparse_m [.c (.str c)] = some [.i (parseF c).1, .i (parseF c).2] := by rw [rmparse_m, ms_eq, if_pos (decide_eq_true hc')]
      generalize rs.map Rec.row = rows at *
      generalize totF rs = T at *
      generalize rs.length = N at *
      generalize parseF c = P at *
      obtain ⟨t1, t2⟩ := T
      obtain ⟨p1, p2⟩ := P
      dsimp only at hF f2 fT
      cases hnum : numR b with
      | none =>
        rw [hnum] at hF f1
        dsimp only [Option.getD, Option.isSome] at hF f1
        subst hF
        have hc := Nat.zero_add 0
        repeat' (first | simp only [hc, Tryz.f26, SX, hn, i1, f1, AB, PL, RG, LP, TY, simprocAttr, ↓reduceIte, forall_const, eq_self, ne_eq, Option.some.injEq, beq_self_eq_true] | ((first | apply fin_ndec | apply fin_dec | apply cnd_ndec | apply cnd_dec' | apply fin_nsplit | apply fin_split | apply cnd_nsplit | apply cnd_split) <;> intro hc) | refine blk_exit_id ?_)
        all_goals simp [DV.i]
      | some n =>
        rw [hnum] at hF f1
        dsimp only [Option.getD, Option.isSome] at hF f1
        by_cases hp : p2 = 0
        · subst hp
          rw [if_neg (by simp)] at hF
          by_cases ht : t2 = 0
          · subst ht
            rw [if_neg (by simp)] at hF
            by_cases hN : n = (N : Int)
            · by_cases hP : p1 = t1
              · rw [if_neg (by simp [hN, hP])] at hF
                subst hF
                have hc := Nat.zero_add 0
                repeat' (first | simp only [hc, Tryz.f26, SX, hn, i1, i2, f1, f2, fT, l2, hN, hP, AB, PL, RG, LP, TY, simprocAttr, ↓reduceIte, forall_const, eq_self, ne_eq, Option.some.injEq, beq_self_eq_true] | ((first | apply fin_ndec | apply fin_dec | apply cnd_ndec | apply cnd_dec' | apply fin_nsplit | apply fin_split | apply cnd_nsplit | apply cnd_split) <;> intro hc) | refine blk_exit_id ?_)
                all_goals simp [DV.i]
              · rw [if_pos (.inr hP)] at hF
                subst hF
                have hc := Nat.zero_add 0
                repeat' (first | simp only [hc, Tryz.f26, SX, hn, i1, i2, f1, f2, fT, l2, hN, hP, AB, PL, RG, LP, TY, simprocAttr, ↓reduceIte, forall_const, eq_self, ne_eq, Option.some.injEq, beq_self_eq_true] | ((first | apply fin_ndec | apply fin_dec | apply cnd_ndec | apply cnd_dec' | apply fin_nsplit | apply fin_split | apply cnd_nsplit | apply cnd_split) <;> intro hc) | refine blk_exit_id ?_)
                all_goals simp [DV.i]
            · rw [if_pos (.inl hN)] at hF
              subst hF
              have hc := Nat.zero_add 0
              repeat' (first | simp only [hc, Tryz.f26, SX, hn, i1, i2, f1, f2, fT, l2, hN, AB, PL, RG, LP, TY, simprocAttr, ↓reduceIte, forall_const, eq_self, ne_eq, Option.some.injEq, beq_self_eq_true] | ((first | apply fin_ndec | apply fin_dec | apply cnd_ndec | apply cnd_dec' | apply fin_nsplit | apply fin_split | apply cnd_nsplit | apply cnd_split) <;> intro hc) | refine blk_exit_id ?_)
              all_goals simp [DV.i]
          · rw [if_pos ht] at hF
            subst hF
            have hc := Nat.zero_add 0
            repeat' (first | simp only [hc, Tryz.f26, SX, hn, i1, i2, f1, f2, fT, ht, AB, PL, RG, LP, TY, simprocAttr, ↓reduceIte, forall_const, eq_self, ne_eq, Option.some.injEq, beq_self_eq_true] | ((first | apply fin_ndec | apply fin_dec | apply cnd_ndec | apply cnd_dec' | apply fin_nsplit | apply fin_split | apply cnd_nsplit | apply cnd_split) <;> intro hc) | refine blk_exit_id ?_)
            all_goals simp [DV.i]
        · rw [if_pos hp] at hF
          subst hF
          have hc := Nat.zero_add 0
          repeat' (first | simp only [hc, Tryz.f26, SX, hn, i1, i2, f1, f2, hp, AB, PL, RG, LP, TY, simprocAttr, ↓reduceIte, forall_const, eq_self, ne_eq, Option.some.injEq, beq_self_eq_true] | ((first | apply fin_ndec | apply fin_dec | apply cnd_ndec | apply cnd_dec' | apply fin_nsplit | apply fin_split | apply cnd_nsplit | apply cnd_split) <;> intro hc) | refine blk_exit_id ?_)
          all_goals simp [DV.i]
  · cases h

theorem rmid_ok : PureC Tryz.prog Gt 27 rmid_m := by
  refine pure_of_awp (X := ctx Tryz.prog Gt [(45, rnumb_m), (49, rkind_m), (47, rmparse_m), (50, rrecord_m)]) Tryz.func27 rfl rfl (by kernel_rfl) (by kernel_rfl) (AllOk.cons rnumb_ok (AllOk.cons rkind_ok (AllOk.cons rmparse_ok (AllOk.cons rrecord_ok AllOk.nil)))).kok ?_
  intro args r h0
  obtain ⟨⟨⟨f, l⟩, n⟩, rfl, h⟩ := mE_inv h0
  refine ⟨Nat.le_of_ble_eq_true rfl, ?_⟩
  split at h
  · rename_i hl
    dsimp only at hl h
    cases h
    have l1 := @lenS l
    by_cases h4 : l.length ≠ 4
    · have hn : ((l.length : Int) = 4) = False := eq_false (by omega)
      rw [midR_len h4, zRec_row]
      have hc := Nat.zero_add 0
      repeat' (first | simp only [hc, Tryz.f27, encLI, SX, l1, hn, AB, PL, RG, LP, TY, simprocAttr, ↓reduceIte, forall_const, eq_self, ne_eq, Option.some.injEq, beq_self_eq_true] | ((first | apply fin_ndec | apply fin_dec | apply cnd_ndec | apply cnd_dec' | apply fin_nsplit | apply fin_split | apply cnd_nsplit | apply cnd_split) <;> intro hc) | refine blk_exit_id ?_)
      all_goals simp [DV.i]
    · have h4 : l.length = 4 := Classical.not_not.1 h4
      obtain ⟨a, b, c, d, rfl⟩ : ∃ a b c d, l = [a, b, c, d] := by
        match l, h4 with
        | [a, b, c, d], _ => exact ⟨a, b, c, d, rfl⟩
      have hb := hl b (by simp)
      have hc' := hl c (by simp)
      have hd := hl d (by simp)
      have hF : midR n [a, b, c, d] = if kindF a = 0 then (zRec, 5) else (match numR c with
        | none => (zRec, 5)
        | some t => if kindF a = 3 then (match numR d with
          | none => (zRec, 5)
          | some w => midC n ⟨3, b, t, 0, w⟩) else if (parseF d).2 ≠ 0 then (zRec, (parseF d).2) else midC n ⟨kindF a, b, t, (parseF d).1, 0⟩) := rfl
      generalize midR n [a, b, c, d] = R at *
      obtain ⟨L, hL⟩ : ∃ L, L = [a, b, c, d].map rowS := ⟨_, rfl⟩
      have hn : ((L.length : Int) = 4) = True := eq_true (by rw [hL]; rfl)
      have i0 : L[0]? = some [.str a] := by rw [hL]; rfl
      have i1 : L[1]? = some [.str b] := by rw [hL]; rfl
      have i2 : L[2]? = some [.str c] := by rw [hL]; rfl
      have i3 : L[3]? = some [.str d] := by rw [hL]; rfl
      rw [show encLI ((f, [a, b, c, d]), n) = [.c (.sl f L), .c (.int .i64 n)] by rw [hL]; rfl]
      clear hL l1 h0
      have f0 := @rkind_at a
      have f1 := rnumb_at hc'
      have f2 := rnumb_at hd
      have f3 : rmparse_m [.c (.str d)] = some [.i (parseF d).1, .i (parseF d).2] := by rw [rmparse_m, ms_eq, if_pos (decide_eq_true hd)]
      have f4 : ∀ k t p w, rrecord_m [.agg [.int .i64 k, .str b, .int .i64 t, .int .i64 p, .int .i64 w]] = some [.i (rightF ⟨k, b, t, p, w⟩)] := fun k t p w => rrecord_at (x := ⟨k, b, t, p, w⟩) hb
      have hM : ∀ x, midC n x = if 1024 < n then (zRec, 3) else (x, rightF x) := fun _ => rfl
      simp only [hM] at hF
      generalize parseF d = P at *
      obtain ⟨p1, p2⟩ := P
      dsimp only at hF f3
      generalize kindF a = k at *
      by_cases hk0 : k = 0
      · rw [if_pos hk0] at hF
        subst hF
        rw [zRec_row]
        have hc := Nat.zero_add 0
        repeat' (first | simp only [hc, Tryz.f27, SX, hn, i0, f0, hk0, AB, PL, RG, LP, TY, simprocAttr, ↓reduceIte, forall_const, eq_self, ne_eq, Option.some.injEq, beq_self_eq_true] | ((first | apply fin_ndec | apply fin_dec | apply cnd_ndec | apply cnd_dec' | apply fin_nsplit | apply fin_split | apply cnd_nsplit | apply cnd_split) <;> intro hc) | refine blk_exit_id ?_)
        all_goals simp [DV.i]
      rw [if_neg hk0] at hF
      cases hnum : numR c with
      | none =>
        rw [hnum] at hF f1
        dsimp only [Option.getD, Option.isSome] at hF f1
        subst hF
        rw [zRec_row]
        have hc := Nat.zero_add 0
        repeat' (first | simp only [hc, Tryz.f27, SX, hn, i0, i1, i2, f0, f1, hk0, AB, PL, RG, LP, TY, simprocAttr, ↓reduceIte, forall_const, eq_self, ne_eq, Option.some.injEq, beq_self_eq_true] | ((first | apply fin_ndec | apply fin_dec | apply cnd_ndec | apply cnd_dec' | apply fin_nsplit | apply fin_split | apply cnd_nsplit | apply cnd_split) <;> intro hc) | refine blk_exit_id ?_)
        all_goals simp [DV.i]
      | some t =>
        rw [hnum] at hF f1
        dsimp only [Option.getD, Option.isSome] at hF f1
        by_cases hk : k = 3
        · rw [if_pos hk] at hF
          subst hk
          cases hnd : numR d with
          | none =>
            rw [hnd] at hF f2
            dsimp only [Option.getD, Option.isSome] at hF f2
            subst hF
            rw [zRec_row]
            have hc := Nat.zero_add 0
            repeat' (first | simp only [hc, Tryz.f27, SX, hn, i0, i1, i2, i3, f0, f1, f2, AB, PL, RG, LP, TY, simprocAttr, ↓reduceIte, forall_const, eq_self, ne_eq, Option.some.injEq, beq_self_eq_true] | ((first | apply fin_ndec | apply fin_dec | apply cnd_ndec | apply cnd_dec' | apply fin_nsplit | apply fin_split | apply cnd_nsplit | apply cnd_split) <;> intro hc) | refine blk_exit_id ?_)
            all_goals simp [DV.i]
          | some w =>
            rw [hnd] at hF f2
            dsimp only [Option.getD, Option.isSome] at hF f2
            by_cases hN : 1024 < n
            · rw [if_pos hN] at hF
              subst hF
              rw [zRec_row]
              have hc := Nat.zero_add 0
              repeat' (first | simp only [hc, Tryz.f27, SX, hn, i0, i1, i2, i3, f0, f1, f2, hN, AB, PL, RG, LP, TY, simprocAttr, ↓reduceIte, forall_const, eq_self, ne_eq, Option.some.injEq, beq_self_eq_true] | ((first | apply fin_ndec | apply fin_dec | apply cnd_ndec | apply cnd_dec' | apply fin_nsplit | apply fin_split | apply cnd_nsplit | apply cnd_split) <;> intro hc) | refine blk_exit_id ?_)
              all_goals simp [DV.i]
            · rw [if_neg hN] at hF
              subst hF
              have f5 := f4 3 t 0 w
              simp only [Rec.row]
              generalize rightF ⟨3, b, t, 0, w⟩ = e at *
              have hc := Nat.zero_add 0
              repeat' (first | simp only [hc, Tryz.f27, SX, hn, i0, i1, i2, i3, f0, f1, f2, f5, hN, AB, PL, RG, LP, TY, simprocAttr, ↓reduceIte, forall_const, eq_self, ne_eq, Option.some.injEq, beq_self_eq_true] | ((first | apply fin_ndec | apply fin_dec | apply cnd_ndec | apply cnd_dec' | apply fin_nsplit | apply fin_split | apply cnd_nsplit | apply cnd_split) <;> intro hc) | refine blk_exit_id ?_)
              all_goals simp [DV.i]
        · rw [if_neg hk] at hF
          by_cases hp : p2 = 0
          · subst hp
            rw [if_neg (by simp)] at hF
            by_cases hN : 1024 < n
            · rw [if_pos hN] at hF
              subst hF
              rw [zRec_row]
              have hc := Nat.zero_add 0
              repeat' (first | simp only [hc, Tryz.f27, SX, hn, i0, i1, i2, i3, f0, f1, f3, hk0, hk, hN, AB, PL, RG, LP, TY, simprocAttr, ↓reduceIte, forall_const, eq_self, ne_eq, Option.some.injEq, beq_self_eq_true] | ((first | apply fin_ndec | apply fin_dec | apply cnd_ndec | apply cnd_dec' | apply fin_nsplit | apply fin_split | apply cnd_nsplit | apply cnd_split) <;> intro hc) | refine blk_exit_id ?_)
              all_goals simp [DV.i]
            · rw [if_neg hN] at hF
              subst hF
              have f5 := f4 k t p1 0
              simp only [Rec.row]
              generalize rightF ⟨k, b, t, p1, 0⟩ = e at *
              have hc := Nat.zero_add 0
              repeat' (first | simp only [hc, Tryz.f27, SX, hn, i0, i1, i2, i3, f0, f1, f3, f5, hk0, hk, hN, AB, PL, RG, LP, TY, simprocAttr, ↓reduceIte, forall_const, eq_self, ne_eq, Option.some.injEq, beq_self_eq_true] | ((first | apply fin_ndec | apply fin_dec | apply cnd_ndec | apply cnd_dec' | apply fin_nsplit | apply fin_split | apply cnd_nsplit | apply cnd_split) <;> intro hc) | refine blk_exit_id ?_)
              all_goals simp [DV.i]
          · rw [if_pos hp] at hF
            subst hF
            rw [zRec_row]
            have hc := Nat.zero_add 0
            repeat' (first | simp only [hc, Tryz.f27, SX, hn, i0, i1, i2, i3, f0, f1, f3, hk0, hk, hp, AB, PL, RG, LP, TY, simprocAttr, ↓reduceIte, forall_const, eq_self, ne_eq, Option.some.injEq, beq_self_eq_true] | ((first | apply fin_ndec | apply fin_dec | apply cnd_ndec | apply cnd_dec' | apply fin_nsplit | apply fin_split | apply cnd_nsplit | apply cnd_split) <;> intro hc) | refine blk_exit_id ?_)
            all_goals simp [DV.i]
  · cases h

end
end Go.Ab
