/-
  Texts of the layer and of the laws, put together: AbA9.
-/
import Derived.Test.YtbcklcmhmbfgnaaGreatDoorAbF27
set_option linter.unusedSimpArgs false
set_option linter.unusedVariables false
set_option maxRecDepth 100000
namespace Go.Ab
open Go.RowKit Go.Proofs
def accP (n : Nat) : List UInt8 → Nat
  | [] => n
  | c :: r => accP (if n ≤ 1125899906842624 then 10 * n + (c.toNat - 48) else n) r
theorem accP_snoc (c : UInt8) : ∀ (a : List UInt8) (n : Nat), accP n (a ++ [c]) = if accP n a ≤ 1125899906842624 then 10 * accP n a + (c.toNat - 48) else accP n a
  | [], n => rfl
  | x :: a, n => accP_snoc c a _
theorem accP_le : ∀ (a : List UInt8) (n : Nat), n ≤ 11258999068426249 → a.all isDig = true → accP n a ≤ 11258999068426249
  | [], n, h, _ => h
  | x :: a, n, h, hd => by
    simp only [List.all_cons, Bool.and_eq_true] at hd
    have := dig_iff.1 hd.1
    refine accP_le a _ ?_ hd.2
    split <;> omega
theorem accP_big : ∀ (a : List UInt8) (n : Nat), 1125899906842624 < n → accP n a = n
  | [], n, _ => rfl
  | x :: a, n, h => by
    show accP (if n ≤ 1125899906842624 then _ else n) a = n
    rw [if_neg (by omega)]
    exact accP_big a n h
theorem accP_val : ∀ (a : List UInt8) (n : Nat), if accP n a ≤ 1125899906842624 then accP n a = valF n a else 1125899906842624 < valF n a
  | [], n => by
    show if n ≤ _ then n = n else _ < n
    split <;> omega
  | x :: a, n => by
    show if accP (if n ≤ 1125899906842624 then 10 * n + (x.toNat - 48) else n) a ≤ 1125899906842624 then accP (if n ≤ 1125899906842624 then 10 * n + (x.toNat - 48) else n) a = valF (10 * n + (x.toNat - 48)) a else 1125899906842624 < valF (10 * n + (x.toNat - 48)) a
    by_cases h : n ≤ 1125899906842624
    · rw [if_pos h]
      exact accP_val a _
    rw [if_neg h, accP_big a n (by omega), if_neg h]
    have := valF_le a (10 * n + (x.toNat - 48))
    omega
def unsF : List UInt8 → List UInt8 × Bool
  | [] => ([], false)
  | c :: r => if c = 45 then (r, true) else (c :: r, false)
def ptOk (d : List UInt8) : Bool := decide (4 ≤ d.length) && decide (d[d.length - 3]? = some 46) && (decide (d.head? ≠ some 48) || decide (d.length = 4))
def amtP (d : List UInt8) (ng : Bool) : Int × Int :=
  if ptOk d = false then (0, 5) else if (d.eraseIdx (d.length - 3)).all isDig = false then (0, 5)
  else if ng = true ∧ val (d.eraseIdx (d.length - 3)) = 0 then (0, 5) else if 1125899906842624 < val (d.eraseIdx (d.length - 3)) then (0, 13)
  else (if ng = true then -(val (d.eraseIdx (d.length - 3)) : Int) else (val (d.eraseIdx (d.length - 3)) : Int), 0)
def parseF (s : List UInt8) : Int × Int := amtP (unsF s).1 (unsF s).2
theorem amtP_form {d : List UInt8} {ng : Bool} (h : ptOk d = false) : amtP d ng = (0, 5) := if_pos h
theorem amtP_dig {d : List UInt8} {ng : Bool} (h : ¬ (d.eraseIdx (d.length - 3)).all isDig = true) : amtP d ng = (0, 5) := by
  unfold amtP
  rw [if_pos (show (d.eraseIdx (d.length - 3)).all isDig = false by simpa using h)]
  split <;> rfl
theorem amtP_zero {d : List UInt8} (h : ptOk d = true) (h2 : (d.eraseIdx (d.length - 3)).all isDig = true) (h3 : accP 0 (d.eraseIdx (d.length - 3)) = 0) : amtP d true = (0, 5) := by
  have hv := accP_val (d.eraseIdx (d.length - 3)) 0
  rw [if_pos (by omega)] at hv
  unfold amtP
  rw [if_neg (by simp [h]), if_neg (by simp [h2]), if_pos ⟨rfl, by rw [val, ← hv, h3]⟩]
theorem amtP_big {d : List UInt8} {ng : Bool} (h : ptOk d = true) (h2 : (d.eraseIdx (d.length - 3)).all isDig = true) (h3 : 1125899906842624 < accP 0 (d.eraseIdx (d.length - 3))) : amtP d ng = (0, 13) := by
  have hv := accP_val (d.eraseIdx (d.length - 3)) 0
  rw [if_neg (by omega)] at hv
  unfold amtP
  rw [if_neg (by simp [h]), if_neg (by simp [h2]), if_neg (by rw [val]; omega), if_pos hv]
theorem amtP_pos {d : List UInt8} (h : ptOk d = true) (h2 : (d.eraseIdx (d.length - 3)).all isDig = true) (h3 : ¬ 1125899906842624 < accP 0 (d.eraseIdx (d.length - 3))) : amtP d false = ((accP 0 (d.eraseIdx (d.length - 3)) : Int), 0) := by
  have hv := accP_val (d.eraseIdx (d.length - 3)) 0
  rw [if_pos (by omega)] at hv
  unfold amtP
  rw [if_neg (by simp [h]), if_neg (by simp [h2]), if_neg (by simp), if_neg (by rw [val]; omega), if_neg (by simp), val, ← hv]
theorem amtP_neg {d : List UInt8} (h : ptOk d = true) (h2 : (d.eraseIdx (d.length - 3)).all isDig = true) (h3 : ¬ 1125899906842624 < accP 0 (d.eraseIdx (d.length - 3))) (h4 : accP 0 (d.eraseIdx (d.length - 3)) ≠ 0) : amtP d true = (-(accP 0 (d.eraseIdx (d.length - 3)) : Int), 0) := by
  have hv := accP_val (d.eraseIdx (d.length - 3)) 0
  rw [if_pos (by omega)] at hv
  unfold amtP
  rw [if_neg (by simp [h]), if_neg (by simp [h2]), if_neg (by rw [val]; omega), if_neg (by rw [val]; omega), if_pos rfl, val, ← hv]
theorem er_skip {d : List UInt8} {j : Nat} {c : UInt8} (h : d[j]? = some c) : (d.take (j + 1)).eraseIdx j = (d.take j).eraseIdx j := by
  obtain ⟨hj, _⟩ := List.getElem?_eq_some_iff.1 h
  rw [take_snoc h, List.eraseIdx_append_of_length_le (by rw [List.length_take]; omega), List.eraseIdx_of_length_le (l := d.take j) (by rw [List.length_take]; omega)]
  simp [Nat.min_eq_left (Nat.le_of_lt hj)]
theorem er_snoc {d : List UInt8} {j m : Nat} {c : UInt8} (h : d[j]? = some c) (hm : j ≠ m) : (d.take (j + 1)).eraseIdx m = (d.take j).eraseIdx m ++ [c] := by
  obtain ⟨hj, _⟩ := List.getElem?_eq_some_iff.1 h
  rw [take_snoc h]
  rcases Nat.lt_or_ge j m with h1 | h1
  · rw [List.eraseIdx_of_length_le (by simp; omega), List.eraseIdx_of_length_le (by rw [List.length_take]; omega)]
  rw [List.eraseIdx_append_of_lt_length (by rw [List.length_take]; omega)]
theorem er_mem {d : List UInt8} {j m : Nat} {c : UInt8} (h : d[j]? = some c) (hm : j ≠ m) : c ∈ d.eraseIdx m := by
  rw [List.mem_eraseIdx_iff_getElem?]
  exact ⟨j, hm, h⟩
noncomputable section
open Classical
def mparse_m : List PA → Option (List PA) := ms fun s => if decide (s.length ≤ 100000) = true then some [.i (parseF s).1, .i (parseF s).2] else none
theorem mparse_ok : PureC Tryz.prog Gt 93 mparse_m := by
  refine pure_of_awp (X := ctx Tryz.prog Gt []) Tryz.func93 rfl rfl (by kernel_rfl) (by kernel_rfl) AllOk.nil.kok ?_
  intro args r h0
  obtain ⟨s, rfl, h⟩ := ms_inv h0
  refine ⟨Nat.le_of_ble_eq_true rfl, ?_⟩
  split at h
  · rename_i hlen
    have hlen := of_decide_eq_true hlen
    cases h
    have hP : parseF s = amtP (unsF s).1 (unsF s).2 := rfl
    cases s with
    | nil =>
      have hr : parseF [] = (0, 5) := by decide
      have hc := Nat.zero_add 0
      repeat' (first | simp only [hc, Tryz.f93, SX, ZZ, simprocAttr, ↓reduceIte] | ((first | apply Za | apply Zb | apply Zc | apply Zd | apply Ze | apply Zf | apply Zg | apply Zh) <;> intro hc) | refine Zj ?_)
      all_goals simp [hr, DV.i]
    | cons c0 d0 =>
      have z0 : (c0 :: d0)[0]? = some c0 := rfl
      have zl : (0 : Int) < ((c0 :: d0).length : Int) ↔ True := ⟨fun _ => trivial, fun _ => by simp only [List.length_cons]; omega⟩
      by_cases hc0 : c0 = 45
      · have a0 : ((c0.toNat : Int) = 45) = True := eq_true (by rw [hc0]; rfl)
        have hu : unsF (c0 :: d0) = (d0, true) := if_pos hc0
        rw [hu] at hP
        have dr : ((c0 :: d0).drop 1).take ((c0 :: d0).length - 1) = d0 := by simp
        have k1 : ((1 : Int) ≤ ((c0 :: d0).length : Int)) = True := eq_true (by simp only [List.length_cons]; omega)
        have k2 : (((c0 :: d0).length : Int) ≤ ((c0 :: d0).length : Int)) = True := eq_true (Int.le_refl _)
        have hd : d0.length ≤ 100000 := by simp only [List.length_cons] at hlen; omega
        generalize hs : c0 :: d0 = s at *
        have n1 : ptOk d0 = false → parseF s = (0, 5) := fun h => by rw [hP]; exact amtP_form h
        have n2 : ¬ (d0.eraseIdx (d0.length - 3)).all isDig = true → parseF s = (0, 5) := fun h => by rw [hP]; exact amtP_dig h
        have n3 : ptOk d0 = true → (d0.eraseIdx (d0.length - 3)).all isDig = true → 1125899906842624 < accP 0 (d0.eraseIdx (d0.length - 3)) → parseF s = (0, 13) := fun h h2 h3 => by rw [hP]; exact amtP_big h h2 h3
        have n4 : ptOk d0 = true → (d0.eraseIdx (d0.length - 3)).all isDig = true → accP 0 (d0.eraseIdx (d0.length - 3)) = 0 → parseF s = (0, 5) := fun h h2 h3 => by rw [hP]; exact amtP_zero h h2 h3
        have n5 : ptOk d0 = true → (d0.eraseIdx (d0.length - 3)).all isDig = true → ¬ 1125899906842624 < accP 0 (d0.eraseIdx (d0.length - 3)) → accP 0 (d0.eraseIdx (d0.length - 3)) ≠ 0 → parseF s = (-(accP 0 (d0.eraseIdx (d0.length - 3)) : Int), 0) := fun h h2 h3 h4 => by rw [hP]; exact amtP_neg h h2 h3 h4
        have hpt : ptOk d0 = (decide (4 ≤ d0.length) && decide (d0[d0.length - 3]? = some 46) && (decide (d0.head? ≠ some 48) || decide (d0.length = 4))) := rfl
        generalize parseF s = R at *
        clear hP
        by_cases c4 : d0.length < 4
        · have b1 : ((d0.length : Int) < 4) = True := eq_true (by omega)
          have hr := n1 (by rw [hpt, decide_eq_false (by omega : ¬ 4 ≤ d0.length)]; rfl)
          have hc := Nat.zero_add 0
          repeat' (first | simp only [hc, Tryz.f93, SX, z0, zl, a0, k1, k2, dr, Int.toNat_natCast, b1, ZZ, simprocAttr, ↓reduceIte] | ((first | apply Za | apply Zb | apply Zc | apply Zd | apply Ze | apply Zf | apply Zg | apply Zh) <;> intro hc) | refine Zj ?_)
          all_goals simp [hr, DV.i]
        have b1 : ((d0.length : Int) < 4) = False := eq_false (by omega)
        obtain ⟨m, hm⟩ : ∃ m, m = d0.length - 3 := ⟨_, rfl⟩
        have w0 : IntKind.i64.wrap ((d0.length : Int) - 3) = (m : Int) := by rw [show (d0.length : Int) - 3 = (m : Int) by omega]; exact wI (by omega) (by omega)
        rw [← hm] at n2 n3 hpt n4 n5
        obtain ⟨cm, em⟩ : ∃ c, d0[m]? = some c := ⟨d0[m], List.getElem?_eq_getElem (by omega)⟩
        by_cases c46 : ¬ cm = 46
        · have b2 : ((cm.toNat : Int) = 46) = False := eq_false fun h => c46 (UInt8.toNat_inj.1 (by show cm.toNat = 46; omega))
          have hr := n1 (by rw [hpt, em, decide_eq_false (show ¬ some cm = some 46 from fun h => c46 (Option.some.inj h)), Bool.and_false, Bool.false_and])
          have hc := Nat.zero_add 0
          repeat' (first | simp only [hc, Tryz.f93, SX, z0, zl, a0, k1, k2, dr, Int.toNat_natCast, b1, w0, em, nn, b2, ZZ, simprocAttr, ↓reduceIte] | ((first | apply Za | apply Zb | apply Zc | apply Zd | apply Ze | apply Zf | apply Zg | apply Zh) <;> intro hc) | refine Zj ?_)
          all_goals simp [hr, DV.i]
        have c46 := Classical.not_not.1 c46
        have b2 : ((cm.toNat : Int) = 46) = True := eq_true (by rw [c46]; rfl)
        obtain ⟨cz, ez⟩ : ∃ c, d0[0]? = some c := ⟨d0[0], List.getElem?_eq_getElem (by omega)⟩
        have hhd : d0.head? = some cz := by rw [← ez, List.head?_eq_getElem?]
        by_cases cz48 : cz = 48 ∧ 4 < d0.length
        · have b3 : ((cz.toNat : Int) = 48) = True := eq_true (by rw [cz48.1]; rfl)
          have b4 : ((4 : Int) < (d0.length : Int)) = True := eq_true (by omega)
          have hr := n1 (by rw [hpt, hhd, cz48.1, decide_eq_false (show ¬ d0.length = 4 by omega)]; simp)
          have hc := Nat.zero_add 0
          repeat' (first | simp only [hc, Tryz.f93, SX, z0, zl, a0, k1, k2, dr, Int.toNat_natCast, b1, w0, em, nn, b2, ez, b3, b4, ZZ, simprocAttr, ↓reduceIte] | ((first | apply Za | apply Zb | apply Zc | apply Zd | apply Ze | apply Zf | apply Zg | apply Zh) <;> intro hc) | refine Zj ?_)
          all_goals simp [hr, DV.i]
        have hok : ptOk d0 = true := by
          rw [hpt, em, c46, decide_eq_true (show 4 ≤ d0.length by omega), hhd]
          by_cases h : cz = 48
          · have : d0.length = 4 := by
              have : ¬ 4 < d0.length := fun h4 => cz48 ⟨h, h4⟩
              omega
            simp [this]
          simp [h]
        have hz : (cz = 48 ∧ ((4 : Int) < (d0.length : Int)) = False) ∨ cz ≠ 48 := by
          by_cases h : cz = 48
          · have : ¬ 4 < d0.length := fun h4 => cz48 ⟨h, h4⟩
            exact .inl ⟨h, eq_false (by omega)⟩
          exact .inr h
        rcases hz with ⟨z1, b4⟩ | z1
        · have b3 : ((cz.toNat : Int) = 48) = True := eq_true (by rw [z1]; rfl)
          have hc := Nat.zero_add 0
          repeat' (first | simp only [hc, Tryz.f93, SX, z0, zl, a0, k1, k2, dr, Int.toNat_natCast, b1, w0, em, nn, b2, ez, b3, b4, ZZ, simprocAttr, ↓reduceIte] | ((first | apply Za | apply Zb | apply Zc | apply Zd | apply Ze | apply Zf | apply Zg | apply Zh) <;> intro hc) | refine Zj ?_)
          refine awp_loop (σ := Nat) (fun j => j ≤ d0.length ∧ ((d0.take j).eraseIdx m).all isDig = true) (fun j => ⟨[(7, AV.i j), (6, AV.i (accP 0 ((d0.take j).eraseIdx m))), (5, AV.d (.bool true)), (4, AV.s d0)], []⟩) (fun j => d0.length - j) 0 (Wk.sub' (by simp [subT, look, accP]) rfl) (by simp) ?_
          rintro j ⟨hj, hout⟩
          by_cases hjl : j < d0.length
          · have e1 : d0[j]? = some d0[j] := by simp [hjl]
            have hlt : ((j : Int) < (d0.length : Int)) = True := eq_true (by omega)
            have hw := wI (n := (j : Int) + 1) (by omega) (by omega)
            by_cases hjm : j = m
            · have hjm' : ((j : Int) = (m : Int)) = True := eq_true (by omega)
              have hs := er_skip e1
              rw [hjm] at hs
              have hc := Nat.zero_add 0
              repeat' (first | simp only [hc, SX, hlt, w0, nn, hw, hjm', ZZ, simprocAttr, ↓reduceIte] | ((first | apply Za | apply Zb | apply Zc | apply Zd | apply Ze | apply Zf | apply Zg | apply Zh) <;> intro hc) | refine Zj ?_)
              exact lp_next (j + 1) (Wk.sub' (by simp [subT, look, hjm, hs]) rfl) ⟨by omega, by rw [hjm, hs]; rw [hjm] at hout; exact hout⟩ (by omega)
            have hjm' : ((j : Int) = (m : Int)) = False := eq_false (by omega)
            have hs := er_snoc e1 hjm
            have hme := er_mem e1 hjm
            generalize d0[j] = c at *
            by_cases hdg : isDig c = true
            · have hdg' := dig_iff.1 hdg
              have hal : ((d0.take (j + 1)).eraseIdx m).all isDig = true := by rw [hs, List.all_append, hout]; simp [hdg]
              have hac := accP_snoc c ((d0.take j).eraseIdx m) 0
              have hle := accP_le _ 0 (by omega) hout
              rw [← hs] at hac
              have b5 : ((c.toNat : Int) < 48) = False := eq_false (by omega)
              have b6 : ((57 : Int) < (c.toNat : Int)) = False := eq_false (by omega)
              generalize accP 0 ((d0.take j).eraseIdx m) = n at *
              by_cases hn : n ≤ 1125899906842624
              · have b7 : ((n : Int) ≤ 1125899906842624) = True := eq_true (by omega)
                have w1 := wI (n := 10 * (n : Int)) (by omega) (by omega)
                have w2 := wU8 (n := (c.toNat : Int) - 48) (by omega) (by omega)
                have w3 := wI (n := (c.toNat : Int) - 48) (by omega) (by omega)
                have w4 := wI (n := 10 * (n : Int) + ((c.toNat : Int) - 48)) (by omega) (by omega)
                rw [if_pos hn] at hac
                have hac' : ((accP 0 ((d0.take (j + 1)).eraseIdx m) : Nat) : Int) = 10 * (n : Int) + ((c.toNat : Int) - 48) := by omega
                have hc := Nat.zero_add 0
                repeat' (first | simp only [hc, SX, e1, hlt, w0, nn, hw, hjm', b5, b6, b7, w1, w2, w3, w4, ZZ, simprocAttr, ↓reduceIte] | ((first | apply Za | apply Zb | apply Zc | apply Zd | apply Ze | apply Zf | apply Zg | apply Zh) <;> intro hc) | refine Zj ?_)
                exact lp_next (j + 1) (Wk.sub' (by simp [subT, look, hac']) rfl) ⟨by omega, hal⟩ (by omega)
              have b7 : ((n : Int) ≤ 1125899906842624) = False := eq_false (by omega)
              rw [if_neg hn] at hac
              have hc := Nat.zero_add 0
              repeat' (first | simp only [hc, SX, e1, hlt, w0, nn, hw, hjm', b5, b6, b7, ZZ, simprocAttr, ↓reduceIte] | ((first | apply Za | apply Zb | apply Zc | apply Zd | apply Ze | apply Zf | apply Zg | apply Zh) <;> intro hc) | refine Zj ?_)
              exact lp_next (j + 1) (Wk.sub' (by simp [subT, look, hac]) rfl) ⟨by omega, hal⟩ (by omega)
            have hr := n2 fun h => hdg (List.all_eq_true.1 h c hme)
            have hdg' : ¬ (48 ≤ c.toNat ∧ c.toNat ≤ 57) := fun h => hdg (dig_iff.2 h)
            by_cases b5 : (c.toNat : Int) < 48
            · skip
              have hc := Nat.zero_add 0
              repeat' (first | simp only [hc, SX, e1, hlt, w0, nn, hw, hjm', b5, ZZ, simprocAttr, ↓reduceIte] | ((first | apply Za | apply Zb | apply Zc | apply Zd | apply Ze | apply Zf | apply Zg | apply Zh) <;> intro hc) | refine Zj ?_)
              all_goals simp [hr, DV.i]
            have b6 : ((57 : Int) < (c.toNat : Int)) = True := eq_true (by omega)
            have hc := Nat.zero_add 0
            repeat' (first | simp only [hc, SX, e1, hlt, w0, nn, hw, hjm', b5, b6, ZZ, simprocAttr, ↓reduceIte] | ((first | apply Za | apply Zb | apply Zc | apply Zd | apply Ze | apply Zf | apply Zg | apply Zh) <;> intro hc) | refine Zj ?_)
            all_goals simp [hr, DV.i]
          have hlt : ((j : Int) < (d0.length : Int)) = False := eq_false (by omega)
          rw [List.take_of_length_le (by omega)] at hout
          rw [List.take_of_length_le (by omega)]
          have hle := accP_le _ 0 (by omega) hout
          have n3 := n3 hok hout
          have n4 := n4 hok hout
          have n5 := n5 hok hout
          generalize accP 0 (d0.eraseIdx m) = n at *
          by_cases hn0 : n = 0
          · have b8 : ((n : Int) = 0) = True := eq_true (by omega)
            have hr := n4 hn0
            have hc := Nat.zero_add 0
            repeat' (first | simp only [hc, SX, hlt, b8, ZZ, simprocAttr, ↓reduceIte] | ((first | apply Za | apply Zb | apply Zc | apply Zd | apply Ze | apply Zf | apply Zg | apply Zh) <;> intro hc) | refine Zj ?_)
            all_goals simp [hr, DV.i]
          have b8 : ((n : Int) = 0) = False := eq_false (by omega)
          by_cases hn : 1125899906842624 < n
          · have b9 : ((1125899906842624 : Int) < (n : Int)) = True := eq_true (by omega)
            have hr := n3 hn
            have hc := Nat.zero_add 0
            repeat' (first | simp only [hc, SX, hlt, b8, b9, ZZ, simprocAttr, ↓reduceIte] | ((first | apply Za | apply Zb | apply Zc | apply Zd | apply Ze | apply Zf | apply Zg | apply Zh) <;> intro hc) | refine Zj ?_)
            all_goals simp [hr, DV.i]
          have b9 : ((1125899906842624 : Int) < (n : Int)) = False := eq_false (by omega)
          have hr := n5 hn hn0
          have w5 : IntKind.i64.wrap (0 - (n : Int)) = -(n : Int) := by rw [Int.zero_sub]; exact wI (by omega) (by omega)
          have hc := Nat.zero_add 0
          repeat' (first | simp only [hc, SX, hlt, b8, b9, w5, ZZ, simprocAttr, ↓reduceIte] | ((first | apply Za | apply Zb | apply Zc | apply Zd | apply Ze | apply Zf | apply Zg | apply Zh) <;> intro hc) | refine Zj ?_)
          all_goals simp [hr, DV.i]
        have b3 : ((cz.toNat : Int) = 48) = False := eq_false fun h => z1 (UInt8.toNat_inj.1 (by show cz.toNat = 48; omega))
        have hc := Nat.zero_add 0
        repeat' (first | simp only [hc, Tryz.f93, SX, z0, zl, a0, k1, k2, dr, Int.toNat_natCast, b1, w0, em, nn, b2, ez, b3, ZZ, simprocAttr, ↓reduceIte] | ((first | apply Za | apply Zb | apply Zc | apply Zd | apply Ze | apply Zf | apply Zg | apply Zh) <;> intro hc) | refine Zj ?_)
        refine awp_loop (σ := Nat) (fun j => j ≤ d0.length ∧ ((d0.take j).eraseIdx m).all isDig = true) (fun j => ⟨[(7, AV.i j), (6, AV.i (accP 0 ((d0.take j).eraseIdx m))), (5, AV.d (.bool true)), (4, AV.s d0)], []⟩) (fun j => d0.length - j) 0 (Wk.sub' (by simp [subT, look, accP]) rfl) (by simp) ?_
        rintro j ⟨hj, hout⟩
        by_cases hjl : j < d0.length
        · have e1 : d0[j]? = some d0[j] := by simp [hjl]
          have hlt : ((j : Int) < (d0.length : Int)) = True := eq_true (by omega)
          have hw := wI (n := (j : Int) + 1) (by omega) (by omega)
          by_cases hjm : j = m
          · have hjm' : ((j : Int) = (m : Int)) = True := eq_true (by omega)
            have hs := er_skip e1
            rw [hjm] at hs
            have hc := Nat.zero_add 0
            repeat' (first | simp only [hc, SX, hlt, w0, nn, hw, hjm', ZZ, simprocAttr, ↓reduceIte] | ((first | apply Za | apply Zb | apply Zc | apply Zd | apply Ze | apply Zf | apply Zg | apply Zh) <;> intro hc) | refine Zj ?_)
            exact lp_next (j + 1) (Wk.sub' (by simp [subT, look, hjm, hs]) rfl) ⟨by omega, by rw [hjm, hs]; rw [hjm] at hout; exact hout⟩ (by omega)
          have hjm' : ((j : Int) = (m : Int)) = False := eq_false (by omega)
          have hs := er_snoc e1 hjm
          have hme := er_mem e1 hjm
          generalize d0[j] = c at *
          by_cases hdg : isDig c = true
          · have hdg' := dig_iff.1 hdg
            have hal : ((d0.take (j + 1)).eraseIdx m).all isDig = true := by rw [hs, List.all_append, hout]; simp [hdg]
            have hac := accP_snoc c ((d0.take j).eraseIdx m) 0
            have hle := accP_le _ 0 (by omega) hout
            rw [← hs] at hac
            have b5 : ((c.toNat : Int) < 48) = False := eq_false (by omega)
            have b6 : ((57 : Int) < (c.toNat : Int)) = False := eq_false (by omega)
            generalize accP 0 ((d0.take j).eraseIdx m) = n at *
            by_cases hn : n ≤ 1125899906842624
            · have b7 : ((n : Int) ≤ 1125899906842624) = True := eq_true (by omega)
              have w1 := wI (n := 10 * (n : Int)) (by omega) (by omega)
              have w2 := wU8 (n := (c.toNat : Int) - 48) (by omega) (by omega)
              have w3 := wI (n := (c.toNat : Int) - 48) (by omega) (by omega)
              have w4 := wI (n := 10 * (n : Int) + ((c.toNat : Int) - 48)) (by omega) (by omega)
              rw [if_pos hn] at hac
              have hac' : ((accP 0 ((d0.take (j + 1)).eraseIdx m) : Nat) : Int) = 10 * (n : Int) + ((c.toNat : Int) - 48) := by omega
              have hc := Nat.zero_add 0
              repeat' (first | simp only [hc, SX, e1, hlt, w0, nn, hw, hjm', b5, b6, b7, w1, w2, w3, w4, ZZ, simprocAttr, ↓reduceIte] | ((first | apply Za | apply Zb | apply Zc | apply Zd | apply Ze | apply Zf | apply Zg | apply Zh) <;> intro hc) | refine Zj ?_)
              exact lp_next (j + 1) (Wk.sub' (by simp [subT, look, hac']) rfl) ⟨by omega, hal⟩ (by omega)
            have b7 : ((n : Int) ≤ 1125899906842624) = False := eq_false (by omega)
            rw [if_neg hn] at hac
            have hc := Nat.zero_add 0
            repeat' (first | simp only [hc, SX, e1, hlt, w0, nn, hw, hjm', b5, b6, b7, ZZ, simprocAttr, ↓reduceIte] | ((first | apply Za | apply Zb | apply Zc | apply Zd | apply Ze | apply Zf | apply Zg | apply Zh) <;> intro hc) | refine Zj ?_)
            exact lp_next (j + 1) (Wk.sub' (by simp [subT, look, hac]) rfl) ⟨by omega, hal⟩ (by omega)
          have hr := n2 fun h => hdg (List.all_eq_true.1 h c hme)
          have hdg' : ¬ (48 ≤ c.toNat ∧ c.toNat ≤ 57) := fun h => hdg (dig_iff.2 h)
          by_cases b5 : (c.toNat : Int) < 48
          · skip
            have hc := Nat.zero_add 0
            repeat' (first | simp only [hc, SX, e1, hlt, w0, nn, hw, hjm', b5, ZZ, simprocAttr, ↓reduceIte] | ((first | apply Za | apply Zb | apply Zc | apply Zd | apply Ze | apply Zf | apply Zg | apply Zh) <;> intro hc) | refine Zj ?_)
            all_goals simp [hr, DV.i]
          have b6 : ((57 : Int) < (c.toNat : Int)) = True := eq_true (by omega)
          have hc := Nat.zero_add 0
          repeat' (first | simp only [hc, SX, e1, hlt, w0, nn, hw, hjm', b5, b6, ZZ, simprocAttr, ↓reduceIte] | ((first | apply Za | apply Zb | apply Zc | apply Zd | apply Ze | apply Zf | apply Zg | apply Zh) <;> intro hc) | refine Zj ?_)
          all_goals simp [hr, DV.i]
        have hlt : ((j : Int) < (d0.length : Int)) = False := eq_false (by omega)
        rw [List.take_of_length_le (by omega)] at hout
        rw [List.take_of_length_le (by omega)]
        have hle := accP_le _ 0 (by omega) hout
        have n3 := n3 hok hout
        have n4 := n4 hok hout
        have n5 := n5 hok hout
        generalize accP 0 (d0.eraseIdx m) = n at *
        by_cases hn0 : n = 0
        · have b8 : ((n : Int) = 0) = True := eq_true (by omega)
          have hr := n4 hn0
          have hc := Nat.zero_add 0
          repeat' (first | simp only [hc, SX, hlt, b8, ZZ, simprocAttr, ↓reduceIte] | ((first | apply Za | apply Zb | apply Zc | apply Zd | apply Ze | apply Zf | apply Zg | apply Zh) <;> intro hc) | refine Zj ?_)
          all_goals simp [hr, DV.i]
        have b8 : ((n : Int) = 0) = False := eq_false (by omega)
        by_cases hn : 1125899906842624 < n
        · have b9 : ((1125899906842624 : Int) < (n : Int)) = True := eq_true (by omega)
          have hr := n3 hn
          have hc := Nat.zero_add 0
          repeat' (first | simp only [hc, SX, hlt, b8, b9, ZZ, simprocAttr, ↓reduceIte] | ((first | apply Za | apply Zb | apply Zc | apply Zd | apply Ze | apply Zf | apply Zg | apply Zh) <;> intro hc) | refine Zj ?_)
          all_goals simp [hr, DV.i]
        have b9 : ((1125899906842624 : Int) < (n : Int)) = False := eq_false (by omega)
        have hr := n5 hn hn0
        have w5 : IntKind.i64.wrap (0 - (n : Int)) = -(n : Int) := by rw [Int.zero_sub]; exact wI (by omega) (by omega)
        have hc := Nat.zero_add 0
        repeat' (first | simp only [hc, SX, hlt, b8, b9, w5, ZZ, simprocAttr, ↓reduceIte] | ((first | apply Za | apply Zb | apply Zc | apply Zd | apply Ze | apply Zf | apply Zg | apply Zh) <;> intro hc) | refine Zj ?_)
        all_goals simp [hr, DV.i]
      have a0 : ((c0.toNat : Int) = 45) = False := eq_false fun h => hc0 (UInt8.toNat_inj.1 (by show c0.toNat = 45; omega))
      have hu : unsF (c0 :: d0) = (c0 :: d0, false) := if_neg hc0
      rw [hu] at hP
      have hd := hlen
      generalize hs : c0 :: d0 = s at *
      have n1 : ptOk s = false → parseF s = (0, 5) := fun h => by rw [hP]; exact amtP_form h
      have n2 : ¬ (s.eraseIdx (s.length - 3)).all isDig = true → parseF s = (0, 5) := fun h => by rw [hP]; exact amtP_dig h
      have n3 : ptOk s = true → (s.eraseIdx (s.length - 3)).all isDig = true → 1125899906842624 < accP 0 (s.eraseIdx (s.length - 3)) → parseF s = (0, 13) := fun h h2 h3 => by rw [hP]; exact amtP_big h h2 h3
      have n4 : ptOk s = true → (s.eraseIdx (s.length - 3)).all isDig = true → ¬ 1125899906842624 < accP 0 (s.eraseIdx (s.length - 3)) → parseF s = ((accP 0 (s.eraseIdx (s.length - 3)) : Int), 0) := fun h h2 h3 => by rw [hP]; exact amtP_pos h h2 h3
      have hpt : ptOk s = (decide (4 ≤ s.length) && decide (s[s.length - 3]? = some 46) && (decide (s.head? ≠ some 48) || decide (s.length = 4))) := rfl
      generalize parseF s = R at *
      clear hP
      by_cases c4 : s.length < 4
      · have b1 : ((s.length : Int) < 4) = True := eq_true (by omega)
        have hr := n1 (by rw [hpt, decide_eq_false (by omega : ¬ 4 ≤ s.length)]; rfl)
        have hc := Nat.zero_add 0
        repeat' (first | simp only [hc, Tryz.f93, SX, z0, zl, a0, b1, ZZ, simprocAttr, ↓reduceIte] | ((first | apply Za | apply Zb | apply Zc | apply Zd | apply Ze | apply Zf | apply Zg | apply Zh) <;> intro hc) | refine Zj ?_)
        all_goals simp [hr, DV.i]
      have b1 : ((s.length : Int) < 4) = False := eq_false (by omega)
      obtain ⟨m, hm⟩ : ∃ m, m = s.length - 3 := ⟨_, rfl⟩
      have w0 : IntKind.i64.wrap ((s.length : Int) - 3) = (m : Int) := by rw [show (s.length : Int) - 3 = (m : Int) by omega]; exact wI (by omega) (by omega)
      rw [← hm] at n2 n3 hpt n4
      obtain ⟨cm, em⟩ : ∃ c, s[m]? = some c := ⟨s[m], List.getElem?_eq_getElem (by omega)⟩
      by_cases c46 : ¬ cm = 46
      · have b2 : ((cm.toNat : Int) = 46) = False := eq_false fun h => c46 (UInt8.toNat_inj.1 (by show cm.toNat = 46; omega))
        have hr := n1 (by rw [hpt, em, decide_eq_false (show ¬ some cm = some 46 from fun h => c46 (Option.some.inj h)), Bool.and_false, Bool.false_and])
        have hc := Nat.zero_add 0
        repeat' (first | simp only [hc, Tryz.f93, SX, z0, zl, a0, b1, w0, em, nn, b2, ZZ, simprocAttr, ↓reduceIte] | ((first | apply Za | apply Zb | apply Zc | apply Zd | apply Ze | apply Zf | apply Zg | apply Zh) <;> intro hc) | refine Zj ?_)
        all_goals simp [hr, DV.i]
      have c46 := Classical.not_not.1 c46
      have b2 : ((cm.toNat : Int) = 46) = True := eq_true (by rw [c46]; rfl)
      obtain ⟨cz, ez⟩ : ∃ c, s[0]? = some c := ⟨s[0], List.getElem?_eq_getElem (by omega)⟩
      obtain rfl : cz = c0 := Option.some.inj (ez.symm.trans z0)
      have hhd : s.head? = some cz := by rw [← ez, List.head?_eq_getElem?]
      by_cases cz48 : cz = 48 ∧ 4 < s.length
      · have b3 : ((cz.toNat : Int) = 48) = True := eq_true (by rw [cz48.1]; rfl)
        have b4 : ((4 : Int) < (s.length : Int)) = True := eq_true (by omega)
        have hr := n1 (by rw [hpt, hhd, cz48.1, decide_eq_false (show ¬ s.length = 4 by omega)]; simp)
        have hc := Nat.zero_add 0
        repeat' (first | simp only [hc, Tryz.f93, SX, z0, zl, a0, b1, w0, em, nn, b2, ez, b3, b4, ZZ, simprocAttr, ↓reduceIte] | ((first | apply Za | apply Zb | apply Zc | apply Zd | apply Ze | apply Zf | apply Zg | apply Zh) <;> intro hc) | refine Zj ?_)
        all_goals simp [hr, DV.i]
      have hok : ptOk s = true := by
        rw [hpt, em, c46, decide_eq_true (show 4 ≤ s.length by omega), hhd]
        by_cases h : cz = 48
        · have : s.length = 4 := by
            have : ¬ 4 < s.length := fun h4 => cz48 ⟨h, h4⟩
            omega
          simp [this]
        simp [h]
      have hz : (cz = 48 ∧ ((4 : Int) < (s.length : Int)) = False) ∨ cz ≠ 48 := by
        by_cases h : cz = 48
        · have : ¬ 4 < s.length := fun h4 => cz48 ⟨h, h4⟩
          exact .inl ⟨h, eq_false (by omega)⟩
        exact .inr h
      rcases hz with ⟨z1, b4⟩ | z1
      · have b3 : ((cz.toNat : Int) = 48) = True := eq_true (by rw [z1]; rfl)
        have hc := Nat.zero_add 0
        repeat' (first | simp only [hc, Tryz.f93, SX, z0, zl, a0, b1, w0, em, nn, b2, ez, b3, b4, ZZ, simprocAttr, ↓reduceIte] | ((first | apply Za | apply Zb | apply Zc | apply Zd | apply Ze | apply Zf | apply Zg | apply Zh) <;> intro hc) | refine Zj ?_)
        refine awp_loop (σ := Nat) (fun j => j ≤ s.length ∧ ((s.take j).eraseIdx m).all isDig = true) (fun j => ⟨[(7, AV.i j), (6, AV.i (accP 0 ((s.take j).eraseIdx m))), (5, AV.d (.bool false)), (4, AV.s s)], []⟩) (fun j => s.length - j) 0 (Wk.sub' (by simp [subT, look, accP]) rfl) (by simp) ?_
        rintro j ⟨hj, hout⟩
        by_cases hjl : j < s.length
        · have e1 : s[j]? = some s[j] := by simp [hjl]
          have hlt : ((j : Int) < (s.length : Int)) = True := eq_true (by omega)
          have hw := wI (n := (j : Int) + 1) (by omega) (by omega)
          by_cases hjm : j = m
          · have hjm' : ((j : Int) = (m : Int)) = True := eq_true (by omega)
            have hs := er_skip e1
            rw [hjm] at hs
            have hc := Nat.zero_add 0
            repeat' (first | simp only [hc, SX, hlt, w0, nn, hw, hjm', ZZ, simprocAttr, ↓reduceIte] | ((first | apply Za | apply Zb | apply Zc | apply Zd | apply Ze | apply Zf | apply Zg | apply Zh) <;> intro hc) | refine Zj ?_)
            exact lp_next (j + 1) (Wk.sub' (by simp [subT, look, hjm, hs]) rfl) ⟨by omega, by rw [hjm, hs]; rw [hjm] at hout; exact hout⟩ (by omega)
          have hjm' : ((j : Int) = (m : Int)) = False := eq_false (by omega)
          have hs := er_snoc e1 hjm
          have hme := er_mem e1 hjm
          generalize s[j] = c at *
          by_cases hdg : isDig c = true
          · have hdg' := dig_iff.1 hdg
            have hal : ((s.take (j + 1)).eraseIdx m).all isDig = true := by rw [hs, List.all_append, hout]; simp [hdg]
            have hac := accP_snoc c ((s.take j).eraseIdx m) 0
            have hle := accP_le _ 0 (by omega) hout
            rw [← hs] at hac
            have b5 : ((c.toNat : Int) < 48) = False := eq_false (by omega)
            have b6 : ((57 : Int) < (c.toNat : Int)) = False := eq_false (by omega)
            generalize accP 0 ((s.take j).eraseIdx m) = n at *
            by_cases hn : n ≤ 1125899906842624
            · have b7 : ((n : Int) ≤ 1125899906842624) = True := eq_true (by omega)
              have w1 := wI (n := 10 * (n : Int)) (by omega) (by omega)
              have w2 := wU8 (n := (c.toNat : Int) - 48) (by omega) (by omega)
              have w3 := wI (n := (c.toNat : Int) - 48) (by omega) (by omega)
              have w4 := wI (n := 10 * (n : Int) + ((c.toNat : Int) - 48)) (by omega) (by omega)
              rw [if_pos hn] at hac
              have hac' : ((accP 0 ((s.take (j + 1)).eraseIdx m) : Nat) : Int) = 10 * (n : Int) + ((c.toNat : Int) - 48) := by omega
              have hc := Nat.zero_add 0
              repeat' (first | simp only [hc, SX, e1, hlt, w0, nn, hw, hjm', b5, b6, b7, w1, w2, w3, w4, ZZ, simprocAttr, ↓reduceIte] | ((first | apply Za | apply Zb | apply Zc | apply Zd | apply Ze | apply Zf | apply Zg | apply Zh) <;> intro hc) | refine Zj ?_)
              exact lp_next (j + 1) (Wk.sub' (by simp [subT, look, hac']) rfl) ⟨by omega, hal⟩ (by omega)
            have b7 : ((n : Int) ≤ 1125899906842624) = False := eq_false (by omega)
            rw [if_neg hn] at hac
            have hc := Nat.zero_add 0
            repeat' (first | simp only [hc, SX, e1, hlt, w0, nn, hw, hjm', b5, b6, b7, ZZ, simprocAttr, ↓reduceIte] | ((first | apply Za | apply Zb | apply Zc | apply Zd | apply Ze | apply Zf | apply Zg | apply Zh) <;> intro hc) | refine Zj ?_)
            exact lp_next (j + 1) (Wk.sub' (by simp [subT, look, hac]) rfl) ⟨by omega, hal⟩ (by omega)
          have hr := n2 fun h => hdg (List.all_eq_true.1 h c hme)
          have hdg' : ¬ (48 ≤ c.toNat ∧ c.toNat ≤ 57) := fun h => hdg (dig_iff.2 h)
          by_cases b5 : (c.toNat : Int) < 48
          · skip
            have hc := Nat.zero_add 0
            repeat' (first | simp only [hc, SX, e1, hlt, w0, nn, hw, hjm', b5, ZZ, simprocAttr, ↓reduceIte] | ((first | apply Za | apply Zb | apply Zc | apply Zd | apply Ze | apply Zf | apply Zg | apply Zh) <;> intro hc) | refine Zj ?_)
            all_goals simp [hr, DV.i]
          have b6 : ((57 : Int) < (c.toNat : Int)) = True := eq_true (by omega)
          have hc := Nat.zero_add 0
          repeat' (first | simp only [hc, SX, e1, hlt, w0, nn, hw, hjm', b5, b6, ZZ, simprocAttr, ↓reduceIte] | ((first | apply Za | apply Zb | apply Zc | apply Zd | apply Ze | apply Zf | apply Zg | apply Zh) <;> intro hc) | refine Zj ?_)
          all_goals simp [hr, DV.i]
        have hlt : ((j : Int) < (s.length : Int)) = False := eq_false (by omega)
        rw [List.take_of_length_le (by omega)] at hout
        rw [List.take_of_length_le (by omega)]
        have hle := accP_le _ 0 (by omega) hout
        have n3 := n3 hok hout
        have n4 := n4 hok hout
        generalize accP 0 (s.eraseIdx m) = n at *
        by_cases hn : 1125899906842624 < n
        · have b9 : ((1125899906842624 : Int) < (n : Int)) = True := eq_true (by omega)
          have hr := n3 hn
          have hc := Nat.zero_add 0
          repeat' (first | simp only [hc, SX, hlt, b9, ZZ, simprocAttr, ↓reduceIte] | ((first | apply Za | apply Zb | apply Zc | apply Zd | apply Ze | apply Zf | apply Zg | apply Zh) <;> intro hc) | refine Zj ?_)
          all_goals simp [hr, DV.i]
        have b9 : ((1125899906842624 : Int) < (n : Int)) = False := eq_false (by omega)
        have hr := n4 hn
        have hc := Nat.zero_add 0
        repeat' (first | simp only [hc, SX, hlt, b9, ZZ, simprocAttr, ↓reduceIte] | ((first | apply Za | apply Zb | apply Zc | apply Zd | apply Ze | apply Zf | apply Zg | apply Zh) <;> intro hc) | refine Zj ?_)
        all_goals simp [hr, DV.i]
      have b3 : ((cz.toNat : Int) = 48) = False := eq_false fun h => z1 (UInt8.toNat_inj.1 (by show cz.toNat = 48; omega))
      have hc := Nat.zero_add 0
      repeat' (first | simp only [hc, Tryz.f93, SX, z0, zl, a0, b1, w0, em, nn, b2, ez, b3, ZZ, simprocAttr, ↓reduceIte] | ((first | apply Za | apply Zb | apply Zc | apply Zd | apply Ze | apply Zf | apply Zg | apply Zh) <;> intro hc) | refine Zj ?_)
      refine awp_loop (σ := Nat) (fun j => j ≤ s.length ∧ ((s.take j).eraseIdx m).all isDig = true) (fun j => ⟨[(7, AV.i j), (6, AV.i (accP 0 ((s.take j).eraseIdx m))), (5, AV.d (.bool false)), (4, AV.s s)], []⟩) (fun j => s.length - j) 0 (Wk.sub' (by simp [subT, look, accP]) rfl) (by simp) ?_
      rintro j ⟨hj, hout⟩
      by_cases hjl : j < s.length
      · have e1 : s[j]? = some s[j] := by simp [hjl]
        have hlt : ((j : Int) < (s.length : Int)) = True := eq_true (by omega)
        have hw := wI (n := (j : Int) + 1) (by omega) (by omega)
        by_cases hjm : j = m
        · have hjm' : ((j : Int) = (m : Int)) = True := eq_true (by omega)
          have hs := er_skip e1
          rw [hjm] at hs
          have hc := Nat.zero_add 0
          repeat' (first | simp only [hc, SX, hlt, w0, nn, hw, hjm', ZZ, simprocAttr, ↓reduceIte] | ((first | apply Za | apply Zb | apply Zc | apply Zd | apply Ze | apply Zf | apply Zg | apply Zh) <;> intro hc) | refine Zj ?_)
          exact lp_next (j + 1) (Wk.sub' (by simp [subT, look, hjm, hs]) rfl) ⟨by omega, by rw [hjm, hs]; rw [hjm] at hout; exact hout⟩ (by omega)
        have hjm' : ((j : Int) = (m : Int)) = False := eq_false (by omega)
        have hs := er_snoc e1 hjm
        have hme := er_mem e1 hjm
        generalize s[j] = c at *
        by_cases hdg : isDig c = true
        · have hdg' := dig_iff.1 hdg
          have hal : ((s.take (j + 1)).eraseIdx m).all isDig = true := by rw [hs, List.all_append, hout]; simp [hdg]
          have hac := accP_snoc c ((s.take j).eraseIdx m) 0
          have hle := accP_le _ 0 (by omega) hout
          rw [← hs] at hac
          have b5 : ((c.toNat : Int) < 48) = False := eq_false (by omega)
          have b6 : ((57 : Int) < (c.toNat : Int)) = False := eq_false (by omega)
          generalize accP 0 ((s.take j).eraseIdx m) = n at *
          by_cases hn : n ≤ 1125899906842624
          · have b7 : ((n : Int) ≤ 1125899906842624) = True := eq_true (by omega)
            have w1 := wI (n := 10 * (n : Int)) (by omega) (by omega)
            have w2 := wU8 (n := (c.toNat : Int) - 48) (by omega) (by omega)
            have w3 := wI (n := (c.toNat : Int) - 48) (by omega) (by omega)
            have w4 := wI (n := 10 * (n : Int) + ((c.toNat : Int) - 48)) (by omega) (by omega)
            rw [if_pos hn] at hac
            have hac' : ((accP 0 ((s.take (j + 1)).eraseIdx m) : Nat) : Int) = 10 * (n : Int) + ((c.toNat : Int) - 48) := by omega
            have hc := Nat.zero_add 0
            repeat' (first | simp only [hc, SX, e1, hlt, w0, nn, hw, hjm', b5, b6, b7, w1, w2, w3, w4, ZZ, simprocAttr, ↓reduceIte] | ((first | apply Za | apply Zb | apply Zc | apply Zd | apply Ze | apply Zf | apply Zg | apply Zh) <;> intro hc) | refine Zj ?_)
            exact lp_next (j + 1) (Wk.sub' (by simp [subT, look, hac']) rfl) ⟨by omega, hal⟩ (by omega)
          have b7 : ((n : Int) ≤ 1125899906842624) = False := eq_false (by omega)
          rw [if_neg hn] at hac
          have hc := Nat.zero_add 0
          repeat' (first | simp only [hc, SX, e1, hlt, w0, nn, hw, hjm', b5, b6, b7, ZZ, simprocAttr, ↓reduceIte] | ((first | apply Za | apply Zb | apply Zc | apply Zd | apply Ze | apply Zf | apply Zg | apply Zh) <;> intro hc) | refine Zj ?_)
          exact lp_next (j + 1) (Wk.sub' (by simp [subT, look, hac]) rfl) ⟨by omega, hal⟩ (by omega)
        have hr := n2 fun h => hdg (List.all_eq_true.1 h c hme)
        have hdg' : ¬ (48 ≤ c.toNat ∧ c.toNat ≤ 57) := fun h => hdg (dig_iff.2 h)
        by_cases b5 : (c.toNat : Int) < 48
        · skip
          have hc := Nat.zero_add 0
          repeat' (first | simp only [hc, SX, e1, hlt, w0, nn, hw, hjm', b5, ZZ, simprocAttr, ↓reduceIte] | ((first | apply Za | apply Zb | apply Zc | apply Zd | apply Ze | apply Zf | apply Zg | apply Zh) <;> intro hc) | refine Zj ?_)
          all_goals simp [hr, DV.i]
        have b6 : ((57 : Int) < (c.toNat : Int)) = True := eq_true (by omega)
        have hc := Nat.zero_add 0
        repeat' (first | simp only [hc, SX, e1, hlt, w0, nn, hw, hjm', b5, b6, ZZ, simprocAttr, ↓reduceIte] | ((first | apply Za | apply Zb | apply Zc | apply Zd | apply Ze | apply Zf | apply Zg | apply Zh) <;> intro hc) | refine Zj ?_)
        all_goals simp [hr, DV.i]
      have hlt : ((j : Int) < (s.length : Int)) = False := eq_false (by omega)
      rw [List.take_of_length_le (by omega)] at hout
      rw [List.take_of_length_le (by omega)]
      have hle := accP_le _ 0 (by omega) hout
      have n3 := n3 hok hout
      have n4 := n4 hok hout
      generalize accP 0 (s.eraseIdx m) = n at *
      by_cases hn : 1125899906842624 < n
      · have b9 : ((1125899906842624 : Int) < (n : Int)) = True := eq_true (by omega)
        have hr := n3 hn
        have hc := Nat.zero_add 0
        repeat' (first | simp only [hc, SX, hlt, b9, ZZ, simprocAttr, ↓reduceIte] | ((first | apply Za | apply Zb | apply Zc | apply Zd | apply Ze | apply Zf | apply Zg | apply Zh) <;> intro hc) | refine Zj ?_)
        all_goals simp [hr, DV.i]
      have b9 : ((1125899906842624 : Int) < (n : Int)) = False := eq_false (by omega)
      have hr := n4 hn
      have hc := Nat.zero_add 0
      repeat' (first | simp only [hc, SX, hlt, b9, ZZ, simprocAttr, ↓reduceIte] | ((first | apply Za | apply Zb | apply Zc | apply Zd | apply Ze | apply Zf | apply Zg | apply Zh) <;> intro hc) | refine Zj ?_)
      all_goals simp [hr, DV.i]
  cases h
end
end Go.Ab
