/-
  Texts of the layer and of the laws, put together: AbJ5, AbJ6.
-/
import Derived.Test.YtdoofgbeajkpaaaGreatDoorAbWD35
set_option linter.unusedSimpArgs false
set_option linter.unusedVariables false
set_option maxRecDepth 100000
namespace Go.Ab
open Go.RowKit Go.Proofs
def encBIi (p : (Bool × List Int) × Int) : List PA := [.c (.sl p.1.1 (p.1.2.map rowI)), .c (.int .i64 p.2)]
theorem encBIi_inj (a b : (Bool × List Int) × Int) (h : encBIi a = encBIi b) : a = b := by
  obtain ⟨⟨a1, a2⟩, a3⟩ := a
  obtain ⟨⟨b1, b2⟩, b3⟩ := b
  simp only [encBIi, List.cons.injEq, DV.c.injEq, D.sl.injEq, D.int.injEq, and_true, true_and] at h
  rw [h.1.1, mapI_inj.1 h.1.2, h.2]
def encVB (p : (Bool × List Iv) × (Bool × List Int)) : List PA := [.c (.sl p.1.1 (p.1.2.map rwI)), .c (.sl p.2.1 (p.2.2.map rowI))]
theorem encVB_inj (a b : (Bool × List Iv) × (Bool × List Int)) (h : encVB a = encVB b) : a = b := by
  obtain ⟨⟨a1, a2⟩, a3, a4⟩ := a
  obtain ⟨⟨b1, b2⟩, b3, b4⟩ := b
  simp only [encVB, List.cons.injEq, DV.c.injEq, D.sl.injEq, and_true] at h
  obtain ⟨⟨h1, h2⟩, h3, h4⟩ := h
  rw [h1, mapIv_inj.1 h2, h3, mapI_inj.1 h4]
def twoW (p : (Bool × List Iv) × (Bool × List Iv)) : Prop := p.1.2.length ≤ 100000000 ∧ p.2.2.length ≤ 100000000
abbrev V2 := (Bool × List Iv) × (Bool × List Iv)
def encVVi (p : V2 × Int) : List PA := [.c (.sl p.1.1.1 (p.1.1.2.map rwI)), .c (.sl p.1.2.1 (p.1.2.2.map rwI)), .c (.int .i64 p.2)]
theorem encVVi_inj (a b : V2 × Int) (h : encVVi a = encVVi b) : a = b := by
  obtain ⟨⟨⟨a1, a2⟩, a3, a4⟩, a5⟩ := a
  obtain ⟨⟨⟨b1, b2⟩, b3, b4⟩, b5⟩ := b
  simp only [encVVi, List.cons.injEq, DV.c.injEq, D.sl.injEq, D.int.injEq, and_true, true_and] at h
  obtain ⟨⟨h1, h2⟩, ⟨h3, h4⟩, h5⟩ := h
  rw [h1, mapIv_inj.1 h2, h3, mapIv_inj.1 h4, h5]
def encVVii (p : V2 × Int × Int) : List PA := [.c (.sl p.1.1.1 (p.1.1.2.map rwI)), .c (.sl p.1.2.1 (p.1.2.2.map rwI)), .c (.int .i64 p.2.1), .c (.int .i64 p.2.2)]
theorem encVVii_inj (a b : V2 × Int × Int) (h : encVVii a = encVVii b) : a = b := by
  obtain ⟨⟨⟨a1, a2⟩, a3, a4⟩, a5, a6⟩ := a
  obtain ⟨⟨⟨b1, b2⟩, b3, b4⟩, b5, b6⟩ := b
  simp only [encVVii, List.cons.injEq, DV.c.injEq, D.sl.injEq, D.int.injEq, and_true, true_and] at h
  obtain ⟨⟨h1, h2⟩, ⟨h3, h4⟩, h5, h6⟩ := h
  rw [h1, mapIv_inj.1 h2, h3, mapIv_inj.1 h4, h5, h6]
theorem in_at {l : List Int} {j : Nat} (h : j < l.length) : (l.map rowI)[j]? = some [.int .i64 l[j]] := by simp [h, rowI]
theorem lenIn {l : List Int} : ((l.map rowI).length : Int) = l.length := by simp
theorem putN_len {n : Int} : ∀ {l : List Int}, (putN n l).length ≤ l.length + 1
  | [] => by simp [putN]
  | x :: l => by
    rw [putN]
    split
    · simp
    split
    · simp
    have := @putN_len n l
    simp only [List.length_cons]
    omega
theorem endsF_len : ∀ {a : List Iv} {o : List Int}, (endsF a o).length ≤ o.length + 2 * a.length
  | [], o => by simp [endsF]
  | i :: a, o => by
    have hstep : endsF (i :: a) o = endsF a (if ivOk i = true then putN i.2 (putN i.1 o) else o) := rfl
    rw [hstep]
    have h1 := @endsF_len a (if ivOk i = true then putN i.2 (putN i.1 o) else o)
    have h2 : (if ivOk i = true then putN i.2 (putN i.1 o) else o).length ≤ o.length + 2 := by
      split
      · have := @putN_len i.2 (putN i.1 o)
        have := @putN_len i.1 o
        omega
      omega
    rw [List.length_cons]
    omega
theorem endsF_take {a : List Iv} {o : List Int} {i : Nat} (h : i < a.length) : endsF (a.take (i + 1)) o = if ivOk a[i] = true then putN a[i].2 (putN a[i].1 (endsF (a.take i) o)) else endsF (a.take i) o := foldl_take h
theorem any_take {l : List Iv} {t : Int} {i : Nat} (hi : i < l.length) (h : (l.take i).any (hasOne · t) = false) : (hasOne l[i] t = true → hasW l t = true) ∧ (hasOne l[i] t = false → (l.take (i + 1)).any (hasOne · t) = false) :=
  ⟨fun hx => List.any_eq_true.2 ⟨l[i], List.getElem_mem hi, hx⟩, fun hx => by
    rw [List.take_succ_eq_append_getElem hi, List.any_append, h]
    simp [hx]⟩
noncomputable section
open Classical
def r5v_m : List PA → Option (List PA) := mE encV1 fun i => some [.b (ivOk i)]
def r5has_m : List PA → Option (List PA) := mE encVt fun p => if decide (p.1.2.length ≤ 1000000000) = true then some [.b (hasW p.1.2 p.2)] else none
def r5put_m : List PA → Option (List PA) := mE encBIi fun p => if p.1.2.length ≤ 1000000000 then some [.c (.sl false ((putN p.2 p.1.2).map rowI))] else none
def r5ends_m : List PA → Option (List PA) := mE encVB fun p => if p.1.2.length ≤ 100000000 ∧ p.2.2.length ≤ 300000000 then some [.c (.sl false ((endsF p.1.2 p.2.2).map rowI))] else none
def r5in_m : List PA → Option (List PA) := mE encVVii fun p => if decide (p.1.1.2.length ≤ 1000000000 ∧ p.1.2.2.length ≤ 1000000000) = true then some [.b (inC (hasW p.1.1.2 p.2.1) (hasW p.1.2.2 p.2.1) p.2.2)] else none
theorem r5v_ok : PureC Tryz.prog Gt 152 r5v_m := by
  refine pure_of_awp (X := ctx Tryz.prog Gt []) Tryz.func152 rfl rfl (by kernel_rfl) (by kernel_rfl) AllOk.nil.kok ?_
  intro args r h0
  obtain ⟨⟨a, b⟩, rfl, h⟩ := mE_inv h0
  refine ⟨Nat.le_of_ble_eq_true rfl, ?_⟩
  cases h
  have hc := Nat.zero_add 0
  repeat' (first | simp only [hc, Tryz.f152, encV1, rwI, SX, ZZ, simprocAttr, ↓reduceIte] | (apply Zb <;> intro hc) )
  all_goals (simp_all [ivOk, DV.b, mxT]; try omega)
theorem r5v_at {i : Iv} : r5v_m [.agg (rwI i)] = some [.b (ivOk i)] := mE_eq encV1_inj (g := fun i => some [DV.b (ivOk i)]) (a := i)
theorem r5has_ok : PureC Tryz.prog Gt 154 r5has_m := by
  refine pure_of_awpS (X := ctx Tryz.prog Gt [(152, r5v_m)]) Tryz.func154 rfl rfl (by kernel_rfl) (by kernel_rfl) (AllOk.cons r5v_ok AllOk.nil).kok ?_
  intro args r h0
  obtain ⟨⟨⟨f, l⟩, t⟩, rfl, h⟩ := mE_inv h0
  refine ⟨Nat.le_of_ble_eq_true rfl, ?_⟩
  split at h
  · rename_i hl
    have hl := of_decide_eq_true hl
    dsimp only at hl h
    simp only [Option.some.injEq] at h
    have l1 := @lenIv l
    have hc := Nat.zero_add 0
    repeat' (first | simp only [hc, AS, Tryz.f154, encVt, SX, l1, ZZ, simprocAttr, ↓reduceIte] | refine Zi ?_ )
    refine awpS_loop (σ := Nat) (fun i => i ≤ l.length ∧ (l.take i).any (hasOne · t) = false)
      (fun i => ⟨[(5, AV.i i), (0, AV.d (.sl f (l.map rwI))), (1, AV.i t)], []⟩)
      (fun i => l.length - i) 0 (Wk.sub' (by simp [subT, look]) rfl) ⟨Nat.zero_le _, rfl⟩ ?_
    rintro i ⟨hi, hn⟩
    by_cases hil : i < l.length
    · have e1 := iv_at hil
      have c1 : ((i : Int) < (l.length : Int)) = True := eq_true (by omega)
      have w1 := wI (n := (i : Int) + 1) (by omega) (by omega)
      obtain ⟨g1, g2⟩ := any_take hil hn
      generalize l[i] = x at *
      obtain ⟨a, b⟩ := x
      dsimp only at e1
      have f1 := @r5v_at (a, b)
      simp only [rwI] at f1
      cases hv : ivOk (a, b)
      · rw [hv] at f1
        have hc := Nat.zero_add 0
        repeat' (first | simp only [hc, AS, SX, l1, e1, c1, nn, w1, f1, ZZ, simprocAttr, ↓reduceIte] | refine Zi ?_ )
        exact lp_next (i + 1) (Wk.sub' (by simp [subT, look]) rfl) ⟨by omega, g2 (by simp [hasOne, hv])⟩ (by omega)
      rw [hv] at f1
      by_cases c2 : a ≤ t
      · have c2' := eq_true c2
        by_cases c3 : t < b
        · have c3' := eq_true c3
          rw [← h, g1 (by simp [hasOne, hv, c2, c3])]
          have hc := Nat.zero_add 0
          repeat' (first | simp only [hc, AS, SX, l1, e1, c1, nn, w1, f1, c2', c3', ZZ, simprocAttr, ↓reduceIte] | refine Zi ?_ )
          all_goals rfl
        have c3' := eq_false c3
        have hc := Nat.zero_add 0
        repeat' (first | simp only [hc, AS, SX, l1, e1, c1, nn, w1, f1, c2', c3', ZZ, simprocAttr, ↓reduceIte] | refine Zi ?_ )
        exact lp_next (i + 1) (Wk.sub' (by simp [subT, look]) rfl) ⟨by omega, g2 (by simp [hasOne, hv, c3])⟩ (by omega)
      have c2' := eq_false c2
      have hc := Nat.zero_add 0
      repeat' (first | simp only [hc, AS, SX, l1, e1, c1, nn, w1, f1, c2', ZZ, simprocAttr, ↓reduceIte] | refine Zi ?_ )
      exact lp_next (i + 1) (Wk.sub' (by simp [subT, look]) rfl) ⟨by omega, g2 (by simp [hasOne, hv, c2])⟩ (by omega)
    have c1 : ((i : Int) < (l.length : Int)) = False := eq_false (by omega)
    rw [List.take_of_length_le (by omega : l.length ≤ i)] at hn
    have hn : hasW l t = false := hn
    rw [← h, hn]
    have hc := Nat.zero_add 0
    repeat' (first | simp only [hc, AS, SX, l1, c1, ZZ, simprocAttr, ↓reduceIte] | refine Zi ?_ | refine Zj ?_)
    all_goals rfl
  cases h
theorem r5has_at {f : Bool} {l : List Iv} {t : Int} (h : l.length ≤ 1000000000) : r5has_m [.c (.sl f (l.map rwI)), .c (.int .i64 t)] = some [.b (hasW l t)] := by
  have := mE_eq encVt_inj (g := fun p => if decide (p.1.2.length ≤ 1000000000) = true then some [DV.b (hasW p.1.2 p.2)] else none) (a := ((f, l), t))
  exact this.trans (if_pos (decide_eq_true h))
theorem r5put_ok : PureC Tryz.prog Gt 153 r5put_m := by
  refine pure_of_awpS (X := ctx Tryz.prog Gt []) Tryz.func153 rfl rfl (by kernel_rfl) (by kernel_rfl) AllOk.nil.kok ?_
  intro args r h0
  obtain ⟨⟨⟨f, l⟩, n⟩, rfl, h⟩ := mE_inv h0
  refine ⟨Nat.le_of_ble_eq_true rfl, ?_⟩
  split at h
  · rename_i hl
    dsimp only at hl h
    simp only [Option.some.injEq] at h
    have l1 := @lenIn l
    have hc := Nat.zero_add 0
    repeat' (first | simp only [hc, AS, Tryz.f153, encBIi, SX, l1, ZZ, simprocAttr, ↓reduceIte] | refine Zi ?_ )
    refine awpS_loop (σ := Nat × Bool × List Int) (fun p => p.1 ≤ l.length ∧ p.2.2.length ≤ p.1 + p.2.1.toNat ∧ p.2.2 ++ (if p.2.1 = true then l.drop p.1 else putN n (l.drop p.1)) = putN n l)
      (fun p => ⟨[(7, AV.i p.1), (6, AV.b p.2.1), (5, .v (.c (.own 0 (p.2.2.map rowI)))), (0, AV.d (.sl f (l.map rowI))), (1, AV.i n)], [.tok p.2.2.length 1 none]⟩)
      (fun p => l.length - p.1) (0, false, []) ((Wk.own 5 1 (by decide) (by simp [look])).trans (Wk.sub' (by simp [subT, look]) rfl)) ⟨Nat.zero_le _, Nat.zero_le _, rfl⟩ ?_
    rintro ⟨i, dn, O⟩ ⟨g1, g2, g3⟩
    dsimp only at g1 g2 g3 ⊢
    have hdn : dn.toNat ≤ 1 := Bool.toNat_le dn
    have ap : ∀ (h : Hp) (O : List Int) (u : Int), O.length ≤ 1000000010 → apTok h 0 1 8 (O.map rowI) [[.int .i64 u]] (some (.tok O.length 1 none)) = some (.v (.c (.own 0 ((O ++ [u]).map rowI))), h.set 0 (.tok (O ++ [u]).length 1 none)) := fun h O u hO => by
      rw [apTok_ok (eq_true (by simp)) (eq_true (by simp [allLen])) (eq_true (by simp; omega)) (eq_true (by simp; omega))]
      simp [rowI]
    by_cases hil : i < l.length
    · have e1 := in_at hil
      have c1 : ((i : Int) < (l.length : Int)) = True := eq_true (by omega)
      have w1 := wI (n := (i : Int) + 1) (by omega) (by omega)
      rw [drop_cons hil] at g3
      generalize l[i] = x at *
      have a1 := fun h u => ap h O u (by omega)
      have next : ∀ (dn' : Bool) (O' : List Int), O'.length ≤ i + 1 + dn'.toNat → O' ++ (if dn' = true then l.drop (i + 1) else putN n (l.drop (i + 1))) = putN n l → i + 1 ≤ l.length ∧ O'.length ≤ i + 1 + dn'.toNat ∧ O' ++ (if dn' = true then l.drop (i + 1) else putN n (l.drop (i + 1))) = putN n l :=
        fun _ _ h1 h2 => ⟨hil, h1, h2⟩
      cases dn with
      | true =>
        rw [if_pos rfl] at g3
        by_cases c2 : n = x
        · have c2' := eq_true c2
          have hc := Nat.zero_add 0
          repeat' (first | simp only [hc, AS, SX, l1, e1, c1, nn, w1, a1, c2', ZZ, simprocAttr, ↓reduceIte] | refine Zi ?_ )
          exact lp_next (i + 1, true, O ++ [x]) (Wk.sub' (by simp [subT, look]) rfl) (next _ _ (by simp only [Bool.toNat_true, Bool.toNat_false, List.length_append, List.length_cons, List.length_nil] at g2 ⊢; omega) (by rw [if_pos rfl, List.append_assoc]; exact g3)) (by dsimp only; omega)
        · have c2' := eq_false c2
          have hc := Nat.zero_add 0
          repeat' (first | simp only [hc, AS, SX, l1, e1, c1, nn, w1, a1, c2', ZZ, simprocAttr, ↓reduceIte] | refine Zi ?_ )
          exact lp_next (i + 1, true, O ++ [x]) (Wk.sub' (by simp [subT, look]) rfl) (next _ _ (by simp only [Bool.toNat_true, Bool.toNat_false, List.length_append, List.length_cons, List.length_nil] at g2 ⊢; omega) (by rw [if_pos rfl, List.append_assoc]; exact g3)) (by dsimp only; omega)
      | false =>
        rw [if_neg (by decide), putN] at g3
        by_cases c3 : n < x
        · have c3' := eq_true c3
          have c2' : (n = x) = False := eq_false (by omega)
          rw [if_pos c3] at g3
          have a2 := fun h u => ap h (O ++ [n]) u (by simp; omega)
          have hc := Nat.zero_add 0
          repeat' (first | simp only [hc, AS, SX, l1, e1, c1, nn, w1, a1, a2, c2', c3', ZZ, simprocAttr, ↓reduceIte] | refine Zi ?_ )
          exact lp_next (i + 1, true, O ++ [n] ++ [x]) (Wk.sub' (by simp [subT, look]) rfl) (next _ _ (by simp only [Bool.toNat_true, Bool.toNat_false, List.length_append, List.length_cons, List.length_nil] at g2 ⊢; omega) (by rw [if_pos rfl, List.append_assoc, List.append_assoc]; exact g3)) (by dsimp only; omega)
        have c3' := eq_false c3
        rw [if_neg c3] at g3
        by_cases c2 : n = x
        · have c2' := eq_true c2
          rw [if_pos c2] at g3
          have hc := Nat.zero_add 0
          repeat' (first | simp only [hc, AS, SX, l1, e1, c1, nn, w1, a1, c2', c3', ZZ, simprocAttr, ↓reduceIte] | refine Zi ?_ )
          exact lp_next (i + 1, true, O ++ [x]) (Wk.sub' (by simp [subT, look]) rfl) (next _ _ (by simp only [Bool.toNat_true, Bool.toNat_false, List.length_append, List.length_cons, List.length_nil] at g2 ⊢; omega) (by rw [if_pos rfl, List.append_assoc]; exact g3)) (by dsimp only; omega)
        have c2' := eq_false c2
        rw [if_neg c2] at g3
        have hc := Nat.zero_add 0
        repeat' (first | simp only [hc, AS, SX, l1, e1, c1, nn, w1, a1, c2', c3', ZZ, simprocAttr, ↓reduceIte] | refine Zi ?_ )
        exact lp_next (i + 1, false, O ++ [x]) (Wk.sub' (by simp [subT, look]) rfl) (next _ _ (by simp only [Bool.toNat_true, Bool.toNat_false, List.length_append, List.length_cons, List.length_nil] at g2 ⊢; omega) (by rw [if_neg Bool.false_ne_true, List.append_assoc]; exact g3)) (by dsimp only; omega)
    have c1 : ((i : Int) < (l.length : Int)) = False := eq_false (by omega)
    have a1 := fun h u => ap h O u (by omega)
    rw [List.drop_of_length_le (by omega : l.length ≤ i)] at g3
    cases dn with
    | true =>
      rw [if_pos rfl, List.append_nil] at g3
      have hc := Nat.zero_add 0
      repeat' (first | simp only [hc, AS, SX, l1, c1, a1, ZZ, simprocAttr, ↓reduceIte] | refine Zi ?_ | refine Zj ?_)
      rw [← h, ← g3]
    | false =>
      rw [if_neg (by decide), putN] at g3
      have hc := Nat.zero_add 0
      repeat' (first | simp only [hc, AS, SX, l1, c1, a1, ZZ, simprocAttr, ↓reduceIte] | refine Zi ?_ | refine Zj ?_)
      rw [← h, ← g3]
  cases h
theorem r5put_at {f : Bool} {l : List Int} {n : Int} (h : l.length ≤ 1000000000) : r5put_m [.c (.sl f (l.map rowI)), .c (.int .i64 n)] = some [.c (.sl false ((putN n l).map rowI))] := by
  have := mE_eq encBIi_inj (g := fun p => if p.1.2.length ≤ 1000000000 then some [DV.c (.sl false ((putN p.2 p.1.2).map rowI))] else none) (a := ((f, l), n))
  exact this.trans (if_pos h)
theorem r5ends_ok : PureC Tryz.prog Gt 134 r5ends_m := by
  refine pure_of_awpS (X := ctx Tryz.prog Gt [(152, r5v_m), (153, r5put_m)]) Tryz.func134 rfl rfl (by kernel_rfl) (by kernel_rfl) (AllOk.cons r5v_ok (AllOk.cons r5put_ok AllOk.nil)).kok ?_
  intro args r h0
  obtain ⟨⟨⟨f, a⟩, g, o⟩, rfl, h⟩ := mE_inv h0
  refine ⟨Nat.le_of_ble_eq_true rfl, ?_⟩
  split at h
  · rename_i hl
    obtain ⟨hl, ho⟩ := hl
    dsimp only at hl ho h
    simp only [Option.some.injEq] at h
    have l1 := @lenIv a
    have hc := Nat.zero_add 0
    repeat' (first | simp only [hc, AS, Tryz.f134, encVB, SX, l1, ZZ, simprocAttr, ↓reduceIte] | refine Zi ?_ )
    refine awpS_loop (σ := Nat) (fun i => i ≤ a.length)
      (fun i => ⟨[(6, AV.i i), (5, AV.d (.sl false ((endsF (a.take i) o).map rowI))), (0, AV.d (.sl f (a.map rwI)))], []⟩)
      (fun i => a.length - i) 0 ((Wk.ofFull 5 g (o.map rowI) (by simp [look])).trans (Wk.sub' (by simp [subT, look, endsF]) rfl)) (Nat.zero_le _) ?_
    intro i hi
    by_cases hil : i < a.length
    · have e1 := iv_at hil
      have c1 : ((i : Int) < (a.length : Int)) = True := eq_true (by omega)
      have w1 := wI (n := (i : Int) + 1) (by omega) (by omega)
      have hst := @endsF_take a o i hil
      have hln := @endsF_len (a.take i) o
      rw [List.length_take] at hln
      generalize endsF (a.take i) o = E at *
      generalize a[i] = x at *
      obtain ⟨u, v⟩ := x
      dsimp only at e1 hst
      have f1 := @r5v_at (u, v)
      simp only [rwI] at f1
      cases hv : ivOk (u, v)
      · rw [hv] at f1
        rw [hv, if_neg Bool.false_ne_true] at hst
        have hc := Nat.zero_add 0
        repeat' (first | simp only [hc, AS, SX, l1, e1, c1, nn, w1, f1, ZZ, simprocAttr, ↓reduceIte] | refine Zi ?_ )
        refine lp_next (i + 1) ?_ (by omega) (by omega)
        rw [hst]
        exact Wk.sub' (by simp [subT, look]) rfl
      rw [hv] at f1
      rw [hv, if_pos rfl] at hst
      have f2 := @r5put_at false E u (by omega)
      have f3 := @r5put_at false (putN u E) v (by have := @putN_len u E; omega)
      have hc := Nat.zero_add 0
      repeat' (first | simp only [hc, AS, SX, l1, e1, c1, nn, w1, f1, f2, f3, ZZ, simprocAttr, ↓reduceIte] | refine Zi ?_ )
      refine lp_next (i + 1) ?_ (by omega) (by omega)
      rw [hst]
      exact Wk.sub' (by simp [subT, look]) rfl
    have c1 : ((i : Int) < (a.length : Int)) = False := eq_false (by omega)
    rw [List.take_of_length_le (by omega : a.length ≤ i)]
    have hc := Nat.zero_add 0
    repeat' (first | simp only [hc, AS, SX, l1, c1, ZZ, simprocAttr, ↓reduceIte] | refine Zi ?_ | refine Zj ?_)
    rw [← h]
  cases h
theorem r5ends_at {f g : Bool} {a : List Iv} {o : List Int} (h1 : a.length ≤ 100000000) (h2 : o.length ≤ 300000000) : r5ends_m [.c (.sl f (a.map rwI)), .c (.sl g (o.map rowI))] = some [.c (.sl false ((endsF a o).map rowI))] := by
  have := mE_eq encVB_inj (g := fun p => if p.1.2.length ≤ 100000000 ∧ p.2.2.length ≤ 300000000 then some [DV.c (.sl false ((endsF p.1.2 p.2.2).map rowI))] else none) (a := ((f, a), g, o))
  exact this.trans (if_pos ⟨h1, h2⟩)
theorem r5in_ok : PureC Tryz.prog Gt 135 r5in_m := by
  refine pure_of_awpS (X := ctx Tryz.prog Gt [(154, r5has_m)]) Tryz.func135 rfl rfl (by kernel_rfl) (by kernel_rfl) (AllOk.cons r5has_ok AllOk.nil).kok ?_
  intro args r h0
  obtain ⟨⟨⟨⟨f, a⟩, g, b⟩, t, w⟩, rfl, h⟩ := mE_inv h0
  refine ⟨Nat.le_of_ble_eq_true rfl, ?_⟩
  split at h
  · rename_i hl
    have hl := of_decide_eq_true hl
    dsimp only at hl h
    simp only [Option.some.injEq] at h
    have f1 := @r5has_at f a t hl.1
    have f2 := @r5has_at g b t hl.2
    have h := h.symm
    subst h
    unfold inC
    generalize hasW a t = x at *
    generalize hasW b t = y at *
    by_cases c1 : w = 1
    · subst c1
      cases x <;> cases y
      all_goals
        have hc := Nat.zero_add 0
        repeat' (first | simp only [hc, AS, Tryz.f135, encVVii, SX, f1, f2, ZZ, simprocAttr, ↓reduceIte] | refine Zi ?_ )
        all_goals simp [DV.b]
    have c1' := eq_false c1
    by_cases c2 : w = 2
    · subst c2
      cases x <;> cases y
      all_goals
        have hc := Nat.zero_add 0
        repeat' (first | simp only [hc, AS, Tryz.f135, encVVii, SX, f1, f2, c1', ZZ, simprocAttr, ↓reduceIte] | refine Zi ?_ )
        all_goals simp [DV.b]
    have c2' := eq_false c2
    cases x <;> cases y
    all_goals
      have hc := Nat.zero_add 0
      repeat' (first | simp only [hc, AS, Tryz.f135, encVVii, SX, f1, f2, c1', c2', ZZ, simprocAttr, ↓reduceIte] | refine Zi ?_ )
      all_goals simp [DV.b, c1, c2]
  cases h
theorem r5in_at {f g : Bool} {a b : List Iv} {t w : Int} (h1 : a.length ≤ 1000000000) (h2 : b.length ≤ 1000000000) : r5in_m [.c (.sl f (a.map rwI)), .c (.sl g (b.map rwI)), .c (.int .i64 t), .c (.int .i64 w)] = some [.b (inC (hasW a t) (hasW b t) w)] := by
  have := mE_eq encVVii_inj (g := fun p => if decide (p.1.1.2.length ≤ 1000000000 ∧ p.1.2.2.length ≤ 1000000000) = true then some [DV.b (inC (hasW p.1.1.2 p.2.1) (hasW p.1.2.2 p.2.1) p.2.2)] else none) (a := (((f, a), g, b), t, w))
  exact this.trans (if_pos (decide_eq_true ⟨h1, h2⟩))
end
end Go.Ab
namespace Go.Ab
open Go.RowKit Go.Proofs
theorem mkS_len {r : List Iv} {i : Iv} : (mkS r i).length ≤ r.length + 1 := by
  cases r with
  | nil => simp [mkS]
  | cons p r => simp only [mkS]; split <;> simp
theorem pairs_short {p : List Int} (h : p.length ≤ 1) : pairs p = [] := by
  match p, h with
  | [], _ => rfl
  | [a], _ => rfl
theorem pairs_drop {p : List Int} {i : Nat} (h : i + 1 < p.length) : pairs (p.drop i) = (p[i]'(by omega), p[i + 1]) :: pairs (p.drop (i + 1)) := by
  rw [drop_cons (show i < p.length by omega), drop_cons h, pairs]
noncomputable section
open Classical
def r5comb_m : List PA → Option (List PA) := mE encVVi fun p => if twoW p.1 then some [.c (.sl false ((combF p.1.1.2 p.1.2.2 p.2).map rwI))] else none
def r5minus_m : List PA → Option (List PA) := mE encVV fun p => if twoW p then some [.c (.sl false ((minusJ p.1.2 p.2.2).map rwI))] else none
def r5same_m : List PA → Option (List PA) := mE encVV fun p => if decide (p.1.2.length ≤ 1000000000) = true then some [.b (decide (p.1.2 = p.2.2))] else none
set_option maxHeartbeats 1000000 in
theorem r5comb_ok : PureC Tryz.prog Gt 118 r5comb_m := by
  refine pure_of_awpSW (X := ctxN Tryz.prog Gt [(134, r5ends_m), (135, r5in_m)] [] [] none) Tryz.func118 rfl rfl (by kernel_rfl) (by kernel_rfl) (kok_n (AllOk.cons r5ends_ok (AllOk.cons r5in_ok AllOk.nil)) AllK.nil AllN.nil) ?_
  intro args r h0
  obtain ⟨⟨⟨⟨f, a⟩, g, b⟩, w⟩, rfl, h⟩ := mE_inv h0
  refine ⟨Nat.le_of_ble_eq_true rfl, ?_⟩
  split at h
  · rename_i hl
    obtain ⟨h1, h2⟩ := hl
    dsimp only at h1 h2 h
    simp only [Option.some.injEq] at h
    have f1 := @r5ends_at f true a [] (by omega) (by simp)
    have n1 := @endsF_len a []
    simp only [List.length_nil] at n1
    have f2 := @r5ends_at g false b (endsF a []) (by omega) (by omega)
    have n2 := @endsF_len b (endsF a [])
    have hR : combF a b w = (((pairs (endsF b (endsF a []))).filter fun i => inC (hasW a i.1) (hasW b i.1) w).foldl mkS []).reverse := rfl
    rw [hR] at h
    simp only [List.map_nil] at f1
    generalize endsF b (endsF a []) = P at *
    generalize endsF a [] = P0 at *
    have l1 := @lenIn P
    have hc := Nat.zero_add 0
    repeat' (first | simp only [hc, AS, Tryz.f118, encVVi, NX, NPV, SX, f1, f2, ZZ, simprocAttr, ↓reduceIte] | refine Zi ?_ )
    refine awpS_loop (σ := Nat × List Iv) (fun p => p.1 ≤ P.length ∧ p.2.length ≤ p.1 ∧ ((pairs (P.drop p.1)).filter fun i => inC (hasW a i.1) (hasW b i.1) w).foldl mkS p.2 = ((pairs P).filter fun i => inC (hasW a i.1) (hasW b i.1) w).foldl mkS [])
      (fun p => ⟨[(9, AV.i p.1), (8, AV.d (.sl false (P.map rowI))), (7, .v (.c (.msl 0 p.2.reverse.length))), (0, AV.d (.sl f (a.map rwI))), (1, AV.d (.sl g (b.map rwI))), (2, AV.i w)], [.tok p.2.reverse.length 2 (some (icd p.2.reverse))]⟩)
      (fun p => P.length - p.1) (0, []) ((Wk.msl 7 2 (by decide) (by simp [look])).trans (Wk.sub' (by simp [subT, look]) rfl)) ⟨Nat.zero_le _, Nat.zero_le _, rfl⟩ ?_
    rintro ⟨i, r⟩ ⟨g1, g2, g3⟩
    dsimp only at g1 g2 g3 ⊢
    have w1 := wI (n := (i : Int) + 1) (by omega) (by omega)
    by_cases hil : i + 1 < P.length
    · have e1 := in_at (show i < P.length by omega)
      have e2 := in_at hil
      have c1 : ((i : Int) + 1 < (P.length : Int)) = True := eq_true (by omega)
      have nn1 : ((0 : Int) ≤ (i : Int) + 1) = True := eq_true (by omega)
      have hN1 : ((i : Int) + 1).toNat = i + 1 := by omega
      have f3 := @r5in_at f g a b P[i] w (by omega) (by omega)
      rw [pairs_drop hil, List.filter_cons] at g3
      have next : ∀ r', r'.length ≤ i + 1 → ((pairs (P.drop (i + 1))).filter fun i => inC (hasW a i.1) (hasW b i.1) w).foldl mkS r' = ((pairs P).filter fun i => inC (hasW a i.1) (hasW b i.1) w).foldl mkS [] →
          i + 1 ≤ P.length ∧ r'.length ≤ i + 1 ∧ ((pairs (P.drop (i + 1))).filter fun i => inC (hasW a i.1) (hasW b i.1) w).foldl mkS r' = ((pairs P).filter fun i => inC (hasW a i.1) (hasW b i.1) w).foldl mkS [] := fun _ h1 h2 => ⟨by omega, h1, h2⟩
      generalize P[i] = x at *
      generalize P[i + 1] = y at *
      dsimp only at g3
      cases hin : inC (hasW a x) (hasW b x) w
      · rw [hin] at f3
        rw [if_neg (by rw [hin]; decide)] at g3
        have hc := Nat.zero_add 0
        repeat' (first | simp only [hc, AS, NX, NPV, SX, HX, l1, e1, e2, c1, nn, nn1, hN1, w1, f3, ZZ, simprocAttr, ↓reduceIte] | refine Zi ?_ | refine Zj ?_)
        exact lp_next (i + 1, r) (Wk.sub' (by simp [subT, look]) rfl) (next r (by omega) g3) (by dsimp only; omega)
      rw [hin] at f3
      rw [if_pos hin, List.foldl_cons] at g3
      cases r with
      | nil =>
        have hm1 : IntKind.i64.wrap (-1) = -1 := by decide
        have hc := Nat.zero_add 0
        repeat' (first | simp only [hc, AS, NX, NPV, SX, HX, l1, e1, e2, c1, nn, nn1, hN1, w1, f3, hm1, Int.toNat_natCast, List.reverse_nil, List.length_nil, ZZ, simprocAttr, ↓reduceIte] | refine Zi ?_ )
        exact lp_next (i + 1, [(x, y)]) (Wk.sub' (by simp [subT, look]) (by simp [rowIC])) (next [(x, y)] (by simp) g3) (by dsimp only; omega)
      | cons p r =>
        obtain ⟨c, e⟩ := p
        have hO : ((c, e) :: r).reverse = r.reverse ++ [(c, e)] := List.reverse_cons
        have hOl : (r.reverse ++ [(c, e)]).length = r.length + 1 := by simp
        rw [hO]
        have hrl : r.length + 1 ≤ i := g2
        have hy : (r.reverse ++ [(c, e)])[r.length]? = some (c, e) := by simp
        have q2 : IntKind.i64.wrap (((r.reverse ++ [(c, e)]).length : Int) - 1) = (r.length : Int) := by
          rw [wI (by omega) (by omega)]; omega
        have q1 : ((r.length : Int) ≥ 0) = True := eq_true (by omega)
        have q3 : ((r.length : Int) < ((r.reverse ++ [(c, e)]).length : Int)) = True := eq_true (by omega)
        have q5 : (icd (r.reverse ++ [(c, e)]))[r.length * 2 + 1]? = some (.d (.int .i64 e)) := fm_cell rowIC_len hy (by decide)
        by_cases hex : e = x
        · have hm : mkS ((c, e) :: r) (x, y) = (c, y) :: r := if_pos hex
          rw [hm] at g3
          have q7 : ∀ h z, stP h 0 (r.length * 2 + 1) (r.reverse ++ [(c, e)]).length 2 (icd (r.reverse ++ [(c, e)])) (some [.d (.int .i64 z)]) (some 1) = some (h.set 0 (.tok (r.reverse ++ [(c, e)]).length 2 (some (icd (r.reverse ++ [(c, z)]))))) := fun h z => by
            rw [stP_fm (x' := (c, z)) rowIC_len hy (by decide) rfl]
            simp
          have hex' := eq_true hex
          have hc := Nat.zero_add 0
          repeat' (first | simp only [hc, AS, NX, NPV, SX, HX, l1, e1, e2, c1, nn, nn1, hN1, w1, f3, q1, q2, q3, q5, q7, hex', Int.toNat_natCast, ZZ, simprocAttr, ↓reduceIte] | refine Zi ?_ )
          exact lp_next (i + 1, (c, y) :: r) (Wk.sub' (by simp [subT, look]) (by simp)) (next ((c, y) :: r) (by simp; omega) g3) (by dsimp only; omega)
        have hm : mkS ((c, e) :: r) (x, y) = (x, y) :: (c, e) :: r := if_neg hex
        rw [hm] at g3
        have hex' := eq_false hex
        have hb1 : (((r.reverse ++ [(c, e)]).length + 1) * 16 ≤ 140737488355328) = True := eq_true (by omega)
        have hb2 : ((r.reverse ++ [(c, e)]).length + 1 ≤ 4611686018427387904) = True := eq_true (by omega)
        have hsn : icd (r.reverse ++ [(c, e)]) ++ [.d (.int .i64 x), .d (.int .i64 y)] = icd (r.reverse ++ [(c, e)] ++ [(x, y)]) := (icd_snoc (x := (x, y))).symm
        have hc := Nat.zero_add 0
        repeat' (first | simp only [hc, AS, NX, NPV, SX, HX, l1, e1, e2, c1, nn, nn1, hN1, w1, f3, q1, q2, q3, q5, hex', hb1, hb2, hsn, Int.toNat_natCast, ZZ, simprocAttr, ↓reduceIte] | refine Zi ?_ )
        exact lp_next (i + 1, (x, y) :: (c, e) :: r) (Wk.sub' (by simp [subT, look]) (by simp)) (next ((x, y) :: (c, e) :: r) (by simp; omega) g3) (by dsimp only; omega)
    have c1 : ((i : Int) + 1 < (P.length : Int)) = False := eq_false (by omega)
    rw [pairs_short (by rw [List.length_drop]; omega)] at g3
    have g3 : r = ((pairs P).filter fun i => inC (hasW a i.1) (hasW b i.1) w).foldl mkS [] := g3
    rw [← g3] at h
    have hc := Nat.zero_add 0
    repeat' (first | simp only [hc, AS, NX, NPV, SX, HX, l1, c1, w1, ZZ, simprocAttr, ↓reduceIte] | refine Zi ?_ | refine Zj ?_)
    rw [← h]
    have hfr := Wk.freezeC (n := 0) (t := [(6, .v (.c (.msl 0 r.reverse.length)))]) (h := [.tok r.reverse.length 2 (some (icd r.reverse))]) 6 0 r.reverse.length 2 (icd r.reverse) _ (by simp [look]) rfl (icd_allD _)
    rw [chunk_enc] at hfr
    exact ⟨_, (Wk.sub' (by simp [subT, look]) rfl).trans hfr, rfl⟩
  cases h
theorem r5comb_at {f g : Bool} {a b : List Iv} {w : Int} (h1 : a.length ≤ 100000000) (h2 : b.length ≤ 100000000) : r5comb_m [.c (.sl f (a.map rwI)), .c (.sl g (b.map rwI)), .c (.int .i64 w)] = some [.c (.sl false ((combF a b w).map rwI))] := by
  have := mE_eq encVVi_inj (g := fun p => if twoW p.1 then some [DV.c (.sl false ((combF p.1.1.2 p.1.2.2 p.2).map rwI))] else none) (a := (((f, a), g, b), w))
  exact this.trans (if_pos ⟨h1, h2⟩)
theorem r5minus_ok : PureC Tryz.prog Gt 74 r5minus_m := by
  refine pure_of_awpS (X := ctx Tryz.prog Gt [(118, r5comb_m)]) Tryz.func74 rfl rfl (by kernel_rfl) (by kernel_rfl) (AllOk.cons r5comb_ok AllOk.nil).kok ?_
  intro args r h0
  obtain ⟨⟨⟨f, a⟩, g, b⟩, rfl, h⟩ := mE_inv h0
  refine ⟨Nat.le_of_ble_eq_true rfl, ?_⟩
  split at h
  · rename_i hl
    obtain ⟨h1, h2⟩ := hl
    dsimp only at h1 h2 h
    simp only [Option.some.injEq] at h
    have f1 := @r5comb_at f g a b 3 h1 h2
    rw [minus_same] at f1
    have hc := Nat.zero_add 0
    repeat' (first | simp only [hc, AS, Tryz.f74, encVV, SX, f1, ZZ, simprocAttr, ↓reduceIte] | refine Zi ?_ )
    rw [← h]
  cases h
theorem r5minus_at {f g : Bool} {a b : List Iv} (h1 : a.length ≤ 100000000) (h2 : b.length ≤ 100000000) : r5minus_m [.c (.sl f (a.map rwI)), .c (.sl g (b.map rwI))] = some [.c (.sl false ((minusJ a b).map rwI))] := by
  have := mE_eq encVV_inj (g := fun p => if twoW p then some [DV.c (.sl false ((minusJ p.1.2 p.2.2).map rwI))] else none) (a := ((f, a), g, b))
  exact this.trans (if_pos ⟨h1, h2⟩)
theorem r5same_ok : PureC Tryz.prog Gt 34 r5same_m := by
  refine pure_of_awpS (X := ctx Tryz.prog Gt []) Tryz.func34 rfl rfl (by kernel_rfl) (by kernel_rfl) AllOk.nil.kok ?_
  intro args r h0
  obtain ⟨⟨⟨f, l⟩, g, k⟩, rfl, h⟩ := mE_inv h0
  refine ⟨Nat.le_of_ble_eq_true rfl, ?_⟩
  split at h
  · rename_i hl
    have hlen := of_decide_eq_true hl
    dsimp only at hlen h
    simp only [Option.some.injEq] at h
    by_cases hlk : l.length = k.length
    · have h1 : ((l.map rwI).length : Int) = l.length := by simp
      have h2 : ((k.map rwI).length : Int) = l.length := by simp [hlk]
      have hc := Nat.zero_add 0
      repeat' (first | simp only [hc, AS, Tryz.f34, encVV, SX, h1, h2, ZZ, simprocAttr, ↓reduceIte] | refine Zi ?_ )
      refine awpS_loop (σ := Nat) (fun j => j ≤ l.length ∧ l.take j = k.take j) (fun j => ⟨[(5, AV.i j), (0, AV.d (.sl f (l.map rwI))), (1, AV.d (.sl g (k.map rwI)))], []⟩) (fun j => l.length - j) 0 (Wk.sub' (by simp [subT, look]) rfl) (by simp) ?_
      rintro j ⟨hj, hjt⟩
      by_cases hjl : j < l.length
      · have e1 := iv_at hjl
        have hjk : j < k.length := by omega
        have e2 := iv_at hjk
        have hlt : ((j : Int) < (l.length : Int)) = True := eq_true (by omega)
        have hw := wI (n := (j : Int) + 1) (by omega) (by omega)
        by_cases hxy : l[j] = k[j]
        · have htk : l.take (j + 1) = k.take (j + 1) := by rw [List.take_succ_eq_append_getElem hjl, List.take_succ_eq_append_getElem hjk, hjt, hxy]
          rw [← hxy] at e2
          generalize l[j] = x at *
          obtain ⟨u, v⟩ := x
          dsimp only at e1 e2
          have hc := Nat.zero_add 0
          repeat' (first | simp only [hc, AS, SX, NW, h1, h2, e1, e2, nn, hlt, hw, allD_cons, allD_nil, Option.bind_some, fits_nil, fits_i, ZZ, simprocAttr, ↓reduceIte] | refine Zi ?_ )
          exact lp_next (j + 1) (Wk.sub' (by simp [subT, look]) rfl) ⟨by omega, htk⟩ (by omega)
        have hne : ¬ l = k := fun e => by subst e; exact hxy rfl
        generalize l[j] = x at *
        generalize k[j] = y at *
        obtain ⟨u, v⟩ := x
        obtain ⟨u', v'⟩ := y
        dsimp only at e1 e2
        have hb : (u == u' && (v == v' && true)) = false := by
          by_cases e : u = u'
          · by_cases e' : v = v'
            · exact absurd (by rw [e, e']) hxy
            simp [e']
          simp [e]
        have hc := Nat.zero_add 0
        repeat' (first | simp only [hc, AS, SX, NW, h1, h2, e1, e2, nn, hlt, hw, allD_cons, allD_nil, Option.bind_some, fits_nil, fits_i, hb, ZZ, simprocAttr, ↓reduceIte] | refine Zi ?_ )
        rw [← h]
        simp [DV.b, hne]
      have hlt : ((j : Int) < (l.length : Int)) = False := eq_false (by omega)
      have he : l = k := by
        have e := hjt
        rwa [List.take_of_length_le (by omega), List.take_of_length_le (by omega)] at e
      have hc := Nat.zero_add 0
      repeat' (first | simp only [hc, AS, SX, h1, h2, hlt, ZZ, simprocAttr, ↓reduceIte] | refine Zi ?_ | refine Zj ?_)
      rw [← h]
      simp [DV.b, he]
    have h1 : ((l.map rwI).length : Int) = l.length := by simp
    have h2 : ((k.map rwI).length : Int) = k.length := by simp
    have h3 : ((l.length : Int) = (k.length : Int)) = False := eq_false (by omega)
    have hne : ¬ l = k := fun e => hlk (by rw [e])
    have hc := Nat.zero_add 0
    repeat' (first | simp only [hc, AS, Tryz.f34, encVV, SX, h1, h2, h3, ZZ, simprocAttr, ↓reduceIte] | refine Zi ?_ )
    rw [← h]
    simp [DV.b, hne]
  cases h
theorem r5same_at {f g : Bool} {a b : List Iv} (h : a.length ≤ 1000000000) : r5same_m [.c (.sl f (a.map rwI)), .c (.sl g (b.map rwI))] = some [.b (decide (a = b))] := by
  have := mE_eq encVV_inj (g := fun p => if decide (p.1.2.length ≤ 1000000000) = true then some [DV.b (decide (p.1.2 = p.2.2))] else none) (a := ((f, a), g, b))
  exact this.trans (if_pos (decide_eq_true h))
end
end Go.Ab
