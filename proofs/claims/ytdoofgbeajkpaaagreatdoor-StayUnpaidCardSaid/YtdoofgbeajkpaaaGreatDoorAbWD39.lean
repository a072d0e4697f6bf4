/-
  Texts of the layer and of the laws, put together: AbJ11, AbJ12.
-/
import Derived.Test.YtdoofgbeajkpaaaGreatDoorAbWD38
set_option linter.unusedSimpArgs false
set_option linter.unusedVariables false
set_option maxRecDepth 100000
namespace Go.Ab
open Go.RowKit Go.Proofs
def clip (i v : Iv) : Iv := (max i.1 v.1, min i.2 v.2)
def rallowF (p : Pmt) (s : List UInt8) (i : Iv) : Option (List Iv) × Int :=
  if daysErr i ≠ 0 then (none, daysErr i) else if listB p s = false ∨ ivOk p.v = false then (none, 0) else if (clip i p.v).2 ≤ (clip i p.v).1 then (none, 0)
  else (some (withF p.hrs (clip i p.v)), 0)
def rstepC (s n : List UInt8) (i : Iv) (o : Option (List Iv)) (p : Pmt) : Option (List Iv) := if p.zone = n then some (joinR (o.getD []) ((rallowF p s i).1.getD [])) else o
def rcovF (l : List Pmt) (s n : List UInt8) (i : Iv) : Option (List Iv) × Int := if daysErr i ≠ 0 then (none, daysErr i) else (l.foldl (rstepC s n i) none, 0)
theorem mrgI_len {a b : List Iv} : (mrgI a b).length = a.length + b.length := by rw [mrgI_perm.length_eq, List.length_append]
theorem joinR_len {a b : List Iv} : (joinR a b).length ≤ a.length + b.length := by
  have := @foldM_len (mrgI a b) []
  rw [mrgI_len] at this
  rw [joinR, List.length_reverse]
  simpa using this
theorem mrg_left {a b : List Iv} {i k : Nat} (hi : i < a.length) (h : b.length ≤ k ∨ ∃ h : k < b.length, a[i].1 ≤ b[k].1) : mrgI (a.drop i) (b.drop k) = a[i] :: mrgI (a.drop (i + 1)) (b.drop k) := by
  rw [drop_cons hi]
  rcases h with h | ⟨hk, h⟩
  · rw [List.drop_of_length_le h, mrgI_nil', mrgI_nil']
  rw [drop_cons hk, mrgI_cons, if_pos h]
theorem mrg_right {a b : List Iv} {i k : Nat} (hk : k < b.length) (h : a.length ≤ i ∨ ∃ h : i < a.length, ¬ a[i].1 ≤ b[k].1) : mrgI (a.drop i) (b.drop k) = b[k] :: mrgI (a.drop i) (b.drop (k + 1)) := by
  rcases h with h | ⟨hi, h⟩
  · rw [List.drop_of_length_le h, mrgI_nil, mrgI_nil, drop_cons hk]
  rw [drop_cons hk, drop_cons hi, mrgI_cons, if_neg h]
noncomputable section
open Classical
def r9join_m : List PA → Option (List PA) := mE encVV fun p => if twoW p then some [.c (.sl false ((joinR p.1.2 p.2.2).map rwI))] else none
set_option maxHeartbeats 2000000 in
theorem r9join_ok : PureC Tryz.prog Gt 117 r9join_m := by
  refine pure_of_awpSW (X := ctxN Tryz.prog Gt [] [] [] none) Tryz.func117 rfl rfl (by kernel_rfl) (by kernel_rfl) (kok_n AllOk.nil AllK.nil AllN.nil) ?_
  intro args r h0
  obtain ⟨⟨⟨f, a⟩, g, b⟩, rfl, h⟩ := mE_inv h0
  refine ⟨Nat.le_of_ble_eq_true rfl, ?_⟩
  split at h
  · rename_i hl
    obtain ⟨h1, h2⟩ := hl
    dsimp only at h1 h2 h
    simp only [Option.some.injEq, joinR] at h
    have l1 := @lenIv a
    have l2 := @lenIv b
    have hc := Nat.zero_add 0
    repeat' (first | simp only [hc, AS, Tryz.f117, encVV, NX, NPV, SX, ZZ, simprocAttr, ↓reduceIte] | refine Zi ?_ )
    refine awpS_loop (σ := Nat × Nat × List Iv) (fun p => p.1 ≤ a.length ∧ p.2.1 ≤ b.length ∧ p.2.2.length ≤ p.1 + p.2.1 ∧ (mrgI (a.drop p.1) (b.drop p.2.1)).foldl mkM p.2.2 = (mrgI a b).foldl mkM [])
      (fun p => ⟨[(6, AV.i p.1), (7, AV.i p.2.1), (5, .v (.c (.msl 0 p.2.2.reverse.length))), (0, AV.d (.sl f (a.map rwI))), (1, AV.d (.sl g (b.map rwI)))], [.tok p.2.2.reverse.length 2 (some (icd p.2.2.reverse))]⟩)
      (fun p => a.length - p.1 + (b.length - p.2.1)) (0, 0, []) ((Wk.msl 5 2 (by decide) (by simp [look])).trans (Wk.sub' (by simp [subT, look]) rfl)) ⟨Nat.zero_le _, Nat.zero_le _, by simp, rfl⟩ ?_
    rintro ⟨i, k, r⟩ ⟨g1, g2, g3, g4⟩
    dsimp only at g1 g2 g3 g4 ⊢
    have w1 := wI (n := (i : Int) + 1) (by omega) (by omega)
    have w2 := wI (n := (k : Int) + 1) (by omega) (by omega)
    by_cases hdone : a.length ≤ i ∧ b.length ≤ k
    · have c1 : ((i : Int) < (a.length : Int)) = False := eq_false (by omega)
      have c2 : ((k : Int) < (b.length : Int)) = False := eq_false (by omega)
      rw [List.drop_of_length_le hdone.1, List.drop_of_length_le hdone.2, mrgI_nil] at g4
      have g4 : r = (mrgI a b).foldl mkM [] := g4
      rw [← g4] at h
      have hc := Nat.zero_add 0
      repeat' (first | simp only [hc, AS, NX, NPV, SX, HX, l1, l2, c1, c2, ZZ, simprocAttr, ↓reduceIte] | refine Zi ?_ | refine Zj ?_)
      rw [← h]
      have hfr := Wk.freezeC (n := 0) (t := [(4, .v (.c (.msl 0 r.reverse.length)))]) (h := [.tok r.reverse.length 2 (some (icd r.reverse))]) 4 0 r.reverse.length 2 (icd r.reverse) _ (by simp [look]) rfl (icd_allD _)
      rw [chunk_enc] at hfr
      exact ⟨_, (Wk.sub' (by simp [subT, look]) rfl).trans hfr, rfl⟩
    by_cases hleft : i < a.length ∧ (b.length ≤ k ∨ ∃ (h : i < a.length) (h' : k < b.length), a[i].1 ≤ b[k].1)
    · obtain ⟨hi, hlf⟩ := hleft
      have e1 := iv_at hi
      have c1 : ((i : Int) < (a.length : Int)) = True := eq_true (by omega)
      rw [mrg_left hi (hlf.imp id fun ⟨_, h2, h3⟩ => ⟨h2, h3⟩), List.foldl_cons] at g4
      have next : ∀ r', r'.length ≤ r.length + 1 → (mrgI (a.drop (i + 1)) (b.drop k)).foldl mkM r' = (mrgI a b).foldl mkM [] →
          i + 1 ≤ a.length ∧ k ≤ b.length ∧ r'.length ≤ i + 1 + k ∧ (mrgI (a.drop (i + 1)) (b.drop k)).foldl mkM r' = (mrgI a b).foldl mkM [] := fun _ h1 h2 => ⟨by omega, g2, by omega, h2⟩
      by_cases hk : k < b.length
      · have c2 : ((k : Int) < (b.length : Int)) = True := eq_true (by omega)
        have c3 : ((k : Int) ≥ (b.length : Int)) = False := eq_false (by omega)
        have e2 := iv_at hk
        have hab : a[i].1 ≤ b[k].1 := hlf.elim (fun h => absurd hk (by omega)) fun ⟨_, _, h⟩ => h
        generalize a[i] = x at *
        generalize b[k] = y at *
        obtain ⟨x1, x2⟩ := x
        obtain ⟨y1, y2⟩ := y
        dsimp only at e1 e2 hab
        have hab' := eq_true hab
        cases r with
        | nil =>
          have hc := Nat.zero_add 0
          repeat' (first | simp only [hc, AS, NX, NPV, SX, HX, l1, l2, nn, w1, w2, Int.toNat_natCast, c1, c2, c3, e1, e2, hab', List.reverse_nil, List.length_nil, ZZ, simprocAttr, ↓reduceIte] | refine Zi ?_ )
          refine lp_next (i + 1, k, [(x1, x2)]) ?_ (next [(x1, x2)] (by simp) g4) (by dsimp only; omega)
          exact Wk.cutk (k := 1) (by decide) (by simp) (by simp [rowIC]) (by simp [subT, look]) (by simp [AV.low, V.low, C1.low]) (by simp only [List.all_cons, List.all_nil, tokI_low, Bool.and_self])
        | cons p r =>
          obtain ⟨p1, p2⟩ := p
          have hO : ((p1, p2) :: r).reverse = r.reverse ++ [(p1, p2)] := List.reverse_cons
          have hOl : (r.reverse ++ [(p1, p2)]).length = r.length + 1 := by simp
          rw [hO]
          have hql : r.length + 1 ≤ i + k := g3
          have hyy : (r.reverse ++ [(p1, p2)])[r.length]? = some (p1, p2) := by simp
          have q2 : IntKind.i64.wrap (((r.reverse ++ [(p1, p2)]).length : Int) - 1) = (r.length : Int) := by
            rw [wI (by omega) (by omega)]; omega
          have q1 : (((r.reverse ++ [(p1, p2)]).length : Int) = 0) = False := eq_false (by omega)
          have q3 : ((r.length : Int) < ((r.reverse ++ [(p1, p2)]).length : Int)) = True := eq_true (by omega)
          have q5 : (icd (r.reverse ++ [(p1, p2)]))[r.length * 2 + 1]? = some (.d (.int .i64 p2)) := fm_cell rowIC_len hyy (by decide)
          by_cases m1 : p2 < x1
          · have m1' := eq_true m1
            have hm : mkM ((p1, p2) :: r) (x1, x2) = (x1, x2) :: (p1, p2) :: r := if_neg (by dsimp only; omega)
            rw [hm] at g4
            have hb1 : (((r.reverse ++ [(p1, p2)]).length + 1) * 16 ≤ 140737488355328) = True := eq_true (by omega)
            have hb2 : ((r.reverse ++ [(p1, p2)]).length + 1 ≤ 4611686018427387904) = True := eq_true (by omega)
            have hsn : icd (r.reverse ++ [(p1, p2)]) ++ [.d (.int .i64 x1), .d (.int .i64 x2)] = icd (r.reverse ++ [(p1, p2)] ++ [(x1, x2)]) := (icd_snoc (x := (x1, x2))).symm
            have hc := Nat.zero_add 0
            repeat' (first | simp only [hc, AS, NX, NPV, SX, HX, l1, l2, nn, w1, w2, Int.toNat_natCast, c1, c2, c3, e1, e2, hab', q1, q2, q3, q5, m1', hb1, hb2, hsn, ZZ, simprocAttr, ↓reduceIte] | refine Zi ?_ )
            refine lp_next (i + 1, k, (x1, x2) :: (p1, p2) :: r) ?_ (next ((x1, x2) :: (p1, p2) :: r) (by simp) g4) (by dsimp only; omega)
            exact Wk.cutk (k := 1) (by decide) (by simp) (by simp) (by simp [subT, look]) (by simp [AV.low, V.low, C1.low]) (by simp only [List.all_cons, List.all_nil, tokI_low, Bool.and_self])
          have m1' := eq_false m1
          by_cases m2 : p2 < x2
          · have m2' := eq_true m2
            have hm : mkM ((p1, p2) :: r) (x1, x2) = (p1, x2) :: r := by
              rw [show mkM ((p1, p2) :: r) (x1, x2) = (p1, max p2 x2) :: r from if_pos (by dsimp only; omega), show max p2 x2 = x2 by omega]
            rw [hm] at g4
            have q7 : ∀ h z, stP h 0 (r.length * 2 + 1) (r.reverse ++ [(p1, p2)]).length 2 (icd (r.reverse ++ [(p1, p2)])) (some [.d (.int .i64 z)]) (some 1) = some (h.set 0 (.tok (r.reverse ++ [(p1, p2)]).length 2 (some (icd (r.reverse ++ [(p1, z)]))))) := fun h z => by
              rw [stP_fm (x' := (p1, z)) rowIC_len hyy (by decide) rfl]
              simp
            have hc := Nat.zero_add 0
            repeat' (first | simp only [hc, AS, NX, NPV, SX, HX, l1, l2, nn, w1, w2, Int.toNat_natCast, c1, c2, c3, e1, e2, hab', q1, q2, q3, q5, q7, m1', m2', ZZ, simprocAttr, ↓reduceIte] | refine Zi ?_ )
            refine lp_next (i + 1, k, (p1, x2) :: r) ?_ (next ((p1, x2) :: r) (by simp) g4) (by dsimp only; omega)
            exact Wk.cutk (k := 1) (by decide) (by simp) (by simp) (by simp [subT, look]) (by simp [AV.low, V.low, C1.low]) (by simp only [List.all_cons, List.all_nil, tokI_low, Bool.and_self])
          have m2' := eq_false m2
          have hm : mkM ((p1, p2) :: r) (x1, x2) = (p1, p2) :: r := by
            rw [show mkM ((p1, p2) :: r) (x1, x2) = (p1, max p2 x2) :: r from if_pos (by dsimp only; omega), show max p2 x2 = p2 by omega]
          rw [hm] at g4
          have hc := Nat.zero_add 0
          repeat' (first | simp only [hc, AS, NX, NPV, SX, HX, l1, l2, nn, w1, w2, Int.toNat_natCast, c1, c2, c3, e1, e2, hab', q1, q2, q3, q5, m1', m2', ZZ, simprocAttr, ↓reduceIte] | refine Zi ?_ )
          refine lp_next (i + 1, k, (p1, p2) :: r) ?_ (next ((p1, p2) :: r) (by simp) g4) (by dsimp only; omega)
          exact Wk.cutk (k := 1) (by decide) (by simp) (by simp) (by simp [subT, look]) (by simp [AV.low, V.low, C1.low]) (by simp only [List.all_cons, List.all_nil, tokI_low, Bool.and_self])
      have c2 : ((k : Int) < (b.length : Int)) = False := eq_false (by omega)
      have c3 : ((k : Int) ≥ (b.length : Int)) = True := eq_true (by omega)
      clear hlf
      generalize a[i] = x at *
      obtain ⟨x1, x2⟩ := x
      dsimp only at e1
      cases r with
      | nil =>
        have hc := Nat.zero_add 0
        repeat' (first | simp only [hc, AS, NX, NPV, SX, HX, l1, l2, nn, w1, w2, Int.toNat_natCast, c1, c2, c3, e1, List.reverse_nil, List.length_nil, ZZ, simprocAttr, ↓reduceIte] | refine Zi ?_ )
        refine lp_next (i + 1, k, [(x1, x2)]) ?_ (next [(x1, x2)] (by simp) g4) (by dsimp only; omega)
        exact Wk.cutk (k := 1) (by decide) (by simp) (by simp [rowIC]) (by simp [subT, look]) (by simp [AV.low, V.low, C1.low]) (by simp only [List.all_cons, List.all_nil, tokI_low, Bool.and_self])
      | cons p r =>
        obtain ⟨p1, p2⟩ := p
        have hO : ((p1, p2) :: r).reverse = r.reverse ++ [(p1, p2)] := List.reverse_cons
        have hOl : (r.reverse ++ [(p1, p2)]).length = r.length + 1 := by simp
        rw [hO]
        have hql : r.length + 1 ≤ i + k := g3
        have hyy : (r.reverse ++ [(p1, p2)])[r.length]? = some (p1, p2) := by simp
        have q2 : IntKind.i64.wrap (((r.reverse ++ [(p1, p2)]).length : Int) - 1) = (r.length : Int) := by
          rw [wI (by omega) (by omega)]; omega
        have q1 : (((r.reverse ++ [(p1, p2)]).length : Int) = 0) = False := eq_false (by omega)
        have q3 : ((r.length : Int) < ((r.reverse ++ [(p1, p2)]).length : Int)) = True := eq_true (by omega)
        have q5 : (icd (r.reverse ++ [(p1, p2)]))[r.length * 2 + 1]? = some (.d (.int .i64 p2)) := fm_cell rowIC_len hyy (by decide)
        by_cases m1 : p2 < x1
        · have m1' := eq_true m1
          have hm : mkM ((p1, p2) :: r) (x1, x2) = (x1, x2) :: (p1, p2) :: r := if_neg (by dsimp only; omega)
          rw [hm] at g4
          have hb1 : (((r.reverse ++ [(p1, p2)]).length + 1) * 16 ≤ 140737488355328) = True := eq_true (by omega)
          have hb2 : ((r.reverse ++ [(p1, p2)]).length + 1 ≤ 4611686018427387904) = True := eq_true (by omega)
          have hsn : icd (r.reverse ++ [(p1, p2)]) ++ [.d (.int .i64 x1), .d (.int .i64 x2)] = icd (r.reverse ++ [(p1, p2)] ++ [(x1, x2)]) := (icd_snoc (x := (x1, x2))).symm
          have hc := Nat.zero_add 0
          repeat' (first | simp only [hc, AS, NX, NPV, SX, HX, l1, l2, nn, w1, w2, Int.toNat_natCast, c1, c2, c3, e1, q1, q2, q3, q5, m1', hb1, hb2, hsn, ZZ, simprocAttr, ↓reduceIte] | refine Zi ?_ )
          refine lp_next (i + 1, k, (x1, x2) :: (p1, p2) :: r) ?_ (next ((x1, x2) :: (p1, p2) :: r) (by simp) g4) (by dsimp only; omega)
          exact Wk.cutk (k := 1) (by decide) (by simp) (by simp) (by simp [subT, look]) (by simp [AV.low, V.low, C1.low]) (by simp only [List.all_cons, List.all_nil, tokI_low, Bool.and_self])
        have m1' := eq_false m1
        by_cases m2 : p2 < x2
        · have m2' := eq_true m2
          have hm : mkM ((p1, p2) :: r) (x1, x2) = (p1, x2) :: r := by
            rw [show mkM ((p1, p2) :: r) (x1, x2) = (p1, max p2 x2) :: r from if_pos (by dsimp only; omega), show max p2 x2 = x2 by omega]
          rw [hm] at g4
          have q7 : ∀ h z, stP h 0 (r.length * 2 + 1) (r.reverse ++ [(p1, p2)]).length 2 (icd (r.reverse ++ [(p1, p2)])) (some [.d (.int .i64 z)]) (some 1) = some (h.set 0 (.tok (r.reverse ++ [(p1, p2)]).length 2 (some (icd (r.reverse ++ [(p1, z)]))))) := fun h z => by
            rw [stP_fm (x' := (p1, z)) rowIC_len hyy (by decide) rfl]
            simp
          have hc := Nat.zero_add 0
          repeat' (first | simp only [hc, AS, NX, NPV, SX, HX, l1, l2, nn, w1, w2, Int.toNat_natCast, c1, c2, c3, e1, q1, q2, q3, q5, q7, m1', m2', ZZ, simprocAttr, ↓reduceIte] | refine Zi ?_ )
          refine lp_next (i + 1, k, (p1, x2) :: r) ?_ (next ((p1, x2) :: r) (by simp) g4) (by dsimp only; omega)
          exact Wk.cutk (k := 1) (by decide) (by simp) (by simp) (by simp [subT, look]) (by simp [AV.low, V.low, C1.low]) (by simp only [List.all_cons, List.all_nil, tokI_low, Bool.and_self])
        have m2' := eq_false m2
        have hm : mkM ((p1, p2) :: r) (x1, x2) = (p1, p2) :: r := by
          rw [show mkM ((p1, p2) :: r) (x1, x2) = (p1, max p2 x2) :: r from if_pos (by dsimp only; omega), show max p2 x2 = p2 by omega]
        rw [hm] at g4
        have hc := Nat.zero_add 0
        repeat' (first | simp only [hc, AS, NX, NPV, SX, HX, l1, l2, nn, w1, w2, Int.toNat_natCast, c1, c2, c3, e1, q1, q2, q3, q5, m1', m2', ZZ, simprocAttr, ↓reduceIte] | refine Zi ?_ )
        refine lp_next (i + 1, k, (p1, p2) :: r) ?_ (next ((p1, p2) :: r) (by simp) g4) (by dsimp only; omega)
        exact Wk.cutk (k := 1) (by decide) (by simp) (by simp) (by simp [subT, look]) (by simp [AV.low, V.low, C1.low]) (by simp only [List.all_cons, List.all_nil, tokI_low, Bool.and_self])
    have hk : k < b.length := by
      apply Nat.lt_of_not_le
      intro h'
      exact hleft ⟨by omega, .inl h'⟩
    have e2 := iv_at hk
    have c2 : ((k : Int) < (b.length : Int)) = True := eq_true (by omega)
    have c3 : ((k : Int) ≥ (b.length : Int)) = False := eq_false (by omega)
    have hrt : a.length ≤ i ∨ ∃ h : i < a.length, ¬ a[i].1 ≤ b[k].1 := by
      by_cases hi : i < a.length
      · exact .inr ⟨hi, fun h' => hleft ⟨hi, .inr ⟨hi, hk, h'⟩⟩⟩
      exact .inl (by omega)
    rw [mrg_right hk hrt, List.foldl_cons] at g4
    have next : ∀ r', r'.length ≤ r.length + 1 → (mrgI (a.drop i) (b.drop (k + 1))).foldl mkM r' = (mrgI a b).foldl mkM [] →
        i ≤ a.length ∧ k + 1 ≤ b.length ∧ r'.length ≤ i + (k + 1) ∧ (mrgI (a.drop i) (b.drop (k + 1))).foldl mkM r' = (mrgI a b).foldl mkM [] := fun _ h1 h2 => ⟨g1, by omega, by omega, h2⟩
    clear hleft
    by_cases hi : i < a.length
    · have c1 : ((i : Int) < (a.length : Int)) = True := eq_true (by omega)
      have e1 := iv_at hi
      have hab : ¬ a[i].1 ≤ b[k].1 := hrt.elim (fun h => absurd hi (by omega)) fun ⟨_, h⟩ => h
      clear hrt
      generalize a[i] = z at *
      generalize b[k] = x at *
      obtain ⟨z1, z2⟩ := z
      obtain ⟨x1, x2⟩ := x
      dsimp only at e1 e2 hab
      have hab' := eq_false hab
      cases r with
      | nil =>
        have hc := Nat.zero_add 0
        repeat' (first | simp only [hc, AS, NX, NPV, SX, HX, l1, l2, nn, w1, w2, Int.toNat_natCast, c1, c2, c3, e1, e2, hab', List.reverse_nil, List.length_nil, ZZ, simprocAttr, ↓reduceIte] | refine Zi ?_ )
        refine lp_next (i, k + 1, [(x1, x2)]) ?_ (next [(x1, x2)] (by simp) g4) (by dsimp only; omega)
        exact Wk.cutk (k := 1) (by decide) (by simp) (by simp [rowIC]) (by simp [subT, look]) (by simp [AV.low, V.low, C1.low]) (by simp only [List.all_cons, List.all_nil, tokI_low, Bool.and_self])
      | cons p r =>
        obtain ⟨p1, p2⟩ := p
        have hO : ((p1, p2) :: r).reverse = r.reverse ++ [(p1, p2)] := List.reverse_cons
        have hOl : (r.reverse ++ [(p1, p2)]).length = r.length + 1 := by simp
        rw [hO]
        have hql : r.length + 1 ≤ i + k := g3
        have hyy : (r.reverse ++ [(p1, p2)])[r.length]? = some (p1, p2) := by simp
        have q2 : IntKind.i64.wrap (((r.reverse ++ [(p1, p2)]).length : Int) - 1) = (r.length : Int) := by
          rw [wI (by omega) (by omega)]; omega
        have q1 : (((r.reverse ++ [(p1, p2)]).length : Int) = 0) = False := eq_false (by omega)
        have q3 : ((r.length : Int) < ((r.reverse ++ [(p1, p2)]).length : Int)) = True := eq_true (by omega)
        have q5 : (icd (r.reverse ++ [(p1, p2)]))[r.length * 2 + 1]? = some (.d (.int .i64 p2)) := fm_cell rowIC_len hyy (by decide)
        by_cases m1 : p2 < x1
        · have m1' := eq_true m1
          have hm : mkM ((p1, p2) :: r) (x1, x2) = (x1, x2) :: (p1, p2) :: r := if_neg (by dsimp only; omega)
          rw [hm] at g4
          have hb1 : (((r.reverse ++ [(p1, p2)]).length + 1) * 16 ≤ 140737488355328) = True := eq_true (by omega)
          have hb2 : ((r.reverse ++ [(p1, p2)]).length + 1 ≤ 4611686018427387904) = True := eq_true (by omega)
          have hsn : icd (r.reverse ++ [(p1, p2)]) ++ [.d (.int .i64 x1), .d (.int .i64 x2)] = icd (r.reverse ++ [(p1, p2)] ++ [(x1, x2)]) := (icd_snoc (x := (x1, x2))).symm
          have hc := Nat.zero_add 0
          repeat' (first | simp only [hc, AS, NX, NPV, SX, HX, l1, l2, nn, w1, w2, Int.toNat_natCast, c1, c2, c3, e1, e2, hab', q1, q2, q3, q5, m1', hb1, hb2, hsn, ZZ, simprocAttr, ↓reduceIte] | refine Zi ?_ )
          refine lp_next (i, k + 1, (x1, x2) :: (p1, p2) :: r) ?_ (next ((x1, x2) :: (p1, p2) :: r) (by simp) g4) (by dsimp only; omega)
          exact Wk.cutk (k := 1) (by decide) (by simp) (by simp) (by simp [subT, look]) (by simp [AV.low, V.low, C1.low]) (by simp only [List.all_cons, List.all_nil, tokI_low, Bool.and_self])
        have m1' := eq_false m1
        by_cases m2 : p2 < x2
        · have m2' := eq_true m2
          have hm : mkM ((p1, p2) :: r) (x1, x2) = (p1, x2) :: r := by
            rw [show mkM ((p1, p2) :: r) (x1, x2) = (p1, max p2 x2) :: r from if_pos (by dsimp only; omega), show max p2 x2 = x2 by omega]
          rw [hm] at g4
          have q7 : ∀ h z, stP h 0 (r.length * 2 + 1) (r.reverse ++ [(p1, p2)]).length 2 (icd (r.reverse ++ [(p1, p2)])) (some [.d (.int .i64 z)]) (some 1) = some (h.set 0 (.tok (r.reverse ++ [(p1, p2)]).length 2 (some (icd (r.reverse ++ [(p1, z)]))))) := fun h z => by
            rw [stP_fm (x' := (p1, z)) rowIC_len hyy (by decide) rfl]
            simp
          have hc := Nat.zero_add 0
          repeat' (first | simp only [hc, AS, NX, NPV, SX, HX, l1, l2, nn, w1, w2, Int.toNat_natCast, c1, c2, c3, e1, e2, hab', q1, q2, q3, q5, q7, m1', m2', ZZ, simprocAttr, ↓reduceIte] | refine Zi ?_ )
          refine lp_next (i, k + 1, (p1, x2) :: r) ?_ (next ((p1, x2) :: r) (by simp) g4) (by dsimp only; omega)
          exact Wk.cutk (k := 1) (by decide) (by simp) (by simp) (by simp [subT, look]) (by simp [AV.low, V.low, C1.low]) (by simp only [List.all_cons, List.all_nil, tokI_low, Bool.and_self])
        have m2' := eq_false m2
        have hm : mkM ((p1, p2) :: r) (x1, x2) = (p1, p2) :: r := by
          rw [show mkM ((p1, p2) :: r) (x1, x2) = (p1, max p2 x2) :: r from if_pos (by dsimp only; omega), show max p2 x2 = p2 by omega]
        rw [hm] at g4
        have hc := Nat.zero_add 0
        repeat' (first | simp only [hc, AS, NX, NPV, SX, HX, l1, l2, nn, w1, w2, Int.toNat_natCast, c1, c2, c3, e1, e2, hab', q1, q2, q3, q5, m1', m2', ZZ, simprocAttr, ↓reduceIte] | refine Zi ?_ )
        refine lp_next (i, k + 1, (p1, p2) :: r) ?_ (next ((p1, p2) :: r) (by simp) g4) (by dsimp only; omega)
        exact Wk.cutk (k := 1) (by decide) (by simp) (by simp) (by simp [subT, look]) (by simp [AV.low, V.low, C1.low]) (by simp only [List.all_cons, List.all_nil, tokI_low, Bool.and_self])
    have c1 : ((i : Int) < (a.length : Int)) = False := eq_false (by omega)
    clear hrt
    generalize b[k] = x at *
    obtain ⟨x1, x2⟩ := x
    dsimp only at e2
    cases r with
    | nil =>
      have hc := Nat.zero_add 0
      repeat' (first | simp only [hc, AS, NX, NPV, SX, HX, l1, l2, nn, w1, w2, Int.toNat_natCast, c1, c2, c3, e2, List.reverse_nil, List.length_nil, ZZ, simprocAttr, ↓reduceIte] | refine Zi ?_ )
      refine lp_next (i, k + 1, [(x1, x2)]) ?_ (next [(x1, x2)] (by simp) g4) (by dsimp only; omega)
      exact Wk.cutk (k := 1) (by decide) (by simp) (by simp [rowIC]) (by simp [subT, look]) (by simp [AV.low, V.low, C1.low]) (by simp only [List.all_cons, List.all_nil, tokI_low, Bool.and_self])
    | cons p r =>
      obtain ⟨p1, p2⟩ := p
      have hO : ((p1, p2) :: r).reverse = r.reverse ++ [(p1, p2)] := List.reverse_cons
      have hOl : (r.reverse ++ [(p1, p2)]).length = r.length + 1 := by simp
      rw [hO]
      have hql : r.length + 1 ≤ i + k := g3
      have hyy : (r.reverse ++ [(p1, p2)])[r.length]? = some (p1, p2) := by simp
      have q2 : IntKind.i64.wrap (((r.reverse ++ [(p1, p2)]).length : Int) - 1) = (r.length : Int) := by
        rw [wI (by omega) (by omega)]; omega
      have q1 : (((r.reverse ++ [(p1, p2)]).length : Int) = 0) = False := eq_false (by omega)
      have q3 : ((r.length : Int) < ((r.reverse ++ [(p1, p2)]).length : Int)) = True := eq_true (by omega)
      have q5 : (icd (r.reverse ++ [(p1, p2)]))[r.length * 2 + 1]? = some (.d (.int .i64 p2)) := fm_cell rowIC_len hyy (by decide)
      by_cases m1 : p2 < x1
      · have m1' := eq_true m1
        have hm : mkM ((p1, p2) :: r) (x1, x2) = (x1, x2) :: (p1, p2) :: r := if_neg (by dsimp only; omega)
        rw [hm] at g4
        have hb1 : (((r.reverse ++ [(p1, p2)]).length + 1) * 16 ≤ 140737488355328) = True := eq_true (by omega)
        have hb2 : ((r.reverse ++ [(p1, p2)]).length + 1 ≤ 4611686018427387904) = True := eq_true (by omega)
        have hsn : icd (r.reverse ++ [(p1, p2)]) ++ [.d (.int .i64 x1), .d (.int .i64 x2)] = icd (r.reverse ++ [(p1, p2)] ++ [(x1, x2)]) := (icd_snoc (x := (x1, x2))).symm
        have hc := Nat.zero_add 0
        repeat' (first | simp only [hc, AS, NX, NPV, SX, HX, l1, l2, nn, w1, w2, Int.toNat_natCast, c1, c2, c3, e2, q1, q2, q3, q5, m1', hb1, hb2, hsn, ZZ, simprocAttr, ↓reduceIte] | refine Zi ?_ )
        refine lp_next (i, k + 1, (x1, x2) :: (p1, p2) :: r) ?_ (next ((x1, x2) :: (p1, p2) :: r) (by simp) g4) (by dsimp only; omega)
        exact Wk.cutk (k := 1) (by decide) (by simp) (by simp) (by simp [subT, look]) (by simp [AV.low, V.low, C1.low]) (by simp only [List.all_cons, List.all_nil, tokI_low, Bool.and_self])
      have m1' := eq_false m1
      by_cases m2 : p2 < x2
      · have m2' := eq_true m2
        have hm : mkM ((p1, p2) :: r) (x1, x2) = (p1, x2) :: r := by
          rw [show mkM ((p1, p2) :: r) (x1, x2) = (p1, max p2 x2) :: r from if_pos (by dsimp only; omega), show max p2 x2 = x2 by omega]
        rw [hm] at g4
        have q7 : ∀ h z, stP h 0 (r.length * 2 + 1) (r.reverse ++ [(p1, p2)]).length 2 (icd (r.reverse ++ [(p1, p2)])) (some [.d (.int .i64 z)]) (some 1) = some (h.set 0 (.tok (r.reverse ++ [(p1, p2)]).length 2 (some (icd (r.reverse ++ [(p1, z)]))))) := fun h z => by
          rw [stP_fm (x' := (p1, z)) rowIC_len hyy (by decide) rfl]
          simp
        have hc := Nat.zero_add 0
        repeat' (first | simp only [hc, AS, NX, NPV, SX, HX, l1, l2, nn, w1, w2, Int.toNat_natCast, c1, c2, c3, e2, q1, q2, q3, q5, q7, m1', m2', ZZ, simprocAttr, ↓reduceIte] | refine Zi ?_ )
        refine lp_next (i, k + 1, (p1, x2) :: r) ?_ (next ((p1, x2) :: r) (by simp) g4) (by dsimp only; omega)
        exact Wk.cutk (k := 1) (by decide) (by simp) (by simp) (by simp [subT, look]) (by simp [AV.low, V.low, C1.low]) (by simp only [List.all_cons, List.all_nil, tokI_low, Bool.and_self])
      have m2' := eq_false m2
      have hm : mkM ((p1, p2) :: r) (x1, x2) = (p1, p2) :: r := by
        rw [show mkM ((p1, p2) :: r) (x1, x2) = (p1, max p2 x2) :: r from if_pos (by dsimp only; omega), show max p2 x2 = p2 by omega]
      rw [hm] at g4
      have hc := Nat.zero_add 0
      repeat' (first | simp only [hc, AS, NX, NPV, SX, HX, l1, l2, nn, w1, w2, Int.toNat_natCast, c1, c2, c3, e2, q1, q2, q3, q5, m1', m2', ZZ, simprocAttr, ↓reduceIte] | refine Zi ?_ )
      refine lp_next (i, k + 1, (p1, p2) :: r) ?_ (next ((p1, p2) :: r) (by simp) g4) (by dsimp only; omega)
      exact Wk.cutk (k := 1) (by decide) (by simp) (by simp) (by simp [subT, look]) (by simp [AV.low, V.low, C1.low]) (by simp only [List.all_cons, List.all_nil, tokI_low, Bool.and_self])
  cases h
end
end Go.Ab
namespace Go.Ab
open Go.RowKit Go.Proofs
theorem clip_ok {i v : Iv} (hi : daysErr i = 0) (hv : ivOk v = true) (h : ¬ (clip i v).2 ≤ (clip i v).1) : ivOk (clip i v) = true ∧ nDays (clip i v) ≤ 400 := by
  have h1 := days_ok hi
  have b1 := ivOk_iff.1 h1.1
  have b2 := ivOk_iff.1 hv
  have hn := h1.2
  simp only [nDays, clip] at hn h ⊢
  dsimp only [mxT] at b1 b2
  refine ⟨ivOk_iff.2 ?_, ?_⟩
  · dsimp only [mxT]
    omega
  omega
theorem withF_len {hs : List Win} {i : Iv} : (withF hs i).length ≤ 1 + 1441 * nDays i := by
  rw [withF]
  split
  · simp
  have := @withR_len hs i.1 i.2 (nDays i) (i.1 / 86400) []
  rw [List.length_reverse]
  simp only [List.length_nil] at this
  omega
theorem rallowF_len {p : Pmt} {s : List UInt8} {i : Iv} : ((rallowF p s i).1.getD []).length ≤ 600000 := by
  unfold rallowF
  split
  · simp
  rename_i he
  split
  · simp
  rename_i hl
  split
  · simp
  rename_i hc
  have := (clip_ok (by omega) (by
    apply Classical.byContradiction
    intro h
    exact hl (.inr (by simpa using h))) hc).2
  have := @withF_len p.hrs (clip i p.v)
  simp only [Option.getD_some]
  omega
theorem rcovF_len {s n : List UInt8} {i : Iv} : ∀ {l : List Pmt} {o : Option (List Iv)}, ((l.foldl (rstepC s n i) o).getD []).length ≤ (o.getD []).length + 600000 * l.length
  | [], o => by simp
  | p :: l, o => by
    have h1 := @rcovF_len s n i l (rstepC s n i o p)
    have h2 : ((rstepC s n i o p).getD []).length ≤ (o.getD []).length + 600000 := by
      unfold rstepC
      split
      · have h3 := @joinR_len (o.getD []) ((rallowF p s i).1.getD [])
        have h4 := @rallowF_len p s i
        simp only [Option.getD_some]
        omega
      omega
    rw [List.foldl_cons, List.length_cons]
    omega
noncomputable section
open Classical
theorem r9join_at {f g : Bool} {a b : List Iv} (h1 : a.length ≤ 100000000) (h2 : b.length ≤ 100000000) : r9join_m [.c (.sl f (a.map rwI)), .c (.sl g (b.map rwI))] = some [.c (.sl false ((joinR a b).map rwI))] := by
  have := mE_eq encVV_inj (g := fun p => if twoW p then some [DV.c (.sl false ((joinR p.1.2 p.2.2).map rwI))] else none) (a := ((f, a), g, b))
  exact this.trans (if_pos ⟨h1, h2⟩)
def r9allow_m : List PA → Option (List PA) := mE encPsv fun p => if p.1.1.plates.length ≤ 1000000000 ∧ p.1.1.hrs.length ≤ 1000 ∧ p.1.2.length ≤ 1000000000 then some [.c (.sl (rallowF p.1.1 p.1.2 p.2).1.isNone (((rallowF p.1.1 p.1.2 p.2).1.getD []).map rwI)), .i (rallowF p.1.1 p.1.2 p.2).2] else none
def r9cover_m : List PA → Option (List PA) := mE encPmC fun p => if pmtsOk p.1.1.2 ∧ p.1.2.1.length ≤ 1000000000 then some [.c (.sl (rcovF p.1.1.2 p.1.2.1 p.1.2.2 p.2).1.isNone (((rcovF p.1.1.2 p.1.2.1 p.1.2.2 p.2).1.getD []).map rwI)), .i (rcovF p.1.1.2 p.1.2.1 p.1.2.2 p.2).2] else none
set_option maxHeartbeats 1000000 in
theorem r9allow_ok : PureC Tryz.prog Gt 116 r9allow_m := by
  refine pure_of_awpS (X := ctx Tryz.prog Gt [(114, r6days_m), (133, r9list_m), (78, r6span_m), (115, r6with_m)]) Tryz.func116 rfl rfl (by kernel_rfl) (by kernel_rfl) (AllOk.cons r6days_ok (AllOk.cons r9list_ok (AllOk.cons r6span_ok (AllOk.cons r6with_ok AllOk.nil)))).kok ?_
  intro args r h0
  obtain ⟨⟨⟨p, s⟩, i⟩, rfl, h⟩ := mE_inv h0
  refine ⟨Nat.le_of_ble_eq_true rfl, ?_⟩
  split at h
  · rename_i hl
    dsimp only at hl h
    simp only [Option.some.injEq] at h
    have f1 := @r6days_at i
    have f2 := @r9list_at p s hl.1 hl.2.2
    have f3 := @r6span_at p.v
    have f4 := fun (h1 : daysErr i = 0) (h2 : ivOk p.v = true) (h3 : ¬ (clip i p.v).2 ≤ (clip i p.v).1) => @r6with_at p.hf p.hrs (clip i p.v) (by omega) (clip_ok h1 h2 h3).1 (clip_ok h1 h2 h3).2
    have hA : rallowF p s i = if daysErr i ≠ 0 then (none, daysErr i) else if listB p s = false ∨ ivOk p.v = false then (none, 0) else if (clip i p.v).2 ≤ (clip i p.v).1 then (none, 0) else (some (withF p.hrs (clip i p.v)), 0) := rfl
    rw [hA] at h
    clear hA
    obtain ⟨p1, p2, p3, p4, ⟨p5, p5'⟩, p6, l, p8⟩ := p
    obtain ⟨a, b⟩ := i
    dsimp only at h hl f4
    simp only [Pmt.row, rwI] at f1 f2 f3
    generalize listB _ s = L at *
    have hc : clip (a, b) (p5, p5') = (max a p5, min b p5') := rfl
    rw [hc] at h f4
    simp only [rwI] at f4
    generalize withF l (max a p5, min b p5') = T at *
    by_cases he : daysErr (a, b) = 0
    · rw [he] at f1
      rw [if_neg (by rw [he]; exact fun h => h rfl)] at h
      have f4 := f4 he
      cases hL : L
      · subst hL
        rw [if_pos (.inl rfl)] at h
        have hc := Nat.zero_add 0
        repeat' (first | simp only [hc, AS, Tryz.f116, encPsv, Pmt.row, rwI, SX, f1, f2, ZZ, simprocAttr, ↓reduceIte] | refine Zi ?_ )
        rw [← h]
        rfl
      subst hL
      cases hV : ivOk (p5, p5')
      · rw [hV] at f3
        rw [if_pos (.inr hV)] at h
        have hc := Nat.zero_add 0
        repeat' (first | simp only [hc, AS, Tryz.f116, encPsv, Pmt.row, rwI, SX, f1, f2, f3, ZZ, simprocAttr, ↓reduceIte] | refine Zi ?_ )
        rw [← h]
        rfl
      rw [hV] at f3
      rw [if_neg (by rw [hV]; rintro (h | h) <;> cases h)] at h
      have f4 := f4 hV
      have hX : (a < p5 ∧ max a p5 = p5) ∨ (¬ a < p5 ∧ max a p5 = a) := by omega
      have hY : (b > p5' ∧ min b p5' = p5') ∨ (¬ b > p5' ∧ min b p5' = b) := by omega
      rcases hX with ⟨hx, ex⟩ | ⟨hx, ex⟩ <;> rcases hY with ⟨hy, ey⟩ | ⟨hy, ey⟩
      all_goals
        rw [ex, ey] at h f4
        have hx' := hx
        have hy' := hy
        by_cases hxy : min b p5' ≤ max a p5
        · rw [ex, ey] at hxy
          have hxy' := hxy
          rw [if_pos hxy] at h
          have hc := Nat.zero_add 0
          repeat' (first | simp only [hc, AS, Tryz.f116, encPsv, Pmt.row, rwI, SX, f1, f2, f3, hx', hy', hxy', ge_iff_le, ZZ, simprocAttr, ↓reduceIte] | refine Zi ?_ )
          rw [← h]
          rfl
        rw [ex, ey] at hxy
        have hxy' := hxy
        rw [if_neg hxy] at h
        have f4 := f4 hxy
        have hc := Nat.zero_add 0
        repeat' (first | simp only [hc, AS, Tryz.f116, encPsv, Pmt.row, rwI, SX, f1, f2, f3, f4, hx', hy', hxy', ge_iff_le, ZZ, simprocAttr, ↓reduceIte] | refine Zi ?_ )
        rw [← h]
        rfl
    have he' := eq_false he
    rw [if_pos he] at h
    have hc := Nat.zero_add 0
    repeat' (first | simp only [hc, AS, Tryz.f116, encPsv, Pmt.row, rwI, SX, f1, he', ZZ, simprocAttr, ↓reduceIte] | refine Zi ?_ )
    rw [← h]
    rfl
  cases h
theorem r9allow_at {p : Pmt} {s : List UInt8} {i : Iv} (h1 : p.plates.length ≤ 1000000000) (h2 : p.hrs.length ≤ 1000) (h3 : s.length ≤ 1000000000) :
    r9allow_m [.agg p.row, .c (.str s), .agg (rwI i)] = some [.c (.sl (rallowF p s i).1.isNone (((rallowF p s i).1.getD []).map rwI)), .i (rallowF p s i).2] := by
  have := mE_eq encPsv_inj (g := fun p => if p.1.1.plates.length ≤ 1000000000 ∧ p.1.1.hrs.length ≤ 1000 ∧ p.1.2.length ≤ 1000000000 then some [DV.c (.sl (rallowF p.1.1 p.1.2 p.2).1.isNone (((rallowF p.1.1 p.1.2 p.2).1.getD []).map rwI)), .i (rallowF p.1.1 p.1.2 p.2).2] else none) (a := ((p, s), i))
  exact this.trans (if_pos ⟨h1, h2, h3⟩)
set_option maxHeartbeats 1000000 in
theorem r9cover_ok : PureC Tryz.prog Gt 73 r9cover_m := by
  refine pure_of_awpS (X := ctx Tryz.prog Gt [(114, r6days_m), (116, r9allow_m), (117, r9join_m)]) Tryz.func73 rfl rfl (by kernel_rfl) (by kernel_rfl) (AllOk.cons r6days_ok (AllOk.cons r9allow_ok (AllOk.cons r9join_ok AllOk.nil))).kok ?_
  intro args r h0
  obtain ⟨⟨⟨⟨f, l⟩, s, n⟩, i⟩, rfl, h⟩ := mE_inv h0
  refine ⟨Nat.le_of_ble_eq_true rfl, ?_⟩
  split at h
  · rename_i hl
    obtain ⟨⟨hl, hp⟩, hs⟩ := hl
    dsimp only at hl hp hs h
    simp only [Option.some.injEq] at h
    have f1 := @r6days_at i
    have hA : rcovF l s n i = if daysErr i ≠ 0 then (none, daysErr i) else (l.foldl (rstepC s n i) none, 0) := rfl
    rw [hA] at h
    clear hA
    obtain ⟨a, b⟩ := i
    simp only [rwI] at f1
    have l1 := @lenPm l
    by_cases he : daysErr (a, b) = 0
    · rw [he] at f1
      rw [if_neg (by rw [he]; exact fun h => h rfl)] at h
      have hc := Nat.zero_add 0
      repeat' (first | simp only [hc, AS, Tryz.f73, encPmC, rwI, SX, f1, l1, ZZ, simprocAttr, ↓reduceIte] | refine Zi ?_ )
      refine awpS_loop (σ := Nat) (fun k => k ≤ l.length)
        (fun k => ⟨[(12, AV.i k), (11, AV.d (.sl ((l.take k).foldl (rstepC s n (a, b)) none).isNone ((((l.take k).foldl (rstepC s n (a, b)) none).getD []).map rwI))), (0, AV.d (.sl f (l.map Pmt.row))), (1, AV.s s), (2, AV.s n), (7, .v (.c (.ptr 0 0)))], [.box [.d (.int .i64 a), .d (.int .i64 b)]]⟩)
        (fun k => l.length - k) 0 (Wk.sub' (by simp [subT, look]) rfl) (Nat.zero_le _) ?_
      intro k hk
      have hlen := @rcovF_len s n (a, b) (l.take k) none
      simp only [List.length_take, Option.getD_none, List.length_nil] at hlen
      by_cases hkl : k < l.length
      · have d1 := pm_at hkl
        have c1 : ((k : Int) < (l.length : Int)) = True := eq_true (by omega)
        have w1 := wI (n := (k : Int) + 1) (by omega) (by omega)
        have hst : (l.take (k + 1)).foldl (rstepC s n (a, b)) none = rstepC s n (a, b) ((l.take k).foldl (rstepC s n (a, b)) none) l[k] := foldl_take hkl
        have hpk := hp l[k] (List.getElem_mem hkl)
        have f4 := @r9allow_at l[k] s (a, b) hpk.1 (by omega) hs
        have hal := @rallowF_len l[k] s (a, b)
        have f5 := @r9join_at ((l.take k).foldl (rstepC s n (a, b)) none).isNone (rallowF l[k] s (a, b)).1.isNone (((l.take k).foldl (rstepC s n (a, b)) none).getD []) ((rallowF l[k] s (a, b)).1.getD []) (by omega) (by omega)
        have hst2 : rstepC s n (a, b) ((l.take k).foldl (rstepC s n (a, b)) none) l[k] = if l[k].zone = n then some (joinR (((l.take k).foldl (rstepC s n (a, b)) none).getD []) ((rallowF l[k] s (a, b)).1.getD [])) else (l.take k).foldl (rstepC s n (a, b)) none := rfl
        rw [hst2] at hst
        clear hst2
        generalize (l.take k).foldl (rstepC s n (a, b)) none = O at *
        generalize l[k] = p at *
        generalize (rallowF p s (a, b)).1 = S at *
        generalize (rallowF p s (a, b)).2 = S2 at *
        obtain ⟨p1, p2, p3, p4, ⟨p5, p5'⟩, p6, hs', p8⟩ := p
        dsimp only at d1 hst
        simp only [Pmt.row, rwI] at f4
        by_cases hz : p2 = n
        · have b1 : (p2 == n) = true := by simp [hz]
          rw [if_pos hz] at hst
          have hc := Nat.zero_add 0
          repeat' (first | simp only [hc, AS, SX, l1, d1, c1, nn, w1, f4, f5, b1, ZZ, simprocAttr, ↓reduceIte] | refine Zi ?_ )
          refine lp_next (k + 1) ?_ (by omega) (by omega)
          rw [hst]
          exact Wk.sub' (by simp [subT, look]) rfl
        have b1 : (p2 == n) = false := by simpa using hz
        rw [if_neg hz] at hst
        have hc := Nat.zero_add 0
        repeat' (first | simp only [hc, AS, SX, l1, d1, c1, nn, w1, b1, ZZ, simprocAttr, ↓reduceIte] | refine Zi ?_ )
        refine lp_next (k + 1) ?_ (by omega) (by omega)
        rw [hst]
        exact Wk.sub' (by simp [subT, look]) rfl
      have c1 : ((k : Int) < (l.length : Int)) = False := eq_false (by omega)
      rw [List.take_of_length_le (by omega : l.length ≤ k)]
      have hc := Nat.zero_add 0
      repeat' (first | simp only [hc, AS, SX, l1, c1, ZZ, simprocAttr, ↓reduceIte] | refine Zi ?_ | refine Zj ?_)
      rw [← h]
    have he' := eq_false he
    rw [if_pos he] at h
    have hc := Nat.zero_add 0
    repeat' (first | simp only [hc, AS, Tryz.f73, encPmC, rwI, SX, f1, he', ZZ, simprocAttr, ↓reduceIte] | refine Zi ?_ )
    rw [← h]
    rfl
  cases h
theorem r9cover_at {f : Bool} {l : List Pmt} {s n : List UInt8} {i : Iv} (h1 : pmtsOk l) (h2 : s.length ≤ 1000000000) :
    r9cover_m [.c (.sl f (l.map Pmt.row)), .c (.str s), .c (.str n), .agg (rwI i)] = some [.c (.sl (rcovF l s n i).1.isNone (((rcovF l s n i).1.getD []).map rwI)), .i (rcovF l s n i).2] := by
  have := mE_eq encPmC_inj (g := fun p => if pmtsOk p.1.1.2 ∧ p.1.2.1.length ≤ 1000000000 then some [DV.c (.sl (rcovF p.1.1.2 p.1.2.1 p.1.2.2 p.2).1.isNone (((rcovF p.1.1.2 p.1.2.1 p.1.2.2 p.2).1.getD []).map rwI)), .i (rcovF p.1.1.2 p.1.2.1 p.1.2.2 p.2).2] else none) (a := (((f, l), s, n), i))
  exact this.trans (if_pos ⟨h1, h2⟩)
end
end Go.Ab
