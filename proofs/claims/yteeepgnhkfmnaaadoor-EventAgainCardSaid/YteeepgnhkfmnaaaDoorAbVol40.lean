/-
  Texts of the layer and of the laws, put together: AbF23, AbF24, AbF25. No law is stated here.
-/
import Derived.Test.YteeepgnhkfmnaaaDoorAbVol39
set_option linter.unusedSimpArgs false
set_option linter.unusedVariables false
set_option maxRecDepth 100000

/-
  Keys: a right event has one line, one key. Law Keys.
-/
namespace Go.Ab
open Go.RowKit Go.Proofs

theorem esc_inj {a b : List UInt8} (h : escF a = escF b) : a = b := by
  have h1 := unesc_esc a
  rw [h, unesc_esc b] at h1
  exact (congrArg Prod.fst h1).symm
theorem dec_inj {a b : Nat} (h : Lib.decDigits a = Lib.decDigits b) : a = b := by
  have h1 := (dec_spec (a + 1) a (by omega)).2.1
  rw [h, (dec_spec (b + 1) b (by omega)).2.1] at h1
  exact h1.symm
theorem itoa_inj {a b : Int} (h : Lib.itoa a = Lib.itoa b) : a = b := by
  rw [itoa_spec, itoa_spec] at h
  split at h
  · split at h
    · have := dec_inj (List.cons.inj h).2
      omega
    · exact absurd (by rw [← h]; rfl) (dec_head (u := b.toNat))
  · split at h
    · exact absurd (by rw [h]; rfl) (dec_head (u := a.toNat))
    · have := dec_inj h
      omega
theorem spl_int (c : UInt8) : ∀ (l : List (List UInt8)), l ≠ [] → (∀ p ∈ l, c ∉ p) → spl c (List.intercalate [c] l) = l
  | [], h, _ => absurd rfl h
  | [a], _, h => by
    have e : List.intercalate [c] [a] = a := by simp [List.intercalate]
    rw [e]
    exact spl_none c a (h a List.mem_cons_self)
  | a :: b :: r, _, h => by
    have e : List.intercalate [c] (a :: b :: r) = a ++ c :: List.intercalate [c] (b :: r) := by simp [List.intercalate, List.intersperse]
    rw [e, spl_append c _ _ (h a List.mem_cons_self), spl_int c (b :: r) (by simp) (fun p hp => h p (List.mem_cons_of_mem _ hp))]
theorem dec_no {u : Nat} : (32 : UInt8) ∉ Lib.decDigits u := fun h => by
  have h1 := (dec_spec (u + 1) u (by omega)).1
  rw [List.all_eq_true] at h1
  have := dig_iff.1 (h1 _ h)
  have h2 : (32 : UInt8).toNat = 32 := rfl
  omega
theorem itoa_no {n : Int} : (32 : UInt8) ∉ Lib.itoa n := by
  rw [itoa_spec]
  split
  · intro h
    rcases List.mem_cons.1 h with h | h
    · cases h
    · exact dec_no h
  · exact dec_no
theorem esc_no {s : List UInt8} : (32 : UInt8) ∉ escF s := fun h => by
  have := (escF_range s).2 _ h
  have h2 : (32 : UInt8).toNat = 32 := rfl
  omega
theorem words_no {e : Evt} (hk : kindB e.kind = true) : ∀ p ∈ wordsE e, (32 : UInt8) ∉ p := by
  intro p hp
  rcases List.mem_cons.1 hp with rfl | hp
  · rcases kind_cases hk with h | h | h | h | h <;> rw [h] <;> decide
  · obtain ⟨q, _, rfl⟩ := List.mem_map.1 hp
    unfold pieceF
    split
    · exact esc_no
    · exact itoa_no
theorem line_spl {e : Evt} (hk : kindB e.kind = true) : spl 32 (lineE e) = wordsE e := spl_int 32 _ (by simp [wordsE]) (words_no hk)
theorem right_only {e : Evt} (h : rightE e = true) : onlyE e = e := by
  unfold rightE at h
  rw [Bool.and_eq_true] at h
  exact of_decide_eq_true h.2
theorem line_inj {a b : Evt} (ha : rightE a = true) (hb : rightE b = true) (h : lineE a = lineE b) : a = b := by
  have hka := right_kind ha
  have hkb := right_kind hb
  have hw : wordsE a = wordsE b := by rw [← line_spl hka, h, line_spl hkb]
  have h1 : wrdK a.kind = wrdK b.kind := (List.cons.inj hw).1
  have h2 : (fldK a.kind).map (pieceF a.row) = (fldK b.kind).map (pieceF b.row) := (List.cons.inj hw).2
  have hk : a.kind = b.kind := by
    rcases kind_cases hka with e1 | e1 | e1 | e1 | e1 <;> rcases kind_cases hkb with e2 | e2 | e2 | e2 | e2 <;> rw [e1, e2] at h1 ⊢ <;> revert h1 <;> decide
  rw [← hk] at h2
  have hp : ∀ p ∈ fldK a.kind, pieceF a.row p = pieceF b.row p := by
    intro p hp
    obtain ⟨j, hj⟩ := List.mem_iff_getElem?.1 hp
    have := congrArg (fun l => l[j]?) h2
    simpa [List.getElem?_map, hj] using this
  have oa := right_only ha
  have ob := right_only hb
  have tx : ∀ o, (true, o) ∈ fldK a.kind → rTx a.row o = rTx b.row o := fun o ho => esc_inj (by have := hp _ ho; simpa [pieceF] using this)
  have nm : ∀ o, (false, o) ∈ fldK a.kind → rNm a.row o = rNm b.row o := fun o ho => itoa_inj (by have := hp _ ho; simpa [pieceF] using this)
  rw [← oa, ← ob]
  clear oa ob hp h2 h1 hw h ha hb hkb
  unfold onlyE
  rw [← hk]
  rcases kind_cases hka with e1 | e1 | e1 | e1 | e1
  · rw [e1] at tx nm
    have x1 : a.dev = b.dev := tx 1 (by decide)
    have x2 : a.seq = b.seq := nm 2 (by decide)
    have x3 : a.time = b.time := nm 3 (by decide)
    have x4 : a.tag = b.tag := tx 4 (by decide)
    have x5 : a.plt = b.plt := tx 5 (by decide)
    have x6 : a.axl = b.axl := nm 6 (by decide)
    have x7 : a.score = b.score := nm 7 (by decide)
    rw [x1, x2, x3, x4, x5, x6, x7, e1]
    rfl
  · rw [e1] at tx nm
    have x1 : a.pk = b.pk := nm 8 (by decide)
    have x2 : a.pz = b.pz := tx 9 (by decide)
    have x3 : a.pp = b.pp := tx 10 (by decide)
    have x4 : a.pt = b.pt := nm 11 (by decide)
    have x5 : a.pu = b.pu := nm 12 (by decide)
    rw [x1, x2, x3, x4, x5, e1]
    rfl
  · rw [e1] at tx nm
    have x1 : a.day = b.day := nm 13 (by decide)
    rw [x1, e1]
    rfl
  · rw [e1] at tx nm
    have x1 : a.name = b.name := tx 14 (by decide)
    have x2 : a.cents = b.cents := nm 15 (by decide)
    rw [x1, x2, e1]
    rfl
  · rw [e1] at tx nm
    have x1 : a.day = b.day := nm 13 (by decide)
    rw [x1, e1]
    rfl
theorem key_ne {e : Evt} (h : rightE e = true) : (keyE e == []) = false := by
  rw [keyE, if_pos h]
  have := (escF_range (lineE e)).1
  simpa using this
theorem key_no {e : Evt} (h : rightE e = false) : keyE e = [] := by
  rw [keyE, if_neg (by rw [h]; simp)]
/-- Equality, field by field. -/
def sameE (a b : Evt) : Bool := (a.kind == b.kind && (a.dev == b.dev && (a.seq == b.seq && (a.time == b.time && (a.tag == b.tag && (a.plt == b.plt && (a.axl == b.axl && (a.score == b.score && (a.pk == b.pk && (a.pz == b.pz && (a.pp == b.pp && (a.pt == b.pt && (a.pu == b.pu && (a.day == b.day && (a.name == b.name && (a.cents == b.cents && true))))))))))))))))
theorem sameE_iff {a b : Evt} : sameE a b = true ↔ a = b := by
  obtain ⟨k, a1, b1, c1, d1, f1, g1, i1, j1, l1, m1, n1, o1, p1, q1, r1⟩ := a
  obtain ⟨k', a', b', c', d'', f', g', i', j', l', m', n'', o', p', q', r'⟩ := b
  simp only [sameE, Bool.and_eq_true, beq_iff_eq, and_true, Evt.mk.injEq]
theorem key_eq {a b : Evt} (ha : rightE a = true) (hb : rightE b = true) : (keyE a == keyE b) = sameE a b := by
  by_cases h : a = b
  · subst h
    rw [sameE_iff.2 rfl, beq_self_eq_true]
  · rw [show sameE a b = false by rw [← Bool.not_eq_true, sameE_iff]; exact h]
    rw [beq_eq_false_iff_ne]
    intro e
    rw [keyE, keyE, if_pos ha, if_pos hb] at e
    exact h (line_inj ha hb (esc_inj e))

noncomputable section
open Classical

def encEE (p : Evt × Evt) : List PA := [.agg p.1.row, .agg p.2.row]
theorem encEE_inj (a b : Evt × Evt) (h : encEE a = encEE b) : a = b := by
  simp only [encEE, List.cons.injEq, DV.agg.injEq, and_true] at h
  exact Prod.ext (Evt.inj _ _ h.1) (Evt.inj _ _ h.2)

def lKeys_m : List PA → Option (List PA) := mE encEE fun _ => some [.b true]
set_option maxHeartbeats 2000000 in
theorem lKeys_ok : PureC Tryd.prog Gt 8 lKeys_m := by
  refine pure_of_awpS (X := ctx Tryd.prog Gt [(9, eshort_m), (12, eright_m), (14, ekey_m), (16, alive46_m)]) Tryd.func8 rfl rfl (by kernel_rfl) (by kernel_rfl) (AllOk.cons eshort_ok (AllOk.cons eright_ok (AllOk.cons ekey_ok (AllOk.cons alive46_ok AllOk.nil)))).kok ?_
  intro args r h0
  obtain ⟨⟨e1, e2⟩, rfl, h⟩ := mE_inv h0
  refine ⟨Nat.le_of_ble_eq_true rfl, ?_⟩
  cases h
  have f1 := @eright_at e1
  have f2 := @eright_at e2
  have f3 := @ekey_at e1
  have f4 := @ekey_at e2
  have f5 := @eshort_at e1
  have f6 := @eshort_at e2
  have f7 := alive_at
  have k1 := @key_ne e1
  have k2 := @key_ne e2
  have k3 := @key_no e1
  have k4 := @key_no e2
  have k5 := @key_eq e1 e2
  generalize rightE e1 = r1 at *
  generalize rightE e2 = r2 at *
  generalize keyE e1 = s1 at *
  generalize keyE e2 = s2 at *
  generalize shortE e1 = h1 at *
  generalize shortE e2 = h2 at *
  obtain ⟨k, a, b, c, d', f, g, i, j, l, m, n', o, p, q, r⟩ := e1
  obtain ⟨k', a', b', c', d'', f', g', i', j', l', m', n'', o', p', q', r'⟩ := e2
  simp only [Evt.row] at f1 f2 f3 f4 f5 f6
  simp only [sameE] at k5
  cases r1 with
  | true =>
    cases r2 with
    | true =>
      have k1 := k1 rfl
      have k2 := k2 rfl
      have k5 := k5 rfl rfl
      have hc := Nat.zero_add 0
      repeat' (first | simp only [hc, AS, Tryd.f8, encEE, Evt.row, List.map_cons, List.map_nil, SX, NW, f1, f2, f3, f4, f5, f6, f7, k1, k2, k5, AB, PL, RG, LP, TY, simprocAttr, ↓reduceIte, forall_const, eq_self, ne_eq, Option.some.injEq, beq_self_eq_true] | ((first | apply fin_ndec | apply fin_dec | apply cnd_ndec | apply cnd_dec' | apply fin_nsplit | apply fin_split | apply cnd_nsplit | apply cnd_split) <;> intro hc) | refine seqS_id ?_ | refine blk_exit_id ?_)
    | false =>
      have k1 := k1 rfl
      have k4 := k4 rfl
      subst k4
      have hc := Nat.zero_add 0
      repeat' (first | simp only [hc, AS, Tryd.f8, encEE, Evt.row, List.map_cons, List.map_nil, SX, NW, f1, f2, f3, f4, f5, f6, f7, k1, AB, PL, RG, LP, TY, simprocAttr, ↓reduceIte, forall_const, eq_self, ne_eq, Option.some.injEq, beq_self_eq_true] | ((first | apply fin_ndec | apply fin_dec | apply cnd_ndec | apply cnd_dec' | apply fin_nsplit | apply fin_split | apply cnd_nsplit | apply cnd_split) <;> intro hc) | refine seqS_id ?_ | refine blk_exit_id ?_)
  | false =>
    have k3 := k3 rfl
    subst k3
    have hr : (s2 == []) = !r2 := by
      cases r2 with
      | true => exact k2 rfl
      | false => rw [k4 rfl]; rfl
    have hc := Nat.zero_add 0
    repeat' (first | simp only [hc, AS, Tryd.f8, encEE, Evt.row, List.map_cons, List.map_nil, SX, NW, f1, f2, f3, f4, f5, f6, f7, hr, AB, PL, RG, LP, TY, simprocAttr, ↓reduceIte, forall_const, eq_self, ne_eq, Option.some.injEq, beq_self_eq_true] | ((first | apply fin_ndec | apply fin_dec | apply cnd_ndec | apply cnd_dec' | apply fin_nsplit | apply fin_split | apply cnd_nsplit | apply cnd_split) <;> intro hc) | refine seqS_id ?_ | refine blk_exit_id ?_)

end
end Go.Ab

/-
  A line that is parsed is the printed one.
-/
namespace Go.Ab
open Go.RowKit Go.Proofs

theorem accS_ge : ∀ {l : List UInt8} {n : Int}, 0 ≤ n → (∀ c ∈ l, isDig c = true) → n ≤ accS n l
  | [], n, _, _ => Int.le_refl _
  | c :: l, n, h0, hl => by
    rw [accS]
    have hd := dig_iff.1 (hl c List.mem_cons_self)
    split
    · have := accS_ge (l := l) (n := 10 * n + ((c.toNat : Int) - 48)) (by omega) (fun d hd => hl d (List.mem_cons_of_mem _ hd))
      omega
    · exact accS_ge h0 fun d hd => hl d (List.mem_cons_of_mem _ hd)
theorem accS_val : ∀ {l : List UInt8} {n : Nat}, (∀ c ∈ l, isDig c = true) → accS n l ≤ mMon → accS n l = (valF n l : Nat)
  | [], n, _, _ => rfl
  | c :: l, n, hl, hb => by
    have hd := dig_iff.1 (hl c List.mem_cons_self)
    have hl' : ∀ d ∈ l, isDig d = true := fun d hd => hl d (List.mem_cons_of_mem _ hd)
    rw [accS] at hb ⊢
    by_cases hn : (n : Int) ≤ mMon
    · have h45 : c ≠ 45 := fun e => by rw [e] at hd; exact absurd hd.1 (by decide)
      rw [if_pos ⟨h45, hn⟩] at hb ⊢
      have e : 10 * (n : Int) + ((c.toNat : Int) - 48) = ((10 * n + (c.toNat - 48) : Nat) : Int) := by omega
      rw [e] at hb ⊢
      exact accS_val hl' hb
    · rw [if_neg (fun h => hn h.2)] at hb
      have := accS_ge (l := l) (n := n) (by omega) hl'
      omega
theorem accS_nonneg {l : List UInt8} (hl : ∀ c ∈ l, isDig c = true) : 0 ≤ accS 0 l := accS_ge (by omega) hl

/-- A numeral within bounds has one text. -/
theorem itoa_nml {s : List UInt8} (h : nmlB s = true) (h1 : -mMon ≤ numS s) (h2 : numS s ≤ mMon) : Lib.itoa (numS s) = s := by
  unfold nmlB at h
  simp only [Bool.and_eq_true, Bool.not_eq_true', List.isEmpty_eq_false_iff, Bool.or_eq_true, beq_iff_eq, Bool.and_eq_false_iff, Bool.not_eq_true, beq_eq_false_iff_ne] at h
  obtain ⟨⟨⟨h3, h4⟩, h5⟩, h6⟩ := h
  rw [List.all_eq_true] at h4
  have hz : (digD s).head? = some 48 → digD s = [48] := fun e => by
    rcases h6 with h6 | h6
    · exact h6
    · exfalso
      cases hd : digD s with
      | nil => exact h5 hd
      | cons c r =>
        rw [hd] at e h6
        simp only [List.head?_cons, Option.some.injEq] at e
        subst e
        simp at h6
  have hdv := dec_val (digD s) h5 (List.all_eq_true.2 h4) hz
  by_cases hs : signB s = true
  · have hd : digD s = s.tail := if_pos hs
    have hs' := hs
    unfold signB at hs'
    simp only [Bool.and_eq_true, decide_eq_true_eq] at hs'
    obtain ⟨r, rfl⟩ : ∃ r, s = 45 :: r := by
      cases s with
      | nil => simp at hs'
      | cons c r => exact ⟨r, by rw [show c = 45 from hs'.2]⟩
    rw [hd, List.tail_cons] at hdv h3 h4 h5 hz
    have hN : numS (45 :: r) = -(accS 0 r) := by
      show (if (45 : UInt8) = 45 then -(accS 0 (45 :: r)) else _) = _
      rw [if_pos rfl, accS, if_neg (by simp)]
    rw [hN] at h1 h2 ⊢
    have hv := accS_val (l := r) (n := 0) h4 (by have : accS ((0 : Nat) : Int) r = accS 0 r := rfl; omega)
    have hv' : accS 0 r = (val r : Nat) := hv
    rw [hv']
    have hpos : 0 < val r := by
      rcases Nat.eq_zero_or_pos (val r) with e | e
      · exfalso
        rw [e, dec_small (by omega)] at hdv
        rcases h3 with h3 | h3
        · rw [hs] at h3; cases h3
        · exact h3 hdv.symm
      · exact e
    rw [itoa_spec, if_pos (by omega), show (-((val r : Nat) : Int)).natAbs = val r by omega, hdv]
  · have hd : digD s = s := if_neg hs
    rw [hd] at hdv h3 h4 h5 hz
    have h45 : ¬ s.headD 0 = 45 := by
      cases s with
      | nil => exact absurd rfl h5
      | cons c r =>
        intro e
        have := dig_iff.1 (h4 c List.mem_cons_self)
        rw [show c = 45 from e] at this
        exact absurd this.1 (by decide)
    have hN : numS s = accS 0 s := if_neg h45
    rw [hN] at h1 h2 ⊢
    have hv : accS 0 s = (val s : Nat) := accS_val (l := s) (n := 0) h4 h2
    rw [hv, itoa_spec, if_neg (by omega), Int.toNat_natCast, hdv]

/-! ### Rows set -/

theorem rTx_set_ne {r : List D} {o p : Nat} {x : D} (h : o ≠ p) : rTx (r.set o x) p = rTx r p := by
  unfold rTx
  rw [List.getElem?_set_ne h]
theorem rNm_set_ne {r : List D} {o p : Nat} {x : D} (h : o ≠ p) : rNm (r.set o x) p = rNm r p := by
  unfold rNm
  rw [List.getElem?_set_ne h]
theorem rTx_set {r : List D} {o : Nat} {s : List UInt8} (h : o < r.length) : rTx (r.set o (.str s)) o = s := by
  unfold rTx
  rw [List.getElem?_set_self h]
theorem rNm_set {r : List D} {o : Nat} {n : Int} (h : o < r.length) : rNm (r.set o (.int .i64 n)) o = n := by
  unfold rNm
  rw [List.getElem?_set_self h]
theorem kind_row {e : Evt} : rNm e.row 0 = e.kind := rfl
theorem fld_ne (k : Int) : ∀ i j : Nat, i < j → ∀ p q, (fldK k)[i]? = some p → (fldK k)[j]? = some q → p.2 ≠ q.2 := by
  intro i j hij p q hp hq e
  have hn : ((fldK k).map Prod.snd).Nodup := by
    unfold fldK
    repeat' split
    all_goals decide
  have h1 : ((fldK k).map Prod.snd)[i]? = some p.2 := by rw [List.getElem?_map, hp]; rfl
  have h2 : ((fldK k).map Prod.snd)[j]? = some q.2 := by rw [List.getElem?_map, hq]; rfl
  rw [← e] at h2
  have hi := lt_of_get h1
  have := (List.getElem?_inj hi hn).1 (h1.trans h2.symm)
  omega

/-- A field as it was read. -/
def okFld (p : Fld) (r : List D) (w : List UInt8) : Prop := if p.1 = true then (unescF w).2 = 0 ∧ rTx r p.2 = (unescF w).1 else nmlB w = true ∧ rNm r p.2 = numS w
theorem okFld_set {p q : Fld} {r : List D} {w : List UInt8} {x : D} (h : okFld p r w) (hne : p.2 ≠ q.2) : okFld p (r.set q.2 x) w := by
  unfold okFld at *
  rw [rTx_set_ne (Ne.symm hne), rNm_set_ne (Ne.symm hne)]
  exact h
theorem setOne_inv {k : Int} {e e' : Evt} {p : Fld} {w : List UInt8} (hp : p ∈ fldK k) (h : setOne e p w = some e') : ∃ x, e'.row = e.row.set p.2 x ∧ okFld p e'.row w := by
  have hl := (fld_lt k p hp).1
  unfold setOne at h
  unfold okFld
  split at h
  · rename_i ht
    rw [if_pos ht]
    split at h
    · rename_i hu
      cases h
      have := setE_row e k (unescF w).1 0 p hp
      rw [if_pos ht] at this
      refine ⟨_, this.symm, hu, ?_⟩
      rw [← this, rTx_set (by rw [row_len]; exact hl)]
    · cases h
  · rename_i ht
    rw [if_neg ht]
    split at h
    · rename_i hu
      cases h
      have := setE_row e k [] (numS w) p hp
      rw [if_neg ht] at this
      refine ⟨_, this.symm, hu, ?_⟩
      rw [← this, rNm_set (by rw [row_len]; exact hl)]
    · cases h
theorem setN_inv {k : Int} {l : List (List UInt8)} : ∀ {j : Nat} {e : Evt}, j ≤ (fldK k).length → setN (zEvt k) (fldK k) l j = some e →
    e.kind = k ∧ ∀ i p, i < j → (fldK k)[i]? = some p → okFld p e.row (l.getD (i + 1) [])
  | 0, e, _, h => by
    cases h
    exact ⟨rfl, fun i p hi _ => absurd hi (Nat.not_lt_zero _)⟩
  | j + 1, e, hj, h => by
    obtain ⟨e0, h0, h1⟩ := Option.bind_eq_some_iff.1 h
    obtain ⟨k0, q0⟩ := setN_inv (by omega) h0
    have hF : (fldK k)[j]? = some (fldK k)[j] := List.getElem?_eq_getElem (by omega)
    have hm : (fldK k)[j] ∈ fldK k := List.getElem_mem _
    rw [List.getD_eq_getElem?_getD, hF, Option.getD_some] at h1
    obtain ⟨x, hx, hok⟩ := setOne_inv hm h1
    refine ⟨?_, fun i p hi hp => ?_⟩
    · rw [← kind_row, hx, rNm_set_ne (fld_lt k _ hm).2, kind_row, k0]
    · by_cases hij : i = j
      · subst hij
        rw [hF] at hp
        cases hp
        exact hok
      · rw [hx]
        exact okFld_set (q0 i p (by omega) hp) (fld_ne k i j (by omega) p _ hp hF)
theorem tryK_inv {l : List (List UInt8)} : ∀ {n : Nat} {k : Int} {e : Evt}, tryK l n k = (e, 0) → ∃ k', matchK l k' = true ∧ setN (zEvt k') (fldK k') l (fldK k').length = some e ∧ rightE e = true
  | 0, k, e, h => by cases h
  | n + 1, k, e, h => by
    rw [tryK] at h
    split at h
    · rename_i hm
      cases hs : setN (zEvt k) (fldK k) l (fldK k).length with
      | none => rw [hs] at h; cases h
      | some e' =>
        rw [hs] at h
        have h : (if rightE e' = true then (e', 0) else (zEvt 0, 1)) = (e, (0 : Int)) := h
        split at h
        · cases h
          exact ⟨k, hm, hs, by assumption⟩
        · cases h
    · exact tryK_inv h
theorem parse_line {s : List UInt8} {e : Evt} (h : parseE s = (e, 0)) : rightE e = true ∧ lineE e = s := by
  unfold parseE at h
  split at h
  · rename_i h0
    obtain ⟨k, hm, hs, hr⟩ := tryK_inv h
    refine ⟨hr, ?_⟩
    unfold matchK at hm
    simp only [Bool.and_eq_true, decide_eq_true_eq, beq_iff_eq] at hm
    obtain ⟨hl, hw⟩ := hm
    obtain ⟨l, hF⟩ : ∃ l, (fieldsF s).1 = some l := by
      cases hq : (fieldsF s).1 with
      | none => rw [hq] at hl; simp at hl
      | some l => exact ⟨l, rfl⟩
    have hf : fieldsF s = (some l, 0) := Prod.ext hF h0
    rw [hF, Option.getD_some] at hl hw hs
    obtain ⟨hj, _⟩ := fields_join hf
    obtain ⟨hk, hok⟩ := setN_inv (Nat.le_refl _) hs
    have hWl : wordsE e = l := by
      unfold wordsE
      rw [hk]
      refine List.ext_getElem? fun j => ?_
      cases j with
      | zero =>
        cases l with
        | nil => simp at hl
        | cons a r => simp only [List.getElem?_cons_zero]; rw [← hw]; rfl
      | succ j =>
        rw [List.getElem?_cons_succ, List.getElem?_map]
        cases hp : (fldK k)[j]? with
        | none =>
          have hlen := List.getElem?_eq_none_iff.1 hp
          rw [List.getElem?_eq_none (by omega)]
          rfl
        | some p =>
          have hjl := lt_of_get hp
          have hlj : l[j + 1]? = some (l.getD (j + 1) []) := by rw [List.getD_eq_getElem?_getD, List.getElem?_eq_getElem (by omega)]; rfl
          have ho := hok j p hjl hp
          rw [hlj]
          generalize l.getD (j + 1) [] = w at *
          have hmem : p ∈ fldK e.kind := by rw [hk]; exact List.mem_of_getElem? hp
          have hfit := right_fit hr hmem
          obtain ⟨t, o⟩ := p
          simp only [Option.map_some, Option.some.injEq]
          cases t with
          | true =>
            have ho : (unescF w).2 = 0 ∧ rTx e.row o = (unescF w).1 := ho
            show escF (rTx e.row o) = w
            rw [ho.2, esc_unesc ho.1]
          | false =>
            have ho : nmlB w = true ∧ rNm e.row o = numS w := ho
            show Lib.itoa (rNm e.row o) = w
            have hb := fit_num hfit
            rw [ho.2] at hb ⊢
            exact itoa_nml ho.1 hb.1 hb.2
    show List.intercalate [32] (wordsE e) = s
    rw [hWl, hj]
  · rename_i h0
    have h0' : (fieldsF s).2 = 0 := (Prod.mk.inj h).2
    exact absurd h0' h0

end Go.Ab

/-
  Bytes that are decoded are the encoding.
-/
namespace Go.Ab
open Go.RowKit Go.Proofs

theorem numG_err : ∀ {l : List UInt8} {i acc : Nat} {e : Int}, numG i acc l = .error e → e ≠ 0
  | [], i, acc, e, h => by cases h; decide
  | c :: l, i, acc, e, h => by
    rw [numG] at h
    split at h
    · cases h; decide
    · split at h
      · exact numG_err h
      · split at h
        · cases h; decide
        · cases h
theorem numG_enc : ∀ {l : List UInt8} {i acc u k : Nat}, numG i acc l = .ok (u, k) → ∃ v, u = acc + 2 ^ (7 * i) * v ∧ encU v = l.take (k - i) ∧ i < k ∧ (0 < i → v ≠ 0)
  | [], i, acc, u, k, h => by cases h
  | c :: l, i, acc, u, k, h => by
    rw [numG] at h
    have hc := c.toNat_lt
    have e7 : 7 * (i + 1) = 7 * i + 7 := by omega
    split at h
    · cases h
    · split at h
      · rename_i hhi
        obtain ⟨v, h1, h2, h3, h4⟩ := numG_enc h
        have h4 := h4 (by omega)
        refine ⟨c.toNat % 128 + 128 * v, ?_, ?_, by omega, fun _ => by omega⟩
        · rw [h1, e7, Nat.pow_add, show (2 : Nat) ^ 7 = 128 by decide, Nat.mul_add, Nat.mul_comm (c.toNat % 128), Nat.mul_assoc, Nat.add_assoc]
        · rw [encU_hi (by omega), show (c.toNat % 128 + 128 * v) / 128 = v by omega, h2, show k - i = (k - (i + 1)) + 1 by omega, List.take_succ_cons]
          congr 1
          apply UInt8.toNat_inj.1
          rw [ofNat_toNat (by omega)]
          omega
      · split at h
        · cases h
        · rename_i hlo hz
          cases h
          refine ⟨c.toNat % 128, by rw [Nat.mul_comm], ?_, by omega, fun hi => ?_⟩
          · rw [encU_lo (by omega), show i + 1 - i = 0 + 1 by omega, List.take_succ_cons, List.take_zero]
            congr 1
            apply UInt8.toNat_inj.1
            rw [ofNat_toNat (by omega)]
            omega
          · intro e
            exact hz ⟨hi, by omega⟩
theorem code_val (u : Nat) : codeI (valI u) = u := by
  unfold codeI valI
  split <;> split <;> omega
theorem decI_enc {b : List UInt8} {p v m : Int} (h : decI b p = (v, m, 0)) : 0 ≤ p ∧ p ≤ m ∧ m ≤ b.length ∧ encI v = (b.drop p.toNat).take (m - p).toNat := by
  unfold decI at h
  split at h
  · cases h
  · rename_i hp
    split at h
    · rename_i e hN
      cases h
      exact absurd rfl (numG_err hN)
    · rename_i u k hN
      cases h
      obtain ⟨v, h1, h2, h3, _⟩ := numG_enc hN
      have hb := numG_bd hN
      rw [List.length_drop] at hb
      rw [Nat.mul_zero, Nat.pow_zero, Nat.one_mul, Nat.zero_add] at h1
      subst h1
      refine ⟨by omega, by omega, by omega, ?_⟩
      rw [encI, code_val, h2]
      congr 1
      omega
theorem txtG_enc {b : List UInt8} {n : Nat} {s : List UInt8} {m : Nat} (h : txtG b n = .ok (s, m)) (hn : n ≤ b.length) : n ≤ m ∧ m ≤ b.length ∧ encT s = (b.drop n).take (m - n) := by
  unfold txtG at h
  split at h
  · cases h
  · rename_i u k hN
    obtain ⟨v, h1, h2, h3, _⟩ := numG_enc hN
    have hb := numG_bd hN
    rw [List.length_drop] at hb
    rw [Nat.mul_zero, Nat.pow_zero, Nat.one_mul, Nat.zero_add] at h1
    subst h1
    split at h
    · cases h
    · split at h
      · cases h
      · split at h
        · cases h
        · rename_i c1 c2 c3
          cases h
          have hV : encI (valI u) = (b.drop n).take k := by rw [encI, code_val, h2, Nat.sub_zero]
          generalize valI u = w at *
          obtain ⟨q, rfl⟩ : ∃ q : Nat, w = (q : Int) := ⟨w.toNat, by omega⟩
          rw [Int.toNat_natCast] at *
          refine ⟨by omega, by omega, ?_⟩
          have hl : ((b.drop (n + k)).take q).length = q := by rw [List.length_take, List.length_drop]; omega
          rw [encT, hl, hV, show n + k + q - n = k + q by omega, List.take_add, List.drop_drop]
theorem txtG_err {b : List UInt8} {n : Nat} {e : Int} (h : txtG b n = .error e) : e ≠ 0 := by
  unfold txtG at h
  split at h
  · rename_i hN
    cases h
    exact numG_err hN
  · split at h
    · cases h; decide
    · split at h
      · cases h; decide
      · split at h
        · cases h; decide
        · cases h
theorem decT_enc {b : List UInt8} {p : Int} {s : List UInt8} {m : Int} (h : decT b p = (s, m, 0)) : 0 ≤ p ∧ p ≤ m ∧ m ≤ b.length ∧ encT s = (b.drop p.toNat).take (m - p).toNat := by
  unfold decT at h
  split at h
  · cases h
  · rename_i hp
    split at h
    · rename_i e hN
      cases h
      exact absurd rfl (txtG_err hN)
    · rename_i s' m' hN
      cases h
      obtain ⟨h1, h2, h3⟩ := txtG_enc hN (by omega)
      refine ⟨by omega, by omega, by omega, ?_⟩
      rw [h3]
      congr 1
      omega

theorem setE_rowx {k : Int} {e : Evt} {p : Fld} (hp : p ∈ fldK k) (tx : List UInt8) (n : Int) : ∃ x, (setE e p.2 tx n).row = e.row.set p.2 x := ⟨_, (setE_row e k tx n p hp).symm⟩
theorem readFl_keep {k : Int} {b : List UInt8} {o : Nat} : ∀ {F : List Fld} {e e' : Evt} {n m : Int}, (∀ p ∈ F, p ∈ fldK k) → (∀ p ∈ F, p.2 ≠ o) → readFl b F e n = .ok (e', m) → rTx e'.row o = rTx e.row o ∧ rNm e'.row o = rNm e.row o
  | [], e, e', n, m, _, _, h => by
    cases h
    exact ⟨rfl, rfl⟩
  | p :: F, e, e', n, m, hF, ho, h => by
    rw [readFl] at h
    have hp := hF p List.mem_cons_self
    have hF' : ∀ q ∈ F, q ∈ fldK k := fun q hq => hF q (List.mem_cons_of_mem _ hq)
    have ho' : ∀ q ∈ F, q.2 ≠ o := fun q hq => ho q (List.mem_cons_of_mem _ hq)
    have hne := ho p List.mem_cons_self
    split at h
    · split at h
      · obtain ⟨h1, h2⟩ := readFl_keep hF' ho' h
        obtain ⟨x, hx⟩ := setE_rowx (e := e) hp (decT b n).1 0
        rw [h1, h2, hx, rTx_set_ne hne, rNm_set_ne hne]
        exact ⟨rfl, rfl⟩
      · cases h
    · split at h
      · obtain ⟨h1, h2⟩ := readFl_keep hF' ho' h
        obtain ⟨x, hx⟩ := setE_rowx (e := e) hp [] (decI b n).1
        rw [h1, h2, hx, rTx_set_ne hne, rNm_set_ne hne]
        exact ⟨rfl, rfl⟩
      · cases h
theorem cut_add {b : List UInt8} {n m k : Int} (h0 : 0 ≤ n) (h1 : n ≤ m) (h2 : m ≤ k) : (b.drop n.toNat).take (m - n).toNat ++ (b.drop m.toNat).take (k - m).toNat = (b.drop n.toNat).take (k - n).toNat := by
  rw [show (k - n).toNat = (m - n).toNat + (k - m).toNat by omega, List.take_add, List.drop_drop, show n.toNat + (m - n).toNat = m.toNat by omega]
theorem readFl_enc {k : Int} {b : List UInt8} : ∀ {F : List Fld} {e e' : Evt} {n m : Int}, (∀ p ∈ F, p ∈ fldK k) → (F.map Prod.snd).Nodup → 0 ≤ n → n ≤ b.length → readFl b F e n = .ok (e', m) →
    n ≤ m ∧ m ≤ b.length ∧ F.flatMap (putFld e'.row) = (b.drop n.toNat).take (m - n).toNat
  | [], e, e', n, m, _, _, _, hb, h => by
    cases h
    exact ⟨Int.le_refl _, hb, by simp⟩
  | p :: F, e, e', n, m, hF, hN, h0, hb, h => by
    rw [readFl] at h
    have hp := hF p List.mem_cons_self
    have hpl := (fld_lt k p hp).1
    have hF' : ∀ q ∈ F, q ∈ fldK k := fun q hq => hF q (List.mem_cons_of_mem _ hq)
    rw [List.map_cons, List.nodup_cons] at hN
    have ho' : ∀ q ∈ F, q.2 ≠ p.2 := fun q hq e => hN.1 (by rw [← e]; exact List.mem_map_of_mem hq)
    rw [List.flatMap_cons]
    split at h
    · rename_i ht
      split at h
      · rename_i hz
        obtain ⟨h1, _⟩ := readFl_keep hF' ho' h
        have hD : decT b n = ((decT b n).1, (decT b n).2.1, 0) := Prod.ext rfl (Prod.ext rfl hz)
        obtain ⟨_, d1, d2, d3⟩ := decT_enc hD
        obtain ⟨i1, i2, i3⟩ := readFl_enc hF' hN.2 (by omega) d2 h
        refine ⟨by omega, i2, ?_⟩
        have hr := setE_row e k (decT b n).1 0 p hp
        rw [if_pos ht] at hr
        rw [← hr, rTx_set (by rw [row_len]; exact hpl)] at h1
        rw [i3, putFld, if_pos ht, h1, d3, cut_add h0 d1 i1]
      · cases h
    · rename_i ht
      split at h
      · rename_i hz
        obtain ⟨_, h1⟩ := readFl_keep hF' ho' h
        have hD : decI b n = ((decI b n).1, (decI b n).2.1, 0) := Prod.ext rfl (Prod.ext rfl hz)
        obtain ⟨_, d1, d2, d3⟩ := decI_enc hD
        obtain ⟨i1, i2, i3⟩ := readFl_enc hF' hN.2 (by omega) d2 h
        refine ⟨by omega, i2, ?_⟩
        have hr := setE_row e k [] (decI b n).1 p hp
        rw [if_neg ht] at hr
        rw [← hr, rNm_set (by rw [row_len]; exact hpl)] at h1
        rw [i3, putFld, if_neg ht, h1, d3, cut_add h0 d1 i1]
      · cases h
theorem get_err {b : List UInt8} {p : Int} (h : (getE b p).2.2 ≠ 0) : (getE b p).2.1 = 0 := by
  unfold getE at *
  split
  · rfl
  · rename_i e n hR
    rw [hR] at h
    exact absurd rfl h
theorem read_err {b : List UInt8} {p k : Int} (h : readE b p = .error k) : k ≠ 0 := by
  unfold readE at h
  have hfl : ∀ {F : List Fld} {e : Evt} {n k : Int}, readFl b F e n = .error k → k ≠ 0 := by
    intro F
    induction F with
    | nil => intro e n k h; cases h
    | cons p F ih =>
      intro e n k h
      rw [readFl] at h
      split at h
      · split at h
        · exact ih h
        · rename_i hz
          cases h
          exact hz
      · split at h
        · exact ih h
        · rename_i hz
          cases h
          exact hz
  split at h
  · split at h
    · unfold okRd at h
      split at h
      · rename_i hR
        cases h
        exact hfl hR
      · split at h
        · cases h
        · cases h
          decide
    · cases h
      decide
  · rename_i hz
    cases h
    exact hz
theorem get_enc {b : List UInt8} {p : Int} {x : Evt} {n : Int} (h : getE b p = (x, n, 0)) : 0 ≤ p ∧ p ≤ n ∧ n ≤ b.length ∧ rightE x = true ∧ encV x = (b.drop p.toNat).take (n - p).toNat := by
  unfold getE at h
  split at h
  · rename_i k hR
    have hk : k = 0 := by simpa using (Prod.mk.inj (Prod.mk.inj h).2).2
    exact absurd hk (read_err hR)
  · rename_i e m hR
    simp only [Prod.mk.injEq, and_true] at h
    obtain ⟨rfl, rfl⟩ := h
    unfold readE at hR
    split at hR
    · rename_i hz
      split at hR
      · rename_i hk
        unfold okRd at hR
        split at hR
        · cases hR
        · rename_i e m hF
          split at hR
          · rename_i hr
            cases hR
            have hD : decI b p = ((decI b p).1, (decI b p).2.1, 0) := Prod.ext rfl (Prod.ext rfl hz)
            obtain ⟨d0, d1, d2, d3⟩ := decI_enc hD
            have hn : ((fldK (decI b p).1).map Prod.snd).Nodup := by
              unfold fldK
              repeat' split
              all_goals decide
            obtain ⟨i1, i2, i3⟩ := readFl_enc (k := (decI b p).1) (fun _ h => h) hn (by omega) d2 hF
            have hkeep := (readFl_keep (k := (decI b p).1) (o := 0) (fun _ h => h) (fun q hq => (fld_lt _ q hq).2) hF).2
            rw [kind_row, kind_row] at hkeep
            have hkk : _ = (decI b p).1 := hkeep
            refine ⟨d0, by omega, i2, hr, ?_⟩
            rw [encV, hkk, i3, d3, cut_add d0 d1 i1]
          · cases hR
      · cases hR
    · cases hR

end Go.Ab
