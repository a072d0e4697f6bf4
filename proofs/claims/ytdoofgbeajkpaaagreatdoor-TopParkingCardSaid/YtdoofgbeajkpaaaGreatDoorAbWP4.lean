/-
  Texts of the layer and of the laws, put together: Ab8d, Ab8m.
-/
import Derived.Test.YtdoofgbeajkpaaaGreatDoorAbWP3
import Derived.MapKept
import Derived.Laws.StructEq
import Derived.Laws.RangeAny
set_option linter.unusedSimpArgs false
set_option linter.unusedVariables false
set_option maxRecDepth 100000
namespace Go.Ab
open Go.RowKit Go.MapKept
def RowRel (w : World) (F : Fz) (vs : List Value) (dx : List D) : Prop := vs.length = dx.length ∧ ∀ (j : Nat) (x : D), dx[j]? = some x → ∃ u, vs[j]? = some u ∧ Rd w F u x
def PackRel (P : Program) (t : TypeId) (w : World) (F : Fz) (v : Value) (dx : List D) : Prop :=
  match P.underlying t with
  | some (.struct _) => ∃ vs : List Value, v = .agg vs.toArray ∧ RowRel w F vs dx
  | _ => ∃ x, dx = [x] ∧ Rd w F v x
theorem fits_split : ∀ (l r : List Lf) (xs : List D), fitsL (l ++ r) xs = true → fitsL l (xs.take l.length) = true ∧ fitsL r (xs.drop l.length) = true ∧ l.length ≤ xs.length
  | [], r, xs, h => ⟨by simp [fitsL], by simpa using h, by simp⟩
  | a :: l, r, [], h => by cases a <;> simp [fitsL] at h
  | a :: l, r, x :: xs, h => by
    have key : ∀ (p : fitsL (l ++ r) xs = true), fitsL l (xs.take l.length) = true ∧ fitsL r (xs.drop l.length) = true ∧ l.length ≤ xs.length := fits_split l r xs
    cases a <;> cases x <;> simp only [List.cons_append, fitsL, Bool.false_eq_true, Bool.and_eq_true, decide_eq_true_eq] at h
    · obtain ⟨h1, h2, h3⟩ := key h
      exact ⟨by simpa [fitsL] using h1, by simpa using h2, by simp; exact h3⟩
    · obtain ⟨h1, h2, h3⟩ := key h.2
      exact ⟨by simp [fitsL, h.1, h1], by simpa using h2, by simp; exact h3⟩
    obtain ⟨h1, h2, h3⟩ := key h
    exact ⟨by simpa [fitsL] using h1, by simpa using h2, by simp; exact h3⟩
theorem fits_len : ∀ (l : List Lf) (xs : List D), fitsL l xs = true → xs.length = l.length
  | [], [], _ => rfl
  | [], _ :: _, h => by simp [fitsL] at h
  | a :: l, [], h => by cases a <;> simp [fitsL] at h
  | a :: l, x :: xs, h => by
    cases a <;> cases x <;> simp only [fitsL, Bool.false_eq_true, Bool.and_eq_true] at h
    · simp [fits_len l xs h]
    · simp [fits_len l xs h.2]
    simp [fits_len l xs h]
theorem eqL_app : ∀ (l : List Lf) (xs ys xs' ys' : List D), fitsL l xs = true → fitsL l ys = true → eqL (xs ++ xs') (ys ++ ys') = (eqL xs ys && eqL xs' ys')
  | [], [], [], _, _, _, _ => by simp [eqL]
  | [], _ :: _, _, _, _, h, _ => by simp [fitsL] at h
  | [], [], _ :: _, _, _, _, h => by simp [fitsL] at h
  | a :: l, [], _, _, _, h, _ => by cases a <;> simp [fitsL] at h
  | a :: l, _ :: _, [], _, _, _, h => by cases a <;> simp [fitsL] at h
  | a :: l, x :: xs, y :: ys, xs', ys', hx, hy => by
    cases a <;> cases x <;> simp only [fitsL, Bool.false_eq_true, Bool.and_eq_true] at hx <;> cases y <;> simp only [fitsL, Bool.false_eq_true, Bool.and_eq_true] at hy
    · simp only [List.cons_append, eqL, eqL_app l xs ys xs' ys' hx hy, Bool.and_assoc]
    · simp only [List.cons_append, eqL, eqL_app l xs ys xs' ys' hx.2 hy.2, Bool.and_assoc]
    simp only [List.cons_append, eqL, eqL_app l xs ys xs' ys' hx hy, Bool.and_assoc]
theorem part_row {P : Program} {w : World} {F : Fz} {t : TypeId} {vs : List Value} {dx : List D} {off n : Nat} (hr : RowRel w F vs dx) (hu : (P.underlying t).isSome = true) (hs : (P.info? t).map (·.size) = some n) (hl : off + n ≤ dx.length)
    (h1 : (∀ fs, P.underlying t ≠ some (.struct fs)) → n = 1 ∧ ∀ d, P.underlying t = some d → d.isRow = false) :
    ∃ u, (part t vs.toArray off).run P w = .ok u w ∧ PackRel P t w F u ((dx.drop off).take n) := by
  cases hd : P.underlying t with
  | none => simp [hd] at hu
  | some d =>
    by_cases hst : ∃ fs, d = .struct fs
    · obtain ⟨fs, rfl⟩ := hst
      refine ⟨.agg ((vs.drop off).take n).toArray, ?_, ?_⟩
      · simp [part, run_isAgg hd, TypeDesc.isRow, run_sizeOf hs]
      simp only [PackRel, hd]
      refine ⟨_, rfl, by simp [hr.1], fun j x hj => ?_⟩
      rw [List.getElem?_take] at hj ⊢
      split at hj
      · rename_i hjn
        rw [List.getElem?_drop] at hj
        rw [if_pos hjn, List.getElem?_drop]
        exact hr.2 _ _ hj
      cases hj
    have hne : ∀ fs, P.underlying t ≠ some (.struct fs) := fun fs he => hst ⟨fs, by rw [hd] at he; exact Option.some.inj he⟩
    obtain ⟨rfl, hrow⟩ := h1 hne
    have hrow := hrow d hd
    have hx : dx[off]? = some (dx[off]'(by omega)) := List.getElem?_eq_getElem (by omega)
    obtain ⟨u, hu', hru⟩ := hr.2 off _ hx
    refine ⟨u, by simp [part, run_isAgg hd, hrow, hu'], ?_⟩
    have ht : (dx.drop off).take 1 = [dx[off]'(by omega)] := by
      apply List.ext_getElem?
      intro j
      cases j with
      | zero => simp [List.getElem?_drop, hx]
      | succ j => simp [List.getElem?_take]
    unfold PackRel
    rw [hd]
    cases d <;> first | exact absurd rfl (hne _) | exact ⟨_, ht, hru⟩ | exact absurd hd (hne _)
theorem flatT_some {P : Program} {d : Nat} {t : TypeId} {ls : List Lf} (h : flatT P d t = some ls) : (P.underlying t).isSome = true ∧ ((∀ fs, P.underlying t ≠ some (.struct fs)) → ls.length = 1 ∧ ∀ d, P.underlying t = some d → d.isRow = false) := by
  cases d with
  | zero => simp [flatT] at h
  | succ d =>
    unfold flatT at h
    split at h
    · rename_i hu; cases h; exact ⟨by rw [hu]; rfl, fun _ => ⟨rfl, fun d hd => by rw [hu] at hd; cases hd; rfl⟩⟩
    · rename_i hu; cases h; exact ⟨by rw [hu]; rfl, fun _ => ⟨rfl, fun d hd => by rw [hu] at hd; cases hd; rfl⟩⟩
    · rename_i hu; cases h; exact ⟨by rw [hu]; rfl, fun _ => ⟨rfl, fun d hd => by rw [hu] at hd; cases hd; rfl⟩⟩
    · rename_i fs hu; exact ⟨by rw [hu]; rfl, fun hne => absurd hu (hne fs)⟩
    cases h
def EqIs (P : Program) (w : World) (F : Fz) (n : Nat) (t : TypeId) (ls : List Lf) : Prop :=
  ∀ (dx dy : List D) (v u : Value), fitsL ls dx = true → fitsL ls dy = true → PackRel P t w F v dx → PackRel P t w F u dy → (Op.equalIn n t v u).run P w = .ok (eqL dx dy) w
theorem eqFields_sim {P : Program} {w : World} {F : Fz} {n : Nat} {fl : TypeId → Option (List Lf)} (hfl : ∀ t ls, fl t = some ls → EqIs P w F n t ls) (hf2 : ∀ t ls, fl t = some ls → (P.underlying t).isSome = true ∧ ((∀ fs, P.underlying t ≠ some (.struct fs)) → ls.length = 1 ∧ ∀ d, P.underlying t = some d → d.isRow = false))
    {vs us : List Value} {dx dy : List D} (hv : RowRel w F vs dx) (hu : RowRel w F us dy) :
    ∀ (fs : List Field) (off : Nat) (l : List Lf), flatFs P fl fs off = some l → fitsL l (dx.drop off) = true → fitsL l (dy.drop off) = true → off ≤ dx.length → off ≤ dy.length →
      (Op.eqFields n vs.toArray us.toArray fs).run P w = .ok (eqL (dx.drop off) (dy.drop off)) w
  | [], off, l, h, h1, h2, _, _ => by
    cases h
    have e1 : dx.drop off = [] := List.eq_nil_of_length_eq_zero (fits_len [] _ h1)
    have e2 : dy.drop off = [] := List.eq_nil_of_length_eq_zero (fits_len [] _ h2)
    rw [e1, e2]
    simp [Op.eqFields, eqL]
  | f :: fs, off, l, h, h1, h2, ho1, ho2 => by
    simp only [flatFs] at h
    split at h
    · cases h
    rename_i hno
    simp only [not_or, Decidable.not_not] at hno
    obtain ⟨hname, hoff⟩ := hno
    simp only [Option.bind_eq_some_iff] at h
    obtain ⟨lf, hlf, h⟩ := h
    split at h
    · rename_i hsz
      simp only [Option.map_eq_some_iff] at h
      obtain ⟨lr, hlr, rfl⟩ := h
      obtain ⟨a1, a2, a3⟩ := fits_split lf lr _ h1
      obtain ⟨b1, b2, b3⟩ := fits_split lf lr _ h2
      rw [List.drop_drop] at a2 b2
      simp only [List.length_drop] at a3 b3
      obtain ⟨hsome, hone⟩ := hf2 _ _ hlf
      obtain ⟨x, hx, hxr⟩ := part_row (P := P) (t := f.type) (off := off) (n := lf.length) hv hsome hsz (by omega) hone
      obtain ⟨y, hy, hyr⟩ := part_row (P := P) (t := f.type) (off := off) (n := lf.length) hu hsome hsz (by omega) hone
      have he := hfl _ _ hlf _ _ x y a1 b1 hxr hyr
      have hrest := eqFields_sim hfl hf2 hv hu fs (off + lf.length) lr hlr a2 b2 (by omega) (by omega)
      have hsplit : eqL (dx.drop off) (dy.drop off) = (eqL ((dx.drop off).take lf.length) ((dy.drop off).take lf.length) && eqL (dx.drop (off + lf.length)) (dy.drop (off + lf.length))) := by
        rw [← eqL_app lf _ _ _ _ a1 b1, ← List.drop_drop, ← List.drop_drop, List.take_append_drop, List.take_append_drop]
      rw [hsplit]
      simp only [Op.eqFields, hname, ne_eq, not_false_eq_true, if_true, hoff, Sem.run_bind, hx, hy, he, Result.andThen_ok]
      cases eqL ((dx.drop off).take lf.length) ((dy.drop off).take lf.length)
      · simp
      simpa using hrest
    cases h
theorem flat_sim {P : Program} {w : World} {F : Fz} : ∀ (d : Nat) (t : TypeId) (ls : List Lf), flatT P d t = some ls → ∀ n, d ≤ n → EqIs P w F n t ls
  | 0, _, _, h, _, _ => by simp [flatT] at h
  | d + 1, t, ls, h, n, hn => by
    intro dx dy v u hx hy hv hu
    obtain ⟨n, rfl⟩ : ∃ m, n = m + 1 := ⟨n - 1, by omega⟩
    unfold flatT at h
    split at h
    · rename_i hd
      cases h
      simp only [PackRel, hd] at hv hu
      obtain ⟨x, rfl, hv⟩ := hv
      obtain ⟨y, rfl, hu⟩ := hu
      cases x <;> simp only [fitsL, Bool.false_eq_true] at hx
      cases y <;> simp only [fitsL, Bool.false_eq_true] at hy
      have h1 := bool_inv hv
      have h2 := bool_inv hu
      subst h1 h2
      rw [run_equalIn_bool' w n t _ _ hd]
      simp [eqL]
    · rename_i k hd
      cases h
      simp only [PackRel, hd] at hv hu
      obtain ⟨x, rfl, hv⟩ := hv
      obtain ⟨y, rfl, hu⟩ := hu
      cases x <;> simp only [fitsL, Bool.false_eq_true, Bool.and_eq_true, decide_eq_true_eq] at hx
      cases y <;> simp only [fitsL, Bool.false_eq_true, Bool.and_eq_true, decide_eq_true_eq] at hy
      have h1 := int_inv hv
      have h2 := int_inv hu
      obtain ⟨hk1, _⟩ := hx
      obtain ⟨hk2, _⟩ := hy
      subst h1 h2 hk1 hk2
      rw [run_equalIn_int w n t _ _ _ _ hd]
      simp [eqL]
    · rename_i hd
      cases h
      simp only [PackRel, hd] at hv hu
      obtain ⟨x, rfl, hv⟩ := hv
      obtain ⟨y, rfl, hu⟩ := hu
      cases x <;> simp only [fitsL, Bool.false_eq_true] at hx
      cases y <;> simp only [fitsL, Bool.false_eq_true] at hy
      obtain ⟨s1, rfl, rfl⟩ := str_inv hv
      obtain ⟨s2, rfl, rfl⟩ := str_inv hu
      rw [run_equalIn_string w n t _ _ hd]
      simp [eqL, ByteArray.toList_eq]
    · rename_i fs hd
      split at h
      · cases h
      rename_i hst
      simp only [PackRel, hd] at hv hu
      obtain ⟨vs, rfl, hv⟩ := hv
      obtain ⟨us, rfl, hu⟩ := hu
      have hfs : P.fieldsOf t = fs := by simp [Program.fieldsOf, hd]
      rw [run_equalIn_struct w n t _ _ (by rw [hfs]; exact hd) (by simpa using hst), hfs]
      have := eqFields_sim (P := P) (w := w) (F := F) (n := n) (fl := flatT P d) (fun t ls ht => flat_sim d t ls ht n (by omega)) (fun t ls ht => flatT_some ht) hv hu fs.toList 0 ls h (by simpa using hx) (by simpa using hy) (by omega) (by omega)
      simpa using this
    cases h
theorem eqL_comm : ∀ (xs ys : List D), eqL xs ys = eqL ys xs
  | [], [] => rfl
  | [], y :: ys => by cases y <;> rfl
  | x :: xs, [] => by cases x <;> rfl
  | x :: xs, y :: ys => by
    cases x <;> cases y <;> simp only [eqL]
    · rw [eqL_comm xs ys, Bool.beq_comm]
    · rw [eqL_comm xs ys, Bool.beq_comm]
    rw [eqL_comm xs ys, Bool.beq_comm]
theorem eqL_vals {w : World} {F : Fz} : ∀ (l : List Lf) (xs ys : List D) (vs us : List Value), fitsL l xs = true → fitsL l ys = true → RowRel w F vs xs → RowRel w F us ys → eqL xs ys = true → vs = us
  | [], [], [], vs, us, _, _, hv, hu, _ => by
    rw [List.eq_nil_of_length_eq_zero hv.1, List.eq_nil_of_length_eq_zero hu.1]
  | [], _ :: _, _, _, _, h, _, _, _, _ => by simp [fitsL] at h
  | [], [], _ :: _, _, _, _, h, _, _, _ => by simp [fitsL] at h
  | a :: l, [], _, _, _, h, _, _, _, _ => by cases a <;> simp [fitsL] at h
  | a :: l, _ :: _, [], _, _, _, h, _, _, _ => by cases a <;> simp [fitsL] at h
  | a :: l, x :: xs, y :: ys, vs, us, hx, hy, hv, hu, he => by
    obtain ⟨hvl, hvr⟩ := hv
    obtain ⟨hul, hur⟩ := hu
    cases vs with
    | nil => simp at hvl
    | cons v vs =>
      cases us with
      | nil => simp at hul
      | cons u us =>
        obtain ⟨v', hv0, hvx⟩ := hvr 0 x rfl
        obtain ⟨u', hu0, huy⟩ := hur 0 y rfl
        cases hv0
        cases hu0
        have hv' : RowRel w F vs xs := ⟨by simpa using hvl, fun j z hj => by simpa using hvr (j + 1) z (by simpa using hj)⟩
        have hu' : RowRel w F us ys := ⟨by simpa using hul, fun j z hj => by simpa using hur (j + 1) z (by simpa using hj)⟩
        cases a <;> cases x <;> simp only [fitsL, Bool.false_eq_true, Bool.and_eq_true, decide_eq_true_eq] at hx <;> cases y <;> simp only [fitsL, Bool.false_eq_true, Bool.and_eq_true, decide_eq_true_eq] at hy <;>
          simp only [eqL, Bool.and_eq_true, beq_iff_eq] at he
        · obtain ⟨e1, e2⟩ := he
          have h1 := bool_inv hvx
          have h2 := bool_inv huy
          subst h1 h2 e1
          rw [eqL_vals l xs ys vs us hx hy hv' hu' e2]
        · obtain ⟨e1, e2⟩ := he
          have h1 := int_inv hvx
          have h2 := int_inv huy
          obtain ⟨k1, hx⟩ := hx
          obtain ⟨k2, hy⟩ := hy
          subst h1 h2 e1 k1 k2
          rw [eqL_vals l xs ys vs us hx hy hv' hu' e2]
        obtain ⟨e1, e2⟩ := he
        obtain ⟨s1, rfl, h1⟩ := str_inv hvx
        obtain ⟨s2, rfl, h2⟩ := str_inv huy
        have : s1 = s2 := by
          have h3 : s1.data.toList = s2.data.toList := h1.trans (e1.trans h2.symm)
          have h4 : s1.data = s2.data := Array.toList_inj.1 h3
          cases s1; cases s2; simp at h4; rw [h4]
        subst this
        rw [eqL_vals l xs ys vs us hx hy hv' hu' e2]
theorem bits_flat {w : World} {F : Fz} (n : Nat) : ∀ (l : List Lf) (xs : List D) (vs : List Value), fitsL l xs = true → RowRel w F vs xs → (vs.zip vs).all (fun p => Instr.sameBits n p.1 p.2) = true
  | [], [], vs, _, hv => by rw [List.eq_nil_of_length_eq_zero hv.1]; rfl
  | [], _ :: _, _, h, _ => by simp [fitsL] at h
  | a :: l, [], _, h, _ => by cases a <;> simp [fitsL] at h
  | a :: l, x :: xs, vs, hx, hv => by
    obtain ⟨hvl, hvr⟩ := hv
    cases vs with
    | nil => simp at hvl
    | cons v vs =>
      obtain ⟨v', hv0, hvx⟩ := hvr 0 x rfl
      cases hv0
      have hv' : RowRel w F vs xs := ⟨by simpa using hvl, fun j z hj => by simpa using hvr (j + 1) z (by simpa using hj)⟩
      have hs : Instr.sameBits n v v = true := by
        cases a <;> cases x <;> simp only [fitsL, Bool.false_eq_true] at hx <;> cases hvx <;> simp [Instr.sameBits, bytes_beq]
      have hx' : fitsL l xs = true := by
        cases a <;> cases x <;> simp only [fitsL, Bool.false_eq_true, Bool.and_eq_true] at hx
        · exact hx
        · exact hx.2
        exact hx
      simp only [List.zip_cons_cons, List.all_cons, hs, Bool.true_and]
      exact bits_flat n l xs vs hx' hv'
theorem checkFields_sim {P : Program} {w : World} {F : Fz} {e : Bool} {n : Nat} {fl : TypeId → Option (List Lf)}
    (hfl : ∀ t ls, fl t = some ls → ∀ dx v, fitsL ls dx = true → PackRel P t w F v dx → (Instr.checkKey e n t v).run P w = .ok () w)
    (hf2 : ∀ t ls, fl t = some ls → (P.underlying t).isSome = true ∧ ((∀ fs, P.underlying t ≠ some (.struct fs)) → ls.length = 1 ∧ ∀ d, P.underlying t = some d → d.isRow = false))
    {vs : List Value} {dx : List D} (hv : RowRel w F vs dx) :
    ∀ (fs : List Field) (off : Nat) (l : List Lf), flatFs P fl fs off = some l → fitsL l (dx.drop off) = true → off ≤ dx.length →
      (forIn (m := Sem) fs () (fun f _ => do
        if f.name ≠ "_" then
          Instr.checkKey e n f.type (← part f.type vs.toArray f.offset)
          pure (ForInStep.yield ())
        else pure (ForInStep.yield ()))).run P w = .ok () w
  | [], off, l, h, h1, _ => by simp
  | f :: fs, off, l, h, h1, ho1 => by
    simp only [flatFs] at h
    split at h
    · cases h
    rename_i hno
    simp only [not_or, Decidable.not_not] at hno
    obtain ⟨hname, hoff⟩ := hno
    simp only [Option.bind_eq_some_iff] at h
    obtain ⟨lf, hlf, h⟩ := h
    split at h
    · rename_i hsz
      simp only [Option.map_eq_some_iff] at h
      obtain ⟨lr, hlr, rfl⟩ := h
      obtain ⟨a1, a2, a3⟩ := fits_split lf lr _ h1
      rw [List.drop_drop] at a2
      simp only [List.length_drop] at a3
      obtain ⟨hsome, hone⟩ := hf2 _ _ hlf
      obtain ⟨x, hx, hxr⟩ := part_row (P := P) (t := f.type) (off := off) (n := lf.length) hv hsome hsz (by omega) hone
      have he := hfl _ _ hlf _ x a1 hxr
      have hrest := checkFields_sim hfl hf2 hv fs (off + lf.length) lr hlr a2 (by omega)
      rw [List.forIn_cons]
      simp only [hname, ne_eq, not_false_eq_true, if_true, hoff, Sem.run_bind, hx, he, Result.andThen_ok, Sem.run_pure]
      exact hrest
    cases h
theorem flat_check {P : Program} {w : World} {F : Fz} {e : Bool} : ∀ (d : Nat) (t : TypeId) (ls : List Lf), flatT P d t = some ls → ∀ n, d ≤ n → ∀ dx v, fitsL ls dx = true → PackRel P t w F v dx → (Instr.checkKey e n t v).run P w = .ok () w
  | 0, _, _, h, _, _ => by simp [flatT] at h
  | d + 1, t, ls, h, n, hn => by
    intro dx v hx hv
    obtain ⟨n, rfl⟩ : ∃ m, n = m + 1 := ⟨n - 1, by omega⟩
    have h' := h
    unfold flatT at h
    split at h
    · rename_i hd
      cases h
      simp only [PackRel, hd] at hv
      obtain ⟨x, rfl, hv⟩ := hv
      cases x <;> simp only [fitsL, Bool.false_eq_true] at hx
      cases hv
      exact run_checkKey (d := .bool) (k := .bool _) hd trivial e n
    · rename_i k hd
      cases h
      simp only [PackRel, hd] at hv
      obtain ⟨x, rfl, hv⟩ := hv
      cases x <;> simp only [fitsL, Bool.false_eq_true, Bool.and_eq_true, decide_eq_true_eq] at hx
      cases hv
      exact run_checkKey (d := .int k) (k := .int _ _) hd hx.1.symm e n
    · rename_i hd
      cases h
      simp only [PackRel, hd] at hv
      obtain ⟨x, rfl, hv⟩ := hv
      cases x <;> simp only [fitsL, Bool.false_eq_true] at hx
      cases hv
      exact run_checkKey (d := .string) (k := .string _) hd trivial e n
    · rename_i fs hd
      split at h
      · cases h
      simp only [PackRel, hd] at hv
      obtain ⟨vs, rfl, hv⟩ := hv
      have := checkFields_sim (P := P) (w := w) (F := F) (e := e) (n := n) (fl := flatT P d) (fun t ls ht => flat_check d t ls ht n (by omega)) (fun t ls ht => flatT_some ht) hv fs.toList 0 ls h (by simpa using hx) (by omega)
      unfold Instr.checkKey
      simp only [Sem.run_bind, run_underlying hd, Result.andThen_ok]
      rw [← Array.forIn_toList]
      erw [this]
      rfl
    cases h
end Go.Ab
namespace Go.Ab
open Go.RowKit Go.MapKept
section
variable {X : Ctx} {A : Actn} {E : Env} {s : S} {a : Act}
theorem beq_flip {α : Type} [BEq α] [LawfulBEq α] (a b : α) : (a == b) = (b == a) := by
  rw [Bool.eq_iff_iff, beq_iff_eq, beq_iff_eq]
  exact eq_comm
def Env.setB (E : Env) (b : Nat) (o : Obj) : Env := { E with w := { E.w with heap := E.w.heap.setIfInBounds b o } }
theorem Stp.obj {A : Actn} {E : Env} {h : Hp} (hE : EnvOk A E h) {id b : Nat} {o o' : Ob} {ob' : Obj} (hid : h[id]? = some o) (hk : o.kind ≠ 2) (hk' : o'.kind = o.kind) (hρ : E.ρ id = some b)
    (hs : ∀ off, E.F b off → (E.setB b ob').w.cell? ⟨b, off, none⟩ = E.w.cell? ⟨b, off, none⟩) : Stp A.G.dr E h id (E.setB b ob') (h.set id o') where
  os := rfl
  tape := rfl
  output := rfl
  size := by simp [Env.setB]
  blk k _ hne := by
    have hkb : b ≠ k := fun e => hne ⟨lt_of_get hid, by rw [hρ, e]⟩
    simp [Env.setB, hkb]
  idle := Nat.le_of_lt (lt_of_get hid)
  len := by simp
  len' := by simp; omega
  ρ _ _ _ := rfl
  hh j _ hji := by rw [List.getElem?_set_ne (Ne.symm hji)]
  F _ _ h := h
  F' _ _ h := .inl h
  same c off hf := by
    by_cases hcb : c = b
    · subst hcb; exact hs off hf
    refine World.cell?_of_block ?_
    show (E.w.heap.setIfInBounds b ob')[c]? = _
    simp [Ne.symm hcb]
  at' c _ hc := by
    have hc' : E.ρ id = some c := hc
    rw [hρ] at hc'
    cases hc'
    have := (hE.base id b (lt_of_get hid) hρ).2
    exact ⟨by simpa [Env.setB] using this, .inr ⟨lt_of_get hid, hρ⟩⟩
  keep o2 ho := by
    rw [hid] at ho
    cases ho
    have hat : (h.set id o')[id]? = some o' := by simp [lt_of_get hid]
    cases o <;> first | exact absurd rfl hk | exact ⟨⟨o', hat, hk'⟩, rfl⟩
theorem setB_heap {E : Env} {b : Nat} {o o' : Obj} (hb : E.w.heap[b]? = some o) : (E.setB b o').w.heap[b]? = some o' := (heap_set hb).1
theorem dv_rel {E : Env} {h : Hp} {x : AV} {p : DV} {v : Value} (hr : x.rel E h v) (hp : x.dv = some p) : p.rel E.w E.F v := by
  unfold AV.dv at hp
  split at hp
  · simp only [Option.map_eq_some_iff] at hp
    obtain ⟨d, hd, rfl⟩ := hp
    exact toD_rel hr hd
  · simp only [Option.map_eq_some_iff] at hp
    obtain ⟨ds, hd, rfl⟩ := hp
    obtain ⟨vs, rfl, hc⟩ := hr
    obtain ⟨hl, hr⟩ := allD_rel _ _ _ hc hd
    exact ⟨vs, rfl, hl.symm, hr⟩
  cases hp
theorem dV_rel {E : Env} {h : Hp} {p : DV} {v : Value} (hr : p.rel E.w E.F v) : p.V.rel E h v := by
  cases p with
  | c x => exact hr
  | agg xs =>
    obtain ⟨vs, rfl, hl, hx⟩ := hr
    refine ⟨vs, rfl, by simp [hl], fun j x hj => ?_⟩
    rw [List.getElem?_map] at hj
    cases hq : xs[j]? with
    | none => simp [hq] at hj
    | some d =>
      simp [hq] at hj
      subst hj
      obtain ⟨u, hu, hru⟩ := hx j d hq
      exact ⟨u, hu, hru, hru.one⟩
def KTy.desc : KTy → Option TypeDesc
  | .bool => some .bool
  | .int k => some (.int k)
  | .string => some .string
  | .agg _ => none
theorem keyTy_inv {k : TypeId} {d : KTy} (h : X.keyTy k = some d) : (∃ td, d.desc = some td ∧ X.P.underlying k = some td) ∨ ∃ l fs, d = .agg l ∧ X.P.underlying k = some (.struct fs) ∧ flatT X.P 6 k = some l := by
  unfold Ctx.keyTy at h
  cases hu : X.P.underlying k with
  | none => simp [hu] at h
  | some td =>
    simp only [hu, Option.bind_some] at h
    cases td <;> simp at h
    · subst h; exact .inl ⟨_, rfl, rfl⟩
    · subst h; exact .inl ⟨_, rfl, rfl⟩
    · subst h; exact .inl ⟨_, rfl, rfl⟩
    obtain ⟨l, hl, rfl⟩ := h
    unfold Ctx.flat at hl
    split at hl
    · cases hl
    exact .inr ⟨_, _, rfl, rfl, hl⟩
theorem isKey_sim {d : KTy} {td : TypeDesc} {k : DV} {w : World} {F : Fz} {v : Value} (hd : d.desc = some td) (hr : k.rel w F v) (h : isKeyA d k = true) : IsKey td v := by
  cases d <;> simp only [KTy.desc, Option.some.injEq, reduceCtorEq] at hd <;> subst hd <;> cases k <;> simp only [isKeyA, Bool.false_eq_true] at h <;> rename_i x <;> cases x <;> simp only [isKeyA, Bool.false_eq_true, beq_iff_eq] at h
  · cases hr; trivial
  · subst h; cases hr; exact rfl
  cases hr; trivial
theorem bytes_eq_iff {a b : ByteArray} : (a == b) = (a.data.toList == b.data.toList) := by
  rw [Bool.eq_iff_iff, bytes_beq]
  constructor
  · rintro rfl; simp
  intro h
  have : a.data.toList = b.data.toList := by simpa using h
  have h2 : a.data = b.data := Array.toList_inj.1 this
  cases a; cases b; simp at h2; rw [h2]
theorem sameNow_sim {d : KTy} {td : TypeDesc} {k e : DV} {w : World} {F : Fz} {uk ue : Value} (hd : d.desc = some td) (hk : k.rel w F uk) (he : e.rel w F ue) (h1 : isKeyA d k = true) (h2 : isKeyA d e = true) : Instr.sameNow td uk ue = some (keyEq e k) := by
  cases d <;> simp only [KTy.desc, Option.some.injEq, reduceCtorEq] at hd <;> subst hd <;> cases k <;> simp only [isKeyA, Bool.false_eq_true] at h1 <;> cases e <;> simp only [isKeyA, Bool.false_eq_true] at h2 <;>
    rename_i x y <;> cases x <;> simp only [isKeyA, Bool.false_eq_true, beq_iff_eq] at h1 <;> cases y <;> simp only [isKeyA, Bool.false_eq_true, beq_iff_eq] at h2
  · cases hk; cases he
    simp only [Instr.sameNow, keyEq, Option.some.injEq]
    exact Bool.beq_comm
  · subst h1; subst h2
    cases hk; cases he
    simp only [Instr.sameNow, keyEq, if_true, Option.some.injEq]
    exact beq_flip _ _
  cases hk; cases he
  simp only [Instr.sameNow, keyEq, Option.some.injEq]
  rw [bytes_eq_iff]
  exact beq_flip _ _
theorem find_sim {d : KTy} {td : TypeDesc} {kd : DV} {w : World} {F : Fz} {k : Value} (hd : d.desc = some td) (hk : kd.rel w F k) (hka : isKeyA d kd = true) : ∀ (l : List MapEntry) (es : MapA) (i : Nat), l.length = es.length →
    (∀ (j : Nat) (p : Nat × DV × DV), es[j]? = some p → ∃ e, l[j]? = some e ∧ p.2.1.rel w F e.key) → (es.all fun e => isKeyA d e.2.1) = true →
    Instr.findNow td k l i = some ((findA kd es).bind fun j => (l[j]?).map fun e => (i + j, e.val))
  | [], es, i, hl, _, _ => by
    have : es = [] := List.eq_nil_of_length_eq_zero (by simpa using hl.symm)
    subst this
    rfl
  | e :: l, es, i, hl, hr, ha => by
    cases es with
    | nil => simp at hl
    | cons p es =>
      obtain ⟨e', he', hkr⟩ := hr 0 p rfl
      cases he'
      simp only [List.all_cons, Bool.and_eq_true] at ha
      have hs := sameNow_sim hd hk hkr hka ha.1
      have ih := find_sim hd hk hka l es (i + 1) (by simpa using hl) (fun j p hj => by simpa using hr (j + 1) p (by simpa using hj)) ha.2
      simp only [Instr.findNow, hs, findA, List.findIdx?_cons]
      cases hq : keyEq p.2.1 kd with
      | true => simp
      | false =>
        rw [ih]
        simp only [findA, Bool.false_eq_true, if_false]
        cases hf : es.findIdx? fun e => keyEq e.2.1 kd with
        | none => simp
        | some j => simp [Nat.add_assoc, Nat.add_comm 1 j]
theorem agg_pack {kt : TypeId} {fs : Array Field} {xs : List D} {w : World} {F : Fz} {v : Value} (hu : X.P.underlying kt = some (.struct fs)) (hr : (DV.agg xs).rel w F v) : PackRel X.P kt w F v xs := by
  obtain ⟨vs, rfl, hl, hx⟩ := hr
  simp only [PackRel, hu]
  exact ⟨vs, rfl, hl, hx⟩
theorem ask_sim {kt : TypeId} {fs : Array Field} {ls : List Lf} {xs : List D} {w : World} {F : Fz} {k : Value} (hu : X.P.underlying kt = some (.struct fs)) (hfl : flatT X.P 6 kt = some ls) (hk : (DV.agg xs).rel w F k) (hka : fitsL ls xs = true) :
    ∀ (l : List MapEntry) (es : MapA) (i : Nat), l.length = es.length → (∀ (j : Nat) (p : Nat × DV × DV), es[j]? = some p → ∃ e, l[j]? = some e ∧ p.2.1.rel w F e.key) → (es.all fun e => isKeyA (.agg ls) e.2.1) = true →
    (Instr.findAsking kt k l i).run X.P w = .ok ((findA (.agg xs) es).bind fun j => (l[j]?).map fun e => (i + j, e.val)) w
  | [], es, i, hl, _, _ => by
    have : es = [] := List.eq_nil_of_length_eq_zero (by simpa using hl.symm)
    subst this
    rfl
  | e :: l, es, i, hl, hr, ha => by
    cases es with
    | nil => simp at hl
    | cons p es =>
      obtain ⟨e', he', hkr⟩ := hr 0 p rfl
      cases he'
      simp only [List.all_cons, Bool.and_eq_true] at ha
      obtain ⟨b, pk, pv⟩ := p
      cases pk with
      | c x => cases x <;> simp [isKeyA] at ha
      | agg ys =>
        have hys : fitsL ls ys = true := ha.1
        have hs : (Op.equal kt k e.key).run X.P w = .ok (eqL xs ys) w := flat_sim 6 kt ls hfl 10000 (by omega) xs ys k e.key hka hys (agg_pack hu hk) (agg_pack hu hkr)
        have ih := ask_sim hu hfl hk hka l es (i + 1) (by simpa using hl) (fun j p hj => by simpa using hr (j + 1) p (by simpa using hj)) ha.2
        unfold Instr.findAsking
        simp only [Sem.run_bind, hs, Result.andThen_ok]
        have hq : keyEq (.agg ys) (.agg xs) = eqL xs ys := eqL_comm ys xs
        simp only [findA, List.findIdx?_cons, hq]
        cases hb : eqL xs ys with
        | true => simp
        | false =>
          simp only [Bool.false_eq_true, if_false, ih]
          simp only [findA]
          cases hf : es.findIdx? fun e => keyEq e.2.1 (.agg xs) with
          | none => simp
          | some j => simp [Nat.add_assoc, Nat.add_comm 1 j]
theorem key_find {kt : TypeId} {d : KTy} {kd : DV} {w : World} {F : Fz} {k : Value} (hd : X.keyTy kt = some d) (hk : kd.rel w F k) (hka : isKeyA d kd = true) (l : List MapEntry) (es : MapA) (hl : l.length = es.length)
    (hr : ∀ (j : Nat) (p : Nat × DV × DV), es[j]? = some p → ∃ e, l[j]? = some e ∧ p.2.1.rel w F e.key) (ha : (es.all fun e => isKeyA d e.2.1) = true) :
    (Instr.findKey kt k l).run X.P w = .ok ((findA kd es).bind fun j => (l[j]?).map fun e => (0 + j, e.val)) w := by
  rcases keyTy_inv hd with ⟨td, h1, h2⟩ | ⟨ls, fs, rfl, h2, h3⟩
  · exact run_findKey h2 (find_sim h1 hk hka l es 0 hl hr ha)
  cases kd with
  | c x => cases x <;> simp [isKeyA] at hka
  | agg xs =>
    have h := ask_sim h2 h3 hk hka l es 0 hl hr ha
    cases l with
    | nil =>
      have : es = [] := List.eq_nil_of_length_eq_zero (by simpa using hl.symm)
      subst this
      exact run_findKey h2 rfl
    | cons e l =>
      have hn : Instr.findNow (.struct fs) k (e :: l) 0 = none := by simp only [Instr.findNow, Instr.sameNow]
      simp only [Instr.findKey, Sem.run_bind, run_underlying h2, Result.andThen_ok, hn]
      exact h
theorem key_check {kt : TypeId} {d : KTy} {kd : DV} {w : World} {F : Fz} {k : Value} (hd : X.keyTy kt = some d) (hk : kd.rel w F k) (hka : isKeyA d kd = true) (e : Bool) : (Instr.checkKey e 10000 kt k).run X.P w = .ok () w := by
  rcases keyTy_inv hd with ⟨td, h1, h2⟩ | ⟨ls, fs, rfl, h2, h3⟩
  · exact run_checkKey h2 (isKey_sim h1 hk hka) e 9999
  cases kd with
  | c x => cases x <;> simp [isKeyA] at hka
  | agg xs => exact flat_check 6 kt ls h3 10000 (by omega) xs k hka (agg_pack h2 hk)
theorem key_stays {d : KTy} {kd : DV} {P : Program} {w w' : World} {F : Fz} {k : Value} (hk : kd.rel w F k) (hka : isKeyA d kd = true) : (Instr.keyThatStays k k).run P w' = .ok k w' := by
  cases hd : d.desc with
  | some td => exact run_keyThatStays (isKey_sim hd hk hka)
  | none =>
    cases d <;> simp only [KTy.desc, reduceCtorEq] at hd
    cases kd with
    | c x => cases x <;> simp [isKeyA] at hka
    | agg xs =>
      obtain ⟨vs, rfl, hl, hx⟩ := hk
      have hz := bits_flat 9999 _ xs vs hka ⟨hl, hx⟩
      have : Instr.sameBits 10000 (.agg vs.toArray) (.agg vs.toArray) = true := by
        show ((vs.toArray.size == vs.toArray.size) && (vs.toArray.toList.zip vs.toArray.toList).all fun (x, y) => Instr.sameBits 9999 x y) = true
        simpa using hz
      simp [Instr.keyThatStays, this]
theorem mapTy_inv {t : TypeId} {ty : KTy × TypeId} (h : X.mapTy t = some ty) : ∃ k, X.P.underlying t = some (.map k ty.2) ∧ X.keyTy k = some ty.1 := by
  unfold Ctx.mapTy at h
  cases hu : X.P.underlying t with
  | none => simp [hu] at h
  | some d =>
    simp only [hu, Option.bind_some] at h
    cases d <;> simp at h
    obtain ⟨d, hd, rfl⟩ := h
    exact ⟨_, rfl, hd⟩
theorem zeroV_inv {t : TypeId} {z : V} (h : X.zeroV t = some z) : ∃ v, (∀ w, (zeroValue t).run X.P w = .ok v w) ∧ z.rel E s.h v := by
  unfold Ctx.zeroV at h
  cases hz : X.zero t with
  | none => simp [hz] at h
  | some x =>
    simp only [hz, Option.bind_some] at h
    cases x with
    | tup => cases h
    | v y =>
      cases h
      obtain ⟨i, v, hi, hv, he⟩ := zero_inv hz
      have := litV_rel E s.h v
      rw [← he] at this
      exact ⟨v, fun w => by simp [zeroValue, typeInfo, hi, hv], this⟩
structure MapAt (E : Env) (b : Nat) (es : MapA) (clock : Nat) (ents : Array MapEntry) : Prop where
  heap : E.w.heap[b]? = some (.map ents clock)
  size : ents.size = es.length
  un : ∀ o, ¬ E.F b o
  rd : ∀ (j : Nat) (p : Nat × DV × DV), es[j]? = some p → ∃ e, ents[j]? = some e ∧ e.born = p.1 ∧ p.2.1.rel E.w E.F e.key ∧ p.2.2.rel E.w E.F e.val
theorem MapAt.keys {b : Nat} {es : MapA} {clock : Nat} {ents : Array MapEntry} (m : MapAt E b es clock ents) : ents.toList.length = es.length ∧ ∀ (j : Nat) (p : Nat × DV × DV), es[j]? = some p → ∃ e, ents.toList[j]? = some e ∧ p.2.1.rel E.w E.F e.key :=
  ⟨by simpa using m.size, fun j p hj => let ⟨e, he, _, hk, _⟩ := m.rd j p hj; ⟨e, by simpa using he, hk⟩⟩
theorem findA_lt {k : DV} {es : MapA} {i : Nat} (h : findA k es = some i) : ∃ p, es[i]? = some p ∧ keyEq p.2.1 k = true := by
  unfold findA at h
  rw [List.findIdx?_eq_some_iff_getElem] at h
  obtain ⟨hi, h1, _⟩ := h
  exact ⟨es[i], List.getElem?_eq_getElem hi, h1⟩
theorem lookup_sim (hn : Now X A E s a) {t : TypeId} {x i v : AV} {ux ui : Value} {ok : Bool} (hx : x.rel E s.h ux) (hi : i.rel E s.h ui) (h : X.lookupA s.h t x i ok = some v) :
    ∃ u, (Instr.lookup t ux ui ok).run X.P E.w = .ok u E.w ∧ v.rel E s.h u := by
  unfold Ctx.lookupA at h
  simp only [Option.bind_eq_some_iff] at h
  obtain ⟨ty, hty, es, hes, k, hk, z, hz, h⟩ := h
  obtain ⟨kt, hu, hd⟩ := mapTy_inv hty
  obtain ⟨zv, hzv, hzr⟩ := zeroV_inv (E := E) (s := s) hz
  split at h
  · rename_i hok
    simp only [keysOk, Bool.and_eq_true] at hok
    obtain ⟨hka, hall⟩ := hok
    have hkr := dv_rel hi hk
    have hik := key_stays (P := X.P) (w' := E.w) hkr hka
    have hshow : ∀ (l : Array MapEntry), l.toList.length = es.length → (∀ (j : Nat) (p : Nat × DV × DV), es[j]? = some p → ∃ e, l.toList[j]? = some e ∧ p.2.1.rel E.w E.F e.key) →
        (∀ (j : Nat) (p : Nat × DV × DV), es[j]? = some p → ∃ e, l[j]? = some e ∧ p.2.2.rel E.w E.F e.val) →
        (∀ (w : World), (Instr.lookup t ux ui ok).run X.P E.w = (do
          Instr.checkKey l.isEmpty 10000 kt ui
          let (v, k2) ← match ← Instr.findKey kt ui l.toList with
            | some (_, v) => pure (v, true)
            | none => pure (← zeroValue ty.2, false)
          pure (if ok then .tuple #[v, .bool k2] else v) : Sem Value).run X.P E.w) →
        ∃ u, (Instr.lookup t ux ui ok).run X.P E.w = .ok u E.w ∧ v.rel E s.h u := by
      intro l hl hkeys hvals hrun
      rw [hrun E.w]
      have hck := key_check hd hkr hka l.isEmpty
      have hfk := key_find hd hkr hka l.toList es hl hkeys hall
      simp only [Sem.run_bind, hck, Result.andThen_ok, hfk]
      cases hfa : findA k es with
      | none =>
        have hpk : pickA es k = none := by simp [pickA, hfa]
        simp only [hfa, Option.bind_none, Sem.run_bind, hzv, Result.andThen_ok, Sem.run_pure]
        simp only [hpk, hfa, Option.some.injEq] at h
        subst h
        cases ok
        · exact ⟨zv, rfl, hzr⟩
        · refine ⟨_, rfl, [zv, .bool false], rfl, rfl, fun j x hj => ?_⟩
          match j with
          | 0 => cases hj; exact ⟨_, rfl, hzr⟩
          | 1 => cases hj; exact ⟨_, rfl, .bool _⟩
          | j + 2 => simp at hj
      | some j =>
        obtain ⟨p, hp, _⟩ := findA_lt hfa
        obtain ⟨e, he, hv⟩ := hvals j p hp
        have hpk : pickA es k = some p.2.2 := by simp [pickA, hfa, hp]
        have he' : l.toList[j]? = some e := by simpa using he
        simp only [hfa, Option.bind_some, he', Option.map_some, Sem.run_pure, Result.andThen_ok]
        simp only [hpk, hfa, Option.some.injEq] at h
        subst h
        cases ok
        · exact ⟨e.val, rfl, dV_rel hv⟩
        refine ⟨_, rfl, [e.val, .bool true], rfl, rfl, fun j x hj => ?_⟩
        match j with
        | 0 => cases hj; exact ⟨_, rfl, dV_rel hv⟩
        | 1 => cases hj; exact ⟨_, rfl, .bool _⟩
        | j + 2 => simp at hj
    unfold Ctx.mapOf at hes
    split at hes
    · cases hes
      have : ux = .map none := hx
      subst this
      refine hshow #[] rfl (fun j p hj => by simp at hj) (fun j p hj => by simp at hj) fun w => ?_
      simp only [Instr.lookup, Sem.run_bind, run_underlying hu, Result.andThen_ok, Sem.run_pure]
      rfl
    · rename_i id
      split at hes
      · rename_i es' clock hid
        cases hes
        obtain ⟨b, ⟨_, hρ⟩, rfl⟩ := hx
        obtain ⟨b', ents, hρ', hb, hl, hun, hrd⟩ := hn.rel.env.ob id _ hid
        rw [hρ] at hρ'
        cases hρ'
        have m : MapAt E b es clock ents := ⟨hb, hl, hun, hrd⟩
        refine hshow ents m.keys.1 m.keys.2 (fun j p hj => let ⟨e, he, _, _, hv⟩ := hrd j p hj; ⟨e, he, hv⟩) fun w => ?_
        simp only [Instr.lookup, Sem.run_bind, run_underlying hu, Result.andThen_ok, Go.MapKept.run_getObj_map hb, Sem.run_pure]
        rfl
      cases hes
    cases hes
  cases h
theorem map_done (hn : Now X A E s a) {id b : Nat} {es es' : MapA} {clock clock' : Nat} {ents ents' : Array MapEntry} (hid : s.h[id]? = some (.map es clock)) (hρ : E.ρ id = some b) (m : MapAt E b es clock ents)
    (hl : ents'.size = es'.length) (hr : ∀ (j : Nat) (p : Nat × DV × DV), es'[j]? = some p → ∃ e, ents'[j]? = some e ∧ e.born = p.1 ∧ p.2.1.rel E.w E.F e.key ∧ p.2.2.rel E.w E.F e.val) :
    Evo s.h.length E s.h (E.setB b (.map ents' clock')) (s.h.set id (.map es' clock')) ∧ EnvOk A (E.setB b (.map ents' clock')) (s.h.set id (.map es' clock')) := by
  have st := Stp.obj hn.rel.env (o' := .map es' clock') (ob' := .map ents' clock') hid (fun h => by cases h) rfl hρ (fun off hf => absurd hf (m.un off))
  have ev := st.evo hn.rel.env
  refine ⟨ev, st.ok hn.rel.env fun o ho => ?_⟩
  simp [lt_of_get hid] at ho
  subst ho
  exact ⟨b, ents', hρ, setB_heap m.heap, hl, m.un, fun j p hj => let ⟨e, he, h1, h2, h3⟩ := hr j p hj; ⟨e, he, h1, h2.evo ev, h3.evo ev⟩⟩
theorem mapat_of (hn : Now X A E s a) {id : Nat} {es : MapA} {clock : Nat} {ux : Value} (hx : (C1.mp id).rel E s.h ux) (hid : s.h[id]? = some (.map es clock)) : ∃ b ents, ux = .map (some b) ∧ E.ρ id = some b ∧ MapAt E b es clock ents := by
  obtain ⟨b, ⟨_, hρ⟩, rfl⟩ := hx
  obtain ⟨b', ents, hρ', hb, hl, hun, hrd⟩ := hn.rel.env.ob id _ hid
  rw [hρ] at hρ'
  cases hρ'
  exact ⟨b, ents, rfl, hρ, hb, hl, hun, hrd⟩
theorem keyEq_val {d : KTy} {a b : DV} {w : World} {F : Fz} {u v : Value} (ha : a.rel w F u) (hb : b.rel w F v) (h1 : isKeyA d a = true) (h2 : isKeyA d b = true) (h : keyEq a b = true) : u = v := by
  cases hd : d.desc with
  | some td =>
    have hs := sameNow_sim hd hb ha h2 h1
    rw [h] at hs
    obtain ⟨r, hr, hiff⟩ := sameNow_of_keys (isKey_sim hd hb h2) (isKey_sim hd ha h1)
    rw [hr] at hs
    cases hs
    exact (hiff.1 rfl).symm
  | none =>
    cases d <;> simp only [KTy.desc, reduceCtorEq] at hd
    cases a with
    | c x => cases x <;> simp [isKeyA] at h1
    | agg xs => cases b with
      | c x => cases x <;> simp [isKeyA] at h2
      | agg ys =>
        obtain ⟨vs, rfl, hl, hx⟩ := ha
        obtain ⟨us, rfl, hl2, hx2⟩ := hb
        rw [eqL_vals _ xs ys vs us h1 h2 ⟨hl, hx⟩ ⟨hl2, hx2⟩ h]
theorem modify_get {α : Type} {l : List α} {f : α → α} {i j : Nat} : (l.modify i f)[j]? = if i = j then (l[j]?).map f else l[j]? := by
  rw [List.getElem?_modify]
  split <;> cases l[j]? <;> rfl
theorem update_sim (hn : Now X A E s a) {t : TypeId} {x i v : AV} {ux ui uv : Value} {h' : Hp} (hx : x.rel E s.h ux) (hi : i.rel E s.h ui) (hv : v.rel E s.h uv) (h : X.updateA s.h t x i v = some h') :
    ∃ E', (Instr.mapUpdate t ux ui uv).run X.P E.w = .ok () E'.w ∧ Evo s.h.length E s.h E' h' ∧ EnvOk A E' h' := by
  unfold Ctx.updateA at h
  simp only [Option.bind_eq_some_iff] at h
  obtain ⟨ty, hty, h⟩ := h
  obtain ⟨kt, hu, hd⟩ := mapTy_inv hty
  split at h
  · rename_i id
    split at h
    · rename_i es clock hid
      simp only [Option.bind_eq_some_iff] at h
      obtain ⟨k, hk, y, hy, h⟩ := h
      split at h
      · rename_i hok
        cases h
        simp only [keysOk, Bool.and_eq_true] at hok
        obtain ⟨hka, hall⟩ := hok
        have hkr := dv_rel hi hk
        have hyr := dv_rel hv hy
        have hik := fun w' => key_stays (P := X.P) (w' := w') hkr hka
        obtain ⟨b, ents, rfl, hρ, m⟩ := mapat_of hn hx hid
        have hck := key_check hd hkr hka false
        have hfk := key_find hd hkr hka ents.toList es m.keys.1 m.keys.2 hall
        cases hfa : findA k es with
        | none =>
          rw [hfa] at hfk
          simp only [Option.bind_none] at hfk
          have hrun : (Instr.mapUpdate t (.map (some b)) ui uv).run X.P E.w = .ok () (E.setB b (.map (ents.push { key := ui, val := uv, born := clock }) (clock + 1))).w := by
            simp only [Instr.mapUpdate, Sem.run_bind, run_underlying hu, Result.andThen_ok, Go.MapKept.run_getObj_map m.heap, hck, hfk, run_setObj_map _ m.heap]
            rfl
          have hput : putA es clock k y = .map (es ++ [(clock, k, y)]) (clock + 1) := by simp [putA, hfa]
          rw [hput]
          obtain ⟨ev, hok⟩ := map_done (es' := es ++ [(clock, k, y)]) (clock' := clock + 1) (ents' := ents.push { key := ui, val := uv, born := clock }) hn hid hρ m (by simp [m.size]) (fun j p hj => by
            by_cases hjl : j < es.length
            · rw [List.getElem?_append_left hjl] at hj
              rw [Array.getElem?_push_lt (by rw [m.size]; exact hjl)]
              have := m.rd j p hj
              rwa [Array.getElem?_eq_getElem (by rw [m.size]; exact hjl)] at this
            · rw [List.getElem?_append_right (by omega)] at hj
              have hj0 : j - es.length = 0 := by have := lt_of_get hj; simp at this; omega
              rw [hj0] at hj
              cases hj
              have : j = ents.size := by rw [m.size]; omega
              subst this
              exact ⟨_, Array.getElem?_push_size, rfl, hkr, hyr⟩)
          exact ⟨_, hrun, ev, hok⟩
        | some j =>
          obtain ⟨p, hp, hpk⟩ := findA_lt hfa
          obtain ⟨e, he, hb1, hb2, hb3⟩ := m.rd j p hp
          have he' : ents.toList[j]? = some e := by simpa using he
          rw [hfa] at hfk
          simp only [Option.bind_some, he', Option.map_some, Nat.zero_add] at hfk
          have hpa : isKeyA ty.1 p.2.1 = true := by
            rw [List.all_eq_true] at hall
            exact hall p (List.mem_of_getElem? hp)
          have hkey : e.key = ui := keyEq_val hb2 hkr hpa hka hpk
          have hrun : (Instr.mapUpdate t (.map (some b)) ui uv).run X.P E.w = .ok () (E.setB b (.map (ents.modify j fun e => { e with key := ui, val := uv }) clock)).w := by
            simp only [Instr.mapUpdate, Sem.run_bind, run_underlying hu, Result.andThen_ok, Go.MapKept.run_getObj_map m.heap, hck, hfk, he, Option.map_some, Option.getD_some, hkey, hik, run_setObj_map _ m.heap]
            rfl
          have hput : putA es clock k y = .map (es.modify j fun e => (e.1, k, y)) clock := by simp [putA, hfa]
          rw [hput]
          obtain ⟨ev, hok⟩ := map_done (es' := es.modify j fun e => (e.1, k, y)) (clock' := clock) (ents' := ents.modify j fun e => { e with key := ui, val := uv }) hn hid hρ m (by simp [m.size]) (fun i q hq => by
            rw [modify_get] at hq
            rw [Array.getElem?_modify]
            by_cases hji : j = i
            · subst hji
              rw [if_pos rfl, hp] at hq
              cases hq
              rw [if_pos rfl, he]
              exact ⟨_, rfl, hb1, hkr, hyr⟩
            · rw [if_neg hji] at hq ⊢
              exact m.rd i q hq)
          exact ⟨_, hrun, ev, hok⟩
      cases h
    cases h
  cases h
theorem entry_sim (hn : Now X A E s a) {t : TypeId} {x i v : AV} {ux ui : Value} {h' : Hp} (hx : x.rel E s.h ux) (hi : i.rel E s.h ui) (h : X.entryA s.h t x i = some (v, h')) :
    ∃ u E', (Instr.mapEntry t ux ui).run X.P E.w = .ok u E'.w ∧ Evo s.h.length E s.h E' h' ∧ EnvOk A E' h' ∧ v.rel E' h' u := by
  unfold Ctx.entryA at h
  simp only [Option.bind_eq_some_iff] at h
  obtain ⟨ty, hty, h⟩ := h
  obtain ⟨kt, hu, hd⟩ := mapTy_inv hty
  split at h
  · rename_i id
    split at h
    · rename_i es clock hid
      simp only [Option.bind_eq_some_iff] at h
      obtain ⟨k, hk, h⟩ := h
      split at h
      · rename_i hok
        simp only [keysOk, Bool.and_eq_true] at hok
        obtain ⟨hka, hall⟩ := hok
        have hkr := dv_rel hi hk
        have hik := fun w' => key_stays (P := X.P) (w' := w') hkr hka
        obtain ⟨b, ents, rfl, hρ, m⟩ := mapat_of hn hx hid
        have hck := key_check hd hkr hka false
        have hfk := key_find hd hkr hka ents.toList es m.keys.1 m.keys.2 hall
        cases hfa : findA k es with
        | none =>
          simp only [hfa, Option.bind_eq_some_iff, Option.map_eq_some_iff] at h
          obtain ⟨z, hz, y, hy, h⟩ := h
          cases h
          obtain ⟨zv, hzv, hzr⟩ := zeroV_inv (E := E) (s := s) hz
          have hyr : y.rel E.w E.F zv := dv_rel (E := E) (h := s.h) (x := .v z) hzr hy
          rw [hfa] at hfk
          simp only [Option.bind_none] at hfk
          have hrun : (Instr.mapEntry t (.map (some b)) ui).run X.P E.w = .ok (.tuple #[zv, .int .i64 clock]) (E.setB b (.map (ents.push { key := ui, val := zv, born := clock }) (clock + 1))).w := by
            simp only [Instr.mapEntry, Sem.run_bind, run_underlying hu, Result.andThen_ok, Go.MapKept.run_getObj_map m.heap, hck, hfk, hzv, run_setObj_map _ m.heap, Sem.run_pure, goInt]
            rfl
          obtain ⟨ev, hok⟩ := map_done (es' := es ++ [(clock, k, y)]) (clock' := clock + 1) (ents' := ents.push { key := ui, val := zv, born := clock }) hn hid hρ m (by simp [m.size]) (fun j p hj => by
            by_cases hjl : j < es.length
            · rw [List.getElem?_append_left hjl] at hj
              rw [Array.getElem?_push_lt (by rw [m.size]; exact hjl)]
              have := m.rd j p hj
              rwa [Array.getElem?_eq_getElem (by rw [m.size]; exact hjl)] at this
            · rw [List.getElem?_append_right (by omega)] at hj
              have hj0 : j - es.length = 0 := by have := lt_of_get hj; simp at this; omega
              rw [hj0] at hj
              cases hj
              have : j = ents.size := by rw [m.size]; omega
              subst this
              exact ⟨_, Array.getElem?_push_size, rfl, hkr, hyr⟩)
          refine ⟨_, _, hrun, ev, hok, [zv, .int .i64 clock], rfl, rfl, fun j x hj => ?_⟩
          match j with
          | 0 => cases hj; exact ⟨_, rfl, hzr.evo ev (Nat.le_refl _)⟩
          | 1 => cases hj; exact ⟨_, rfl, .int _ _⟩
          | j + 2 => simp at hj
        | some j =>
          obtain ⟨p, hp, hpk⟩ := findA_lt hfa
          obtain ⟨e, he, hb1, hb2, hb3⟩ := m.rd j p hp
          have he' : ents.toList[j]? = some e := by simpa using he
          simp only [hfa, hp, Option.map_some] at h
          cases h
          rw [hfa] at hfk
          simp only [Option.bind_some, he', Option.map_some, Nat.zero_add] at hfk
          have hpa : isKeyA ty.1 p.2.1 = true := by
            rw [List.all_eq_true] at hall
            exact hall p (List.mem_of_getElem? hp)
          have hkey : e.key = ui := keyEq_val hb2 hkr hpa hka hpk
          have hrun : (Instr.mapEntry t (.map (some b)) ui).run X.P E.w = .ok (.tuple #[e.val, .int .i64 p.1]) (E.setB b (.map (ents.modify j fun e => { e with key := ui }) clock)).w := by
            simp only [Instr.mapEntry, Sem.run_bind, run_underlying hu, Result.andThen_ok, Go.MapKept.run_getObj_map m.heap, hck, hfk, he, Option.map_some, Option.getD_some, hkey, hik, run_setObj_map _ m.heap, Sem.run_pure, goInt, hb1]
            rfl
          obtain ⟨ev, hok⟩ := map_done (es' := es.modify j fun e => (e.1, k, e.2.2)) (clock' := clock) (ents' := ents.modify j fun e => { e with key := ui }) hn hid hρ m (by simp [m.size]) (fun i q hq => by
            rw [modify_get] at hq
            rw [Array.getElem?_modify]
            by_cases hji : j = i
            · subst hji
              rw [if_pos rfl, hp] at hq
              cases hq
              rw [if_pos rfl, he]
              exact ⟨_, rfl, hb1, hkr, hb3⟩
            · rw [if_neg hji] at hq ⊢
              exact m.rd i q hq)
          refine ⟨_, _, hrun, ev, hok, [e.val, .int .i64 p.1], rfl, rfl, fun j x hj => ?_⟩
          match j with
          | 0 => cases hj; exact ⟨_, rfl, dV_rel (hb3.evo ev)⟩
          | 1 => cases hj; exact ⟨_, rfl, .int _ _⟩
          | j + 2 => simp at hj
      cases h
    cases h
  cases h
theorem findIdx_sim {b : Nat} {es : MapA} {clock : Nat} {n : Int} : ∀ (l : List MapEntry) (es : MapA), l.length = es.length → (∀ (j : Nat) (p : Nat × DV × DV), es[j]? = some p → ∃ e, l[j]? = some e ∧ e.born = p.1) →
    l.findIdx? (fun e => (e.born : Int) == n) = es.findIdx? (fun e => (e.1 : Int) == n)
  | [], es, hl, _ => by
    have : es = [] := List.eq_nil_of_length_eq_zero (by simpa using hl.symm)
    subst this
    rfl
  | e :: l, es, hl, hr => by
    cases es with
    | nil => simp at hl
    | cons p es =>
      obtain ⟨e', he', hb⟩ := hr 0 p rfl
      cases he'
      rw [List.findIdx?_cons, List.findIdx?_cons, hb, findIdx_sim (b := b) (es := []) (clock := clock) l es (by simpa using hl) (fun j p hj => by simpa using hr (j + 1) p (by simpa using hj))]
theorem entryPut_sim (hn : Now X A E s a) {t : TypeId} {x i v : AV} {ux ui uv : Value} {h' : Hp} (hx : x.rel E s.h ux) (hi : i.rel E s.h ui) (hv : v.rel E s.h uv) (h : X.entryPutA s.h x i v = some h') :
    ∃ E', (Instr.entryStore t ux ui uv).run X.P E.w = .ok () E'.w ∧ Evo s.h.length E s.h E' h' ∧ EnvOk A E' h' := by
  unfold Ctx.entryPutA at h
  split at h
  · rename_i id k n
    split at h
    · rename_i es clock hid
      simp only [Option.bind_eq_some_iff, Option.map_eq_some_iff] at h
      obtain ⟨y, hy, j, hj, rfl⟩ := h
      have hyr := dv_rel hv hy
      have hiv := int_inv (rel_d hi)
      subst hiv
      obtain ⟨b, ents, rfl, hρ, m⟩ := mapat_of hn hx hid
      have hf : ents.findIdx? (fun e => (e.born : Int) == n) = some j := by
        have e0 : ents = ents.toList.toArray := by simp
        rw [e0, List.findIdx?_toArray, findIdx_sim (b := 0) (es := []) (clock := 0) ents.toList es m.keys.1 (fun j p hj => let ⟨e, he, h1, _⟩ := m.rd j p hj; ⟨e, by simpa using he, h1⟩)]
        exact hj
      have hrun : (Instr.entryStore t (.map (some b)) (.int k n) uv).run X.P E.w = .ok () (E.setB b (.map (ents.modify j fun e => { e with val := uv }) clock)).w := by
        simp only [Instr.entryStore, Sem.run_bind, Result.andThen_ok, Go.MapKept.run_getObj_map m.heap, asInt, asIntOf, Sem.run_pure, hf, run_setObj_map _ m.heap]
        rfl
      obtain ⟨ev, hok⟩ := map_done (es' := es.modify j fun e => (e.1, e.2.1, y)) (clock' := clock) (ents' := ents.modify j fun e => { e with val := uv }) hn hid hρ m (by simp [m.size]) (fun i q hq => by
        rw [modify_get] at hq
        rw [Array.getElem?_modify]
        by_cases hji : j = i
        · subst hji
          rw [if_pos rfl] at hq
          simp only [Option.map_eq_some_iff] at hq
          obtain ⟨p, hp, rfl⟩ := hq
          obtain ⟨e, he, h1, h2, h3⟩ := m.rd j p hp
          rw [if_pos rfl, he]
          exact ⟨_, rfl, h1, h2, hyr⟩
        · rw [if_neg hji] at hq ⊢
          exact m.rd i q hq)
      exact ⟨_, hrun, ev, hok⟩
    cases h
  cases h
theorem delete_sim (hn : Now X A E s a) {t ty : TypeId} {ts : List TypeId} {x i : AV} {ux ui : Value} {h' : Hp} (hx : x.rel E s.h ux) (hi : i.rel E s.h ui) (h : X.deleteA s.h t x i = some h') :
    ∃ E', (Builtin.delete_ (t :: ts).toArray ty #[ux, ui]).run X.P E.w = .ok (.tuple #[]) E'.w ∧ Evo s.h.length E s.h E' h' ∧ EnvOk A E' h' := by
  unfold Ctx.deleteA at h
  simp only [Option.bind_eq_some_iff] at h
  obtain ⟨ty', hty, h⟩ := h
  obtain ⟨kt, hu, hd⟩ := mapTy_inv hty
  split at h
  · rename_i id
    split at h
    · rename_i es clock hid
      simp only [Option.bind_eq_some_iff] at h
      obtain ⟨k, hk, h⟩ := h
      split at h
      · rename_i hok
        cases h
        simp only [keysOk, Bool.and_eq_true] at hok
        obtain ⟨hka, hall⟩ := hok
        have hkr := dv_rel hi hk
        have hik := fun w' => key_stays (P := X.P) (w' := w') hkr hka
        obtain ⟨b, ents, rfl, hρ, m⟩ := mapat_of hn hx hid
        have hck := key_check hd hkr hka ents.isEmpty
        have hfk := key_find hd hkr hka ents.toList es m.keys.1 m.keys.2 hall
        cases hfa : findA k es with
        | none =>
          rw [hfa] at hfk
          simp only [Option.bind_none] at hfk
          have hrun : (Builtin.delete_ (t :: ts).toArray ty #[.map (some b), ui]).run X.P E.w = .ok (.tuple #[]) (E.setB b (.map ents clock)).w := by
            simp only [Builtin.delete_, Sem.run_bind, List.getElem?_toArray, List.getElem?_cons_zero, List.getElem?_cons_succ, run_underlying hu, Result.andThen_ok, Go.MapKept.run_getObj_map m.heap, hck, hfk, run_setObj_map _ m.heap, Sem.run_pure]
            rfl
          obtain ⟨ev, hok⟩ := map_done (es' := es) (clock' := clock) (ents' := ents) hn hid hρ m m.size m.rd
          exact ⟨_, hrun, ev, hok⟩
        | some j =>
          obtain ⟨p, hp, hpk⟩ := findA_lt hfa
          obtain ⟨e, he, hb1, hb2, hb3⟩ := m.rd j p hp
          have he' : ents.toList[j]? = some e := by simpa using he
          rw [hfa] at hfk
          simp only [Option.bind_some, he', Option.map_some, Nat.zero_add] at hfk
          have hjl : j < ents.size := by rw [m.size]; exact lt_of_get hp
          have hrun : (Builtin.delete_ (t :: ts).toArray ty #[.map (some b), ui]).run X.P E.w = .ok (.tuple #[]) (E.setB b (.map (ents.eraseIdxIfInBounds j) clock)).w := by
            simp only [Builtin.delete_, Sem.run_bind, List.getElem?_toArray, List.getElem?_cons_zero, List.getElem?_cons_succ, run_underlying hu, Result.andThen_ok, Go.MapKept.run_getObj_map m.heap, hck, hfk, run_setObj_map _ m.heap, Sem.run_pure]
            rfl
          have herase : (ents.eraseIdxIfInBounds j).toList = ents.toList.eraseIdx j := by
            unfold Array.eraseIdxIfInBounds
            rw [dif_pos hjl, Array.toList_eraseIdx]
          obtain ⟨ev, hok⟩ := map_done (es' := es.eraseIdx j) (clock' := clock) (ents' := ents.eraseIdxIfInBounds j) hn hid hρ m (by
              rw [← Array.length_toList, herase, List.length_eraseIdx, List.length_eraseIdx, Array.length_toList, m.size]) (fun i q hq => by
            rw [← Array.getElem?_toList, herase, List.getElem?_eraseIdx]
            rw [List.getElem?_eraseIdx] at hq
            split at hq
            · rename_i hij
              rw [if_pos hij]
              obtain ⟨e, he, h1⟩ := m.rd i q hq
              exact ⟨e, by simpa using he, h1⟩
            · rename_i hij
              rw [if_neg hij]
              obtain ⟨e, he, h1⟩ := m.rd (i + 1) q hq
              exact ⟨e, by simpa using he, h1⟩)
          exact ⟨_, hrun, ev, hok⟩
      cases h
    cases h
  cases h
theorem range_sim (hn : Now X A E s a) {t : TypeId} {l : List UInt8} {u : Value} (hu : X.P.underlying t = some .string) (hx : (C1.d (.str l)).rel E s.h u) :
    ∃ v E', (Instr.range t u).run X.P E.w = .ok v E'.w ∧ Evo s.h.length E s.h E' (s.h ++ [.siter l 0]) ∧ EnvOk A E' (s.h ++ [.siter l 0]) ∧ (C1.it s.h.length).rel E' (s.h ++ [.siter l 0]) v := by
  obtain ⟨b, rfl, rfl⟩ := str_inv hx
  have hb : (⟨b.data.toList.toArray⟩ : ByteArray) = b := by simp
  have st := Stp.new hn.rel.env (.stringIter b 0) (.siter b.data.toList 0)
  have ev := st.evo hn.rel.env
  refine ⟨_, _, run_range_string E.w t b hu, ev, st.ok hn.rel.env fun o ho => ?_, ?_⟩
  · simp at ho
    subst ho
    refine ⟨E.w.heap.size, by simp [Env.newOb], ?_⟩
    rw [hb]
    exact heap_alloc_new _ _
  exact ⟨_, new_at, rfl⟩
theorem next_sim (hn : Now X A E s a) {ty : TypeId} {x v : AV} {u : Value} {str : Bool} {h' : Hp} (hx : x.rel E s.h u) (h : X.nextA s.h x str = some (v, h')) :
    ∃ r E', (Instr.next u str ty).run X.P E.w = .ok r E'.w ∧ Evo s.h.length E s.h E' h' ∧ EnvOk A E' h' ∧ v.rel E' h' r := by
  unfold Ctx.nextA at h
  split at h
  · rename_i id
    split at h
    · rename_i l pos hid
      obtain ⟨b, ⟨_, hρ⟩, rfl⟩ := hx
      obtain ⟨b', hρ', hb⟩ := hn.rel.env.ob id _ hid
      rw [hρ] at hρ'
      cases hρ'
      have hsz : (⟨l.toArray⟩ : ByteArray).size = l.length := by simp [ByteArray.size]
      split at h
      · rename_i hlt
        cases h
        have hlt' : pos < (⟨l.toArray⟩ : ByteArray).size := by rw [hsz]; exact hlt
        have st := Stp.obj hn.rel.env (o' := .siter l (pos + (Utf8.decode ⟨l.toArray⟩ pos).2)) (ob' := .stringIter ⟨l.toArray⟩ (pos + (Utf8.decode ⟨l.toArray⟩ pos).2)) hid (fun h => by cases h) rfl hρ (fun off _ => by
          simp only [World.cell?, setB_heap hb, hb])
        have ev := st.evo hn.rel.env
        have hok := st.ok hn.rel.env fun o ho => by
          simp [lt_of_get hid] at ho
          subst ho
          exact ⟨b, hρ, setB_heap hb⟩
        refine ⟨.tuple #[.bool true, .int .i64 pos, .int .i32 (Utf8.decode ⟨l.toArray⟩ pos).1], _, ?_, ev, hok, [.bool true, .int .i64 pos, .int .i32 (Utf8.decode ⟨l.toArray⟩ pos).1], rfl, rfl, fun j x hj => ?_⟩
        · simp only [Instr.next, getObj, setObj, Sem.run_bind, Sem.run, hb, Result.andThen, hlt', if_true, goInt]
          rfl
        match j with
        | 0 => cases hj; exact ⟨_, rfl, .bool _⟩
        | 1 => cases hj; exact ⟨_, rfl, .int _ _⟩
        | 2 => cases hj; exact ⟨_, rfl, .int _ _⟩
        | j + 3 => simp at hj
      rename_i hlt
      cases h
      have hlt' : ¬ pos < (⟨l.toArray⟩ : ByteArray).size := by rw [hsz]; exact hlt
      refine ⟨.tuple #[.bool false], E, ?_, Evo.refl (Nat.le_refl _), hn.rel.env, [.bool false], rfl, rfl, fun j x hj => ?_⟩
      · simp only [Instr.next, getObj, Sem.run_bind, Sem.run, hb, Result.andThen, hlt', if_false]
        rfl
      match j with
      | 0 => cases hj; exact ⟨_, rfl, .bool _⟩
      | j + 1 => simp at hj
    cases h
  cases h
theorem lenM_msl {t ty : TypeId} {id n m z : Nat} {c : Option (List C1)} {e : TypeId} {u : Value} (hx : (C1.msl id n).rel E s.h u) (hu : X.P.underlying t = some (.slice e)) (hid : s.h[id]? = some (.tok m z c)) (hn : n = m) :
    (Builtin.len_ #[t] ty #[u]).run X.P E.w = .ok (.int .i64 n) E.w := by
  obtain ⟨_, m', z', c', hid', _, ho⟩ := hx
  rw [hid] at hid'
  cases hid'
  have ho := ho hn
  subst hn
  unfold OwnRow at ho
  split at ho
  · obtain ⟨⟨base, rfl, hsp⟩, rfl⟩ := ho
    simp [Builtin.len_, run_underlying hu, goInt]
  obtain ⟨cap, _, _, rfl, _⟩ := ho
  simp [Builtin.len_, run_underlying hu, goInt]
theorem lenM_mso {t ty : TypeId} {id m o n : Nat} {e : TypeId} {u : Value} (hx : (C1.mso id m o n).rel E s.h u) (hu : X.P.underlying t = some (.slice e)) :
    (Builtin.len_ #[t] ty #[u]).run X.P E.w = .ok (.int .i64 n) E.w := by
  obtain ⟨b, cap, rfl, _⟩ := hx
  simp [Builtin.len_, run_underlying hu, goInt]
theorem lenM_map (henv : EnvOk A E s.h) {t ty : TypeId} {id clock : Nat} {es : MapA} {k e : TypeId} {u : Value} (hx : (C1.mp id).rel E s.h u) (hu : X.P.underlying t = some (.map k e)) (hid : s.h[id]? = some (.map es clock)) :
    (Builtin.len_ #[t] ty #[u]).run X.P E.w = .ok (.int .i64 es.length) E.w := by
  obtain ⟨b, ⟨_, hρ⟩, rfl⟩ := hx
  obtain ⟨b', ents, hρ', hb, hl, _⟩ := henv.ob id _ hid
  rw [hρ] at hρ'
  cases hρ'
  simp [Builtin.len_, run_underlying hu, goInt, Go.MapKept.run_getObj_map hb, hl]
theorem indexAddrM_sim (henv : EnvOk A E s.h) {t : TypeId} {x : AV} {ux : Value} {k : IntKind} {i : Int} {c : C1} (hx : x.rel E s.h ux) (h : X.indexAddrM s.h t x i = some c) :
    ∃ u, (Instr.indexAt t ux (.int k i)).run X.P E.w = .ok u E.w ∧ c.rel E s.h u := by
  unfold Ctx.indexAddrM at h
  split at h
  · rename_i id n
    split at h
    · rename_i e m z ds hu hid
      split at h
      · rename_i hc
        obtain ⟨rfl, hi0, hin, hz⟩ := hc
        cases h
        obtain ⟨_, m', z', c', hid', _, ho⟩ := hx
        rw [hid] at hid'
        cases hid'
        have ho := ho rfl
        unfold OwnRow at ho
        split at ho
        · obtain ⟨_, h0⟩ := ho; omega
        rename_i b hρ
        obtain ⟨cap, vs, T, rfl, _⟩ := ho
        refine ⟨.pointer (some ⟨b, i.toNat * z, none⟩), ?_, b, rfl, _, _, _, hid, Nat.le_refl _, fun _ => hρ⟩
        simp only [Instr.indexAt, run_underlying hu, asIntOf, Sem.run_bind, Sem.run_pure, Result.andThen_ok]
        rw [if_pos ⟨hi0, by omega⟩]
        simp [run_sizeOf (size_info hz), Addr.add_zero_none]
      cases h
    cases h
  · rename_i id k o n
    split at h
    · rename_i e m z ds hu hid
      split at h
      · rename_i hc
        obtain ⟨rfl, hi0, hin, hz⟩ := hc
        cases h
        obtain ⟨b, cap, rfl, _, m', z', c', hid', _, ho⟩ := hx
        rw [hid] at hid'
        cases hid'
        have ho := ho rfl
        refine ⟨.pointer (some ⟨b, o + i.toNat * z, none⟩), ?_, b, rfl, _, _, _, hid, Nat.le_refl _, fun _ => ho.1⟩
        simp only [Instr.indexAt, run_underlying hu, asIntOf, Sem.run_bind, Sem.run_pure, Result.andThen_ok]
        rw [if_pos ⟨hi0, by omega⟩]
        simp [run_sizeOf (size_info hz), Addr.add_zero_none]
      cases h
    cases h
  exact indexAddr_sim hx h
end
end Go.Ab
