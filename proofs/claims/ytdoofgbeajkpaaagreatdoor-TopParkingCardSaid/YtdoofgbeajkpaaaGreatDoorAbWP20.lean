/-
  Texts of the layer and of the laws, put together: AbC7, AbC14.
-/
import Derived.Test.YtdoofgbeajkpaaaGreatDoorAbWP19
set_option linter.unusedSimpArgs false
set_option linter.unusedVariables false
set_option maxRecDepth 100000
namespace Go.Ab
open Go.RowKit Go.Proofs
def mxI (f x : Int) : Int := if x > f then x else f
def mnI (t y : Int) : Int := if y < t then y else t
def spStep (a b c f t dd : Int) (out : List Iv) : List Iv :=
  if setB a (dd.tmod 7).toNat = true then
    (if mnI t (dd * 86400 + c * 60) ≤ mxI f (dd * 86400 + b * 60) then out else
      match out.getLast? with
      | some p => if p.2 = mxI f (dd * 86400 + b * 60) then out.dropLast ++ [(p.1, mnI t (dd * 86400 + c * 60))] else out ++ [(mxI f (dd * 86400 + b * 60), mnI t (dd * 86400 + c * 60))]
      | none => [(mxI f (dd * 86400 + b * 60), mnI t (dd * 86400 + c * 60))])
  else out
def spL (a b c f t : Int) : Nat → Int → List Iv → List Iv
  | 0, _, out => out
  | n + 1, dd, out => spL a b c f t n (dd + 1) (spStep a b c f t dd out)
def spansOf (a b c f t : Int) : Option (List Iv) × Int :=
  if ivalB f t = true then
    (if 366 ≤ (t - 1) / 86400 - f / 86400 then (none, 3) else if validB a b c = true then (some (spL a b c f t ((t - 1) / 86400 - f / 86400 + 1).toNat (f / 86400) []), 0) else (none, 0))
  else (none, 12)
def slI : Option (List Iv) → D
  | none => .sl true []
  | some l => .sl false (l.map rwI)
def mwv (g : Int → Int → Int → Int → Int → Option (List PA)) : List PA → Option (List PA)
  | [.agg [.int .i64 a, .int .i64 b, .int .i64 c], .agg [.int .i64 f, .int .i64 t]] => g a b c f t
  | _ => none
theorem mwv_inv {g : Int → Int → Int → Int → Int → Option (List PA)} {args r : List PA} (h : mwv g args = some r) : ∃ a b c f t, args = [.agg [.int .i64 a, .int .i64 b, .int .i64 c], .agg [.int .i64 f, .int .i64 t]] ∧ g a b c f t = some r := by
  unfold mwv at h
  split at h
  · exact ⟨_, _, _, _, _, rfl, h⟩
  cases h
def cspans_m : List PA → Option (List PA) := mwv fun a b c f t => some [.c (slI (spansOf a b c f t).1), .i (spansOf a b c f t).2]
theorem ivalB_iff {f t : Int} : ivalB f t = true ↔ 0 ≤ f ∧ f < t ∧ t ≤ 68719476736 := by
  simp only [ivalB, Bool.and_eq_true, decide_eq_true_eq]
  omega
theorem cspans_ok : PureC Tryz.prog Gt 102 cspans_m := by
  refine pure_of_awp (X := ctx Tryz.prog Gt [(98, cvalid_m), (99, con_m)]) Tryz.func102 rfl rfl (by kernel_rfl) (by kernel_rfl) (AllOk.cons cvalid_ok (AllOk.cons con_ok AllOk.nil)).kok ?_
  intro args r h0
  obtain ⟨a, b, c, f, t, rfl, h⟩ := mwv_inv h0
  refine ⟨Nat.le_of_ble_eq_true rfl, ?_⟩
  cases h
  by_cases hI : ivalB f t = true
  · have hI' := ivalB_iff.1 hI
    have i1 : (f < 0) = False := by simp; omega
    have i2 : (t ≤ f) = False := by simp; omega
    have i3 : (68719476736 < t) = False := by simp; omega
    have e1 : f.tdiv 86400 = f / 86400 := Int.tdiv_eq_ediv_of_nonneg (by omega)
    have e2 : (t - 1).tdiv 86400 = (t - 1) / 86400 := Int.tdiv_eq_ediv_of_nonneg (by omega)
    have w1 := wI (n := f / 86400) (by omega) (by omega)
    have w2 := wI (n := t - 1) (by omega) (by omega)
    have w3 := wI (n := (t - 1) / 86400) (by omega) (by omega)
    have w4 := wI (n := (t - 1) / 86400 - f / 86400) (by omega) (by omega)
    by_cases hs : 366 ≤ (t - 1) / 86400 - f / 86400
    · skip
      have hc := Nat.zero_add 0
      repeat' (first | simp only [hc, Tryz.f102, cvalid_m, con_m, mw_eq, mwi_eq, i1, i2, i3, e1, e2, w1, w2, w3, w4, hs, ZZ, simprocAttr, ↓reduceIte] | ((first | apply Za | apply Zb | apply Zc | apply Zd | apply Ze | apply Zf | apply Zg | apply Zh) <;> intro hc) | refine Zj ?_)
      all_goals simp_all [spansOf, slI, DV.i]
    by_cases hV : validB a b c = true
    · have hV' := validB_iff.1 hV
      have hc := Nat.zero_add 0
      repeat' (first | simp only [hc, Tryz.f102, cvalid_m, con_m, mw_eq, mwi_eq, i1, i2, i3, e1, e2, w1, w2, w3, w4, hs, hV, ZZ, simprocAttr, ↓reduceIte] | ((first | apply Za | apply Zb | apply Zc | apply Zd | apply Ze | apply Zf | apply Zg | apply Zh) <;> intro hc) | refine Zj ?_)
      have b1 : 0 ≤ f / 86400 ∧ f / 86400 ≤ (t - 1) / 86400 ∧ (t - 1) / 86400 ≤ 795365 := by omega
      have hres : spansOf a b c f t = (some (spL a b c f t ((t - 1) / 86400 - f / 86400 + 1).toNat (f / 86400) []), 0) := by simp [spansOf, hI, hV, hs]
      rw [hres]
      generalize hfi : f / 86400 = fi at *
      generalize hla : (t - 1) / 86400 = la at *
      refine awp_loop (σ := Nat × Int × List Iv) (fun p => p.2.1 + p.1 = la + 1 ∧ 0 ≤ p.2.1 ∧ p.2.2.length + p.1 ≤ 400 ∧ spL a b c f t p.1 p.2.1 p.2.2 = spL a b c f t (la - fi + 1).toNat fi [])
        (fun p => ⟨[(9, AV.i p.2.1), (8, .v (.c (.msl 2 p.2.2.length))), (7, AV.i la), (2, .v (.c (.ptr 0 0))), (3, .v (.c (.ptr 1 0)))], [.box [.d (.int .i64 a), .d (.int .i64 b), .d (.int .i64 c)], .box [.d (.int .i64 f), .d (.int .i64 t)], .tok p.2.2.length 2 (some (icd p.2.2))]⟩)
        (fun p => p.1) ((la - fi + 1).toNat, fi, []) (Wk.trans (Wk.msl 8 2 (by omega) (by simp [look])) (Wk.sub' (by simp [subT, look]) rfl)) ⟨by simp only []; omega, by simp only []; omega, by simp only [List.length_nil]; omega, rfl⟩ ?_
      rintro ⟨n, d, out⟩ ⟨g1, g2, g3, g4⟩
      dsimp only at g1 g2 g3 g4 ⊢
      cases n with
      | zero =>
        have hdl : (d ≤ la) = False := by simp; omega
        have hc := Nat.zero_add 0
        repeat' (first | simp only [hc, cvalid_m, con_m, mw_eq, mwi_eq, hdl, ZZ, simprocAttr, ↓reduceIte] | ((first | apply Za | apply Zb | apply Zc | apply Zd | apply Ze | apply Zf | apply Zg | apply Zh) <;> intro hc))
        refine blk_exit_wk (Wk.freezeC 8 2 out.length 2 (icd out) (encI out) (by simp [look]) rfl (icd_allD out)) ?_
        have hc := Nat.zero_add 0
        repeat' (first | simp only [hc, chunk_enc, ZZ, simprocAttr, ↓reduceIte] | ((first | apply Za | apply Zb | apply Zc | apply Zd | apply Ze | apply Zf | apply Zg | apply Zh) <;> intro hc) | refine Zj ?_)
        rw [← g4]
        simp [spL, slI, DV.i]
      | succ n =>
        have hdl : (d ≤ la) = True := by simp; omega
        have hdc : (0 ≤ a ∧ a ≤ 127 ∧ 0 ≤ d) = True := by simp; omega
        have v1 := wI (n := d * 86400) (by omega) (by omega)
        have v2 := wI (n := b * 60) (by omega) (by omega)
        have v3 := wI (n := d * 86400 + b * 60) (by omega) (by omega)
        have v4 := wI (n := c * 60) (by omega) (by omega)
        have v5 := wI (n := d * 86400 + c * 60) (by omega) (by omega)
        have v6 := wI (n := d + 1) (by omega) (by omega)
        have mx : (if d * 86400 + b * 60 > f then d * 86400 + b * 60 else f) = mxI f (d * 86400 + b * 60) := rfl
        have mn : (if d * 86400 + c * 60 < t then d * 86400 + c * 60 else t) = mnI t (d * 86400 + c * 60) := rfl
        have step : ∀ out', spStep a b c f t d out = out' → out'.length ≤ out.length + 1 → (n : Nat) < n + 1 ∧ (d + 1 + (n : Int) = la + 1 ∧ 0 ≤ d + 1 ∧ out'.length + n ≤ 400 ∧ spL a b c f t n (d + 1) out' = spL a b c f t (la - fi + 1).toNat fi []) := fun out' ho hl =>
          ⟨Nat.lt_succ_self n, by omega, by omega, by omega, by rw [← g4, ← ho]; rfl⟩
        by_cases hset : setB a (d.tmod 7).toNat = true
        · by_cases hxy : mnI t (d * 86400 + c * 60) ≤ mxI f (d * 86400 + b * 60)
          · skip
            have hc := Nat.zero_add 0
            repeat' (first | simp only [hc, cvalid_m, con_m, mw_eq, mwi_eq, hdl, hdc, v1, v2, v3, v4, v5, v6, hset, mx, mn, hxy, ZZ, simprocAttr, ↓reduceIte] | ((first | apply Za | apply Zb | apply Zc | apply Zd | apply Ze | apply Zf | apply Zg | apply Zh) <;> intro hc) | refine Zj ?_)
            obtain ⟨s0, s1, s2⟩ := step out (by simp [spStep, hset, hxy]) (by omega)
            exact lp_next (n, d + 1, out) (Wk.sub (by simp [subT, look])) ⟨s1, s2⟩ s0
          rcases List.eq_nil_or_concat out with rfl | ⟨l, ⟨x0, y0⟩, hcon⟩
          · skip
            have hc := Nat.zero_add 0
            repeat' (first | simp only [hc, cvalid_m, con_m, mw_eq, mwi_eq, hdl, hdc, v1, v2, v3, v4, v5, v6, hset, mx, mn, hxy, ZZ, simprocAttr, ↓reduceIte] | ((first | apply Za | apply Zb | apply Zc | apply Zd | apply Ze | apply Zf | apply Zg | apply Zh) <;> intro hc) | refine Zj ?_)
            obtain ⟨s0, s1, s2⟩ := step [(mxI f (d * 86400 + b * 60), mnI t (d * 86400 + c * 60))] (by simp [spStep, hset, hxy]) (by simp)
            exact lp_next (n, d + 1, [(mxI f (d * 86400 + b * 60), mnI t (d * 86400 + c * 60))]) (Wk.sub' (by simp [subT, look]) (by simp [rowIC])) ⟨s1, s2⟩ s0
          rw [List.concat_eq_append] at hcon
          subst hcon
          have hL : (l ++ [(x0, y0)]).length = l.length + 1 := by simp
          have q1 : ((0 : Int) < ((l ++ [(x0, y0)]).length : Int)) = True := eq_true (by omega)
          have q2 : IntKind.i64.wrap (((l ++ [(x0, y0)]).length : Int) - 1) = (l.length : Int) := by
            rw [wI (by omega) (by omega)]; omega
          have q3 : ((l.length : Int) < ((l ++ [(x0, y0)]).length : Int)) = True := eq_true (by omega)
          have q4 : ((0 : Int) ≤ (l.length : Int)) = True := eq_true (by omega)
          have q8 : (((l ++ [(x0, y0)]).length + 1) * 16 ≤ 140737488355328) = True := eq_true (by omega)
          have q9 : ((l ++ [(x0, y0)]).length + 1 ≤ 4611686018427387904) = True := eq_true (by omega)
          have hx : (l ++ [(x0, y0)])[l.length]? = some (x0, y0) := by simp
          have q5 : (icd (l ++ [(x0, y0)]))[l.length * 2 + 1]? = some (.d (.int .i64 y0)) := fm_cell rowIC_len hx (by decide)
          have q7 : ∀ h z, stP h 2 (l.length * 2 + 1) (l ++ [(x0, y0)]).length 2 (icd (l ++ [(x0, y0)])) (some [.d (.int .i64 z)]) (some 1) = some (h.set 2 (.tok (l ++ [(x0, y0)]).length 2 (some (icd (l ++ [(x0, z)]))))) := fun h z => by
            rw [stP_fm (x' := (x0, z)) rowIC_len hx (by decide) rfl]
            simp
          by_cases hj : y0 = mxI f (d * 86400 + b * 60)
          · have hj2 := eq_true hj
            have hc := Nat.zero_add 0
            repeat' (first | simp only [hc, cvalid_m, con_m, mw_eq, mwi_eq, hdl, hdc, v1, v2, v3, v4, v5, v6, hset, mx, mn, hxy, q1, q2, q3, q4, q5, q7, hj2, ZZ, simprocAttr, ↓reduceIte] | ((first | apply Za | apply Zb | apply Zc | apply Zd | apply Ze | apply Zf | apply Zg | apply Zh) <;> intro hc) | refine Zj ?_)
            obtain ⟨s0, s1, s2⟩ := step (l ++ [(x0, mnI t (d * 86400 + c * 60))]) (by simp [spStep, hset, hxy, hj]) (by simp)
            exact lp_next (n, d + 1, l ++ [(x0, mnI t (d * 86400 + c * 60))]) (Wk.sub' (by simp [subT, look]) (by simp)) ⟨s1, s2⟩ s0
          have hj2 := eq_false hj
          have hc := Nat.zero_add 0
          repeat' (first | simp only [hc, cvalid_m, con_m, mw_eq, mwi_eq, hdl, hdc, v1, v2, v3, v4, v5, v6, hset, mx, mn, hxy, q1, q2, q3, q4, q5, q7, hj2, q8, q9, ZZ, simprocAttr, ↓reduceIte] | ((first | apply Za | apply Zb | apply Zc | apply Zd | apply Ze | apply Zf | apply Zg | apply Zh) <;> intro hc) | refine Zj ?_)
          obtain ⟨s0, s1, s2⟩ := step (l ++ [(x0, y0)] ++ [(mxI f (d * 86400 + b * 60), mnI t (d * 86400 + c * 60))]) (by simp [spStep, hset, hxy, hj]) (by simp)
          exact lp_next (n, d + 1, l ++ [(x0, y0)] ++ [(mxI f (d * 86400 + b * 60), mnI t (d * 86400 + c * 60))]) (Wk.sub' (by simp [subT, look]) (by simp [rowIC])) ⟨s1, s2⟩ s0
        · skip
          have hc := Nat.zero_add 0
          repeat' (first | simp only [hc, cvalid_m, con_m, mw_eq, mwi_eq, hdl, hdc, v1, v2, v3, v4, v5, v6, hset, mx, mn, ZZ, simprocAttr, ↓reduceIte] | ((first | apply Za | apply Zb | apply Zc | apply Zd | apply Ze | apply Zf | apply Zg | apply Zh) <;> intro hc) | refine Zj ?_)
          obtain ⟨s0, s1, s2⟩ := step out (by simp [spStep, hset]) (by omega)
          exact lp_next (n, d + 1, out) (Wk.sub (by simp [subT, look])) ⟨s1, s2⟩ s0
    · skip
      have hc := Nat.zero_add 0
      repeat' (first | simp only [hc, Tryz.f102, cvalid_m, con_m, mw_eq, mwi_eq, i1, i2, i3, e1, e2, w1, w2, w3, w4, hs, hV, ZZ, simprocAttr, ↓reduceIte] | ((first | apply Za | apply Zb | apply Zc | apply Zd | apply Ze | apply Zf | apply Zg | apply Zh) <;> intro hc) | refine Zj ?_)
      simp [spansOf, slI, DV.i, hI, hV, hs]
  have hI' : f < 0 ∨ t ≤ f ∨ 68719476736 < t := by
    rw [ivalB_iff] at hI; omega
  have hc := Nat.zero_add 0
  repeat' (first | simp only [hc, Tryz.f102, cvalid_m, con_m, mw_eq, mwi_eq, ZZ, simprocAttr, ↓reduceIte] | ((first | apply Za | apply Zb | apply Zc | apply Zd | apply Ze | apply Zf | apply Zg | apply Zh) <;> intro hc) | refine Zj ?_)
  all_goals first
    | (exfalso; omega)
    | simp_all [spansOf, slI, DV.i]
end Go.Ab
namespace Go.Ab
open Go.RowKit Go.Proofs
theorem spStep_len (a b c f t dd : Int) (out : List Iv) : (spStep a b c f t dd out).length ≤ out.length + 1 := by
  unfold spStep
  split
  · split
    · omega
    split
    · split <;> simp
    simp
  omega
theorem spL_len (a b c f t : Int) : ∀ (n : Nat) (dd : Int) (out : List Iv), (spL a b c f t n dd out).length ≤ out.length + n
  | 0, dd, out => by simp [spL]
  | n + 1, dd, out => by
    have h1 := spL_len a b c f t n (dd + 1) (spStep a b c f t dd out)
    have h2 := spStep_len a b c f t dd out
    simp only [spL]; omega
theorem spans_len {a b c f t : Int} {l : List Iv} (h : (spansOf a b c f t).1 = some l) : l.length ≤ 366 := by
  unfold spansOf at h
  split at h
  · rename_i hI
    have hI' := ivalB_iff.1 hI
    split at h
    · cases h
    split at h
    · cases h
      have := spL_len a b c f t ((t - 1) / 86400 - f / 86400 + 1).toNat (f / 86400) []
      simp at this
      omega
    cases h
  cases h
def hasB (x : Int) (l : List Iv) : Bool := l.any fun p => decide (p.1 ≤ x) && decide (x < p.2)
def lastE (e : Int) : List Iv → Int
  | [] => e
  | p :: r => lastE p.2 r
def chk (f t : Int) : Int → List Iv → Prop
  | _, [] => True
  | e, p :: r => p.1 < p.2 ∧ f ≤ p.1 ∧ p.2 ≤ t ∧ e < p.1 ∧ chk f t p.2 r
theorem chk_append {f t : Int} : ∀ {l k : List Iv} {e : Int}, chk f t e (l ++ k) ↔ chk f t e l ∧ chk f t (lastE e l) k
  | [], k, e => by simp [chk, lastE]
  | p :: l, k, e => by simp only [List.cons_append, chk, lastE, chk_append (l := l)]; simp only [and_assoc]
theorem lastE_append : ∀ {l k : List Iv} {e : Int}, lastE e (l ++ k) = lastE (lastE e l) k
  | [], k, e => rfl
  | p :: l, k, e => by simp only [List.cons_append, lastE]; exact lastE_append
theorem hasB_append (x : Int) (l k : List Iv) : hasB x (l ++ k) = (hasB x l || hasB x k) := by simp [hasB]
def inW (a b c x : Int) : Bool := setB a ((x / 86400) % 7).toNat && decide (b ≤ x % 86400 / 60) && decide (x % 86400 / 60 < c)
structure SpI (a b c f t d : Int) (out : List Iv) : Prop where
  chk : chk f t (-1) out
  last : lastE (-1) out ≤ d * 86400
  has : ∀ x, hasB x out = (inW a b c x && decide (f ≤ x) && decide (x < t) && decide (x < d * 86400))
theorem spStep_ok {a b c f t d : Int} {out : List Iv} (hd : 0 ≤ d) (hf : 0 ≤ f) (hb : 0 ≤ b) (hc : c ≤ 1440) (h : SpI a b c f t d out) : SpI a b c f t (d + 1) (spStep a b c f t d out) := by
  have hday : ∀ x, d * 86400 ≤ x → x < (d + 1) * 86400 → x / 86400 = d ∧ x % 86400 = x - d * 86400 := fun x h1 h2 => by omega
  have htm : d.tmod 7 = d % 7 := Int.tmod_eq_emod_of_nonneg hd
  unfold spStep
  rw [htm]
  -- what a longer day adds
  have grow : ∀ (x : Int), (inW a b c x && decide (f ≤ x) && decide (x < t) && decide (x < (d + 1) * 86400)) =
      ((inW a b c x && decide (f ≤ x) && decide (x < t) && decide (x < d * 86400)) ||
        (setB a (d % 7).toNat && decide (mxI f (d * 86400 + b * 60) ≤ x) && decide (x < mnI t (d * 86400 + c * 60)))) := fun x => by
    have hmx : mxI f (d * 86400 + b * 60) ≤ x ↔ f ≤ x ∧ d * 86400 + b * 60 ≤ x := by unfold mxI; split <;> omega
    have hmn : x < mnI t (d * 86400 + c * 60) ↔ x < t ∧ x < d * 86400 + c * 60 := by unfold mnI; split <;> omega
    by_cases h1 : x < d * 86400
    · have h2 : x < (d + 1) * 86400 := by omega
      have h3 : ¬ (mxI f (d * 86400 + b * 60) ≤ x) := by rw [hmx]; omega
      simp [h1, h2, h3]
    by_cases h2 : x < (d + 1) * 86400
    · obtain ⟨e1, e2⟩ := hday x (by omega) h2
      have h3 : (b ≤ (x - d * 86400) / 60) ↔ d * 86400 + b * 60 ≤ x := by omega
      have h4 : ((x - d * 86400) / 60 < c) ↔ x < d * 86400 + c * 60 := by omega
      have p1 : decide (b ≤ (x - d * 86400) / 60) = decide (d * 86400 + b * 60 ≤ x) := decide_eq_decide.2 h3
      have p2 : decide ((x - d * 86400) / 60 < c) = decide (x < d * 86400 + c * 60) := decide_eq_decide.2 h4
      have p3 : decide (mxI f (d * 86400 + b * 60) ≤ x) = (decide (f ≤ x) && decide (d * 86400 + b * 60 ≤ x)) := by rw [← Bool.decide_and]; exact decide_eq_decide.2 hmx
      have p4 : decide (x < mnI t (d * 86400 + c * 60)) = (decide (x < t) && decide (x < d * 86400 + c * 60)) := by rw [← Bool.decide_and]; exact decide_eq_decide.2 hmn
      have q1 : decide (x < d * 86400) = false := by simp; omega
      have q2 : decide (x < (d + 1) * 86400) = true := by simp; omega
      simp only [inW, e1, e2, p1, p2, p3, p4, q1, q2]
      cases setB a (d % 7).toNat <;> cases decide (f ≤ x) <;> cases decide (d * 86400 + b * 60 ≤ x) <;> cases decide (x < t) <;> cases decide (x < d * 86400 + c * 60) <;> rfl
    have h3 : ¬ (x < mnI t (d * 86400 + c * 60)) := by rw [hmn]; omega
    simp [h1, h2, h3]
  by_cases hs : setB a (d % 7).toNat = true
  · rw [if_pos hs]
    by_cases hxy : mnI t (d * 86400 + c * 60) ≤ mxI f (d * 86400 + b * 60)
    · rw [if_pos hxy]
      refine ⟨h.chk, by have := h.last; omega, fun x => ?_⟩
      rw [grow, h.has]
      have : ¬ (mxI f (d * 86400 + b * 60) ≤ x ∧ x < mnI t (d * 86400 + c * 60)) := by omega
      by_cases h1 : mxI f (d * 86400 + b * 60) ≤ x
      · have h2 : ¬ x < mnI t (d * 86400 + c * 60) := fun h2 => this ⟨h1, h2⟩
        simp [h2]
      simp [h1]
    rw [if_neg hxy]
    have x0 : f ≤ mxI f (d * 86400 + b * 60) ∧ d * 86400 ≤ mxI f (d * 86400 + b * 60) := by unfold mxI; split <;> omega
    have y0 : mnI t (d * 86400 + c * 60) ≤ t ∧ mnI t (d * 86400 + c * 60) ≤ (d + 1) * 86400 := by unfold mnI; split <;> omega
    generalize mxI f (d * 86400 + b * 60) = X at *
    generalize mnI t (d * 86400 + c * 60) = Y at *
    have new : ∀ x, hasB x [(X, Y)] = (decide (X ≤ x) && decide (x < Y)) := fun x => by simp [hasB]
    rcases List.eq_nil_or_concat out with rfl | ⟨l, ⟨p, q⟩, rfl⟩
    · simp only [List.getLast?_nil]
      refine ⟨⟨by omega, by omega, by omega, by omega, trivial⟩, by simp only [lastE]; omega, fun x => ?_⟩
      rw [grow, new, ← h.has x, hs]
      simp [hasB]
    rw [List.concat_eq_append] at h ⊢
    simp only [List.getLast?_append, List.getLast?_singleton, Option.some_or, List.dropLast_concat]
    obtain ⟨c1, c2⟩ := chk_append.1 h.chk
    have hlast : q ≤ d * 86400 := by have := h.last; rw [lastE_append] at this; exact this
    obtain ⟨k1, k2, k3, k4, _⟩ := c2
    by_cases hq : q = X
    · rw [if_pos hq]
      subst hq
      refine ⟨chk_append.2 ⟨c1, by omega, by omega, by omega, k4, trivial⟩, by rw [lastE_append]; simp only [lastE]; omega, fun x => ?_⟩
      have hx := h.has x
      rw [hasB_append] at hx ⊢
      rw [grow, ← hx, hs]
      have e1 : hasB x [(p, Y)] = (hasB x [(p, q)] || (decide (q ≤ x) && decide (x < Y))) := by
        simp only [hasB, List.any_cons, List.any_nil, Bool.or_false]
        rw [← Bool.decide_and, ← Bool.decide_and, ← Bool.decide_and, ← Bool.decide_or]
        apply decide_eq_decide.2
        simp only at k1
        omega
      rw [e1, Bool.or_assoc, Bool.true_and]
    rw [if_neg hq]
    refine ⟨chk_append.2 ⟨h.chk, ?_⟩, by rw [lastE_append]; simp only [lastE]; omega, fun x => ?_⟩
    · rw [lastE_append]
      simp only [lastE]
      exact ⟨by omega, by omega, by omega, by omega, trivial⟩
    rw [hasB_append, new, grow, ← h.has x, hs, Bool.true_and]
  rw [if_neg hs]
  refine ⟨h.chk, by have := h.last; omega, fun x => ?_⟩
  have hs' : setB a (d % 7).toNat = false := by simpa using hs
  rw [grow, h.has, hs']
  simp
theorem spL_ok {a b c f t : Int} (hf : 0 ≤ f) (hb : 0 ≤ b) (hc : c ≤ 1440) : ∀ (n : Nat) (d : Int) (out : List Iv), 0 ≤ d → SpI a b c f t d out → SpI a b c f t (d + n) (spL a b c f t n d out)
  | 0, d, out, hd, h => by simpa [spL] using h
  | n + 1, d, out, hd, h => by
    have := spL_ok hf hb hc n (d + 1) _ (by omega) (spStep_ok hd hf hb hc h)
    simp only [spL]
    rw [show d + ((n + 1 : Nat) : Int) = d + 1 + n by omega]
    exact this
theorem spans_cover {a b c f t : Int} {l : List Iv} (h : (spansOf a b c f t).1 = some l) (x : Int) : chk f t (-1) l ∧ hasB x l = (inB a b c x && decide (f ≤ x) && decide (x < t)) := by
  unfold spansOf at h
  split at h
  · rename_i hI
    have hI' := ivalB_iff.1 hI
    split at h
    · cases h
    split at h
    · rename_i hV
      have hV' := validB_iff.1 hV
      cases h
      have h0 : SpI a b c f t (f / 86400) [] := ⟨trivial, by simp only [lastE]; omega, fun x => by
        have : ¬ (f ≤ x ∧ x < f / 86400 * 86400) := by omega
        by_cases h1 : f ≤ x
        · have h2 : ¬ (x < f / 86400 * 86400) := fun h2 => this ⟨h1, h2⟩
          simp [hasB, h2]
        · simp [hasB, h1]⟩
      have hk := spL_ok (by omega) (by omega) (by omega) ((t - 1) / 86400 - f / 86400 + 1).toNat (f / 86400) [] (by omega) h0
      rw [show f / 86400 + ((((t - 1) / 86400 - f / 86400 + 1).toNat : Nat) : Int) = (t - 1) / 86400 + 1 by omega] at hk
      refine ⟨hk.chk, ?_⟩
      rw [hk.has]
      by_cases h1 : f ≤ x
      · by_cases h2 : x < t
        · have h3 : x < ((t - 1) / 86400 + 1) * 86400 := by omega
          have hT : isT x = true := isT_iff.2 (by omega)
          have d1 : x.tdiv 86400 = x / 86400 := Int.tdiv_eq_ediv_of_nonneg (by omega)
          have d2 : (x / 86400).tmod 7 = x / 86400 % 7 := Int.tmod_eq_emod_of_nonneg (by omega)
          have d3 : x.tmod 86400 = x % 86400 := Int.tmod_eq_emod_of_nonneg (by omega)
          have d4 : (x % 86400).tdiv 60 = x % 86400 / 60 := Int.tdiv_eq_ediv_of_nonneg (by omega)
          have d5 : minF x = x % 86400 / 60 := by simp only [minF, hT, if_true, d3, d4]; exact wI (by omega) (by omega)
          simp [h1, h2, h3, inB, inW, hT, hV, d1, d2, d5]
        simp [h2]
      simp [h1]
    cases h
  cases h
theorem spans_none {a b c f t : Int} (h : (spansOf a b c f t).1 = none) (x : Int) : (spansOf a b c f t).2 = 0 → (inB a b c x) = false := by
  unfold spansOf at h ⊢
  split
  · split
    · intro h; cases h
    split
    · rename_i h1 h2 h3
      rw [if_pos h1, if_neg h2, if_pos h3] at h
      cases h
    rename_i hV
    intro _
    have hV' : validB a b c = false := by simpa using hV
    simp [inB, hV']
  intro h; cases h
end Go.Ab
