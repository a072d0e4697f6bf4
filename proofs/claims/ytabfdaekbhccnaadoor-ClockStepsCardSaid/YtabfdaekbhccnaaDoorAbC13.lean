/-
  The law of the calendar on occurrences: what they cover.
-/
import Derived.Test.YtabfdaekbhccnaaDoorAbC12
set_option linter.unusedSimpArgs false
set_option linter.unusedVariables false
namespace Go.Ab
open Go.RowKit Go.Proofs

/-- Whether x lies in one of them. -/
def hasB (x : Int) (l : List Iv) : Bool := l.any fun p => decide (p.1 ≤ x) && decide (x < p.2)

def lastE (e : Int) : List Iv → Int
  | [] => e
  | p :: r => lastE p.2 r

/-- In normal form, within f to t. -/
def chk (f t : Int) : Int → List Iv → Prop
  | _, [] => True
  | e, p :: r => p.1 < p.2 ∧ f ≤ p.1 ∧ p.2 ≤ t ∧ e < p.1 ∧ chk f t p.2 r

theorem chk_append {f t : Int} : ∀ {l k : List Iv} {e : Int}, chk f t e (l ++ k) ↔ chk f t e l ∧ chk f t (lastE e l) k
  | [], k, e => by simp [chk, lastE]
  | p :: l, k, e => by simp only [List.cons_append, chk, lastE, chk_append (l := l)]; simp only [and_assoc]
theorem lastE_append : ∀ {l k : List Iv} {e : Int}, lastE e (l ++ k) = lastE (lastE e l) k
  | [], k, e => rfl
  | p :: l, k, e => by simp only [List.cons_append, lastE]; exact lastE_append
theorem hasB_append (x : Int) (l k : List Iv) : hasB x (l ++ k) = (hasB x l || hasB x k) := by simp [hasB]

/-- x lies in the window, on whatever day. -/
def inW (a b c x : Int) : Bool := setB a ((x / 86400) % 7).toNat && decide (b ≤ x % 86400 / 60) && decide (x % 86400 / 60 < c)

structure SpI (a b c f t d : Int) (out : List Iv) : Prop where
  chk : chk f t (-1) out
  last : lastE (-1) out ≤ d * 86400
  has : ∀ x, hasB x out = (inW a b c x && decide (f ≤ x) && decide (x < t) && decide (x < d * 86400))

theorem lastE_cons_le {f t e : Int} : ∀ {l : List Iv}, chk f t e l → l ≠ [] → f < lastE e l ∧ lastE e l ≤ t
  | [], _, h => absurd rfl h
  | [p], h, _ => by simp only [Go.Ab.chk, lastE] at *; omega
  | p :: q :: r, h, _ => lastE_cons_le (l := q :: r) (e := p.2) h.2.2.2.2 (by simp)

theorem spStep_ok {a b c f t d : Int} {out : List Iv} (hd : 0 ≤ d) (hf : 0 ≤ f) (hb : 0 ≤ b) (hc : c ≤ 1440) (h : SpI a b c f t d out) : SpI a b c f t (d + 1) (spStep a b c f t d out) := by
  have hday : ∀ x, d * 86400 ≤ x → x < (d + 1) * 86400 → x / 86400 = d ∧ x % 86400 = x - d * 86400 := fun x h1 h2 => by omega
  have htm : d.tmod 7 = d % 7 := Int.tmod_eq_emod_of_nonneg hd
  unfold spStep
  rw [htm]
  -- what a longer day adds
  have grow : ∀ (x : Int), (inW a b c x && decide (f ≤ x) && decide (x < t) && decide (x < (d + 1) * 86400)) =
      ((inW a b c x && decide (f ≤ x) && decide (x < t) && decide (x < d * 86400)) ||
        (setB a (d % 7).toNat && decide (mxI f (d * 86400 + b * 60) ≤ x) && decide (x < mnI t (d * 86400 + c * 60)))) := fun x => by
    have hmx : mxI f (d * 86400 + b * 60) ≤ x ↔ f ≤ x ∧ d * 86400 + b * 60 ≤ x := by unfold mxI; split <;> omega
    have hmn : x < mnI t (d * 86400 + c * 60) ↔ x < t ∧ x < d * 86400 + c * 60 := by unfold mnI; split <;> omega
    by_cases h1 : x < d * 86400
    · have h2 : x < (d + 1) * 86400 := by omega
      have h3 : ¬ (mxI f (d * 86400 + b * 60) ≤ x) := by rw [hmx]; omega
      simp [h1, h2, h3]
    · by_cases h2 : x < (d + 1) * 86400
      · obtain ⟨e1, e2⟩ := hday x (by omega) h2
        have h3 : (b ≤ (x - d * 86400) / 60) ↔ d * 86400 + b * 60 ≤ x := by omega
        have h4 : ((x - d * 86400) / 60 < c) ↔ x < d * 86400 + c * 60 := by omega
        have p1 : decide (b ≤ (x - d * 86400) / 60) = decide (d * 86400 + b * 60 ≤ x) := decide_eq_decide.2 h3
        have p2 : decide ((x - d * 86400) / 60 < c) = decide (x < d * 86400 + c * 60) := decide_eq_decide.2 h4
        have p3 : decide (mxI f (d * 86400 + b * 60) ≤ x) = (decide (f ≤ x) && decide (d * 86400 + b * 60 ≤ x)) := by rw [← Bool.decide_and]; exact decide_eq_decide.2 hmx
        have p4 : decide (x < mnI t (d * 86400 + c * 60)) = (decide (x < t) && decide (x < d * 86400 + c * 60)) := by rw [← Bool.decide_and]; exact decide_eq_decide.2 hmn
        have q1 : decide (x < d * 86400) = false := by simp; omega
        have q2 : decide (x < (d + 1) * 86400) = true := by simp; omega
        simp only [inW, e1, e2, p1, p2, p3, p4, q1, q2]
        cases setB a (d % 7).toNat <;> cases decide (f ≤ x) <;> cases decide (d * 86400 + b * 60 ≤ x) <;> cases decide (x < t) <;> cases decide (x < d * 86400 + c * 60) <;> rfl
      · have h3 : ¬ (x < mnI t (d * 86400 + c * 60)) := by rw [hmn]; omega
        simp [h1, h2, h3]
  by_cases hs : setB a (d % 7).toNat = true
  · rw [if_pos hs]
    by_cases hxy : mnI t (d * 86400 + c * 60) ≤ mxI f (d * 86400 + b * 60)
    · rw [if_pos hxy]
      refine ⟨h.chk, by have := h.last; omega, fun x => ?_⟩
      rw [grow, h.has]
      have : ¬ (mxI f (d * 86400 + b * 60) ≤ x ∧ x < mnI t (d * 86400 + c * 60)) := by omega
      by_cases h1 : mxI f (d * 86400 + b * 60) ≤ x
      · have h2 : ¬ x < mnI t (d * 86400 + c * 60) := fun h2 => this ⟨h1, h2⟩
        simp [h2]
      · simp [h1]
    · rw [if_neg hxy]
      have x0 : f ≤ mxI f (d * 86400 + b * 60) ∧ d * 86400 ≤ mxI f (d * 86400 + b * 60) := by unfold mxI; split <;> omega
      have y0 : mnI t (d * 86400 + c * 60) ≤ t ∧ mnI t (d * 86400 + c * 60) ≤ (d + 1) * 86400 := by unfold mnI; split <;> omega
      generalize mxI f (d * 86400 + b * 60) = X at *
      generalize mnI t (d * 86400 + c * 60) = Y at *
      have new : ∀ x, hasB x [(X, Y)] = (decide (X ≤ x) && decide (x < Y)) := fun x => by simp [hasB]
      rcases List.eq_nil_or_concat out with rfl | ⟨l, ⟨p, q⟩, rfl⟩
      · simp only [List.getLast?_nil]
        refine ⟨⟨by omega, by omega, by omega, by omega, trivial⟩, by simp only [lastE]; omega, fun x => ?_⟩
        rw [grow, new, ← h.has x, hs]
        simp [hasB]
      · rw [List.concat_eq_append] at h ⊢
        simp only [List.getLast?_append, List.getLast?_singleton, Option.some_or, List.dropLast_concat]
        obtain ⟨c1, c2⟩ := chk_append.1 h.chk
        have hlast : q ≤ d * 86400 := by have := h.last; rw [lastE_append] at this; exact this
        obtain ⟨k1, k2, k3, k4, _⟩ := c2
        by_cases hq : q = X
        · rw [if_pos hq]
          subst hq
          refine ⟨chk_append.2 ⟨c1, by omega, by omega, by omega, k4, trivial⟩, by rw [lastE_append]; simp only [lastE]; omega, fun x => ?_⟩
          have hx := h.has x
          rw [hasB_append] at hx ⊢
          rw [grow, ← hx, hs]
          have e1 : hasB x [(p, Y)] = (hasB x [(p, q)] || (decide (q ≤ x) && decide (x < Y))) := by
            simp only [hasB, List.any_cons, List.any_nil, Bool.or_false]
            rw [← Bool.decide_and, ← Bool.decide_and, ← Bool.decide_and, ← Bool.decide_or]
            apply decide_eq_decide.2
            simp only at k1
            omega
          rw [e1, Bool.or_assoc, Bool.true_and]
        · rw [if_neg hq]
          refine ⟨chk_append.2 ⟨h.chk, ?_⟩, by rw [lastE_append]; simp only [lastE]; omega, fun x => ?_⟩
          · rw [lastE_append]
            simp only [lastE]
            exact ⟨by omega, by omega, by omega, by omega, trivial⟩
          · rw [hasB_append, new, grow, ← h.has x, hs, Bool.true_and]
  · rw [if_neg hs]
    refine ⟨h.chk, by have := h.last; omega, fun x => ?_⟩
    have hs' : setB a (d % 7).toNat = false := by simpa using hs
    rw [grow, h.has, hs']
    simp

theorem spL_ok {a b c f t : Int} (hf : 0 ≤ f) (hb : 0 ≤ b) (hc : c ≤ 1440) : ∀ (n : Nat) (d : Int) (out : List Iv), 0 ≤ d → SpI a b c f t d out → SpI a b c f t (d + n) (spL a b c f t n d out)
  | 0, d, out, hd, h => by simpa [spL] using h
  | n + 1, d, out, hd, h => by
    have := spL_ok hf hb hc n (d + 1) _ (by omega) (spStep_ok hd hf hb hc h)
    simp only [spL]
    rw [show d + ((n + 1 : Nat) : Int) = d + 1 + n by omega]
    exact this

/-- What the occurrences cover. -/
theorem spans_cover {a b c f t : Int} {l : List Iv} (h : (spansOf a b c f t).1 = some l) (x : Int) : chk f t (-1) l ∧ hasB x l = (inB a b c x && decide (f ≤ x) && decide (x < t)) := by
  unfold spansOf at h
  split at h
  · rename_i hI
    have hI' := ivalB_iff.1 hI
    split at h
    · cases h
    · split at h
      · rename_i hV
        have hV' := validB_iff.1 hV
        cases h
        have h0 : SpI a b c f t (f / 86400) [] := ⟨trivial, by simp only [lastE]; omega, fun x => by
          have : ¬ (f ≤ x ∧ x < f / 86400 * 86400) := by omega
          by_cases h1 : f ≤ x
          · have h2 : ¬ (x < f / 86400 * 86400) := fun h2 => this ⟨h1, h2⟩
            simp [hasB, h2]
          · simp [hasB, h1]⟩
        have hk := spL_ok (by omega) (by omega) (by omega) ((t - 1) / 86400 - f / 86400 + 1).toNat (f / 86400) [] (by omega) h0
        rw [show f / 86400 + ((((t - 1) / 86400 - f / 86400 + 1).toNat : Nat) : Int) = (t - 1) / 86400 + 1 by omega] at hk
        refine ⟨hk.chk, ?_⟩
        rw [hk.has]
        by_cases h1 : f ≤ x
        · by_cases h2 : x < t
          · have h3 : x < ((t - 1) / 86400 + 1) * 86400 := by omega
            have hT : isT x = true := isT_iff.2 (by omega)
            have d1 : x.tdiv 86400 = x / 86400 := Int.tdiv_eq_ediv_of_nonneg (by omega)
            have d2 : (x / 86400).tmod 7 = x / 86400 % 7 := Int.tmod_eq_emod_of_nonneg (by omega)
            have d3 : x.tmod 86400 = x % 86400 := Int.tmod_eq_emod_of_nonneg (by omega)
            have d4 : (x % 86400).tdiv 60 = x % 86400 / 60 := Int.tdiv_eq_ediv_of_nonneg (by omega)
            have d5 : minF x = x % 86400 / 60 := by simp only [minF, hT, if_true, d3, d4]; exact wI (by omega) (by omega)
            simp [h1, h2, h3, inB, inW, hT, hV, d1, d2, d5]
          · simp [h2]
        · simp [h1]
      · cases h
  · cases h

theorem spans_none {a b c f t : Int} (h : (spansOf a b c f t).1 = none) (x : Int) : (spansOf a b c f t).2 = 0 → (inB a b c x) = false := by
  unfold spansOf at h ⊢
  split
  · split
    · intro h; cases h
    · split
      · rename_i h1 h2 h3
        rw [if_pos h1, if_neg h2, if_pos h3] at h
        cases h
      · rename_i hV
        intro _
        have hV' : validB a b c = false := by simpa using hV
        simp [inB, hV']
  · intro h; cases h

theorem spans_err {a b c f t : Int} (h : (spansOf a b c f t).2 ≠ 0) : (spansOf a b c f t).1 = none := by
  unfold spansOf at h ⊢
  split
  · rename_i hI
    rw [if_pos hI] at h
    split
    · rfl
    · rename_i h2
      rw [if_neg h2] at h
      split
      · rename_i h3; rw [if_pos h3] at h; exact absurd rfl h
      · rfl
  · rfl

def mwvi (g : Int → Int → Int → Int → Int → Int → Option (List PA)) : List PA → Option (List PA)
  | [.agg [.int .i64 a, .int .i64 b, .int .i64 c], .agg [.int .i64 f, .int .i64 t], .c (.int .i64 x)] => g a b c f t x
  | _ => none
theorem mwvi_inv {g : Int → Int → Int → Int → Int → Int → Option (List PA)} {args r : List PA} (h : mwvi g args = some r) : ∃ a b c f t x, args = [.agg [.int .i64 a, .int .i64 b, .int .i64 c], .agg [.int .i64 f, .int .i64 t], .c (.int .i64 x)] ∧ g a b c f t x = some r := by
  unfold mwvi at h
  split at h
  · exact ⟨_, _, _, _, _, _, rfl, h⟩
  · cases h

def lCovers_m : List PA → Option (List PA) := mwvi fun _ _ _ _ _ _ => some [.b true]

theorem lCovers_ok : PureC Tryd.prog Gt 11 lCovers_m := by
  refine pure_of_awp (X := ctx Tryd.prog Gt [(26, cspans_m), (24, cin_m), (19, awake_m)]) Tryd.func11 rfl rfl (by kernel_rfl) (by kernel_rfl) (AllOk.cons cspans_ok (AllOk.cons cin_ok (AllOk.cons awake_ok AllOk.nil))).kok ?_
  intro args r h0
  obtain ⟨a, b, c, f, t, x, rfl, h⟩ := mwvi_inv h0
  refine ⟨Nat.le_of_ble_eq_true rfl, ?_⟩
  cases h
  by_cases hE : (spansOf a b c f t).2 = 0
  · cases hO : (spansOf a b c f t).1 with
    | none =>
      have hin := spans_none hO x hE
      have c1 : cspans_m [.agg [.int .i64 a, .int .i64 b, .int .i64 c], .agg [.int .i64 f, .int .i64 t]] = some [.c (.sl true []), .c (.int .i64 0)] := by
        simp only [cspans_m, mwv_eq, hE, hO, slI]
      have hc := Nat.zero_add 0
      repeat' (first | (simp only [hc, Tryd.f11, c1, AB, PL, RG, LP, TY, Nat.reduceEqDiff, Nat.reduceAdd, Nat.reduceSub, Nat.reduceMul, Nat.reduceLT, Nat.reduceLeDiff, Nat.reduceMod, Nat.reduceDiv, reduceCtorEq, Int.reduceEq, Int.reduceNe, Int.reduceLT, Int.reduceLE, Int.reduceNeg, Int.reduceToNat, Int.reduceAdd, Int.reduceSub, Int.reduceMul, ↓reduceIte, forall_const, eq_self, ne_eq, Option.some.injEq, beq_self_eq_true]) | refine fin_ndec (fun hc => ?_) (fun hc => ?_) | refine fin_dec (fun hc => ?_) (fun hc => ?_) | refine cnd_ndec (fun hc => ?_) (fun hc => ?_) | refine cnd_dec' (fun hc => ?_) (fun hc => ?_) | refine fin_nsplit (fun hc => ?_) (fun hc => ?_) | refine fin_split (fun hc => ?_) (fun hc => ?_) | refine cnd_nsplit (fun hc => ?_) (fun hc => ?_) | refine cnd_split (fun hc => ?_) (fun hc => ?_) | refine blk_exit_id ?_)
      refine awp_loop (σ := Unit) (fun _ => True) (fun _ => ⟨[(10, AV.i 0), (9, AV.b false), (7, AV.d (.sl true [])), (2, AV.i x), (3, .v (.c (.ptr 0 0))), (4, .v (.c (.ptr 1 0)))], [.box [.d (.int .i64 a), .d (.int .i64 b), .d (.int .i64 c)], .box [.d (.int .i64 f), .d (.int .i64 t)]]⟩) (fun _ => 0) () (Wk.sub (by simp [subT, look])) trivial ?_
      intro _ _
      have hc := Nat.zero_add 0
      repeat' (first | (simp only [hc, Int.natCast_zero, Int.lt_irrefl, cin_m, mwi_eq, hin, aw, AB, PL, RG, LP, TY, Nat.reduceEqDiff, Nat.reduceAdd, Nat.reduceSub, Nat.reduceMul, Nat.reduceLT, Nat.reduceLeDiff, Nat.reduceMod, Nat.reduceDiv, reduceCtorEq, Int.reduceEq, Int.reduceNe, Int.reduceLT, Int.reduceLE, Int.reduceNeg, Int.reduceToNat, Int.reduceAdd, Int.reduceSub, Int.reduceMul, ↓reduceIte, forall_const, eq_self, ne_eq, Option.some.injEq, beq_self_eq_true]) | refine fin_ndec (fun hc => ?_) (fun hc => ?_) | refine fin_dec (fun hc => ?_) (fun hc => ?_) | refine cnd_ndec (fun hc => ?_) (fun hc => ?_) | refine cnd_dec' (fun hc => ?_) (fun hc => ?_) | refine fin_nsplit (fun hc => ?_) (fun hc => ?_) | refine fin_split (fun hc => ?_) (fun hc => ?_) | refine cnd_nsplit (fun hc => ?_) (fun hc => ?_) | refine cnd_split (fun hc => ?_) (fun hc => ?_) | refine blk_exit_id ?_)
      all_goals simp_all [DV.b]
    | some l =>
      obtain ⟨hchk, hhas⟩ := spans_cover hO x
      have hlen := spans_len hO
      have c1 : cspans_m [.agg [.int .i64 a, .int .i64 b, .int .i64 c], .agg [.int .i64 f, .int .i64 t]] = some [.c (.sl false (l.map rowI)), .c (.int .i64 0)] := by
        simp only [cspans_m, mwv_eq, hE, hO, slI]
      have h1 : ((l.map rowI).length : Int) = l.length := by simp
      have hc := Nat.zero_add 0
      repeat' (first | (simp only [hc, Tryd.f11, c1, AB, PL, RG, LP, TY, Nat.reduceEqDiff, Nat.reduceAdd, Nat.reduceSub, Nat.reduceMul, Nat.reduceLT, Nat.reduceLeDiff, Nat.reduceMod, Nat.reduceDiv, reduceCtorEq, Int.reduceEq, Int.reduceNe, Int.reduceLT, Int.reduceLE, Int.reduceNeg, Int.reduceToNat, Int.reduceAdd, Int.reduceSub, Int.reduceMul, ↓reduceIte, forall_const, eq_self, ne_eq, Option.some.injEq, beq_self_eq_true]) | refine fin_ndec (fun hc => ?_) (fun hc => ?_) | refine fin_dec (fun hc => ?_) (fun hc => ?_) | refine cnd_ndec (fun hc => ?_) (fun hc => ?_) | refine cnd_dec' (fun hc => ?_) (fun hc => ?_) | refine fin_nsplit (fun hc => ?_) (fun hc => ?_) | refine fin_split (fun hc => ?_) (fun hc => ?_) | refine cnd_nsplit (fun hc => ?_) (fun hc => ?_) | refine cnd_split (fun hc => ?_) (fun hc => ?_) | refine blk_exit_id ?_)
      refine awp_loop (σ := List Iv × List Iv) (fun p => p.1 ++ p.2 = l) (fun p => ⟨[(10, AV.i p.1.length), (9, AV.b (hasB x p.1)), (7, AV.d (.sl false (l.map rowI))), (2, AV.i x), (3, .v (.c (.ptr 0 0))), (4, .v (.c (.ptr 1 0)))], [.box [.d (.int .i64 a), .d (.int .i64 b), .d (.int .i64 c)], .box [.d (.int .i64 f), .d (.int .i64 t)]]⟩) (fun p => p.2.length) ([], l) (Wk.sub (by simp [subT, look, hasB])) rfl ?_
      rintro ⟨u, v⟩ huv
      dsimp only at huv ⊢
      subst huv
      obtain ⟨_, hv⟩ := chk_append.1 hchk
      have hl : ((u ++ v).length : Int) = u.length + v.length := by simp
      cases v with
      | nil =>
        have q1 : ((u.length : Int) < ((u ++ []).length : Int)) = False := eq_false (by simp)
        have hh : hasB x u = (inB a b c x && decide (f ≤ x) && decide (x < t)) := by rw [← hhas]; simp
        have hc := Nat.zero_add 0
        repeat' (first | (simp only [hc, h1, q1, cin_m, mwi_eq, hh, aw, AB, PL, RG, LP, TY, Nat.reduceEqDiff, Nat.reduceAdd, Nat.reduceSub, Nat.reduceMul, Nat.reduceLT, Nat.reduceLeDiff, Nat.reduceMod, Nat.reduceDiv, reduceCtorEq, Int.reduceEq, Int.reduceNe, Int.reduceLT, Int.reduceLE, Int.reduceNeg, Int.reduceToNat, Int.reduceAdd, Int.reduceSub, Int.reduceMul, ↓reduceIte, forall_const, eq_self, ne_eq, Option.some.injEq, beq_self_eq_true]) | refine fin_ndec (fun hc => ?_) (fun hc => ?_) | refine fin_dec (fun hc => ?_) (fun hc => ?_) | refine cnd_ndec (fun hc => ?_) (fun hc => ?_) | refine cnd_dec' (fun hc => ?_) (fun hc => ?_) | refine fin_nsplit (fun hc => ?_) (fun hc => ?_) | refine fin_split (fun hc => ?_) (fun hc => ?_) | refine cnd_nsplit (fun hc => ?_) (fun hc => ?_) | refine cnd_split (fun hc => ?_) (fun hc => ?_) | refine blk_exit_id ?_)
        all_goals (simp_all [DV.b])
      | cons p v =>
        obtain ⟨k1, k2, k3, k4, k5⟩ := hv
        have q1 : ((u.length : Int) < ((u ++ p :: v).length : Int)) = True := eq_true (by simp; omega)
        have q2 : ((u ++ p :: v).map rowI)[u.length]? = some [.int .i64 p.1, .int .i64 p.2] := by simp [rowI]
        have q3 : ((0 : Int) ≤ (u.length : Int)) = True := eq_true (by omega)
        have q4 : (p.2 ≤ p.1) = False := eq_false (by omega)
        have q5 : (p.1 < f) = False := eq_false (by omega)
        have q6 : (t < p.2) = False := eq_false (by omega)
        have w1 := wI (n := (u.length : Int) + 1) (by omega) (by simp at hlen; omega)
        have hh : hasB x (u ++ [p]) = (hasB x u || (decide (p.1 ≤ x) && decide (x < p.2))) := by
          rw [hasB_append]; simp [hasB]
        have next : ((u ++ [p]) ++ v = u ++ p :: v) ∧ v.length < (p :: v).length := ⟨by simp, by simp⟩
        have prev : u = [] ∨ ∃ u' q, u = u' ++ [q] ∧ ((u ++ p :: v).map rowI)[u'.length]? = some [.int .i64 q.1, .int .i64 q.2] ∧ q.2 < p.1 := by
          rcases List.eq_nil_or_concat u with rfl | ⟨u', q, rfl⟩
          · exact .inl rfl
          · right
            rw [List.concat_eq_append, lastE_append] at k4
            exact ⟨u', q, by rw [List.concat_eq_append], by simp [rowI], k4⟩
        rcases prev with hu | ⟨u', q, hu, q7, q8⟩
        · have q10 : ((0 : Int) < (u.length : Int)) = False := eq_false (by rw [hu]; simp)
          by_cases g1 : p.1 ≤ x
          · by_cases g2 : x < p.2
            · skip
              have hc := Nat.zero_add 0
              repeat' (first | (simp only [hc, h1, q1, q2, q3, q4, q5, q6, q10, g1, g2, AB, PL, RG, LP, TY, Nat.reduceEqDiff, Nat.reduceAdd, Nat.reduceSub, Nat.reduceMul, Nat.reduceLT, Nat.reduceLeDiff, Nat.reduceMod, Nat.reduceDiv, reduceCtorEq, Int.reduceEq, Int.reduceNe, Int.reduceLT, Int.reduceLE, Int.reduceNeg, Int.reduceToNat, Int.reduceAdd, Int.reduceSub, Int.reduceMul, ↓reduceIte, forall_const, eq_self, ne_eq, Option.some.injEq, beq_self_eq_true]) | refine fin_ndec (fun hc => ?_) (fun hc => ?_) | refine fin_dec (fun hc => ?_) (fun hc => ?_) | refine cnd_ndec (fun hc => ?_) (fun hc => ?_) | refine cnd_dec' (fun hc => ?_) (fun hc => ?_) | refine fin_nsplit (fun hc => ?_) (fun hc => ?_) | refine fin_split (fun hc => ?_) (fun hc => ?_) | refine cnd_nsplit (fun hc => ?_) (fun hc => ?_) | refine cnd_split (fun hc => ?_) (fun hc => ?_) | refine blk_exit_id ?_)
              exact lp_next (u ++ [p], v) (Wk.sub (by simp [subT, look, w1, hh, g1, g2])) next.1 next.2
            · skip
              have hc := Nat.zero_add 0
              repeat' (first | (simp only [hc, h1, q1, q2, q3, q4, q5, q6, q10, g1, g2, AB, PL, RG, LP, TY, Nat.reduceEqDiff, Nat.reduceAdd, Nat.reduceSub, Nat.reduceMul, Nat.reduceLT, Nat.reduceLeDiff, Nat.reduceMod, Nat.reduceDiv, reduceCtorEq, Int.reduceEq, Int.reduceNe, Int.reduceLT, Int.reduceLE, Int.reduceNeg, Int.reduceToNat, Int.reduceAdd, Int.reduceSub, Int.reduceMul, ↓reduceIte, forall_const, eq_self, ne_eq, Option.some.injEq, beq_self_eq_true]) | refine fin_ndec (fun hc => ?_) (fun hc => ?_) | refine fin_dec (fun hc => ?_) (fun hc => ?_) | refine cnd_ndec (fun hc => ?_) (fun hc => ?_) | refine cnd_dec' (fun hc => ?_) (fun hc => ?_) | refine fin_nsplit (fun hc => ?_) (fun hc => ?_) | refine fin_split (fun hc => ?_) (fun hc => ?_) | refine cnd_nsplit (fun hc => ?_) (fun hc => ?_) | refine cnd_split (fun hc => ?_) (fun hc => ?_) | refine blk_exit_id ?_)
              exact lp_next (u ++ [p], v) (Wk.sub (by simp [subT, look, w1, hh, g1, g2])) next.1 next.2
          · skip
            have hc := Nat.zero_add 0
            repeat' (first | (simp only [hc, h1, q1, q2, q3, q4, q5, q6, q10, g1, AB, PL, RG, LP, TY, Nat.reduceEqDiff, Nat.reduceAdd, Nat.reduceSub, Nat.reduceMul, Nat.reduceLT, Nat.reduceLeDiff, Nat.reduceMod, Nat.reduceDiv, reduceCtorEq, Int.reduceEq, Int.reduceNe, Int.reduceLT, Int.reduceLE, Int.reduceNeg, Int.reduceToNat, Int.reduceAdd, Int.reduceSub, Int.reduceMul, ↓reduceIte, forall_const, eq_self, ne_eq, Option.some.injEq, beq_self_eq_true]) | refine fin_ndec (fun hc => ?_) (fun hc => ?_) | refine fin_dec (fun hc => ?_) (fun hc => ?_) | refine cnd_ndec (fun hc => ?_) (fun hc => ?_) | refine cnd_dec' (fun hc => ?_) (fun hc => ?_) | refine fin_nsplit (fun hc => ?_) (fun hc => ?_) | refine fin_split (fun hc => ?_) (fun hc => ?_) | refine cnd_nsplit (fun hc => ?_) (fun hc => ?_) | refine cnd_split (fun hc => ?_) (fun hc => ?_) | refine blk_exit_id ?_)
            exact lp_next (u ++ [p], v) (Wk.sub (by simp [subT, look, w1, hh, g1])) next.1 next.2
        · have hul : u.length = u'.length + 1 := by rw [hu]; simp
          have hul2 : (u ++ p :: v).length = u.length + (p :: v).length := List.length_append
          have q9 : IntKind.i64.wrap ((u.length : Int) - 1) = u'.length := by rw [wI (by omega) (by omega)]; omega
          have q10 : ((0 : Int) < (u.length : Int)) = True := eq_true (by rw [hu]; simp)
          have q11 : ((0 : Int) ≤ (u'.length : Int)) = True := eq_true (by omega)
          have q12 : (p.1 ≤ q.2) = False := eq_false (by omega)
          by_cases g1 : p.1 ≤ x
          · by_cases g2 : x < p.2
            · skip
              have hc := Nat.zero_add 0
              repeat' (first | (simp only [hc, h1, q1, q2, q3, q4, q5, q6, q7, q9, q10, q11, q12, g1, g2, AB, PL, RG, LP, TY, Nat.reduceEqDiff, Nat.reduceAdd, Nat.reduceSub, Nat.reduceMul, Nat.reduceLT, Nat.reduceLeDiff, Nat.reduceMod, Nat.reduceDiv, reduceCtorEq, Int.reduceEq, Int.reduceNe, Int.reduceLT, Int.reduceLE, Int.reduceNeg, Int.reduceToNat, Int.reduceAdd, Int.reduceSub, Int.reduceMul, ↓reduceIte, forall_const, eq_self, ne_eq, Option.some.injEq, beq_self_eq_true]) | refine fin_ndec (fun hc => ?_) (fun hc => ?_) | refine fin_dec (fun hc => ?_) (fun hc => ?_) | refine cnd_ndec (fun hc => ?_) (fun hc => ?_) | refine cnd_dec' (fun hc => ?_) (fun hc => ?_) | refine fin_nsplit (fun hc => ?_) (fun hc => ?_) | refine fin_split (fun hc => ?_) (fun hc => ?_) | refine cnd_nsplit (fun hc => ?_) (fun hc => ?_) | refine cnd_split (fun hc => ?_) (fun hc => ?_) | refine blk_exit_id ?_)
              exact lp_next (u ++ [p], v) (Wk.sub (by simp [subT, look, w1, hh, g1, g2])) next.1 next.2
            · skip
              have hc := Nat.zero_add 0
              repeat' (first | (simp only [hc, h1, q1, q2, q3, q4, q5, q6, q7, q9, q10, q11, q12, g1, g2, AB, PL, RG, LP, TY, Nat.reduceEqDiff, Nat.reduceAdd, Nat.reduceSub, Nat.reduceMul, Nat.reduceLT, Nat.reduceLeDiff, Nat.reduceMod, Nat.reduceDiv, reduceCtorEq, Int.reduceEq, Int.reduceNe, Int.reduceLT, Int.reduceLE, Int.reduceNeg, Int.reduceToNat, Int.reduceAdd, Int.reduceSub, Int.reduceMul, ↓reduceIte, forall_const, eq_self, ne_eq, Option.some.injEq, beq_self_eq_true]) | refine fin_ndec (fun hc => ?_) (fun hc => ?_) | refine fin_dec (fun hc => ?_) (fun hc => ?_) | refine cnd_ndec (fun hc => ?_) (fun hc => ?_) | refine cnd_dec' (fun hc => ?_) (fun hc => ?_) | refine fin_nsplit (fun hc => ?_) (fun hc => ?_) | refine fin_split (fun hc => ?_) (fun hc => ?_) | refine cnd_nsplit (fun hc => ?_) (fun hc => ?_) | refine cnd_split (fun hc => ?_) (fun hc => ?_) | refine blk_exit_id ?_)
              exact lp_next (u ++ [p], v) (Wk.sub (by simp [subT, look, w1, hh, g1, g2])) next.1 next.2
          · skip
            have hc := Nat.zero_add 0
            repeat' (first | (simp only [hc, h1, q1, q2, q3, q4, q5, q6, q7, q9, q10, q11, q12, g1, AB, PL, RG, LP, TY, Nat.reduceEqDiff, Nat.reduceAdd, Nat.reduceSub, Nat.reduceMul, Nat.reduceLT, Nat.reduceLeDiff, Nat.reduceMod, Nat.reduceDiv, reduceCtorEq, Int.reduceEq, Int.reduceNe, Int.reduceLT, Int.reduceLE, Int.reduceNeg, Int.reduceToNat, Int.reduceAdd, Int.reduceSub, Int.reduceMul, ↓reduceIte, forall_const, eq_self, ne_eq, Option.some.injEq, beq_self_eq_true]) | refine fin_ndec (fun hc => ?_) (fun hc => ?_) | refine fin_dec (fun hc => ?_) (fun hc => ?_) | refine cnd_ndec (fun hc => ?_) (fun hc => ?_) | refine cnd_dec' (fun hc => ?_) (fun hc => ?_) | refine fin_nsplit (fun hc => ?_) (fun hc => ?_) | refine fin_split (fun hc => ?_) (fun hc => ?_) | refine cnd_nsplit (fun hc => ?_) (fun hc => ?_) | refine cnd_split (fun hc => ?_) (fun hc => ?_) | refine blk_exit_id ?_)
            exact lp_next (u ++ [p], v) (Wk.sub (by simp [subT, look, w1, hh, g1])) next.1 next.2
  · have hO := spans_err hE
    have c1 : cspans_m [.agg [.int .i64 a, .int .i64 b, .int .i64 c], .agg [.int .i64 f, .int .i64 t]] = some [.c (.sl true []), .c (.int .i64 (spansOf a b c f t).2)] := by
      simp only [cspans_m, mwv_eq, hO, slI]
    have hc := Nat.zero_add 0
    repeat' (first | (simp only [hc, Tryd.f11, c1, hE, aw, AB, PL, RG, LP, TY, Nat.reduceEqDiff, Nat.reduceAdd, Nat.reduceSub, Nat.reduceMul, Nat.reduceLT, Nat.reduceLeDiff, Nat.reduceMod, Nat.reduceDiv, reduceCtorEq, Int.reduceEq, Int.reduceNe, Int.reduceLT, Int.reduceLE, Int.reduceNeg, Int.reduceToNat, Int.reduceAdd, Int.reduceSub, Int.reduceMul, ↓reduceIte, forall_const, eq_self, ne_eq, Option.some.injEq, beq_self_eq_true]) | refine fin_ndec (fun hc => ?_) (fun hc => ?_) | refine fin_dec (fun hc => ?_) (fun hc => ?_) | refine cnd_ndec (fun hc => ?_) (fun hc => ?_) | refine cnd_dec' (fun hc => ?_) (fun hc => ?_) | refine fin_nsplit (fun hc => ?_) (fun hc => ?_) | refine fin_split (fun hc => ?_) (fun hc => ?_) | refine cnd_nsplit (fun hc => ?_) (fun hc => ?_) | refine cnd_split (fun hc => ?_) (fun hc => ?_) | refine blk_exit_id ?_)
    all_goals simp_all [DV.b]

end Go.Ab
