/-
  Texts of the layer and of the laws, put together: AbQ19, AbQ20. No law is stated here.
-/
import Derived.Test.YtfokeholingnjaaDoorAbV38
import Derived.Test.YtfokeholingnjaaDoorAbV23
set_option linter.unusedSimpArgs false
set_option linter.unusedVariables false
set_option maxRecDepth 100000

/-
  Lines of fields: what the function of the laws computes.
-/
namespace Go.Ab
open Go.RowKit Go.Proofs

noncomputable section
open Classical

/-- A field, and a line of fields. -/
def GoodF (p : List UInt8) : Prop := p ≠ [] ∧ ∀ c ∈ p, 33 ≤ c.toNat ∧ c.toNat ≤ 126
def GoodL (l : List (List UInt8)) : Prop := 2 ≤ l.length ∧ ∀ p ∈ l, GoodF p
/-- A text of such lines. -/
def Good (s : List UInt8) : Prop := ∃ ls : List (List (List UInt8)), (∀ l ∈ ls, GoodL l) ∧ s = ls.flatMap lineF

theorem Good.nil : Good [] := ⟨[], (fun l h => by cases h), rfl⟩
theorem Good.line {l : List (List UInt8)} (h : GoodL l) : Good (lineF l) := ⟨[l], fun x hx => by rw [List.mem_singleton] at hx; subst hx; exact h, by simp⟩
theorem Good.append {a b : List UInt8} (ha : Good a) (hb : Good b) : Good (a ++ b) := by
  obtain ⟨l, h1, rfl⟩ := ha
  obtain ⟨k, h2, rfl⟩ := hb
  exact ⟨l ++ k, fun x hx => (List.mem_append.1 hx).elim (h1 x) (h2 x), by simp⟩
theorem Good.flat {α : Type} {f : α → List UInt8} : ∀ {l : List α}, (∀ x ∈ l, Good (f x)) → Good (l.flatMap f)
  | [], _ => Good.nil
  | x :: l, h => by
    rw [List.flatMap_cons]
    exact (h x List.mem_cons_self).append (Good.flat (fun y hy => h y (List.mem_cons_of_mem _ hy)))

theorem splJ : ∀ {l : List (List UInt8)}, l ≠ [] → (∀ p ∈ l, (32 : UInt8) ∉ p) → spl 32 (Lib.join l [32]) = l
  | [], h, _ => absurd rfl h
  | [p], _, h => by
    have : Lib.join [p] [32] = p := by simp [Lib.join, List.intercalate]
    rw [this]
    exact spl_none 32 p (h p List.mem_cons_self)
  | p :: q :: l, _, h => by
    rw [Lib.join_cons]
    have e : Lib.joinTail [32] (q :: l) = 32 :: Lib.join (q :: l) [32] := by
      rw [Lib.join_cons]; simp [Lib.joinTail]
    rw [e, spl_append 32 p _ (h p List.mem_cons_self), splJ (by simp) (fun x hx => h x (List.mem_cons_of_mem _ hx))]

theorem mem_join {c : UInt8} : ∀ {l : List (List UInt8)}, c ∈ Lib.join l [32] → c = 32 ∨ ∃ p ∈ l, c ∈ p
  | [], h => by simp [Lib.join, List.intercalate] at h
  | [p], h => by
    have : Lib.join [p] [32] = p := by simp [Lib.join, List.intercalate]
    rw [this] at h
    exact .inr ⟨p, List.mem_cons_self, h⟩
  | p :: q :: l, h => by
    rw [Lib.join_cons] at h
    have e : Lib.joinTail [32] (q :: l) = 32 :: Lib.join (q :: l) [32] := by
      rw [Lib.join_cons]; simp [Lib.joinTail]
    rw [e, List.mem_append, List.mem_cons] at h
    rcases h with h | h | h
    · exact .inr ⟨p, List.mem_cons_self, h⟩
    · exact .inl h
    · rcases mem_join h with h | ⟨x, hx, h⟩
      · exact .inl h
      · exact .inr ⟨x, List.mem_cons_of_mem _ hx, h⟩

theorem GoodL.no10 {l : List (List UInt8)} (h : GoodL l) : (10 : UInt8) ∉ Lib.join l [32] := fun hm => by
  rcases mem_join hm with h1 | ⟨p, hp, hc⟩
  · cases h1
  · have := ((h.2 p hp).2 10 hc).1
    exact absurd this (by decide)
theorem GoodL.fields {l : List (List UInt8)} (h : GoodL l) (hl : (Lib.join l [32]).length ≤ 512) : fieldsF (Lib.join l [32]) = (some l, 0) := by
  have hne : l ≠ [] := fun e => by have := h.1; rw [e] at this; simp at this
  have hs : spl 32 (Lib.join l [32]) = l := splJ hne (fun p hp hc => absurd ((h.2 p hp).2 32 hc).1 (by decide))
  have hne2 : Lib.join l [32] ≠ [] := fun e => by
    rw [e] at hs
    have : spl 32 [] = [[]] := rfl
    rw [this] at hs
    rw [← hs] at h
    exact absurd h.1 (by simp)
  rw [fields_yes (by omega) hne2, hs]
  refine ⟨?_, ?_⟩
  · rw [List.all_eq_true]
    intro c hc
    rw [okF_iff]
    rcases mem_join hc with rfl | ⟨p, hp, hc⟩
    · decide
    · have := (h.2 p hp).2 c hc
      omega
  · rw [hs]
    exact fun hm => (h.2 [] hm).1 rfl

def lines_m : List PA → Option (List PA) := ms fun s => if Good s ∧ s.length ≤ 1000000000000 then some [.b true] else none

theorem lines_ok : PureC Tryd.prog Gt 23 lines_m := by
  refine pure_of_awp (X := ctx Tryd.prog Gt [(53, tfields_m)]) Tryd.func23 rfl rfl (by kernel_rfl) (by kernel_rfl) (AllOk.cons tfields_ok AllOk.nil).kok ?_
  intro args r h0
  obtain ⟨s, rfl, h⟩ := ms_inv h0
  refine ⟨Nat.le_of_ble_eq_true rfl, ?_⟩
  split at h
  · rename_i hg
    obtain ⟨⟨ls0, hgs, hs0⟩, hsl⟩ := hg
    cases h
    have hc := Nat.zero_add 0
    repeat' (first | (simp only [hc, Tryd.f23, SX, AB, PL, RG, LP, TY, Nat.reduceEqDiff, Nat.reduceAdd, Nat.reduceSub, Nat.reduceMul, Nat.reduceLT, Nat.reduceLeDiff, Nat.reduceMod, Nat.reduceDiv, reduceCtorEq, Int.reduceEq, Int.reduceNe, Int.reduceLT, Int.reduceLE, Int.reduceNeg, Int.reduceToNat, Int.reduceAdd, Int.reduceSub, Int.reduceMul, ↓reduceIte, forall_const, eq_self, ne_eq, Option.some.injEq, beq_self_eq_true]) | refine fin_ndec (fun hc => ?_) (fun hc => ?_) | refine fin_dec (fun hc => ?_) (fun hc => ?_) | refine cnd_ndec (fun hc => ?_) (fun hc => ?_) | refine cnd_dec' (fun hc => ?_) (fun hc => ?_) | refine fin_nsplit (fun hc => ?_) (fun hc => ?_) | refine fin_split (fun hc => ?_) (fun hc => ?_) | refine cnd_nsplit (fun hc => ?_) (fun hc => ?_) | refine cnd_split (fun hc => ?_) (fun hc => ?_) | refine blk_exit_id ?_)
    refine awp_loop (σ := Nat × Nat × List (List (List UInt8))) (fun p => p.1 ≤ s.length ∧ p.2.1 ≤ p.1 ∧ (∀ l ∈ p.2.2, GoodL l) ∧ s.drop p.2.1 = p.2.2.flatMap lineF ∧ (10 : UInt8) ∉ (s.drop p.2.1).take (p.1 - p.2.1))
      (fun p => ⟨[(4, AV.i p.1), (3, AV.i p.2.1), (0, AV.s s)], []⟩) (fun p => s.length - p.1) (0, 0, ls0) (Wk.sub' (by simp [subT, look]) rfl) ⟨by simp, by simp, hgs, by simp [← hs0], by simp⟩ ?_
    rintro ⟨i, fr, ls⟩ ⟨hi, hfr, hgl, hdr, hno⟩
    dsimp only at hi hfr hgl hdr hno ⊢
    have hw := wI (n := (i : Int) + 1) (by omega) (by omega)
    have hsub := wI (n := (i : Int) - (fr : Int)) (by omega) (by omega)
    have hfi : ((fr : Int) ≤ (i : Int)) = True := eq_true (by omega)
    have t10 : (((10 : UInt8).toNat : Nat) : Int) = 10 := rfl
    have hile : ((i : Int) ≤ (s.length : Int)) = True := eq_true (by omega)
    by_cases hil : i < s.length
    · have hlt : ((i : Int) < (s.length : Int)) = True := eq_true (by omega)
      obtain ⟨l, r, rfl⟩ : ∃ l r, ls = l :: r := by
        cases ls with
        | nil =>
          have := congrArg List.length hdr
          simp at this
          omega
        | cons l r => exact ⟨l, r, rfl⟩
      have hl := hgl l List.mem_cons_self
      have h10 := hl.no10
      rw [List.flatMap_cons] at hdr
      have hdr' : s.drop fr = Lib.join l [32] ++ 10 :: r.flatMap lineF := by rw [hdr]; simp [lineF]
      have hq : i - fr ≤ (Lib.join l [32]).length := by
        rcases Nat.lt_or_ge (Lib.join l [32]).length (i - fr) with h | h
        · exfalso
          apply hno
          rw [hdr', List.take_append]
          refine List.mem_append.2 (.inr ?_)
          obtain ⟨k, hk⟩ : ∃ k, i - fr - (Lib.join l [32]).length = k + 1 := ⟨i - fr - (Lib.join l [32]).length - 1, by omega⟩
          rw [hk]
          simp
        · exact h
      have hgi : s[i]? = (s.drop fr)[i - fr]? := by rw [List.getElem?_drop]; congr 1; omega
      by_cases hqe : i - fr = (Lib.join l [32]).length
      · have e1 : s[i]? = some 10 := by rw [hgi, hdr', hqe]; simp
        have hcut : List.take (i - fr) (List.drop fr s) = Lib.join l [32] := by rw [hdr', hqe, List.take_left]
        have hdr2 : s.drop (i + 1) = r.flatMap lineF := by
          have : s.drop (i + 1) = (s.drop fr).drop (i + 1 - fr) := by rw [List.drop_drop]; congr 1; omega
          rw [this, hdr', show i + 1 - fr = (Lib.join l [32]).length + 1 by omega]
          simp
        have hfd : tfields_m [.c (.str (Lib.join l [32]))] = some [.c (slT true (fieldsF (Lib.join l [32])).1), .i (fieldsF (Lib.join l [32])).2] := rfl
        by_cases hb : (i : Int) - (fr : Int) ≤ 512
        · have hff := hl.fields (by omega)
          rw [hff] at hfd
          have ll : ((l.map rowS).length : Int) = l.length := by simp
          have h2 : ((l.length : Int) < 2) = False := eq_false (by have := hl.1; omega)
          simp only [slT] at hfd
          have hc := Nat.zero_add 0
          repeat' (first | (simp only [hc, SX, hlt, e1, t10, nn, hw, hsub, hfi, hile, hcut, hfd, hb, ll, h2, AB, PL, RG, LP, TY, Nat.reduceEqDiff, Nat.reduceAdd, Nat.reduceSub, Nat.reduceMul, Nat.reduceLT, Nat.reduceLeDiff, Nat.reduceMod, Nat.reduceDiv, reduceCtorEq, Int.reduceEq, Int.reduceNe, Int.reduceLT, Int.reduceLE, Int.reduceNeg, Int.reduceToNat, Int.reduceAdd, Int.reduceSub, Int.reduceMul, ↓reduceIte, forall_const, eq_self, ne_eq, Option.some.injEq, beq_self_eq_true]) | refine fin_ndec (fun hc => ?_) (fun hc => ?_) | refine fin_dec (fun hc => ?_) (fun hc => ?_) | refine cnd_ndec (fun hc => ?_) (fun hc => ?_) | refine cnd_dec' (fun hc => ?_) (fun hc => ?_) | refine fin_nsplit (fun hc => ?_) (fun hc => ?_) | refine fin_split (fun hc => ?_) (fun hc => ?_) | refine cnd_nsplit (fun hc => ?_) (fun hc => ?_) | refine cnd_split (fun hc => ?_) (fun hc => ?_) | refine blk_exit_id ?_)
          exact lp_next (i + 1, i + 1, r) (Wk.sub' (by simp [subT, look]) rfl) ⟨by simp only []; omega, Nat.le_refl _, fun x hx => hgl x (List.mem_cons_of_mem _ hx), hdr2, by simp⟩ (by simp only []; omega)
        · generalize fieldsF (Lib.join l [32]) = ff at *
          obtain ⟨f1, f2⟩ := ff
          dsimp only at hfd
          generalize slT true f1 = f3 at *
          have hc := Nat.zero_add 0
          repeat' (first | (simp only [hc, SX, hlt, e1, t10, nn, hw, hsub, hfi, hile, hcut, hfd, hb, AB, PL, RG, LP, TY, Nat.reduceEqDiff, Nat.reduceAdd, Nat.reduceSub, Nat.reduceMul, Nat.reduceLT, Nat.reduceLeDiff, Nat.reduceMod, Nat.reduceDiv, reduceCtorEq, Int.reduceEq, Int.reduceNe, Int.reduceLT, Int.reduceLE, Int.reduceNeg, Int.reduceToNat, Int.reduceAdd, Int.reduceSub, Int.reduceMul, ↓reduceIte, forall_const, eq_self, ne_eq, Option.some.injEq, beq_self_eq_true]) | refine fin_ndec (fun hc => ?_) (fun hc => ?_) | refine fin_dec (fun hc => ?_) (fun hc => ?_) | refine cnd_ndec (fun hc => ?_) (fun hc => ?_) | refine cnd_dec' (fun hc => ?_) (fun hc => ?_) | refine fin_nsplit (fun hc => ?_) (fun hc => ?_) | refine fin_split (fun hc => ?_) (fun hc => ?_) | refine cnd_nsplit (fun hc => ?_) (fun hc => ?_) | refine cnd_split (fun hc => ?_) (fun hc => ?_) | refine blk_exit_id ?_)
          exact lp_next (i + 1, i + 1, r) (Wk.sub' (by simp [subT, look]) rfl) ⟨by simp only []; omega, Nat.le_refl _, fun x hx => hgl x (List.mem_cons_of_mem _ hx), hdr2, by simp⟩ (by simp only []; omega)
      · have hqlt : i - fr < (Lib.join l [32]).length := by omega
        have e1 : s[i]? = some (Lib.join l [32])[i - fr] := by rw [hgi, hdr', List.getElem?_append_left hqlt, List.getElem?_eq_getElem hqlt]
        have hc10 : (Lib.join l [32])[i - fr] ≠ 10 := fun h => h10 (h ▸ List.getElem_mem hqlt)
        have hsn : (s.drop fr).take (i + 1 - fr) = (s.drop fr).take (i - fr) ++ [(Lib.join l [32])[i - fr]] := cur_snoc e1 hfr
        generalize (Lib.join l [32])[i - fr] = c at *
        have hcn : ((c.toNat : Int) = 10) = False := eq_false (fun h => hc10 (UInt8.toNat_inj.1 (by simpa using (by omega : c.toNat = 10))))
        have hc := Nat.zero_add 0
        repeat' (first | (simp only [hc, SX, hlt, e1, nn, hw, hcn, AB, PL, RG, LP, TY, Nat.reduceEqDiff, Nat.reduceAdd, Nat.reduceSub, Nat.reduceMul, Nat.reduceLT, Nat.reduceLeDiff, Nat.reduceMod, Nat.reduceDiv, reduceCtorEq, Int.reduceEq, Int.reduceNe, Int.reduceLT, Int.reduceLE, Int.reduceNeg, Int.reduceToNat, Int.reduceAdd, Int.reduceSub, Int.reduceMul, ↓reduceIte, forall_const, eq_self, ne_eq, Option.some.injEq, beq_self_eq_true]) | refine fin_ndec (fun hc => ?_) (fun hc => ?_) | refine fin_dec (fun hc => ?_) (fun hc => ?_) | refine cnd_ndec (fun hc => ?_) (fun hc => ?_) | refine cnd_dec' (fun hc => ?_) (fun hc => ?_) | refine fin_nsplit (fun hc => ?_) (fun hc => ?_) | refine fin_split (fun hc => ?_) (fun hc => ?_) | refine cnd_nsplit (fun hc => ?_) (fun hc => ?_) | refine cnd_split (fun hc => ?_) (fun hc => ?_) | refine blk_exit_id (i := 1) ?_)
        refine lp_next (i + 1, fr, l :: r) (Wk.sub' (by simp [subT, look]) rfl) ⟨by simp only []; omega, by simp only []; omega, hgl, by simp only []; rw [hdr, List.flatMap_cons], ?_⟩ (by simp only []; omega)
        dsimp only
        rw [hsn, List.mem_append]
        rintro (h | h)
        · exact hno h
        · rw [List.mem_singleton] at h; exact hc10 h.symm
    · obtain rfl : i = s.length := by omega
      have hlt : ((s.length : Int) < (s.length : Int)) = False := eq_false (by omega)
      have hls : ls = [] := by
        cases ls with
        | nil => rfl
        | cons l r =>
          exfalso
          apply hno
          rw [List.take_of_length_le (by rw [List.length_drop]; omega), hdr, List.flatMap_cons]
          simp [lineF]
      subst hls
      have : fr = s.length := by
        have := congrArg List.length hdr
        simp at this
        omega
      subst this
      have hc := Nat.zero_add 0
      repeat' (first | (simp only [hc, SX, hlt, AB, PL, RG, LP, TY, Nat.reduceEqDiff, Nat.reduceAdd, Nat.reduceSub, Nat.reduceMul, Nat.reduceLT, Nat.reduceLeDiff, Nat.reduceMod, Nat.reduceDiv, reduceCtorEq, Int.reduceEq, Int.reduceNe, Int.reduceLT, Int.reduceLE, Int.reduceNeg, Int.reduceToNat, Int.reduceAdd, Int.reduceSub, Int.reduceMul, ↓reduceIte, forall_const, eq_self, ne_eq, Option.some.injEq, beq_self_eq_true]) | refine fin_ndec (fun hc => ?_) (fun hc => ?_) | refine fin_dec (fun hc => ?_) (fun hc => ?_) | refine cnd_ndec (fun hc => ?_) (fun hc => ?_) | refine cnd_dec' (fun hc => ?_) (fun hc => ?_) | refine fin_nsplit (fun hc => ?_) (fun hc => ?_) | refine fin_split (fun hc => ?_) (fun hc => ?_) | refine cnd_nsplit (fun hc => ?_) (fun hc => ?_) | refine cnd_split (fun hc => ?_) (fun hc => ?_) | refine blk_exit_id ?_)
      all_goals simp [DV.b]
  · cases h

end
end Go.Ab

/-
  Reports consist of lines of fields.
-/
namespace Go.Ab
open Go.RowKit Go.Proofs

noncomputable section
open Classical

theorem GoodF.mk' {p : List UInt8} (h : p ≠ []) (h2 : (p.all fun c => decide (33 ≤ c.toNat) && decide (c.toNat ≤ 126)) = true) : GoodF p := ⟨h, fun c hc => by
  rw [List.all_eq_true] at h2
  simpa using h2 c hc⟩
theorem GoodF.app {p q : List UInt8} (hp : GoodF p) (hq : GoodF q) : GoodF (p ++ q) := ⟨by simp [hp.1], fun c hc => (List.mem_append.1 hc).elim (hp.2 c) (hq.2 c)⟩
theorem gDec (u : Nat) : GoodF (Lib.decDigits u) := by
  obtain ⟨h1, _, h3, _⟩ := dec_spec (u + 1) u (Nat.lt_succ_self u)
  refine ⟨h3, fun c hc => ?_⟩
  rw [List.all_eq_true] at h1
  have := h1 c hc
  rw [dig_iff] at this
  omega
theorem gItoa (n : Int) : GoodF (Lib.itoa n) := by
  rw [itoa_spec]
  split
  · have := gDec n.natAbs
    refine ⟨by simp, fun c hc => ?_⟩
    rcases List.mem_cons.1 hc with rfl | hc
    · decide
    · exact this.2 c hc
  · exact gDec _
theorem digU_ok (n : Nat) : 33 ≤ (digU n).toNat ∧ (digU n).toNat ≤ 126 := by
  have h : n % 10 < 10 := Nat.mod_lt _ (by omega)
  unfold digU
  generalize n % 10 = k at *
  have : (UInt8.ofNat (48 + k)).toNat = 48 + k := by simp; omega
  omega
theorem gShow (n : Int) : GoodF (showF n) := by
  unfold showF
  have h1 : GoodF (Lib.decDigits (n.natAbs / 100) ++ 46 :: [digU (n.natAbs / 10), digU n.natAbs]) := by
    refine (gDec _).app ⟨by simp, fun c hc => ?_⟩
    simp only [List.mem_cons, List.not_mem_nil, or_false] at hc
    rcases hc with rfl | rfl | rfl
    · decide
    · exact digU_ok _
    · exact digU_ok _
  split
  · exact GoodF.app (p := [45]) (GoodF.mk' (by simp) (by decide)) h1
  · exact h1
theorem gTwo (n : Int) : GoodF (twoF n) := by
  unfold twoF
  split
  · exact GoodF.app (p := [48]) (GoodF.mk' (by simp) (by decide)) (gItoa n)
  · exact gItoa n
theorem gDate (d : Int) : GoodF (dateF d) := by
  by_cases h : isD d = true
  · obtain ⟨y, m, q, _, e, _⟩ := date_vals h
    rw [e]
    have g : GoodF [45] := GoodF.mk' (by simp) (by decide)
    exact ((((gItoa y).app g).app (gTwo m)).app g).app (gTwo q)
  · unfold dateF
    rw [if_neg h]
    exact GoodF.mk' (by simp) (by decide)
theorem hexD_ok : ∀ n : Nat, n < 16 → 33 ≤ (hexD n).toNat ∧ (hexD n).toNat ≤ 126 := by decide +kernel
theorem gEsc (s : List UInt8) : GoodF (escF s) := by
  unfold escF
  split
  · exact GoodF.mk' (by simp) (by decide)
  · rename_i hs
    obtain ⟨c, s, rfl⟩ : ∃ c r, s = c :: r := by
      cases s with
      | nil => exact absurd rfl hs
      | cons c r => exact ⟨c, r, rfl⟩
    have h1 : ∀ c : UInt8, esc1 c ≠ [] ∧ ∀ x ∈ esc1 c, 33 ≤ x.toNat ∧ x.toNat ≤ 126 := fun c => by
      unfold esc1
      split
      · rename_i hp
        refine ⟨by simp, fun x hx => ?_⟩
        rw [List.mem_singleton] at hx
        subst hx
        simp only [plainB, Bool.and_eq_true, decide_eq_true_eq] at hp
        omega
      · have := c.toNat_lt
        refine ⟨by simp, fun x hx => ?_⟩
        simp only [List.mem_cons, List.not_mem_nil, or_false] at hx
        rcases hx with rfl | rfl | rfl
        · decide
        · exact hexD_ok _ (by omega)
        · exact hexD_ok _ (by omega)
    refine ⟨by simp [(h1 c).1], fun x hx => ?_⟩
    obtain ⟨y, _, hy⟩ := List.mem_flatMap.1 hx
    exact (h1 y).2 x hy
theorem gWord {n : Int} {l : List (List UInt8)} (h : ∀ w ∈ l, GoodF w) : GoodF (wordF n l) := by
  unfold wordF
  split
  · exact GoodF.mk' (by simp) (by decide)
  · have hk : n.toNat - 1 < l.length := by omega
    rw [List.getD_eq_getElem?_getD, List.getElem?_eq_getElem hk]
    exact h _ (List.getElem_mem hk)
theorem gKind (a : Acc) : GoodF (kindF a) := by
  unfold kindF
  split
  · exact GoodF.mk' (by simp) (by decide)
  · split <;> exact GoodF.mk' (by simp) (by decide)
theorem g2 {a b : List UInt8} (ha : GoodF a) (hb : GoodF b) : Good (lineF [a, b]) := Good.line ⟨by simp, by
  simp only [List.mem_cons, List.not_mem_nil, or_false]
  rintro p (rfl | rfl) <;> assumption⟩
theorem g3 {a b c : List UInt8} (ha : GoodF a) (hb : GoodF b) (hc : GoodF c) : Good (lineF [a, b, c]) := Good.line ⟨by simp, by
  simp only [List.mem_cons, List.not_mem_nil, or_false]
  rintro p (rfl | rfl | rfl) <;> assumption⟩
theorem g4 {a b c d : List UInt8} (ha : GoodF a) (hb : GoodF b) (hc : GoodF c) (hd : GoodF d) : Good (lineF [a, b, c, d]) := Good.line ⟨by simp, by
  simp only [List.mem_cons, List.not_mem_nil, or_false]
  rintro p (rfl | rfl | rfl | rfl) <;> assumption⟩
theorem g7 {a b c d e f g : List UInt8} (ha : GoodF a) (hb : GoodF b) (hc : GoodF c) (hd : GoodF d) (he : GoodF e) (hf : GoodF f) (hg : GoodF g) : Good (lineF [a, b, c, d, e, f, g]) := Good.line ⟨by simp, by
  simp only [List.mem_cons, List.not_mem_nil, or_false]
  rintro p (rfl | rfl | rfl | rfl | rfl | rfl | rfl) <;> assumption⟩
theorem gCharge (x : Chg) : Good (chargeF x) := by
  unfold chargeF headC
  refine (g7 (GoodF.mk' (by simp) (by decide)) (gEsc _) (gEsc _) (gEsc _) (gItoa _) (gItoa _) (gShow _)).append (Good.flat fun l _ => ?_)
  unfold lineL
  exact g3 (GoodF.mk' (by simp) (by decide)) (gShow _) (gEsc _)
theorem gDay (l : List Chg) (d : Int) : Good (dayRep l d) := by
  unfold dayRep
  exact ((g2 (GoodF.mk' (by simp) (by decide)) (gDate _)).append (Good.flat fun x _ => gCharge x)).append (g3 (GoodF.mk' (by simp) (by decide)) (gItoa _) (gShow _))
theorem gAcc (a : Acc) (es : List Ent) (n : List UInt8) : Good (accRep a es n) := by
  unfold accRep
  refine ((g3 (GoodF.mk' (by simp) (by decide)) (gEsc _) (gKind _)).append (g2 (GoodF.mk' (by simp) (by decide)) (gShow _))).append (Good.flat fun e _ => ?_)
  unfold entL
  split
  · exact g4 (GoodF.mk' (by simp) (by decide)) (gDate _) (gShow _) (gEsc _)
  · exact Good.nil
theorem gStage : ∀ w ∈ stageW, GoodF w := by
  unfold stageW
  simp only [List.mem_cons, List.not_mem_nil, or_false]
  rintro w (rfl | rfl | rfl | rfl | rfl | rfl | rfl | rfl) <;> exact GoodF.mk' (by simp) (by decide)
theorem gAppeal : ∀ w ∈ appealW, GoodF w := by
  unfold appealW
  simp only [List.mem_cons, List.not_mem_nil, or_false]
  rintro w (rfl | rfl | rfl) <;> exact GoodF.mk' (by simp) (by decide)
theorem gCase (w : Lw) (hol : List Int) (x : Cas) : Good (caseRep w hol x) := by
  have k : GoodF [45] := GoodF.mk' (by simp) (by decide)
  unfold caseRep
  refine (((((g4 (GoodF.mk' (by simp) (by decide)) (gEsc _) (gEsc _) (gEsc _)).append (g3 (GoodF.mk' (by simp) (by decide)) (gWord gStage) (gDate _))).append (g2 (GoodF.mk' (by simp) (by decide)) (gShow _))).append (g2 (GoodF.mk' (by simp) (by decide)) (gShow _))).append ?_).append ?_
  · split
    · exact g2 (GoodF.mk' (by simp) (by decide)) (gDate _)
    · exact g2 (GoodF.mk' (by simp) (by decide)) k
  · split
    · exact g3 (GoodF.mk' (by simp) (by decide)) (gWord gAppeal) (gDate _)
    · exact g2 (GoodF.mk' (by simp) (by decide)) k
theorem gCnt {w : List UInt8} (h : GoodF w) (n : Int) : Good (cntF w n) := g2 h (gItoa n)
theorem gTot (s : St) : Good (totRep s) := by
  have k : ∀ {w : List UInt8}, w ≠ [] → (w.all fun c => decide (33 ≤ c.toNat) && decide (c.toNat ≤ 126)) = true → GoodF w := fun h1 h2 => GoodF.mk' h1 h2
  unfold totRep
  exact ((((((((((gCnt (k (by simp) (by decide)) _).append (g2 (k (by simp) (by decide)) (gDate _))).append (gCnt (k (by simp) (by decide)) _)).append (gCnt (k (by simp) (by decide)) _)).append (gCnt (k (by simp) (by decide)) _)).append (gCnt (k (by simp) (by decide)) _)).append (g3 (k (by simp) (by decide)) (gItoa _) (gShow _))).append (gCnt (k (by simp) (by decide)) _)).append (gCnt (k (by simp) (by decide)) _)).append (g3 (k (by simp) (by decide)) (gItoa _) (gShow _))).append (g3 (k (by simp) (by decide)) (gItoa _) (gItoa _))

/-! How long they are -/
theorem day_le {s : St} (hw : s.Wf) (hs : s.Small) (d : Int) : (dayRep s.chs d).length ≤ 1000000000000 := by
  obtain ⟨_, h1⟩ := day_len d hs.chs hs.ones (fun x hx => (hw.chr x hx).1) s.chs.length
  obtain ⟨h0, _⟩ := day_len d hs.chs hs.ones (fun x hx => (hw.chr x hx).1) s.chs.length
  rw [List.take_length] at h1 h0
  have h2 : (lineF [[100, 97, 121], dateF d]).length ≤ 2003 := line_le (l := [_, _]) (le2 (by simp) (by have := date_le d; omega))
  have h3 : (lineF [[115, 117, 109], Lib.itoa (onDay d s.chs).length, showF (sumC (onDay d s.chs))]).length ≤ 3004 := line_le (l := [_, _, _]) (le3 (by simp) (by have := itoa_le (n := ((onDay d s.chs).length : Int)) (inI_iff.2 (by omega)); omega) (by have := show_le (inI_sum (onDay d s.chs)); omega))
  unfold dayRep
  simp only [List.length_append]
  omega
theorem acc_le {s : St} {a : Acc} {n : List UInt8} (hs : s.Small) (hn : n.length ≤ 200) : (accRep a s.ents n).length ≤ 1000000000000 := by
  have h1 := ents_le (k := ownF n) hs.ents hs.esm s.ents.length
  rw [List.take_length] at h1
  have h2 : (lineF [[97, 99, 99, 111, 117, 110, 116], escF n, kindF a]).length ≤ 3004 := line_le (l := [_, _, _]) (le3 (by simp) (by have := esc_le hn; omega) (kind_le a))
  have h3 : (lineF [[98, 97, 108, 97, 110, 99, 101], showF (balF s.ents (ownF n))]).length ≤ 2003 := line_le (l := [_, _]) (le2 (by simp) (by have := show_le (inI_balF (ownF n) s.ents); omega))
  unfold accRep
  simp only [List.length_append]
  omega
theorem case_le {w : Lw} {hol : List Int} {x : Cas} (h : x.sm = true) (h4 : inI x.owed = true) (h5 : inI x.paid = true) : (caseRep w hol x).length ≤ 1000000000000 := by
  obtain ⟨m1, m2, m3⟩ := Cas.sm_iff.1 h
  have q1 := esc_le m1
  have q2 := esc_le m2
  have q3 := esc_le m3
  have b4 : (lineF [[99, 97, 115, 101], escF x.id, escF x.plate, escF x.key]).length ≤ 4005 := line_le (l := [_, _, _, _]) (le4 (by simp) (by omega) (by omega) (by omega))
  have q5 := word_le (n := x.stage) stage_le
  have q6 := date_le x.since
  have b7 : (lineF [[115, 116, 97, 103, 101], wordF x.stage stageW, dateF x.since]).length ≤ 3004 := line_le (l := [_, _, _]) (le3 (by simp) (by omega) (by omega))
  have q8 := show_le h4
  have q9 := show_le h5
  have b10 : (lineF [[111, 119, 101, 100], showF x.owed]).length ≤ 2003 := line_le (l := [_, _]) (le2 (by simp) (by omega))
  have b11 : (lineF [[112, 97, 105, 100], showF x.paid]).length ≤ 2003 := line_le (l := [_, _]) (le2 (by simp) (by omega))
  have b15 : (lineF [[100, 117, 101], dateF (dueF w hol x).1]).length ≤ 2003 := line_le (l := [_, _]) (le2 (by simp) (by have := date_le (dueF w hol x).1; omega))
  have b16 : (lineF [[100, 117, 101], [45]]).length ≤ 2003 := line_le (l := [_, _]) (le2 (by simp) (by simp))
  have q13 := word_le (n := x.ast) appeal_le
  have b18 : (lineF [[97, 112, 112, 101, 97, 108], wordF x.ast appealW, dateF x.aday]).length ≤ 3004 := line_le (l := [_, _, _]) (le3 (by simp) (by omega) (by have := date_le x.aday; omega))
  have b19 : (lineF [[97, 112, 112, 101, 97, 108], [45]]).length ≤ 2003 := line_le (l := [_, _]) (le2 (by simp) (by simp))
  unfold caseRep
  split <;> split <;> (simp only [List.length_append]; omega)
theorem tot_le {s : St} (hw : s.Wf) (hs : s.Small) : (totRep s).length ≤ 1000000000000 := by
  have iO := inI_len (n := openN s.cases) (by have := open_le s.cases; have := hs.cases; omega)
  have b1 := cnt_le (w := [101, 118, 101, 110, 116, 115]) (by simp) hw.cou
  have b2 : (lineF [[99, 108, 111, 115, 101, 100], dateF s.closed]).length ≤ 2003 := line_le (l := [_, _]) (le2 (by simp) (by have := date_le s.closed; omega))
  have b3 := cnt_le (w := [112, 97, 115, 115, 97, 103, 101, 115]) (by simp) (inI_len hw.psl)
  have b4 := cnt_le (w := [114, 101, 106, 101, 99, 116, 115]) (by simp) (inI_len hw.rsl)
  have b5 := cnt_le (w := [116, 114, 105, 112, 115]) (by simp) (inI_len hw.tsl)
  have b6 := cnt_le (w := [115, 116, 97, 121, 115]) (by simp) (inI_len hw.ssl)
  have b7 : (lineF [[99, 104, 97, 114, 103, 101, 115], Lib.itoa s.chs.length, showF (sumC s.chs)]).length ≤ 3004 := line_le (l := [_, _, _]) (le3 (by simp) (by have := itoa_le (inI_len hw.chl); omega) (by have := show_le (inI_sum s.chs); omega))
  have b8 := cnt_le (w := [101, 120, 99, 108, 117, 115, 105, 111, 110, 115]) (by simp) (inI_len hw.xsl)
  have b9 := cnt_le (w := [112, 111, 115, 116, 101, 100]) (by simp) (inI_len hw.dsl)
  have b10 : (lineF [[101, 110, 116, 114, 105, 101, 115], Lib.itoa s.ents.length, showF (debF s.ents)]).length ≤ 3004 := line_le (l := [_, _, _]) (le3 (by simp) (by have := itoa_le (inI_len hw.enl); omega) (by have := show_le (inI_deb s.ents); omega))
  have b11 : (lineF [[99, 97, 115, 101, 115], Lib.itoa s.cases.length, Lib.itoa (openN s.cases)]).length ≤ 3004 := line_le (l := [_, _, _]) (le3 (by simp) (by have := itoa_le (inI_len hw.cal); omega) (by have := itoa_le iO; omega))
  unfold totRep
  simp only [List.length_append]
  omega

theorem lines_at {s : List UInt8} (h : Good s) (hl : s.length ≤ 1000000000000) : lines_m [.c (.str s)] = some [.b true] := by rw [lines_m, ms_eq, if_pos ⟨h, hl⟩]

def stL (p : St × List UInt8 × List UInt8 × Int) (args : List PA) : Prop := p.1.is ∧ args = [.agg p.1.cells, .c (.str p.2.1), .c (.str p.2.2.1), .c (.int .i64 p.2.2.2)]
def lLines_m : List PA → Option (List PA) := mR stL fun p => if p.1.Wf ∧ p.1.OwnOk then some [.b true] else none

theorem dayl {s : St} (hw : s.Wf) (hs : s.Small) (d : Int) : ∃ a e, (if isD d = true then [DV.s (dayRep s.chs d), DV.i 0] else [DV.s [], DV.i 12]) = [.c (.str a), .c (.int .i64 e)] ∧ lines_m [.c (.str a)] = some [.b true] := by
  split
  · exact ⟨_, _, rfl, lines_at (gDay _ _) (day_le hw hs d)⟩
  · exact ⟨_, _, rfl, lines_at Good.nil (by simp)⟩
theorem accl {s : St} {n : List UInt8} (hs : s.Small) (hn : n.length ≤ 200) : ∃ a e, accOut s n = [.c (.str a), .c (.int .i64 e)] ∧ lines_m [.c (.str a)] = some [.b true] := by
  unfold accOut
  cases foundA s.accs n with
  | none => exact ⟨_, _, rfl, lines_at Good.nil (by simp)⟩
  | some x => exact ⟨_, _, rfl, lines_at (gAcc _ _ _) (acc_le hs hn)⟩
theorem casl {s : St} {n : List UInt8} (hw : s.Wf) (hs : s.Small) : ∃ a e, caseOut s n = [.c (.str a), .c (.int .i64 e)] ∧ lines_m [.c (.str a)] = some [.b true] := by
  unfold caseOut
  cases h : foundK s.cases n with
  | none => exact ⟨_, _, rfl, lines_at Good.nil (by simp)⟩
  | some x =>
    have hm : x ∈ s.cases := List.mem_of_find?_eq_some h
    obtain ⟨_, _, _, h4, h5, _⟩ := hw.car x hm
    exact ⟨_, _, rfl, lines_at (gCase _ _ _) (case_le (hs.csm x hm) h4 h5)⟩

theorem lLines_ok : PureC Tryd.prog Gt 9 lLines_m := by
  refine pure_of_awp (X := ctx Tryd.prog Gt [(14, small_m), (17, tacc_m), (15, tday_m), (19, tcase_m), (21, ttot_m), (23, lines_m), (13, alive_m)]) Tryd.func9 rfl rfl (by kernel_rfl) (by kernel_rfl) (AllOk.cons small_ok (AllOk.cons tacc_ok (AllOk.cons tday_ok (AllOk.cons tcase_ok (AllOk.cons ttot_ok (AllOk.cons lines_ok (AllOk.cons alive_ok AllOk.nil))))))).kok ?_
  intro args r h0
  obtain ⟨⟨s, nm, id, d⟩, ⟨hs, rfl⟩, h⟩ := mR_inv h0
  refine ⟨Nat.le_of_ble_eq_true rfl, ?_⟩
  split at h
  · rename_i hw
    obtain ⟨hw, ho⟩ := hw
    dsimp only at hs hw h ⊢
    cases h
    have f1 := small_at hs hw
    have hl := hs.len
    have ht : s.cells.take 39 = s.cells := List.take_of_length_le (by omega)
    by_cases hsm : s.Small
    · rw [decide_eq_true hsm] at f1
      by_cases hn : (200 : Int) < nm.length
      · skip
        have hc := Nat.zero_add 0
        repeat' (first | (simp only [hc, Tryd.f9, SX, WH, hl, ht, f1, hn, AB, PL, RG, LP, TY, Nat.reduceEqDiff, Nat.reduceAdd, Nat.reduceSub, Nat.reduceMul, Nat.reduceLT, Nat.reduceLeDiff, Nat.reduceMod, Nat.reduceDiv, reduceCtorEq, Int.reduceEq, Int.reduceNe, Int.reduceLT, Int.reduceLE, Int.reduceNeg, Int.reduceToNat, Int.reduceAdd, Int.reduceSub, Int.reduceMul, ↓reduceIte, forall_const, eq_self, ne_eq, Option.some.injEq, beq_self_eq_true]) | refine fin_ndec (fun hc => ?_) (fun hc => ?_) | refine fin_dec (fun hc => ?_) (fun hc => ?_) | refine cnd_ndec (fun hc => ?_) (fun hc => ?_) | refine cnd_dec' (fun hc => ?_) (fun hc => ?_) | refine fin_nsplit (fun hc => ?_) (fun hc => ?_) | refine fin_split (fun hc => ?_) (fun hc => ?_) | refine cnd_nsplit (fun hc => ?_) (fun hc => ?_) | refine cnd_split (fun hc => ?_) (fun hc => ?_) | refine blk_exit_id ?_)
        all_goals simp [DV.b]
      by_cases hn2 : (200 : Int) < id.length
      · skip
        have hc := Nat.zero_add 0
        repeat' (first | (simp only [hc, Tryd.f9, SX, WH, hl, ht, f1, hn, hn2, AB, PL, RG, LP, TY, Nat.reduceEqDiff, Nat.reduceAdd, Nat.reduceSub, Nat.reduceMul, Nat.reduceLT, Nat.reduceLeDiff, Nat.reduceMod, Nat.reduceDiv, reduceCtorEq, Int.reduceEq, Int.reduceNe, Int.reduceLT, Int.reduceLE, Int.reduceNeg, Int.reduceToNat, Int.reduceAdd, Int.reduceSub, Int.reduceMul, ↓reduceIte, forall_const, eq_self, ne_eq, Option.some.injEq, beq_self_eq_true]) | refine fin_ndec (fun hc => ?_) (fun hc => ?_) | refine fin_dec (fun hc => ?_) (fun hc => ?_) | refine cnd_ndec (fun hc => ?_) (fun hc => ?_) | refine cnd_dec' (fun hc => ?_) (fun hc => ?_) | refine fin_nsplit (fun hc => ?_) (fun hc => ?_) | refine fin_split (fun hc => ?_) (fun hc => ?_) | refine cnd_nsplit (fun hc => ?_) (fun hc => ?_) | refine cnd_split (fun hc => ?_) (fun hc => ?_) | refine blk_exit_id ?_)
        all_goals simp [DV.b]
      have f2 := tacc_at (n := nm) hs hw hsm ho (by omega)
      have f3 := tday_at (d := d) hs hw hsm
      have f4 := tcase_at (n := id) hs hw hsm
      have f5 := ttot_at hs hw hsm
      have f6 := lines_at (gTot s) (tot_le hw hsm)
      obtain ⟨a1, e1, q1, r1⟩ := accl hsm (n := nm) (by omega)
      obtain ⟨a2, e2, q2, r2⟩ := dayl hw hsm d
      obtain ⟨a3, e3, q3, r3⟩ := casl hw hsm (n := id)
      rw [q1] at f2
      rw [q2] at f3
      rw [q3] at f4
      generalize totRep s = T at *
      have hc := Nat.zero_add 0
      repeat' (first | (simp only [hc, Tryd.f9, SX, WH, hl, ht, f1, f2, f3, f4, f5, f6, r1, r2, r3, aliv, hn, hn2, AB, PL, RG, LP, TY, Nat.reduceEqDiff, Nat.reduceAdd, Nat.reduceSub, Nat.reduceMul, Nat.reduceLT, Nat.reduceLeDiff, Nat.reduceMod, Nat.reduceDiv, reduceCtorEq, Int.reduceEq, Int.reduceNe, Int.reduceLT, Int.reduceLE, Int.reduceNeg, Int.reduceToNat, Int.reduceAdd, Int.reduceSub, Int.reduceMul, ↓reduceIte, forall_const, eq_self, ne_eq, Option.some.injEq, beq_self_eq_true]) | refine fin_ndec (fun hc => ?_) (fun hc => ?_) | refine fin_dec (fun hc => ?_) (fun hc => ?_) | refine cnd_ndec (fun hc => ?_) (fun hc => ?_) | refine cnd_dec' (fun hc => ?_) (fun hc => ?_) | refine fin_nsplit (fun hc => ?_) (fun hc => ?_) | refine fin_split (fun hc => ?_) (fun hc => ?_) | refine cnd_nsplit (fun hc => ?_) (fun hc => ?_) | refine cnd_split (fun hc => ?_) (fun hc => ?_) | refine blk_exit_id ?_)
      all_goals simp [DV.b]
    · rw [decide_eq_false hsm] at f1
      have hc := Nat.zero_add 0
      repeat' (first | (simp only [hc, Tryd.f9, SX, WH, hl, ht, f1, AB, PL, RG, LP, TY, Nat.reduceEqDiff, Nat.reduceAdd, Nat.reduceSub, Nat.reduceMul, Nat.reduceLT, Nat.reduceLeDiff, Nat.reduceMod, Nat.reduceDiv, reduceCtorEq, Int.reduceEq, Int.reduceNe, Int.reduceLT, Int.reduceLE, Int.reduceNeg, Int.reduceToNat, Int.reduceAdd, Int.reduceSub, Int.reduceMul, ↓reduceIte, forall_const, eq_self, ne_eq, Option.some.injEq, beq_self_eq_true]) | refine fin_ndec (fun hc => ?_) (fun hc => ?_) | refine fin_dec (fun hc => ?_) (fun hc => ?_) | refine cnd_ndec (fun hc => ?_) (fun hc => ?_) | refine cnd_dec' (fun hc => ?_) (fun hc => ?_) | refine fin_nsplit (fun hc => ?_) (fun hc => ?_) | refine fin_split (fun hc => ?_) (fun hc => ?_) | refine cnd_nsplit (fun hc => ?_) (fun hc => ?_) | refine cnd_split (fun hc => ?_) (fun hc => ?_) | refine blk_exit_id ?_)
      all_goals simp [DV.b]
  · cases h

theorem stL_eq {g : St × List UInt8 × List UInt8 × Int → Option (List PA)} {s : St} {n i : List UInt8} {d : Int} (h : s.is) : mR stL g [.agg s.cells, .c (.str n), .c (.str i), .c (.int .i64 d)] = g (s, n, i, d) :=
  mR_eq (R := stL) (a := (s, n, i, d)) (fun b hb => by
    obtain ⟨h1, h2⟩ := hb
    simp only [List.cons.injEq, DV.agg.injEq, DV.c.injEq, D.str.injEq, D.int.injEq, true_and, and_true] at h2
    obtain ⟨b1, b2, b3, b4⟩ := b
    simp only at h1 h2
    rw [St.uniq h h1 h2.1, h2.2.1, h2.2.2.1, h2.2.2.2]) ⟨h, rfl⟩

end
end Go.Ab
