/-
  Texts of the layer and of the laws, put together: AbV8, AbV9. No law is stated here.
-/
import Derived.Test.YtckjmdppjealdaaDoorAbVol39
set_option linter.unusedSimpArgs false
set_option linter.unusedVariables false
set_option maxRecDepth 100000

/-
  Sessions: the laws on checks, on sorting, on what is over.
-/
namespace Go.Ab
open Go.RowKit Go.Proofs

def Par.In (p : Par) : Prop := inI p.kind = true ∧ inI p.time = true ∧ inI p.til = true
theorem short_ok {p : Par} (h : shortB p = true) (hi : p.In) : p.Ok := by
  have h := of_decide_eq_true h
  exact ⟨hi.1, hi.2.1, hi.2.2, by omega, by omega⟩
theorem few_ok {l : List Par} (h : fewB l = true) (hi : ∀ p ∈ l, p.In) : parsOk l := by
  unfold fewB at h
  rw [Bool.and_eq_true, List.all_eq_true, decide_eq_true_eq] at h
  exact ⟨by omega, fun p hp => short_ok (h.1 p hp) (hi p hp)⟩
theorem few_le {l : List Par} (h : fewB l = true) : l.length ≤ 40 := by
  unfold fewB at h
  rw [Bool.and_eq_true, decide_eq_true_eq] at h
  exact h.2
theorem fewZ_ok {l : List Zon} (h : fewZB l = true) : zonesOk l := by
  unfold fewZB at h
  rw [Bool.and_eq_true, List.all_eq_true, decide_eq_true_eq] at h
  refine ⟨by omega, fun z hz => ?_⟩
  have h := of_decide_eq_true (h.1 z hz)
  exact ⟨by omega, by omega⟩
theorem sameL_refl {α : Type} {p : α → α → Bool} (hp : ∀ a, p a a = true) : ∀ l, sameL p l l = true
  | [] => rfl
  | x :: l => by rw [sameL, hp x, sameL_refl hp l]; rfl
theorem parEq_refl (a : Par) : parEq a a = true := decide_eq_true (ordP_zero.2 rfl)
theorem intEq_refl (a : Int) : intEq a a = true := decide_eq_true rfl
theorem Ses.same_refl (a : Ses) : Ses.same a a = true := by simp [Ses.same, sameL_refl intEq_refl]
theorem Exc.same_refl (a : Exc) : Exc.same a a = true := by simp [Exc.same]
theorem sortR_ok {l : List Par} (h : parsOk l) : parsOk (sortR l) :=
  ⟨Nat.le_trans (sortR_len l) h.1, fun p hp => h.2 p (mem_sortR.1 hp)⟩

noncomputable section
open Classical

theorem sawake_at : sawake_m [] = some [.c (.bool true)] := rfl
theorem fewZs_at {f : Bool} {l : List Zon} (h : l.length ≤ 9223372036854775807) : fewZs_m [.c (.sl f (l.map Zon.row))] = some [.b (fewZB l)] := by
  have := mE_eq encZs_inj (g := fun p => if decide (p.2.length ≤ 9223372036854775807) = true then some [DV.b (fewZB p.2)] else none) (a := (f, l))
  exact this.trans (if_pos (decide_eq_true h))
theorem fewP_at {f : Bool} {l : List Par} (h : l.length ≤ 9223372036854775807) : fewP_m [.c (.sl f (l.map Par.row))] = some [.b (fewB l)] := by
  have := mE_eq encPs_inj (g := fun p => if decide (p.2.length ≤ 9223372036854775807) = true then some [DV.b (fewB p.2)] else none) (a := (f, l))
  exact this.trans (if_pos (decide_eq_true h))
theorem r7check_at {p : Par} {f : Bool} {l : List Zon} (h : zonesOk l) (hp : p.Ok) : r7check_m [.agg p.row, .c (.sl f (l.map Zon.row))] = some [.i (errP l p)] := by
  have := mE_eq encPZs_inj (g := fun p => if zonesOk p.2.2 ∧ p.1.Ok then some [.i (errP p.2.2 p.1)] else none) (a := (p, f, l))
  exact this.trans (if_pos ⟨h, hp⟩)
theorem r7key_at {p : Par} (hp : p.Ok) : r7key_m [.agg p.row] = some [.c (.str (keyF p))] := by
  have := mE_eq encP_inj (g := fun p : Par => if p.Ok then some [.c (.str (keyF p))] else none) (a := p)
  exact this.trans (if_pos hp)
theorem r7sort_at {f : Bool} {l : List Par} (h : parsOk l) : r7sort_m [.c (.sl f (l.map Par.row))] = some [.c (.sl false ((sortR l).map Par.row))] := by
  have := mE_eq encPs_inj (g := fun p => if parsOk p.2 then some [.c (.sl false ((sortR p.2).map Par.row))] else none) (a := (f, l))
  exact this.trans (if_pos h)
theorem r7Over_at {z : Zon} {s : Ses} {t : Int} (h : z.Ok) : r7Over_m [.agg z.row, .agg s.row, .c (.int .i64 t)] = some [.b (overF z s t)] := by
  have := mE_eq encZSi_inj (g := fun p => if p.1.1.Ok then some [DV.b (overF p.1.1 p.1.2 p.2)] else none) (a := ((z, s), t))
  exact this.trans (if_pos h)
theorem r7Paid_at {s : Ses} : r7Paid_m [.agg s.row] = some [.agg (rowIv (paidF s))] := mE_eq encS_inj (g := fun s => some [.agg (rowIv (paidF s))]) (a := s)

def lChecks_m : List PA → Option (List PA) := mE encPZs fun p => if p.1.In ∧ p.2.2.length ≤ 9223372036854775807 then some [.b true] else none
def lSorts_m : List PA → Option (List PA) := mE encPs fun p => if (∀ q ∈ p.2, q.In) ∧ p.2.length ≤ 9223372036854775807 then some [.b true] else none
def lOver_m : List PA → Option (List PA) := mE encZSi fun _ => some [.b true]

theorem lChecks_ok : PureC Tryd.prog Gt 3 lChecks_m := by
  refine pure_of_awp (X := ctx Tryd.prog Gt [(9, fewZs_m), (10, shortP_m), (12, scheck_m), (13, r7check_m), (14, skey_m), (15, r7key_m), (11, sawake_m)]) Tryd.func3 rfl rfl (by kernel_rfl) (by kernel_rfl) (AllOk.cons fewZs_ok (AllOk.cons shortP_ok (AllOk.cons scheck_ok (AllOk.cons r7check_ok (AllOk.cons skey_ok (AllOk.cons r7key_ok (AllOk.cons sawake_ok AllOk.nil))))))).kok ?_
  intro args r h0
  obtain ⟨⟨p, f, l⟩, rfl, h⟩ := mE_inv h0
  refine ⟨Nat.le_of_ble_eq_true rfl, ?_⟩
  split at h
  · rename_i hl
    dsimp only at hl h
    cases h
    have e0 := sawake_at
    have f1 := fewZs_at (f := f) hl.2
    have f2 := @shortP_at p
    cases c1 : fewZB l
    · rw [c1] at f1
      simp only [Par.row] at f2
      have hc := Nat.zero_add 0
      repeat' (first | simp only [hc, Tryd.f3, encPZs, Par.row, SX, e0, f1, f2, AB, PL, RG, LP, TY, simprocAttr, ↓reduceIte, forall_const, eq_self, ne_eq, Option.some.injEq, beq_self_eq_true] | ((first | apply fin_ndec | apply fin_dec | apply cnd_ndec | apply cnd_dec' | apply fin_nsplit | apply fin_split | apply cnd_nsplit | apply cnd_split) <;> intro hc) | refine blk_exit_id ?_)
      all_goals simp [DV.b]
    rw [c1] at f1
    cases c2 : shortB p
    · rw [c2] at f2
      simp only [Par.row] at f2
      have hc := Nat.zero_add 0
      repeat' (first | simp only [hc, Tryd.f3, encPZs, Par.row, SX, e0, f1, f2, AB, PL, RG, LP, TY, simprocAttr, ↓reduceIte, forall_const, eq_self, ne_eq, Option.some.injEq, beq_self_eq_true] | ((first | apply fin_ndec | apply fin_dec | apply cnd_ndec | apply cnd_dec' | apply fin_nsplit | apply fin_split | apply cnd_nsplit | apply cnd_split) <;> intro hc) | refine blk_exit_id ?_)
      all_goals simp [DV.b]
    rw [c2] at f2
    have hp := short_ok c2 hl.1
    have f3 := scheck_at' (f := f) (fewZ_ok c1) hp
    have f4 := r7check_at (f := f) (fewZ_ok c1) hp
    have f5 := skey_at' hp
    have f6 := r7key_at hp
    generalize errP l p = e at *
    generalize keyF p = k at *
    simp only [Par.row] at f2 f3 f4 f5 f6
    have hc := Nat.zero_add 0
    repeat' (first | simp only [hc, Tryd.f3, encPZs, Par.row, SX, e0, f1, f2, f3, f4, f5, f6, AB, PL, RG, LP, TY, simprocAttr, ↓reduceIte, forall_const, eq_self, ne_eq, Option.some.injEq, beq_self_eq_true] | ((first | apply fin_ndec | apply fin_dec | apply cnd_ndec | apply cnd_dec' | apply fin_nsplit | apply fin_split | apply cnd_nsplit | apply cnd_split) <;> intro hc) | refine blk_exit_id ?_)
    all_goals simp [DV.b]
  · cases h

theorem lSorts_ok : PureC Tryd.prog Gt 4 lSorts_m := by
  refine pure_of_awp (X := ctx Tryd.prog Gt [(16, fewP_m), (18, ssort_m), (19, r7sort_m), (17, sameEv_m), (11, sawake_m)]) Tryd.func4 rfl rfl (by kernel_rfl) (by kernel_rfl) (AllOk.cons fewP_ok (AllOk.cons ssort_ok (AllOk.cons r7sort_ok (AllOk.cons sameEv_ok (AllOk.cons sawake_ok AllOk.nil))))).kok ?_
  intro args r h0
  obtain ⟨⟨f, l⟩, rfl, h⟩ := mE_inv h0
  refine ⟨Nat.le_of_ble_eq_true rfl, ?_⟩
  split at h
  · rename_i hl
    dsimp only at hl h
    cases h
    have e0 := sawake_at
    have f1 := fewP_at (f := f) hl.2
    cases c1 : fewB l
    · rw [c1] at f1
      have hc := Nat.zero_add 0
      repeat' (first | simp only [hc, Tryd.f4, encPs, SX, e0, f1, AB, PL, RG, LP, TY, simprocAttr, ↓reduceIte, forall_const, eq_self, ne_eq, Option.some.injEq, beq_self_eq_true] | ((first | apply fin_ndec | apply fin_dec | apply cnd_ndec | apply cnd_dec' | apply fin_nsplit | apply fin_split | apply cnd_nsplit | apply cnd_split) <;> intro hc) | refine blk_exit_id ?_)
      all_goals simp [DV.b]
    rw [c1] at f1
    have hp := few_ok c1 hl.1
    have f3 := ssort_at (f := f) (l := l) (by have := few_le c1; omega)
    have f4 := r7sort_at (f := f) hp
    have f5 := sameEv_at (f := false) (g := false) (sortR_ok hp) (sortR_ok hp)
    rw [sameL_refl parEq_refl] at f5
    have hc := Nat.zero_add 0
    repeat' (first | simp only [hc, Tryd.f4, encPs, SX, e0, f1, f3, f4, f5, AB, PL, RG, LP, TY, simprocAttr, ↓reduceIte, forall_const, eq_self, ne_eq, Option.some.injEq, beq_self_eq_true] | ((first | apply fin_ndec | apply fin_dec | apply cnd_ndec | apply cnd_dec' | apply fin_nsplit | apply fin_split | apply cnd_nsplit | apply cnd_split) <;> intro hc) | refine blk_exit_id ?_)
    all_goals simp [DV.b]
  · cases h

theorem lOver_ok : PureC Tryd.prog Gt 5 lOver_m := by
  refine pure_of_awpS (X := ctxN Tryd.prog Gt [(9, fewZs_m), (20, sPaid_m), (21, r7Paid_m), (22, sOver_m), (23, r7Over_m), (11, sawake_m)] [] [] none (uL []) (uL [3])) Tryd.func5 rfl rfl (by kernel_rfl) (by kernel_rfl) (kok_n (AllOk.cons fewZs_ok (AllOk.cons sPaid_ok (AllOk.cons r7Paid_ok (AllOk.cons sOver_ok (AllOk.cons r7Over_ok (AllOk.cons sawake_ok AllOk.nil)))))) AllK.nil AllN.nil) ?_
  intro args r h0
  obtain ⟨⟨⟨z, s⟩, t⟩, rfl, h⟩ := mE_inv h0
  refine ⟨Nat.le_of_ble_eq_true rfl, ?_⟩
  cases h
  have e0 := sawake_at
  have f1 := fewZs_at (f := true) (l := [z]) (by simp)
  have f2 := @sPaid_at s
  have f3 := @r7Paid_at s
  cases c1 : fewZB [z]
  · rw [c1] at f1
    simp only [Zon.row, List.map_cons, List.map_nil] at f1
    have hc := Nat.zero_add 0
    repeat' (first | simp only [hc, AS, Tryd.f5, encZSi, Zon.row, Ses.row, NX, SX, e0, f1, AB, PL, RG, LP, TY, simprocAttr, ↓reduceIte, forall_const, eq_self, ne_eq, Option.some.injEq, beq_self_eq_true] | ((first | apply fin_ndec | apply fin_dec | apply cnd_ndec | apply cnd_dec' | apply fin_nsplit | apply fin_split | apply cnd_nsplit | apply cnd_split) <;> intro hc) | refine seqS_id ?_ | refine blk_exit_id ?_)
    all_goals simp [DV.b]
  rw [c1] at f1
  have hz := (fewZ_ok c1).2 z (by simp)
  have f4 := @sOver_at z s t hz
  have f5 := @r7Over_at z s t hz
  generalize overF z s t = o at *
  generalize paidF s = i at *
  simp only [Zon.row, Ses.row, rowIv, List.map_cons, List.map_nil] at f1 f2 f3 f4 f5
  have hc := Nat.zero_add 0
  repeat' (first | simp only [hc, AS, Tryd.f5, encZSi, Zon.row, Ses.row, NX, SX, e0, f1, f2, f3, f4, f5, AB, PL, RG, LP, TY, simprocAttr, ↓reduceIte, forall_const, eq_self, ne_eq, Option.some.injEq, beq_self_eq_true] | ((first | apply fin_ndec | apply fin_dec | apply cnd_ndec | apply cnd_dec' | apply fin_nsplit | apply fin_split | apply cnd_nsplit | apply cnd_split) <;> intro hc) | refine seqS_id ?_ | refine blk_exit_id ?_)
  refine awp_two [0, 1, 2, 3] 4 [5, 6, 7] 5 [4, 6, 7] rfl (by kernel_rfl) ?_
  have hc := Nat.zero_add 0
  repeat' (first | simp only [hc, AS, TW, NX, SX, f2, f3, AB, PL, RG, LP, TY, simprocAttr, ↓reduceIte, forall_const, eq_self, ne_eq, Option.some.injEq, beq_self_eq_true] | ((first | apply fin_ndec | apply fin_dec | apply cnd_ndec | apply cnd_dec' | apply fin_nsplit | apply fin_split | apply cnd_nsplit | apply cnd_split) <;> intro hc) | refine seqS_id ?_ | refine blk_exit_id ?_)
  refine ⟨seqS_id ?_, seqS_id ?_⟩
  all_goals
    have hc := Nat.zero_add 0
    repeat' (first | simp only [hc, AS, NX, SX, e0, f2, f3, f4, f5, AB, PL, RG, LP, TY, simprocAttr, ↓reduceIte, forall_const, eq_self, ne_eq, Option.some.injEq, beq_self_eq_true] | ((first | apply fin_ndec | apply fin_dec | apply cnd_ndec | apply cnd_dec' | apply fin_nsplit | apply fin_split | apply cnd_nsplit | apply cnd_split) <;> intro hc) | refine seqS_id ?_ | refine blk_exit_id ?_)

  all_goals simp [DV.b]

end
end Go.Ab

/-
  Sessions: how many there are; the law on order and repetition.
-/
namespace Go.Ab
open Go.RowKit Go.Proofs

structure FewS (n : Nat) (a : List Ses × List Exc) : Prop where
  ss : a.1.length ≤ n
  sn : ∀ s ∈ a.1, s.seen.length ≤ n
  xs : a.2.length ≤ n
theorem FewS.step {n : Nat} {a : List Ses × List Exc} {zs : List Zon} {p : Par} (h : FewS n a) : FewS (n + 1) (stepX zs a p) := by
  have he := applyF_eff zs a.1 p
  unfold stepX
  generalize applyF zs a.1 p = r at *
  obtain ⟨l', c⟩ := r
  have hx : (if c = 0 then a.2 else a.2 ++ [(⟨keyF p, if errP zs p ≠ 0 then 3 else 4⟩ : Exc)]).length ≤ n + 1 := by
    have := h.xs
    split
    · omega
    · simp; omega
  have h1 := h.ss
  have hs : ∀ (i : Nat) (s : Ses) (X : List Exc), s.seen.length ≤ n + 1 → X.length ≤ n + 1 → FewS (n + 1) (a.1.set i s, X) := fun i s X hs hX => by
    refine ⟨by simp; omega, fun x hx => ?_, hX⟩
    rcases List.mem_or_eq_of_mem_set hx with hx | rfl
    · have := h.sn x hx; omega
    · exact hs
  have hm : ∀ {i : Nat} {s : Ses}, a.1[i]? = some s → s.seen.length ≤ n := fun hi => h.sn _ (List.mem_of_getElem? hi)
  cases he with
  | err e he => exact ⟨Nat.le_succ_of_le h1, fun s hs => by have := h.sn s hs; omega, hx⟩
  | same hk hv => exact ⟨Nat.le_succ_of_le h1, fun s hs => by have := h.sn s hs; omega, hx⟩
  | start z hv hz hk hn =>
    refine ⟨by simp; omega, fun s hs => ?_, hx⟩
    rcases List.mem_append.1 hs with hs | hs
    · have := h.sn s hs; omega
    · rw [List.mem_singleton.1 hs]; simp [newS]
  | ext z i s hv hz hk hi hc => exact hs i _ _ (by have := hm hi; dsimp only; omega) hx
  | stop z i s hv hz hk hi hc => exact hs i _ _ (by have := hm hi; dsimp only; omega) hx
  | see z i s hv hz hk hi hc =>
    refine hs i _ _ ?_ hx
    have := hm hi
    unfold seeS
    split
    · dsimp only; omega
    · split
      · simp; omega
      · omega
theorem fewS_go (zs : List Zon) : ∀ (l : List Par) (n : Nat) (a : List Ses × List Exc), FewS n a → FewS (n + l.length) (l.foldl (stepX zs) a)
  | [], _, _, h => h
  | p :: l, n, a, h => by
    have := fewS_go zs l (n + 1) _ (h.step (p := p) (zs := zs))
    rw [List.length_cons, show n + (l.length + 1) = n + 1 + l.length by omega]
    exact this
theorem allF_few (zs : List Zon) (ps : List Par) : FewS ps.length (allF zs ps) := by
  have h := fewS_go zs (sortR ps) 0 ([], []) ⟨Nat.le_refl _, fun s hs => by simp at hs, Nat.le_refl _⟩
  have hl := sortR_len ps
  rw [Nat.zero_add] at h
  exact ⟨Nat.le_trans h.ss hl, fun s hs => Nat.le_trans (h.sn s hs) hl, Nat.le_trans h.xs hl⟩
theorem allF_set {zs : List Zon} {l k : List Par} (hm : ∀ x, x ∈ k ↔ x ∈ l) : allF zs k = allF zs l := by
  unfold allF
  rw [sortR_set hm]

/-- The events from k on, the last first; then those up to k. -/
def turnP (l : List Par) (k : Nat) : List Par := (l.drop k).reverse ++ l.take (k + 1)
theorem mem_turn {l : List Par} {k : Nat} (x : Par) : x ∈ turnP l k ↔ x ∈ l := by
  unfold turnP
  rw [List.mem_append, List.mem_reverse]
  constructor
  · rintro (h | h)
    · exact List.mem_of_mem_drop h
    · exact List.mem_of_mem_take h
  · intro h
    rw [← List.take_append_drop k l, List.mem_append] at h
    rcases h with h | h
    · right
      rw [List.take_add_one]
      exact List.mem_append_left _ h
    · exact .inl h
theorem turn_len (l : List Par) (k : Nat) : (turnP l k).length ≤ 2 * l.length := by
  simp only [turnP, List.length_append, List.length_reverse, List.length_drop, List.length_take]
  omega
theorem rev_next {l : List Par} {m : Nat} (h : m < l.length) : (l.drop (l.length - (m + 1))).reverse = (l.drop (l.length - m)).reverse ++ [l[l.length - 1 - m]] := by
  rw [List.drop_eq_getElem_cons (by omega), List.reverse_cons, show l.length - (m + 1) + 1 = l.length - m by omega]
  congr 3
  omega

def encTurn (p : ((Bool × List Par) × Bool × List Zon) × Int) : List PA := [.c (.sl p.1.1.1 (p.1.1.2.map Par.row)), .c (.sl p.1.2.1 (p.1.2.2.map Zon.row)), .c (.int .u8 p.2)]
theorem encTurn_inj (a b : ((Bool × List Par) × Bool × List Zon) × Int) (h : encTurn a = encTurn b) : a = b := by
  obtain ⟨⟨⟨a1, a2⟩, a3, a4⟩, a5⟩ := a
  obtain ⟨⟨⟨b1, b2⟩, b3, b4⟩, b5⟩ := b
  simp [encTurn, mapP_inj, mapZn_inj] at h
  simp [h]

noncomputable section
open Classical

def lTurns_m : List PA → Option (List PA) := mE encTurn fun p => if (∀ q ∈ p.1.1.2, q.In) ∧ p.1.1.2.length ≤ 9223372036854775807 ∧ p.1.2.2.length ≤ 9223372036854775807 ∧ 0 ≤ p.2 ∧ p.2 < 256 then some [.b true] else none

theorem lTurns_ok : PureC Tryd.prog Gt 6 lTurns_m := by
  refine pure_of_awp (X := ctx Tryd.prog Gt [(9, fewZs_m), (16, fewP_m), (24, sall_m), (25, sameSs_m), (26, sameEx_m), (11, sawake_m)]) Tryd.func6 rfl rfl (by kernel_rfl) (by kernel_rfl) (AllOk.cons fewZs_ok (AllOk.cons fewP_ok (AllOk.cons sall_ok (AllOk.cons sameSs_ok (AllOk.cons sameEx_ok (AllOk.cons sawake_ok AllOk.nil)))))).kok ?_
  intro args r h0
  obtain ⟨⟨⟨⟨f, l⟩, g, zs⟩, n⟩, rfl, h⟩ := mE_inv h0
  refine ⟨Nat.le_of_ble_eq_true rfl, ?_⟩
  split at h
  · rename_i hl
    obtain ⟨hi, hl1, hl2, hn1, hn2⟩ := hl
    dsimp only at hi hl1 hl2 hn1 hn2 h
    cases h
    have e0 := sawake_at
    have f1 := fewZs_at (f := g) hl2
    have f2 := fewP_at (f := f) hl1
    have l1 := @lenPr l
    cases c1 : fewZB zs
    · rw [c1] at f1
      have hc := Nat.zero_add 0
      repeat' (first | simp only [hc, Tryd.f6, encTurn, SX, e0, f1, f2, l1, AB, PL, RG, LP, TY, simprocAttr, ↓reduceIte, forall_const, eq_self, ne_eq, Option.some.injEq, beq_self_eq_true] | ((first | apply fin_ndec | apply fin_dec | apply cnd_ndec | apply cnd_dec' | apply fin_nsplit | apply fin_split | apply cnd_nsplit | apply cnd_split) <;> intro hc) | refine blk_exit_id ?_)
      all_goals simp [DV.b]
    rw [c1] at f1
    cases c2 : fewB l
    · rw [c2] at f2
      have hc := Nat.zero_add 0
      repeat' (first | simp only [hc, Tryd.f6, encTurn, SX, e0, f1, f2, l1, AB, PL, RG, LP, TY, simprocAttr, ↓reduceIte, forall_const, eq_self, ne_eq, Option.some.injEq, beq_self_eq_true] | ((first | apply fin_ndec | apply fin_dec | apply cnd_ndec | apply cnd_dec' | apply fin_nsplit | apply fin_split | apply cnd_nsplit | apply cnd_split) <;> intro hc) | refine blk_exit_id ?_)
      all_goals simp [DV.b]
    rw [c2] at f2
    by_cases c3 : l.length = 0
    · have c3' : ((l.length : Int) = 0) = True := eq_true (by omega)
      have hc := Nat.zero_add 0
      repeat' (first | simp only [hc, Tryd.f6, encTurn, SX, e0, f1, f2, l1, c3', AB, PL, RG, LP, TY, simprocAttr, ↓reduceIte, forall_const, eq_self, ne_eq, Option.some.injEq, beq_self_eq_true] | ((first | apply fin_ndec | apply fin_dec | apply cnd_ndec | apply cnd_dec' | apply fin_nsplit | apply fin_split | apply cnd_nsplit | apply cnd_split) <;> intro hc) | refine blk_exit_id ?_)
      all_goals simp [DV.b]
    have c3' : ((l.length : Int) = 0) = False := eq_false (by omega)
    have hz := fewZ_ok c1
    have hp := few_ok c2 hi
    have hfe := few_le c2
    obtain ⟨k, hk⟩ : ∃ k : Nat, n.tmod (l.length : Int) = k := ⟨(n.tmod (l.length : Int)).toNat, by rw [Int.tmod_eq_emod_of_nonneg hn1]; have := Int.emod_nonneg n (b := (l.length : Int)) (by omega); omega⟩
    have hkl : k < l.length := by
      have h1 := Int.tmod_eq_emod_of_nonneg hn1 (b := (l.length : Int))
      have h2 := Int.emod_lt_of_pos n (b := (l.length : Int)) (by omega)
      omega
    have hw0 := wI (n := n) (by omega) (by omega)
    have hw1 := wI (n := (l.length : Int) - 1) (by omega) (by omega)
    have hc := Nat.zero_add 0
    repeat' (first | simp only [hc, Tryd.f6, encTurn, SX, e0, f1, f2, l1, c3', hk, hw0, hw1, AB, PL, RG, LP, TY, simprocAttr, ↓reduceIte, forall_const, eq_self, ne_eq, Option.some.injEq, beq_self_eq_true] | ((first | apply fin_ndec | apply fin_dec | apply cnd_ndec | apply cnd_dec' | apply fin_nsplit | apply fin_split | apply cnd_nsplit | apply cnd_split) <;> intro hc) | refine blk_exit_id ?_)
    refine awp_loop (σ := Nat) (fun m => m ≤ l.length - k) (fun m => ⟨[(9, AV.i ((l.length : Int) - 1 - m)), (8, .v (.c (.own 0 ((l.drop (l.length - m)).reverse.map Par.row)))), (7, AV.i k), (1, AV.d (.sl g (zs.map Zon.row))), (0, AV.d (.sl f (l.map Par.row)))], [.tok m 5 none]⟩) (fun m => l.length - m) 0 ((Wk.own 8 5 (by decide) (by simp [look])).trans (Wk.sub' (by simp [subT, look]) rfl)) (by simp) ?_
    intro m hm
    have hal : ∀ q : List Par, allLen 5 (q.map Par.row) := fun q r hr => by
      obtain ⟨x, _, rfl⟩ := List.mem_map.1 hr
      rfl
    by_cases hml : m < l.length - k
    · have hge : ((k : Int) ≤ (l.length : Int) - 1 - m) = True := eq_true (by omega)
      have hnt : ((l.length : Int) - 1 - (m : Int)).toNat = l.length - 1 - m := by omega
      have hidx : ((l.length : Int) - 1 - (m : Int)) = ((l.length - 1 - m : Nat) : Int) := by omega
      have hw := wI (n := (l.length : Int) - 1 - m - 1) (by omega) (by omega)
      have e1 := pr_at (l := l) (j := l.length - 1 - m) (by omega)
      have hnx := rev_next (l := l) (m := m) (by omega)
      generalize l[l.length - 1 - m] = p at *
      have ap : ∀ h, apTok h 0 5 56 ((l.drop (l.length - m)).reverse.map Par.row) [[.int .i64 p.kind, .str p.zone, .str p.plate, .int .i64 p.time, .int .i64 p.til]] (some (.tok m 5 none)) = some (.v (.c (.own 0 ((l.drop (l.length - (m + 1))).reverse.map Par.row))), h.set 0 (.tok (m + 1) 5 none)) := fun h => by
        rw [apTok_ok (eq_true (by simp; omega)) (eq_true (by simp [allLen])) (eq_true (by simp; omega)) (eq_true (by simp; omega)), hnx]
        rw [List.map_append, show ((l.drop (l.length - m)).reverse.map Par.row).length = m by simp; omega]
        rfl
      have hnn : (0 ≤ (l.length : Int) - 1 - m) = True := eq_true (by omega)
      have hc := Nat.zero_add 0
      repeat' (first | simp only [hc, SX, l1, hge, hnt, hnn, e1, ap, hw, AB, PL, RG, LP, TY, simprocAttr, ↓reduceIte, forall_const, eq_self, ne_eq, Option.some.injEq, beq_self_eq_true] | ((first | apply fin_ndec | apply fin_dec | apply cnd_ndec | apply cnd_dec' | apply fin_nsplit | apply fin_split | apply cnd_nsplit | apply cnd_split) <;> intro hc) | refine blk_exit_id ?_)
      exact lp_next (m + 1) (Wk.cutk (k := 1) (by simp) (by simp) (by simp) (by simp [subT, look]; omega) (by simp [AV.low, V.low, C1.low]) (by simp [Ob.low, C1.low])) (by omega) (by omega)
    · have hge : ((k : Int) ≤ (l.length : Int) - 1 - m) = False := eq_false (by omega)
      have hme : m = l.length - k := by omega
      have hdr : l.drop (l.length - m) = l.drop k := by rw [hme]; congr 1; omega
      rw [hdr]
      have hw := wI (n := (k : Int) + 1) (by omega) (by omega)
      obtain ⟨F, q1⟩ : ∃ F, slX (f && decide ((k : Int) + 1 = l.length)) 5 (l.map Par.row) 0 ((k : Int) + 1) = some (.sl F ((l.take (k + 1)).map Par.row)) := by
        rw [show ((k : Int) + 1) = ((k + 1 : Nat) : Int) by omega]
        rw [slX_ok (eq_true (hal _)) (eq_true (by omega)) (eq_true (by omega)) (eq_true (by simp; omega))]
        exact ⟨_, by simp [List.map_take]; rfl⟩
      have hal1 := hal (l.take (k + 1))
      have ap : ∀ h, apTok h 0 5 56 ((l.drop k).reverse.map Par.row) ((l.take (k + 1)).map Par.row) (some (.tok m 5 none)) = some (.v (.c (.own 0 ((turnP l k).map Par.row))), h.set 0 (.tok (m + (k + 1)) 5 none)) := fun h => by
        rw [apTok_ok (eq_true (by simp; omega)) (eq_true hal1) (eq_true (by simp; omega)) (eq_true (by simp; omega))]
        simp only [turnP, List.map_append, List.length_map, List.length_reverse, List.length_drop, List.length_take]
        rw [show l.length - k + min (k + 1) l.length = m + (k + 1) by omega]
      have hlen := turn_len l k
      have hp2 : parsOk (turnP l k) := ⟨by omega, fun p hp3 => hp.2 p ((mem_turn p).1 hp3)⟩
      have f3 := sall_at (f := f) (g := g) hp hz
      have f4 := sall_at (f := false) (g := g) hp2 hz
      rw [allF_set (mem_turn (l := l) (k := k))] at f4
      have hF := allF_few zs l
      have f5 := sameSs_at (f := false) (g := false) (a := (allF zs l).1) (b := (allF zs l).1) (by have := hF.ss; omega) (fun s hs => by have := hF.sn s hs; omega)
      have f6 := sameEx_at (f := false) (g := false) (a := (allF zs l).2) (b := (allF zs l).2) (by have := hF.xs; omega)
      rw [sameL_refl Ses.same_refl] at f5
      rw [sameL_refl Exc.same_refl] at f6
      generalize (allF zs l).1 = L at *
      generalize (allF zs l).2 = X at *
      have hc := Nat.zero_add 0
      repeat' (first | simp only [hc, SX, l1, hge, hw, sla_eq, slT_sl, slZ_some, q1, ap, f3, f4, f5, f6, e0, AB, PL, RG, LP, TY, simprocAttr, ↓reduceIte, forall_const, eq_self, ne_eq, Option.some.injEq, beq_self_eq_true] | ((first | apply fin_ndec | apply fin_dec | apply cnd_ndec | apply cnd_dec' | apply fin_nsplit | apply fin_split | apply cnd_nsplit | apply cnd_split) <;> intro hc) | refine blk_exit_id ?_)
      all_goals simp [DV.b]
  · cases h

end
end Go.Ab
