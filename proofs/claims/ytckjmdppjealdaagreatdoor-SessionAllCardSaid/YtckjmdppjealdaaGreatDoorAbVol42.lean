/-
  Texts of the layer and of the laws, put together: AbV8, AbV9. No law is stated here.
-/
import Derived.Test.YtckjmdppjealdaaGreatDoorAbVol41
set_option linter.unusedSimpArgs false
set_option linter.unusedVariables false
set_option maxRecDepth 100000

/-
  Sessions: the laws on checks, on sorting, on what is over.
-/
namespace Go.Ab
open Go.RowKit Go.Proofs

def Par.In (p : Par) : Prop := inI p.kind = true ∧ inI p.time = true ∧ inI p.til = true
theorem short_ok {p : Par} (h : shortB p = true) (hi : p.In) : p.Ok := by
  have h := of_decide_eq_true h
  exact ⟨hi.1, hi.2.1, hi.2.2, by omega, by omega⟩
theorem few_ok {l : List Par} (h : fewB l = true) (hi : ∀ p ∈ l, p.In) : parsOk l := by
  unfold fewB at h
  rw [Bool.and_eq_true, List.all_eq_true, decide_eq_true_eq] at h
  exact ⟨by omega, fun p hp => short_ok (h.1 p hp) (hi p hp)⟩
theorem few_le {l : List Par} (h : fewB l = true) : l.length ≤ 40 := by
  unfold fewB at h
  rw [Bool.and_eq_true, decide_eq_true_eq] at h
  exact h.2
theorem fewZ_ok {l : List Zon} (h : fewZB l = true) : zonesOk l := by
  unfold fewZB at h
  rw [Bool.and_eq_true, List.all_eq_true, decide_eq_true_eq] at h
  refine ⟨by omega, fun z hz => ?_⟩
  have h := of_decide_eq_true (h.1 z hz)
  exact ⟨by omega, by omega⟩
theorem sameL_refl {α : Type} {p : α → α → Bool} (hp : ∀ a, p a a = true) : ∀ l, sameL p l l = true
  | [] => rfl
  | x :: l => by rw [sameL, hp x, sameL_refl hp l]; rfl
theorem parEq_refl (a : Par) : parEq a a = true := decide_eq_true (ordP_zero.2 rfl)
theorem intEq_refl (a : Int) : intEq a a = true := decide_eq_true rfl
theorem Ses.same_refl (a : Ses) : Ses.same a a = true := by simp [Ses.same, sameL_refl intEq_refl]
theorem Exc.same_refl (a : Exc) : Exc.same a a = true := by simp [Exc.same]
theorem sortR_ok {l : List Par} (h : parsOk l) : parsOk (sortR l) :=
  ⟨Nat.le_trans (sortR_len l) h.1, fun p hp => h.2 p (mem_sortR.1 hp)⟩

noncomputable section
open Classical

theorem sawake_at : sawake_m [] = some [.c (.bool true)] := rfl
theorem fewZs_at {f : Bool} {l : List Zon} (h : l.length ≤ 9223372036854775807) : fewZs_m [.c (.sl f (l.map Zon.row))] = some [.b (fewZB l)] := by
  have := mE_eq encZs_inj (g := fun p => if decide (p.2.length ≤ 9223372036854775807) = true then some [DV.b (fewZB p.2)] else none) (a := (f, l))
  exact this.trans (if_pos (decide_eq_true h))
theorem fewP_at {f : Bool} {l : List Par} (h : l.length ≤ 9223372036854775807) : fewP_m [.c (.sl f (l.map Par.row))] = some [.b (fewB l)] := by
  have := mE_eq encPs_inj (g := fun p => if decide (p.2.length ≤ 9223372036854775807) = true then some [DV.b (fewB p.2)] else none) (a := (f, l))
  exact this.trans (if_pos (decide_eq_true h))
theorem r7check_at {p : Par} {f : Bool} {l : List Zon} (h : zonesOk l) (hp : p.Ok) : r7check_m [.agg p.row, .c (.sl f (l.map Zon.row))] = some [.i (errP l p)] := by
  have := mE_eq encPZs_inj (g := fun p => if zonesOk p.2.2 ∧ p.1.Ok then some [.i (errP p.2.2 p.1)] else none) (a := (p, f, l))
  exact this.trans (if_pos ⟨h, hp⟩)
theorem r7key_at {p : Par} (hp : p.Ok) : r7key_m [.agg p.row] = some [.c (.str (keyF p))] := by
  have := mE_eq encP_inj (g := fun p : Par => if p.Ok then some [.c (.str (keyF p))] else none) (a := p)
  exact this.trans (if_pos hp)
theorem r7sort_at {f : Bool} {l : List Par} (h : parsOk l) : r7sort_m [.c (.sl f (l.map Par.row))] = some [.c (.sl false ((sortR l).map Par.row))] := by
  have := mE_eq encPs_inj (g := fun p => if parsOk p.2 then some [.c (.sl false ((sortR p.2).map Par.row))] else none) (a := (f, l))
  exact this.trans (if_pos h)
end
end Go.Ab

/-
  Sessions: how many there are; the law on order and repetition.
-/
namespace Go.Ab
open Go.RowKit Go.Proofs

structure FewS (n : Nat) (a : List Ses × List Exc) : Prop where
  ss : a.1.length ≤ n
  sn : ∀ s ∈ a.1, s.seen.length ≤ n
  xs : a.2.length ≤ n
theorem FewS.step {n : Nat} {a : List Ses × List Exc} {zs : List Zon} {p : Par} (h : FewS n a) : FewS (n + 1) (stepX zs a p) := by
  have he := applyF_eff zs a.1 p
  unfold stepX
  generalize applyF zs a.1 p = r at *
  obtain ⟨l', c⟩ := r
  have hx : (if c = 0 then a.2 else a.2 ++ [(⟨keyF p, if errP zs p ≠ 0 then 3 else 4⟩ : Exc)]).length ≤ n + 1 := by
    have := h.xs
    split
    · omega
    · simp; omega
  have h1 := h.ss
  have hs : ∀ (i : Nat) (s : Ses) (X : List Exc), s.seen.length ≤ n + 1 → X.length ≤ n + 1 → FewS (n + 1) (a.1.set i s, X) := fun i s X hs hX => by
    refine ⟨by simp; omega, fun x hx => ?_, hX⟩
    rcases List.mem_or_eq_of_mem_set hx with hx | rfl
    · have := h.sn x hx; omega
    · exact hs
  have hm : ∀ {i : Nat} {s : Ses}, a.1[i]? = some s → s.seen.length ≤ n := fun hi => h.sn _ (List.mem_of_getElem? hi)
  cases he with
  | err e he => exact ⟨Nat.le_succ_of_le h1, fun s hs => by have := h.sn s hs; omega, hx⟩
  | same hk hv => exact ⟨Nat.le_succ_of_le h1, fun s hs => by have := h.sn s hs; omega, hx⟩
  | start z hv hz hk hn =>
    refine ⟨by simp; omega, fun s hs => ?_, hx⟩
    rcases List.mem_append.1 hs with hs | hs
    · have := h.sn s hs; omega
    · rw [List.mem_singleton.1 hs]; simp [newS]
  | ext z i s hv hz hk hi hc => exact hs i _ _ (by have := hm hi; dsimp only; omega) hx
  | stop z i s hv hz hk hi hc => exact hs i _ _ (by have := hm hi; dsimp only; omega) hx
  | see z i s hv hz hk hi hc =>
    refine hs i _ _ ?_ hx
    have := hm hi
    unfold seeS
    split
    · dsimp only; omega
    · split
      · simp; omega
      · omega
theorem fewS_go (zs : List Zon) : ∀ (l : List Par) (n : Nat) (a : List Ses × List Exc), FewS n a → FewS (n + l.length) (l.foldl (stepX zs) a)
  | [], _, _, h => h
  | p :: l, n, a, h => by
    have := fewS_go zs l (n + 1) _ (h.step (p := p) (zs := zs))
    rw [List.length_cons, show n + (l.length + 1) = n + 1 + l.length by omega]
    exact this
theorem allF_few (zs : List Zon) (ps : List Par) : FewS ps.length (allF zs ps) := by
  have h := fewS_go zs (sortR ps) 0 ([], []) ⟨Nat.le_refl _, fun s hs => by simp at hs, Nat.le_refl _⟩
  have hl := sortR_len ps
  rw [Nat.zero_add] at h
  exact ⟨Nat.le_trans h.ss hl, fun s hs => Nat.le_trans (h.sn s hs) hl, Nat.le_trans h.xs hl⟩
theorem allF_set {zs : List Zon} {l k : List Par} (hm : ∀ x, x ∈ k ↔ x ∈ l) : allF zs k = allF zs l := by
  unfold allF
  rw [sortR_set hm]

/-- The events from k on, the last first; then those up to k. -/
def turnP (l : List Par) (k : Nat) : List Par := (l.drop k).reverse ++ l.take (k + 1)
theorem mem_turn {l : List Par} {k : Nat} (x : Par) : x ∈ turnP l k ↔ x ∈ l := by
  unfold turnP
  rw [List.mem_append, List.mem_reverse]
  constructor
  · rintro (h | h)
    · exact List.mem_of_mem_drop h
    · exact List.mem_of_mem_take h
  · intro h
    rw [← List.take_append_drop k l, List.mem_append] at h
    rcases h with h | h
    · right
      rw [List.take_add_one]
      exact List.mem_append_left _ h
    · exact .inl h
theorem turn_len (l : List Par) (k : Nat) : (turnP l k).length ≤ 2 * l.length := by
  simp only [turnP, List.length_append, List.length_reverse, List.length_drop, List.length_take]
  omega
theorem rev_next {l : List Par} {m : Nat} (h : m < l.length) : (l.drop (l.length - (m + 1))).reverse = (l.drop (l.length - m)).reverse ++ [l[l.length - 1 - m]] := by
  rw [List.drop_eq_getElem_cons (by omega), List.reverse_cons, show l.length - (m + 1) + 1 = l.length - m by omega]
  congr 3
  omega

def encTurn (p : ((Bool × List Par) × Bool × List Zon) × Int) : List PA := [.c (.sl p.1.1.1 (p.1.1.2.map Par.row)), .c (.sl p.1.2.1 (p.1.2.2.map Zon.row)), .c (.int .u8 p.2)]
theorem encTurn_inj (a b : ((Bool × List Par) × Bool × List Zon) × Int) (h : encTurn a = encTurn b) : a = b := by
  obtain ⟨⟨⟨a1, a2⟩, a3, a4⟩, a5⟩ := a
  obtain ⟨⟨⟨b1, b2⟩, b3, b4⟩, b5⟩ := b
  simp [encTurn, mapP_inj, mapZn_inj] at h
  simp [h]

noncomputable section
open Classical



end
end Go.Ab
