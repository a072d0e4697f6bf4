/-
  Texts of the layer and of the laws, put together: AbV1, AbV2, AbV3, AbV4.
-/
import Derived.Test.YtdoofgbeajkpaaaGreatDoorAbWP28
set_option linter.unusedSimpArgs false
set_option linter.unusedVariables false
set_option maxRecDepth 100000
namespace Go.Ab
structure Cmp {α : Type} (c : α → α → Int) : Prop where
  anti : ∀ a b, c a b < 0 ↔ 0 < c b a
  lt : ∀ a b d, c a b < 0 → c b d < 0 → c a d < 0
  el : ∀ a b d, c a b = 0 → c b d < 0 → c a d < 0
  le : ∀ a b d, c a b < 0 → c b d = 0 → c a d < 0
  ee : ∀ a b d, c a b = 0 → c b d = 0 → c a d = 0
theorem Cmp.sym {α : Type} {c : α → α → Int} (h : Cmp c) {a b : α} (e : c a b = 0) : c b a = 0 := by
  have h1 := h.anti a b
  have h2 := h.anti b a
  omega
theorem Cmp.of_eq {α : Type} {c : α → α → Int} (h0 : ∀ a b, c a b = 0 ↔ a = b) (h1 : ∀ a b, c a b < 0 ↔ 0 < c b a) (h2 : ∀ a b d, c a b < 0 → c b d < 0 → c a d < 0) : Cmp c :=
  ⟨h1, h2, fun a b d e h => by rw [(h0 a b).1 e]; exact h, fun a b d h e => by rw [← (h0 b d).1 e]; exact h, fun a b d e f => by rw [(h0 a b).1 e]; exact f⟩
theorem Cmp.key {α β : Type} {c : β → β → Int} (h : Cmp c) (f : α → β) : Cmp (fun a b => c (f a) (f b)) :=
  ⟨fun _ _ => h.anti _ _, fun _ _ _ => h.lt _ _ _, fun _ _ _ => h.el _ _ _, fun _ _ _ => h.le _ _ _, fun _ _ _ => h.ee _ _ _⟩
theorem Cmp.lex {α : Type} {c d : α → α → Int} (h : Cmp c) (k : Cmp d) : Cmp (fun a b => if c a b ≠ 0 then c a b else d a b) := by
  constructor
  · intro a b
    have h1 := h.anti a b
    have h2 := h.anti b a
    have k1 := k.anti a b
    split <;> split <;> omega
  · intro a b e
    have h1 := h.lt a b e
    have h2 := h.el a b e
    have h3 := h.le a b e
    have h4 := h.ee a b e
    have k1 := k.lt a b e
    split <;> split <;> split <;> (intro x y; first | omega | (have := h1 x y; omega) | (have := h2 (by omega) y; omega) | (have := h3 x (by omega); omega) | (have := h4 (by omega) (by omega); omega) | exact k1 x y)
  · intro a b e
    have h2 := h.el a b e
    have h4 := h.ee a b e
    have k1 := k.el a b e
    split <;> split <;> split <;> (intro x y; first | omega | (have := h2 (by omega) y; omega) | (have := h4 (by omega) (by omega); omega) | exact k1 x y)
  · intro a b e
    have h3 := h.le a b e
    have h4 := h.ee a b e
    have k1 := k.le a b e
    split <;> split <;> split <;> (intro x y; first | omega | (have := h3 x (by omega); omega) | (have := h4 (by omega) (by omega); omega) | exact k1 x y)
  intro a b e
  have h4 := h.ee a b e
  have k1 := k.ee a b e
  split <;> split <;> split <;> (intro x y; first | omega | (have := h4 (by omega) (by omega); omega) | exact k1 x y)
theorem cmp_ordI : Cmp ordI := by
  have e : ∀ x y, ordI x y < 0 ↔ x < y := by intro x y; simp only [ordI]; (repeat' split) <;> omega
  refine Cmp.of_eq ?_ ?_ ?_
  · intro a b; simp only [ordI]; (repeat' split) <;> omega
  · intro a b; simp only [ordI]; (repeat' split) <;> omega
  intro a b d h1 h2
  rw [e] at *
  omega
theorem ordI_zero {a b : Int} : ordI a b = 0 ↔ a = b := by simp only [ordI]; (repeat' split) <;> omega
theorem befB_irr : ∀ a, befB a a = false
  | [] => rfl
  | a :: l => by rw [befB, if_pos rfl, befB_irr l]
theorem befB_tot : ∀ a b, a ≠ b → befB a b = !befB b a
  | [], [], h => absurd rfl h
  | [], _ :: _, _ => rfl
  | _ :: _, [], _ => rfl
  | a :: l, b :: k, h => by
    by_cases e : a = b
    · subst e
      rw [befB, befB, if_pos rfl, if_pos rfl, befB_tot l k (fun he => h (by rw [he]))]
    rw [befB, befB, if_neg e, if_neg (fun x => e x.symm), Bool.eq_iff_iff]
    have : a.toNat ≠ b.toNat := fun x => e (UInt8.toNat_inj.1 x)
    simp only [decide_eq_true_eq, Bool.not_eq_true', decide_eq_false_iff_not]
    omega
theorem befB_trans : ∀ a b c, befB a b = true → befB b c = true → befB a c = true
  | [], [], _, h, _ => absurd h (by simp [befB])
  | [], _ :: _, [], _, h => absurd h (by simp [befB])
  | [], _ :: _, _ :: _, _, _ => rfl
  | _ :: _, [], _, h, _ => absurd h (by simp [befB])
  | _ :: _, _ :: _, [], _, h => absurd h (by simp [befB])
  | a :: l, b :: k, c :: m, h1, h2 => by
    rw [befB] at h1 h2 ⊢
    by_cases e1 : a = b
    · subst e1
      rw [if_pos rfl] at h1
      by_cases e2 : a = c
      · rw [if_pos e2] at h2 ⊢
        exact befB_trans l k m h1 h2
      rw [if_neg e2] at h2 ⊢
      exact h2
    rw [if_neg e1] at h1
    by_cases e2 : b = c
    · subst e2
      rw [if_neg e1]
      exact h1
    rw [if_neg e2] at h2
    have h1 := of_decide_eq_true h1
    have h2 := of_decide_eq_true h2
    rw [if_neg (by rintro rfl; omega)]
    exact decide_eq_true (by omega)
theorem ordS_zero {a b : List UInt8} : ordS a b = 0 ↔ a = b := by
  unfold ordS
  split
  · simp_all
  split <;> simp_all
theorem cmp_ordS : Cmp ordS := by
  refine Cmp.of_eq (fun _ _ => ordS_zero) ?_ ?_
  · intro a b
    by_cases e : a = b
    · subst e
      simp [ordS]
    have h := befB_tot a b e
    have e' : ¬ b = a := fun x => e x.symm
    simp only [ordS, e, e', if_false, h]
    cases befB b a <;> simp
  intro a b d h1 h2
  have lt : ∀ {x y : List UInt8}, ordS x y < 0 → x ≠ y ∧ befB x y = true := by
    intro x y h
    unfold ordS at h
    split at h
    · omega
    split at h
    · rename_i h3 h4; exact ⟨h3, h4⟩
    omega
  obtain ⟨n1, b1⟩ := lt h1
  obtain ⟨n2, b2⟩ := lt h2
  have b3 := befB_trans a b d b1 b2
  have n3 : a ≠ d := by
    rintro rfl
    rw [befB_irr] at b3
    cases b3
  unfold ordS
  rw [if_neg n3, if_pos b3]
  decide
theorem ordP_eq (a b : Par) : ordP a b = if ordI a.time b.time ≠ 0 then ordI a.time b.time else if ordI a.kind b.kind ≠ 0 then ordI a.kind b.kind else if ordS a.zone b.zone ≠ 0 then ordS a.zone b.zone else if ordS a.plate b.plate ≠ 0 then ordS a.plate b.plate else ordI a.til b.til := by
  simp only [ordP, firstNz]
  (repeat' split) <;> first | rfl | simp_all
theorem cmp_ordP : Cmp ordP := by
  rw [show ordP = _ from funext fun a => funext fun b => ordP_eq a b]
  exact (cmp_ordI.key Par.time).lex ((cmp_ordI.key Par.kind).lex ((cmp_ordS.key Par.zone).lex ((cmp_ordS.key Par.plate).lex (cmp_ordI.key Par.til))))
theorem ordP_zero {a b : Par} : ordP a b = 0 ↔ a = b := by
  constructor
  · intro h
    rw [ordP_eq] at h
    split at h
    · contradiction
    split at h
    · contradiction
    split at h
    · contradiction
    split at h
    · contradiction
    rename_i h1 h2 h3 h4
    cases a; cases b
    simp only [ne_eq, Decidable.not_not, ordI_zero, ordS_zero] at h h1 h2 h3 h4
    subst h h1 h2 h3 h4
    rfl
  rintro rfl
  rw [ordP_eq]
  simp [ordI, ordS]
end Go.Ab
namespace Go.Ab
def insR (p : Par) : List Par → List Par
  | [] => [p]
  | x :: l => if ordP x p < 0 then x :: insR p l else if ordP x p = 0 then x :: l else p :: x :: l
theorem insP_eq (p : Par) : ∀ l, insP l p = insR p l
  | [] => rfl
  | x :: l => by
    rw [insR, ← insP_eq p l]
    unfold insP
    rw [frontP]
    by_cases h : ordP x p < 0
    · rw [if_pos h, if_pos h, List.getElem?_cons_succ, List.take_succ_cons, List.drop_succ_cons]
      cases l[frontP p l]? with
      | none => rfl
      | some y =>
        dsimp only
        split <;> rfl
    rw [if_neg h, if_neg h]
    simp only [List.getElem?_cons_zero, List.take_zero, List.drop_zero, List.nil_append]
abbrev StrictS (l : List Par) : Prop := l.Pairwise (fun a b => ordP a b < 0)
theorem mem_insR {p x : Par} : ∀ {l : List Par}, x ∈ insR p l ↔ x = p ∨ x ∈ l
  | [] => by simp [insR]
  | y :: l => by
    rw [insR]
    split
    · rw [List.mem_cons, mem_insR, List.mem_cons]
      exact ⟨fun h => by rcases h with h | h | h <;> simp [h], fun h => by rcases h with h | h | h <;> simp [h]⟩
    split
    · rename_i h0
      have := ordP_zero.1 h0
      subst this
      simp
    simp
theorem insR_strict {p : Par} : ∀ {l : List Par}, StrictS l → StrictS (insR p l)
  | [], _ => List.pairwise_singleton _ _
  | y :: l, h => by
    obtain ⟨h1, h2⟩ := List.pairwise_cons.1 h
    rw [insR]
    split
    · rename_i hlt
      refine List.pairwise_cons.2 ⟨fun x hx => ?_, insR_strict h2⟩
      rcases mem_insR.1 hx with rfl | hx
      · exact hlt
      exact h1 x hx
    split
    · exact h
    rename_i n1 n2
    have hp : ordP p y < 0 := (cmp_ordP.anti p y).2 (by omega)
    refine List.pairwise_cons.2 ⟨fun x hx => ?_, h⟩
    rcases List.mem_cons.1 hx with rfl | hx
    · exact hp
    exact cmp_ordP.lt _ _ _ hp (h1 x hx)
theorem sortR_go : ∀ (l m : List Par), StrictS m → StrictS (l.foldl insP m) ∧ ∀ x, x ∈ l.foldl insP m ↔ x ∈ l ∨ x ∈ m
  | [], m, h => ⟨h, fun x => by simp⟩
  | p :: l, m, h => by
    rw [List.foldl_cons, insP_eq]
    obtain ⟨a, b⟩ := sortR_go l _ (insR_strict (p := p) h)
    refine ⟨a, fun x => ?_⟩
    rw [b x, mem_insR, List.mem_cons]
    exact ⟨fun h => by rcases h with h | h | h <;> simp [h], fun h => by rcases h with (h | h) | h <;> simp [h]⟩
theorem sortR_strict (l : List Par) : StrictS (sortR l) := (sortR_go l [] List.Pairwise.nil).1
theorem mem_sortR {l : List Par} {x : Par} : x ∈ sortR l ↔ x ∈ l := by rw [sortR, (sortR_go l [] List.Pairwise.nil).2 x]; simp
theorem ordP_irr (x : Par) : ¬ ordP x x < 0 := by rw [ordP_zero.2 rfl]; decide
theorem strict_ext : ∀ {l k : List Par}, StrictS l → StrictS k → (∀ x, x ∈ l ↔ x ∈ k) → l = k
  | [], [], _, _, _ => rfl
  | [], y :: k, _, _, h => absurd ((h y).2 (by simp)) (by simp)
  | x :: l, [], _, _, h => absurd ((h x).1 (by simp)) (by simp)
  | x :: l, y :: k, h1, h2, h => by
    obtain ⟨a1, a2⟩ := List.pairwise_cons.1 h1
    obtain ⟨b1, b2⟩ := List.pairwise_cons.1 h2
    have hxy : x = y := by
      rcases List.mem_cons.1 ((h x).1 (by simp)) with e | e
      · exact e
      rcases List.mem_cons.1 ((h y).2 (by simp)) with f | f
      · exact f.symm
      exact absurd (cmp_ordP.lt _ _ _ (a1 y f) (b1 x e)) (ordP_irr x)
    subst hxy
    rw [strict_ext a2 b2 fun z => ?_]
    have hz := h z
    simp only [List.mem_cons] at hz
    constructor
    · intro hl
      rcases hz.1 (.inr hl) with rfl | hk
      · exact absurd (a1 z hl) (ordP_irr z)
      exact hk
    intro hk
    rcases hz.2 (.inr hk) with rfl | hl
    · exact absurd (b1 z hk) (ordP_irr z)
    exact hl
def compP : List Par → List Par
  | [] => []
  | [x] => [x]
  | x :: y :: r => if ordP x y = 0 then compP (y :: r) else x :: compP (y :: r)
theorem mem_compP {x : Par} : ∀ {l : List Par}, x ∈ compP l ↔ x ∈ l
  | [] => Iff.rfl
  | [_] => Iff.rfl
  | a :: b :: r => by
    rw [compP]
    split
    · rename_i h
      have := ordP_zero.1 h
      subst this
      rw [mem_compP]
      simp
    rw [List.mem_cons, mem_compP, List.mem_cons (b := a)]
theorem compP_strict : ∀ {l : List Par}, l.Pairwise (fun a b => ordP a b ≤ 0) → StrictS (compP l)
  | [], _ => List.Pairwise.nil
  | [_], _ => List.pairwise_singleton _ _
  | a :: b :: r, h => by
    obtain ⟨h1, h2⟩ := List.pairwise_cons.1 h
    obtain ⟨h3, h4⟩ := List.pairwise_cons.1 h2
    have ih := compP_strict h2
    rw [compP]
    split
    · exact ih
    rename_i hn
    have hab : ordP a b < 0 := by have := h1 b (by simp); omega
    refine List.pairwise_cons.2 ⟨fun x hx => ?_, ih⟩
    rcases List.mem_cons.1 (mem_compP.1 hx) with rfl | hx
    · exact hab
    have := h3 x hx
    rcases (by omega : ordP b x < 0 ∨ ordP b x = 0) with e | e
    · exact cmp_ordP.lt _ _ _ hab e
    exact cmp_ordP.le _ _ _ hab e
theorem sort_same {l k : List Par} (hs : k.Pairwise (fun a b => ordP a b ≤ 0)) (hm : ∀ x, x ∈ k ↔ x ∈ l) : compP k = sortR l :=
  strict_ext (compP_strict hs) (sortR_strict l) fun x => by rw [mem_compP, mem_sortR, hm]
end Go.Ab
namespace Go.Ab
def noDot (s : List UInt8) : Prop := ∀ c ∈ s, c ≠ 46
theorem nm_noDot : ∀ {f : Bool} {s : List UInt8}, nmAll f s = true → noDot s
  | _, [], _ => fun c hc => by simp at hc
  | f, c :: r, h => by
    rw [nmAll, Bool.and_eq_true] at h
    intro x hx
    rcases List.mem_cons.1 hx with rfl | hx
    · rintro rfl
      cases f <;> simp [letB, digB, isDig] at h
    exact nm_noDot h.2 x hx
theorem name_noDot {s : List UInt8} (h : nameB s = true) : noDot s := by
  unfold nameB at h
  rw [Bool.and_eq_true] at h
  exact nm_noDot h.2
theorem plate_noDot {s : List UInt8} (h : plateB s = true) : noDot s := by
  have h := of_decide_eq_true h
  by_cases hk : plOk (plL s) = true
  · rw [plF_yes hk] at h
    have hs : plL s = s := h.2
    rw [hs] at hk
    unfold plOk at hk
    rw [Bool.and_eq_true] at hk
    intro c hc e
    have := List.all_eq_true.1 hk.1 c hc
    subst e
    simp [platB] at this
  rw [plF_no (by simpa using hk)] at h
  exact absurd h.1 (by decide)
theorem err_dots {l : List Zon} {p : Par} (h : errP l p = 0) : noDot p.zone ∧ noDot p.plate ∧ ∃ z, findZ l p.zone = some z ∧ z.err = 0 ∧ errT z p = 0 ∧ isT p.time = true ∧ 1 ≤ p.kind ∧ p.kind ≤ 6 := by
  unfold errP at h
  split at h
  · omega
  rename_i hk
  split at h
  · omega
  rename_i z hz
  split at h
  · omega
  rename_i he
  split at h
  · omega
  rename_i hpl
  split at h
  · omega
  rename_i ht
  have he : z.err = 0 := by simpa using he
  have hn : z.name = p.zone := by
    have := List.find?_some hz
    simpa using this
  have hnm : nameB z.name = true := by
    have h1 := he
    rw [Zon.err_eq] at h1
    split at h1
    · omega
    rename_i h2; simpa using h2
  refine ⟨by rw [← hn]; exact name_noDot hnm, plate_noDot (by simpa using hpl), z, hz, he, h, by simpa using ht, by omega, by omega⟩
end Go.Ab
namespace Go.Ab
def lastI {α : Type} (c : α → Bool) : List α → Option Nat
  | [] => none
  | x :: r => match lastI c r with
    | some i => some (i + 1)
    | none => if c x = true then some 0 else none
theorem lastI_none {α : Type} {c : α → Bool} : ∀ {l : List α}, lastI c l = none → ∀ x ∈ l, c x = false
  | [], _, x, hx => by simp at hx
  | y :: r, h, x, hx => by
    rw [lastI] at h
    split at h
    · cases h
    rename_i h1
    split at h
    · cases h
    rename_i h2
    rcases List.mem_cons.1 hx with rfl | hx
    · simpa using h2
    exact lastI_none h1 x hx
theorem lastI_some {α : Type} {c : α → Bool} : ∀ {l : List α} {i : Nat}, lastI c l = some i → ∃ x, l[i]? = some x ∧ c x = true
  | [], i, h => by simp [lastI] at h
  | y :: r, i, h => by
    rw [lastI] at h
    split at h
    · rename_i k h1
      cases h
      obtain ⟨x, h2, h3⟩ := lastI_some h1
      exact ⟨x, by simpa using h2, h3⟩
    split at h
    · rename_i h2
      cases h
      exact ⟨y, rfl, h2⟩
    cases h
def curB (p : Par) (z : Zon) (now : Bool) (s : Ses) : Bool := decide (s.zone = p.zone ∧ s.plate = p.plate ∧ s.state = 1) && (!now || (decide (s.fr ≤ p.time) && !overB z s p.time))
def newS (p : Par) : Ses := ⟨keyF p, p.zone, p.plate, p.time, p.til, 1, true, []⟩
def seeS (z : Zon) (p : Par) (s : Ses) : Ses := if overB z s p.time = true then { s with state := 3 } else if s.fr ≤ p.time then { s with sf := false, seen := s.seen ++ [p.time] } else s
def applyF (zs : List Zon) (l : List Ses) (p : Par) : List Ses × Int :=
  if errP zs p ≠ 0 then (l, errP zs p) else match findZ zs p.zone with
  | none => (l, 23)
  | some z =>
    if p.kind = 1 then (match lastI (curB p z true) l with
      | some _ => (l, 11)
      | none => (l ++ [newS p], 0))
    else if p.kind = 2 then (match lastI (curB p z true) l with
      | none => (l, 11)
      | some i => match l[i]? with
        | none => (l, 11)
        | some s => if p.til ≤ s.til then (l, 15) else if z.stay ≠ 0 ∧ s.fr < p.til - z.stay then (l, 3) else (l.set i { s with til := p.til }, 0))
    else if p.kind = 3 then (match lastI (curB p z true) l with
      | none => (l, 11)
      | some i => match l[i]? with
        | none => (l, 11)
        | some s => (l.set i { s with state := 2, til := min s.til p.time }, 0))
    else if p.kind = 4 then (match lastI (curB p z false) l with
      | none => (l, 0)
      | some i => match l[i]? with
        | none => (l, 0)
        | some s => (l.set i (seeS z p s), 0))
    else (l, 0)
def stepX (zs : List Zon) (a : List Ses × List Exc) (p : Par) : List Ses × List Exc :=
  ((applyF zs a.1 p).1, if (applyF zs a.1 p).2 = 0 then a.2 else a.2 ++ [⟨keyF p, if errP zs p ≠ 0 then 3 else 4⟩])
def allF (zs : List Zon) (ps : List Par) : List Ses × List Exc := (sortR ps).foldl (stepX zs) ([], [])
inductive Eff (zs : List Zon) (l : List Ses) (p : Par) : List Ses → Int → Prop where
  | err (e : Int) (h : e ≠ 0) : Eff zs l p l e
  | same (h : p.kind ≠ 1) (hv : errP zs p = 0) : Eff zs l p l 0
  | start (z : Zon) (hv : errP zs p = 0) (hz : findZ zs p.zone = some z) (hk : p.kind = 1) (hn : ∀ s ∈ l, curB p z true s = false) : Eff zs l p (l ++ [newS p]) 0
  | ext (z : Zon) (i : Nat) (s : Ses) (hv : errP zs p = 0) (hz : findZ zs p.zone = some z) (hk : p.kind ≠ 1) (hi : l[i]? = some s) (hc : curB p z true s = true) : Eff zs l p (l.set i { s with til := p.til }) 0
  | stop (z : Zon) (i : Nat) (s : Ses) (hv : errP zs p = 0) (hz : findZ zs p.zone = some z) (hk : p.kind ≠ 1) (hi : l[i]? = some s) (hc : curB p z true s = true) : Eff zs l p (l.set i { s with state := 2, til := min s.til p.time }) 0
  | see (z : Zon) (i : Nat) (s : Ses) (hv : errP zs p = 0) (hz : findZ zs p.zone = some z) (hk : p.kind ≠ 1) (hi : l[i]? = some s) (hc : curB p z false s = true) : Eff zs l p (l.set i (seeS z p s)) 0
theorem applyF_eff (zs : List Zon) (l : List Ses) (p : Par) : Eff zs l p (applyF zs l p).1 (applyF zs l p).2 := by
  unfold applyF
  split
  · rename_i h; exact .err _ h
  rename_i hv
  have hv : errP zs p = 0 := by simpa using hv
  obtain ⟨_, _, z, hz, _⟩ := err_dots hv
  rw [hz]
  dsimp only
  split
  · rename_i hk
    split
    · exact .err _ (by simp)
    rename_i hn
    exact .start z hv hz hk (lastI_none hn)
  rename_i hk1
  split
  · split
    · exact .err _ (by simp)
    rename_i i hi
    obtain ⟨s, hs, hc⟩ := lastI_some hi
    rw [hs]
    dsimp only
    split
    · exact .err _ (by simp)
    split
    · exact .err _ (by simp)
    exact .ext z i s hv hz hk1 hs hc
  split
  · split
    · exact .err _ (by simp)
    rename_i i hi
    obtain ⟨s, hs, hc⟩ := lastI_some hi
    rw [hs]
    exact .stop z i s hv hz hk1 hs hc
  split
  · split
    · exact .same hk1 hv
    rename_i i hi
    obtain ⟨s, hs, hc⟩ := lastI_some hi
    rw [hs]
    exact .see z i s hv hz hk1 hs hc
  exact .same hk1 hv
end Go.Ab
