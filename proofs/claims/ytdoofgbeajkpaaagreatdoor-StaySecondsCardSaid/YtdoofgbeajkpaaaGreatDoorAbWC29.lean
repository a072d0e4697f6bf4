/-
  Texts of the layer and of the laws, put together: AbV1, AbV2, AbV3, AbV4, AbV5, AbV6.
-/
import Derived.Test.YtdoofgbeajkpaaaGreatDoorAbWC28
set_option linter.unusedSimpArgs false
set_option linter.unusedVariables false
set_option maxRecDepth 100000
namespace Go.Ab
structure Cmp {α : Type} (c : α → α → Int) : Prop where
  anti : ∀ a b, c a b < 0 ↔ 0 < c b a
  lt : ∀ a b d, c a b < 0 → c b d < 0 → c a d < 0
  el : ∀ a b d, c a b = 0 → c b d < 0 → c a d < 0
  le : ∀ a b d, c a b < 0 → c b d = 0 → c a d < 0
  ee : ∀ a b d, c a b = 0 → c b d = 0 → c a d = 0
theorem Cmp.sym {α : Type} {c : α → α → Int} (h : Cmp c) {a b : α} (e : c a b = 0) : c b a = 0 := by
  have h1 := h.anti a b
  have h2 := h.anti b a
  omega
theorem Cmp.of_eq {α : Type} {c : α → α → Int} (h0 : ∀ a b, c a b = 0 ↔ a = b) (h1 : ∀ a b, c a b < 0 ↔ 0 < c b a) (h2 : ∀ a b d, c a b < 0 → c b d < 0 → c a d < 0) : Cmp c :=
  ⟨h1, h2, fun a b d e h => by rw [(h0 a b).1 e]; exact h, fun a b d h e => by rw [← (h0 b d).1 e]; exact h, fun a b d e f => by rw [(h0 a b).1 e]; exact f⟩
theorem Cmp.key {α β : Type} {c : β → β → Int} (h : Cmp c) (f : α → β) : Cmp (fun a b => c (f a) (f b)) :=
  ⟨fun _ _ => h.anti _ _, fun _ _ _ => h.lt _ _ _, fun _ _ _ => h.el _ _ _, fun _ _ _ => h.le _ _ _, fun _ _ _ => h.ee _ _ _⟩
theorem Cmp.lex {α : Type} {c d : α → α → Int} (h : Cmp c) (k : Cmp d) : Cmp (fun a b => if c a b ≠ 0 then c a b else d a b) := by
  constructor
  · intro a b
    have h1 := h.anti a b
    have h2 := h.anti b a
    have k1 := k.anti a b
    split <;> split <;> omega
  · intro a b e
    have h1 := h.lt a b e
    have h2 := h.el a b e
    have h3 := h.le a b e
    have h4 := h.ee a b e
    have k1 := k.lt a b e
    split <;> split <;> split <;> (intro x y; first | omega | (have := h1 x y; omega) | (have := h2 (by omega) y; omega) | (have := h3 x (by omega); omega) | (have := h4 (by omega) (by omega); omega) | exact k1 x y)
  · intro a b e
    have h2 := h.el a b e
    have h4 := h.ee a b e
    have k1 := k.el a b e
    split <;> split <;> split <;> (intro x y; first | omega | (have := h2 (by omega) y; omega) | (have := h4 (by omega) (by omega); omega) | exact k1 x y)
  · intro a b e
    have h3 := h.le a b e
    have h4 := h.ee a b e
    have k1 := k.le a b e
    split <;> split <;> split <;> (intro x y; first | omega | (have := h3 x (by omega); omega) | (have := h4 (by omega) (by omega); omega) | exact k1 x y)
  intro a b e
  have h4 := h.ee a b e
  have k1 := k.ee a b e
  split <;> split <;> split <;> (intro x y; first | omega | (have := h4 (by omega) (by omega); omega) | exact k1 x y)
theorem cmp_ordI : Cmp ordI := by
  have e : ∀ x y, ordI x y < 0 ↔ x < y := by intro x y; simp only [ordI]; (repeat' split) <;> omega
  refine Cmp.of_eq ?_ ?_ ?_
  · intro a b; simp only [ordI]; (repeat' split) <;> omega
  · intro a b; simp only [ordI]; (repeat' split) <;> omega
  intro a b d h1 h2
  rw [e] at *
  omega
theorem ordI_zero {a b : Int} : ordI a b = 0 ↔ a = b := by simp only [ordI]; (repeat' split) <;> omega
theorem befB_irr : ∀ a, befB a a = false
  | [] => rfl
  | a :: l => by rw [befB, if_pos rfl, befB_irr l]
theorem befB_tot : ∀ a b, a ≠ b → befB a b = !befB b a
  | [], [], h => absurd rfl h
  | [], _ :: _, _ => rfl
  | _ :: _, [], _ => rfl
  | a :: l, b :: k, h => by
    by_cases e : a = b
    · subst e
      rw [befB, befB, if_pos rfl, if_pos rfl, befB_tot l k (fun he => h (by rw [he]))]
    rw [befB, befB, if_neg e, if_neg (fun x => e x.symm), Bool.eq_iff_iff]
    have : a.toNat ≠ b.toNat := fun x => e (UInt8.toNat_inj.1 x)
    simp only [decide_eq_true_eq, Bool.not_eq_true', decide_eq_false_iff_not]
    omega
theorem befB_trans : ∀ a b c, befB a b = true → befB b c = true → befB a c = true
  | [], [], _, h, _ => absurd h (by simp [befB])
  | [], _ :: _, [], _, h => absurd h (by simp [befB])
  | [], _ :: _, _ :: _, _, _ => rfl
  | _ :: _, [], _, h, _ => absurd h (by simp [befB])
  | _ :: _, _ :: _, [], _, h => absurd h (by simp [befB])
  | a :: l, b :: k, c :: m, h1, h2 => by
    rw [befB] at h1 h2 ⊢
    by_cases e1 : a = b
    · subst e1
      rw [if_pos rfl] at h1
      by_cases e2 : a = c
      · rw [if_pos e2] at h2 ⊢
        exact befB_trans l k m h1 h2
      rw [if_neg e2] at h2 ⊢
      exact h2
    rw [if_neg e1] at h1
    by_cases e2 : b = c
    · subst e2
      rw [if_neg e1]
      exact h1
    rw [if_neg e2] at h2
    have h1 := of_decide_eq_true h1
    have h2 := of_decide_eq_true h2
    rw [if_neg (by rintro rfl; omega)]
    exact decide_eq_true (by omega)
theorem ordS_zero {a b : List UInt8} : ordS a b = 0 ↔ a = b := by
  unfold ordS
  split
  · simp_all
  split <;> simp_all
theorem cmp_ordS : Cmp ordS := by
  refine Cmp.of_eq (fun _ _ => ordS_zero) ?_ ?_
  · intro a b
    by_cases e : a = b
    · subst e
      simp [ordS]
    have h := befB_tot a b e
    have e' : ¬ b = a := fun x => e x.symm
    simp only [ordS, e, e', if_false, h]
    cases befB b a <;> simp
  intro a b d h1 h2
  have lt : ∀ {x y : List UInt8}, ordS x y < 0 → x ≠ y ∧ befB x y = true := by
    intro x y h
    unfold ordS at h
    split at h
    · omega
    split at h
    · rename_i h3 h4; exact ⟨h3, h4⟩
    omega
  obtain ⟨n1, b1⟩ := lt h1
  obtain ⟨n2, b2⟩ := lt h2
  have b3 := befB_trans a b d b1 b2
  have n3 : a ≠ d := by
    rintro rfl
    rw [befB_irr] at b3
    cases b3
  unfold ordS
  rw [if_neg n3, if_pos b3]
  decide
theorem ordP_eq (a b : Par) : ordP a b = if ordI a.time b.time ≠ 0 then ordI a.time b.time else if ordI a.kind b.kind ≠ 0 then ordI a.kind b.kind else if ordS a.zone b.zone ≠ 0 then ordS a.zone b.zone else if ordS a.plate b.plate ≠ 0 then ordS a.plate b.plate else ordI a.til b.til := by
  simp only [ordP, firstNz]
  (repeat' split) <;> first | rfl | simp_all
theorem cmp_ordP : Cmp ordP := by
  rw [show ordP = _ from funext fun a => funext fun b => ordP_eq a b]
  exact (cmp_ordI.key Par.time).lex ((cmp_ordI.key Par.kind).lex ((cmp_ordS.key Par.zone).lex ((cmp_ordS.key Par.plate).lex (cmp_ordI.key Par.til))))
theorem ordP_zero {a b : Par} : ordP a b = 0 ↔ a = b := by
  constructor
  · intro h
    rw [ordP_eq] at h
    split at h
    · contradiction
    split at h
    · contradiction
    split at h
    · contradiction
    split at h
    · contradiction
    rename_i h1 h2 h3 h4
    cases a; cases b
    simp only [ne_eq, Decidable.not_not, ordI_zero, ordS_zero] at h h1 h2 h3 h4
    subst h h1 h2 h3 h4
    rfl
  rintro rfl
  rw [ordP_eq]
  simp [ordI, ordS]
end Go.Ab
namespace Go.Ab
def insR (p : Par) : List Par → List Par
  | [] => [p]
  | x :: l => if ordP x p < 0 then x :: insR p l else if ordP x p = 0 then x :: l else p :: x :: l
theorem insP_eq (p : Par) : ∀ l, insP l p = insR p l
  | [] => rfl
  | x :: l => by
    rw [insR, ← insP_eq p l]
    unfold insP
    rw [frontP]
    by_cases h : ordP x p < 0
    · rw [if_pos h, if_pos h, List.getElem?_cons_succ, List.take_succ_cons, List.drop_succ_cons]
      cases l[frontP p l]? with
      | none => rfl
      | some y =>
        dsimp only
        split <;> rfl
    rw [if_neg h, if_neg h]
    simp only [List.getElem?_cons_zero, List.take_zero, List.drop_zero, List.nil_append]
abbrev StrictS (l : List Par) : Prop := l.Pairwise (fun a b => ordP a b < 0)
theorem mem_insR {p x : Par} : ∀ {l : List Par}, x ∈ insR p l ↔ x = p ∨ x ∈ l
  | [] => by simp [insR]
  | y :: l => by
    rw [insR]
    split
    · rw [List.mem_cons, mem_insR, List.mem_cons]
      exact ⟨fun h => by rcases h with h | h | h <;> simp [h], fun h => by rcases h with h | h | h <;> simp [h]⟩
    split
    · rename_i h0
      have := ordP_zero.1 h0
      subst this
      simp
    simp
theorem insR_strict {p : Par} : ∀ {l : List Par}, StrictS l → StrictS (insR p l)
  | [], _ => List.pairwise_singleton _ _
  | y :: l, h => by
    obtain ⟨h1, h2⟩ := List.pairwise_cons.1 h
    rw [insR]
    split
    · rename_i hlt
      refine List.pairwise_cons.2 ⟨fun x hx => ?_, insR_strict h2⟩
      rcases mem_insR.1 hx with rfl | hx
      · exact hlt
      exact h1 x hx
    split
    · exact h
    rename_i n1 n2
    have hp : ordP p y < 0 := (cmp_ordP.anti p y).2 (by omega)
    refine List.pairwise_cons.2 ⟨fun x hx => ?_, h⟩
    rcases List.mem_cons.1 hx with rfl | hx
    · exact hp
    exact cmp_ordP.lt _ _ _ hp (h1 x hx)
theorem sortR_go : ∀ (l m : List Par), StrictS m → StrictS (l.foldl insP m) ∧ ∀ x, x ∈ l.foldl insP m ↔ x ∈ l ∨ x ∈ m
  | [], m, h => ⟨h, fun x => by simp⟩
  | p :: l, m, h => by
    rw [List.foldl_cons, insP_eq]
    obtain ⟨a, b⟩ := sortR_go l _ (insR_strict (p := p) h)
    refine ⟨a, fun x => ?_⟩
    rw [b x, mem_insR, List.mem_cons]
    exact ⟨fun h => by rcases h with h | h | h <;> simp [h], fun h => by rcases h with (h | h) | h <;> simp [h]⟩
theorem sortR_strict (l : List Par) : StrictS (sortR l) := (sortR_go l [] List.Pairwise.nil).1
theorem mem_sortR {l : List Par} {x : Par} : x ∈ sortR l ↔ x ∈ l := by rw [sortR, (sortR_go l [] List.Pairwise.nil).2 x]; simp
theorem ordP_irr (x : Par) : ¬ ordP x x < 0 := by rw [ordP_zero.2 rfl]; decide
theorem strict_ext : ∀ {l k : List Par}, StrictS l → StrictS k → (∀ x, x ∈ l ↔ x ∈ k) → l = k
  | [], [], _, _, _ => rfl
  | [], y :: k, _, _, h => absurd ((h y).2 (by simp)) (by simp)
  | x :: l, [], _, _, h => absurd ((h x).1 (by simp)) (by simp)
  | x :: l, y :: k, h1, h2, h => by
    obtain ⟨a1, a2⟩ := List.pairwise_cons.1 h1
    obtain ⟨b1, b2⟩ := List.pairwise_cons.1 h2
    have hxy : x = y := by
      rcases List.mem_cons.1 ((h x).1 (by simp)) with e | e
      · exact e
      rcases List.mem_cons.1 ((h y).2 (by simp)) with f | f
      · exact f.symm
      exact absurd (cmp_ordP.lt _ _ _ (a1 y f) (b1 x e)) (ordP_irr x)
    subst hxy
    rw [strict_ext a2 b2 fun z => ?_]
    have hz := h z
    simp only [List.mem_cons] at hz
    constructor
    · intro hl
      rcases hz.1 (.inr hl) with rfl | hk
      · exact absurd (a1 z hl) (ordP_irr z)
      exact hk
    intro hk
    rcases hz.2 (.inr hk) with rfl | hl
    · exact absurd (b1 z hk) (ordP_irr z)
    exact hl
def compP : List Par → List Par
  | [] => []
  | [x] => [x]
  | x :: y :: r => if ordP x y = 0 then compP (y :: r) else x :: compP (y :: r)
theorem mem_compP {x : Par} : ∀ {l : List Par}, x ∈ compP l ↔ x ∈ l
  | [] => Iff.rfl
  | [_] => Iff.rfl
  | a :: b :: r => by
    rw [compP]
    split
    · rename_i h
      have := ordP_zero.1 h
      subst this
      rw [mem_compP]
      simp
    rw [List.mem_cons, mem_compP, List.mem_cons (b := a)]
theorem compP_strict : ∀ {l : List Par}, l.Pairwise (fun a b => ordP a b ≤ 0) → StrictS (compP l)
  | [], _ => List.Pairwise.nil
  | [_], _ => List.pairwise_singleton _ _
  | a :: b :: r, h => by
    obtain ⟨h1, h2⟩ := List.pairwise_cons.1 h
    obtain ⟨h3, h4⟩ := List.pairwise_cons.1 h2
    have ih := compP_strict h2
    rw [compP]
    split
    · exact ih
    rename_i hn
    have hab : ordP a b < 0 := by have := h1 b (by simp); omega
    refine List.pairwise_cons.2 ⟨fun x hx => ?_, ih⟩
    rcases List.mem_cons.1 (mem_compP.1 hx) with rfl | hx
    · exact hab
    have := h3 x hx
    rcases (by omega : ordP b x < 0 ∨ ordP b x = 0) with e | e
    · exact cmp_ordP.lt _ _ _ hab e
    exact cmp_ordP.le _ _ _ hab e
theorem sort_same {l k : List Par} (hs : k.Pairwise (fun a b => ordP a b ≤ 0)) (hm : ∀ x, x ∈ k ↔ x ∈ l) : compP k = sortR l :=
  strict_ext (compP_strict hs) (sortR_strict l) fun x => by rw [mem_compP, mem_sortR, hm]
end Go.Ab
namespace Go.Ab
def noDot (s : List UInt8) : Prop := ∀ c ∈ s, c ≠ 46
theorem dec_noDot (u : Nat) : noDot (Lib.decDigits u) := fun c hc he => by
  have h := (dec_spec _ u (Nat.lt_succ_self u)).1
  have := List.all_eq_true.1 h c hc
  subst he
  simp [isDig] at this
theorem itoa_noDot (n : Int) : noDot (Lib.itoa n) := by
  rw [itoa_spec]
  split
  · intro c hc
    rcases List.mem_cons.1 hc with rfl | hc
    · decide
    exact dec_noDot _ c hc
  exact dec_noDot _
theorem dec_injU {u v : Nat} (h : Lib.decDigits u = Lib.decDigits v) : u = v := by
  rw [← (dec_spec _ u (Nat.lt_succ_self u)).2.1, ← (dec_spec _ v (Nat.lt_succ_self v)).2.1, h]
theorem itoa_injU {m n : Int} (h : Lib.itoa m = Lib.itoa n) : m = n := by
  have hd : ∀ (u : Nat) (r : List UInt8), Lib.decDigits u ≠ 45 :: r := fun u r e => by
    have h := (dec_spec _ u (Nat.lt_succ_self u)).1
    rw [e] at h
    simp [isDig] at h
  rw [itoa_spec, itoa_spec] at h
  split at h <;> split at h
  · have := dec_injU (List.cons.inj h).2; omega
  · exact absurd h.symm (hd _ _)
  · exact absurd h (hd _ _)
  have := dec_injU h; omega
theorem split_dot : ∀ {a b r s : List UInt8}, noDot a → noDot b → a ++ 46 :: r = b ++ 46 :: s → a = b ∧ r = s
  | [], [], _, _, _, _, h => ⟨rfl, (List.cons.inj h).2⟩
  | [], c :: b, _, _, _, hb, h => absurd (List.cons.inj h).1.symm (hb c (by simp))
  | c :: a, [], _, _, ha, _, h => absurd (List.cons.inj h).1 (ha c (by simp))
  | c :: a, d :: b, _, _, ha, hb, h => by
    obtain ⟨e, h⟩ := List.cons.inj h
    obtain ⟨h1, h2⟩ := split_dot (fun x hx => ha x (by simp [hx])) (fun x hx => hb x (by simp [hx])) h
    exact ⟨by rw [e, h1], h2⟩
theorem split_last {a b r s : List UInt8} (hr : noDot r) (hs : noDot s) (h : a ++ 46 :: r = b ++ 46 :: s) : a = b ∧ r = s := by
  have h' := congrArg List.reverse h
  simp only [List.reverse_append, List.reverse_cons, List.append_assoc, List.singleton_append] at h'
  obtain ⟨h1, h2⟩ := split_dot (fun x hx => hr x (by simpa using hx)) (fun x hx => hs x (by simpa using hx)) h'
  exact ⟨List.reverse_inj.1 h2, List.reverse_inj.1 h1⟩
theorem dots_le {s : List UInt8} (h : s.count 46 = 0) : noDot s := fun c hc e => by
  subst e
  exact absurd (List.count_pos_iff.2 hc) (by omega)
theorem noDot_count {s : List UInt8} (h : noDot s) : s.count 46 = 0 := List.count_eq_zero.2 fun hm => h 46 hm rfl
theorem key_inj {p q : Par} (hz : noDot q.zone) (hp : noDot q.plate) (h : keyF p = keyF q) : p = q := by
  obtain ⟨k1, z1, p1, t1, u1⟩ := p
  obtain ⟨k2, z2, p2, t2, u2⟩ := q
  simp only [keyF, List.append_assoc, List.singleton_append] at h hz hp
  obtain ⟨e1, h⟩ := split_dot (itoa_noDot _) (itoa_noDot _) h
  have h' : (z1 ++ 46 :: (p1 ++ 46 :: Lib.itoa t1)) ++ 46 :: Lib.itoa u1 = (z2 ++ 46 :: (p2 ++ 46 :: Lib.itoa t2)) ++ 46 :: Lib.itoa u2 := by simpa using h
  obtain ⟨h2, e5⟩ := split_last (itoa_noDot _) (itoa_noDot _) h'
  have h'' : (z1 ++ 46 :: p1) ++ 46 :: Lib.itoa t1 = (z2 ++ 46 :: p2) ++ 46 :: Lib.itoa t2 := by simpa using h2
  obtain ⟨h3, e4⟩ := split_last (itoa_noDot _) (itoa_noDot _) h''
  have hc := congrArg (List.count 46) h3
  simp only [List.count_append, List.count_cons_self, noDot_count hz, noDot_count hp] at hc
  obtain ⟨e2, e3⟩ := split_dot (dots_le (s := z1) (by omega)) hz h3
  rw [itoa_injU e1, itoa_injU e4, itoa_injU e5, e2, e3]
theorem nm_noDot : ∀ {f : Bool} {s : List UInt8}, nmAll f s = true → noDot s
  | _, [], _ => fun c hc => by simp at hc
  | f, c :: r, h => by
    rw [nmAll, Bool.and_eq_true] at h
    intro x hx
    rcases List.mem_cons.1 hx with rfl | hx
    · rintro rfl
      cases f <;> simp [letB, digB, isDig] at h
    exact nm_noDot h.2 x hx
theorem name_noDot {s : List UInt8} (h : nameB s = true) : noDot s := by
  unfold nameB at h
  rw [Bool.and_eq_true] at h
  exact nm_noDot h.2
theorem plate_noDot {s : List UInt8} (h : plateB s = true) : noDot s := by
  have h := of_decide_eq_true h
  by_cases hk : plOk (plL s) = true
  · rw [plF_yes hk] at h
    have hs : plL s = s := h.2
    rw [hs] at hk
    unfold plOk at hk
    rw [Bool.and_eq_true] at hk
    intro c hc e
    have := List.all_eq_true.1 hk.1 c hc
    subst e
    simp [platB] at this
  rw [plF_no (by simpa using hk)] at h
  exact absurd h.1 (by decide)
theorem err_dots {l : List Zon} {p : Par} (h : errP l p = 0) : noDot p.zone ∧ noDot p.plate ∧ ∃ z, findZ l p.zone = some z ∧ z.err = 0 ∧ errT z p = 0 ∧ isT p.time = true ∧ 1 ≤ p.kind ∧ p.kind ≤ 6 := by
  unfold errP at h
  split at h
  · omega
  rename_i hk
  split at h
  · omega
  rename_i z hz
  split at h
  · omega
  rename_i he
  split at h
  · omega
  rename_i hpl
  split at h
  · omega
  rename_i ht
  have he : z.err = 0 := by simpa using he
  have hn : z.name = p.zone := by
    have := List.find?_some hz
    simpa using this
  have hnm : nameB z.name = true := by
    have h1 := he
    rw [Zon.err_eq] at h1
    split at h1
    · omega
    rename_i h2; simpa using h2
  refine ⟨by rw [← hn]; exact name_noDot hnm, plate_noDot (by simpa using hpl), z, hz, he, h, by simpa using ht, by omega, by omega⟩
end Go.Ab
namespace Go.Ab
def lastI {α : Type} (c : α → Bool) : List α → Option Nat
  | [] => none
  | x :: r => match lastI c r with
    | some i => some (i + 1)
    | none => if c x = true then some 0 else none
def curB (p : Par) (z : Zon) (now : Bool) (s : Ses) : Bool := decide (s.zone = p.zone ∧ s.plate = p.plate ∧ s.state = 1) && (!now || (decide (s.fr ≤ p.time) && !overB z s p.time))
def newS (p : Par) : Ses := ⟨keyF p, p.zone, p.plate, p.time, p.til, 1, true, []⟩
def seeS (z : Zon) (p : Par) (s : Ses) : Ses := if overB z s p.time = true then { s with state := 3 } else if s.fr ≤ p.time then { s with sf := false, seen := s.seen ++ [p.time] } else s
def applyF (zs : List Zon) (l : List Ses) (p : Par) : List Ses × Int :=
  if errP zs p ≠ 0 then (l, errP zs p) else match findZ zs p.zone with
  | none => (l, 23)
  | some z =>
    if p.kind = 1 then (match lastI (curB p z true) l with
      | some _ => (l, 11)
      | none => (l ++ [newS p], 0))
    else if p.kind = 2 then (match lastI (curB p z true) l with
      | none => (l, 11)
      | some i => match l[i]? with
        | none => (l, 11)
        | some s => if p.til ≤ s.til then (l, 15) else if z.stay ≠ 0 ∧ s.fr < p.til - z.stay then (l, 3) else (l.set i { s with til := p.til }, 0))
    else if p.kind = 3 then (match lastI (curB p z true) l with
      | none => (l, 11)
      | some i => match l[i]? with
        | none => (l, 11)
        | some s => (l.set i { s with state := 2, til := min s.til p.time }, 0))
    else if p.kind = 4 then (match lastI (curB p z false) l with
      | none => (l, 0)
      | some i => match l[i]? with
        | none => (l, 0)
        | some s => (l.set i (seeS z p s), 0))
    else (l, 0)
def stepX (zs : List Zon) (a : List Ses × List Exc) (p : Par) : List Ses × List Exc :=
  ((applyF zs a.1 p).1, if (applyF zs a.1 p).2 = 0 then a.2 else a.2 ++ [⟨keyF p, if errP zs p ≠ 0 then 3 else 4⟩])
inductive Eff (zs : List Zon) (l : List Ses) (p : Par) : List Ses → Int → Prop where
  | err (e : Int) (h : e ≠ 0) : Eff zs l p l e
  | same (h : p.kind ≠ 1) (hv : errP zs p = 0) : Eff zs l p l 0
  | start (z : Zon) (hv : errP zs p = 0) (hz : findZ zs p.zone = some z) (hk : p.kind = 1) (hn : ∀ s ∈ l, curB p z true s = false) : Eff zs l p (l ++ [newS p]) 0
  | ext (z : Zon) (i : Nat) (s : Ses) (hv : errP zs p = 0) (hz : findZ zs p.zone = some z) (hk : p.kind ≠ 1) (hi : l[i]? = some s) (hc : curB p z true s = true) : Eff zs l p (l.set i { s with til := p.til }) 0
  | stop (z : Zon) (i : Nat) (s : Ses) (hv : errP zs p = 0) (hz : findZ zs p.zone = some z) (hk : p.kind ≠ 1) (hi : l[i]? = some s) (hc : curB p z true s = true) : Eff zs l p (l.set i { s with state := 2, til := min s.til p.time }) 0
  | see (z : Zon) (i : Nat) (s : Ses) (hv : errP zs p = 0) (hz : findZ zs p.zone = some z) (hk : p.kind ≠ 1) (hi : l[i]? = some s) (hc : curB p z false s = true) : Eff zs l p (l.set i (seeS z p s)) 0
end Go.Ab
namespace Go.Ab
theorem over_iff {z : Zon} {s : Ses} {t : Int} (hz : z.err = 0) (ht : isT t = true) : overB z s t = true ↔ s.til ≤ t - z.grace := by
  have h1 := err_stay hz
  have h2 : 0 ≤ t ∧ t < 68719476736 := by simpa [isT] using ht
  have hw : IntKind.i64.wrap (t - z.grace) = t - z.grace := wI (by omega) (by omega)
  unfold overB
  rw [hw, decide_eq_true_iff]
structure InvA (zs : List Zon) (done : List Par) (T : Int) (l : List Ses) : Prop where
  src : ∀ s ∈ l, ∃ e ∈ done, errP zs e = 0 ∧ e.kind = 1 ∧ s.id = keyF e ∧ s.zone = e.zone ∧ s.plate = e.plate ∧ s.fr = e.time
  bef : ∀ s ∈ l, s.fr ≤ T ∧ (s.state ≠ 1 → s.til ≤ T)
  pair : ∀ (i k : Nat) (a b : Ses), l[i]? = some a → l[k]? = some b → i < k → a.zone = b.zone → a.plate = b.plate →
    a.til ≤ b.fr ∧ (a.state = 1 → ∀ z, findZ zs a.zone = some z → z.err = 0 → a.til + z.grace ≤ b.fr)
  ids : ∀ (i k : Nat) (a b : Ses), l[i]? = some a → l[k]? = some b → a.id = b.id → i = k
theorem set_get {α : Type} {l : List α} {i j : Nat} {x a : α} (h : (l.set i x)[j]? = some a) : (j = i ∧ a = x) ∨ (j ≠ i ∧ l[j]? = some a) := by
  rw [List.getElem?_set] at h
  split at h
  · rename_i e
    split at h
    · exact .inl ⟨e.symm, (Option.some.inj h).symm⟩
    cases h
  rename_i e
  exact .inr ⟨fun x => e x.symm, h⟩
theorem InvA.mono {zs : List Zon} {done : List Par} {T T' : Int} {l : List Ses} {p : Par} (h : InvA zs done T l) (hT : T ≤ T') : InvA zs (done ++ [p]) T' l :=
  ⟨fun s hs => by obtain ⟨e, he, r⟩ := h.src s hs; exact ⟨e, by simp [he], r⟩, fun s hs => by have := h.bef s hs; exact ⟨by omega, fun x => by have := this.2 x; omega⟩, h.pair, h.ids⟩
theorem InvA.set {zs : List Zon} {done : List Par} {T : Int} {l : List Ses} (h : InvA zs done T l) {i : Nat} {s s' : Ses} (hi : l[i]? = some s) (e1 : s'.id = s.id) (e2 : s'.zone = s.zone) (e3 : s'.plate = s.plate) (e4 : s'.fr = s.fr)
    (ht : s'.state ≠ 1 → s'.til ≤ T)
    (hp : ∀ (k : Nat) (b : Ses), i < k → l[k]? = some b → s.zone = b.zone → s.plate = b.plate → s'.til ≤ b.fr ∧ (s'.state = 1 → ∀ z, findZ zs s.zone = some z → z.err = 0 → s'.til + z.grace ≤ b.fr)) : InvA zs done T (l.set i s') := by
  have hs := List.mem_of_getElem? hi
  have hm : ∀ x ∈ l.set i s', x = s' ∨ x ∈ l := fun x hx => by
    rcases List.mem_or_eq_of_mem_set hx with h | h
    · exact .inr h
    exact .inl h
  constructor
  · intro x hx
    rcases hm x hx with rfl | hx
    · rw [e1, e2, e3, e4]; exact h.src s hs
    exact h.src x hx
  · intro x hx
    rcases hm x hx with rfl | hx
    · exact ⟨by rw [e4]; exact (h.bef s hs).1, ht⟩
    exact h.bef x hx
  · intro j k a b ha hb hjk hz hpl
    rcases set_get ha with ⟨rfl, rfl⟩ | ⟨nj, ha2⟩
    · rcases set_get hb with ⟨rfl, rfl⟩ | ⟨nk, hb2⟩
      · omega
      rw [e2] at hz ⊢
      rw [e3] at hpl
      exact hp k b hjk hb2 hz hpl
    rcases set_get hb with ⟨rfl, rfl⟩ | ⟨nk, hb2⟩
    · rw [e4]
      exact h.pair j k a s ha2 hi hjk (by rw [hz, e2]) (by rw [hpl, e3])
    exact h.pair j k a b ha2 hb2 hjk hz hpl
  intro j k a b ha hb hid
  rcases set_get ha with ⟨rfl, rfl⟩ | ⟨nj, ha2⟩
  · rcases set_get hb with ⟨rfl, rfl⟩ | ⟨nk, hb2⟩
    · rfl
    exact h.ids j k s b hi hb2 (by rw [← e1, hid])
  rcases set_get hb with ⟨rfl, rfl⟩ | ⟨nk, hb2⟩
  · exact h.ids j k a s ha2 hi (by rw [hid, e1])
  exact h.ids j k a b ha2 hb2 hid
theorem cur_of {p : Par} {z : Zon} {now : Bool} {s : Ses} (h : curB p z now s = true) : s.zone = p.zone ∧ s.plate = p.plate ∧ s.state = 1 ∧ (now = true → s.fr ≤ p.time ∧ overB z s p.time = false) := by
  unfold curB at h
  rw [Bool.and_eq_true] at h
  obtain ⟨a, b, c⟩ := of_decide_eq_true h.1
  refine ⟨a, b, c, ?_⟩
  rintro rfl
  simpa using h.2
theorem InvA.step {zs : List Zon} {done : List Par} {T : Int} {l l' : List Ses} {p : Par} {c : Int} (h : InvA zs done T l) (hd : ∀ e ∈ done, e ≠ p) (hT : T ≤ p.time) (he : Eff zs l p l' c) : InvA zs (done ++ [p]) p.time l' := by
  have hm := h.mono (p := p) hT
  cases he with
  | err e h => exact hm
  | same hk hv => exact hm
  | start z hv hz hk hn =>
    obtain ⟨d1, d2, z', hz', hze, _, ht, _⟩ := err_dots hv
    rw [hz] at hz'
    cases hz'
    have hg := err_stay hze
    have hget : ∀ {j : Nat} {a : Ses}, (l ++ [newS p])[j]? = some a → l[j]? = some a ∨ (j = l.length ∧ a = newS p) := by
      intro j a ha
      rw [List.getElem?_append] at ha
      split at ha
      · exact .inl ha
      right
      have hj : j - l.length = 0 := by
        rcases Nat.eq_zero_or_pos (j - l.length) with h | h
        · exact h
        rw [List.getElem?_eq_none (by simp; omega)] at ha; cases ha
      rw [hj] at ha
      exact ⟨by omega, (Option.some.inj ha).symm⟩
    have hlt : ∀ {j : Nat} {a : Ses}, l[j]? = some a → j < l.length := fun ha => (List.getElem?_eq_some_iff.1 ha).1
    have hidn : ∀ a ∈ l, a.id ≠ keyF p := by
      intro a ha hx
      obtain ⟨e, he, _, _, h4, _⟩ := h.src a ha
      exact hd e he (key_inj d1 d2 (by rw [← h4, hx]))
    constructor
    · intro s hs
      rcases List.mem_append.1 hs with hs | hs
      · exact hm.src s hs
      rw [List.mem_singleton.1 hs]
      exact ⟨p, by simp, hv, hk, rfl, rfl, rfl, rfl⟩
    · intro s hs
      rcases List.mem_append.1 hs with hs | hs
      · exact hm.bef s hs
      rw [List.mem_singleton.1 hs]
      exact ⟨Int.le_refl _, fun h => absurd rfl h⟩
    · intro i k a b ha hb hik hzz hpp
      rcases hget ha with ha | ⟨rfl, rfl⟩
      · rcases hget hb with hb | ⟨rfl, rfl⟩
        · exact h.pair i k a b ha hb hik hzz hpp
        have hmem := List.mem_of_getElem? ha
        have hb := h.bef a hmem
        have hca := hn a hmem
        show a.til ≤ p.time ∧ (a.state = 1 → ∀ z, findZ zs a.zone = some z → z.err = 0 → a.til + z.grace ≤ p.time)
        by_cases hs1 : a.state = 1
        · have hov : overB z a p.time = true := by
            unfold curB at hca
            rw [decide_eq_true (⟨hzz, hpp, hs1⟩ : a.zone = p.zone ∧ a.plate = p.plate ∧ a.state = 1), decide_eq_true (by omega : a.fr ≤ p.time)] at hca
            simpa using hca
          have hov := (over_iff hze ht).1 hov
          refine ⟨by omega, fun _ z2 hz2 _ => ?_⟩
          rw [show a.zone = p.zone from hzz, hz] at hz2
          cases hz2
          omega
        exact ⟨by have := hb.2 hs1; omega, fun h => absurd h hs1⟩
      rcases hget hb with hb | ⟨rfl, rfl⟩
      · have := hlt hb; omega
      omega
    · intro i k a b ha hb hid
      rcases hget ha with ha | ⟨rfl, rfl⟩
      · rcases hget hb with hb | ⟨rfl, rfl⟩
        · exact h.ids i k a b ha hb hid
        exact absurd hid (hidn a (List.mem_of_getElem? ha))
      · rcases hget hb with hb | ⟨rfl, rfl⟩
        · exact absurd hid.symm (hidn b (List.mem_of_getElem? hb))
        · rfl
  | ext z i s hv hz hk hi hc =>
    obtain ⟨_, _, z', hz', hze, _, ht, _⟩ := err_dots hv
    rw [hz] at hz'
    cases hz'
    obtain ⟨c1, c2, c3, c4⟩ := cur_of hc
    obtain ⟨c5, c6⟩ := c4 rfl
    refine hm.set hi rfl rfl rfl rfl (fun h => absurd c3 h) fun k b hik hb hzz hpp => ?_
    have h1 := (h.pair i k s b hi hb hik hzz hpp).2 c3 z (by rw [c1]; exact hz) hze
    have h2 := (h.bef b (List.mem_of_getElem? hb)).1
    have h3 := (over_iff (s := s) hze ht).2 (by omega)
    rw [c6] at h3
    cases h3
  | stop z i s hv hz hk hi hc =>
    refine hm.set hi rfl rfl rfl rfl (fun _ => ?_) fun k b hik hb hzz hpp => ?_
    · show min s.til p.time ≤ p.time
      omega
    · have h1 := (h.pair i k s b hi hb hik hzz hpp).1
      refine ⟨?_, fun h => absurd (show (2 : Int) = 1 from h) (by decide)⟩
      show min s.til p.time ≤ b.fr
      omega
  | see z i s hv hz hk hi hc =>
    obtain ⟨_, _, z', hz', hze, _, ht, _⟩ := err_dots hv
    rw [hz] at hz'
    cases hz'
    obtain ⟨c1, c2, c3, _⟩ := cur_of hc
    have hg := err_stay hze
    unfold seeS
    split
    · rename_i ho
      have ho := (over_iff hze ht).1 ho
      refine hm.set hi rfl rfl rfl rfl (fun _ => ?_) fun k b hik hb hzz hpp => ?_
      · show s.til ≤ p.time
        omega
      have h1 := (h.pair i k s b hi hb hik hzz hpp).1
      exact ⟨h1, fun h => absurd (show (3 : Int) = 1 from h) (by decide)⟩
    split
    · exact hm.set hi rfl rfl rfl rfl (fun h => absurd c3 h) fun k b hik hb hzz hpp => h.pair i k s b hi hb hik hzz hpp
    exact hm.set hi rfl rfl rfl rfl (fun h => absurd c3 h) fun k b hik hb hzz hpp => h.pair i k s b hi hb hik hzz hpp
end Go.Ab
namespace Go.Ab
def begB (zs : List Zon) (p : Par) : Bool := decide (p.kind = 1 ∧ errP zs p = 0)
def sumC (V : List Par) (L : List (List UInt8)) : Nat := (V.map fun p => L.count (keyF p)).sum
structure InvB (zs : List Zon) (done : List Par) (L X : List (List UInt8)) : Prop where
  ls : ∀ k ∈ L, ∃ q ∈ done, k = keyF q
  xs : ∀ k ∈ X, ∃ q ∈ done, k = keyF q
  one : ∀ p ∈ done, begB zs p = true → X.count (keyF p) + L.count (keyF p) = 1
  sum : sumC (done.filter (begB zs)) L = L.length
theorem begB_dots {zs : List Zon} {p : Par} (h : begB zs p = true) : noDot p.zone ∧ noDot p.plate := by
  have h := of_decide_eq_true h
  obtain ⟨a, b, _⟩ := err_dots h.2
  exact ⟨a, b⟩
theorem fresh {done : List Par} {L : List (List UInt8)} {p : Par} (hL : ∀ k ∈ L, ∃ q ∈ done, k = keyF q) (hd : ∀ e ∈ done, e ≠ p) (hz : noDot p.zone) (hp : noDot p.plate) : L.count (keyF p) = 0 := by
  rw [List.count_eq_zero]
  intro hm
  obtain ⟨q, hq, e⟩ := hL _ hm
  exact hd q hq (key_inj hz hp e.symm)
theorem count_other {p q : Par} {L : List (List UInt8)} (hne : p ≠ q) (hz : noDot q.zone) (hp : noDot q.plate) : (L ++ [keyF p]).count (keyF q) = L.count (keyF q) := by
  rw [List.count_append, List.count_singleton]
  have : (keyF p == keyF q) = false := by
    rw [beq_eq_false_iff_ne]
    exact fun h => hne (key_inj hz hp h)
  rw [this]
  simp
theorem sumC_congr {V : List Par} {L L' : List (List UInt8)} (h : ∀ q ∈ V, L'.count (keyF q) = L.count (keyF q)) : sumC V L' = sumC V L := by
  unfold sumC
  rw [List.map_congr_left h]
theorem sumC_snoc {V : List Par} {L : List (List UInt8)} {p : Par} : sumC (V ++ [p]) L = sumC V L + L.count (keyF p) := by
  simp [sumC]
theorem InvB.step {zs : List Zon} {done : List Par} {L X L' X' : List (List UInt8)} {p : Par} (h : InvB zs done L X) (hd : ∀ e ∈ done, e ≠ p)
    (hs : (L' = L ++ [keyF p] ∧ X' = X ∧ begB zs p = true) ∨ (L' = L ∧ X' = X ++ [keyF p]) ∨ (L' = L ∧ X' = X ∧ begB zs p = false)) : InvB zs (done ++ [p]) L' X' := by
  have hL : ∀ {M : List (List UInt8)}, (∀ k ∈ M, ∃ q ∈ done, k = keyF q) → ∀ k ∈ M, ∃ q ∈ done ++ [p], k = keyF q := fun h k hk => by
    obtain ⟨q, hq, e⟩ := h k hk
    exact ⟨q, by simp [hq], e⟩
  have hL2 : ∀ {M : List (List UInt8)}, (∀ k ∈ M, ∃ q ∈ done, k = keyF q) → ∀ k ∈ M ++ [keyF p], ∃ q ∈ done ++ [p], k = keyF q := fun h k hk => by
    rcases List.mem_append.1 hk with hk | hk
    · exact hL h k hk
    exact ⟨p, by simp, List.mem_singleton.1 hk⟩
  have hf : ∀ {q : Par}, q ∈ done.filter (begB zs) → p ≠ q ∧ noDot q.zone ∧ noDot q.plate := fun hq => by
    obtain ⟨h1, h2⟩ := List.mem_filter.1 hq
    exact ⟨fun e => hd _ h1 e.symm, begB_dots h2⟩
  rcases hs with ⟨rfl, rfl, hp⟩ | ⟨rfl, rfl⟩ | ⟨rfl, rfl, hp⟩
  · obtain ⟨d1, d2⟩ := begB_dots hp
    have f1 := fresh h.ls hd d1 d2
    have f2 := fresh h.xs hd d1 d2
    refine ⟨hL2 h.ls, hL h.xs, fun q hq hst => ?_, ?_⟩
    · rcases List.mem_append.1 hq with hq | hq
      · obtain ⟨a, b, c⟩ := hf (List.mem_filter.2 ⟨hq, hst⟩)
        rw [count_other a b c]
        exact h.one q hq hst
      rw [List.mem_singleton.1 hq, f2, List.count_append, f1]
      simp
    rw [List.filter_append, List.filter_cons_of_pos hp, List.filter_nil, sumC_snoc, sumC_congr (fun q hq => count_other (hf hq).1 (hf hq).2.1 (hf hq).2.2), h.sum, List.count_append, f1]
    simp
  · refine ⟨hL h.ls, hL2 h.xs, fun q hq hst => ?_, ?_⟩
    · rcases List.mem_append.1 hq with hq | hq
      · obtain ⟨a, b, c⟩ := hf (List.mem_filter.2 ⟨hq, hst⟩)
        rw [count_other a b c]
        exact h.one q hq hst
      have e := List.mem_singleton.1 hq
      subst e
      obtain ⟨d1, d2⟩ := begB_dots hst
      rw [fresh h.ls hd d1 d2, List.count_append, fresh h.xs hd d1 d2]
      simp
    rw [List.filter_append]
    cases hp : begB zs p with
    | true =>
      obtain ⟨d1, d2⟩ := begB_dots hp
      rw [List.filter_cons_of_pos hp, List.filter_nil, sumC_snoc, fresh h.ls hd d1 d2, h.sum]
      rfl
    | false =>
      rw [List.filter_cons_of_neg (by simp [hp]), List.filter_nil, List.append_nil]
      exact h.sum
  refine ⟨hL h.ls, hL h.xs, fun q hq hst => ?_, ?_⟩
  · rcases List.mem_append.1 hq with hq | hq
    · exact h.one q hq hst
    rw [List.mem_singleton.1 hq, hp] at hst
    cases hst
  rw [List.filter_append, List.filter_cons_of_neg (by simp [hp]), List.filter_nil, List.append_nil]
  exact h.sum
end Go.Ab
