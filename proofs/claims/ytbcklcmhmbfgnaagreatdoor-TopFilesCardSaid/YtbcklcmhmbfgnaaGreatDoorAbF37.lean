/-
  Texts of the layer and of the laws, put together: AbO1, AbV13, AbA36.
-/
import Derived.Test.YtbcklcmhmbfgnaaGreatDoorAbF27
set_option linter.unusedSimpArgs false
set_option linter.unusedVariables false
set_option maxRecDepth 100000
namespace Go.Ab
open Go.RowKit Go.Proofs
def befB : List UInt8 → List UInt8 → Bool
  | [], [] => false
  | [], _ :: _ => true
  | _ :: _, [] => false
  | a :: l, b :: k => if a = b then befB l k else decide (a.toNat < b.toNat)
def ordS (a b : List UInt8) : Int := if a = b then 0 else if befB a b = true then -1 else 1
structure Cmp {α : Type} (c : α → α → Int) : Prop where
  anti : ∀ a b, c a b < 0 ↔ 0 < c b a
  lt : ∀ a b d, c a b < 0 → c b d < 0 → c a d < 0
  el : ∀ a b d, c a b = 0 → c b d < 0 → c a d < 0
  le : ∀ a b d, c a b < 0 → c b d = 0 → c a d < 0
  ee : ∀ a b d, c a b = 0 → c b d = 0 → c a d = 0
theorem Cmp.sym {α : Type} {c : α → α → Int} (h : Cmp c) {a b : α} (e : c a b = 0) : c b a = 0 := by
  have h1 := h.anti a b
  have h2 := h.anti b a
  omega
theorem Cmp.of_eq {α : Type} {c : α → α → Int} (h0 : ∀ a b, c a b = 0 ↔ a = b) (h1 : ∀ a b, c a b < 0 ↔ 0 < c b a) (h2 : ∀ a b d, c a b < 0 → c b d < 0 → c a d < 0) : Cmp c :=
  ⟨h1, h2, fun a b d e h => by rw [(h0 a b).1 e]; exact h, fun a b d h e => by rw [← (h0 b d).1 e]; exact h, fun a b d e f => by rw [(h0 a b).1 e]; exact f⟩
theorem Cmp.key {α β : Type} {c : β → β → Int} (h : Cmp c) (f : α → β) : Cmp (fun a b => c (f a) (f b)) :=
  ⟨fun _ _ => h.anti _ _, fun _ _ _ => h.lt _ _ _, fun _ _ _ => h.el _ _ _, fun _ _ _ => h.le _ _ _, fun _ _ _ => h.ee _ _ _⟩
theorem befB_irr : ∀ a, befB a a = false
  | [] => rfl
  | a :: l => by rw [befB, if_pos rfl, befB_irr l]
theorem befB_tot : ∀ a b, a ≠ b → befB a b = !befB b a
  | [], [], h => absurd rfl h
  | [], _ :: _, _ => rfl
  | _ :: _, [], _ => rfl
  | a :: l, b :: k, h => by
    by_cases e : a = b
    · subst e
      rw [befB, befB, if_pos rfl, if_pos rfl, befB_tot l k (fun he => h (by rw [he]))]
    rw [befB, befB, if_neg e, if_neg (fun x => e x.symm), Bool.eq_iff_iff]
    have : a.toNat ≠ b.toNat := fun x => e (UInt8.toNat_inj.1 x)
    simp only [decide_eq_true_eq, Bool.not_eq_true', decide_eq_false_iff_not]
    omega
theorem befB_trans : ∀ a b c, befB a b = true → befB b c = true → befB a c = true
  | [], [], _, h, _ => absurd h (by simp [befB])
  | [], _ :: _, [], _, h => absurd h (by simp [befB])
  | [], _ :: _, _ :: _, _, _ => rfl
  | _ :: _, [], _, h, _ => absurd h (by simp [befB])
  | _ :: _, _ :: _, [], _, h => absurd h (by simp [befB])
  | a :: l, b :: k, c :: m, h1, h2 => by
    rw [befB] at h1 h2 ⊢
    by_cases e1 : a = b
    · subst e1
      rw [if_pos rfl] at h1
      by_cases e2 : a = c
      · rw [if_pos e2] at h2 ⊢
        exact befB_trans l k m h1 h2
      rw [if_neg e2] at h2 ⊢
      exact h2
    rw [if_neg e1] at h1
    by_cases e2 : b = c
    · subst e2
      rw [if_neg e1]
      exact h1
    rw [if_neg e2] at h2
    have h1 := of_decide_eq_true h1
    have h2 := of_decide_eq_true h2
    rw [if_neg (by rintro rfl; omega)]
    exact decide_eq_true (by omega)
theorem ordS_zero {a b : List UInt8} : ordS a b = 0 ↔ a = b := by
  unfold ordS
  split
  · simp_all
  split <;> simp_all
theorem cmp_ordS : Cmp ordS := by
  refine Cmp.of_eq (fun _ _ => ordS_zero) ?_ ?_
  · intro a b
    by_cases e : a = b
    · subst e
      simp [ordS]
    have h := befB_tot a b e
    have e' : ¬ b = a := fun x => e x.symm
    simp only [ordS, e, e', if_false, h]
    cases befB b a <;> simp
  intro a b d h1 h2
  have lt : ∀ {x y : List UInt8}, ordS x y < 0 → x ≠ y ∧ befB x y = true := by
    intro x y h
    unfold ordS at h
    split at h
    · omega
    split at h
    · rename_i h3 h4; exact ⟨h3, h4⟩
    omega
  obtain ⟨n1, b1⟩ := lt h1
  obtain ⟨n2, b2⟩ := lt h2
  have b3 := befB_trans a b d b1 b2
  have n3 : a ≠ d := by
    rintro rfl
    rw [befB_irr] at b3
    cases b3
  unfold ordS
  rw [if_neg n3, if_pos b3]
  decide
end Go.Ab
namespace Go.Ab
def timF (key : List UInt8) : Int → List Rec → Int
  | t, [] => t
  | t, x :: r => timF key (if x.key = key then x.time else t) r
def recK (l : List Rec) (k : List UInt8) : Rec := ⟨1, k, timF k 0 l, amtF k 0 l, 0⟩
def putK (x : Rec) : List Rec → List Rec
  | [] => [⟨1, x.key, x.time, afterF 0 x, 0⟩]
  | y :: r => if y.key = x.key then ⟨y.kind, y.key, x.time, afterF y.cents x, y.why⟩ :: r else y :: putK x r
def netU (l : List Rec) : List Rec := l.foldl (fun out x => putK x out) []
theorem amtF_snoc (k : List UInt8) (x : Rec) : ∀ (l : List Rec) (n : Int), amtF k n (l ++ [x]) = if x.key = k then afterF (amtF k n l) x else amtF k n l
  | [], n => by
    simp only [List.nil_append, amtF]
  | y :: l, n => by
    rw [List.cons_append, amtF, amtF_snoc k x l, amtF]
theorem timF_snoc (k : List UInt8) (x : Rec) : ∀ (l : List Rec) (n : Int), timF k n (l ++ [x]) = if x.key = k then x.time else timF k n l
  | [], n => by
    simp only [List.nil_append, timF]
  | y :: l, n => by
    rw [List.cons_append, timF, timF_snoc k x l, timF]
theorem amtF_out {k : List UInt8} : ∀ {l : List Rec} {n : Int}, k ∉ l.map Rec.key → amtF k n l = n
  | [], _, _ => rfl
  | x :: l, n, h => by
    simp only [List.map_cons, List.mem_cons, not_or] at h
    rw [amtF, if_neg (fun e => h.1 e.symm), amtF_out h.2]
structure NetOk (l out : List Rec) : Prop where
  one : (out.map Rec.key).Nodup
  keys : ∀ k, k ∈ out.map Rec.key ↔ k ∈ l.map Rec.key
  each : ∀ y ∈ out, y = recK l y.key
theorem putK_keys {x : Rec} : ∀ {out : List Rec}, (putK x out).map Rec.key = if x.key ∈ out.map Rec.key then out.map Rec.key else out.map Rec.key ++ [x.key]
  | [] => by simp [putK]
  | y :: r => by
    rw [putK]
    by_cases h : y.key = x.key
    · rw [if_pos h]
      simp [h]
    rw [if_neg h, List.map_cons, putK_keys]
    have h' : ¬ x.key = y.key := fun e => h e.symm
    simp only [List.map_cons, List.mem_cons, h', false_or]
    split <;> simp
theorem putK_mem {x : Rec} : ∀ {out : List Rec} {y : Rec}, (out.map Rec.key).Nodup → y ∈ putK x out → (y.key ≠ x.key ∧ y ∈ out) ∨ (y.key = x.key ∧ ((x.key ∉ out.map Rec.key ∧ y = ⟨1, x.key, x.time, afterF 0 x, 0⟩) ∨ ∃ z ∈ out, z.key = x.key ∧ y = ⟨z.kind, z.key, x.time, afterF z.cents x, z.why⟩))
  | [], y, _, h => by
    simp only [putK, List.mem_singleton] at h
    subst h
    exact .inr ⟨rfl, .inl ⟨by simp, rfl⟩⟩
  | z :: r, y, hn, h => by
    rw [List.map_cons, List.nodup_cons] at hn
    rw [putK] at h
    by_cases hz : z.key = x.key
    · rw [if_pos hz] at h
      rcases List.mem_cons.1 h with rfl | h
      · exact .inr ⟨hz, .inr ⟨z, List.mem_cons_self, hz, rfl⟩⟩
      refine .inl ⟨fun e => hn.1 ?_, List.mem_cons_of_mem _ h⟩
      rw [hz, ← e]
      exact List.mem_map_of_mem h
    rw [if_neg hz] at h
    rcases List.mem_cons.1 h with rfl | h
    · exact .inl ⟨hz, List.mem_cons_self⟩
    rcases putK_mem hn.2 h with ⟨a, b⟩ | ⟨a, ⟨b, c⟩ | ⟨w, b, c⟩⟩
    · exact .inl ⟨a, List.mem_cons_of_mem _ b⟩
    · refine .inr ⟨a, .inl ⟨?_, c⟩⟩
      rw [List.map_cons, List.mem_cons, not_or]
      exact ⟨fun e => hz e.symm, b⟩
    exact .inr ⟨a, .inr ⟨w, List.mem_cons_of_mem _ b, c⟩⟩
theorem NetOk.put {l out : List Rec} {x : Rec} (h : NetOk l out) : NetOk (l ++ [x]) (putK x out) := by
  constructor
  · rw [putK_keys]
    split
    · exact h.one
    rename_i hx
    exact List.nodup_append.2 ⟨h.one, List.nodup_cons.2 ⟨by simp, List.nodup_nil⟩, fun a ha b hb => by
      rw [List.mem_singleton] at hb
      subst hb
      rintro rfl
      exact hx ha⟩
  · intro k
    rw [putK_keys, List.map_append, List.mem_append, List.map_cons, List.map_nil, List.mem_singleton]
    split
    · rename_i hx
      rw [h.keys]
      exact ⟨.inl, fun hk => by
        rcases hk with hk | rfl
        · exact hk
        · exact (h.keys _).1 hx⟩
    rw [List.mem_append, List.mem_singleton, h.keys]
  intro y hy
  rcases putK_mem h.one hy with ⟨a, b⟩ | ⟨a, ⟨b, rfl⟩ | ⟨z, b, c, rfl⟩⟩
  · have e := h.each y b
    rw [recK, timF_snoc, amtF_snoc, if_neg (fun e => a e.symm), if_neg (fun e => a e.symm)]
    exact e
  · have hk : x.key ∉ l.map Rec.key := fun e => b ((h.keys _).2 e)
    rw [recK, timF_snoc, amtF_snoc, if_pos rfl, if_pos rfl, amtF_out hk]
  have e := h.each z b
  rw [recK, timF_snoc, amtF_snoc]
  dsimp only
  rw [if_pos c.symm, if_pos c.symm]
  obtain ⟨zk, zkey, zt, zc, zw⟩ := z
  simp only [recK, Rec.mk.injEq] at e
  obtain ⟨e1, _, _, e4, e5⟩ := e
  dsimp only at e4 ⊢
  rw [e1, e5, ← e4]
theorem net_go : ∀ (r l out : List Rec), NetOk l out → NetOk (l ++ r) (r.foldl (fun out x => putK x out) out)
  | [], l, out, h => by simpa using h
  | x :: r, l, out, h => by
    have := net_go r (l ++ [x]) (putK x out) h.put
    rw [List.append_assoc, List.singleton_append] at this
    exact this
theorem netU_ok (l : List Rec) : NetOk l (netU l) := by
  have := net_go l [] [] ⟨List.nodup_nil, fun k => by simp, fun y hy => by simp at hy⟩
  rw [List.nil_append] at this
  exact this
abbrev StrK (l : List Rec) : Prop := l.Pairwise (fun a b => ordS a.key b.key < 0)
theorem ordS_irr (a : List UInt8) : ¬ ordS a a < 0 := by rw [ordS_zero.2 rfl]; decide
theorem strK_ext : ∀ {l k : List Rec}, StrK l → StrK k → (∀ x, x ∈ l ↔ x ∈ k) → l = k
  | [], [], _, _, _ => rfl
  | [], y :: k, _, _, h => absurd ((h y).2 (by simp)) (by simp)
  | x :: l, [], _, _, h => absurd ((h x).1 (by simp)) (by simp)
  | x :: l, y :: k, h1, h2, h => by
    obtain ⟨a1, a2⟩ := List.pairwise_cons.1 h1
    obtain ⟨b1, b2⟩ := List.pairwise_cons.1 h2
    have hxy : x = y := by
      rcases List.mem_cons.1 ((h x).1 (by simp)) with e | e
      · exact e
      rcases List.mem_cons.1 ((h y).2 (by simp)) with f | f
      · exact f.symm
      exact absurd (cmp_ordS.lt _ _ _ (a1 y f) (b1 x e)) (ordS_irr _)
    subst hxy
    rw [strK_ext a2 b2 fun z => ?_]
    have hz := h z
    simp only [List.mem_cons] at hz
    constructor
    · intro hl
      rcases hz.1 (.inr hl) with rfl | hk
      · exact absurd (a1 z hl) (ordS_irr _)
      exact hk
    intro hk
    rcases hz.2 (.inr hk) with rfl | hl
    · exact absurd (b1 z hk) (ordS_irr _)
    exact hl
def insK (s : List UInt8) : List (List UInt8) → List (List UInt8)
  | [] => [s]
  | x :: r => if befB s x = true then s :: x :: r else x :: insK s r
def keysR (l : List Rec) : List (List UInt8) := l.foldl (fun out x => if x.key ∈ out then out else insK x.key out) []
def netR (l : List Rec) : List Rec := (keysR l).map (recK l)
abbrev StrS (l : List (List UInt8)) : Prop := l.Pairwise (fun a b => ordS a b < 0)
theorem mem_insK {s x : List UInt8} : ∀ {l : List (List UInt8)}, x ∈ insK s l ↔ x = s ∨ x ∈ l
  | [] => by simp [insK]
  | y :: l => by
    rw [insK]
    split
    · simp
    rw [List.mem_cons, mem_insK, List.mem_cons]
    constructor
    · rintro (h | h | h)
      · exact .inr (.inl h)
      · exact .inl h
      exact .inr (.inr h)
    rintro (h | h | h)
    · exact .inr (.inl h)
    · exact .inl h
    exact .inr (.inr h)
theorem insK_str {s : List UInt8} : ∀ {l : List (List UInt8)}, StrS l → s ∉ l → StrS (insK s l)
  | [], _, _ => List.pairwise_singleton _ _
  | y :: l, h, hs => by
    obtain ⟨h1, h2⟩ := List.pairwise_cons.1 h
    rw [List.mem_cons, not_or] at hs
    rw [insK]
    split
    · rename_i hb
      have hlt : ordS s y < 0 := by
        unfold ordS
        rw [if_neg hs.1, if_pos hb]
        decide
      refine List.pairwise_cons.2 ⟨fun x hx => ?_, h⟩
      rcases List.mem_cons.1 hx with rfl | hx
      · exact hlt
      exact cmp_ordS.lt _ _ _ hlt (h1 x hx)
    rename_i hb
    have hgt : 0 < ordS s y := by
      unfold ordS
      rw [if_neg hs.1, if_neg hb]
      decide
    refine List.pairwise_cons.2 ⟨fun x hx => ?_, insK_str h2 hs.2⟩
    rcases mem_insK.1 hx with rfl | hx
    · exact (cmp_ordS.anti _ _).2 hgt
    exact h1 x hx
theorem keys_go : ∀ (r l : List Rec) (out : List (List UInt8)), StrS out → (∀ k, k ∈ out ↔ k ∈ l.map Rec.key) →
    StrS (r.foldl (fun out x => if x.key ∈ out then out else insK x.key out) out) ∧ ∀ k, k ∈ r.foldl (fun out x => if x.key ∈ out then out else insK x.key out) out ↔ k ∈ (l ++ r).map Rec.key
  | [], l, out, h1, h2 => ⟨h1, by simpa using h2⟩
  | x :: r, l, out, h1, h2 => by
    rw [List.foldl_cons]
    have e : l ++ x :: r = (l ++ [x]) ++ r := by simp
    rw [e]
    by_cases hx : x.key ∈ out
    · rw [if_pos hx]
      refine keys_go r (l ++ [x]) out h1 fun k => ?_
      rw [h2, List.map_append, List.mem_append, List.map_cons, List.map_nil, List.mem_singleton]
      exact ⟨.inl, fun h => by
        rcases h with h | rfl
        · exact h
        · exact (h2 _).1 hx⟩
    rw [if_neg hx]
    refine keys_go r (l ++ [x]) _ (insK_str h1 hx) fun k => ?_
    rw [mem_insK, h2, List.map_append, List.mem_append, List.map_cons, List.map_nil, List.mem_singleton]
    exact ⟨fun h => h.symm, fun h => h.symm⟩
theorem keysR_str (l : List Rec) : StrS (keysR l) := (keys_go l [] [] List.Pairwise.nil (by simp)).1
theorem mem_keysR {l : List Rec} {k : List UInt8} : k ∈ keysR l ↔ k ∈ l.map Rec.key := by
  have := (keys_go l [] [] List.Pairwise.nil (by simp)).2 k
  rw [List.nil_append] at this
  exact this
theorem netR_str (l : List Rec) : StrK (netR l) := by
  unfold netR StrK
  rw [List.pairwise_map]
  exact keysR_str l
theorem net_same {l S : List Rec} (hm : ∀ x, x ∈ S ↔ x ∈ netU l) (hn : (S.map Rec.key).Nodup) (hs : S.Pairwise (fun a b => ordS a.key b.key ≤ 0)) : S = netR l := by
  have ho := netU_ok l
  refine strK_ext ?_ (netR_str l) fun x => ?_
  · have hp : S.Pairwise (fun a b => a.key ≠ b.key) := by rw [List.Nodup, List.pairwise_map] at hn; exact hn
    exact (hs.and hp).imp fun ⟨a, b⟩ => by
      rcases Int.lt_or_eq_of_le a with h | h
      · exact h
      exact absurd (ordS_zero.1 h) b
  rw [hm]
  unfold netR
  rw [List.mem_map]
  constructor
  · intro hx
    exact ⟨x.key, mem_keysR.2 ((ho.keys _).1 (List.mem_map_of_mem hx)), (ho.each x hx).symm⟩
  rintro ⟨k, hk, rfl⟩
  have := (ho.keys k).2 (mem_keysR.1 hk)
  obtain ⟨y, hy, rfl⟩ := List.mem_map.1 this
  rw [← ho.each y hy]
  exact hy
end Go.Ab
namespace Go.Ab
open Go.RowKit Go.Proofs
def encRs (p : Bool × List Rec) : List PA := [.c (.sl p.1 (p.2.map Rec.row))]
theorem encRs_inj (a b : Bool × List Rec) (h : encRs a = encRs b) : a = b := by
  obtain ⟨a1, a2⟩ := a
  obtain ⟨b1, b2⟩ := b
  simpa [encRs, mapR_inj] using h
noncomputable section
open Classical
end
end Go.Ab
