/-
  Texts of the layer and of the laws, put together: AbTF1, AbTF2, AbTF3.
-/
import Derived.Test.YtbcklcmhmbfgnaaGreatDoorAbF24
import Derived.Test.YtbcklcmhmbfgnaaGreatDoorAbF34
set_option linter.unusedSimpArgs false
set_option linter.unusedVariables false
set_option maxRecDepth 100000
namespace Go.Ab
structure Ptn where
  name : List UInt8
  out : Int
  inn : Int
  wait : List Fil
  ours : List Rec
  theirs : List Rec
def newP (n : List UInt8) : Ptn := ⟨n, 1, 1, [], [], []⟩
def sendF (p : Ptn) (fr : List UInt8) (l : List Rec) : Option (Ptn × Fil) × Int :=
  if checkF ⟨fr, p.name, p.out, false, l⟩ ≠ 0 then (none, checkF ⟨fr, p.name, p.out, false, l⟩)
  else if 1024 ≤ p.wait.length ∨ 1024 < p.ours.length + l.length then (none, 3)
  else (some ({ p with out := p.out + 1, wait := p.wait ++ [⟨fr, p.name, p.out, false, l⟩], ours := p.ours ++ l }, ⟨fr, p.name, p.out, false, l⟩), 0)
def recvF (p : Ptn) (f : Fil) : Ptn × Int :=
  if checkF f ≠ 0 then (p, checkF f) else if f.fr ≠ p.name then (p, 30) else if p.inn < f.seq then (p, 31) else if f.seq ≠ p.inn then (p, 0)
  else if 1024 < p.theirs.length + f.recs.length then (p, 3) else ({ p with inn := p.inn + 1, theirs := p.theirs ++ f.recs }, 0)
def deliF : Ptn → List Fil → List Bool → Ptn × Int
  | p, [], _ => (p, 0)
  | p, f :: fs, lost => if lost.head? = some true then deliF p fs lost.tail else if (recvF p f).2 = 0 then deliF (recvF p f).1 fs lost.tail else if (recvF p f).2 = 31 then deliF p fs lost.tail else (p, (recvF p f).2)
def ackF (p : Ptn) (s : Int) : Ptn × Int := if s < 0 ∨ p.out ≤ s then (p, 31) else ({ p with wait := p.wait.filter fun f => !decide (f.seq ≤ s) }, 0)
def acknF (p o : Ptn) : Ptn := if (ackF p (o.inn - 1)).2 = 0 then (ackF p (o.inn - 1)).1 else p
def roundF (a b : Ptn) (lost : List Bool) : Ptn × Ptn × Int :=
  if (deliF b a.wait lost).2 ≠ 0 then (a, b, (deliF b a.wait lost).2)
  else if (deliF a b.wait (lost.drop (min lost.length a.wait.length))).2 ≠ 0 then (a, b, (deliF a b.wait (lost.drop (min lost.length a.wait.length))).2)
  else (acknF (deliF a b.wait (lost.drop (min lost.length a.wait.length))).1 (deliF b a.wait lost).1, acknF (deliF b a.wait lost).1 (deliF a b.wait (lost.drop (min lost.length a.wait.length))).1, 0)
def recsOf (S : List Fil) : List Rec := S.flatMap (·.recs)
theorem recsOf_take {S : List Fil} {m : Nat} (h : m < S.length) : recsOf (S.take (m + 1)) = recsOf (S.take m) ++ S[m].recs := by
  rw [recsOf, List.take_succ_eq_append_getElem h, List.flatMap_append]
  simp [recsOf]
theorem recsOf_le {S : List Fil} {m : Nat} : (recsOf (S.take m)).length ≤ (recsOf S).length := by
  have h : recsOf S = recsOf (S.take m) ++ recsOf (S.drop m) := by
    unfold recsOf
    rw [← List.flatMap_append, List.take_append_drop]
  rw [h, List.length_append]
  omega
structure Sent (n : List UInt8) (S : List Fil) : Prop where
  seq : ∀ (j : Nat) (h : j < S.length), S[j].seq = (j : Int) + 1
  ok : ∀ f ∈ S, checkF f = 0 ∧ f.fr = n
  few : (recsOf S).length ≤ 1024
  rf : ∀ f ∈ S, f.rf = false
theorem deli_go {n : List UInt8} {S : List Fil} (hS : Sent n S) : ∀ (k j m : Nat) (p : Ptn) (lost : List Bool), k = S.length - j → m ≤ S.length → p.name = n → p.inn = (m : Int) + 1 → p.theirs = recsOf (S.take m) →
    ∃ m', m ≤ m' ∧ m' ≤ S.length ∧ deliF p (S.drop j) lost = ({ p with inn := (m' : Int) + 1, theirs := recsOf (S.take m') }, 0) ∧ (lost = [] → j ≤ m → m' = S.length)
  | 0, j, m, p, lost, hk, hm, hn, hi, ht => by
    refine ⟨m, Nat.le_refl _, hm, ?_, fun _ hj => by omega⟩
    rw [List.drop_eq_nil_of_le (by omega), deliF, ← hi, ← ht]
  | k + 1, j, m, p, lost, hk, hm, hn, hi, ht => by
    have hj : j < S.length := by omega
    rw [List.drop_eq_getElem_cons hj, deliF]
    obtain ⟨hc, hf⟩ := hS.ok S[j] (List.getElem_mem hj)
    have hq := hS.seq j hj
    by_cases h0 : lost.head? = some true
    · rw [if_pos h0]
      obtain ⟨m', h1, h2, h3, _⟩ := deli_go hS k (j + 1) m p lost.tail (by omega) hm hn hi ht
      exact ⟨m', h1, h2, h3, fun e => by subst e; cases h0⟩
    rw [if_neg h0]
    have ht' : lost = [] → lost.tail = [] := fun e => by subst e; rfl
    rcases Nat.lt_trichotomy j m with h | h | h
    · have hr : recvF p S[j] = (p, 0) := by
        unfold recvF
        rw [if_neg (by simp [hc]), if_neg (by simp [hf, hn]), if_neg (by omega), if_pos (by omega)]
      rw [hr, if_pos rfl]
      obtain ⟨m', h1, h2, h3, h4⟩ := deli_go hS k (j + 1) m p lost.tail (by omega) hm hn hi ht
      exact ⟨m', h1, h2, h3, fun e _ => h4 (ht' e) (by omega)⟩
    · subst h
      have hl : (recsOf (S.take (j + 1))).length ≤ (recsOf S).length := recsOf_le
      rw [recsOf_take hj, List.length_append] at hl
      have hfew := hS.few
      have hr : recvF p S[j] = ({ p with inn := p.inn + 1, theirs := p.theirs ++ S[j].recs }, 0) := by
        unfold recvF
        rw [if_neg (by simp [hc]), if_neg (by simp [hf, hn]), if_neg (by omega), if_neg (by omega), if_neg (by rw [ht]; omega)]
      rw [hr, if_pos rfl]
      obtain ⟨m', h1, h2, h3, h4⟩ := deli_go hS k (j + 1) (j + 1) { p with inn := p.inn + 1, theirs := p.theirs ++ S[j].recs } lost.tail (by omega) (by omega) hn (by show p.inn + 1 = _; omega) (by show p.theirs ++ _ = _; rw [ht, recsOf_take hj])
      exact ⟨m', by omega, h2, h3, fun e _ => h4 (ht' e) (by omega)⟩
    have hr : recvF p S[j] = (p, 31) := by
      unfold recvF
      rw [if_neg (by simp [hc]), if_neg (by simp [hf, hn]), if_pos (by omega)]
    rw [hr, if_neg (by simp), if_pos rfl]
    obtain ⟨m', h1, h2, h3, _⟩ := deli_go hS k (j + 1) m p lost.tail (by omega) hm hn hi ht
    exact ⟨m', h1, h2, h3, fun _ e => by omega⟩
structure Ch (a b : Ptn) (S : List Fil) (m w : Nat) : Prop where
  sent : Sent b.name S
  out : a.out = (S.length : Int) + 1
  inn : b.inn = (m : Int) + 1
  ml : m ≤ S.length
  wl : w ≤ m
  wait : a.wait = S.drop w
  ours : a.ours = recsOf S
  theirs : b.theirs = recsOf (S.take m)
theorem Ch.ack {a b : Ptn} {S : List Fil} {m w : Nat} (h : Ch a b S m w) : acknF a b = { a with wait := S.drop m } := by
  have h1 := h.out
  have h2 := h.inn
  have h3 := h.ml
  have hk : ackF a (b.inn - 1) = ({ a with wait := S.drop m }, 0) := by
    unfold ackF
    rw [if_neg (by omega), h.wait]
    congr 2
    have e : S.drop w = (S.drop w).take (m - w) ++ S.drop m := by
      conv => lhs; rw [← List.take_append_drop (m - w) (S.drop w), List.drop_drop]
      rw [show w + (m - w) = m by have := h.wl; omega]
    rw [e, List.filter_append]
    have e1 : ((S.drop w).take (m - w)).filter (fun f => !decide (f.seq ≤ b.inn - 1)) = [] := by
      rw [List.filter_eq_nil_iff]
      intro f hf
      obtain ⟨i, hi, rfl⟩ := List.mem_iff_getElem.1 hf
      rw [List.length_take, List.length_drop] at hi
      rw [List.getElem_take, List.getElem_drop, h.sent.seq (w + i) (by omega)]
      have := h.wl
      have : ((w + i : Nat) : Int) + 1 ≤ b.inn - 1 := by omega
      simp only [Bool.not_eq_true', decide_eq_false_iff_not, Int.not_le]
      omega
    have e2 : (S.drop m).filter (fun f => !decide (f.seq ≤ b.inn - 1)) = S.drop m := by
      rw [List.filter_eq_self]
      intro f hf
      obtain ⟨i, hi, rfl⟩ := List.mem_iff_getElem.1 hf
      rw [List.length_drop] at hi
      rw [List.getElem_drop, h.sent.seq (m + i) (by omega)]
      simp only [Bool.not_eq_true', decide_eq_false_iff_not, Int.not_le]
      omega
    rw [e1, e2, List.nil_append]
  unfold acknF
  rw [hk, if_pos rfl]
theorem round_ok {a b : Ptn} {S T : List Fil} {m w k v : Nat} (h : Ch a b S m w) (g : Ch b a T k v) (lost : List Bool) :
    ∃ x y m' k', roundF a b lost = (x, y, 0) ∧ Ch x y S m' m' ∧ Ch y x T k' k' ∧ x.name = a.name ∧ y.name = b.name ∧ m ≤ m' ∧ k ≤ k' ∧ (lost = [] → m' = S.length ∧ k' = T.length) := by
  obtain ⟨m', h1, h2, h3, h4⟩ := deli_go h.sent _ w m b lost rfl h.ml rfl h.inn h.theirs
  obtain ⟨k', g1, g2, g3, g4⟩ := deli_go g.sent _ v k a (lost.drop (min lost.length a.wait.length)) rfl g.ml rfl g.inn g.theirs
  rw [← h.wait] at h3
  rw [← g.wait] at g3
  have hC : Ch { a with inn := (k' : Int) + 1, theirs := recsOf (T.take k') } { b with inn := (m' : Int) + 1, theirs := recsOf (S.take m') } S m' w := ⟨h.sent, h.out, rfl, h2, Nat.le_trans h.wl h1, h.wait, h.ours, rfl⟩
  have gC : Ch { b with inn := (m' : Int) + 1, theirs := recsOf (S.take m') } { a with inn := (k' : Int) + 1, theirs := recsOf (T.take k') } T k' v := ⟨g.sent, g.out, rfl, g2, Nat.le_trans g.wl g1, g.wait, g.ours, rfl⟩
  refine ⟨{ a with inn := (k' : Int) + 1, theirs := recsOf (T.take k'), wait := S.drop m' }, { b with inn := (m' : Int) + 1, theirs := recsOf (S.take m'), wait := T.drop k' }, m', k', ?_, ?_, ?_, rfl, rfl, h1, g1, fun e => ⟨h4 e h.wl, g4 (by subst e; rfl) g.wl⟩⟩
  · unfold roundF
    rw [h3, g3, if_neg (by simp), if_neg (by simp), hC.ack, gC.ack]
  · exact ⟨h.sent, h.out, rfl, h2, Nat.le_refl _, rfl, h.ours, rfl⟩
  exact ⟨g.sent, g.out, rfl, g2, Nat.le_refl _, rfl, g.ours, rfl⟩
theorem send_ok {a b x : Ptn} {f : Fil} {S T : List Fil} {m w k v : Nat} {l : List Rec} (h : Ch a b S m w) (g : Ch b a T k v) (hs : sendF a b.name l = (some (x, f), 0)) :
    f = ⟨b.name, a.name, a.out, false, l⟩ ∧ checkF f = 0 ∧ Ch x b (S ++ [f]) m w ∧ Ch b x T k v ∧ x.name = a.name ∧ x.ours = a.ours ++ l ∧ x.wait = a.wait ++ [f] := by
  unfold sendF at hs
  split at hs
  · cases hs
  rename_i hc
  split at hs
  · cases hs
  rename_i hl
  simp only [Prod.mk.injEq, Option.some.injEq, and_true] at hs
  obtain ⟨rfl, rfl⟩ := hs
  have hc : checkF ⟨b.name, a.name, a.out, false, l⟩ = 0 := by simpa using hc
  have ho := h.ours
  have hlen : recsOf (S ++ [⟨b.name, a.name, a.out, false, l⟩]) = recsOf S ++ l := by simp [recsOf]
  have hml := h.ml
  have hwl := h.wl
  refine ⟨rfl, hc, ⟨⟨fun j hj => ?_, fun f hf => ?_, ?_, fun f hf => ?_⟩, ?_, h.inn, ?_, h.wl, ?_, ?_, ?_⟩, ⟨g.sent, g.out, g.inn, g.ml, g.wl, g.wait, g.ours, g.theirs⟩, rfl, rfl, rfl⟩
  · rw [List.getElem_append]
    split
    · rename_i h1
      exact h.sent.seq j h1
    rename_i h1
    rw [List.length_append, List.length_singleton] at hj
    have : j = S.length := by omega
    subst this
    simp only [Nat.sub_self, List.getElem_cons_zero]
    exact h.out
  · rcases List.mem_append.1 hf with hf | hf
    · exact h.sent.ok f hf
    rw [List.mem_singleton.1 hf]
    exact ⟨hc, rfl⟩
  · rw [hlen, List.length_append]
    rw [ho] at hl
    omega
  · rcases List.mem_append.1 hf with hf | hf
    · exact h.sent.rf f hf
    rw [List.mem_singleton.1 hf]
  · show a.out + 1 = _
    rw [h.out, List.length_append, List.length_singleton]
    omega
  · rw [List.length_append]; omega
  · show a.wait ++ _ = _
    rw [h.wait, List.drop_append_of_le_length (by omega)]
  · show a.ours ++ l = _
    rw [hlen, ho]
  rw [List.take_append_of_le_length hml]
  exact h.theirs
theorem all_in {a b : Ptn} {S T : List Fil} {m w k v : Nat} (h : Ch a b S m w) (g : Ch b a T k v) :
    ∃ x y, roundF a b [] = (x, y, 0) ∧ x.name = a.name ∧ y.name = b.name ∧ x.ours = y.theirs ∧ y.ours = x.theirs ∧ x.ours = a.ours ∧ y.ours = b.ours ∧ x.wait = [] ∧ y.wait = [] ∧ roundF x y [] = (x, y, 0) := by
  obtain ⟨x, y, m', k', h1, h2, h3, h4, h5, _, _, h6⟩ := round_ok h g []
  obtain ⟨rfl, rfl⟩ := h6 rfl
  have e1 : x.wait = [] := by rw [h2.wait, List.drop_length]
  have e2 : y.wait = [] := by rw [h3.wait, List.drop_length]
  refine ⟨x, y, h1, h4, h5, ?_, ?_, ?_, ?_, e1, e2, ?_⟩
  · rw [h2.ours, h2.theirs, List.take_length]
  · rw [h3.ours, h3.theirs, List.take_length]
  · rw [h2.ours, h.ours]
  · rw [h3.ours, g.ours]
  unfold roundF
  rw [e1, e2]
  simp only [deliF, ne_eq, not_true_eq_false, if_false]
  rw [h2.ack, h3.ack, List.drop_length, List.drop_length, ← e1]
  congr 2
  rw [e1, ← e2]
theorem ch_new (n k : List UInt8) : Ch (newP n) (newP k) [] 0 0 := ⟨⟨fun j h => (by cases h), fun f h => (by cases h), by decide, fun f h => (by cases h)⟩, rfl, rfl, Nat.le_refl _, Nat.le_refl _, rfl, rfl, rfl⟩
end Go.Ab
namespace Go.Ab
def setF (c : List Rec → Int) (p : Ptn) : Int × Int := if afit (c p.ours) = true ∧ afit (c p.theirs) = true ∧ afit (c p.ours - c p.theirs) = true then (c p.ours - c p.theirs, 0) else (0, 13)
theorem afit_neg {n : Int} : afit (-n) = afit n := by
  rw [Bool.eq_iff_iff, afit_iff, afit_iff]
  omega
theorem set_opp {c : List Rec → Int} {x y : Ptn} (h1 : x.ours = y.theirs) (h2 : y.ours = x.theirs) : (setF c x).2 = (setF c y).2 ∧ (setF c x).1 = -(setF c y).1 := by
  unfold setF
  rw [h1, h2]
  generalize c y.theirs = u
  generalize c x.theirs = v
  have e : afit (u - v) = afit (v - u) := by rw [← afit_neg]; congr 1; omega
  by_cases h : afit u = true ∧ afit v = true ∧ afit (u - v) = true
  · rw [if_pos h, if_pos ⟨h.2.1, h.1, e ▸ h.2.2⟩]
    exact ⟨rfl, by dsimp only; omega⟩
  rw [if_neg h, if_neg (fun g => h ⟨g.2.1, g.1, by rw [e]; exact g.2.2⟩)]
  exact ⟨rfl, rfl⟩
def okRec (x : Rec) : Prop := -1099511627776 ≤ x.cents ∧ x.cents ≤ 1099511627776 ∧ x.key.length ≤ 20
structure TI (a b : Ptn) (i : Nat) : Prop where
  ch : ∃ S T m w k v, Ch a b S m w ∧ Ch b a T k v
  la : a.ours.length ≤ 5 * i
  lb : b.ours.length ≤ 5 * i
  wa : a.wait.length ≤ i
  wb : b.wait.length ≤ i
  ra : ∀ x ∈ a.ours, okRec x
  rb : ∀ x ∈ b.ours, okRec x
  oa : a.out ≤ (i : Int) + 1
  ob : b.out ≤ (i : Int) + 1
theorem TI.symm {a b : Ptn} {i : Nat} (h : TI a b i) : TI b a i := by
  obtain ⟨S, T, m, w, k, v, h1, h2⟩ := h.ch
  exact ⟨⟨T, S, k, v, m, w, h2, h1⟩, h.lb, h.la, h.wb, h.wa, h.rb, h.ra, h.ob, h.oa⟩
theorem TI.more {a b : Ptn} {i j : Nat} (h : TI a b i) (hij : i ≤ j) : TI a b j :=
  ⟨h.ch, by have := h.la; omega, by have := h.lb; omega, by have := h.wa; omega, by have := h.wb; omega, h.ra, h.rb, by have := h.oa; omega, by have := h.ob; omega⟩
theorem TI.send {a b x : Ptn} {f : Fil} {l : List Rec} {i : Nat} (h : TI a b i) (hl : l.length ≤ 5) (hr : ∀ y ∈ l, okRec y) (hs : sendF a b.name l = (some (x, f), 0)) :
    TI x b (i + 1) ∧ x.name = a.name ∧ f = ⟨b.name, a.name, a.out, false, l⟩ ∧ checkF f = 0 := by
  obtain ⟨S, T, m, w, k, v, h1, h2⟩ := h.ch
  obtain ⟨e1, e2, g1, g2, e3, e4, e5⟩ := send_ok h1 h2 hs
  have := h.la
  have := h.lb
  have := h.wa
  have := h.wb
  have := h.oa
  have := h.ob
  have o1 := h1.out
  have o2 := g1.out
  rw [List.length_append, List.length_singleton] at o2
  refine ⟨⟨⟨_, _, _, _, _, _, g1, g2⟩, ?_, by omega, ?_, by omega, fun y hy => ?_, h.rb, by omega, by omega⟩, e3, e1, e2⟩
  · rw [e4, List.length_append]; omega
  · rw [e5, List.length_append, List.length_singleton]; omega
  rw [e4] at hy
  rcases List.mem_append.1 hy with hy | hy
  · exact h.ra y hy
  exact hr y hy
theorem Ch.wait_le {a b : Ptn} {S : List Fil} {m w m' : Nat} {x y : Ptn} (h : Ch a b S m w) (g : Ch x y S m' m') (hm : m ≤ m') : x.wait.length ≤ a.wait.length := by
  rw [h.wait, g.wait, List.length_drop, List.length_drop]
  have := h.wl
  omega
theorem TI.round {a b : Ptn} {i : Nat} (h : TI a b i) (lost : List Bool) : ∃ x y, roundF a b lost = (x, y, 0) ∧ TI x y i ∧ x.name = a.name ∧ y.name = b.name := by
  obtain ⟨S, T, m, w, k, v, h1, h2⟩ := h.ch
  obtain ⟨x, y, m', k', e, g1, g2, n1, n2, hm, hk, _⟩ := round_ok h1 h2 lost
  refine ⟨x, y, e, ⟨⟨S, T, m', m', k', k', g1, g2⟩, ?_, ?_, ?_, ?_, ?_, ?_, by rw [g1.out, ← h1.out]; exact h.oa, by rw [g2.out, ← h2.out]; exact h.ob⟩, n1, n2⟩
  · rw [g1.ours, ← h1.ours]; exact h.la
  · rw [g2.ours, ← h2.ours]; exact h.lb
  · exact Nat.le_trans (h1.wait_le g1 hm) h.wa
  · exact Nat.le_trans (h2.wait_le g2 hk) h.wb
  · rw [g1.ours, ← h1.ours]; exact h.ra
  rw [g2.ours, ← h2.ours]; exact h.rb
theorem ti_new (n k : List UInt8) : TI (newP n) (newP k) 0 := ⟨⟨[], [], 0, 0, 0, 0, ch_new n k, ch_new k n⟩, Nat.le_refl 0, Nat.le_refl 0, Nat.le_refl 0, Nat.le_refl 0, fun x h => (by cases h), fun x h => (by cases h), by show (1 : Int) ≤ _; omega, by show (1 : Int) ≤ _; omega⟩
theorem TI.theirs {a b : Ptn} {i : Nat} (h : TI a b i) : b.theirs.length ≤ 5 * i ∧ ∀ x ∈ b.theirs, okRec x := by
  obtain ⟨S, T, m, w, k, v, h1, h2⟩ := h.ch
  have e : ∀ x, x ∈ b.theirs → x ∈ a.ours := fun x hx => by
    rw [h1.theirs] at hx
    rw [h1.ours]
    obtain ⟨f, hf, hx⟩ := List.mem_flatMap.1 hx
    exact List.mem_flatMap.2 ⟨f, List.mem_of_mem_take hf, hx⟩
  refine ⟨?_, fun x hx => h.ra x (e x hx)⟩
  have := h.la
  rw [h1.ours] at this
  rw [h1.theirs]
  exact Nat.le_trans recsOf_le this
end Go.Ab
namespace Go.Ab
open Go.RowKit Go.Proofs
theorem recText_len {r : Rec} (hr : rightF r = 0) : (recText r).length ≤ 400 := by
  obtain ⟨k1, k2, k3, k4, t1, t2, kr, kc⟩ := right_ok hr
  obtain ⟨w1, w2, w3, w4⟩ := word_back k1 k2
  have hlast : (lastF r).length ≤ 30 := by
    unfold lastF
    split
    · rename_i h3
      obtain ⟨_, a, b⟩ := kr h3
      exact itoa_le (inI_iff.2 (by omega))
    rename_i h3
    have := show_le24 (kc h3).1
    omega
  have hti := itoa_le (n := r.time) (inI_iff.2 (by omega))
  rw [recText, int4_len]
  omega
theorem flat_le {B : Nat} : ∀ {L : List (List UInt8)}, (∀ s ∈ L, s.length ≤ B) → (flatL L).length ≤ L.length * (B + 1)
  | [], _ => Nat.zero_le _
  | s :: L, h => by
    have h1 := h s List.mem_cons_self
    have h2 := flat_le fun x hx => h x (List.mem_cons_of_mem _ hx)
    rw [show flatL (s :: L) = s ++ 10 :: flatL L by simp [flatL]]
    simp only [List.length_append, List.length_cons]
    rw [Nat.succ_mul]
    omega
theorem text_few {f : Fil} (h : checkF f = 0) (hl : f.recs.length ≤ 5) : (textF f).length ≤ 65536 := by
  obtain ⟨c1, c2, c3, c4, c5⟩ := check_ok h
  obtain ⟨n1, n2, _, n3, n4⟩ := head_ok c1
  have l1 := name_len n1
  have l2 := name_len n2
  have l3 := itoa_le (n := f.seq) (inI_iff.2 (by omega))
  have l4 := itoa_le (n := (f.recs.length : Int)) (inI_iff.2 (by omega))
  have l5 := show_le24 c5
  have hb : ∀ s ∈ linesOf f, s.length ≤ 400 := fun s hs => by
    unfold linesOf at hs
    rcases List.mem_cons.1 hs with rfl | hs
    · rw [headText, int4_len]
      simp only [List.length_cons, List.length_nil]
      omega
    rcases List.mem_append.1 hs with hs | hs
    · obtain ⟨r, hr, rfl⟩ := List.mem_map.1 hs
      exact recText_len (c3 r hr)
    rw [List.mem_singleton.1 hs, endText, int3_len]
    simp only [List.length_cons, List.length_nil]
    omega
  have h1 := flat_le hb
  have h2 : (linesOf f).length ≤ 7 := by simp [linesOf]; omega
  rw [text_lines]
  have h3 : (linesOf f).length * (400 + 1) ≤ 7 * 401 := Nat.mul_le_mul_right _ h2
  omega
theorem print_few {f : Fil} (h : checkF f = 0) (hl : f.recs.length ≤ 5) : printF f = (textF f, 0) ∧ parseO (textF f) = (⟨f.fr, f.dst, f.seq, decide (f.recs = []), f.recs⟩, 0, 0) := by
  have ht := text_few h hl
  refine ⟨?_, parse_back h ht⟩
  unfold printF
  rw [if_neg (by simp [h]), if_neg (by omega)]
end Go.Ab
