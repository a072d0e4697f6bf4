/-
  Texts of the layer and of the laws, put together: AbH10, AbU12. No law is stated here.
-/
import Derived.Test.YtckjmdppjealdaaGreatDoorAbVol22
import Derived.Test.YtckjmdppjealdaaGreatDoorAbVol34
import Derived.Test.YtckjmdppjealdaaGreatDoorAbVol30
set_option linter.unusedSimpArgs false
set_option linter.unusedVariables false
set_option maxRecDepth 100000

/-
  Heaps that end in objects of one's own: looked up, written, cut; heaps whose objects speak of no later ones.
-/
namespace Go.Ab
open Go.RowKit

section
variable {h r : Hp} {a b c d e f x : Ob}
theorem ha0 : (h ++ a :: r)[h.length]? = some a := by simp
theorem ha1 : (h ++ a :: b :: r)[h.length + 1]? = some b := by simp
theorem ha2 : (h ++ a :: b :: c :: r)[h.length + 2]? = some c := by simp
theorem ha3 : (h ++ a :: b :: c :: d :: r)[h.length + 3]? = some d := by simp
theorem ha4 : (h ++ a :: b :: c :: d :: e :: r)[h.length + 4]? = some e := by simp
theorem ha5 : (h ++ a :: b :: c :: d :: e :: f :: r)[h.length + 5]? = some f := by simp
theorem hs0 : (h ++ a :: r).set h.length x = h ++ x :: r := by simp
theorem hs1 : (h ++ a :: b :: r).set (h.length + 1) x = h ++ a :: x :: r := by simp [List.set_append_right]
theorem hs2 : (h ++ a :: b :: c :: r).set (h.length + 2) x = h ++ a :: b :: x :: r := by simp [List.set_append_right]
theorem hs3 : (h ++ a :: b :: c :: d :: r).set (h.length + 3) x = h ++ a :: b :: c :: x :: r := by simp [List.set_append_right]
theorem hs4 : (h ++ a :: b :: c :: d :: e :: r).set (h.length + 4) x = h ++ a :: b :: c :: d :: x :: r := by simp [List.set_append_right]
theorem hs5 : (h ++ a :: b :: c :: d :: e :: f :: r).set (h.length + 5) x = h ++ a :: b :: c :: d :: e :: x :: r := by simp [List.set_append_right]
end
theorem happ {h a b : Hp} : h ++ a ++ b = h ++ (a ++ b) := List.append_assoc _ _ _
theorem hlen {h a : Hp} : (h ++ a).length = h.length + a.length := List.length_append
theorem hl0 : ([] : Hp).length = 0 := rfl
theorem hlc {o : Ob} {a : Hp} : (o :: a).length = a.length + 1 := rfl
theorem hca {o : Ob} {a b : Hp} : o :: a ++ b = o :: (a ++ b) := rfl
theorem hna {a : Hp} : ([] : Hp) ++ a = a := rfl
theorem han {a : Hp} : a ++ ([] : Hp) = a := List.append_nil _
theorem hset {h : Hp} {id : Nat} {o : Ob} : (h.set id o).length = h.length := List.length_set
/-- For simp: heaps that end in objects of one's own. -/
theorem HX : type_of% @ha0 ∧ type_of% @ha1 ∧ type_of% @ha2 ∧ type_of% @ha3 ∧ type_of% @ha4 ∧ type_of% @ha5 ∧ type_of% @hs0 ∧ type_of% @hs1 ∧ type_of% @hs2 ∧ type_of% @hs3 ∧ type_of% @hs4 ∧ type_of% @hs5 ∧ type_of% @happ ∧ type_of% @hlen ∧ type_of% @hl0 ∧ type_of% @hlc ∧ type_of% @hca ∧ type_of% @hna ∧ type_of% @han ∧ type_of% @hset :=
  ⟨@ha0, @ha1, @ha2, @ha3, @ha4, @ha5, @hs0, @hs1, @hs2, @hs3, @hs4, @hs5, @happ, @hlen, @hl0, @hlc, @hca, @hna, @han, @hset⟩

theorem C1.low_mono {m n : Nat} (hmn : m ≤ n) {x : C1} (h : x.low m = true) : x.low n = true := by
  cases x <;> simp only [C1.low, decide_eq_true_eq, List.all_eq_true] at h ⊢ <;> first | omega | (intro p hp; have := h p hp; omega) | trivial
theorem Ob.low_mono {m n : Nat} (hmn : m ≤ n) {o : Ob} (h : o.low m = true) : o.low n = true := by
  cases o with
  | box cs =>
    simp only [Ob.low, List.all_eq_true] at h ⊢
    exact fun x hx => C1.low_mono hmn (h x hx)
  | tok k z c =>
    cases c with
    | none => rfl
    | some cs =>
      simp only [Ob.low, List.all_eq_true] at h ⊢
      exact fun x hx => C1.low_mono hmn (h x hx)
  | _ => rfl

/-- No object speaks of one that is not there. -/
def LowH (h : Hp) : Prop := (h.all (Ob.low h.length)) = true
theorem LowH.nil : LowH [] := rfl
theorem LowH.app {h g : Hp} (hh : LowH h) (hg : (g.all (Ob.low (h.length + g.length))) = true) : LowH (h ++ g) := by
  unfold LowH at *
  rw [List.all_append, List.length_append, hg, Bool.and_true, List.all_eq_true]
  exact fun o ho => Ob.low_mono (by omega) (List.all_eq_true.1 hh o ho)
theorem LowH.set {h : Hp} {id : Nat} {o : Ob} (hh : LowH h) (ho : o.low h.length = true) : LowH (h.set id o) := by
  unfold LowH at *
  rw [List.length_set, List.all_eq_true]
  intro x hx
  rcases List.mem_or_eq_of_mem_set hx with h1 | rfl
  · exact List.all_eq_true.1 hh x h1
  · exact ho
/-- The objects behind h are forgotten. -/
theorem Wk.back {n : Nat} {t t' : List (Nat × AV)} {h g : Hp} (hh : LowH h) (hn : n ≤ h.length) (hs : subT t t') (hl : (t'.all fun p => p.2.low h.length) = true) : Wk n ⟨t, h ++ g⟩ ⟨t', h⟩ := Wk.cut hn hs hl hh
theorem Wk.back' {n : Nat} {t t' : List (Nat × AV)} {h h' g : Hp} (hh : LowH h') (e : h = h' ++ g) (hn : n ≤ h'.length) (hs : subT t t') (hl : (t'.all fun p => p.2.low h'.length) = true) : Wk n ⟨t, h⟩ ⟨t', h'⟩ := e ▸ Wk.cut hn hs hl hh

end Go.Ab

/-
  Sessions that can still be written: their cells; what an event makes of them.
-/
namespace Go.Ab
open Go.RowKit Go.Proofs

/-- A session, and the object that holds what was seen of it (if anything). -/
abbrev SesO := Ses × Option Nat
def seenC (s : Ses) : Option Nat → C1
  | none => .d (.sl s.sf (s.seen.map rowI))
  | some i => .own i (s.seen.map rowI)
def scC (x : SesO) : List C1 := [.d (.str x.1.id), .d (.str x.1.zone), .d (.str x.1.plate), .d (.int .i64 x.1.fr), .d (.int .i64 x.1.til), .d (.int .i64 x.1.state), seenC x.1 x.2]
def sc (L : List SesO) : List C1 := L.flatMap scC
theorem sc_nil : sc [] = [] := rfl
theorem sc_cons {x : SesO} {L : List SesO} : sc (x :: L) = scC x ++ sc L := by simp [sc]
theorem sc_append {a b : List SesO} : sc (a ++ b) = sc a ++ sc b := by simp [sc]
theorem scC_len (x : SesO) : (scC x).length = 7 := rfl
theorem sc_len : ∀ {L : List SesO}, (sc L).length = L.length * 7
  | [] => rfl
  | p :: L => by rw [sc_cons, List.length_append, sc_len (L := L), scC_len]; simp; omega
theorem sc_drop : ∀ {k : Nat} {L : List SesO}, (sc L).drop (k * 7) = sc (L.drop k)
  | 0, L => by simp
  | k + 1, [] => by simp [sc_nil]
  | k + 1, p :: L => by
    rw [sc_cons, List.drop_append, List.drop_of_length_le (by rw [scC_len]; omega), List.nil_append, List.drop_succ_cons, ← sc_drop, scC_len]
    congr 1
    omega
theorem sc_take : ∀ {k : Nat} {L : List SesO}, (sc L).take (k * 7) = sc (L.take k)
  | 0, L => by simp [sc_nil]
  | k + 1, [] => by simp [sc_nil]
  | k + 1, p :: L => by
    rw [sc_cons, List.take_append, List.take_of_length_le (by rw [scC_len]; omega), List.take_succ_cons, sc_cons, ← sc_take, scC_len]
    congr 2
    omega
theorem sc_split {L : List SesO} {k : Nat} {x : SesO} (h : L[k]? = some x) : sc L = sc (L.take k) ++ (scC x ++ sc (L.drop (k + 1))) := by
  have hk := lt_of_get h
  rw [List.getElem?_eq_getElem hk] at h
  cases h
  rw [← sc_cons, ← List.drop_eq_getElem_cons hk, ← sc_append, List.take_append_drop]
theorem sc_at {L : List SesO} {k : Nat} {x : SesO} (h : L[k]? = some x) : ((sc L).drop (k * 7)).take 7 = scC x := by
  have hk := lt_of_get h
  rw [List.getElem?_eq_getElem hk] at h
  cases h
  rw [sc_drop, List.drop_eq_getElem_cons hk, sc_cons, List.take_append, scC_len]
  simp [scC]
theorem sc_cell {L : List SesO} {k : Nat} {x : SesO} (h : L[k]? = some x) {j : Nat} (hj : j < 7) : (sc L)[k * 7 + j]? = (scC x)[j]? := by
  have hk := lt_of_get h
  rw [sc_split h, List.getElem?_append_right (by rw [sc_len, List.length_take, Nat.min_eq_left (by omega)]; omega), sc_len, List.length_take, Nat.min_eq_left (by omega), show k * 7 + j - k * 7 = j by omega,
    List.getElem?_append_left (by rw [scC_len]; exact hj)]
theorem sc_put {L : List SesO} {k : Nat} {x x' : SesO} (h : L[k]? = some x) {j : Nat} (hj : j < 7) {v : C1} (hs : (scC x).set j v = scC x') :
    (sc L).take (k * 7 + j) ++ v :: (sc L).drop (k * 7 + j + 1) = sc (L.set k x') := by
  have hk := lt_of_get h
  have hl : (sc (L.take k)).length = k * 7 := by rw [sc_len, List.length_take, Nat.min_eq_left (by omega)]
  have e1 : (sc L).set (k * 7 + j) v = sc (L.set k x') := by
    rw [sc_split h, List.set_append_right _ _ (by omega), hl, show k * 7 + j - k * 7 = j by omega, List.set_append_left _ _ (by rw [scC_len]; exact hj), hs]
    have h2 : (L.set k x')[k]? = some x' := by simp [hk]
    rw [sc_split h2]
    rw [List.take_set_of_le (Nat.le_refl _), List.drop_set_of_lt (by omega)]
  rw [← e1, List.set_eq_take_append_cons_drop, if_pos (by rw [sc_len]; omega)]

/-- The state is sound: the objects of what was seen are the sessions' own, each one's. -/
structure LiveS (h : Hp) (id : Nat) (L : List SesO) : Prop where
  row : h[id]? = some (.tok L.length 7 (some (sc L)))
  non : ∀ (k : Nat) (s : Ses), L[k]? = some (s, none) → s.sf = true ∧ s.seen = []
  own : ∀ (k : Nat) (s : Ses) (i : Nat), L[k]? = some (s, some i) → s.sf = false ∧ h[i]? = some (.tok s.seen.length 1 none)
  one : ∀ (k j : Nat) (s r : Ses) (i : Nat), L[k]? = some (s, some i) → L[j]? = some (r, some i) → k = j

theorem LiveS.nil {h : Hp} {id : Nat} (hid : h[id]? = some (.tok 0 7 (some []))) : LiveS h id [] :=
  ⟨hid, fun k s hk => by simp at hk, fun k s i hk => by simp at hk, fun k j s r i hk => by simp at hk⟩
/-- More objects. -/
theorem LiveS.ext {h g : Hp} {id : Nat} {L : List SesO} (hL : LiveS h id L) : LiveS (h ++ g) id L :=
  ⟨get_ext hL.row, hL.non, fun k s i hk => ⟨(hL.own k s i hk).1, get_ext (hL.own k s i hk).2⟩, hL.one⟩
theorem LiveS.lt {h : Hp} {id : Nat} {L : List SesO} (hL : LiveS h id L) : id < h.length := lt_of_get hL.row
theorem LiveS.ne {h : Hp} {id : Nat} {L : List SesO} (hL : LiveS h id L) {k i : Nat} {s : Ses} (hk : L[k]? = some (s, some i)) : i ≠ id := by
  rintro rfl
  have h1 := (hL.own k s i hk).2
  rw [hL.row] at h1
  simp at h1
/-- Another row of cells at the slice. -/
theorem LiveS.put {h : Hp} {id : Nat} {L : List SesO} (hL : LiveS h id L) {k : Nat} {s s' : Ses} {o : Option Nat} (hk : L[k]? = some (s, o)) (h1 : s'.sf = s.sf) (h2 : s'.seen = s.seen) :
    LiveS (h.set id (.tok L.length 7 (some (sc (L.set k (s', o)))))) id (L.set k (s', o)) := by
  have hlt := lt_of_get hk
  have hg : ∀ (j : Nat) (r : Ses) (q : Option Nat), (L.set k (s', o))[j]? = some (r, q) → ∃ r0, L[j]? = some (r0, q) ∧ r.sf = r0.sf ∧ r.seen = r0.seen := fun j r q hj => by
    rw [List.getElem?_set] at hj
    split at hj
    · rename_i e
      subst e
      cases hj
      exact ⟨s, hk, h1, h2⟩
    · exact ⟨r, hj, rfl, rfl⟩
  refine ⟨by simp [hL.lt], fun j r hj => ?_, fun j r i hj => ?_, fun a b r q i ha hb => ?_⟩
  · obtain ⟨r0, e1, e2, e3⟩ := hg j r _ hj
    rw [e2, e3]
    exact hL.non j r0 e1
  · obtain ⟨r0, e1, e2, e3⟩ := hg j r _ hj
    rw [e2, e3]
    refine ⟨(hL.own j r0 i e1).1, ?_⟩
    rw [List.getElem?_set_ne (Ne.symm (hL.ne e1))]
    exact (hL.own j r0 i e1).2
  · obtain ⟨r0, e1, _⟩ := hg a r _ ha
    obtain ⟨q0, e2, _⟩ := hg b q _ hb
    exact hL.one a b r0 q0 i e1 e2
/-- One more session. -/
theorem LiveS.add {h : Hp} {id : Nat} {L : List SesO} (hL : LiveS h id L) {s : Ses} (h1 : s.sf = true) (h2 : s.seen = []) :
    LiveS (h.set id (.tok (L.length + 1) 7 (some (sc (L ++ [(s, none)]))))) id (L ++ [(s, none)]) := by
  have hg : ∀ (j : Nat) (r : Ses) (i : Nat), (L ++ [(s, none)])[j]? = some (r, some i) → L[j]? = some (r, some i) := fun j r i hj => by
    rw [List.getElem?_append] at hj
    split at hj
    · exact hj
    · rename_i hjl
      cases hq : j - L.length with
      | zero => rw [hq] at hj; simp at hj
      | succ n => rw [hq] at hj; simp at hj
  refine ⟨by simp [hL.lt], fun j r hj => ?_, fun j r i hj => ?_, fun a b r q i ha hb => hL.one a b r q i (hg _ _ _ ha) (hg _ _ _ hb)⟩
  · rw [List.getElem?_append] at hj
    split at hj
    · exact hL.non j r hj
    · cases hq : j - L.length with
      | zero => rw [hq] at hj; simp at hj; subst hj; exact ⟨h1, h2⟩
      | succ n => rw [hq] at hj; simp at hj
  · have := hg j r i hj
    refine ⟨(hL.own j r i this).1, ?_⟩
    rw [List.getElem?_set_ne (Ne.symm (hL.ne this))]
    exact (hL.own j r i this).2
/-- Something is seen for the first time. -/
theorem LiveS.see0 {h : Hp} {id n : Nat} {L : List SesO} (hL : LiveS h id L) {k : Nat} {s s' : Ses} (hk : L[k]? = some (s, none)) (hn : h.length ≤ n) {g : Hp} (hg : ((h.set id (.tok L.length 7 (some (sc (L.set k (s', some n)))))) ++ g)[n]? = some (.tok s'.seen.length 1 none)) (h1 : s'.sf = false) :
    LiveS ((h.set id (.tok L.length 7 (some (sc (L.set k (s', some n)))))) ++ g) id (L.set k (s', some n)) := by
  have hlt := lt_of_get hk
  have hold : ∀ (j i : Nat) (r : Ses), L[j]? = some (r, some i) → i < n := fun j i r hj => by have := lt_of_get (hL.own j r i hj).2; omega
  have hq : ∀ (j : Nat) (r : Ses) (q : Option Nat), (L.set k (s', some n))[j]? = some (r, q) → (j = k ∧ r = s' ∧ q = some n) ∨ (j ≠ k ∧ L[j]? = some (r, q)) := fun j r q hj => by
    rw [List.getElem?_set] at hj
    split at hj
    · rename_i e
      subst e
      cases hj
      exact .inl ⟨rfl, rfl, rfl⟩
    · rename_i e
      exact .inr ⟨fun x => e x.symm, hj⟩
  refine ⟨get_ext (by simp [hL.lt]), fun j r hj => ?_, fun j r i hj => ?_, fun a b r q i ha hb => ?_⟩
  · rcases hq j r _ hj with ⟨_, _, e⟩ | ⟨_, e⟩
    · cases e
    · exact hL.non j r e
  · rcases hq j r _ hj with ⟨_, rfl, e⟩ | ⟨_, e⟩
    · cases e
      exact ⟨h1, hg⟩
    · refine ⟨(hL.own j r i e).1, ?_⟩
      have e2 := (hL.own j r i e).2
      refine get_ext ?_
      rw [List.getElem?_set_ne (Ne.symm (hL.ne e))]
      exact e2
  · rcases hq a r _ ha with ⟨rfl, _, e⟩ | ⟨ha1, e⟩ <;> rcases hq b q _ hb with ⟨rfl, _, f⟩ | ⟨hb1, f⟩
    · rfl
    · cases e
      have := hold _ _ _ f
      omega
    · cases f
      have := hold _ _ _ e
      omega
    · exact hL.one a b r q i e f
/-- Something more is seen. -/
theorem LiveS.see1 {h : Hp} {id i : Nat} {L : List SesO} (hL : LiveS h id L) {k : Nat} {s s' : Ses} (hk : L[k]? = some (s, some i)) (h1 : s'.sf = false) :
    LiveS ((h.set i (.tok s'.seen.length 1 none)).set id (.tok L.length 7 (some (sc (L.set k (s', some i)))))) id (L.set k (s', some i)) := by
  have hlt := lt_of_get hk
  have hil := lt_of_get (hL.own k s i hk).2
  have hq : ∀ (j : Nat) (r : Ses) (q : Option Nat), (L.set k (s', some i))[j]? = some (r, q) → (j = k ∧ r = s' ∧ q = some i) ∨ (j ≠ k ∧ L[j]? = some (r, q)) := fun j r q hj => by
    rw [List.getElem?_set] at hj
    split at hj
    · rename_i e
      subst e
      cases hj
      exact .inl ⟨rfl, rfl, rfl⟩
    · rename_i e
      exact .inr ⟨fun x => e x.symm, hj⟩
  refine ⟨by simp [hL.lt], fun j r hj => ?_, fun j r q hj => ?_, fun a b r q n ha hb => ?_⟩
  · rcases hq j r _ hj with ⟨_, _, e⟩ | ⟨_, e⟩
    · cases e
    · exact hL.non j r e
  · rcases hq j r _ hj with ⟨_, rfl, e⟩ | ⟨hne, e⟩
    · cases e
      refine ⟨h1, ?_⟩
      rw [List.getElem?_set_ne (Ne.symm (hL.ne hk))]
      simp [hil]
    · refine ⟨(hL.own j r q e).1, ?_⟩
      have hqi : q ≠ i := by
        rintro rfl
        exact hne (hL.one j k r s q e hk)
      rw [List.getElem?_set_ne (Ne.symm (hL.ne e)), List.getElem?_set_ne (Ne.symm hqi)]
      exact (hL.own j r q e).2
  · rcases hq a r _ ha with ⟨rfl, _, e⟩ | ⟨ha1, e⟩ <;> rcases hq b q _ hb with ⟨rfl, _, f⟩ | ⟨hb1, f⟩
    · rfl
    · cases e
      exact absurd (hL.one b _ q s _ f hk) hb1
    · cases f
      exact absurd (hL.one a _ r s _ e hk) ha1
    · exact hL.one a b r q n e f

/-- All that is data of it. -/
theorem LiveS.allD {h : Hp} {id : Nat} {L : List SesO} (hL : LiveS h id L) : allD (sc L) = some (L.flatMap fun x => x.1.row) := by
  have gen : ∀ (M : List SesO), (∀ x ∈ M, ∀ i, x.2 = some i → x.1.sf = false) → Go.Ab.allD (sc M) = some (M.flatMap fun x => x.1.row) := by
    intro M
    induction M with
    | nil => intro _; rfl
    | cons x M ih =>
      intro hM
      obtain ⟨⟨a, b, c, d, e, f, g, sn⟩, o⟩ := x
      rw [sc_cons, List.flatMap_cons]
      have hx := hM _ List.mem_cons_self
      have ih := ih (fun y hy => hM y (List.mem_cons_of_mem _ hy))
      cases o with
      | none => simp [scC, seenC, Go.Ab.allD, C1.toD, ih, Ses.row]
      | some i =>
        have := hx i rfl
        dsimp only at this
        subst this
        simp [scC, seenC, Go.Ab.allD, C1.toD, ih, Ses.row]
  refine gen L fun x hx i hi => ?_
  obtain ⟨k, hk⟩ := List.getElem?_of_mem hx
  obtain ⟨s, o⟩ := x
  dsimp only at hi
  subst hi
  exact (hL.own k s i hk).1
theorem chunk_ses : ∀ {L : List SesO}, chunk 7 L.length (L.flatMap fun x => x.1.row) = L.map fun x => x.1.row
  | [] => rfl
  | x :: L => by
    rw [List.length_cons, chunk, List.flatMap_cons, List.map_cons, ← chunk_ses]
    have hp : x.1.row.length = 7 := rfl
    rw [List.take_append, List.take_of_length_le (by omega), List.drop_append, List.drop_of_length_le (by omega), hp]
    simp

end Go.Ab
