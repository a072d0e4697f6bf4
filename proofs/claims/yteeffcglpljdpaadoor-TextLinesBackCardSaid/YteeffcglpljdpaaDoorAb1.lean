/-
  A pure abstract machine over the code of a program: data as trees, a small heap of own objects, no world and no draws.
  This text: the data, what it means that a value of a world reads as a datum, and how such readings are carried from world to world.
-/
import Derived.WalkKit
set_option linter.unusedSimpArgs false
set_option linter.unusedVariables false
namespace Go.Ab
open Go.RowKit

/-- Data of one cell. 'sl full es': a slice whose elements are the rows of cells es; 'full': its capacity is its length. -/
inductive D where
  | any
  | bool (b : Bool)
  | int (k : IntKind) (n : Int)
  | str (s : List UInt8)
  | sl (full : Bool) (es : List (List D))

/-- Which cells will not change any more. -/
abbrev Fz := Nat → Nat → Prop

/-- Value v of world w reads as the datum, all of its memory in frozen cells. -/
inductive Rd (w : World) (F : Fz) : Value → D → Prop where
  | any (v : Value) (h : v.oneCell' = true) : Rd w F v .any
  | bool (b : Bool) : Rd w F (.bool b) (.bool b)
  | int (k : IntKind) (n : Int) : Rd w F (.int k n) (.int k n)
  | str (s : ByteArray) : Rd w F (.string s) (.str s.data.toList)
  | nil (base : Option Addr) (full : Bool) : Rd w F (.slice base 0 0) (.sl full [])
  | sl (b o len cap size : Nat) (full : Bool) (es : List (List D)) (vals : Nat → Nat → Value)
      (hlen : es.length = len) (hcap : len ≤ cap) (hfull : full = true → cap = len)
      (hsize : ∀ e ∈ es, e.length = size)
      (hF : ∀ i j, i < len → j < size → F b (o + i * size + j))
      (hc : ∀ i j, i < len → j < size → w.cell? ⟨b, o + i * size + j, none⟩ = some (vals i j))
      (h1 : ∀ i j, i < len → j < size → (vals i j).oneCell' = true)
      (hr : ∀ (i j : Nat) (e : List D) (y : D), es[i]? = some e → e[j]? = some y → Rd w F (vals i j) y) :
      Rd w F (.slice (some ⟨b, o, none⟩) len cap) (.sl full es)

theorem Rd.one {w : World} {F : Fz} {v : Value} {d : D} (h : Rd w F v d) : v.oneCell' = true := by
  cases h <;> first | rfl | assumption

/-- Readings are carried to a later world, as long as the frozen cells are as they were. -/
theorem Rd.mono {w w' : World} {F F' : Fz} {v : Value} {d : D} (h : Rd w F v d) (hF : ∀ b o, F b o → F' b o)
    (hw : ∀ b o, F b o → w'.cell? ⟨b, o, none⟩ = w.cell? ⟨b, o, none⟩) : Rd w' F' v d := by
  induction h with
  | any v h => exact .any v h
  | bool b => exact .bool b
  | int k n => exact .int k n
  | str s => exact .str s
  | nil b f => exact .nil b f
  | sl b o len cap size full es vals hlen hcap hfull hsize hf hc h1 hr ih =>
    exact .sl b o len cap size full es vals hlen hcap hfull hsize (fun i j hi hj => hF _ _ (hf i j hi hj))
      (fun i j hi hj => by rw [hw _ _ (hf i j hi hj)]; exact hc i j hi hj) h1 ih

/-- Abstract cells. -/
inductive C1 where
  | top
  | d (x : D)
  | ptr (id off : Nat)
  | dptr (xs : List D)
  | nilp
  | own (id : Nat) (es : List (List D))
  | msl (id n : Nat)
  | bptr (id n off : Nat)
  | fn (f : FuncId) (caps : List (Nat × Nat))
  | ifc (t : TypeId) (xs : List D) (agg : Bool)
  | nili
  | it (id : Nat)
  | mp (id : Nat)
  | nilm

/-- Abstract values: one cell, or an aggregate of cells. -/
inductive V where
  | c (x : C1)
  | agg (xs : List C1)

/-- What a slot holds: a value, or several. -/
inductive AV where
  | v (x : V)
  | tup (xs : List V)

/-- A value in data: one cell, or an aggregate of cells. -/
inductive DV where
  | c (x : D)
  | agg (xs : List D)

/-- Own objects. 'box': a variable. 'tok n z c': a slice that is appended to: n elements of z cells each have been laid; they are frozen, or (c) they are these cells. -/
inductive Ob where
  | dead
  | box (cs : List C1)
  | tok (n z : Nat) (c : Option (List D))
  | siter (s : List UInt8) (pos : Nat)
  | map (es : List (Nat × DV × DV)) (clock : Nat)

structure Env where
  ρ : Nat → Option Nat
  F : Fz
  w : World

abbrev Hp := List Ob

def Ob.kind : Ob → Nat
  | .dead => 0
  | .box _ => 1
  | .tok _ _ _ => 2
  | .siter _ _ => 3
  | .map _ _ => 4

/-- Object id is of kind k, and lies in block b. -/
def At (E : Env) (h : Hp) (k id b : Nat) : Prop := (∃ o, h[id]? = some o ∧ o.kind = k) ∧ E.ρ id = some b

/-- A pointer to frozen cells that read as xs. -/
def DPtr (w : World) (F : Fz) (v : Value) (xs : List D) : Prop :=
  ∃ b o, v = .pointer (some ⟨b, o, none⟩) ∧ ∀ (j : Nat) (x : D), xs[j]? = some x → F b (o + j) ∧ ∃ u, w.cell? ⟨b, o + j, none⟩ = some u ∧ Rd w F u x

/-- The row of an own slice, as its value shows it. -/
def OwnRow (E : Env) (id n z : Nat) (v : Value) : Prop :=
  match E.ρ id with
  | none => (∃ base, v = .slice base 0 0) ∧ n = 0
  | some b => ∃ cap vs T, v = .slice (some ⟨b, 0, none⟩) n cap ∧ n ≤ cap ∧ cap ≤ maxLen ∧ E.w.heap[b]? = some (.cells vs T (0, 0)) ∧ vs.size = cap * z

def C1.rel (E : Env) (h : Hp) : Value → C1 → Prop
  | _, .top => True
  | v, .d x => Rd E.w E.F v x
  | v, .ptr id off => ∃ b, At E h 1 id b ∧ v = .pointer (some ⟨b, off, none⟩)
  | v, .dptr xs => DPtr E.w E.F v xs
  | v, .nilp => v = .pointer none
  | v, .own id es => Rd E.w E.F v (.sl false es) ∧ ∃ n z c, h[id]? = some (.tok n z c) ∧ es.length ≤ n ∧ (∀ e ∈ es, e.length = z) ∧ (es.length = n → OwnRow E id n z v)
  | v, .msl id n => v.oneCell' = true ∧ ∃ m z c, h[id]? = some (.tok m z c) ∧ n ≤ m ∧ (n = m → OwnRow E id m z v)
  | v, .bptr id n off => ∃ b, v = .pointer (some ⟨b, off, none⟩) ∧ ∃ m z c, h[id]? = some (.tok m z c) ∧ n ≤ m ∧ (n = m → E.ρ id = some b)
  | v, .fn f caps => ∃ vs : List Value, v = .func (.func f) #[] vs.toArray ∧ vs.length = caps.length ∧
      ∀ (j : Nat) (p : Nat × Nat), caps[j]? = some p → ∃ b, At E h 1 p.1 b ∧ vs[j]? = some (.pointer (some ⟨b, p.2, none⟩))
  | v, .ifc t xs agg => ∃ u, v = .iface t u ∧
      (if agg then ∃ vs : List Value, u = .agg vs.toArray ∧ vs.length = xs.length ∧ ∀ (j : Nat) (x : D), xs[j]? = some x → ∃ y, vs[j]? = some y ∧ Rd E.w E.F y x
       else ∃ x, xs = [x] ∧ Rd E.w E.F u x)
  | v, .nili => v = .nilIface
  | v, .it id => ∃ b, At E h 3 id b ∧ v = .pointer (some ⟨b, 0, none⟩)
  | v, .mp id => ∃ b, At E h 4 id b ∧ v = .map (some b)
  | v, .nilm => v = .map none

theorem C1.rel_one {E : Env} {h : Hp} {v : Value} {x : C1} (hr : x.rel E h v) (hx : x ≠ .top) : v.oneCell' = true := by
  cases x <;> simp only [C1.rel] at hr
  case top => exact absurd rfl hx
  case d x => exact hr.one
  case ptr => obtain ⟨b, _, rfl⟩ := hr; rfl
  case dptr => obtain ⟨b, o, rfl, _⟩ := hr; rfl
  case nilp => subst hr; rfl
  case own => exact hr.1.one
  case msl => exact hr.1
  case bptr => obtain ⟨b, rfl, _⟩ := hr; rfl
  case fn => obtain ⟨vs, rfl, _⟩ := hr; rfl
  case ifc => obtain ⟨u, rfl, _⟩ := hr; rfl
  case nili => subst hr; rfl
  case it => obtain ⟨b, _, rfl⟩ := hr; rfl
  case mp => obtain ⟨b, _, rfl⟩ := hr; rfl
  case nilm => subst hr; rfl

/-- Cells one by one: each a value of one cell. -/
def CellsRel (E : Env) (h : Hp) (vs : List Value) (xs : List C1) : Prop :=
  vs.length = xs.length ∧ ∀ (j : Nat) (x : C1), xs[j]? = some x → ∃ u, vs[j]? = some u ∧ x.rel E h u ∧ u.oneCell' = true

def V.rel (E : Env) (h : Hp) (v : Value) : V → Prop
  | .c x => x.rel E h v
  | .agg xs => ∃ vs : List Value, v = .agg vs.toArray ∧ CellsRel E h vs xs

def AV.rel (E : Env) (h : Hp) (v : Value) : AV → Prop
  | .v x => x.rel E h v
  | .tup xs => ∃ vs : List Value, v = .tuple vs.toArray ∧ vs.length = xs.length ∧ ∀ (j : Nat) (x : V), xs[j]? = some x → ∃ u, vs[j]? = some u ∧ x.rel E h u

/-- An environment goes on, for the objects below n. -/
structure Evo (n : Nat) (E : Env) (h : Hp) (E' : Env) (h' : Hp) : Prop where
  frz : ∀ b o, E.F b o → E'.F b o
  same : ∀ b o, E.F b o → E'.w.cell? ⟨b, o, none⟩ = E.w.cell? ⟨b, o, none⟩
  keep : ∀ id, id < n → ∀ o, h[id]? = some o → o.kind ≠ 2 → (∃ o', h'[id]? = some o' ∧ o'.kind = o.kind) ∧ E'.ρ id = E.ρ id
  tok : ∀ id, id < n → ∀ m z c, h[id]? = some (.tok m z c) → ∃ m' c', h'[id]? = some (.tok m' z c') ∧ m ≤ m' ∧
    (m' = m → E'.ρ id = E.ρ id ∧ ∀ b vs T, E.ρ id = some b → E.w.heap[b]? = some (.cells vs T (0, 0)) → ∃ vs' T', E'.w.heap[b]? = some (.cells vs' T' (0, 0)) ∧ vs'.size = vs.size)
  len : n ≤ h'.length

theorem Evo.refl {n : Nat} {E : Env} {h : Hp} (hn : n ≤ h.length) : Evo n E h E h :=
  ⟨fun _ _ h => h, fun _ _ _ => rfl, fun _ _ o h _ => ⟨⟨o, h, rfl⟩, rfl⟩, fun _ _ m _ c h => ⟨m, c, h, Nat.le_refl _, fun _ => ⟨rfl, fun _ vs T _ hb => ⟨vs, T, hb, rfl⟩⟩⟩, hn⟩

theorem Evo.trans {n m : Nat} {E E1 E2 : Env} {h h1 h2 : Hp} (a : Evo n E h E1 h1) (b : Evo m E1 h1 E2 h2) (hnm : n ≤ m) : Evo n E h E2 h2 where
  frz x o hx := b.frz x o (a.frz x o hx)
  same x o hx := (b.same x o (a.frz x o hx)).trans (a.same x o hx)
  keep id hid o ho hk := by
    obtain ⟨⟨o1, h1', k1⟩, e1⟩ := a.keep id hid o ho hk
    obtain ⟨⟨o2, h2', k2⟩, e2⟩ := b.keep id (by omega) o1 h1' (by rw [k1]; exact hk)
    exact ⟨⟨o2, h2', k2.trans k1⟩, e2.trans e1⟩
  tok id hid k z c hk := by
    obtain ⟨k1, c1, h1', l1, f1⟩ := a.tok id hid k z c hk
    obtain ⟨k2, c2, h2', l2, f2⟩ := b.tok id (by omega) k1 z c1 h1'
    refine ⟨k2, c2, h2', by omega, fun e => ?_⟩
    obtain ⟨r1, g1⟩ := f1 (by omega)
    obtain ⟨r2, g2⟩ := f2 (by omega)
    refine ⟨r2.trans r1, fun b' vs T hb hv => ?_⟩
    obtain ⟨vs1, T1, hv1, s1⟩ := g1 b' vs T hb hv
    obtain ⟨vs2, T2, hv2, s2⟩ := g2 b' vs1 T1 (r1.trans hb) hv1
    exact ⟨vs2, T2, hv2, s2.trans s1⟩
  len := Nat.le_trans hnm b.len

theorem Rd.evo {n : Nat} {E E' : Env} {h h' : Hp} (ev : Evo n E h E' h') {v : Value} {x : D} (hr : Rd E.w E.F v x) : Rd E'.w E'.F v x :=
  hr.mono ev.frz ev.same

theorem DPtr.evo {n : Nat} {E E' : Env} {h h' : Hp} (ev : Evo n E h E' h') {v : Value} {xs : List D} (hr : DPtr E.w E.F v xs) : DPtr E'.w E'.F v xs := by
  obtain ⟨b, o, rfl, hx⟩ := hr
  refine ⟨b, o, rfl, fun j x hj => ?_⟩
  obtain ⟨hf, u, hu, hr⟩ := hx j x hj
  exact ⟨ev.frz _ _ hf, u, by rw [ev.same _ _ hf]; exact hu, hr.evo ev⟩

theorem At.evo {n : Nat} {E E' : Env} {h h' : Hp} (ev : Evo n E h E' h') (hn : h.length ≤ n) {k id b : Nat} (hk : k ≠ 2) (ha : At E h k id b) : At E' h' k id b := by
  obtain ⟨⟨o, ho, hok⟩, hb⟩ := ha
  obtain ⟨⟨o', ho', hk'⟩, e⟩ := ev.keep id (Nat.lt_of_lt_of_le (List.getElem?_eq_some_iff.1 ho).1 hn) o ho (by rw [hok]; exact hk)
  exact ⟨⟨o', ho', hk'.trans hok⟩, e.trans hb⟩

theorem lt_of_get {α : Type} {l : List α} {i : Nat} {x : α} (h : l[i]? = some x) : i < l.length := (List.getElem?_eq_some_iff.1 h).1

theorem OwnRow.evo {n : Nat} {E E' : Env} {h h' : Hp} (ev : Evo n E h E' h') {id k z k' : Nat} {c c' : Option (List D)} {v : Value} (hid : id < n) (hk : h[id]? = some (.tok k z c)) (hk' : h'[id]? = some (.tok k' z c')) (he : k' = k) (ho : OwnRow E id k z v) : OwnRow E' id k z v := by
  obtain ⟨k2, c2, h2, _, hsame⟩ := ev.tok id hid k z c hk
  rw [hk'] at h2
  cases h2
  obtain ⟨h1, h2⟩ := hsame he
  unfold OwnRow at ho ⊢
  rw [h1]
  cases hρ : E.ρ id with
  | none => simpa [hρ] using ho
  | some b =>
    simp only [hρ] at ho
    obtain ⟨cap, vs, T, hv, c1, c2, hb, hs⟩ := ho
    obtain ⟨vs', T', hb', hs'⟩ := h2 b vs T hρ hb
    exact ⟨cap, vs', T', hv, c1, c2, hb', hs'.trans hs⟩

/-- All objects: readings are carried on. -/
theorem C1.rel.evo {n : Nat} {E E' : Env} {h h' : Hp} (ev : Evo n E h E' h') (hn : h.length ≤ n) {v : Value} {x : C1} (hr : x.rel E h v) : x.rel E' h' v := by
  cases x <;> simp only [C1.rel] at hr ⊢
  case d x => exact hr.evo ev
  case ptr id off =>
    obtain ⟨b, hb, hv⟩ := hr
    exact ⟨b, hb.evo ev hn (by decide), hv⟩
  case dptr xs => exact hr.evo ev
  case nilp => exact hr
  case own id es =>
    obtain ⟨h0, k, z, c, hk, hle, hz, ho⟩ := hr
    have hid := Nat.lt_of_lt_of_le (lt_of_get hk) hn
    obtain ⟨k', c', hk', hkk, _⟩ := ev.tok id hid k z c hk
    exact ⟨h0.evo ev, k', z, c', hk', by omega, hz, fun e => by
      have he : k' = k := by omega
      have := OwnRow.evo ev hid hk hk' he (ho (by omega))
      rw [he]; exact this⟩
  case msl id n' =>
    obtain ⟨h0, k, z, c, hk, hle, ho⟩ := hr
    have hid := Nat.lt_of_lt_of_le (lt_of_get hk) hn
    obtain ⟨k', c', hk', hkk, _⟩ := ev.tok id hid k z c hk
    exact ⟨h0, k', z, c', hk', by omega, fun e => by
      have he : k' = k := by omega
      have := OwnRow.evo ev hid hk hk' he (ho (by omega))
      rw [he]; exact this⟩
  case bptr id n' off =>
    obtain ⟨b, h0, k, z, c, hk, hle, ho⟩ := hr
    have hid := Nat.lt_of_lt_of_le (lt_of_get hk) hn
    obtain ⟨k', c', hk', hkk, hsame⟩ := ev.tok id hid k z c hk
    exact ⟨b, h0, k', z, c', hk', by omega, fun e => by
      have he : k' = k := by omega
      exact (hsame he).1.trans (ho (by omega))⟩
  case fn f caps =>
    obtain ⟨vs, hv, hl, hc⟩ := hr
    refine ⟨vs, hv, hl, fun j p hp => ?_⟩
    obtain ⟨b, hb, hv⟩ := hc j p hp
    exact ⟨b, hb.evo ev hn (by decide), hv⟩
  case ifc t xs agg =>
    obtain ⟨u, hv, hx⟩ := hr
    refine ⟨u, hv, ?_⟩
    cases agg
    · simp only [Bool.false_eq_true, if_false] at hx ⊢
      obtain ⟨x, he, hr⟩ := hx
      exact ⟨x, he, hr.evo ev⟩
    · simp only [if_true] at hx ⊢
      obtain ⟨vs, hu, hl, hr⟩ := hx
      refine ⟨vs, hu, hl, fun j x hj => ?_⟩
      obtain ⟨y, hy, hr'⟩ := hr j x hj
      exact ⟨y, hy, hr'.evo ev⟩
  case nili => exact hr
  case it id =>
    obtain ⟨b, hb, hv⟩ := hr
    exact ⟨b, hb.evo ev hn (by decide), hv⟩
  case mp id =>
    obtain ⟨b, hb, hv⟩ := hr
    exact ⟨b, hb.evo ev hn (by decide), hv⟩
  case nilm => exact hr

theorem CellsRel.evo {n : Nat} {E E' : Env} {h h' : Hp} (ev : Evo n E h E' h') (hn : h.length ≤ n) {vs : List Value} {xs : List C1} (hr : CellsRel E h vs xs) : CellsRel E' h' vs xs :=
  ⟨hr.1, fun j x hj => let ⟨u, hu, h1, h2⟩ := hr.2 j x hj; ⟨u, hu, h1.evo ev hn, h2⟩⟩

theorem V.rel.evo {n : Nat} {E E' : Env} {h h' : Hp} (ev : Evo n E h E' h') (hn : h.length ≤ n) {v : Value} {x : V} (hr : x.rel E h v) : x.rel E' h' v := by
  cases x with
  | c x => exact C1.rel.evo ev hn hr
  | agg xs => obtain ⟨vs, hv, hc⟩ := hr; exact ⟨vs, hv, hc.evo ev hn⟩

theorem AV.rel.evo {n : Nat} {E E' : Env} {h h' : Hp} (ev : Evo n E h E' h') (hn : h.length ≤ n) {v : Value} {x : AV} (hr : x.rel E h v) : x.rel E' h' v := by
  cases x with
  | v x => exact V.rel.evo ev hn hr
  | tup xs => obtain ⟨vs, hv, hl, hc⟩ := hr; exact ⟨vs, hv, hl, fun j x hj => let ⟨u, hu, h1⟩ := hc j x hj; ⟨u, hu, h1.evo ev hn⟩⟩

/-- The package variables: what they read as (f), and what else is known of the world and stays (inv). -/
structure Gl where
  f : Nat → Option (List D)
  inv : World → Prop
  stable : ∀ w w', Below w.heap.size w w' → inv w → inv w'

/-- The activation of a function: the world at its entry, and the cells that its caller has frozen. -/
structure Actn where
  w0 : World
  F0 : Fz
  G : Gl

def DV.rel (w : World) (F : Fz) (v : Value) : DV → Prop
  | .c x => Rd w F v x
  | .agg xs => ∃ vs : List Value, v = .agg vs.toArray ∧ vs.length = xs.length ∧ ∀ (j : Nat) (x : D), xs[j]? = some x → ∃ u, vs[j]? = some u ∧ Rd w F u x

theorem DV.rel.evo {n : Nat} {E E' : Env} {h h' : Hp} (ev : Evo n E h E' h') {v : Value} {x : DV} (hr : x.rel E.w E.F v) : x.rel E'.w E'.F v := by
  cases x with
  | c x => exact Rd.evo ev hr
  | agg xs => obtain ⟨vs, hv, hl, hx⟩ := hr; exact ⟨vs, hv, hl, fun j x hj => let ⟨u, hu, h1⟩ := hx j x hj; ⟨u, hu, h1.evo ev⟩⟩

/-- What an own object is in memory. -/
def Ob.rel (E : Env) (h : Hp) (id : Nat) : Ob → Prop
  | .dead => True
  | .box cs => ∃ b vs T, E.ρ id = some b ∧ E.w.heap[b]? = some (.cells vs T (0, 0)) ∧ CellsRel E h vs.toList cs ∧ ∀ o, ¬ E.F b o
  | .tok n z none => 0 < z ∧ ((E.ρ id = none ∧ n = 0) ∨ ∃ b vs T, E.ρ id = some b ∧ E.w.heap[b]? = some (.cells vs T (0, 0)) ∧ n * z ≤ vs.size ∧ ∀ o, n * z ≤ o → ¬ E.F b o)
  | .tok n z (some ds) => 0 < z ∧ ((E.ρ id = none ∧ n = 0 ∧ ds = []) ∨ ∃ b vs T, E.ρ id = some b ∧ E.w.heap[b]? = some (.cells vs T (0, 0)) ∧ n * z ≤ vs.size ∧ CellsRel E h (vs.toList.take (n * z)) (ds.map .d) ∧ ∀ o, ¬ E.F b o)
  | .siter s pos => ∃ b, E.ρ id = some b ∧ E.w.heap[b]? = some (.stringIter ⟨s.toArray⟩ pos)
  | .map es clock => ∃ b ents, E.ρ id = some b ∧ E.w.heap[b]? = some (.map ents clock) ∧ ents.size = es.length ∧ (∀ o, ¬ E.F b o) ∧
      ∀ (j : Nat) (p : Nat × DV × DV), es[j]? = some p → ∃ e, ents[j]? = some e ∧ e.born = p.1 ∧ p.2.1.rel E.w E.F e.key ∧ p.2.2.rel E.w E.F e.val

structure EnvOk (A : Actn) (E : Env) (h : Hp) : Prop where
  below : Below A.w0.heap.size A.w0 E.w
  lt : ∀ b o, E.F b o → b < E.w.heap.size
  old : ∀ b o, b < A.w0.heap.size → E.F b o → A.F0 b o
  f0 : ∀ b o, A.F0 b o → E.F b o
  inj : ∀ i j b, i < h.length → j < h.length → E.ρ i = some b → E.ρ j = some b → i = j
  base : ∀ i b, i < h.length → E.ρ i = some b → A.w0.heap.size ≤ b ∧ b < E.w.heap.size
  ob : ∀ (i : Nat) (o : Ob), h[i]? = some o → o.rel E h i
  glob : ∀ (g : Nat) (xs : List D), A.G.f g = some xs → DPtr E.w E.F (.pointer (some ⟨g, 0, none⟩)) xs
  ginv : A.G.inv A.w0

/-- The state: slots by number (the last one put first), and the heap. -/
structure S where
  t : List (Nat × AV)
  h : Hp

def look : List (Nat × AV) → Nat → AV
  | [], _ => .v (.c .top)
  | (k, v) :: r, t => if k = t then v else look r t

def S.get (s : S) (t : Nat) : AV := look s.t t
def S.put (s : S) (t : Nat) (v : AV) : S := { s with t := (t, v) :: s.t }
def S.putO (s : S) (d : Option Nat) (v : AV) : S := match d with | some t => s.put t v | none => s

structure Rel (A : Actn) (E : Env) (s : S) (a : Act) (w : World) : Prop where
  env : EnvOk A E s.h
  world : E.w = w
  defers : a.defers = []
  tmps : ∀ t, (s.get t).rel E s.h (a.tmps.getD t undef)

end Go.Ab
