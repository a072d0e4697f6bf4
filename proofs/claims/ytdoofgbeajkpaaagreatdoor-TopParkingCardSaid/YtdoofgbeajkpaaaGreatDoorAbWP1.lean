/-
  Texts of the layer and of the laws, put together: Ab1, Ab2, Ab3.
-/
import Derived.WalkKit
import Derived.Laws.AppendOwn
import Derived.Deep.AppendSrc
import Derived.Deep.MidRow
import Derived.Lib.Strings
set_option linter.unusedSimpArgs false
set_option linter.unusedVariables false
set_option maxRecDepth 100000
namespace Go.Ab
open Go.RowKit
inductive D where
  | any
  | bool (b : Bool)
  | int (k : IntKind) (n : Int)
  | str (s : List UInt8)
  | sl (full : Bool) (es : List (List D))
abbrev Fz := Nat → Nat → Prop
inductive Rd (w : World) (F : Fz) : Value → D → Prop where
  | any (v : Value) (h : v.oneCell' = true) : Rd w F v .any
  | bool (b : Bool) : Rd w F (.bool b) (.bool b)
  | int (k : IntKind) (n : Int) : Rd w F (.int k n) (.int k n)
  | str (s : ByteArray) : Rd w F (.string s) (.str s.data.toList)
  | nil (base : Option Addr) (full : Bool) : Rd w F (.slice base 0 0) (.sl full [])
  | sl (b o len cap size : Nat) (full : Bool) (es : List (List D)) (vals : Nat → Nat → Value)
      (hlen : es.length = len) (hcap : len ≤ cap) (hfull : full = true → cap = len)
      (hsize : ∀ e ∈ es, e.length = size)
      (hF : ∀ i j, i < len → j < size → F b (o + i * size + j))
      (hc : ∀ i j, i < len → j < size → w.cell? ⟨b, o + i * size + j, none⟩ = some (vals i j))
      (h1 : ∀ i j, i < len → j < size → (vals i j).oneCell' = true)
      (hr : ∀ (i j : Nat) (e : List D) (y : D), es[i]? = some e → e[j]? = some y → Rd w F (vals i j) y) :
      Rd w F (.slice (some ⟨b, o, none⟩) len cap) (.sl full es)
theorem Rd.one {w : World} {F : Fz} {v : Value} {d : D} (h : Rd w F v d) : v.oneCell' = true := by
  cases h <;> first | rfl | assumption
theorem Rd.mono {w w' : World} {F F' : Fz} {v : Value} {d : D} (h : Rd w F v d) (hF : ∀ b o, F b o → F' b o)
    (hw : ∀ b o, F b o → w'.cell? ⟨b, o, none⟩ = w.cell? ⟨b, o, none⟩) : Rd w' F' v d := by
  induction h with
  | any v h => exact .any v h
  | bool b => exact .bool b
  | int k n => exact .int k n
  | str s => exact .str s
  | nil b f => exact .nil b f
  | sl b o len cap size full es vals hlen hcap hfull hsize hf hc h1 hr ih =>
    exact .sl b o len cap size full es vals hlen hcap hfull hsize (fun i j hi hj => hF _ _ (hf i j hi hj))
      (fun i j hi hj => by rw [hw _ _ (hf i j hi hj)]; exact hc i j hi hj) h1 ih
inductive C1 where
  | top
  | d (x : D)
  | ptr (id off : Nat)
  | dptr (xs : List D)
  | nilp
  | own (id : Nat) (es : List (List D))
  | msl (id n : Nat)
  | bptr (id n off : Nat)
  | fn (f : FuncId) (caps : List (Nat × Nat))
  | ifc (t : TypeId) (xs : List D) (agg : Bool)
  | nili
  | it (id : Nat)
  | mp (id : Nat)
  | nilm
  | ub
  | mso (id m o n : Nat)
  | psl (ps : List (Nat × Nat))
  | ppt (ps : List (Nat × Nat))
inductive V where
  | c (x : C1)
  | agg (xs : List C1)
inductive AV where
  | v (x : V)
  | tup (xs : List V)
inductive DV where
  | c (x : D)
  | agg (xs : List D)
inductive Ob where
  | dead
  | box (cs : List C1)
  | tok (n z : Nat) (c : Option (List C1))
  | siter (s : List UInt8) (pos : Nat)
  | map (es : List (Nat × DV × DV)) (clock : Nat)
  | bld (T e : TypeId) (l : List UInt8) (on : Bool)
  | pin (o : Obj)
structure Env where
  ρ : Nat → Option Nat
  F : Fz
  w : World
abbrev Hp := List Ob
def Ob.kind : Ob → Nat
  | .dead => 0
  | .box _ => 1
  | .tok _ _ _ => 2
  | .siter _ _ => 3
  | .map _ _ => 4
  | .bld _ _ _ _ => 1
  | .pin _ => 5
def At (E : Env) (h : Hp) (k id b : Nat) : Prop := (∃ o, h[id]? = some o ∧ o.kind = k) ∧ E.ρ id = some b
def DPtr (w : World) (F : Fz) (v : Value) (xs : List D) : Prop :=
  ∃ b o, v = .pointer (some ⟨b, o, none⟩) ∧ ∀ (j : Nat) (x : D), xs[j]? = some x → F b (o + j) ∧ ∃ u, w.cell? ⟨b, o + j, none⟩ = some u ∧ Rd w F u x
def PCells (E : Env) (h : Hp) (b o : Nat) (ps : List (Nat × Nat)) : Prop :=
  ∀ (j : Nat) (p : Nat × Nat), ps[j]? = some p → E.F b (o + j) ∧ ∃ k, At E h 1 p.1 k ∧ E.w.cell? ⟨b, o + j, none⟩ = some (.pointer (some ⟨k, p.2, none⟩))
def OwnRow (E : Env) (id n z : Nat) (v : Value) : Prop :=
  match E.ρ id with
  | none => (∃ base, v = .slice base 0 0) ∧ n = 0
  | some b => ∃ cap vs T, v = .slice (some ⟨b, 0, none⟩) n cap ∧ n ≤ cap ∧ cap ≤ maxLen ∧ E.w.heap[b]? = some (.cells vs T (0, 0)) ∧ vs.size = cap * z
def C1.rel (E : Env) (h : Hp) : Value → C1 → Prop
  | _, .top => True
  | v, .d x => Rd E.w E.F v x
  | v, .ptr id off => ∃ b, At E h 1 id b ∧ v = .pointer (some ⟨b, off, none⟩)
  | v, .dptr xs => DPtr E.w E.F v xs
  | v, .nilp => v = .pointer none
  | v, .own id es => Rd E.w E.F v (.sl false es) ∧ ∃ n z c, h[id]? = some (.tok n z c) ∧ es.length ≤ n ∧ (∀ e ∈ es, e.length = z) ∧ (es.length = n → OwnRow E id n z v)
  | v, .msl id n => v.oneCell' = true ∧ ∃ m z c, h[id]? = some (.tok m z c) ∧ n ≤ m ∧ (n = m → OwnRow E id m z v)
  | v, .bptr id n off => ∃ b, v = .pointer (some ⟨b, off, none⟩) ∧ ∃ m z c, h[id]? = some (.tok m z c) ∧ n ≤ m ∧ (n = m → E.ρ id = some b)
  | v, .fn f caps => ∃ vs : List Value, v = .func (.func f) #[] vs.toArray ∧ vs.length = caps.length ∧
      ∀ (j : Nat) (p : Nat × Nat), caps[j]? = some p → ∃ b, At E h 1 p.1 b ∧ vs[j]? = some (.pointer (some ⟨b, p.2, none⟩))
  | v, .ifc t xs agg => ∃ u, v = .iface t u ∧
      (if agg then ∃ vs : List Value, u = .agg vs.toArray ∧ vs.length = xs.length ∧ ∀ (j : Nat) (x : D), xs[j]? = some x → ∃ y, vs[j]? = some y ∧ Rd E.w E.F y x
       else ∃ x, xs = [x] ∧ Rd E.w E.F u x)
  | v, .nili => v = .nilIface
  | v, .it id => ∃ b, At E h 3 id b ∧ v = .pointer (some ⟨b, 0, none⟩)
  | v, .mp id => ∃ b, At E h 4 id b ∧ v = .map (some b)
  | v, .nilm => v = .map none
  | v, .ub => ∃ b, v = .bool b
  | v, .mso id k o n => ∃ b cap, v = .slice (some ⟨b, o, none⟩) n cap ∧ n ≤ cap ∧ ∃ m z c, h[id]? = some (.tok m z c) ∧ k ≤ m ∧ (k = m → E.ρ id = some b ∧ o + n * z ≤ m * z)
  | v, .psl ps => ∃ b o cap, v = .slice (some ⟨b, o, none⟩) ps.length cap ∧ PCells E h b o ps
  | v, .ppt ps => ∃ b o, v = .pointer (some ⟨b, o, none⟩) ∧ PCells E h b o ps
theorem C1.rel_one {E : Env} {h : Hp} {v : Value} {x : C1} (hr : x.rel E h v) (hx : x ≠ .top) : v.oneCell' = true := by
  cases x <;> simp only [C1.rel] at hr
  case top => exact absurd rfl hx
  case d x => exact hr.one
  case ptr => obtain ⟨b, _, rfl⟩ := hr; rfl
  case dptr => obtain ⟨b, o, rfl, _⟩ := hr; rfl
  case nilp => subst hr; rfl
  case own => exact hr.1.one
  case msl => exact hr.1
  case bptr => obtain ⟨b, rfl, _⟩ := hr; rfl
  case fn => obtain ⟨vs, rfl, _⟩ := hr; rfl
  case ifc => obtain ⟨u, rfl, _⟩ := hr; rfl
  case nili => subst hr; rfl
  case it => obtain ⟨b, _, rfl⟩ := hr; rfl
  case mp => obtain ⟨b, _, rfl⟩ := hr; rfl
  case nilm => subst hr; rfl
  case ub => obtain ⟨b, rfl⟩ := hr; rfl
  case mso => obtain ⟨b, cap, rfl, _⟩ := hr; rfl
  case psl => obtain ⟨b, o, cap, rfl, _⟩ := hr; rfl
  case ppt => obtain ⟨b, o, rfl, _⟩ := hr; rfl
def CellsRel (E : Env) (h : Hp) (vs : List Value) (xs : List C1) : Prop :=
  vs.length = xs.length ∧ ∀ (j : Nat) (x : C1), xs[j]? = some x → ∃ u, vs[j]? = some u ∧ x.rel E h u ∧ u.oneCell' = true
def V.rel (E : Env) (h : Hp) (v : Value) : V → Prop
  | .c x => x.rel E h v
  | .agg xs => ∃ vs : List Value, v = .agg vs.toArray ∧ CellsRel E h vs xs
def AV.rel (E : Env) (h : Hp) (v : Value) : AV → Prop
  | .v x => x.rel E h v
  | .tup xs => ∃ vs : List Value, v = .tuple vs.toArray ∧ vs.length = xs.length ∧ ∀ (j : Nat) (x : V), xs[j]? = some x → ∃ u, vs[j]? = some u ∧ x.rel E h u
structure Evo (n : Nat) (E : Env) (h : Hp) (E' : Env) (h' : Hp) : Prop where
  frz : ∀ b o, E.F b o → E'.F b o
  same : ∀ b o, E.F b o → E'.w.cell? ⟨b, o, none⟩ = E.w.cell? ⟨b, o, none⟩
  keep : ∀ id, id < n → ∀ o, h[id]? = some o → o.kind ≠ 2 → (∃ o', h'[id]? = some o' ∧ o'.kind = o.kind) ∧ E'.ρ id = E.ρ id
  tok : ∀ id, id < n → ∀ m z c, h[id]? = some (.tok m z c) → ∃ m' c', h'[id]? = some (.tok m' z c') ∧ m ≤ m' ∧
    (m' = m → E'.ρ id = E.ρ id ∧ ∀ b vs T, E.ρ id = some b → E.w.heap[b]? = some (.cells vs T (0, 0)) → ∃ vs' T', E'.w.heap[b]? = some (.cells vs' T' (0, 0)) ∧ vs'.size = vs.size)
  len : n ≤ h'.length
theorem Evo.refl {n : Nat} {E : Env} {h : Hp} (hn : n ≤ h.length) : Evo n E h E h :=
  ⟨fun _ _ h => h, fun _ _ _ => rfl, fun _ _ o h _ => ⟨⟨o, h, rfl⟩, rfl⟩, fun _ _ m _ c h => ⟨m, c, h, Nat.le_refl _, fun _ => ⟨rfl, fun _ vs T _ hb => ⟨vs, T, hb, rfl⟩⟩⟩, hn⟩
theorem Evo.trans {n m : Nat} {E E1 E2 : Env} {h h1 h2 : Hp} (a : Evo n E h E1 h1) (b : Evo m E1 h1 E2 h2) (hnm : n ≤ m) : Evo n E h E2 h2 where
  frz x o hx := b.frz x o (a.frz x o hx)
  same x o hx := (b.same x o (a.frz x o hx)).trans (a.same x o hx)
  keep id hid o ho hk := by
    obtain ⟨⟨o1, h1', k1⟩, e1⟩ := a.keep id hid o ho hk
    obtain ⟨⟨o2, h2', k2⟩, e2⟩ := b.keep id (by omega) o1 h1' (by rw [k1]; exact hk)
    exact ⟨⟨o2, h2', k2.trans k1⟩, e2.trans e1⟩
  tok id hid k z c hk := by
    obtain ⟨k1, c1, h1', l1, f1⟩ := a.tok id hid k z c hk
    obtain ⟨k2, c2, h2', l2, f2⟩ := b.tok id (by omega) k1 z c1 h1'
    refine ⟨k2, c2, h2', by omega, fun e => ?_⟩
    obtain ⟨r1, g1⟩ := f1 (by omega)
    obtain ⟨r2, g2⟩ := f2 (by omega)
    refine ⟨r2.trans r1, fun b' vs T hb hv => ?_⟩
    obtain ⟨vs1, T1, hv1, s1⟩ := g1 b' vs T hb hv
    obtain ⟨vs2, T2, hv2, s2⟩ := g2 b' vs1 T1 (r1.trans hb) hv1
    exact ⟨vs2, T2, hv2, s2.trans s1⟩
  len := Nat.le_trans hnm b.len
theorem Rd.evo {n : Nat} {E E' : Env} {h h' : Hp} (ev : Evo n E h E' h') {v : Value} {x : D} (hr : Rd E.w E.F v x) : Rd E'.w E'.F v x :=
  hr.mono ev.frz ev.same
theorem DPtr.evo {n : Nat} {E E' : Env} {h h' : Hp} (ev : Evo n E h E' h') {v : Value} {xs : List D} (hr : DPtr E.w E.F v xs) : DPtr E'.w E'.F v xs := by
  obtain ⟨b, o, rfl, hx⟩ := hr
  refine ⟨b, o, rfl, fun j x hj => ?_⟩
  obtain ⟨hf, u, hu, hr⟩ := hx j x hj
  exact ⟨ev.frz _ _ hf, u, by rw [ev.same _ _ hf]; exact hu, hr.evo ev⟩
theorem At.evo {n : Nat} {E E' : Env} {h h' : Hp} (ev : Evo n E h E' h') (hn : h.length ≤ n) {k id b : Nat} (hk : k ≠ 2) (ha : At E h k id b) : At E' h' k id b := by
  obtain ⟨⟨o, ho, hok⟩, hb⟩ := ha
  obtain ⟨⟨o', ho', hk'⟩, e⟩ := ev.keep id (Nat.lt_of_lt_of_le (List.getElem?_eq_some_iff.1 ho).1 hn) o ho (by rw [hok]; exact hk)
  exact ⟨⟨o', ho', hk'.trans hok⟩, e.trans hb⟩
theorem PCells.evo {n : Nat} {E E' : Env} {h h' : Hp} (ev : Evo n E h E' h') (hn : h.length ≤ n) {b o : Nat} {ps : List (Nat × Nat)} (hp : PCells E h b o ps) : PCells E' h' b o ps := fun j p hj => by
  obtain ⟨hf, k, hk, hc⟩ := hp j p hj
  exact ⟨ev.frz _ _ hf, k, hk.evo ev hn (by decide), by rw [ev.same _ _ hf]; exact hc⟩
theorem lt_of_get {α : Type} {l : List α} {i : Nat} {x : α} (h : l[i]? = some x) : i < l.length := (List.getElem?_eq_some_iff.1 h).1
theorem OwnRow.evo {n : Nat} {E E' : Env} {h h' : Hp} (ev : Evo n E h E' h') {id k z k' : Nat} {c c' : Option (List C1)} {v : Value} (hid : id < n) (hk : h[id]? = some (.tok k z c)) (hk' : h'[id]? = some (.tok k' z c')) (he : k' = k) (ho : OwnRow E id k z v) : OwnRow E' id k z v := by
  obtain ⟨k2, c2, h2, _, hsame⟩ := ev.tok id hid k z c hk
  rw [hk'] at h2
  cases h2
  obtain ⟨h1, h2⟩ := hsame he
  unfold OwnRow at ho ⊢
  rw [h1]
  cases hρ : E.ρ id with
  | none => simpa [hρ] using ho
  | some b =>
    simp only [hρ] at ho
    obtain ⟨cap, vs, T, hv, c1, c2, hb, hs⟩ := ho
    obtain ⟨vs', T', hb', hs'⟩ := h2 b vs T hρ hb
    exact ⟨cap, vs', T', hv, c1, c2, hb', hs'.trans hs⟩
theorem C1.rel.evo {n : Nat} {E E' : Env} {h h' : Hp} (ev : Evo n E h E' h') (hn : h.length ≤ n) {v : Value} {x : C1} (hr : x.rel E h v) : x.rel E' h' v := by
  cases x <;> simp only [C1.rel] at hr ⊢
  case d x => exact hr.evo ev
  case ptr id off =>
    obtain ⟨b, hb, hv⟩ := hr
    exact ⟨b, hb.evo ev hn (by decide), hv⟩
  case dptr xs => exact hr.evo ev
  case nilp => exact hr
  case own id es =>
    obtain ⟨h0, k, z, c, hk, hle, hz, ho⟩ := hr
    have hid := Nat.lt_of_lt_of_le (lt_of_get hk) hn
    obtain ⟨k', c', hk', hkk, _⟩ := ev.tok id hid k z c hk
    exact ⟨h0.evo ev, k', z, c', hk', by omega, hz, fun e => by
      have he : k' = k := by omega
      have := OwnRow.evo ev hid hk hk' he (ho (by omega))
      rw [he]; exact this⟩
  case msl id n' =>
    obtain ⟨h0, k, z, c, hk, hle, ho⟩ := hr
    have hid := Nat.lt_of_lt_of_le (lt_of_get hk) hn
    obtain ⟨k', c', hk', hkk, _⟩ := ev.tok id hid k z c hk
    exact ⟨h0, k', z, c', hk', by omega, fun e => by
      have he : k' = k := by omega
      have := OwnRow.evo ev hid hk hk' he (ho (by omega))
      rw [he]; exact this⟩
  case bptr id n' off =>
    obtain ⟨b, h0, k, z, c, hk, hle, ho⟩ := hr
    have hid := Nat.lt_of_lt_of_le (lt_of_get hk) hn
    obtain ⟨k', c', hk', hkk, hsame⟩ := ev.tok id hid k z c hk
    exact ⟨b, h0, k', z, c', hk', by omega, fun e => by
      have he : k' = k := by omega
      exact (hsame he).1.trans (ho (by omega))⟩
  case fn f caps =>
    obtain ⟨vs, hv, hl, hc⟩ := hr
    refine ⟨vs, hv, hl, fun j p hp => ?_⟩
    obtain ⟨b, hb, hv⟩ := hc j p hp
    exact ⟨b, hb.evo ev hn (by decide), hv⟩
  case ifc t xs agg =>
    obtain ⟨u, hv, hx⟩ := hr
    refine ⟨u, hv, ?_⟩
    cases agg
    · simp only [Bool.false_eq_true, if_false] at hx ⊢
      obtain ⟨x, he, hr⟩ := hx
      exact ⟨x, he, hr.evo ev⟩
    simp only [if_true] at hx ⊢
    obtain ⟨vs, hu, hl, hr⟩ := hx
    refine ⟨vs, hu, hl, fun j x hj => ?_⟩
    obtain ⟨y, hy, hr'⟩ := hr j x hj
    exact ⟨y, hy, hr'.evo ev⟩
  case nili => exact hr
  case it id =>
    obtain ⟨b, hb, hv⟩ := hr
    exact ⟨b, hb.evo ev hn (by decide), hv⟩
  case mp id =>
    obtain ⟨b, hb, hv⟩ := hr
    exact ⟨b, hb.evo ev hn (by decide), hv⟩
  case nilm => exact hr
  case ub => exact hr
  case mso id n' o q =>
    obtain ⟨b, cap, h0, h00, k, z, c, hk, hle, ho⟩ := hr
    have hid := Nat.lt_of_lt_of_le (lt_of_get hk) hn
    obtain ⟨k', c', hk', hkk, hsame⟩ := ev.tok id hid k z c hk
    exact ⟨b, cap, h0, h00, k', z, c', hk', by omega, fun e => by
      have he : k' = k := by omega
      have h1 := ho (by omega)
      exact ⟨(hsame he).1.trans h1.1, by rw [he]; exact h1.2⟩⟩
  case psl ps =>
    obtain ⟨b, o, cap, hv, hp⟩ := hr
    exact ⟨b, o, cap, hv, hp.evo ev hn⟩
  case ppt ps =>
    obtain ⟨b, o, hv, hp⟩ := hr
    exact ⟨b, o, hv, hp.evo ev hn⟩
theorem CellsRel.evo {n : Nat} {E E' : Env} {h h' : Hp} (ev : Evo n E h E' h') (hn : h.length ≤ n) {vs : List Value} {xs : List C1} (hr : CellsRel E h vs xs) : CellsRel E' h' vs xs :=
  ⟨hr.1, fun j x hj => let ⟨u, hu, h1, h2⟩ := hr.2 j x hj; ⟨u, hu, h1.evo ev hn, h2⟩⟩
theorem V.rel.evo {n : Nat} {E E' : Env} {h h' : Hp} (ev : Evo n E h E' h') (hn : h.length ≤ n) {v : Value} {x : V} (hr : x.rel E h v) : x.rel E' h' v := by
  cases x with
  | c x => exact C1.rel.evo ev hn hr
  | agg xs => obtain ⟨vs, hv, hc⟩ := hr; exact ⟨vs, hv, hc.evo ev hn⟩
theorem AV.rel.evo {n : Nat} {E E' : Env} {h h' : Hp} (ev : Evo n E h E' h') (hn : h.length ≤ n) {v : Value} {x : AV} (hr : x.rel E h v) : x.rel E' h' v := by
  cases x with
  | v x => exact V.rel.evo ev hn hr
  | tup xs => obtain ⟨vs, hv, hl, hc⟩ := hr; exact ⟨vs, hv, hl, fun j x hj => let ⟨u, hu, h1⟩ := hc j x hj; ⟨u, hu, h1.evo ev hn⟩⟩
structure Gl where
  f : Nat → Option (List D)
  inv : World → Prop
  stable : ∀ w w', Below w.heap.size w w' → inv w → inv w'
  /-- Is the count of draws kept from falling? -/
  dr : Bool := false
structure Actn where
  w0 : World
  F0 : Fz
  G : Gl
  ds : List Deferred
def DV.rel (w : World) (F : Fz) (v : Value) : DV → Prop
  | .c x => Rd w F v x
  | .agg xs => ∃ vs : List Value, v = .agg vs.toArray ∧ vs.length = xs.length ∧ ∀ (j : Nat) (x : D), xs[j]? = some x → ∃ u, vs[j]? = some u ∧ Rd w F u x
theorem DV.rel.evo {n : Nat} {E E' : Env} {h h' : Hp} (ev : Evo n E h E' h') {v : Value} {x : DV} (hr : x.rel E.w E.F v) : x.rel E'.w E'.F v := by
  cases x with
  | c x => exact Rd.evo ev hr
  | agg xs => obtain ⟨vs, hv, hl, hx⟩ := hr; exact ⟨vs, hv, hl, fun j x hj => let ⟨u, hu, h1⟩ := hx j x hj; ⟨u, hu, h1.evo ev⟩⟩
def BldAt (E : Env) (h : Hp) (T e : TypeId) (l : List UInt8) (b : Nat) (p v : Value) : Prop :=
  E.w.heap[b]? = some (.cells #[p, v] T (0, 0)) ∧ (p = .pointer none ∨ p = .pointer (some ⟨b, 0, none⟩)) ∧ E.w.ownsRow 0 e 1 v l.length (l.map fun x => Value.int .u8 x.toNat) ∧ T ≠ e ∧
    ∀ g, v.ownBlock = some g → g < E.w.heap.size ∧ b < g ∧ (∀ o, ¬ E.F g o) ∧ ∀ j, j < h.length → E.ρ j ≠ some g
def Ob.rel (E : Env) (h : Hp) (id : Nat) : Ob → Prop
  | .dead => True
  | .box cs => ∃ b vs T, E.ρ id = some b ∧ E.w.heap[b]? = some (.cells vs T (0, 0)) ∧ CellsRel E h vs.toList cs ∧ ∀ o, ¬ E.F b o
  | .tok n z none => 0 < z ∧ ((E.ρ id = none ∧ n = 0) ∨ ∃ b vs T, E.ρ id = some b ∧ E.w.heap[b]? = some (.cells vs T (0, 0)) ∧ n * z ≤ vs.size ∧ ∀ o, n * z ≤ o → ¬ E.F b o)
  | .tok n z (some ds) => 0 < z ∧ ((E.ρ id = none ∧ n = 0 ∧ ds = []) ∨ ∃ b vs T, E.ρ id = some b ∧ E.w.heap[b]? = some (.cells vs T (0, 0)) ∧ n * z ≤ vs.size ∧ CellsRel E h (vs.toList.take (n * z)) ds ∧ ∀ o, ¬ E.F b o)
  | .siter s pos => ∃ b, E.ρ id = some b ∧ E.w.heap[b]? = some (.stringIter ⟨s.toArray⟩ pos)
  | .map es clock => ∃ b ents, E.ρ id = some b ∧ E.w.heap[b]? = some (.map ents clock) ∧ ents.size = es.length ∧ (∀ o, ¬ E.F b o) ∧
      ∀ (j : Nat) (p : Nat × DV × DV), es[j]? = some p → ∃ e, ents[j]? = some e ∧ e.born = p.1 ∧ p.2.1.rel E.w E.F e.key ∧ p.2.2.rel E.w E.F e.val
  | .bld T e l on => ∃ b, E.ρ id = some b ∧ (∀ o, ¬ E.F b o) ∧ (on = true → ∃ p v, BldAt E h T e l b p v)
  | .pin ob => ∃ b, E.ρ id = some b ∧ E.w.heap[b]? = some ob ∧ ∀ o, ¬ E.F b o
structure EnvOk (A : Actn) (E : Env) (h : Hp) : Prop where
  below : Below A.w0.heap.size A.w0 E.w
  lt : ∀ b o, E.F b o → b < E.w.heap.size
  old : ∀ b o, b < A.w0.heap.size → E.F b o → A.F0 b o
  f0 : ∀ b o, A.F0 b o → E.F b o
  inj : ∀ i j b, i < h.length → j < h.length → E.ρ i = some b → E.ρ j = some b → i = j
  base : ∀ i b, i < h.length → E.ρ i = some b → A.w0.heap.size ≤ b ∧ b < E.w.heap.size
  ob : ∀ (i : Nat) (o : Ob), h[i]? = some o → o.rel E h i
  glob : ∀ (g : Nat) (xs : List D), A.G.f g = some xs → DPtr E.w E.F (.pointer (some ⟨g, 0, none⟩)) xs
  ginv : A.G.inv A.w0
  drw : A.G.dr = true → A.w0.drawn ≤ E.w.drawn
theorem EnvOk.ds {A : Actn} {E : Env} {h : Hp} (d : List Deferred) (k : EnvOk A E h) : EnvOk { A with ds := d } E h := ⟨k.below, k.lt, k.old, k.f0, k.inj, k.base, k.ob, k.glob, k.ginv, k.drw⟩
theorem EnvOk.nods {A : Actn} {E : Env} {h : Hp} {d : List Deferred} (k : EnvOk { A with ds := d } E h) : EnvOk A E h := ⟨k.below, k.lt, k.old, k.f0, k.inj, k.base, k.ob, k.glob, k.ginv, k.drw⟩
structure S where
  t : List (Nat × AV)
  h : Hp
def look : List (Nat × AV) → Nat → AV
  | [], _ => .v (.c .top)
  | (k, v) :: r, t => if k = t then v else look r t
def S.get (s : S) (t : Nat) : AV := look s.t t
def S.put (s : S) (t : Nat) (v : AV) : S := { s with t := (t, v) :: s.t }
def S.putO (s : S) (d : Option Nat) (v : AV) : S := match d with | some t => s.put t v | none => s
structure Rel (A : Actn) (E : Env) (s : S) (a : Act) (w : World) : Prop where
  env : EnvOk A E s.h
  world : E.w = w
  defers : a.defers = A.ds
  tmps : ∀ t, (s.get t).rel E s.h (a.tmps.getD t undef)
end Go.Ab
namespace Go.Ab
inductive COut where
  | ret (v : AV) (h : Hp)
  | pan (x : C1) (h : Hp)
inductive NOut where
  | ret (v : AV)
  | pan (x : C1)
def NOut.at (h : Hp) : NOut → COut
  | .ret v => .ret v h
  | .pan x => .pan x h
structure Ctx where
  P : Program
  G : Gl
  M : FuncId → Option (List AV → Option AV)
  K : FuncId → List AV → Hp → Option COut
  N : FuncId → Option (List AV → Option NOut)
  B : Option (TypeId × TypeId)
  U : TypeId → Bool
  E : Nat → Bool
inductive OpR where
  | val (v : AV) (h : Hp)
  | skip (h : Hp)
  | pan (x : C1) (h : Hp)
abbrev AV.d (x : D) : AV := .v (.c (.d x))
abbrev AV.i (n : Int) : AV := .v (.c (.d (.int .i64 n)))
abbrev AV.b (b : Bool) : AV := .v (.c (.d (.bool b)))
abbrev AV.s (l : List UInt8) : AV := .v (.c (.d (.str l)))
abbrev AV.top : AV := .v (.c .top)
def litC : Value → C1
  | .bool b => .d (.bool b)
  | .int k n => .d (.int k n)
  | .string s => .d (.str s.data.toList)
  | .slice none 0 0 => .d (.sl true [])
  | .pointer none => .nilp
  | .nilIface => .nili
  | .map none => .nilm
  | _ => .top
def litV : Value → AV
  | .agg cs => if cs.toList.all Value.oneCell' then .v (.agg (cs.toList.map litC)) else .top
  | v => .v (.c (litC v))
def Ctx.ev (X : Ctx) (s : S) : Operand → AV
  | .tmp t => s.get t
  | .const v => litV v
  | .global g => match X.G.f g with | some xs => .v (.c (.dptr xs)) | none => .top
  | .func f => .v (.c (.fn f []))
def V.cs : V → Option (List C1)
  | .c .top => none
  | .c x => some [x]
  | .agg xs => some xs
def AV.cs : AV → Option (List C1)
  | .v x => x.cs
  | .tup _ => none
def C1.toD : C1 → Option D
  | .d x => some x
  | .own _ es => some (.sl false es)
  | _ => none
def allD : List C1 → Option (List D)
  | [] => some []
  | x :: r => (x.toD).bind fun d => (allD r).bind fun ds => some (d :: ds)
def Ctx.size (X : Ctx) (t : TypeId) : Option Nat := (X.P.info? t).map (·.size)
def Ctx.isAgg (X : Ctx) (t : TypeId) : Option Bool :=
  (X.P.underlying t).map fun | .struct _ | .array _ _ => true | _ => false
def Ctx.part (X : Ctx) (t : TypeId) (cs : List C1) (off : Nat) : Option V :=
  (X.isAgg t).bind fun ag =>
    if ag then (X.size t).bind fun n => if off + n ≤ cs.length then some (.agg ((cs.drop off).take n)) else none
    else (cs[off]?).map .c
def C1.elems : C1 → Option (List (List D))
  | .d (.sl _ es) => some es
  | .own _ es => some es
  | _ => none
def C1.source : C1 → Option (List (List D))
  | .d (.sl _ es) => some es
  | .own _ es => some es
  | .d (.str s) => some (s.map fun b => [.int .u8 b.toNat])
  | _ => none
def setAt (cs : List C1) (off : Nat) (xs : List C1) : List C1 := cs.take off ++ (xs ++ cs.drop (off + xs.length))
def fillA (place : Nat → Option (Nat × Nat)) : List C1 → List (Nat × AV) → Option (List C1)
  | cs, [] => some cs
  | cs, (i, v) :: rest => (place i).bind fun p => (v.cs).bind fun xs =>
      if xs.length = p.2 ∧ p.1 + p.2 ≤ cs.length then fillA place (setAt cs p.1 xs) rest else none
def chunk (n : Nat) : Nat → List D → List (List D)
  | 0, _ => []
  | k + 1, l => l.take n :: chunk n k (l.drop n)
def cmpI (op : BinOp) (a b : Int) : Option Bool :=
  match op with
  | .eql => some (a == b)
  | .neq => some (a != b)
  | .lss => some (decide (a < b))
  | .leq => some (decide (a ≤ b))
  | .gtr => some (decide (a > b))
  | .geq => some (decide (a ≥ b))
  | _ => none
def intA (op : BinOp) (k k' : IntKind) (a b : Int) : Option D :=
  match op with
  | .shl => if b < 0 then none else some (.int k (k.wrap (a * 2 ^ (min b.toNat k.bits))))
  | .shr => if b < 0 then none else some (.int k (a.fdiv (2 ^ (min b.toNat k.bits))))
  | .add => if k = k' then some (.int k (k.wrap (a + b))) else none
  | .sub => if k = k' then some (.int k (k.wrap (a - b))) else none
  | .mul => if k = k' then some (.int k (k.wrap (a * b))) else none
  | .quo => if k = k' then (if b = 0 then none else some (.int k (k.wrap (a.tdiv b)))) else none
  | .rem => if k = k' then (if b = 0 then none else some (.int k (a.tmod b))) else none
  | .and | .or | .xor | .andNot => if k = k' then some (.int k (bits op k a b)) else none
  | op => if k = k' then (cmpI op a b).map .bool else none
def strA (op : BinOp) (a b : List UInt8) : Option D :=
  match op with
  | .add => if a.length + b.length ≤ 4611686018427387904 then some (.str (a ++ b)) else none
  | .eql => some (.bool (a == b))
  | .neq => some (.bool (!(a == b)))
  | .lss => some (.bool (Op.bytesLess a b))
  | .leq => some (.bool (Op.bytesLess a b || a == b))
  | .gtr => some (.bool (!(Op.bytesLess a b || a == b)))
  | .geq => some (.bool (!Op.bytesLess a b))
  | _ => none
def boolA (op : BinOp) (a b : Bool) : Option D :=
  match op with
  | .eql => some (.bool (a == b))
  | .neq => some (.bool (!(a == b)))
  | _ => none
inductive Lf where
  | b
  | i (k : IntKind)
  | s
def flatFs (P : Program) (fl : TypeId → Option (List Lf)) : List Field → Nat → Option (List Lf)
  | [], _ => some []
  | f :: r, off => if f.name = "_" ∨ f.offset ≠ off then none else (fl f.type).bind fun l =>
      if (P.info? f.type).map (·.size) = some l.length then (flatFs P fl r (off + l.length)).map (l ++ ·) else none
def flatT (P : Program) : Nat → TypeId → Option (List Lf)
  | 0, _ => none
  | d + 1, t => match P.underlying t with
    | some .bool => some [.b]
    | some (.int k) => some [.i k]
    | some .string => some [.s]
    | some (.struct fs) => if P.stoodInHeld t then none else flatFs P (flatT P d) fs.toList 0
    | _ => none
def Ctx.flat (X : Ctx) (t : TypeId) : Option (List Lf) := if X.P.eqGuardType X.P.depth t = true then none else flatT X.P 6 t
def fitsL : List Lf → List D → Bool
  | [], [] => true
  | .b :: r, .bool _ :: xs => fitsL r xs
  | .i k :: r, .int k' _ :: xs => decide (k = k') && fitsL r xs
  | .s :: r, .str _ :: xs => fitsL r xs
  | _, _ => false
def eqL : List D → List D → Bool
  | .bool a :: xs, .bool b :: ys => (a == b) && eqL xs ys
  | .int _ a :: xs, .int _ b :: ys => (a == b) && eqL xs ys
  | .str a :: xs, .str b :: ys => (a == b) && eqL xs ys
  | [], [] => true
  | _, _ => false
def eqOp (op : BinOp) (b : Bool) : Option D :=
  match op with
  | .eql => some (.bool b)
  | .neq => some (.bool (!b))
  | _ => none
def eqAgg0 (op : BinOp) : Option Bool → Option (List Lf) → Option (List D) → Option (List D) → Option D
  | some true, some l, some dx, some dy => if fitsL l dx = true ∧ fitsL l dy = true then eqOp op (eqL dx dy) else none
  | _, _, _, _ => none
def Ctx.eqAgg (X : Ctx) (op : BinOp) (t : TypeId) (xs ys : List C1) : Option D := eqAgg0 op (X.isAgg t) (X.flat t) (allD xs) (allD ys)
def Ctx.ifT (X : Ctx) (t : TypeId) : Option Bool := (X.P.underlying t).bind fun | .interface ms => some ms.isEmpty | _ => none
def Ctx.ptT (X : Ctx) (t : TypeId) : Option Bool := (X.P.underlying t).bind fun | .pointer _ => some true | _ => none
def Ctx.isIf (X : Ctx) (t : TypeId) : Option Bool := (X.P.underlying t).map fun | .interface _ => true | _ => false
def ifcNil (op : BinOp) (b : Bool) : Option Bool → Option D
  | some e => if b = false ∨ e = true then eqOp op b else none
  | none => none
def ptrNil (op : BinOp) (b : Bool) : Option Bool → Option D
  | some _ => eqOp op b
  | none => none
def Ctx.binA (X : Ctx) (op : BinOp) (t : TypeId) (x y : AV) : Option D :=
  match x, y with
  | .v (.c (.d (.int k a))), .v (.c (.d (.int k' b))) => intA op k k' a b
  | .v (.c (.d (.str a))), .v (.c (.d (.str b))) => strA op a b
  | .v (.c (.d (.bool a))), .v (.c (.d (.bool b))) => (X.P.underlying t).bind fun | .bool => boolA op a b | _ => none
  | .v (.agg xs), .v (.agg ys) => X.eqAgg op t xs ys
  | .v (.c (.ifc _ _ _)), .v (.c .nili) => ifcNil op false (X.ifT t)
  | .v (.c .nili), .v (.c .nili) => ifcNil op true (X.ifT t)
  | .v (.c (.ptr _ _)), .v (.c .nilp) => ptrNil op false (X.ptT t)
  | .v (.c (.dptr _)), .v (.c .nilp) => ptrNil op false (X.ptT t)
  | .v (.c .nilp), .v (.c .nilp) => ptrNil op true (X.ptT t)
  | _, _ => none
def nilY : Operand → Bool
  | .const (.slice none 0 0) => true
  | _ => false
def nilE (op : BinOp) (emp : Bool) : Option C1 :=
  match op with
  | .eql => some (if emp then .ub else .d (.bool false))
  | .neq => some (if emp then .ub else .d (.bool true))
  | _ => none
def nilS (op : BinOp) : Option TypeDesc → AV → Option C1
  | some (.slice _), .v (.c (.d (.sl _ es))) => nilE op es.isEmpty
  | some (.slice _), .v (.c (.own _ es)) => nilE op es.isEmpty
  | _, _ => none
def unA (op : UnOp) (x : AV) : Option D :=
  match op, x with
  | .not, .v (.c (.d (.bool b))) => some (.bool (!b))
  | .neg, .v (.c (.d (.int k n))) => some (.int k (k.wrap (0 - n)))
  | .xor, .v (.c (.d (.int k n))) => some (.int k (bits .xor k (if k.signed then -1 else k.max) n))
  | _, _ => none
def byteOf : List D → Option UInt8
  | [.int .u8 n] => if 0 ≤ n ∧ n < 256 then some (UInt8.ofNat n.toNat) else none
  | _ => none
def bytesOf : List (List D) → Option (List UInt8)
  | [] => some []
  | e :: r => (byteOf e).bind fun b => (bytesOf r).bind fun l => some (b :: l)
def Ctx.isU8 (X : Ctx) (e : TypeId) : Bool := match X.P.underlying e with | some (.int .u8) => true | _ => false
def Ctx.convA (X : Ctx) (src dst : TypeId) (x : AV) : Option D :=
  (X.P.underlying src).bind fun ds => (X.P.underlying dst).bind fun dd =>
    match dd, x with
    | .int k, .v (.c (.d (.int _ n))) => some (.int k (k.wrap n))
    | .string, .v (.c (.d (.str s))) => some (.str s)
    | .string, .v (.c c) => (match ds with
      | .slice e => if X.isU8 e then (c.elems).bind fun es => (bytesOf es).map .str else none
      | _ => none)
    | .slice e, .v (.c (.d (.str s))) => if X.isU8 e ∧ s.length ≤ 4611686018427387904 then some (.sl false (s.map fun b => [.int .u8 b.toNat])) else none
    | _, _ => none
def intOfA : AV → Option Int
  | .v (.c (.d (.int _ n))) => some n
  | _ => none
def optI (ρ : Operand → AV) : Option Operand → Option (Option Int)
  | none => some none
  | some x => (intOfA (ρ x)).map some
def fullOf (mx : Option Int) (c : C1) (h n : Int) : Bool :=
  match mx with
  | some m => decide (m = h)
  | none => (match c with
    | .d (.sl f _) => f && decide (h = n)
    | _ => false)
def Ctx.sliceA (X : Ctx) (t : TypeId) (x : AV) (lo hi mx : Option Int) : Option D :=
  (X.P.underlying t).bind fun dt =>
    match dt, x with
    | .string, .v (.c (.d (.str s))) =>
      let l := lo.getD 0
      let h := hi.getD s.length
      if mx.isNone ∧ 0 ≤ l ∧ l ≤ h ∧ h ≤ s.length then some (.str ((s.drop l.toNat).take (h.toNat - l.toNat))) else none
    | .slice e, .v (.c c) => (c.elems).bind fun es => (X.size e).bind fun z =>
      let l := lo.getD 0
      let h := hi.getD es.length
      if (mx.isNone ∨ hi.isSome) ∧ (∀ m, mx = some m → h ≤ m ∧ m ≤ es.length) ∧ (∀ r ∈ es, r.length = z) ∧ 0 ≤ l ∧ l ≤ h ∧ h ≤ es.length then
        some (.sl (fullOf mx c h es.length) ((es.drop l.toNat).take (h.toNat - l.toNat))) else none
    | _, _ => none
def Ctx.indexAddrA (X : Ctx) (t : TypeId) (x : AV) (i : Int) : Option C1 :=
  (X.P.underlying t).bind fun dt =>
    match dt, x with
    | .slice e, .v (.c (.psl ps)) => (X.size e).bind fun z => if z = 1 ∧ 0 ≤ i ∧ i < (ps.length : Int) then some (.ppt (ps.drop i.toNat)) else none
    | .slice e, .v (.c c) => (c.elems).bind fun es => (X.size e).bind fun z =>
      if 0 ≤ i then (es[i.toNat]?).bind fun r => if r.length = z then some (.dptr r) else none else none
    | .array n e, .v (.c (.dptr xs)) => (X.size e).bind fun z => if 0 ≤ i ∧ i < n then some (.dptr (xs.drop (i.toNat * z))) else none
    | .array n e, .v (.c (.ptr id off)) => (X.size e).bind fun z => if 0 ≤ i ∧ i < n then some (.ptr id (off + i.toNat * z)) else none
    | _, _ => none
def Ctx.indexA (X : Ctx) (t : TypeId) (x : AV) (i : Int) : Option AV :=
  (X.P.underlying t).bind fun dt =>
    match dt, x with
    | .string, .v (.c (.d (.str s))) => if 0 ≤ i then (s[i.toNat]?).map fun b => .d (.int .u8 b.toNat) else none
    | .array n e, .v (.agg cs) => (X.size e).bind fun z => if 0 ≤ i ∧ i < n then (X.part e cs (i.toNat * z)).map .v else none
    | _, _ => none
def Ctx.loadA (X : Ctx) (h : Hp) (t : TypeId) : AV → Option AV
  | .v (.c (.ptr id off)) => match h[id]? with
    | some (.box cs) => (X.part t cs off).map .v
    | _ => none
  | .v (.c (.dptr xs)) => (X.part t (xs.map .d) 0).map .v
  | .v (.c (.ppt ps)) => (X.part t (ps.map fun p => .ptr p.1 p.2) 0).map .v
  | .v (.c (.bptr id n off)) => match h[id]? with
    | some (.tok m _ (some ds)) => if n = m then (X.part t ds off).map .v else none
    | _ => none
  | _ => none
def Ctx.storeA (X : Ctx) (h : Hp) (t : TypeId) (a v : AV) : Option Hp :=
  match a with
  | .v (.c (.ptr id off)) => match h[id]? with
    | some (.box cs) => (v.cs).bind fun xs => (X.size t).bind fun n => if xs.length = n ∧ off + n ≤ cs.length then some (h.set id (.box (setAt cs off xs))) else none
    | _ => none
  | .v (.c (.bptr id n off)) => match h[id]? with
    | some (.tok m z (some ds)) => (v.cs).bind fun xs => (X.size t).bind fun k => if n = m ∧ xs.length = k ∧ off + k ≤ ds.length then some (h.set id (.tok m z (some (setAt ds off xs)))) else none
    | _ => none
  | _ => none
def msS (z n : Nat) : Option Ob → Option (Nat × List C1)
  | some (.tok m z' (some cs)) => if n = m ∧ z' = z then some (n, cs) else none
  | _ => none
def srS (z : Nat) : Option (List (List D)) → Option (Nat × List C1)
  | some ys => if ∀ r ∈ ys, r.length = z then some (ys.length, ys.flatten.map .d) else none
  | none => none
def C1.srcM (h : Hp) (z : Nat) : C1 → Option (Nat × List C1)
  | .msl id n => msS z n h[id]?
  | y => srS z y.source
def Ctx.appendA (X : Ctx) (h : Hp) (t : TypeId) (x y : AV) : Option (AV × Hp) :=
  match X.P.underlying t, x, y with
  | some (.slice e), .v (.c x), .v (.c y) =>
    (X.P.info? e).bind fun i => (i.zero).bind fun zr =>
      if zr.cells.size = i.size ∧ 0 < i.size then
        match x with
        | .own id es => (y.source).bind fun ys => match h[id]? with
          | some (.tok n z none) =>
            if es.length = n ∧ z = i.size ∧ (∀ r ∈ ys, r.length = z) ∧ (es.length + ys.length) * i.bytes ≤ 140737488355328 ∧ es.length + ys.length ≤ 4611686018427387904 then
              some (.v (.c (.own id (es ++ ys))), h.set id (.tok (es.length + ys.length) z none)) else none
          | _ => none
        | .msl id n => (y.srcM h i.size).bind fun p => match h[id]? with
          | some (.tok m z (some ds)) =>
            if n = m ∧ z = i.size ∧ (m + p.1) * i.bytes ≤ 140737488355328 ∧ m + p.1 ≤ 4611686018427387904 then
              some (.v (.c (.msl id (m + p.1))), h.set id (.tok (m + p.1) z (some (ds ++ p.2)))) else none
          | _ => none
        | .d (.sl true es) =>
          if X.U e = true then (y.srcM h i.size).bind fun p =>
            if es.isEmpty = true ∧ p.1 * i.bytes ≤ 140737488355328 ∧ p.1 ≤ 4611686018427387904 then some (.v (.c (.msl h.length p.1)), h ++ [.tok p.1 i.size (some p.2)]) else none
          else (y.source).bind fun ys =>
            if (∀ r ∈ es, r.length = i.size) ∧ (∀ r ∈ ys, r.length = i.size) ∧ (es.length + ys.length) * i.bytes ≤ 140737488355328 ∧ es.length + ys.length ≤ 4611686018427387904 then
              (if ys.length = 0 then some (.d (.sl true es), h) else some (.v (.c (.own h.length (es ++ ys))), h ++ [.tok (es.length + ys.length) i.size none])) else none
        | _ => none
      else none
  | _, _, _ => none
def minA (a b : AV) : Option AV :=
  match a, b with
  | .v (.c (.d (.int k x))), .v (.c (.d (.int _ y))) => some (.d (.int k (if y < x then y else x)))
  | _, _ => none
def maxA (a b : AV) : Option AV :=
  match a, b with
  | .v (.c (.d (.int k x))), .v (.c (.d (.int _ y))) => some (.d (.int k (if y > x then y else x)))
  | _, _ => none
def foldO (f : AV → AV → Option AV) : AV → List AV → Option AV
  | a, [] => some a
  | a, b :: r => (f a b).bind fun c => foldO f c r
def Ctx.lenA (X : Ctx) (t : TypeId) (x : AV) : Option AV :=
  (X.P.underlying t).bind fun dt =>
    match dt, x with
    | .string, .v (.c (.d (.str s))) => some (.i s.length)
    | .slice _, .v (.c (.psl ps)) => some (.i ps.length)
    | .slice _, .v (.c c) => (c.elems).map fun es => .i es.length
    | .array n _, _ => some (.i n)
    | _, _ => none
def Ctx.zero (X : Ctx) (t : TypeId) : Option AV := (X.P.info? t).bind fun i => i.zero.map litV
def AV.dv : AV → Option DV
  | .v (.c c) => c.toD.map .c
  | .v (.agg cs) => (allD cs).map .agg
  | .tup _ => none
def DV.V : DV → V
  | .c x => .c (.d x)
  | .agg xs => .agg (xs.map .d)
inductive KTy where
  | bool
  | int (k : IntKind)
  | string
  | agg (l : List Lf)
def isKeyA : KTy → DV → Bool
  | .int k, .c (.int k' _) => k' == k
  | .string, .c (.str _) => true
  | .bool, .c (.bool _) => true
  | .agg l, .agg xs => fitsL l xs
  | _, _ => false
def keyEq : DV → DV → Bool
  | .c (.int _ a), .c (.int _ b) => a == b
  | .c (.str a), .c (.str b) => a == b
  | .c (.bool a), .c (.bool b) => a == b
  | .agg xs, .agg ys => eqL xs ys
  | _, _ => false
abbrev MapA := List (Nat × DV × DV)
def findA (k : DV) (es : MapA) : Option Nat := es.findIdx? fun e => keyEq e.2.1 k
def keysOk (d : KTy) (k : DV) (es : MapA) : Bool := isKeyA d k && es.all fun e => isKeyA d e.2.1
def Ctx.mapOf (X : Ctx) (h : Hp) : AV → Option MapA
  | .v (.c .nilm) => some []
  | .v (.c (.mp id)) => match h[id]? with
    | some (.map es _) => some es
    | _ => none
  | _ => none
def Ctx.zeroV (X : Ctx) (t : TypeId) : Option V := (X.zero t).bind fun | .v z => some z | .tup _ => none
def Ctx.keyTy (X : Ctx) (k : TypeId) : Option KTy := (X.P.underlying k).bind fun | .int q => some (.int q) | .string => some .string | .bool => some .bool | .struct _ => (X.flat k).map .agg | _ => none
def Ctx.mapTy (X : Ctx) (t : TypeId) : Option (KTy × TypeId) := (X.P.underlying t).bind fun | .map k e => (X.keyTy k).map fun d => (d, e) | _ => none
def pickA (es : MapA) (k : DV) : Option DV := (findA k es).bind fun i => (es[i]?).map fun e => e.2.2
def Ctx.lookupA (X : Ctx) (h : Hp) (t : TypeId) (x i : AV) (ok : Bool) : Option AV :=
  (X.mapTy t).bind fun ty => (X.mapOf h x).bind fun es => (i.dv).bind fun k => (X.zeroV ty.2).bind fun z =>
    if keysOk ty.1 k es then
      let v := match pickA es k with | some v => v.V | none => z
      some (if ok then .tup [v, .c (.d (.bool (findA k es).isSome))] else .v v)
    else none
def putA (es : MapA) (clock : Nat) (k v : DV) : Ob :=
  match findA k es with
  | some i => .map (es.modify i fun e => (e.1, k, v)) clock
  | none => .map (es ++ [(clock, k, v)]) (clock + 1)
def Ctx.updateA (X : Ctx) (h : Hp) (t : TypeId) (x i v : AV) : Option Hp :=
  (X.mapTy t).bind fun ty => match x with
    | .v (.c (.mp id)) => match h[id]? with
      | some (.map es clock) => (i.dv).bind fun k => (v.dv).bind fun y => if keysOk ty.1 k es then some (h.set id (putA es clock k y)) else none
      | _ => none
    | _ => none
def Ctx.entryA (X : Ctx) (h : Hp) (t : TypeId) (x i : AV) : Option (AV × Hp) :=
  (X.mapTy t).bind fun ty => match x with
    | .v (.c (.mp id)) => match h[id]? with
      | some (.map es clock) => (i.dv).bind fun k => if keysOk ty.1 k es then
          (match findA k es with
          | some j => (es[j]?).map fun e => (.tup [e.2.2.V, .c (.d (.int .i64 e.1))], h.set id (.map (es.modify j fun e => (e.1, k, e.2.2)) clock))
          | none => (X.zeroV ty.2).bind fun z => ((AV.v z).dv).map fun y => (.tup [z, .c (.d (.int .i64 clock))], h.set id (.map (es ++ [(clock, k, y)]) (clock + 1))))
        else none
      | _ => none
    | _ => none
def Ctx.entryPutA (X : Ctx) (h : Hp) (x st v : AV) : Option Hp :=
  match x, st with
  | .v (.c (.mp id)), .v (.c (.d (.int _ n))) => match h[id]? with
    | some (.map es clock) => (v.dv).bind fun y => (es.findIdx? fun e => (e.1 : Int) == n).map fun j => h.set id (.map (es.modify j fun e => (e.1, e.2.1, y)) clock)
    | _ => none
  | _, _ => none
def Ctx.deleteA (X : Ctx) (h : Hp) (t : TypeId) (x i : AV) : Option Hp :=
  (X.mapTy t).bind fun ty => match x with
    | .v (.c (.mp id)) => match h[id]? with
      | some (.map es clock) => (i.dv).bind fun k => if keysOk ty.1 k es then
          some (h.set id (.map (match findA k es with | some j => es.eraseIdx j | none => es) clock))
        else none
      | _ => none
    | _ => none
def Ctx.indexAddrM (X : Ctx) (h : Hp) (t : TypeId) (x : AV) (i : Int) : Option C1 :=
  match x with
  | .v (.c (.msl id n)) => match X.P.underlying t, h[id]? with
    | some (.slice e), some (.tok m z (some _)) => if n = m ∧ 0 ≤ i ∧ i < n ∧ X.size e = some z then some (.bptr id n (i.toNat * z)) else none
    | _, _ => none
  | .v (.c (.mso id k o n)) => match X.P.underlying t, h[id]? with
    | some (.slice e), some (.tok m z (some _)) => if k = m ∧ 0 ≤ i ∧ i < n ∧ X.size e = some z then some (.bptr id k (o + i.toNat * z)) else none
    | _, _ => none
  | _ => X.indexAddrA t x i
def uTD (X : Ctx) : Option TypeDesc → Bool
  | some (.slice e) => X.U e
  | _ => false
def Ctx.uT (X : Ctx) (t : TypeId) : Bool := uTD X (X.P.underlying t)
def msC (id m o n z : Nat) (lo hi : Option Int) : Option C1 :=
  if 0 ≤ lo.getD 0 ∧ lo.getD 0 < hi.getD n ∧ hi.getD n ≤ n then some (.mso id m (o + (lo.getD 0).toNat * z) ((hi.getD n).toNat - (lo.getD 0).toNat)) else none
def msP (id m o n : Nat) (lo hi : Option Int) : Option Nat → Option Ob → Option C1
  | some z', some (.tok m' z (some _)) => if m = m' ∧ z' = z then msC id m o n z lo hi else none
  | _, _ => none
def msD (X : Ctx) (h : Hp) (id m o n : Nat) (lo hi : Option Int) : Option TypeDesc → Option C1
  | some (.slice e) => msP id m o n lo hi (X.size e) h[id]?
  | _ => none
def Ctx.sliceU (X : Ctx) (h : Hp) (t : TypeId) (x : AV) (lo hi mx : Option Int) : Option C1 :=
  match x, mx with
  | .v (.c (.msl id n)), none => msD X h id n 0 n lo hi (X.P.underlying t)
  | .v (.c (.mso id m o n)), none => msD X h id m o n lo hi (X.P.underlying t)
  | x, mx => (X.sliceA t x lo hi mx).map .d
def repC : Nat → List C1 → List C1
  | 0, _ => []
  | n + 1, l => l ++ repC n l
def clO (h : Hp) (id m o n : Nat) : Option Nat → Option (List C1) → Option Ob → Option Hp
  | some z', some zc, some (.tok m' z (some ds)) => if m = m' ∧ z' = z ∧ zc.length = z ∧ 0 < n ∧ o + n * z ≤ ds.length then some (h.set id (.tok m z (some (setAt ds o (repC n zc))))) else none
  | _, _, _ => none
def clD (X : Ctx) (h : Hp) (id m o n : Nat) : Option TypeDesc → Option Hp
  | some (.slice e) => clO h id m o n (X.size e) ((X.zero e).bind AV.cs) h[id]?
  | _ => none
def Ctx.clearA (X : Ctx) (h : Hp) (t : TypeId) : AV → Option Hp
  | .v (.c (.mso id m o n)) => clD X h id m o n (X.P.underlying t)
  | _ => none
def Ctx.lenM (X : Ctx) (h : Hp) (t : TypeId) (x : AV) : Option AV :=
  match x with
  | .v (.c (.msl id n)) => match X.P.underlying t, h[id]? with
    | some (.slice _), some (.tok m _ _) => if n = m then some (.i n) else none
    | _, _ => none
  | .v (.c (.mp id)) => match X.P.underlying t, h[id]? with
    | some (.map _ _), some (.map es _) => some (.i es.length)
    | _, _ => none
  | .v (.c (.mso _ _ _ n)) => match X.P.underlying t with
    | some (.slice _) => some (.i n)
    | _ => none
  | _ => X.lenA t x
def Ctx.nextA (X : Ctx) (h : Hp) (x : AV) (str : Bool) : Option (AV × Hp) :=
  match x, str with
  | .v (.c (.it id)), true => match h[id]? with
    | some (.siter s pos) =>
      if pos < s.length then some (.tup [.c (.d (.bool true)), .c (.d (.int .i64 pos)), .c (.d (.int .i32 (Utf8.decode ⟨s.toArray⟩ pos).1))], h.set id (.siter s (pos + (Utf8.decode ⟨s.toArray⟩ pos).2)))
      else some (.tup [.c (.d (.bool false))], h)
    | _ => none
  | _, _ => none
def okSrc (d : Option TypeDesc) (y : AV) : Bool :=
  match d with
  | some .string => (match y with | .v (.c (.d (.str _))) => true | _ => false)
  | some (.slice _) => (match y with | .v (.c (.d (.str _))) => false | _ => true)
  | _ => false
def Ctx.apz (X : Ctx) (e : TypeId) : Option (Nat × Nat) := (X.P.info? e).bind fun i => (i.zero).bind fun z => if z.cells.size = i.size ∧ 0 < i.size then some (i.size, i.bytes) else none
def rep : Nat → List D → List D
  | 0, _ => []
  | n + 1, l => l ++ rep n l
def mkZ (h : Hp) (l c : Int) : Option (Nat × Nat) → Option (List D) → Option (AV × Hp)
  | some (z, b), some zd => if 0 ≤ l ∧ l ≤ c ∧ zd.length = z ∧ (b : Int) * c ≤ 281474976710656 ∧ c ≤ 4611686018427387904 then some (.v (.c (.msl h.length l.toNat)), h ++ [.tok l.toNat z (some ((rep l.toNat zd).map .d))]) else none
  | _, _ => none
def mkD (X : Ctx) (h : Hp) (l c : Int) : Option TypeDesc → Option (AV × Hp)
  | some (.slice e) => mkZ h l c (X.apz e) ((X.zero e).bind fun zr => (zr.cs).bind allD)
  | _ => none
def Ctx.makeA (X : Ctx) (h : Hp) (t : TypeId) (l c : Int) : Option (AV × Hp) := mkD X h l c (X.P.underlying t)
def cpO (h : Hp) (id n : Nat) (z' : Option Nat) (src : Option (List (List D))) : Option Ob → Option (AV × Hp)
  | some (.tok m z (some ds)) => z'.bind fun z' => src.bind fun es =>
      if n = m ∧ z' = z ∧ 0 < z ∧ (∀ r ∈ es, r.length = z) ∧ es.length ≤ m then some (.i es.length, h.set id (.tok m z (some (es.flatten.map .d ++ ds.drop (es.length * z))))) else none
  | _ => none
def cpD (X : Ctx) (h : Hp) (x y : AV) : Option TypeDesc → Option (AV × Hp)
  | some (.slice e) => (match x, y with
    | .v (.c (.msl id n)), .v (.c cy) => cpO h id n (X.size e) cy.source h[id]?
    | _, _ => none)
  | _ => none
def Ctx.copyA (X : Ctx) (h : Hp) (t : TypeId) (x y : AV) : Option (AV × Hp) := cpD X h x y (X.P.underlying t)
def builtinA (X : Ctx) (h : Hp) (b : Builtin) (ts : List TypeId) (args : List AV) : Option OpR :=
  match b, ts, args with
  | .len, [t], [x] => (X.lenM h t x).map fun v => .val v h
  | .delete, t :: _, [x, i] => (X.deleteA h t x i).map fun h' => .val (.tup []) h'
  | .min, _, x :: r => (foldO minA x r).map fun v => .val v h
  | .max, _, x :: r => (foldO maxA x r).map fun v => .val v h
  | .append, [t, t'], [x, y] => if okSrc (X.P.underlying t') y then (X.appendA h t x y).map fun p => .val p.1 p.2 else none
  | .copy, [t, t'], [x, y] => if okSrc (X.P.underlying t') y then (X.copyA h t x y).map fun p => .val p.1 p.2 else none
  | .clear, [t], [x] => (X.clearA h t x).map fun h' => .val (.tup []) h'
  | _, _, _ => none
def COut.op : COut → OpR
  | .ret v h => .val v h
  | .pan x h => .pan x h
def callA (X : Ctx) (ρ : Operand → AV) (h : Hp) (c : Call) : Option OpR :=
  match c.callee with
  | .builtin b => builtinA X h b c.argTypes.toList (c.args.toList.map ρ)
  | .value f => match ρ f with
    | .v (.c (.fn f caps)) => match X.M f with
      | some m => (m (c.args.toList.map ρ ++ caps.map fun p => .v (.c (.ptr p.1 p.2)))).map fun v => .val v h
      | none => match X.N f with
        | some m => (m (c.args.toList.map ρ ++ caps.map fun p => .v (.c (.ptr p.1 p.2)))).map fun r => (r.at h).op
        | none => (X.K f (c.args.toList.map ρ ++ caps.map fun p => .v (.c (.ptr p.1 p.2))) h).map COut.op
    | _ => none
  | .invoke _ _ => none
def Ctx.place (X : Ctx) (t : TypeId) : Option (Nat → Option (Nat × Nat)) :=
  (X.P.underlying t).bind fun
    | .struct fs => (fs.toList.mapM (fun f => (X.P.info? f.type).map fun i => (f.offset, i.size))).map fun places => fun i => places[i]?
    | .array _ e => (X.size e).map fun z => fun i => some (i * z, z)
    | _ => none
def Ctx.buildA (X : Ctx) (t : TypeId) (parts : List (Nat × AV)) : Option AV :=
  (X.place t).bind fun pl => (X.zero t).bind fun z => (z.cs).bind fun cs => (fillA pl cs parts).map fun r => .v (.agg r)
def ptCs : List C1 → Option (List (Nat × Nat))
  | [] => some []
  | .ptr i o :: r => (ptCs r).map ((i, o) :: ·)
  | _ => none
def bsOut (z n : Nat) (cs : List C1) : Option (List D) → Option AV
  | some ds => some (.d (.sl true (chunk z n ds)))
  | none => if z = 1 ∧ n ≠ 0 then (ptCs cs).map fun ps => .v (.c (.psl ps)) else none
def Ctx.buildSliceA (X : Ctx) (t : TypeId) (len : Nat) (parts : List (Nat × AV)) : Option AV :=
  (X.P.underlying t).bind fun
    | .slice e => (X.size e).bind fun z => (X.zero e).bind fun zr => (zr.cs).bind fun zc =>
      if zc.length = z ∧ 0 < z ∧ len * z ≤ 1048576 then
        (fillA (fun i => some (i * z, z)) ((List.range (len * z)).map fun j => zc.getD (j % z) .top) parts).bind fun cs => bsOut z len cs (allD cs)
      else none
    | _ => none
def Ctx.buildMA (X : Ctx) (h : Hp) (t : TypeId) (len : Nat) (parts : List (Nat × AV)) : Option (AV × Hp) :=
  (X.P.underlying t).bind fun
    | .slice e => (X.size e).bind fun z => (X.zero e).bind fun zr => (zr.cs).bind fun zc =>
      if zc.length = z ∧ 0 < z ∧ 0 < len ∧ len * z ≤ 1048576 then
        (fillA (fun i => some (i * z, z)) ((List.range (len * z)).map fun j => zc.getD (j % z) .top) parts).map fun cs => (.v (.c (.msl h.length len)), h ++ [.tok len z (some cs)])
      else none
    | _ => none
def Ctx.uS (X : Ctx) (t : TypeId) (n : Nat) : Bool := n != 0 && (match X.P.underlying t with | some (.slice e) => X.U e | _ => false)
def newA (B : Option (TypeId × TypeId)) (e : TypeId) (cs : List C1) : Ob :=
  match B, cs with
  | some (T, el), [.nilp, .d (.sl true [])] => if T = e ∧ T ≠ el then .bld T el [] true else .box cs
  | _, _ => .box cs
def assertA (ty : TypeId) : Option Bool → Option V → AV → Option AV
  | some false, z, .v (.c (.ifc t xs ag)) => if t = ty then some (.tup [if ag then .agg (xs.map .d) else .c (.d (xs.headD .any)), .c (.d (.bool true))]) else z.map fun z => .tup [z, .c (.d (.bool false))]
  | some false, z, .v (.c .nili) => z.map fun z => .tup [z, .c (.d (.bool false))]
  | _, _, _ => none
def ptrsA : List AV → Option (List (Nat × Nat))
  | [] => some []
  | .v (.c (.ptr id off)) :: r => (ptrsA r).map fun l => (id, off) :: l
  | _ => none
def opR (X : Ctx) (ρ : Operand → AV) (h : Hp) (o : Oper) : Option OpR :=
  match o.op with
  | .move x | .assign x => some (.val (ρ x) h)
  | .pick c a b => match ρ c with
    | .v (.c (.d (.bool t))) => some (.val (if t then ρ a else ρ b) h)
    | _ => none
  | .alloc e => (X.zero e).bind fun z => (z.cs).map fun cs => .val (.v (.c (.ptr h.length 0))) (h ++ [newA X.B e cs])
  | .box _ x => ((ρ x).cs).map fun cs => .val (.v (.c (.ptr h.length 0))) (h ++ [.box cs])
  | .build t parts => (X.buildA t (parts.toList.map fun p => (p.1, ρ p.2))).map fun v => .val v h
  | .buildSlice t n parts => if X.uS t n = true then (X.buildMA h t n (parts.toList.map fun p => (p.1, ρ p.2))).map fun p => .val p.1 p.2 else (X.buildSliceA t n (parts.toList.map fun p => (p.1, ρ p.2))).map fun v => .val v h
  | .load t a => (X.loadA h t (ρ a)).map fun v => .val v h
  | .store t a x => (X.storeA h t (ρ a) (ρ x)).map fun h' => .skip h'
  | .nilCheck x => match ρ x with
    | .v (.c (.ptr id off)) => some (.val (.v (.c (.ptr id off))) h)
    | .v (.c (.dptr xs)) => some (.val (.v (.c (.dptr xs))) h)
    | .v (.c (.bptr id n off)) => some (.val (.v (.c (.bptr id n off))) h)
    | _ => none
  | .binOp op t x y _ => if nilY y = true then (nilS op (X.P.underlying t) (ρ x)).map fun c => .val (.v (.c c)) h else (X.binA op t (ρ x) (ρ y)).map fun d => .val (.d d) h
  | .unOp op _ x => (unA op (ρ x)).map fun d => .val (.d d) h
  | .convert src dst x => (X.convA src dst (ρ x)).map fun d => .val (.d d) h
  | .makeInterface t x => match X.P.underlying t with
    | some (.interface _) => none
    | some _ => (match ρ x with
      | .v (.c c) => (c.toD).map fun d => .val (.v (.c (.ifc t [d] false))) h
      | .v (.agg cs) => (allD cs).map fun ds => .val (.v (.c (.ifc t ds true))) h
      | _ => none)
    | none => none
  | .slice t x lo hi mx => (optI ρ lo).bind fun l => (optI ρ hi).bind fun u => (optI ρ mx).bind fun m => if X.uT t = true then (X.sliceU h t (ρ x) l u m).map fun c => .val (.v (.c c)) h else (X.sliceA t (ρ x) l u m).map fun d => .val (.d d) h
  | .fieldAddr t x f => match X.P.underlying t with
    | some (.struct fs) => (fs[f]?).bind fun fd => (X.size fd.type).bind fun n => if n = 0 then none else match ρ x with
      | .v (.c (.ptr id off)) => some (.val (.v (.c (.ptr id (off + fd.offset)))) h)
      | .v (.c (.dptr xs)) => some (.val (.v (.c (.dptr (xs.drop fd.offset)))) h)
      | .v (.c (.bptr id m off)) => some (.val (.v (.c (.bptr id m (off + fd.offset)))) h)
      | _ => none
    | _ => none
  | .field t x f => match X.P.underlying t with
    | some (.struct fs) => (fs[f]?).bind fun fd => match ρ x with
      | .v (.agg cs) => (X.part fd.type cs fd.offset).map fun v => .val (.v v) h
      | _ => none
    | _ => none
  | .indexAddr t x i => (intOfA (ρ i)).bind fun n => (X.indexAddrM h t (ρ x) n).map fun c => .val (.v (.c c)) h
  | .index t x i => (intOfA (ρ i)).bind fun n => (X.indexA t (ρ x) n).map fun v => .val v h
  | .extract t i => match ρ t with
    | .tup xs => (xs[i]?).map fun x => .val (.v x) h
    | _ => none
  | .call c => callA X ρ h c
  | .makeMap _ none => some (.val (.v (.c (.mp h.length))) (h ++ [.map [] 0]))
  | .lookup t x i ok => (X.lookupA h t (ρ x) (ρ i) ok).map fun v => .val v h
  | .mapUpdate t m k v => (X.updateA h t (ρ m) (ρ k) (ρ v)).map fun h' => .skip h'
  | .mapEntry t m k => (X.entryA h t (ρ m) (ρ k)).map fun p => .val p.1 p.2
  | .entryStore _ m st v => (X.entryPutA h (ρ m) (ρ st) (ρ v)).map fun h' => .skip h'
  | .range t x => match X.P.underlying t, ρ x with
    | some .string, .v (.c (.d (.str s))) => some (.val (.v (.c (.it h.length))) (h ++ [.siter s 0]))
    | _, _ => none
  | .next x str => (X.nextA h (ρ x) str).map fun p => .val p.1 p.2
  | .makeSlice t l c => (intOfA (ρ l)).bind fun n => (intOfA (ρ c)).bind fun k => (X.makeA h t n k).map fun p => .val p.1 p.2
  | .panic x => match ρ x with
    | .v (.c (.ifc t xs ag)) => some (.pan (.ifc t xs ag) h)
    | _ => none
  | .typeAssert x _ ty true => (assertA ty (X.isIf ty) (X.zeroV ty) (ρ x)).map fun v => .val v h
  | .makeFunc (.func f) first captured => if first = #[] then (ptrsA (captured.toList.map ρ)).map fun l => .val (.v (.c (.fn f l))) h else none
  | _ => none
def opA (X : Ctx) (s : S) (o : Oper) : Option OpR := opR X (X.ev s) s.h o
inductive Ex where
  | normal
  | exit (id : Nat)
  | ret
  | pan (x : C1)
def stepA (X : Ctx) (o : Oper) (s : S) : Option (Ex × S) :=
  (opA X s o).map fun
    | .val v h => (.normal, ({ s with h } : S).putO o.dst v)
    | .skip h => (.normal, ({ s with h } : S).putO o.dst .top)
    | .pan x h => (.pan x, { s with h })
def wantA (ops : Array Oper) (o : Oper) (s : S) : Option Bool :=
  match o.guard with
  | none => some true
  | some (j, w) => (((ops[j]?).bind (·.dst)).map s.get).bind fun
    | .v (.c (.d (.bool b))) => some (b == w)
    | .tup [] => some false
    | _ => none
def runOps (X : Ctx) (ops : Array Oper) : List Oper → S → Option (Ex × S)
  | [], s => some (.normal, s)
  | o :: r, s => (wantA ops o s).bind fun w =>
    if w then (stepA X o s).bind fun p => match p.1 with | .normal => runOps X ops r p.2 | e => some (e, p.2)
    else runOps X ops r (s.putO o.dst (.tup []))
end Go.Ab
namespace Go.Ab
open Go.RowKit
theorem EnvOk.lt_len {A : Actn} {E : Env} {h : Hp} (hE : EnvOk A E h) {j : Nat} {b : Nat} (hj : j < h.length) (hb : E.ρ j = some b) : b < E.w.heap.size := (hE.base j b hj hb).2
def KeepId (E : Env) (h : Hp) (E' : Env) (h' : Hp) (id : Nat) : Prop :=
  ∀ o, h[id]? = some o → match o with
    | .tok m z _ => ∃ m' c', h'[id]? = some (.tok m' z c') ∧ m ≤ m' ∧
        (m' = m → E'.ρ id = E.ρ id ∧ ∀ b vs T, E.ρ id = some b → E.w.heap[b]? = some (.cells vs T (0, 0)) → ∃ vs' T', E'.w.heap[b]? = some (.cells vs' T' (0, 0)) ∧ vs'.size = vs.size)
    | o => (∃ o', h'[id]? = some o' ∧ o'.kind = o.kind) ∧ E'.ρ id = E.ρ id
structure Stp (D : Bool) (E : Env) (h : Hp) (id : Nat) (E' : Env) (h' : Hp) : Prop where
  os : E'.w.os = E.w.os
  tape : E'.w.tape = E.w.tape
  output : E'.w.output = E.w.output
  size : E.w.heap.size ≤ E'.w.heap.size
  blk : ∀ k, k < E.w.heap.size → ¬ (id < h.length ∧ E.ρ id = some k) → E'.w.heap[k]? = E.w.heap[k]?
  idle : id ≤ h.length
  len : h.length ≤ h'.length
  len' : h'.length ≤ max h.length (id + 1)
  ρ : ∀ j, j < h.length → j ≠ id → E'.ρ j = E.ρ j
  hh : ∀ j, j < h.length → j ≠ id → h'[j]? = h[j]?
  F : ∀ b o, E.F b o → E'.F b o
  F' : ∀ b o, E'.F b o → E.F b o ∨ (b < E'.w.heap.size ∧ (E.w.heap.size ≤ b ∨ (id < h.length ∧ E.ρ id = some b)))
  same : ∀ b o, E.F b o → E'.w.cell? ⟨b, o, none⟩ = E.w.cell? ⟨b, o, none⟩
  at' : ∀ b, id < h'.length → E'.ρ id = some b → b < E'.w.heap.size ∧ (E.w.heap.size ≤ b ∨ (id < h.length ∧ E.ρ id = some b))
  keep : KeepId E h E' h' id
  drw : D = true → E.w.drawn ≤ E'.w.drawn := by first | exact fun _ => Nat.le_refl _ | exact fun _ => Nat.le_succ _
theorem Stp.evo {A : Actn} {E E' : Env} {h h' : Hp} {id : Nat} (hE : EnvOk A E h) (st : Stp A.G.dr E h id E' h') : Evo h.length E h E' h' where
  frz := st.F
  same := st.same
  len := st.len
  keep j hj o ho hk := by
    by_cases hji : j = id
    · subst hji
      have := st.keep o ho
      cases o <;> first | exact absurd rfl hk | exact this
    exact ⟨⟨o, by rw [st.hh j hj hji]; exact ho, rfl⟩, st.ρ j hj hji⟩
  tok j hj m z c hm := by
    by_cases hji : j = id
    · subst hji
      exact st.keep _ hm
    refine ⟨m, c, by rw [st.hh j hj hji]; exact hm, Nat.le_refl _, fun _ => ⟨st.ρ j hj hji, fun b vs T hb hv => ?_⟩⟩
    refine ⟨vs, T, ?_, rfl⟩
    rw [st.blk b (hE.lt_len hj hb) (fun ⟨h1, h2⟩ => hji (hE.inj j id b hj h1 hb h2))]
    exact hv
theorem Ob.rel_other {A : Actn} {E E' : Env} {h h' : Hp} {id : Nat} (hE : EnvOk A E h) (st : Stp A.G.dr E h id E' h') {j : Nat} (hj : j < h.length) (hji : j ≠ id) {o : Ob} (hr : o.rel E h j) : o.rel E' h' j := by
  have ev := st.evo hE
  have hnew : ∀ b, E.ρ j = some b → ∀ o, E'.F b o → E.F b o := fun b hb o hf => by
    rcases st.F' b o hf with h1 | ⟨_, h2 | ⟨h3, h4⟩⟩
    · exact h1
    · have := hE.lt_len hj hb; omega
    exact absurd (hE.inj j id b hj h3 hb h4) hji
  have hblk : ∀ b, E.ρ j = some b → E'.w.heap[b]? = E.w.heap[b]? := fun b hb =>
    st.blk b (hE.lt_len hj hb) (fun ⟨h1, h2⟩ => hji (hE.inj j id b hj h1 hb h2))
  cases o with
  | dead => exact hr
  | box cs =>
    obtain ⟨b, vs, T, hb, hv, hc, hf⟩ := hr
    exact ⟨b, vs, T, (st.ρ j hj hji).trans hb, (hblk b hb).trans hv, hc.evo ev (Nat.le_refl _), fun o ho => hf o (hnew b hb o ho)⟩
  | tok n z c =>
    cases c with
    | none =>
      obtain ⟨hz, h0 | ⟨b, vs, T, hb, hv, hs, hf⟩⟩ := hr
      · exact ⟨hz, .inl ⟨(st.ρ j hj hji).trans h0.1, h0.2⟩⟩
      · exact ⟨hz, .inr ⟨b, vs, T, (st.ρ j hj hji).trans hb, (hblk b hb).trans hv, hs, fun o ho hx => hf o ho (hnew b hb o hx)⟩⟩
    | some ds =>
      obtain ⟨hz, h0 | ⟨b, vs, T, hb, hv, hs, hc, hf⟩⟩ := hr
      · exact ⟨hz, .inl ⟨(st.ρ j hj hji).trans h0.1, h0.2⟩⟩
      · exact ⟨hz, .inr ⟨b, vs, T, (st.ρ j hj hji).trans hb, (hblk b hb).trans hv, hs, hc.evo ev (Nat.le_refl _), fun o hx => hf o (hnew b hb o hx)⟩⟩
  | siter s pos =>
    obtain ⟨b, hb, hv⟩ := hr
    exact ⟨b, (st.ρ j hj hji).trans hb, (hblk b hb).trans hv⟩
  | pin ob =>
    obtain ⟨b, hb, hv, hf⟩ := hr
    exact ⟨b, (st.ρ j hj hji).trans hb, (hblk b hb).trans hv, fun o ho => hf o (hnew b hb o ho)⟩
  | map es clock =>
    obtain ⟨b, ents, hb, hv, hl, hf, hx⟩ := hr
    exact ⟨b, ents, (st.ρ j hj hji).trans hb, (hblk b hb).trans hv, hl, fun o hx => hf o (hnew b hb o hx), fun j p hj => let ⟨e, he, h1, h2, h3⟩ := hx j p hj; ⟨e, he, h1, h2.evo ev, h3.evo ev⟩⟩
  | bld T e l on =>
    obtain ⟨b, hb, hf, hx⟩ := hr
    refine ⟨b, (st.ρ j hj hji).trans hb, fun o hx => hf o (hnew b hb o hx), fun hon => ?_⟩
    obtain ⟨p, v, h1, h2, h3, hT, h4⟩ := hx hon
    have hg : ∀ g, v.ownBlock = some g → E'.w.heap[g]? = E.w.heap[g]? := fun g hg => by
      obtain ⟨q1, q2, q3, q4⟩ := h4 g hg
      exact st.blk g q1 (fun ⟨a1, a2⟩ => q4 id a1 a2)
    refine ⟨p, v, (hblk b hb).trans h1, h2, ⟨h3.1, ?_⟩, hT, fun g hgo => ?_⟩
    · rcases h3.2 with h0 | ⟨g, cap, cur, rfl, q1, q2, q3⟩
      · exact .inl h0
      exact .inr ⟨g, cap, cur, rfl, q1, (hg g rfl).trans q2, q3⟩
    obtain ⟨q1, q2, q3, q4⟩ := h4 g hgo
    refine ⟨Nat.lt_of_lt_of_le q1 st.size, q2, fun o hf' => ?_, fun k hk hkg => ?_⟩
    · rcases st.F' g o hf' with a1 | ⟨_, a2 | ⟨a3, a4⟩⟩
      · exact q3 o a1
      · omega
      exact q4 id a3 a4
    by_cases hki : k = id
    · subst hki
      rcases (st.at' g hk hkg).2 with a1 | ⟨a2, a3⟩
      · omega
      exact q4 k a2 a3
    have hk' : k < h.length := by have := st.len'; have := st.idle; omega
    rw [st.ρ k hk' hki] at hkg
    exact q4 k hk' hkg
theorem Stp.ok {A : Actn} {E E' : Env} {h h' : Hp} {id : Nat} (hE : EnvOk A E h) (st : Stp A.G.dr E h id E' h') (hob : ∀ o : Ob, h'[id]? = some o → o.rel E' h' id) : EnvOk A E' h' := by
  have ev := st.evo hE
  have hlt : ∀ j, j < h'.length → j ≠ id → j < h.length := fun j hj hji => by
    have := st.len'; have := st.idle; omega
  have hidb : ∀ b, id < h.length → E.ρ id = some b → A.w0.heap.size ≤ b := fun b h1 h2 => (hE.base id b h1 h2).1
  have hsz := hE.below.size
  refine ⟨?_, ?_, ?_, ?_, ?_, ?_, ?_, ?_, hE.ginv, fun hD => Nat.le_trans (hE.drw hD) (st.drw hD)⟩
  · exact hE.below.trans ⟨st.os, st.tape, st.output, st.size, fun k hk => st.blk k (by omega) (fun ⟨h1, h2⟩ => by have := hidb k h1 h2; omega)⟩
  · intro b o hf
    rcases st.F' b o hf with h1 | ⟨h2, _⟩
    · exact Nat.lt_of_lt_of_le (hE.lt b o h1) st.size
    exact h2
  · intro b o hb hf
    rcases st.F' b o hf with h1 | ⟨_, h2 | ⟨h3, h4⟩⟩
    · exact hE.old b o hb h1
    · omega
    have := hidb b h3 h4; omega
  · exact fun b o hf => st.F b o (hE.f0 b o hf)
  · intro i j b hi hj hbi hbj
    by_cases hii : i = id
    · by_cases hjj : j = id
      · rw [hii, hjj]
      have hj' := hlt j hj hjj
      rw [st.ρ j hj' hjj] at hbj
      subst hii
      rcases (st.at' b hi hbi).2 with h1 | ⟨h1, h2⟩
      · have := hE.lt_len hj' hbj; omega
      exact hE.inj i j b h1 hj' h2 hbj
    have hi' := hlt i hi hii
    rw [st.ρ i hi' hii] at hbi
    by_cases hjj : j = id
    · subst hjj
      rcases (st.at' b hj hbj).2 with h1 | ⟨h1, h2⟩
      · have := hE.lt_len hi' hbi; omega
      exact hE.inj i j b hi' h1 hbi h2
    have hj' := hlt j hj hjj
    rw [st.ρ j hj' hjj] at hbj
    exact hE.inj i j b hi' hj' hbi hbj
  · intro i b hi hb
    by_cases hii : i = id
    · subst hii
      obtain ⟨h1, h2 | ⟨h2, h3⟩⟩ := st.at' b hi hb
      · exact ⟨by omega, h1⟩
      exact ⟨hidb b h2 h3, h1⟩
    have hi' := hlt i hi hii
    rw [st.ρ i hi' hii] at hb
    obtain ⟨h1, h2⟩ := hE.base i b hi' hb
    exact ⟨h1, Nat.lt_of_lt_of_le h2 st.size⟩
  · intro i o ho
    by_cases hii : i = id
    · subst hii; exact hob o ho
    have hi' := hlt i (lt_of_get ho) hii
    rw [st.hh i hi' hii] at ho
    exact Ob.rel_other hE st hi' hii (hE.ob i o ho)
  exact fun g xs hg => (hE.glob g xs hg).evo ev
def Env.newOb (E : Env) (n : Nat) (w : World) : Env := { ρ := fun i => if i = n then some E.w.heap.size else E.ρ i, F := E.F, w }
theorem cell?_alloc_old (w : World) (o : Obj) (a : Addr) (h : a.block < w.heap.size) : (w.alloc o).cell? a = w.cell? a :=
  World.cell?_of_block (Below.heap_alloc w o a.block h)
theorem Stp.new {A : Actn} {E : Env} {h : Hp} (hE : EnvOk A E h) (ob : Obj) (o : Ob) : Stp A.G.dr E h h.length (E.newOb h.length (E.w.alloc ob)) (h ++ [o]) where
  os := rfl
  tape := rfl
  output := rfl
  size := by simp [Env.newOb]
  blk k hk _ := Below.heap_alloc _ _ _ hk
  idle := Nat.le_refl _
  len := by simp
  len' := by simp
  ρ j hj hji := by simp [Env.newOb, hji]
  hh j hj _ := by simp [List.getElem?_append_left hj]
  F _ _ h := h
  F' _ _ h := .inl h
  same b o hf := cell?_alloc_old _ _ _ (hE.lt b o hf)
  at' b _ hb := by
    simp [Env.newOb] at hb
    subst hb
    exact ⟨by simp [Env.newOb], .inl (Nat.le_refl _)⟩
  keep o ho := by have := lt_of_get ho; omega
theorem new_at {E : Env} {h : Hp} {w : World} {o : Ob} : At (E.newOb h.length w) (h ++ [o]) o.kind h.length E.w.heap.size :=
  ⟨⟨o, by simp, rfl⟩, by simp [Env.newOb]⟩
def Env.newFz (E : Env) (w : World) : Env := { ρ := E.ρ, F := fun b o => E.F b o ∨ (E.w.heap.size ≤ b ∧ b < w.heap.size), w }
theorem Stp.fz {A : Actn} {E : Env} {h : Hp} (hE : EnvOk A E h) (w : World) (hos : w.os = E.w.os) (ht : w.tape = E.w.tape) (ho : w.output = E.w.output)
    (hs : E.w.heap.size ≤ w.heap.size) (hblk : ∀ k, k < E.w.heap.size → w.heap[k]? = E.w.heap[k]?) (hdr : A.G.dr = true → E.w.drawn ≤ w.drawn) : Stp A.G.dr E h h.length (E.newFz w) h where
  drw := hdr
  os := hos
  tape := ht
  output := ho
  size := hs
  blk k hk _ := hblk k hk
  idle := Nat.le_refl _
  len := Nat.le_refl _
  len' := by omega
  ρ _ _ _ := rfl
  hh _ _ _ := rfl
  F _ _ h := .inl h
  F' b o h := by
    rcases h with h | ⟨h1, h2⟩
    · exact .inl h
    exact .inr ⟨h2, .inl (by omega)⟩
  same b o hf := World.cell?_of_block (hblk b (hE.lt b o hf))
  at' b hb _ := by omega
  keep o ho := by have := lt_of_get ho; omega
theorem Stp.fz_ok {A : Actn} {E E' : Env} {h : Hp} (hE : EnvOk A E h) (st : Stp A.G.dr E h h.length E' h) : EnvOk A E' h :=
  st.ok hE (fun o ho => by have := lt_of_get ho; omega)
end Go.Ab
