/-
  Texts of the layer and of the laws, put together: Ab8m, Ab8s, Ab8e. No law is stated here.
-/
import Derived.Test.YtckjmdppjealdaaGreatDoorAbVol3
import Derived.MapKept
import Derived.Laws.RangeAny
import Derived.Laws.MakeOwn
import Derived.Laws.CopyRow
import Derived.Laws.StructEq
set_option linter.unusedSimpArgs false
set_option linter.unusedVariables false
set_option maxRecDepth 100000

/-
  Each operation of the code does what the abstract one says: maps, the elements of slices that can still be written, the runes of a string.
-/
namespace Go.Ab
open Go.RowKit Go.MapKept

section
variable {X : Ctx} {A : Actn} {E : Env} {s : S} {a : Act}

theorem beq_flip {α : Type} [BEq α] [LawfulBEq α] (a b : α) : (a == b) = (b == a) := by
  rw [Bool.eq_iff_iff, beq_iff_eq, beq_iff_eq]
  exact eq_comm

def Env.setB (E : Env) (b : Nat) (o : Obj) : Env := { E with w := { E.w with heap := E.w.heap.setIfInBounds b o } }

theorem Stp.obj {A : Actn} {E : Env} {h : Hp} (hE : EnvOk A E h) {id b : Nat} {o o' : Ob} {ob' : Obj} (hid : h[id]? = some o) (hk : o.kind ≠ 2) (hk' : o'.kind = o.kind) (hρ : E.ρ id = some b)
    (hs : ∀ off, E.F b off → (E.setB b ob').w.cell? ⟨b, off, none⟩ = E.w.cell? ⟨b, off, none⟩) : Stp A.G.dr E h id (E.setB b ob') (h.set id o') where
  os := rfl
  tape := rfl
  output := rfl
  size := by simp [Env.setB]
  blk k _ hne := by
    have hkb : b ≠ k := fun e => hne ⟨lt_of_get hid, by rw [hρ, e]⟩
    simp [Env.setB, hkb]
  idle := Nat.le_of_lt (lt_of_get hid)
  len := by simp
  len' := by simp; omega
  ρ _ _ _ := rfl
  hh j _ hji := by rw [List.getElem?_set_ne (Ne.symm hji)]
  F _ _ h := h
  F' _ _ h := .inl h
  same c off hf := by
    by_cases hcb : c = b
    · subst hcb; exact hs off hf
    · refine World.cell?_of_block ?_
      show (E.w.heap.setIfInBounds b ob')[c]? = _
      simp [Ne.symm hcb]
  at' c _ hc := by
    have hc' : E.ρ id = some c := hc
    rw [hρ] at hc'
    cases hc'
    have := (hE.base id b (lt_of_get hid) hρ).2
    exact ⟨by simpa [Env.setB] using this, .inr ⟨lt_of_get hid, hρ⟩⟩
  keep o2 ho := by
    rw [hid] at ho
    cases ho
    have hat : (h.set id o')[id]? = some o' := by simp [lt_of_get hid]
    cases o <;> first | exact absurd rfl hk | exact ⟨⟨o', hat, hk'⟩, rfl⟩

theorem setB_heap {E : Env} {b : Nat} {o o' : Obj} (hb : E.w.heap[b]? = some o) : (E.setB b o').w.heap[b]? = some o' := (heap_set hb).1

theorem dv_rel {E : Env} {h : Hp} {x : AV} {p : DV} {v : Value} (hr : x.rel E h v) (hp : x.dv = some p) : p.rel E.w E.F v := by
  unfold AV.dv at hp
  split at hp
  · simp only [Option.map_eq_some_iff] at hp
    obtain ⟨d, hd, rfl⟩ := hp
    exact toD_rel hr hd
  · simp only [Option.map_eq_some_iff] at hp
    obtain ⟨ds, hd, rfl⟩ := hp
    obtain ⟨vs, rfl, hc⟩ := hr
    obtain ⟨hl, hr⟩ := allD_rel _ _ _ hc hd
    exact ⟨vs, rfl, hl.symm, hr⟩
  · cases hp

theorem dV_rel {E : Env} {h : Hp} {p : DV} {v : Value} (hr : p.rel E.w E.F v) : p.V.rel E h v := by
  cases p with
  | c x => exact hr
  | agg xs =>
    obtain ⟨vs, rfl, hl, hx⟩ := hr
    refine ⟨vs, rfl, by simp [hl], fun j x hj => ?_⟩
    rw [List.getElem?_map] at hj
    cases hq : xs[j]? with
    | none => simp [hq] at hj
    | some d =>
      simp [hq] at hj
      subst hj
      obtain ⟨u, hu, hru⟩ := hx j d hq
      exact ⟨u, hu, hru, hru.one⟩

theorem isKey_sim {d : TypeDesc} {k : DV} {w : World} {F : Fz} {v : Value} (hr : k.rel w F v) (h : isKeyA d k = true) : IsKey d v := by
  cases k with
  | agg xs => cases d <;> simp [isKeyA] at h
  | c x =>
    cases d <;> cases x <;> simp [isKeyA] at h
    · cases hr; trivial
    · subst h; cases hr; exact rfl
    · cases hr; trivial

theorem bytes_eq_iff {a b : ByteArray} : (a == b) = (a.data.toList == b.data.toList) := by
  rw [Bool.eq_iff_iff, bytes_beq]
  constructor
  · rintro rfl; simp
  · intro h
    have : a.data.toList = b.data.toList := by simpa using h
    have h2 : a.data = b.data := Array.toList_inj.1 this
    cases a; cases b; simp at h2; rw [h2]

theorem sameNow_sim {d : TypeDesc} {k e : DV} {w : World} {F : Fz} {uk ue : Value} (hk : k.rel w F uk) (he : e.rel w F ue) (h1 : isKeyA d k = true) (h2 : isKeyA d e = true) : Instr.sameNow d uk ue = some (keyEq e k) := by
  cases k with
  | agg xs => cases d <;> simp [isKeyA] at h1
  | c x => cases e with
    | agg xs => cases d <;> simp [isKeyA] at h2
    | c y =>
      cases d <;> cases x <;> simp [isKeyA] at h1 <;> cases y <;> simp [isKeyA] at h2
      · cases hk; cases he
        simp only [Instr.sameNow, keyEq, Option.some.injEq]
        exact Bool.beq_comm
      · subst h1; subst h2
        cases hk; cases he
        simp only [Instr.sameNow, keyEq, if_true, Option.some.injEq]
        exact beq_flip _ _
      · cases hk; cases he
        simp only [Instr.sameNow, keyEq, Option.some.injEq]
        rw [bytes_eq_iff]
        exact beq_flip _ _

theorem find_sim {d : TypeDesc} {kd : DV} {w : World} {F : Fz} {k : Value} (hk : kd.rel w F k) (hka : isKeyA d kd = true) : ∀ (l : List MapEntry) (es : MapA) (i : Nat), l.length = es.length →
    (∀ (j : Nat) (p : Nat × DV × DV), es[j]? = some p → ∃ e, l[j]? = some e ∧ p.2.1.rel w F e.key) → (es.all fun e => isKeyA d e.2.1) = true →
    Instr.findNow d k l i = some ((findA kd es).bind fun j => (l[j]?).map fun e => (i + j, e.val))
  | [], es, i, hl, _, _ => by
    have : es = [] := List.eq_nil_of_length_eq_zero (by simpa using hl.symm)
    subst this
    rfl
  | e :: l, es, i, hl, hr, ha => by
    cases es with
    | nil => simp at hl
    | cons p es =>
      obtain ⟨e', he', hkr⟩ := hr 0 p rfl
      cases he'
      simp only [List.all_cons, Bool.and_eq_true] at ha
      have hs := sameNow_sim hk hkr hka ha.1
      have ih := find_sim hk hka l es (i + 1) (by simpa using hl) (fun j p hj => by simpa using hr (j + 1) p (by simpa using hj)) ha.2
      simp only [Instr.findNow, hs, findA, List.findIdx?_cons]
      cases hq : keyEq p.2.1 kd with
      | true => simp
      | false =>
        rw [ih]
        simp only [findA, Bool.false_eq_true, if_false]
        cases hf : es.findIdx? fun e => keyEq e.2.1 kd with
        | none => simp
        | some j => simp [Nat.add_assoc, Nat.add_comm 1 j]

theorem mapTy_inv {t : TypeId} {ty : TypeDesc × TypeId} (h : X.mapTy t = some ty) : ∃ k, X.P.underlying t = some (.map k ty.2) ∧ X.P.underlying k = some ty.1 := by
  unfold Ctx.mapTy at h
  cases hu : X.P.underlying t with
  | none => simp [hu] at h
  | some d =>
    simp only [hu, Option.bind_some] at h
    cases d <;> simp at h
    obtain ⟨d, hd, rfl⟩ := h
    exact ⟨_, rfl, hd⟩

theorem zeroV_inv {t : TypeId} {z : V} (h : X.zeroV t = some z) : ∃ v, (∀ w, (zeroValue t).run X.P w = .ok v w) ∧ z.rel E s.h v := by
  unfold Ctx.zeroV at h
  cases hz : X.zero t with
  | none => simp [hz] at h
  | some x =>
    simp only [hz, Option.bind_some] at h
    cases x with
    | tup => cases h
    | v y =>
      cases h
      obtain ⟨i, v, hi, hv, he⟩ := zero_inv hz
      have := litV_rel E s.h v
      rw [← he] at this
      exact ⟨v, fun w => by simp [zeroValue, typeInfo, hi, hv], this⟩

/-- What a map is, as it lies. -/
structure MapAt (E : Env) (b : Nat) (es : MapA) (clock : Nat) (ents : Array MapEntry) : Prop where
  heap : E.w.heap[b]? = some (.map ents clock)
  size : ents.size = es.length
  un : ∀ o, ¬ E.F b o
  rd : ∀ (j : Nat) (p : Nat × DV × DV), es[j]? = some p → ∃ e, ents[j]? = some e ∧ e.born = p.1 ∧ p.2.1.rel E.w E.F e.key ∧ p.2.2.rel E.w E.F e.val

theorem MapAt.keys {b : Nat} {es : MapA} {clock : Nat} {ents : Array MapEntry} (m : MapAt E b es clock ents) : ents.toList.length = es.length ∧ ∀ (j : Nat) (p : Nat × DV × DV), es[j]? = some p → ∃ e, ents.toList[j]? = some e ∧ p.2.1.rel E.w E.F e.key :=
  ⟨by simpa using m.size, fun j p hj => let ⟨e, he, _, hk, _⟩ := m.rd j p hj; ⟨e, by simpa using he, hk⟩⟩

theorem findA_lt {k : DV} {es : MapA} {i : Nat} (h : findA k es = some i) : ∃ p, es[i]? = some p ∧ keyEq p.2.1 k = true := by
  unfold findA at h
  rw [List.findIdx?_eq_some_iff_getElem] at h
  obtain ⟨hi, h1, _⟩ := h
  exact ⟨es[i], List.getElem?_eq_getElem hi, h1⟩

theorem lookup_sim (hn : Now X A E s a) {t : TypeId} {x i v : AV} {ux ui : Value} {ok : Bool} (hx : x.rel E s.h ux) (hi : i.rel E s.h ui) (h : X.lookupA s.h t x i ok = some v) :
    ∃ u, (Instr.lookup t ux ui ok).run X.P E.w = .ok u E.w ∧ v.rel E s.h u := by
  unfold Ctx.lookupA at h
  simp only [Option.bind_eq_some_iff] at h
  obtain ⟨ty, hty, es, hes, k, hk, z, hz, h⟩ := h
  obtain ⟨kt, hu, hd⟩ := mapTy_inv hty
  obtain ⟨zv, hzv, hzr⟩ := zeroV_inv (E := E) (s := s) hz
  split at h
  · rename_i hok
    simp only [keysOk, Bool.and_eq_true] at hok
    obtain ⟨hka, hall⟩ := hok
    have hkr := dv_rel hi hk
    have hik := isKey_sim hkr hka
    have hshow : ∀ (l : Array MapEntry), l.toList.length = es.length → (∀ (j : Nat) (p : Nat × DV × DV), es[j]? = some p → ∃ e, l.toList[j]? = some e ∧ p.2.1.rel E.w E.F e.key) →
        (∀ (j : Nat) (p : Nat × DV × DV), es[j]? = some p → ∃ e, l[j]? = some e ∧ p.2.2.rel E.w E.F e.val) →
        (∀ (w : World), (Instr.lookup t ux ui ok).run X.P E.w = (do
          Instr.checkKey l.isEmpty 10000 kt ui
          let (v, k2) ← match ← Instr.findKey kt ui l.toList with
            | some (_, v) => pure (v, true)
            | none => pure (← zeroValue ty.2, false)
          pure (if ok then .tuple #[v, .bool k2] else v) : Sem Value).run X.P E.w) →
        ∃ u, (Instr.lookup t ux ui ok).run X.P E.w = .ok u E.w ∧ v.rel E s.h u := by
      intro l hl hkeys hvals hrun
      have hf := find_sim hkr hka l.toList es 0 hl hkeys hall
      rw [hrun E.w]
      have hck := run_checkKey (P := X.P) (w := E.w) hd hik l.isEmpty 9999
      have hfk := run_findKey (P := X.P) (w := E.w) hd hf
      simp only [Sem.run_bind, hck, Result.andThen_ok, hfk]
      cases hfa : findA k es with
      | none =>
        have hpk : pickA es k = none := by simp [pickA, hfa]
        simp only [hfa, Option.bind_none, Sem.run_bind, hzv, Result.andThen_ok, Sem.run_pure]
        simp only [hpk, hfa, Option.some.injEq] at h
        subst h
        cases ok
        · exact ⟨zv, rfl, hzr⟩
        · refine ⟨_, rfl, [zv, .bool false], rfl, rfl, fun j x hj => ?_⟩
          match j with
          | 0 => cases hj; exact ⟨_, rfl, hzr⟩
          | 1 => cases hj; exact ⟨_, rfl, .bool _⟩
          | j + 2 => simp at hj
      | some j =>
        obtain ⟨p, hp, _⟩ := findA_lt hfa
        obtain ⟨e, he, hv⟩ := hvals j p hp
        have hpk : pickA es k = some p.2.2 := by simp [pickA, hfa, hp]
        have he' : l.toList[j]? = some e := by simpa using he
        simp only [hfa, Option.bind_some, he', Option.map_some, Sem.run_pure, Result.andThen_ok]
        simp only [hpk, hfa, Option.some.injEq] at h
        subst h
        cases ok
        · exact ⟨e.val, rfl, dV_rel hv⟩
        · refine ⟨_, rfl, [e.val, .bool true], rfl, rfl, fun j x hj => ?_⟩
          match j with
          | 0 => cases hj; exact ⟨_, rfl, dV_rel hv⟩
          | 1 => cases hj; exact ⟨_, rfl, .bool _⟩
          | j + 2 => simp at hj
    unfold Ctx.mapOf at hes
    split at hes
    · cases hes
      have : ux = .map none := hx
      subst this
      refine hshow #[] rfl (fun j p hj => by simp at hj) (fun j p hj => by simp at hj) fun w => ?_
      simp only [Instr.lookup, Sem.run_bind, run_underlying hu, Result.andThen_ok, Sem.run_pure]
      rfl
    · rename_i id
      split at hes
      · rename_i es' clock hid
        cases hes
        obtain ⟨b, ⟨_, hρ⟩, rfl⟩ := hx
        obtain ⟨b', ents, hρ', hb, hl, hun, hrd⟩ := hn.rel.env.ob id _ hid
        rw [hρ] at hρ'
        cases hρ'
        have m : MapAt E b es clock ents := ⟨hb, hl, hun, hrd⟩
        refine hshow ents m.keys.1 m.keys.2 (fun j p hj => let ⟨e, he, _, _, hv⟩ := hrd j p hj; ⟨e, he, hv⟩) fun w => ?_
        simp only [Instr.lookup, Sem.run_bind, run_underlying hu, Result.andThen_ok, Go.MapKept.run_getObj_map hb, Sem.run_pure]
        rfl
      · cases hes
    · cases hes
  · cases h

/-- The map's block becomes another map. -/
theorem map_done (hn : Now X A E s a) {id b : Nat} {es es' : MapA} {clock clock' : Nat} {ents ents' : Array MapEntry} (hid : s.h[id]? = some (.map es clock)) (hρ : E.ρ id = some b) (m : MapAt E b es clock ents)
    (hl : ents'.size = es'.length) (hr : ∀ (j : Nat) (p : Nat × DV × DV), es'[j]? = some p → ∃ e, ents'[j]? = some e ∧ e.born = p.1 ∧ p.2.1.rel E.w E.F e.key ∧ p.2.2.rel E.w E.F e.val) :
    Evo s.h.length E s.h (E.setB b (.map ents' clock')) (s.h.set id (.map es' clock')) ∧ EnvOk A (E.setB b (.map ents' clock')) (s.h.set id (.map es' clock')) := by
  have st := Stp.obj hn.rel.env (o' := .map es' clock') (ob' := .map ents' clock') hid (fun h => by cases h) rfl hρ (fun off hf => absurd hf (m.un off))
  have ev := st.evo hn.rel.env
  refine ⟨ev, st.ok hn.rel.env fun o ho => ?_⟩
  simp [lt_of_get hid] at ho
  subst ho
  exact ⟨b, ents', hρ, setB_heap m.heap, hl, m.un, fun j p hj => let ⟨e, he, h1, h2, h3⟩ := hr j p hj; ⟨e, he, h1, h2.evo ev, h3.evo ev⟩⟩

theorem mapat_of (hn : Now X A E s a) {id : Nat} {es : MapA} {clock : Nat} {ux : Value} (hx : (C1.mp id).rel E s.h ux) (hid : s.h[id]? = some (.map es clock)) : ∃ b ents, ux = .map (some b) ∧ E.ρ id = some b ∧ MapAt E b es clock ents := by
  obtain ⟨b, ⟨_, hρ⟩, rfl⟩ := hx
  obtain ⟨b', ents, hρ', hb, hl, hun, hrd⟩ := hn.rel.env.ob id _ hid
  rw [hρ] at hρ'
  cases hρ'
  exact ⟨b, ents, rfl, hρ, hb, hl, hun, hrd⟩

theorem keyEq_val {d : TypeDesc} {a b : DV} {w : World} {F : Fz} {u v : Value} (ha : a.rel w F u) (hb : b.rel w F v) (h1 : isKeyA d a = true) (h2 : isKeyA d b = true) (h : keyEq a b = true) : u = v := by
  have hs := sameNow_sim hb ha h2 h1
  rw [h] at hs
  obtain ⟨r, hr, hiff⟩ := sameNow_of_keys (isKey_sim hb h2) (isKey_sim ha h1)
  rw [hr] at hs
  cases hs
  exact (hiff.1 rfl).symm

theorem modify_get {α : Type} {l : List α} {f : α → α} {i j : Nat} : (l.modify i f)[j]? = if i = j then (l[j]?).map f else l[j]? := by
  rw [List.getElem?_modify]
  split <;> cases l[j]? <;> rfl

theorem update_sim (hn : Now X A E s a) {t : TypeId} {x i v : AV} {ux ui uv : Value} {h' : Hp} (hx : x.rel E s.h ux) (hi : i.rel E s.h ui) (hv : v.rel E s.h uv) (h : X.updateA s.h t x i v = some h') :
    ∃ E', (Instr.mapUpdate t ux ui uv).run X.P E.w = .ok () E'.w ∧ Evo s.h.length E s.h E' h' ∧ EnvOk A E' h' := by
  unfold Ctx.updateA at h
  simp only [Option.bind_eq_some_iff] at h
  obtain ⟨ty, hty, h⟩ := h
  obtain ⟨kt, hu, hd⟩ := mapTy_inv hty
  split at h
  · rename_i id
    split at h
    · rename_i es clock hid
      simp only [Option.bind_eq_some_iff] at h
      obtain ⟨k, hk, y, hy, h⟩ := h
      split at h
      · rename_i hok
        cases h
        simp only [keysOk, Bool.and_eq_true] at hok
        obtain ⟨hka, hall⟩ := hok
        have hkr := dv_rel hi hk
        have hyr := dv_rel hv hy
        have hik := isKey_sim hkr hka
        obtain ⟨b, ents, rfl, hρ, m⟩ := mapat_of hn hx hid
        have hf := find_sim hkr hka ents.toList es 0 m.keys.1 m.keys.2 hall
        have hck := run_checkKey (P := X.P) (w := E.w) hd hik false 9999
        have hfk := run_findKey (P := X.P) (w := E.w) hd hf
        cases hfa : findA k es with
        | none =>
          rw [hfa] at hfk
          simp only [Option.bind_none] at hfk
          have hrun : (Instr.mapUpdate t (.map (some b)) ui uv).run X.P E.w = .ok () (E.setB b (.map (ents.push { key := ui, val := uv, born := clock }) (clock + 1))).w := by
            simp only [Instr.mapUpdate, Sem.run_bind, run_underlying hu, Result.andThen_ok, Go.MapKept.run_getObj_map m.heap, hck, hfk, run_setObj_map _ m.heap]
            rfl
          have hput : putA es clock k y = .map (es ++ [(clock, k, y)]) (clock + 1) := by simp [putA, hfa]
          rw [hput]
          obtain ⟨ev, hok⟩ := map_done (es' := es ++ [(clock, k, y)]) (clock' := clock + 1) (ents' := ents.push { key := ui, val := uv, born := clock }) hn hid hρ m (by simp [m.size]) (fun j p hj => by
            by_cases hjl : j < es.length
            · rw [List.getElem?_append_left hjl] at hj
              rw [Array.getElem?_push_lt (by rw [m.size]; exact hjl)]
              have := m.rd j p hj
              rwa [Array.getElem?_eq_getElem (by rw [m.size]; exact hjl)] at this
            · rw [List.getElem?_append_right (by omega)] at hj
              have hj0 : j - es.length = 0 := by have := lt_of_get hj; simp at this; omega
              rw [hj0] at hj
              cases hj
              have : j = ents.size := by rw [m.size]; omega
              subst this
              exact ⟨_, Array.getElem?_push_size, rfl, hkr, hyr⟩)
          exact ⟨_, hrun, ev, hok⟩
        | some j =>
          obtain ⟨p, hp, hpk⟩ := findA_lt hfa
          obtain ⟨e, he, hb1, hb2, hb3⟩ := m.rd j p hp
          have he' : ents.toList[j]? = some e := by simpa using he
          rw [hfa] at hfk
          simp only [Option.bind_some, he', Option.map_some, Nat.zero_add] at hfk
          have hpa : isKeyA ty.1 p.2.1 = true := by
            rw [List.all_eq_true] at hall
            exact hall p (List.mem_of_getElem? hp)
          have hkey : e.key = ui := keyEq_val hb2 hkr hpa hka hpk
          have hrun : (Instr.mapUpdate t (.map (some b)) ui uv).run X.P E.w = .ok () (E.setB b (.map (ents.modify j fun e => { e with key := ui, val := uv }) clock)).w := by
            simp only [Instr.mapUpdate, Sem.run_bind, run_underlying hu, Result.andThen_ok, Go.MapKept.run_getObj_map m.heap, hck, hfk, he, Option.map_some, Option.getD_some, hkey, run_keyThatStays hik, run_setObj_map _ m.heap]
            rfl
          have hput : putA es clock k y = .map (es.modify j fun e => (e.1, k, y)) clock := by simp [putA, hfa]
          rw [hput]
          obtain ⟨ev, hok⟩ := map_done (es' := es.modify j fun e => (e.1, k, y)) (clock' := clock) (ents' := ents.modify j fun e => { e with key := ui, val := uv }) hn hid hρ m (by simp [m.size]) (fun i q hq => by
            rw [modify_get] at hq
            rw [Array.getElem?_modify]
            by_cases hji : j = i
            · subst hji
              rw [if_pos rfl, hp] at hq
              cases hq
              rw [if_pos rfl, he]
              exact ⟨_, rfl, hb1, hkr, hyr⟩
            · rw [if_neg hji] at hq ⊢
              exact m.rd i q hq)
          exact ⟨_, hrun, ev, hok⟩
      · cases h
    · cases h
  · cases h

theorem entry_sim (hn : Now X A E s a) {t : TypeId} {x i v : AV} {ux ui : Value} {h' : Hp} (hx : x.rel E s.h ux) (hi : i.rel E s.h ui) (h : X.entryA s.h t x i = some (v, h')) :
    ∃ u E', (Instr.mapEntry t ux ui).run X.P E.w = .ok u E'.w ∧ Evo s.h.length E s.h E' h' ∧ EnvOk A E' h' ∧ v.rel E' h' u := by
  unfold Ctx.entryA at h
  simp only [Option.bind_eq_some_iff] at h
  obtain ⟨ty, hty, h⟩ := h
  obtain ⟨kt, hu, hd⟩ := mapTy_inv hty
  split at h
  · rename_i id
    split at h
    · rename_i es clock hid
      simp only [Option.bind_eq_some_iff] at h
      obtain ⟨k, hk, h⟩ := h
      split at h
      · rename_i hok
        simp only [keysOk, Bool.and_eq_true] at hok
        obtain ⟨hka, hall⟩ := hok
        have hkr := dv_rel hi hk
        have hik := isKey_sim hkr hka
        obtain ⟨b, ents, rfl, hρ, m⟩ := mapat_of hn hx hid
        have hf := find_sim hkr hka ents.toList es 0 m.keys.1 m.keys.2 hall
        have hck := run_checkKey (P := X.P) (w := E.w) hd hik false 9999
        have hfk := run_findKey (P := X.P) (w := E.w) hd hf
        cases hfa : findA k es with
        | none =>
          simp only [hfa, Option.bind_eq_some_iff, Option.map_eq_some_iff] at h
          obtain ⟨z, hz, y, hy, h⟩ := h
          cases h
          obtain ⟨zv, hzv, hzr⟩ := zeroV_inv (E := E) (s := s) hz
          have hyr : y.rel E.w E.F zv := dv_rel (E := E) (h := s.h) (x := .v z) hzr hy
          rw [hfa] at hfk
          simp only [Option.bind_none] at hfk
          have hrun : (Instr.mapEntry t (.map (some b)) ui).run X.P E.w = .ok (.tuple #[zv, .int .i64 clock]) (E.setB b (.map (ents.push { key := ui, val := zv, born := clock }) (clock + 1))).w := by
            simp only [Instr.mapEntry, Sem.run_bind, run_underlying hu, Result.andThen_ok, Go.MapKept.run_getObj_map m.heap, hck, hfk, hzv, run_setObj_map _ m.heap, Sem.run_pure, goInt]
            rfl
          obtain ⟨ev, hok⟩ := map_done (es' := es ++ [(clock, k, y)]) (clock' := clock + 1) (ents' := ents.push { key := ui, val := zv, born := clock }) hn hid hρ m (by simp [m.size]) (fun j p hj => by
            by_cases hjl : j < es.length
            · rw [List.getElem?_append_left hjl] at hj
              rw [Array.getElem?_push_lt (by rw [m.size]; exact hjl)]
              have := m.rd j p hj
              rwa [Array.getElem?_eq_getElem (by rw [m.size]; exact hjl)] at this
            · rw [List.getElem?_append_right (by omega)] at hj
              have hj0 : j - es.length = 0 := by have := lt_of_get hj; simp at this; omega
              rw [hj0] at hj
              cases hj
              have : j = ents.size := by rw [m.size]; omega
              subst this
              exact ⟨_, Array.getElem?_push_size, rfl, hkr, hyr⟩)
          refine ⟨_, _, hrun, ev, hok, [zv, .int .i64 clock], rfl, rfl, fun j x hj => ?_⟩
          match j with
          | 0 => cases hj; exact ⟨_, rfl, hzr.evo ev (Nat.le_refl _)⟩
          | 1 => cases hj; exact ⟨_, rfl, .int _ _⟩
          | j + 2 => simp at hj
        | some j =>
          obtain ⟨p, hp, hpk⟩ := findA_lt hfa
          obtain ⟨e, he, hb1, hb2, hb3⟩ := m.rd j p hp
          have he' : ents.toList[j]? = some e := by simpa using he
          simp only [hfa, hp, Option.map_some] at h
          cases h
          rw [hfa] at hfk
          simp only [Option.bind_some, he', Option.map_some, Nat.zero_add] at hfk
          have hpa : isKeyA ty.1 p.2.1 = true := by
            rw [List.all_eq_true] at hall
            exact hall p (List.mem_of_getElem? hp)
          have hkey : e.key = ui := keyEq_val hb2 hkr hpa hka hpk
          have hrun : (Instr.mapEntry t (.map (some b)) ui).run X.P E.w = .ok (.tuple #[e.val, .int .i64 p.1]) (E.setB b (.map (ents.modify j fun e => { e with key := ui }) clock)).w := by
            simp only [Instr.mapEntry, Sem.run_bind, run_underlying hu, Result.andThen_ok, Go.MapKept.run_getObj_map m.heap, hck, hfk, he, Option.map_some, Option.getD_some, hkey, run_keyThatStays hik, run_setObj_map _ m.heap, Sem.run_pure, goInt, hb1]
            rfl
          obtain ⟨ev, hok⟩ := map_done (es' := es.modify j fun e => (e.1, k, e.2.2)) (clock' := clock) (ents' := ents.modify j fun e => { e with key := ui }) hn hid hρ m (by simp [m.size]) (fun i q hq => by
            rw [modify_get] at hq
            rw [Array.getElem?_modify]
            by_cases hji : j = i
            · subst hji
              rw [if_pos rfl, hp] at hq
              cases hq
              rw [if_pos rfl, he]
              exact ⟨_, rfl, hb1, hkr, hb3⟩
            · rw [if_neg hji] at hq ⊢
              exact m.rd i q hq)
          refine ⟨_, _, hrun, ev, hok, [e.val, .int .i64 p.1], rfl, rfl, fun j x hj => ?_⟩
          match j with
          | 0 => cases hj; exact ⟨_, rfl, dV_rel (hb3.evo ev)⟩
          | 1 => cases hj; exact ⟨_, rfl, .int _ _⟩
          | j + 2 => simp at hj
      · cases h
    · cases h
  · cases h

theorem findIdx_sim {b : Nat} {es : MapA} {clock : Nat} {n : Int} : ∀ (l : List MapEntry) (es : MapA), l.length = es.length → (∀ (j : Nat) (p : Nat × DV × DV), es[j]? = some p → ∃ e, l[j]? = some e ∧ e.born = p.1) →
    l.findIdx? (fun e => (e.born : Int) == n) = es.findIdx? (fun e => (e.1 : Int) == n)
  | [], es, hl, _ => by
    have : es = [] := List.eq_nil_of_length_eq_zero (by simpa using hl.symm)
    subst this
    rfl
  | e :: l, es, hl, hr => by
    cases es with
    | nil => simp at hl
    | cons p es =>
      obtain ⟨e', he', hb⟩ := hr 0 p rfl
      cases he'
      rw [List.findIdx?_cons, List.findIdx?_cons, hb, findIdx_sim (b := b) (es := []) (clock := clock) l es (by simpa using hl) (fun j p hj => by simpa using hr (j + 1) p (by simpa using hj))]

theorem entryPut_sim (hn : Now X A E s a) {t : TypeId} {x i v : AV} {ux ui uv : Value} {h' : Hp} (hx : x.rel E s.h ux) (hi : i.rel E s.h ui) (hv : v.rel E s.h uv) (h : X.entryPutA s.h x i v = some h') :
    ∃ E', (Instr.entryStore t ux ui uv).run X.P E.w = .ok () E'.w ∧ Evo s.h.length E s.h E' h' ∧ EnvOk A E' h' := by
  unfold Ctx.entryPutA at h
  split at h
  · rename_i id k n
    split at h
    · rename_i es clock hid
      simp only [Option.bind_eq_some_iff, Option.map_eq_some_iff] at h
      obtain ⟨y, hy, j, hj, rfl⟩ := h
      have hyr := dv_rel hv hy
      have hiv := int_inv (rel_d hi)
      subst hiv
      obtain ⟨b, ents, rfl, hρ, m⟩ := mapat_of hn hx hid
      have hf : ents.findIdx? (fun e => (e.born : Int) == n) = some j := by
        have e0 : ents = ents.toList.toArray := by simp
        rw [e0, List.findIdx?_toArray, findIdx_sim (b := 0) (es := []) (clock := 0) ents.toList es m.keys.1 (fun j p hj => let ⟨e, he, h1, _⟩ := m.rd j p hj; ⟨e, by simpa using he, h1⟩)]
        exact hj
      have hrun : (Instr.entryStore t (.map (some b)) (.int k n) uv).run X.P E.w = .ok () (E.setB b (.map (ents.modify j fun e => { e with val := uv }) clock)).w := by
        simp only [Instr.entryStore, Sem.run_bind, Result.andThen_ok, Go.MapKept.run_getObj_map m.heap, asInt, asIntOf, Sem.run_pure, hf, run_setObj_map _ m.heap]
        rfl
      obtain ⟨ev, hok⟩ := map_done (es' := es.modify j fun e => (e.1, e.2.1, y)) (clock' := clock) (ents' := ents.modify j fun e => { e with val := uv }) hn hid hρ m (by simp [m.size]) (fun i q hq => by
        rw [modify_get] at hq
        rw [Array.getElem?_modify]
        by_cases hji : j = i
        · subst hji
          rw [if_pos rfl] at hq
          simp only [Option.map_eq_some_iff] at hq
          obtain ⟨p, hp, rfl⟩ := hq
          obtain ⟨e, he, h1, h2, h3⟩ := m.rd j p hp
          rw [if_pos rfl, he]
          exact ⟨_, rfl, h1, h2, hyr⟩
        · rw [if_neg hji] at hq ⊢
          exact m.rd i q hq)
      exact ⟨_, hrun, ev, hok⟩
    · cases h
  · cases h

theorem delete_sim (hn : Now X A E s a) {t ty : TypeId} {ts : List TypeId} {x i : AV} {ux ui : Value} {h' : Hp} (hx : x.rel E s.h ux) (hi : i.rel E s.h ui) (h : X.deleteA s.h t x i = some h') :
    ∃ E', (Builtin.delete_ (t :: ts).toArray ty #[ux, ui]).run X.P E.w = .ok (.tuple #[]) E'.w ∧ Evo s.h.length E s.h E' h' ∧ EnvOk A E' h' := by
  unfold Ctx.deleteA at h
  simp only [Option.bind_eq_some_iff] at h
  obtain ⟨ty', hty, h⟩ := h
  obtain ⟨kt, hu, hd⟩ := mapTy_inv hty
  split at h
  · rename_i id
    split at h
    · rename_i es clock hid
      simp only [Option.bind_eq_some_iff] at h
      obtain ⟨k, hk, h⟩ := h
      split at h
      · rename_i hok
        cases h
        simp only [keysOk, Bool.and_eq_true] at hok
        obtain ⟨hka, hall⟩ := hok
        have hkr := dv_rel hi hk
        have hik := isKey_sim hkr hka
        obtain ⟨b, ents, rfl, hρ, m⟩ := mapat_of hn hx hid
        have hf := find_sim hkr hka ents.toList es 0 m.keys.1 m.keys.2 hall
        have hck := run_checkKey (P := X.P) (w := E.w) hd hik ents.isEmpty 9999
        have hfk := run_findKey (P := X.P) (w := E.w) hd hf
        cases hfa : findA k es with
        | none =>
          rw [hfa] at hfk
          simp only [Option.bind_none] at hfk
          have hrun : (Builtin.delete_ (t :: ts).toArray ty #[.map (some b), ui]).run X.P E.w = .ok (.tuple #[]) (E.setB b (.map ents clock)).w := by
            simp only [Builtin.delete_, Sem.run_bind, List.getElem?_toArray, List.getElem?_cons_zero, List.getElem?_cons_succ, run_underlying hu, Result.andThen_ok, Go.MapKept.run_getObj_map m.heap, hck, hfk, run_setObj_map _ m.heap, Sem.run_pure]
            rfl
          obtain ⟨ev, hok⟩ := map_done (es' := es) (clock' := clock) (ents' := ents) hn hid hρ m m.size m.rd
          exact ⟨_, hrun, ev, hok⟩
        | some j =>
          obtain ⟨p, hp, hpk⟩ := findA_lt hfa
          obtain ⟨e, he, hb1, hb2, hb3⟩ := m.rd j p hp
          have he' : ents.toList[j]? = some e := by simpa using he
          rw [hfa] at hfk
          simp only [Option.bind_some, he', Option.map_some, Nat.zero_add] at hfk
          have hjl : j < ents.size := by rw [m.size]; exact lt_of_get hp
          have hrun : (Builtin.delete_ (t :: ts).toArray ty #[.map (some b), ui]).run X.P E.w = .ok (.tuple #[]) (E.setB b (.map (ents.eraseIdxIfInBounds j) clock)).w := by
            simp only [Builtin.delete_, Sem.run_bind, List.getElem?_toArray, List.getElem?_cons_zero, List.getElem?_cons_succ, run_underlying hu, Result.andThen_ok, Go.MapKept.run_getObj_map m.heap, hck, hfk, run_setObj_map _ m.heap, Sem.run_pure]
            rfl
          have herase : (ents.eraseIdxIfInBounds j).toList = ents.toList.eraseIdx j := by
            unfold Array.eraseIdxIfInBounds
            rw [dif_pos hjl, Array.toList_eraseIdx]
          obtain ⟨ev, hok⟩ := map_done (es' := es.eraseIdx j) (clock' := clock) (ents' := ents.eraseIdxIfInBounds j) hn hid hρ m (by
              rw [← Array.length_toList, herase, List.length_eraseIdx, List.length_eraseIdx, Array.length_toList, m.size]) (fun i q hq => by
            rw [← Array.getElem?_toList, herase, List.getElem?_eraseIdx]
            rw [List.getElem?_eraseIdx] at hq
            split at hq
            · rename_i hij
              rw [if_pos hij]
              obtain ⟨e, he, h1⟩ := m.rd i q hq
              exact ⟨e, by simpa using he, h1⟩
            · rename_i hij
              rw [if_neg hij]
              obtain ⟨e, he, h1⟩ := m.rd (i + 1) q hq
              exact ⟨e, by simpa using he, h1⟩)
          exact ⟨_, hrun, ev, hok⟩
      · cases h
    · cases h
  · cases h

/-! ### The runes of a string -/

theorem range_sim (hn : Now X A E s a) {t : TypeId} {l : List UInt8} {u : Value} (hu : X.P.underlying t = some .string) (hx : (C1.d (.str l)).rel E s.h u) :
    ∃ v E', (Instr.range t u).run X.P E.w = .ok v E'.w ∧ Evo s.h.length E s.h E' (s.h ++ [.siter l 0]) ∧ EnvOk A E' (s.h ++ [.siter l 0]) ∧ (C1.it s.h.length).rel E' (s.h ++ [.siter l 0]) v := by
  obtain ⟨b, rfl, rfl⟩ := str_inv hx
  have hb : (⟨b.data.toList.toArray⟩ : ByteArray) = b := by simp
  have st := Stp.new hn.rel.env (.stringIter b 0) (.siter b.data.toList 0)
  have ev := st.evo hn.rel.env
  refine ⟨_, _, run_range_string E.w t b hu, ev, st.ok hn.rel.env fun o ho => ?_, ?_⟩
  · simp at ho
    subst ho
    refine ⟨E.w.heap.size, by simp [Env.newOb], ?_⟩
    rw [hb]
    exact heap_alloc_new _ _
  · exact ⟨_, new_at, rfl⟩

theorem next_sim (hn : Now X A E s a) {ty : TypeId} {x v : AV} {u : Value} {str : Bool} {h' : Hp} (hx : x.rel E s.h u) (h : X.nextA s.h x str = some (v, h')) :
    ∃ r E', (Instr.next u str ty).run X.P E.w = .ok r E'.w ∧ Evo s.h.length E s.h E' h' ∧ EnvOk A E' h' ∧ v.rel E' h' r := by
  unfold Ctx.nextA at h
  split at h
  · rename_i id
    split at h
    · rename_i l pos hid
      obtain ⟨b, ⟨_, hρ⟩, rfl⟩ := hx
      obtain ⟨b', hρ', hb⟩ := hn.rel.env.ob id _ hid
      rw [hρ] at hρ'
      cases hρ'
      have hsz : (⟨l.toArray⟩ : ByteArray).size = l.length := by simp [ByteArray.size]
      split at h
      · rename_i hlt
        cases h
        have hlt' : pos < (⟨l.toArray⟩ : ByteArray).size := by rw [hsz]; exact hlt
        have st := Stp.obj hn.rel.env (o' := .siter l (pos + (Utf8.decode ⟨l.toArray⟩ pos).2)) (ob' := .stringIter ⟨l.toArray⟩ (pos + (Utf8.decode ⟨l.toArray⟩ pos).2)) hid (fun h => by cases h) rfl hρ (fun off _ => by
          simp only [World.cell?, setB_heap hb, hb])
        have ev := st.evo hn.rel.env
        have hok := st.ok hn.rel.env fun o ho => by
          simp [lt_of_get hid] at ho
          subst ho
          exact ⟨b, hρ, setB_heap hb⟩
        refine ⟨.tuple #[.bool true, .int .i64 pos, .int .i32 (Utf8.decode ⟨l.toArray⟩ pos).1], _, ?_, ev, hok, [.bool true, .int .i64 pos, .int .i32 (Utf8.decode ⟨l.toArray⟩ pos).1], rfl, rfl, fun j x hj => ?_⟩
        · simp only [Instr.next, getObj, setObj, Sem.run_bind, Sem.run, hb, Result.andThen, hlt', if_true, goInt]
          rfl
        · match j with
          | 0 => cases hj; exact ⟨_, rfl, .bool _⟩
          | 1 => cases hj; exact ⟨_, rfl, .int _ _⟩
          | 2 => cases hj; exact ⟨_, rfl, .int _ _⟩
          | j + 3 => simp at hj
      · rename_i hlt
        cases h
        have hlt' : ¬ pos < (⟨l.toArray⟩ : ByteArray).size := by rw [hsz]; exact hlt
        refine ⟨.tuple #[.bool false], E, ?_, Evo.refl (Nat.le_refl _), hn.rel.env, [.bool false], rfl, rfl, fun j x hj => ?_⟩
        · simp only [Instr.next, getObj, Sem.run_bind, Sem.run, hb, Result.andThen, hlt', if_false]
          rfl
        · match j with
          | 0 => cases hj; exact ⟨_, rfl, .bool _⟩
          | j + 1 => simp at hj
    · cases h
  · cases h

/-! ### Slices that can still be written -/

theorem lenM_msl {t ty : TypeId} {id n m z : Nat} {c : Option (List C1)} {e : TypeId} {u : Value} (hx : (C1.msl id n).rel E s.h u) (hu : X.P.underlying t = some (.slice e)) (hid : s.h[id]? = some (.tok m z c)) (hn : n = m) :
    (Builtin.len_ #[t] ty #[u]).run X.P E.w = .ok (.int .i64 n) E.w := by
  obtain ⟨_, m', z', c', hid', _, ho⟩ := hx
  rw [hid] at hid'
  cases hid'
  have ho := ho hn
  subst hn
  unfold OwnRow at ho
  split at ho
  · obtain ⟨⟨base, rfl, hsp⟩, rfl⟩ := ho
    simp [Builtin.len_, run_underlying hu, goInt]
  · obtain ⟨cap, _, _, rfl, _⟩ := ho
    simp [Builtin.len_, run_underlying hu, goInt]

theorem lenM_mso {t ty : TypeId} {id m o n : Nat} {e : TypeId} {u : Value} (hx : (C1.mso id m o n).rel E s.h u) (hu : X.P.underlying t = some (.slice e)) :
    (Builtin.len_ #[t] ty #[u]).run X.P E.w = .ok (.int .i64 n) E.w := by
  obtain ⟨b, cap, rfl, _⟩ := hx
  simp [Builtin.len_, run_underlying hu, goInt]

theorem lenM_map (henv : EnvOk A E s.h) {t ty : TypeId} {id clock : Nat} {es : MapA} {k e : TypeId} {u : Value} (hx : (C1.mp id).rel E s.h u) (hu : X.P.underlying t = some (.map k e)) (hid : s.h[id]? = some (.map es clock)) :
    (Builtin.len_ #[t] ty #[u]).run X.P E.w = .ok (.int .i64 es.length) E.w := by
  obtain ⟨b, ⟨_, hρ⟩, rfl⟩ := hx
  obtain ⟨b', ents, hρ', hb, hl, _⟩ := henv.ob id _ hid
  rw [hρ] at hρ'
  cases hρ'
  simp [Builtin.len_, run_underlying hu, goInt, Go.MapKept.run_getObj_map hb, hl]

theorem indexAddrM_sim (henv : EnvOk A E s.h) {t : TypeId} {x : AV} {ux : Value} {k : IntKind} {i : Int} {c : C1} (hx : x.rel E s.h ux) (h : X.indexAddrM s.h t x i = some c) :
    ∃ u, (Instr.indexAt t ux (.int k i)).run X.P E.w = .ok u E.w ∧ c.rel E s.h u := by
  unfold Ctx.indexAddrM at h
  split at h
  · rename_i id n
    split at h
    · rename_i e m z ds hu hid
      split at h
      · rename_i hc
        obtain ⟨rfl, hi0, hin, hz⟩ := hc
        cases h
        obtain ⟨_, m', z', c', hid', _, ho⟩ := hx
        rw [hid] at hid'
        cases hid'
        have ho := ho rfl
        unfold OwnRow at ho
        split at ho
        · obtain ⟨_, h0⟩ := ho; omega
        · rename_i b hρ
          obtain ⟨cap, vs, T, rfl, _⟩ := ho
          refine ⟨.pointer (some ⟨b, i.toNat * z, none⟩), ?_, b, rfl, _, _, _, hid, Nat.le_refl _, fun _ => hρ⟩
          simp only [Instr.indexAt, run_underlying hu, asIntOf, Sem.run_bind, Sem.run_pure, Result.andThen_ok]
          rw [if_pos ⟨hi0, by omega⟩]
          simp [run_sizeOf (size_info hz), Addr.add_zero_none]
      · cases h
    · cases h
  · rename_i id k o n
    split at h
    · rename_i e m z ds hu hid
      split at h
      · rename_i hc
        obtain ⟨rfl, hi0, hin, hz⟩ := hc
        cases h
        obtain ⟨b, cap, rfl, _, m', z', c', hid', _, ho⟩ := hx
        rw [hid] at hid'
        cases hid'
        have ho := ho rfl
        refine ⟨.pointer (some ⟨b, o + i.toNat * z, none⟩), ?_, b, rfl, _, _, _, hid, Nat.le_refl _, fun _ => ho.1⟩
        simp only [Instr.indexAt, run_underlying hu, asIntOf, Sem.run_bind, Sem.run_pure, Result.andThen_ok]
        rw [if_pos ⟨hi0, by omega⟩]
        simp [run_sizeOf (size_info hz), Addr.add_zero_none]
      · cases h
    · cases h
  · exact indexAddr_sim hx h

end
end Go.Ab

/-
  Slices that are made, and copies into them.
-/
namespace Go.Ab
open Go.RowKit
variable {A : Actn} {X : Ctx} {E : Env} {s : S} {a : Act}

theorem rel_drop {h : Hp} {us : List Value} {cs : List C1} (hc : CellsRel E h us cs) (k : Nat) : CellsRel E h (us.drop k) (cs.drop k) :=
  ⟨by simp [hc.1], fun j x hj => by
    rw [List.getElem?_drop] at hj
    obtain ⟨v, hv, hr⟩ := hc.2 _ x hj
    exact ⟨v, by rw [List.getElem?_drop]; exact hv, hr⟩⟩

/-- copy into a slice that can still be written: the source is no longer than it. -/
theorem copy_msl (hn : Now X A E s a) {t tx ty e : TypeId} {i : TypeInfo} {ux uy : Value} {ys : List (List D)} {ds : List C1} {news : List Value} {id m : Nat}
    (ht : X.P.underlying t = some (.slice e)) (hi : X.P.info? e = some i) (hz0 : 0 < i.size)
    (hid : s.h[id]? = some (.tok m i.size (some ds))) (hx : (C1.msl id m).rel E s.h ux) (hys : ∀ r ∈ ys, r.length = i.size)
    (hnews : News X.P E i.size tx uy ys news) (hle : ys.length ≤ m) :
    ∃ E', (Builtin.copy_ #[t, tx] ty #[ux, uy]).run X.P E.w = .ok (goInt ys.length) E'.w ∧ Evo s.h.length E s.h E' (s.h.set id (.tok m i.size (some (ys.flatten.map .d ++ ds.drop (ys.length * i.size))))) ∧
      EnvOk A E' (s.h.set id (.tok m i.size (some (ys.flatten.map .d ++ ds.drop (ys.length * i.size))))) := by
  have hidl := lt_of_get hid
  obtain ⟨_, m', z', c', hid', _, ho⟩ := hx
  rw [hid] at hid'
  cases hid'
  have ho := ho rfl
  have hob := hn.rel.env.ob id _ hid
  have hnl : news.length = ys.length * i.size := hnews.src.newsLen
  obtain ⟨hfl, hfr⟩ := news_flat hys hz0 hnl hnews.rd
  have hcn : CellsRel E s.h news (ys.flatten.map .d) := cells_d hfl.symm hfr
  have hat : (s.h.set id (.tok m i.size (some (ys.flatten.map .d ++ ds.drop (ys.length * i.size)))))[id]? = some (.tok m i.size (some (ys.flatten.map .d ++ ds.drop (ys.length * i.size)))) := by simp [hidl]
  have hlen : ∀ w' : World, (Builtin.lenOf uy).run X.P w' = .ok ys.length w' := hnews.src.len
  have hcells := hnews.src.cells
  have hmin : Nat.min ys.length m = ys.length := Nat.min_eq_left hle
  unfold OwnRow at ho
  cases hρ : E.ρ id with
  | none =>
    simp only [hρ] at ho
    obtain ⟨⟨base, rfl⟩, rfl⟩ := ho
    have hys0 : ys = [] := List.eq_nil_of_length_eq_zero (by omega)
    subst hys0
    have hn0 : news = [] := List.eq_nil_of_length_eq_zero (by simpa using hnl)
    subst hn0
    simp only [List.length_nil] at hlen hcells
    have hrun : (Builtin.copy_ #[t, tx] ty #[.slice base 0 0, uy]).run X.P E.w = .ok (goInt 0) E.w := by
      cases base <;> simp [Builtin.copy_, run_underlying ht, sizeOf, typeInfo, hi, hlen, hcells, storeCells]
    have hset : s.h.set id (.tok 0 i.size (some (([] : List (List D)).flatten.map .d ++ ds.drop (([] : List (List D)).length * i.size)))) = s.h := by
      have e1 : Ob.tok 0 i.size (some (([] : List (List D)).flatten.map .d ++ ds.drop (([] : List (List D)).length * i.size))) = s.h[id] := by
        rw [List.getElem?_eq_getElem hidl] at hid
        simpa using (Option.some.inj hid).symm
      rw [e1]
      exact List.set_getElem_self hidl
    rw [hset]
    exact ⟨E, hrun, Evo.refl (Nat.le_refl _), hn.rel.env⟩
  | some b =>
    simp only [hρ] at ho
    obtain ⟨cap, vs, T, rfl, hnc, hcm, hb, hvs⟩ := ho
    have hb2 : CellsRel E s.h (vs.toList.take (m * i.size)) ds ∧ ∀ o, ¬ E.F b o := by
      rcases hob with ⟨_, ⟨h3, _⟩ | ⟨b', vs', T', h3, hb', _, h5, h6⟩⟩
      · rw [hρ] at h3; cases h3
      · rw [hρ] at h3
        cases h3
        rw [hb] at hb'
        cases hb'
        exact ⟨h5, h6⟩
    obtain ⟨hco, hnf⟩ := hb2
    have hmz : m * i.size ≤ vs.size := by rw [hvs]; exact Nat.mul_le_mul_right _ hnc
    have hyz : ys.length * i.size ≤ m * i.size := Nat.mul_le_mul_right _ hle
    have hst := run_storeCells_at X.P b 0 T news 0 vs E.w hb (by omega) hnews.src.one
    simp only [Nat.zero_add, List.take_zero, List.nil_append] at hst
    have hrun : (Builtin.copy_ #[t, tx] ty #[.slice (some ⟨b, 0, none⟩) m cap, uy]).run X.P E.w = .ok (goInt ys.length) (E.w.setRow b (news ++ vs.toList.drop news.length).toArray) := by
      simp [Builtin.copy_, run_underlying ht, sizeOf, typeInfo, hi, hlen, hmin, hcells, hst]
    generalize hnew : (news ++ vs.toList.drop news.length).toArray = row at hrun
    have hrs : row.size = vs.size := by
      rw [← hnew]; simp; omega
    have htake : row.toList.take (m * i.size) = news ++ (vs.toList.take (m * i.size)).drop news.length := by
      rw [← hnew, List.toList_toArray, List.take_append, List.take_of_length_le (by omega), List.take_drop, show news.length + (m * i.size - news.length) = m * i.size by omega]
    have hbl : b < E.w.heap.size := (Array.getElem?_eq_some_iff.1 hb).1
    have hheap : (E.w.setRow b row).heap[b]? = some (.cells row T (0, 0)) := setRow_heap _ _ _ _ _ _ hb
    let E' : Env := { E with w := E.w.setRow b row }
    have st : Stp A.G.dr E s.h id E' (s.h.set id (.tok m i.size (some (ys.flatten.map .d ++ ds.drop (ys.length * i.size))))) := {
      os := rfl
      tape := rfl
      output := rfl
      size := by simp [E']
      blk := fun k _ hne => setRow_other _ _ _ _ (fun e => hne ⟨hidl, by rw [hρ, e]⟩)
      idle := Nat.le_of_lt hidl
      len := by simp
      len' := by simp; omega
      ρ := fun _ _ _ => rfl
      hh := fun j _ hji => by rw [List.getElem?_set_ne (Ne.symm hji)]
      F := fun _ _ h => h
      F' := fun c o h => .inl h
      same := fun c o hf => by
        by_cases hcb : c = b
        · subst hcb; exact absurd hf (hnf o)
        · exact World.cell?_of_block (setRow_other _ _ _ _ hcb)
      at' := fun c _ hc => by
        have hc' : E.ρ id = some c := hc
        rw [hρ] at hc'
        cases hc'
        exact ⟨by simpa [E'] using hbl, .inr ⟨hidl, hρ⟩⟩
      keep := fun o ho => by
        rw [hid] at ho
        cases ho
        exact ⟨m, _, hat, Nat.le_refl _, fun _ => ⟨rfl, fun b2 vs2 T2 h2 h3 => by
          rw [hρ] at h2
          cases h2
          rw [hb] at h3
          cases h3
          exact ⟨row, T, hheap, hrs⟩⟩⟩ }
    have ev := st.evo hn.rel.env
    refine ⟨E', hrun, ev, st.ok hn.rel.env fun o ho => ?_⟩
    rw [hat] at ho
    cases ho
    refine ⟨hz0, .inr ⟨b, row, T, hρ, hheap, ?_, ?_, fun o hf => hnf o hf⟩⟩
    · rw [hrs]; exact hmz
    · rw [htake]
      have := rel_drop hco (ys.length * i.size)
      rw [hnl]
      exact (cells_append hcn this).evo ev (Nat.le_refl _)

theorem rep_len (l : List D) : ∀ n, (rep n l).length = n * l.length
  | 0 => by simp [rep]
  | n + 1 => by simp [rep, rep_len l n, Nat.add_mul, Nat.add_comm]
theorem rep_get (l : List D) (hl : 0 < l.length) : ∀ (n j : Nat), j < n * l.length → (rep n l)[j]? = l[j % l.length]?
  | 0, j, h => by simp at h
  | n + 1, j, h => by
    unfold rep
    by_cases hj : j < l.length
    · rw [List.getElem?_append_left hj, Nat.mod_eq_of_lt hj]
    · rw [List.getElem?_append_right (by omega), rep_get l hl n (j - l.length) (by rw [Nat.add_mul] at h; omega)]
      congr 1
      rw [Nat.mod_eq_sub_mod (by omega : l.length ≤ j)]

theorem make_sim (hn : Now X A E s a) {o : Oper} {K : Act → World → Prop} {Q : Exit → Act → World → Prop} {t : TypeId} {kl kc : IntKind} {l c : Int} {v : AV} {h' : Hp}
    (hm : X.makeA s.h t l c = some (v, h')) (hex : ∀ u w', (Instr.makeSlice t (.int kl l) (.int kc c)).run X.P E.w = .ok u w' → (execOp a.eval o).run X.P E.w = .ok (.value u) w')
    (hd : Done A E s.h o a K Q (.val v h')) : o.wp X.P a E.w K Q := by
  unfold Ctx.makeA mkD at hm
  split at hm
  · rename_i e ht
    cases ha : X.apz e with
    | none => simp [ha, mkZ] at hm
    | some zb =>
      obtain ⟨z, b⟩ := zb
      cases hzr : X.zero e with
      | none => simp [ha, hzr, mkZ] at hm
      | some zr =>
        cases hzc : zr.cs with
        | none => simp [ha, hzr, hzc, mkZ] at hm
        | some zc =>
          cases hzd : allD zc with
          | none => simp [ha, hzr, hzc, hzd, mkZ] at hm
          | some zd =>
            simp only [ha, hzr, hzc, hzd, Option.bind_some, mkZ] at hm
            split at hm
            · rename_i hcond
              obtain ⟨h0, hlc, hzl, hby, hcb⟩ := hcond
              cases hm
              obtain ⟨i, hi, hz0, rfl, rfl⟩ : ∃ i, X.P.info? e = some i ∧ 0 < i.size ∧ z = i.size ∧ b = i.bytes := by
                unfold Ctx.apz at ha
                cases hi : X.P.info? e with
                | none => simp [hi] at ha
                | some i =>
                  cases hz : i.zero with
                  | none => simp [hi, hz] at ha
                  | some zv =>
                    simp only [hi, hz, Option.bind_some] at ha
                    split at ha
                    · rename_i h2
                      cases ha
                      exact ⟨i, rfl, h2.2, rfl, rfl⟩
                    · cases ha
              obtain ⟨i', zv, hi', hzv, rfl⟩ := zero_inv hzr
              rw [hi] at hi'
              cases hi'
              have hcr := cs_rel (litV_rel E s.h zv) hzc
              obtain ⟨hzdl, hzdr⟩ := allD_rel zc zd zv.cells.toList hcr hzd
              have hzvl : zv.cells.size = i.size := by rw [← hzl]; simpa using hzdl.symm
              have hrun := run_make (P := X.P) E.w t e i zv ht hi hzv kl kc l c h0 hlc hby (by omega)
              generalize hrow : madeCells zv.cells (c.toNat * i.size) = row at hrun
              have hrs : row.size = c.toNat * i.size := by rw [← hrow, size_madeCells]
              have st := Stp.new hn.rel.env (.cells row e) (.tok l.toNat i.size (some ((rep l.toNat zd).map .d)))
              have ev := st.evo hn.rel.env
              have hln : l.toNat * i.size ≤ c.toNat * i.size := Nat.mul_le_mul_right _ (by omega)
              have hc0 : CellsRel E s.h (row.toList.take (l.toNat * i.size)) ((rep l.toNat zd).map .d) := by
                refine cells_d (by rw [List.length_take, rep_len, hzl, Array.length_toList, hrs]; omega) fun k y hk => ?_
                have hkl := lt_of_get hk
                rw [rep_len, hzl] at hkl
                rw [rep_get zd (by omega) _ _ (by rw [hzl]; exact hkl), hzl] at hk
                obtain ⟨u, hu, hru⟩ := hzdr _ _ hk
                refine ⟨u, ?_, hru⟩
                rw [List.getElem?_take, if_pos hkl, ← hrow]
                simp only [madeCells, Array.toList_map, Array.toList_range, List.getElem?_map]
                rw [List.getElem?_range (by omega), Option.map_some, hzvl]
                have : zv.cells[k % i.size]? = some u := by simpa using hu
                rw [getElem!_def, this]
              refine wp_of_val' (hex _ _ hrun) (hd _ _ ev (st.ok hn.rel.env fun o ho => ?_) ?_)
              · simp at ho
                subst ho
                refine ⟨hz0, .inr ⟨E.w.heap.size, row, e, by simp [Env.newOb], heap_alloc_new _ _, by rw [hrs]; exact hln, hc0.evo ev (Nat.le_refl _), fun o hf => ?_⟩⟩
                have := hn.rel.env.lt _ _ hf
                omega
              · refine ⟨rfl, l.toNat, i.size, some ((rep l.toNat zd).map .d), by simp, Nat.le_refl _, fun _ => ?_⟩
                unfold OwnRow
                simp only [Env.newOb, if_true]
                exact ⟨c.toNat, row, e, rfl, by omega, by unfold maxLen; omega, heap_alloc_new _ _, hrs⟩
            · cases hm
  · cases hm

theorem buildM_sim (hn : Now X A E s a) {o : Oper} {K : Act → World → Prop} {Q : Exit → Act → World → Prop} {t : TypeId} {n : Nat} {pa : List (Nat × AV)} {pv : Array (Nat × Value)} {v : AV} {h' : Hp} (hl : pa.length = pv.size)
    (hp : ∀ (j : Nat) (x : Nat × AV) (y : Nat × Value), pa[j]? = some x → pv.toList[j]? = some y → x.1 = y.1 ∧ x.2.rel E s.h y.2) (hb : X.buildMA s.h t n pa = some (v, h'))
    (hex : ∀ u w', (Instr.buildSlice t n pv).run X.P E.w = .ok u w' → (execOp a.eval o).run X.P E.w = .ok (.value u) w') (hd : Done A E s.h o a K Q (.val v h')) : o.wp X.P a E.w K Q := by
  unfold Ctx.buildMA at hb
  cases hu : X.P.underlying t with
  | none => simp [hu] at hb
  | some dt =>
    simp only [hu, Option.bind_some] at hb
    cases dt <;> try (cases hb; done)
    rename_i e
    simp only at hb
    cases hz : X.size e with
    | none => simp [hz] at hb
    | some z =>
      cases hzr : X.zero e with
      | none => simp [hz, hzr] at hb
      | some zr =>
        cases hzc : zr.cs with
        | none => simp [hz, hzr, hzc] at hb
        | some zc =>
          simp only [hz, hzr, hzc, Option.bind_some] at hb
          split at hb
          · rename_i hcond
            obtain ⟨hzl, hz0, hn0, hsm⟩ := hcond
            cases hf : fillA (fun i => some (i * z, z)) ((List.range (n * z)).map fun j => zc.getD (j % z) .top) pa with
            | none => rw [hf] at hb; cases hb
            | some cs =>
              rw [hf, Option.map_some, Option.some.injEq, Prod.mk.injEq] at hb
              obtain ⟨rfl, rfl⟩ := hb
              obtain ⟨i, zv, hi, hzv, rfl⟩ := zero_inv hzr
              have hsz : i.size = z := by simpa [Ctx.size, hi] using hz
              subst hsz
              have hcr := cs_rel (litV_rel E s.h zv) hzc
              have hzvl : zv.cells.size = i.size := by have := hcr.1; simp at this; omega
              have hc0 : CellsRel E s.h ((Array.range (n * i.size)).map (zv.cells[· % zv.cells.size]!)).toList ((List.range (n * i.size)).map fun j => zc.getD (j % i.size) .top) := by
                refine ⟨by simp, fun j x hj => ?_⟩
                rw [List.getElem?_map] at hj
                cases hjr : (List.range (n * i.size))[j]? with
                | none => simp [hjr] at hj
                | some k =>
                  have hk : j = k ∧ j < n * i.size := by
                    have := lt_of_get hjr
                    simp at this
                    rw [List.getElem?_range this] at hjr
                    exact ⟨by simpa using hjr, this⟩
                  obtain ⟨rfl, hjn⟩ := hk
                  simp [hjr] at hj
                  have hlt : j % i.size < zc.length := by rw [hzl]; exact Nat.mod_lt _ hz0
                  rw [List.getElem?_eq_getElem hlt] at hj
                  simp at hj
                  subst hj
                  obtain ⟨u, hu', hru⟩ := hcr.2 (j % i.size) _ (List.getElem?_eq_getElem hlt)
                  refine ⟨u, ?_, hru⟩
                  simp only [Array.toList_map, Array.toList_range, List.getElem?_map, hjr, Option.map_some, hzvl]
                  have : zv.cells[j % i.size]? = some u := by simpa using hu'
                  rw [getElem!_def, this]
              obtain ⟨rv, hrv, hrr⟩ := fill_sim (E := E) (h := s.h) pa pv.toList _ cs _ (by simpa using hl) hp hc0 hf
              have hrvs : rv.size = n * i.size := by
                have h1 := (buildSlice_sim.fill_len (fun i_1 => some (i_1 * i.size, i.size)) pv.toList _ rv hrv)
                simpa using h1
              have hpos : 0 < n * i.size := Nat.mul_pos hn0 hz0
              have hnn : n ≤ n * i.size := Nat.le_mul_of_pos_right n hz0
              have hrun := run_buildSlice (P := X.P) E.w t e n pv rv i zv hu hi hzv (by omega) (by omega) hrv
              have st := Stp.new hn.rel.env (.cells rv e) (.tok n i.size (some cs))
              have ev := st.evo hn.rel.env
              refine wp_of_val' (hex _ _ hrun) (hd _ _ ev (st.ok hn.rel.env fun o ho => ?_) ?_)
              · simp at ho
                subst ho
                refine ⟨hz0, .inr ⟨E.w.heap.size, rv, e, by simp [Env.newOb], heap_alloc_new _ _, by rw [hrvs]; exact Nat.le_refl _, ?_, fun o hf => ?_⟩⟩
                · rw [List.take_of_length_le (by rw [Array.length_toList, hrvs]; exact Nat.le_refl _)]
                  exact hrr.evo ev (Nat.le_refl _)
                · have := hn.rel.env.lt _ _ hf
                  omega
              · refine ⟨rfl, n, i.size, some cs, by simp, Nat.le_refl _, fun _ => ?_⟩
                unfold OwnRow
                simp only [Env.newOb, if_true]
                exact ⟨n, rv, e, rfl, Nat.le_refl _, by unfold maxLen; omega, heap_alloc_new _ _, hrvs⟩
          · cases hb

theorem copy_sim (hn : Now X A E s a) {o : Oper} {K : Act → World → Prop} {Q : Exit → Act → World → Prop} {t tx ty : TypeId} {x y v : AV} {ux uy : Value} {h' : Hp} (hx : x.rel E s.h ux) (hy : y.rel E s.h uy)
    (htx' : ∀ l, y = .d (.str l) → X.P.underlying tx = some .string) (htx'' : (∀ l, y ≠ .d (.str l)) → ∃ e', X.P.underlying tx = some (.slice e'))
    (hap : X.copyA s.h t x y = some (v, h')) (hex : ∀ u w', (Builtin.copy_ #[t, tx] ty #[ux, uy]).run X.P E.w = .ok u w' → (execOp a.eval o).run X.P E.w = .ok (.value u) w')
    (hd : Done A E s.h o a K Q (.val v h')) : o.wp X.P a E.w K Q := by
  unfold Ctx.copyA cpD at hap
  split at hap
  · rename_i e ht
    split at hap
    · rename_i id n cy
      unfold cpO at hap
      split at hap
      · rename_i m z ds hid
        cases hsz : X.size e with
        | none => simp [hsz] at hap
        | some z' =>
          cases hs : cy.source with
          | none => simp [hsz, hs] at hap
          | some es =>
            simp only [hsz, hs, Option.bind_some] at hap
            split at hap
            · rename_i hcond
              obtain ⟨rfl, rfl, hz0, hall, hle⟩ := hcond
              cases hap
              obtain ⟨i, hi, rfl⟩ : ∃ i, X.P.info? e = some i ∧ z' = i.size := by
                unfold Ctx.size at hsz
                cases hi : X.P.info? e with
                | none => simp [hi] at hsz
                | some i => simp [hi] at hsz; exact ⟨i, rfl, hsz.symm⟩
              obtain ⟨news, hnews⟩ := news_of (X := X) (tx := tx) hy hs hall hz0 (fun l h => htx' l (by rw [h])) (fun h => htx'' (fun l h2 => h l (by cases h2; rfl)))
              obtain ⟨E', hrun, ev, hok⟩ := copy_msl (ty := ty) hn ht hi hz0 hid hx hall hnews hle
              exact wp_of_val' (hex _ _ hrun) (hd _ _ ev hok (by exact .int _ _))
            · cases hap
      · cases hap
    · cases hap
  · cases hap

/-! ### Slices cut that can still be written; clear -/

theorem msC_sim {t e : TypeId} {id m o n z b cap : Nat} {lo hi : Option Value} {l u : Option Int} {c : C1} (ht : X.P.underlying t = some (.slice e)) (hz : X.size e = some z) (h1 : BoundRel lo l) (h2 : BoundRel hi u)
    (hcap : n ≤ cap) (h : msC id m o n z l u = some c) :
    ∃ k q, (Instr.sliceAt t (.slice (some ⟨b, o, none⟩) n cap) lo hi none).run X.P E.w = .ok (.slice (some ⟨b, o + k * z, none⟩) q (cap - k)) E.w ∧ c = .mso id m (o + k * z) q ∧ k + q ≤ n := by
  unfold msC at h
  split at h
  · rename_i hc
    obtain ⟨hl, hlu, hun⟩ := hc
    cases h
    have hb0 : (Instr.sliceBounds true n cap lo hi none).run X.P E.w = .ok ((l.getD 0).toNat, (u.getD n).toNat, ((none : Option Int).getD cap).toNat) E.w :=
      sliceBounds_run (m := none) h1 h2 trivial hl (by omega) (by cases u <;> simp_all <;> omega) (by simp) (by simp)
    refine ⟨(l.getD 0).toNat, (u.getD n).toNat - (l.getD 0).toNat, ?_, rfl, by omega⟩
    have hne : ¬ cap = (l.getD 0).toNat := by omega
    simp [Instr.sliceAt, Instr.slice, run_underlying ht, hb0, run_sizeOf (size_info hz), Addr.add_zero_none, hne]
  · cases h

theorem msD_sim {t : TypeId} {id m o n b cap : Nat} {lo hi : Option Value} {l u : Option Int} {c : C1} (h1 : BoundRel lo l) (h2 : BoundRel hi u) (hcap : n ≤ cap)
    (ho : ∀ z c', s.h[id]? = some (.tok m z c') → E.ρ id = some b ∧ o + n * z ≤ m * z) (h : msD X s.h id m o n l u (X.P.underlying t) = some c) :
    ∃ v, (Instr.sliceAt t (.slice (some ⟨b, o, none⟩) n cap) lo hi none).run X.P E.w = .ok v E.w ∧ c.rel E s.h v := by
  unfold msD at h
  split at h
  · rename_i e hu
    unfold msP at h
    split at h
    · rename_i z' m' z ds hz hid
      split at h
      · rename_i hc
        obtain ⟨rfl, rfl⟩ := hc
        obtain ⟨k, q, hrun, rfl, hkq⟩ := msC_sim (b := b) hu hz h1 h2 hcap h
        obtain ⟨hρ, hle⟩ := ho _ _ hid
        refine ⟨_, hrun, b, _, rfl, by omega, _, _, _, hid, Nat.le_refl _, fun _ => ⟨hρ, ?_⟩⟩
        have : (k + q) * z' ≤ n * z' := Nat.mul_le_mul_right _ hkq
        rw [Nat.add_mul] at this
        omega
      · cases h
    · cases h
  · cases h

theorem sliceU_sim {t : TypeId} {x : AV} {ux : Value} {lo hi mx : Option Value} {l u m : Option Int} {c : C1} (hx : x.rel E s.h ux) (h1 : BoundRel lo l) (h2 : BoundRel hi u) (h3 : BoundRel mx m)
    (hs : X.sliceU s.h t x l u m = some c) : ∃ v, (Instr.sliceAt t ux lo hi mx).run X.P E.w = .ok v E.w ∧ c.rel E s.h v := by
  unfold Ctx.sliceU at hs
  split at hs
  · rename_i id n
    have hmx : mx = none := by cases mx <;> simp_all [BoundRel]
    subst hmx
    obtain ⟨_, m', z', c', hid', hle, ho⟩ := hx
    have hnm : n = m' ∧ 0 < n := by
      have hs' := hs
      unfold msD at hs'
      split at hs'
      · unfold msP at hs'
        split at hs'
        · rename_i h5
          split at hs'
          · rename_i hc
            rw [hid'] at h5
            cases h5
            unfold msC at hs'
            split at hs'
            · rename_i hd; exact ⟨hc.1, by omega⟩
            · cases hs'
          · cases hs'
        · cases hs'
      · cases hs'
    obtain ⟨hnm, hn0⟩ := hnm
    have ho := ho hnm
    subst hnm
    unfold OwnRow at ho
    cases hρ : E.ρ id with
    | none => rw [hρ] at ho; obtain ⟨_, h0⟩ := ho; omega
    | some b =>
      rw [hρ] at ho
      obtain ⟨cap, vs, T, rfl, hnc, _⟩ := ho
      exact msD_sim h1 h2 hnc (fun z c' hid => ⟨hρ, by omega⟩) hs
  · rename_i id k o n
    have hmx : mx = none := by cases mx <;> simp_all [BoundRel]
    subst hmx
    obtain ⟨b, cap, rfl, hcap, m', z', c', hid', hle, ho⟩ := hx
    refine msD_sim h1 h2 hcap (fun z c2 hid => ?_) hs
    rw [hid'] at hid
    cases hid
    exact ho rfl
  · simp only [Option.map_eq_some_iff] at hs
    obtain ⟨d, hd, rfl⟩ := hs
    obtain ⟨v, hv, hr⟩ := slice_sim hx h1 h2 h3 hd
    exact ⟨v, hv, hr⟩

theorem repC_len (l : List C1) : ∀ n, (repC n l).length = n * l.length
  | 0 => by simp [repC]
  | n + 1 => by simp [repC, repC_len l n, Nat.add_mul, Nat.add_comm]
theorem repC_get (l : List C1) (hl : 0 < l.length) : ∀ (n j : Nat), j < n * l.length → (repC n l)[j]? = l[j % l.length]?
  | 0, j, h => by simp at h
  | n + 1, j, h => by
    rw [repC, List.getElem?_append]
    split
    · rename_i hj
      rw [Nat.mod_eq_of_lt hj]
    · rename_i hj
      rw [Nat.add_mul, Nat.one_mul] at h
      rw [repC_get l hl n _ (by omega)]
      congr 1
      conv => rhs; rw [show j = j - l.length + l.length by omega, Nat.add_mod_right]

theorem take_mid {α : Type} (l news : List α) {M o : Nat} (h1 : o + news.length ≤ M) (h2 : M ≤ l.length) : (l.take o ++ news ++ l.drop (o + news.length)).take M = (l.take M).take o ++ news ++ (l.take M).drop (o + news.length) := by
  rw [List.take_append, List.take_of_length_le (by simp; omega), List.take_take, Nat.min_eq_left (by omega), List.drop_take]
  congr 2
  simp; omega

theorem clear_sim (hn : Now X A E s a) {t ty : TypeId} {x : AV} {ux : Value} {h' : Hp} (hx : x.rel E s.h ux) (h : X.clearA s.h t x = some h') :
    ∃ E', (Builtin.clear_ #[t] ty #[ux]).run X.P E.w = .ok (.tuple #[]) E'.w ∧ Evo s.h.length E s.h E' h' ∧ EnvOk A E' h' := by
  unfold Ctx.clearA at h
  split at h
  · rename_i id m o n
    unfold clD at h
    split at h
    · rename_i e hu
      unfold clO at h
      split at h
      · rename_i z' zc m' z ds hz hzc hid
        split at h
        · rename_i hc
          obtain ⟨rfl, rfl, hzl, hn0, hle⟩ := hc
          cases h
          obtain ⟨b, cap, rfl, hcap, m2, z2, c2, hid2, _, ho⟩ := hx
          rw [hid] at hid2
          cases hid2
          obtain ⟨hρ, homz⟩ := ho rfl
          have hidl := lt_of_get hid
          have hob := hn.rel.env.ob id _ hid
          obtain ⟨hz0, h3 | ⟨b', vs, T, h3, hb, hmz, hco, hnf⟩⟩ := hob
          · rw [hρ] at h3; cases h3.1
          rw [hρ] at h3
          cases h3
          simp only [Option.bind_eq_some_iff] at hzc
          obtain ⟨zr, hzr, hzcs⟩ := hzc
          obtain ⟨i, v0, hi, hiz, rfl⟩ := zero_inv hzr
          have hzv : ∀ w, (zeroValue e).run X.P w = .ok v0 w := fun w => by simp [zeroValue, typeInfo, hi, hiz]
          have hcz : CellsRel E s.h v0.cells.toList zc := cs_rel (litV_rel E s.h v0) hzcs
          have hzsz : v0.cells.size = z' := by have := hcz.1; simp at this; omega
          generalize hnews : (Builtin.zeroCells v0.cells n).toList = news
          have hnl : news.length = n * z' := by rw [← hnews]; simp [Builtin.zeroCells, hzsz]
          have hrel : CellsRel E s.h news (repC n zc) := by
            refine ⟨by rw [hnl, repC_len, hzl], fun j x hj => ?_⟩
            have hjl : j < n * z' := by have := lt_of_get hj; rw [repC_len, hzl] at this; exact this
            rw [repC_get zc (by omega) n j (by rw [hzl]; exact hjl), hzl] at hj
            obtain ⟨u, hu1, hu2⟩ := hcz.2 _ x hj
            refine ⟨u, ?_, hu2⟩
            rw [← hnews]
            have hml : j % z' < v0.cells.size := by rw [hzsz]; exact Nat.mod_lt _ hz0
            simp only [Builtin.zeroCells, hzsz]
            rw [Array.toList_map, List.getElem?_map, Array.getElem?_toList, Array.getElem?_range, if_pos hjl]
            simp only [Option.map_some, Option.some.injEq]
            rw [getElem!_pos v0.cells (j % z') hml]
            have hu1' : v0.cells[j % z']? = some u := by simpa using hu1
            rw [Array.getElem?_eq_getElem hml] at hu1'
            exact Option.some.inj hu1'
          have hdl : ds.length = m * z' := by have := hco.1; simp at this; omega
          have hst := run_storeCells_at X.P b o T news 0 vs E.w hb (by omega) (cells_one hrel)
          simp only [Nat.add_zero] at hst
          have hrun : (Builtin.clear_ #[t] ty #[.slice (some ⟨b, o, none⟩) n cap]).run X.P E.w = .ok (.tuple #[]) (E.w.setRow b (vs.toList.take o ++ news ++ vs.toList.drop (o + news.length)).toArray) := by
            obtain ⟨n', rfl⟩ : ∃ n', n = n' + 1 := ⟨n - 1, by omega⟩
            simp [Builtin.clear_, run_underlying hu, hzv, hnews, hst]
          generalize hnew : (vs.toList.take o ++ news ++ vs.toList.drop (o + news.length)).toArray = row at hrun
          have hrs : row.size = vs.size := by
            rw [← hnew]; simp; omega
          have htake : row.toList.take (m * z') = (vs.toList.take (m * z')).take o ++ news ++ (vs.toList.take (m * z')).drop (o + news.length) := by
            rw [← hnew, List.toList_toArray]
            exact take_mid _ _ (by omega) (by simpa using hmz)
          have hbl : b < E.w.heap.size := (Array.getElem?_eq_some_iff.1 hb).1
          have hheap : (E.w.setRow b row).heap[b]? = some (.cells row T (0, 0)) := setRow_heap _ _ _ _ _ _ hb
          have hat : (s.h.set id (.tok m z' (some (setAt ds o (repC n zc)))))[id]? = some (.tok m z' (some (setAt ds o (repC n zc)))) := by simp [hidl]
          let E' : Env := { E with w := E.w.setRow b row }
          have st : Stp A.G.dr E s.h id E' (s.h.set id (.tok m z' (some (setAt ds o (repC n zc))))) := {
            os := rfl
            tape := rfl
            output := rfl
            size := by simp [E']
            blk := fun k _ hne => setRow_other _ _ _ _ (fun e => hne ⟨hidl, by rw [hρ, e]⟩)
            idle := Nat.le_of_lt hidl
            len := by simp
            len' := by simp; omega
            ρ := fun _ _ _ => rfl
            hh := fun j _ hji => by rw [List.getElem?_set_ne (Ne.symm hji)]
            F := fun _ _ h => h
            F' := fun c o h => .inl h
            same := fun c o hf => by
              by_cases hcb : c = b
              · subst hcb; exact absurd hf (hnf o)
              · exact World.cell?_of_block (setRow_other _ _ _ _ hcb)
            at' := fun c _ hc => by
              have hc' : E.ρ id = some c := hc
              rw [hρ] at hc'
              cases hc'
              exact ⟨by simpa [E'] using hbl, .inr ⟨hidl, hρ⟩⟩
            keep := fun o ho => by
              rw [hid] at ho
              cases ho
              exact ⟨m, _, hat, Nat.le_refl _, fun _ => ⟨rfl, fun b2 vs2 T2 h2 h3 => by
                rw [hρ] at h2
                cases h2
                rw [hb] at h3
                cases h3
                exact ⟨row, T, hheap, hrs⟩⟩⟩ }
          have ev := st.evo hn.rel.env
          refine ⟨E', hrun, ev, st.ok hn.rel.env fun o' ho' => ?_⟩
          rw [hat] at ho'
          cases ho'
          refine ⟨hz0, .inr ⟨b, row, T, hρ, hheap, ?_, ?_, fun o hf => hnf o hf⟩⟩
          · rw [hrs]; exact hmz
          · rw [htake]
            have := setAt_rel hco hrel (off := o) (by rw [repC_len, hzl]; exact hle)
            rw [hnl] at *
            exact this.evo ev (Nat.le_refl _)
        · cases h
      · cases h
    · cases h
  · cases h

end Go.Ab

/-
  Structs compared cell by cell, interface values and pointers compared with nil, types asserted, closures made: what the model does.
-/
namespace Go.Ab
open Go.RowKit

/-- Values of one cell each, read as data. -/
def RowRel (w : World) (F : Fz) (vs : List Value) (dx : List D) : Prop := vs.length = dx.length ∧ ∀ (j : Nat) (x : D), dx[j]? = some x → ∃ u, vs[j]? = some u ∧ Rd w F u x

/-- A value of type t whose cells read as dx. -/
def PackRel (P : Program) (t : TypeId) (w : World) (F : Fz) (v : Value) (dx : List D) : Prop :=
  match P.underlying t with
  | some (.struct _) => ∃ vs : List Value, v = .agg vs.toArray ∧ RowRel w F vs dx
  | _ => ∃ x, dx = [x] ∧ Rd w F v x

theorem fits_split : ∀ (l r : List Lf) (xs : List D), fitsL (l ++ r) xs = true → fitsL l (xs.take l.length) = true ∧ fitsL r (xs.drop l.length) = true ∧ l.length ≤ xs.length
  | [], r, xs, h => ⟨by simp [fitsL], by simpa using h, by simp⟩
  | a :: l, r, [], h => by cases a <;> simp [fitsL] at h
  | a :: l, r, x :: xs, h => by
    have key : ∀ (p : fitsL (l ++ r) xs = true), fitsL l (xs.take l.length) = true ∧ fitsL r (xs.drop l.length) = true ∧ l.length ≤ xs.length := fits_split l r xs
    cases a <;> cases x <;> simp only [List.cons_append, fitsL, Bool.false_eq_true, Bool.and_eq_true, decide_eq_true_eq] at h
    · obtain ⟨h1, h2, h3⟩ := key h
      exact ⟨by simpa [fitsL] using h1, by simpa using h2, by simp; exact h3⟩
    · obtain ⟨h1, h2, h3⟩ := key h.2
      exact ⟨by simp [fitsL, h.1, h1], by simpa using h2, by simp; exact h3⟩
    · obtain ⟨h1, h2, h3⟩ := key h
      exact ⟨by simpa [fitsL] using h1, by simpa using h2, by simp; exact h3⟩

theorem fits_len : ∀ (l : List Lf) (xs : List D), fitsL l xs = true → xs.length = l.length
  | [], [], _ => rfl
  | [], _ :: _, h => by simp [fitsL] at h
  | a :: l, [], h => by cases a <;> simp [fitsL] at h
  | a :: l, x :: xs, h => by
    cases a <;> cases x <;> simp only [fitsL, Bool.false_eq_true, Bool.and_eq_true] at h
    · simp [fits_len l xs h]
    · simp [fits_len l xs h.2]
    · simp [fits_len l xs h]

theorem eqL_app : ∀ (l : List Lf) (xs ys xs' ys' : List D), fitsL l xs = true → fitsL l ys = true → eqL (xs ++ xs') (ys ++ ys') = (eqL xs ys && eqL xs' ys')
  | [], [], [], _, _, _, _ => by simp [eqL]
  | [], _ :: _, _, _, _, h, _ => by simp [fitsL] at h
  | [], [], _ :: _, _, _, _, h => by simp [fitsL] at h
  | a :: l, [], _, _, _, h, _ => by cases a <;> simp [fitsL] at h
  | a :: l, _ :: _, [], _, _, _, h => by cases a <;> simp [fitsL] at h
  | a :: l, x :: xs, y :: ys, xs', ys', hx, hy => by
    cases a <;> cases x <;> simp only [fitsL, Bool.false_eq_true, Bool.and_eq_true] at hx <;> cases y <;> simp only [fitsL, Bool.false_eq_true, Bool.and_eq_true] at hy
    · simp only [List.cons_append, eqL, eqL_app l xs ys xs' ys' hx hy, Bool.and_assoc]
    · simp only [List.cons_append, eqL, eqL_app l xs ys xs' ys' hx.2 hy.2, Bool.and_assoc]
    · simp only [List.cons_append, eqL, eqL_app l xs ys xs' ys' hx hy, Bool.and_assoc]

/-- A part of a row. -/
theorem part_row {P : Program} {w : World} {F : Fz} {t : TypeId} {vs : List Value} {dx : List D} {off n : Nat} (hr : RowRel w F vs dx) (hu : (P.underlying t).isSome = true) (hs : (P.info? t).map (·.size) = some n) (hl : off + n ≤ dx.length)
    (h1 : (∀ fs, P.underlying t ≠ some (.struct fs)) → n = 1 ∧ ∀ d, P.underlying t = some d → d.isRow = false) :
    ∃ u, (part t vs.toArray off).run P w = .ok u w ∧ PackRel P t w F u ((dx.drop off).take n) := by
  cases hd : P.underlying t with
  | none => simp [hd] at hu
  | some d =>
    by_cases hst : ∃ fs, d = .struct fs
    · obtain ⟨fs, rfl⟩ := hst
      refine ⟨.agg ((vs.drop off).take n).toArray, ?_, ?_⟩
      · simp [part, run_isAgg hd, TypeDesc.isRow, run_sizeOf hs]
      · simp only [PackRel, hd]
        refine ⟨_, rfl, by simp [hr.1], fun j x hj => ?_⟩
        rw [List.getElem?_take] at hj ⊢
        split at hj
        · rename_i hjn
          rw [List.getElem?_drop] at hj
          rw [if_pos hjn, List.getElem?_drop]
          exact hr.2 _ _ hj
        · cases hj
    · have hne : ∀ fs, P.underlying t ≠ some (.struct fs) := fun fs he => hst ⟨fs, by rw [hd] at he; exact Option.some.inj he⟩
      obtain ⟨rfl, hrow⟩ := h1 hne
      have hrow := hrow d hd
      have hx : dx[off]? = some (dx[off]'(by omega)) := List.getElem?_eq_getElem (by omega)
      obtain ⟨u, hu', hru⟩ := hr.2 off _ hx
      refine ⟨u, by simp [part, run_isAgg hd, hrow, hu'], ?_⟩
      have ht : (dx.drop off).take 1 = [dx[off]'(by omega)] := by
        apply List.ext_getElem?
        intro j
        cases j with
        | zero => simp [List.getElem?_drop, hx]
        | succ j => simp [List.getElem?_take]
      unfold PackRel
      rw [hd]
      cases d <;> first | exact absurd rfl (hne _) | exact ⟨_, ht, hru⟩ | exact absurd hd (hne _)

theorem flatT_some {P : Program} {d : Nat} {t : TypeId} {ls : List Lf} (h : flatT P d t = some ls) : (P.underlying t).isSome = true ∧ ((∀ fs, P.underlying t ≠ some (.struct fs)) → ls.length = 1 ∧ ∀ d, P.underlying t = some d → d.isRow = false) := by
  cases d with
  | zero => simp [flatT] at h
  | succ d =>
    unfold flatT at h
    split at h
    · rename_i hu; cases h; exact ⟨by rw [hu]; rfl, fun _ => ⟨rfl, fun d hd => by rw [hu] at hd; cases hd; rfl⟩⟩
    · rename_i hu; cases h; exact ⟨by rw [hu]; rfl, fun _ => ⟨rfl, fun d hd => by rw [hu] at hd; cases hd; rfl⟩⟩
    · rename_i hu; cases h; exact ⟨by rw [hu]; rfl, fun _ => ⟨rfl, fun d hd => by rw [hu] at hd; cases hd; rfl⟩⟩
    · rename_i fs hu; exact ⟨by rw [hu]; rfl, fun hne => absurd hu (hne fs)⟩
    · cases h

/-- What the comparison of a type's values answers. -/
def EqIs (P : Program) (w : World) (F : Fz) (n : Nat) (t : TypeId) (ls : List Lf) : Prop :=
  ∀ (dx dy : List D) (v u : Value), fitsL ls dx = true → fitsL ls dy = true → PackRel P t w F v dx → PackRel P t w F u dy → (Op.equalIn n t v u).run P w = .ok (eqL dx dy) w

theorem eqFields_sim {P : Program} {w : World} {F : Fz} {n : Nat} {fl : TypeId → Option (List Lf)} (hfl : ∀ t ls, fl t = some ls → EqIs P w F n t ls) (hf2 : ∀ t ls, fl t = some ls → (P.underlying t).isSome = true ∧ ((∀ fs, P.underlying t ≠ some (.struct fs)) → ls.length = 1 ∧ ∀ d, P.underlying t = some d → d.isRow = false))
    {vs us : List Value} {dx dy : List D} (hv : RowRel w F vs dx) (hu : RowRel w F us dy) :
    ∀ (fs : List Field) (off : Nat) (l : List Lf), flatFs P fl fs off = some l → fitsL l (dx.drop off) = true → fitsL l (dy.drop off) = true → off ≤ dx.length → off ≤ dy.length →
      (Op.eqFields n vs.toArray us.toArray fs).run P w = .ok (eqL (dx.drop off) (dy.drop off)) w
  | [], off, l, h, h1, h2, _, _ => by
    cases h
    have e1 : dx.drop off = [] := List.eq_nil_of_length_eq_zero (fits_len [] _ h1)
    have e2 : dy.drop off = [] := List.eq_nil_of_length_eq_zero (fits_len [] _ h2)
    rw [e1, e2]
    simp [Op.eqFields, eqL]
  | f :: fs, off, l, h, h1, h2, ho1, ho2 => by
    simp only [flatFs] at h
    split at h
    · cases h
    · rename_i hno
      simp only [not_or, Decidable.not_not] at hno
      obtain ⟨hname, hoff⟩ := hno
      simp only [Option.bind_eq_some_iff] at h
      obtain ⟨lf, hlf, h⟩ := h
      split at h
      · rename_i hsz
        simp only [Option.map_eq_some_iff] at h
        obtain ⟨lr, hlr, rfl⟩ := h
        obtain ⟨a1, a2, a3⟩ := fits_split lf lr _ h1
        obtain ⟨b1, b2, b3⟩ := fits_split lf lr _ h2
        rw [List.drop_drop] at a2 b2
        simp only [List.length_drop] at a3 b3
        obtain ⟨hsome, hone⟩ := hf2 _ _ hlf
        obtain ⟨x, hx, hxr⟩ := part_row (P := P) (t := f.type) (off := off) (n := lf.length) hv hsome hsz (by omega) hone
        obtain ⟨y, hy, hyr⟩ := part_row (P := P) (t := f.type) (off := off) (n := lf.length) hu hsome hsz (by omega) hone
        have he := hfl _ _ hlf _ _ x y a1 b1 hxr hyr
        have hrest := eqFields_sim hfl hf2 hv hu fs (off + lf.length) lr hlr a2 b2 (by omega) (by omega)
        have hsplit : eqL (dx.drop off) (dy.drop off) = (eqL ((dx.drop off).take lf.length) ((dy.drop off).take lf.length) && eqL (dx.drop (off + lf.length)) (dy.drop (off + lf.length))) := by
          rw [← eqL_app lf _ _ _ _ a1 b1, ← List.drop_drop, ← List.drop_drop, List.take_append_drop, List.take_append_drop]
        rw [hsplit]
        simp only [Op.eqFields, hname, ne_eq, not_false_eq_true, if_true, hoff, Sem.run_bind, hx, hy, he, Result.andThen_ok]
        cases eqL ((dx.drop off).take lf.length) ((dy.drop off).take lf.length)
        · simp
        · simpa using hrest
      · cases h

theorem flat_sim {P : Program} {w : World} {F : Fz} : ∀ (d : Nat) (t : TypeId) (ls : List Lf), flatT P d t = some ls → ∀ n, d ≤ n → EqIs P w F n t ls
  | 0, _, _, h, _, _ => by simp [flatT] at h
  | d + 1, t, ls, h, n, hn => by
    intro dx dy v u hx hy hv hu
    obtain ⟨n, rfl⟩ : ∃ m, n = m + 1 := ⟨n - 1, by omega⟩
    unfold flatT at h
    split at h
    · rename_i hd
      cases h
      simp only [PackRel, hd] at hv hu
      obtain ⟨x, rfl, hv⟩ := hv
      obtain ⟨y, rfl, hu⟩ := hu
      cases x <;> simp only [fitsL, Bool.false_eq_true] at hx
      cases y <;> simp only [fitsL, Bool.false_eq_true] at hy
      have h1 := bool_inv hv
      have h2 := bool_inv hu
      subst h1 h2
      rw [run_equalIn_bool' w n t _ _ hd]
      simp [eqL]
    · rename_i k hd
      cases h
      simp only [PackRel, hd] at hv hu
      obtain ⟨x, rfl, hv⟩ := hv
      obtain ⟨y, rfl, hu⟩ := hu
      cases x <;> simp only [fitsL, Bool.false_eq_true, Bool.and_eq_true, decide_eq_true_eq] at hx
      cases y <;> simp only [fitsL, Bool.false_eq_true, Bool.and_eq_true, decide_eq_true_eq] at hy
      have h1 := int_inv hv
      have h2 := int_inv hu
      obtain ⟨hk1, _⟩ := hx
      obtain ⟨hk2, _⟩ := hy
      subst h1 h2 hk1 hk2
      rw [run_equalIn_int w n t _ _ _ _ hd]
      simp [eqL]
    · rename_i hd
      cases h
      simp only [PackRel, hd] at hv hu
      obtain ⟨x, rfl, hv⟩ := hv
      obtain ⟨y, rfl, hu⟩ := hu
      cases x <;> simp only [fitsL, Bool.false_eq_true] at hx
      cases y <;> simp only [fitsL, Bool.false_eq_true] at hy
      obtain ⟨s1, rfl, rfl⟩ := str_inv hv
      obtain ⟨s2, rfl, rfl⟩ := str_inv hu
      rw [run_equalIn_string w n t _ _ hd]
      simp [eqL, ByteArray.toList_eq]
    · rename_i fs hd
      split at h
      · cases h
      · rename_i hst
        simp only [PackRel, hd] at hv hu
        obtain ⟨vs, rfl, hv⟩ := hv
        obtain ⟨us, rfl, hu⟩ := hu
        have hfs : P.fieldsOf t = fs := by simp [Program.fieldsOf, hd]
        rw [run_equalIn_struct w n t _ _ (by rw [hfs]; exact hd) (by simpa using hst), hfs]
        have := eqFields_sim (P := P) (w := w) (F := F) (n := n) (fl := flatT P d) (fun t ls ht => flat_sim d t ls ht n (by omega)) (fun t ls ht => flatT_some ht) hv hu fs.toList 0 ls h (by simpa using hx) (by simpa using hy) (by omega) (by omega)
        simpa using this
    · cases h

theorem eqOp_sim {P : Program} {w : World} {F : Fz} {op : BinOp} {t : TypeId} {v u : Value} {b : Bool} {d : D} (h : eqOp op b = some d) (hv : ∀ k n, v ≠ .int k n) (hv2 : ∀ s, v ≠ .string s) (hv3 : ∀ k n, v ≠ .float k n) (hv4 : ∀ k a b, v ≠ .complex k a b)
    (he : (Op.equalIn 10000 t v u).run P w = .ok b w) : ∃ x, (binOp op t v u).run P w = .ok x w ∧ Rd w F x d := by
  have he' : (Op.equal t v u).run P w = .ok b w := he
  cases op <;> simp only [eqOp, Option.some.injEq, reduceCtorEq] at h
  · subst h
    refine ⟨.bool b, ?_, .bool _⟩
    have : binOp .eql t v u = (do pure (.bool (← Op.equal t v u))) := by
      cases v <;> first | rfl | exact absurd rfl (hv _ _) | exact absurd rfl (hv2 _) | exact absurd rfl (hv3 _ _) | exact absurd rfl (hv4 _ _ _)
    rw [this]
    simp [he']
  · subst h
    refine ⟨.bool (!b), ?_, .bool _⟩
    have : binOp .neq t v u = (do pure (.bool (!(← Op.equal t v u)))) := by
      cases v <;> first | rfl | exact absurd rfl (hv _ _) | exact absurd rfl (hv2 _) | exact absurd rfl (hv3 _ _) | exact absurd rfl (hv4 _ _ _)
    rw [this]
    simp [he']

theorem rowRel_of {E : Env} {h : Hp} {vs : List Value} {xs : List C1} {dx : List D} (hc : CellsRel E h vs xs) (hd : allD xs = some dx) : RowRel E.w E.F vs dx := by
  obtain ⟨hl, hr⟩ := allD_rel xs dx vs hc hd
  exact ⟨hl.symm, hr⟩

theorem eqAgg_sim {X : Ctx} {E : Env} {h : Hp} {op : BinOp} {t : TypeId} {x y : Operand} {xs ys : List C1} {v u : Value} {d : D} (hx : (AV.v (.agg xs)).rel E h v) (hy : (AV.v (.agg ys)).rel E h u) (he : X.eqAgg op t xs ys = some d) :
    ∃ r, (do eqGuard op t x y v u; binOp op t v u : Sem Value).run X.P E.w = .ok r E.w ∧ Rd E.w E.F r d := by
  obtain ⟨vs, rfl, hvs⟩ := hx
  obtain ⟨us, rfl, hus⟩ := hy
  unfold Ctx.eqAgg eqAgg0 at he
  split at he
  · rename_i l dx dy hag hfl hdx hdy
    split at he
    · rename_i hfit
      obtain ⟨dd, hdd, hrow⟩ := isAgg_inv hag
      unfold Ctx.flat at hfl
      split at hfl
      · cases hfl
      · rename_i hg
        have hfs : ∃ fs, X.P.underlying t = some (.struct fs) := by
          unfold flatT at hfl
          split at hfl
          · rename_i hu; rw [hdd] at hu; cases hu; simp [TypeDesc.isRow] at hrow
          · rename_i hu; rw [hdd] at hu; cases hu; simp [TypeDesc.isRow] at hrow
          · rename_i hu; rw [hdd] at hu; cases hu; simp [TypeDesc.isRow] at hrow
          · rename_i fs hu; exact ⟨fs, hu⟩
          · cases hfl
        obtain ⟨fs, hfs⟩ := hfs
        have hpv : PackRel X.P t E.w E.F (.agg vs.toArray) dx := by simp only [PackRel, hfs]; exact ⟨vs, rfl, rowRel_of hvs hdx⟩
        have hpu : PackRel X.P t E.w E.F (.agg us.toArray) dy := by simp only [PackRel, hfs]; exact ⟨us, rfl, rowRel_of hus hdy⟩
        have heq := flat_sim (P := X.P) (w := E.w) (F := E.F) 6 t l hfl 10000 (by omega) dx dy _ _ hfit.1 hfit.2 hpv hpu
        obtain ⟨r, hr, hrd⟩ := eqOp_sim (P := X.P) (w := E.w) (F := E.F) (t := t) he (by intros; simp) (by intros; simp) (by intros; simp) (by intros; simp) heq
        refine ⟨r, ?_, hrd⟩
        simp only [Sem.run_bind, run_eqGuard_agg E.w op t x y _ _ (by simpa using hg), Result.andThen_ok, hr]
    · cases he
  · cases he

theorem guard_nn {P : Program} {w : World} {op : BinOp} {t : TypeId} {x y : Operand} (h0 : (Op.eqGuardIn Op.maxDepth t .nilIface .nilIface).run P w = .ok false w) : (eqGuard op t x y .nilIface .nilIface).run P w = .ok () w := by
  unfold eqGuard
  cases op <;> first | rfl | skip
  all_goals
    cases x <;> cases y <;> first | rfl | (simp only [Bool.false_eq_true, Bool.or_false, Bool.not_true, if_false, Sem.run_bind, Sem.run_pure, Result.andThen_ok, h0]; try rfl)

theorem guard_other {P : Program} {w : World} {op : BinOp} {t : TypeId} {x y : Operand} {a b : Value} (h1 : ¬ (a = .nilIface ∧ b = .nilIface)) (h2 : ∀ xs ys, ¬ (a = .agg xs ∧ b = .agg ys)) : (eqGuard op t x y a b).run P w = .ok () w := by
  unfold eqGuard
  cases op <;> first | rfl | skip
  all_goals
    cases a <;> cases b <;> first | rfl | exact absurd ⟨rfl, rfl⟩ h1 | exact absurd ⟨rfl, rfl⟩ (h2 _ _)

theorem ifcNil_sim {X : Ctx} {w : World} {F : Fz} {op : BinOp} {t : TypeId} {x y : Operand} {v : Value} {b : Bool} {d : D} (hv : (b = false ∧ ∃ tt u, v = .iface tt u) ∨ (b = true ∧ v = .nilIface)) (he : ifcNil op b (X.ifT t) = some d) :
    ∃ r, (do eqGuard op t x y v .nilIface; binOp op t v .nilIface : Sem Value).run X.P w = .ok r w ∧ Rd w F r d := by
  unfold ifcNil at he
  split at he
  · rename_i e0 hif
    obtain ⟨ms, hu, rfl⟩ : ∃ ms, X.P.underlying t = some (.interface ms) ∧ ms.isEmpty = e0 := by
      unfold Ctx.ifT at hif
      cases hu : X.P.underlying t with
      | none => simp [hu] at hif
      | some dd => cases dd <;> simp [hu] at hif; exact ⟨_, rfl, by simpa using hif⟩
    split at he
    · rename_i hb
      have heq0 : ∀ k, (Op.equalIn (k + 1) t v .nilIface).run X.P w = .ok b w := fun k => by
        rcases hv with ⟨rfl, tt, u, rfl⟩ | ⟨rfl, rfl⟩ <;> simp [Op.equalIn, run_underlying hu]
      have heq : (Op.equalIn 10000 t v .nilIface).run X.P w = .ok b w := heq0 9999
      obtain ⟨r, hr, hrd⟩ := eqOp_sim (P := X.P) (w := w) (F := F) (t := t) he (by rcases hv with ⟨_, tt, u, rfl⟩ | ⟨_, rfl⟩ <;> intros <;> simp) (by rcases hv with ⟨_, tt, u, rfl⟩ | ⟨_, rfl⟩ <;> intros <;> simp)
        (by rcases hv with ⟨_, tt, u, rfl⟩ | ⟨_, rfl⟩ <;> intros <;> simp) (by rcases hv with ⟨_, tt, u, rfl⟩ | ⟨_, rfl⟩ <;> intros <;> simp) heq
      refine ⟨r, ?_, hrd⟩
      have hgd : (eqGuard op t x y v .nilIface).run X.P w = .ok () w := by
        rcases hv with ⟨rfl, tt, u, rfl⟩ | ⟨rfl, rfl⟩
        · exact guard_other (by simp) (by simp)
        · have hms : ms.isEmpty = true := by simpa using hb
          have h0 : ∀ k, (Op.eqGuardIn (k + 1) t .nilIface .nilIface).run X.P w = .ok false w := fun k => by
            simp [Op.eqGuardIn, run_underlying hu, hms]
          exact guard_nn (h0 9999)
      simp only [Sem.run_bind, hgd, Result.andThen_ok, hr]
    · cases he
  · cases he

theorem ptrNil_sim {X : Ctx} {w : World} {F : Fz} {op : BinOp} {t : TypeId} {x y : Operand} {p : Option Addr} {d : D} (he : ptrNil op p.isNone (X.ptT t) = some d) :
    ∃ r, (do eqGuard op t x y (.pointer p) (.pointer none); binOp op t (.pointer p) (.pointer none) : Sem Value).run X.P w = .ok r w ∧ Rd w F r d := by
  unfold ptrNil at he
  split at he
  · rename_i e0 hpt
    obtain ⟨e, hu⟩ : ∃ e, X.P.underlying t = some (.pointer e) := by
      unfold Ctx.ptT at hpt
      cases hu : X.P.underlying t with
      | none => simp [hu] at hpt
      | some dd => cases dd <;> simp [hu] at hpt; exact ⟨_, rfl⟩
    have heq0 : ∀ k, (Op.equalIn (k + 1) t (.pointer p) (.pointer none)).run X.P w = .ok p.isNone w := fun k => by
      cases p <;> simp [Op.equalIn, run_underlying hu]
    have heq : (Op.equalIn 10000 t (.pointer p) (.pointer none)).run X.P w = .ok p.isNone w := heq0 9999
    obtain ⟨r, hr, hrd⟩ := eqOp_sim (P := X.P) (w := w) (F := F) (t := t) he (by intros; simp) (by intros; simp) (by intros; simp) (by intros; simp) heq
    refine ⟨r, ?_, hrd⟩
    have hgd : (eqGuard op t x y (.pointer p) (.pointer none)).run X.P w = .ok () w := guard_other (by simp) (by simp)
    simp only [Sem.run_bind, hgd, Result.andThen_ok, hr]
  · cases he

theorem nilS_sim {X : Ctx} {E : Env} {h : Hp} {a : Act} {op : BinOp} {t : TypeId} {x y : Operand} {v : AV} {c : C1} (hy : nilY y = true) (hr : v.rel E h (a.eval x)) (hb : nilS op (X.P.underlying t) v = some c) :
    ∃ r, (do eqGuard op t x y (a.eval x) (a.eval y); binOp op t (a.eval x) (a.eval y) : Sem Value).run X.P E.w = .ok r E.w ∧ c.rel E h r := by
  have hye : a.eval y = .slice none 0 0 := by
    unfold nilY at hy
    split at hy
    · rfl
    · cases hy
  have key : ∀ (e : TypeId) (f : Bool) (es : List (List D)), X.P.underlying t = some (.slice e) → Rd E.w E.F (a.eval x) (.sl f es) → nilE op es.isEmpty = some c →
      ∃ r, (do eqGuard op t x y (a.eval x) (a.eval y); binOp op t (a.eval x) (a.eval y) : Sem Value).run X.P E.w = .ok r E.w ∧ c.rel E h r := fun e f es hu hrd he => by
    obtain ⟨base, n, cap, hv, hne⟩ : ∃ base n cap, a.eval x = .slice base n cap ∧ (es.isEmpty = false → base.isNone = false) := by
      rcases sl_cases hrd with ⟨base, h1, h2⟩ | ⟨b, o, cap, _, _, h1, _⟩
      · exact ⟨base, 0, 0, h1, fun h => by rw [h2] at h; cases h⟩
      · exact ⟨some ⟨b, o, none⟩, _, cap, h1, fun _ => rfl⟩
    rw [hv, hye]
    have heq0 : ∀ k, (Op.equalIn (k + 1) t (.slice base n cap) (.slice none 0 0)).run X.P E.w = .ok base.isNone E.w := fun k => by
      cases base <;> simp [Op.equalIn, run_underlying hu]
    have heq : (Op.equalIn 10000 t (.slice base n cap) (.slice none 0 0)).run X.P E.w = .ok base.isNone E.w := heq0 9999
    have hgd : (eqGuard op t x y (.slice base n cap) (.slice none 0 0)).run X.P E.w = .ok () E.w := guard_other (by simp) (by simp)
    have fin : ∀ d, eqOp op base.isNone = some d → (∀ r, Rd E.w E.F r d → c.rel E h r) → ∃ r, (do eqGuard op t x y (.slice base n cap) (.slice none 0 0); binOp op t (.slice base n cap) (.slice none 0 0) : Sem Value).run X.P E.w = .ok r E.w ∧ c.rel E h r := fun d hd hc => by
      obtain ⟨r, hr, hrd⟩ := eqOp_sim (P := X.P) (w := E.w) (F := E.F) (t := t) hd (by intros; simp) (by intros; simp) (by intros; simp) (by intros; simp) heq
      exact ⟨r, by simp only [Sem.run_bind, hgd, Result.andThen_ok, hr], hc r hrd⟩
    unfold nilE at he
    split at he
    · refine fin _ rfl fun r hr => ?_
      cases hem : es.isEmpty with
      | true =>
        simp only [hem, if_true, Option.some.injEq] at he
        subst he
        cases hr
        exact ⟨_, rfl⟩
      | false =>
        simp only [hem, Bool.false_eq_true, if_false, Option.some.injEq] at he
        subst he
        rw [hne hem] at hr
        exact hr
    · refine fin _ rfl fun r hr => ?_
      cases hem : es.isEmpty with
      | true =>
        simp only [hem, if_true, Option.some.injEq] at he
        subst he
        cases hr
        exact ⟨_, rfl⟩
      | false =>
        simp only [hem, Bool.false_eq_true, if_false, Option.some.injEq] at he
        subst he
        rw [hne hem] at hr
        exact hr
    · cases he
  unfold nilS at hb
  split at hb
  · rename_i e f es hu
    exact key e f es hu hr hb
  · rename_i e i es hu
    exact key e false es hu hr.1 hb
  · cases hb

end Go.Ab
