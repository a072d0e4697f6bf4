/-
  Texts of the layer and of the laws, put together: Ab8m. No law is stated here.
-/
import Derived.Test.YteeepgnhkfmnaaaDoorAbVol5
import Derived.MapKept
import Derived.Laws.RangeAny
set_option linter.unusedSimpArgs false
set_option linter.unusedVariables false
set_option maxRecDepth 100000

/-
  Each operation of the code does what the abstract one says: maps, the elements of slices that can still be written, the runes of a string.
-/
namespace Go.Ab
open Go.RowKit Go.MapKept

section
variable {X : Ctx} {A : Actn} {E : Env} {s : S} {a : Act}

theorem beq_flip {α : Type} [BEq α] [LawfulBEq α] (a b : α) : (a == b) = (b == a) := by
  rw [Bool.eq_iff_iff, beq_iff_eq, beq_iff_eq]
  exact eq_comm

def Env.setB (E : Env) (b : Nat) (o : Obj) : Env := { E with w := { E.w with heap := E.w.heap.setIfInBounds b o } }

theorem Stp.obj {A : Actn} {E : Env} {h : Hp} (hE : EnvOk A E h) {id b : Nat} {o o' : Ob} {ob' : Obj} (hid : h[id]? = some o) (hk : o.kind ≠ 2) (hk' : o'.kind = o.kind) (hρ : E.ρ id = some b)
    (hs : ∀ off, E.F b off → (E.setB b ob').w.cell? ⟨b, off, none⟩ = E.w.cell? ⟨b, off, none⟩) : Stp A.G.dr E h id (E.setB b ob') (h.set id o') where
  os := rfl
  tape := rfl
  output := rfl
  size := by simp [Env.setB]
  blk k _ hne := by
    have hkb : b ≠ k := fun e => hne ⟨lt_of_get hid, by rw [hρ, e]⟩
    simp [Env.setB, hkb]
  idle := Nat.le_of_lt (lt_of_get hid)
  len := by simp
  len' := by simp; omega
  ρ _ _ _ := rfl
  hh j _ hji := by rw [List.getElem?_set_ne (Ne.symm hji)]
  F _ _ h := h
  F' _ _ h := .inl h
  same c off hf := by
    by_cases hcb : c = b
    · subst hcb; exact hs off hf
    · refine World.cell?_of_block ?_
      show (E.w.heap.setIfInBounds b ob')[c]? = _
      simp [Ne.symm hcb]
  at' c _ hc := by
    have hc' : E.ρ id = some c := hc
    rw [hρ] at hc'
    cases hc'
    have := (hE.base id b (lt_of_get hid) hρ).2
    exact ⟨by simpa [Env.setB] using this, .inr ⟨lt_of_get hid, hρ⟩⟩
  keep o2 ho := by
    rw [hid] at ho
    cases ho
    have hat : (h.set id o')[id]? = some o' := by simp [lt_of_get hid]
    cases o <;> first | exact absurd rfl hk | exact ⟨⟨o', hat, hk'⟩, rfl⟩

theorem setB_heap {E : Env} {b : Nat} {o o' : Obj} (hb : E.w.heap[b]? = some o) : (E.setB b o').w.heap[b]? = some o' := (heap_set hb).1

theorem dv_rel {E : Env} {h : Hp} {x : AV} {p : DV} {v : Value} (hr : x.rel E h v) (hp : x.dv = some p) : p.rel E.w E.F v := by
  unfold AV.dv at hp
  split at hp
  · simp only [Option.map_eq_some_iff] at hp
    obtain ⟨d, hd, rfl⟩ := hp
    exact toD_rel hr hd
  · simp only [Option.map_eq_some_iff] at hp
    obtain ⟨ds, hd, rfl⟩ := hp
    obtain ⟨vs, rfl, hc⟩ := hr
    obtain ⟨hl, hr⟩ := allD_rel _ _ _ hc hd
    exact ⟨vs, rfl, hl.symm, hr⟩
  · cases hp

theorem dV_rel {E : Env} {h : Hp} {p : DV} {v : Value} (hr : p.rel E.w E.F v) : p.V.rel E h v := by
  cases p with
  | c x => exact hr
  | agg xs =>
    obtain ⟨vs, rfl, hl, hx⟩ := hr
    refine ⟨vs, rfl, by simp [hl], fun j x hj => ?_⟩
    rw [List.getElem?_map] at hj
    cases hq : xs[j]? with
    | none => simp [hq] at hj
    | some d =>
      simp [hq] at hj
      subst hj
      obtain ⟨u, hu, hru⟩ := hx j d hq
      exact ⟨u, hu, hru, hru.one⟩

theorem isKey_sim {d : TypeDesc} {k : DV} {w : World} {F : Fz} {v : Value} (hr : k.rel w F v) (h : isKeyA d k = true) : IsKey d v := by
  cases k with
  | agg xs => cases d <;> simp [isKeyA] at h
  | c x =>
    cases d <;> cases x <;> simp [isKeyA] at h
    · cases hr; trivial
    · subst h; cases hr; exact rfl
    · cases hr; trivial

theorem bytes_eq_iff {a b : ByteArray} : (a == b) = (a.data.toList == b.data.toList) := by
  rw [Bool.eq_iff_iff, bytes_beq]
  constructor
  · rintro rfl; simp
  · intro h
    have : a.data.toList = b.data.toList := by simpa using h
    have h2 : a.data = b.data := Array.toList_inj.1 this
    cases a; cases b; simp at h2; rw [h2]

theorem sameNow_sim {d : TypeDesc} {k e : DV} {w : World} {F : Fz} {uk ue : Value} (hk : k.rel w F uk) (he : e.rel w F ue) (h1 : isKeyA d k = true) (h2 : isKeyA d e = true) : Instr.sameNow d uk ue = some (keyEq e k) := by
  cases k with
  | agg xs => cases d <;> simp [isKeyA] at h1
  | c x => cases e with
    | agg xs => cases d <;> simp [isKeyA] at h2
    | c y =>
      cases d <;> cases x <;> simp [isKeyA] at h1 <;> cases y <;> simp [isKeyA] at h2
      · cases hk; cases he
        simp only [Instr.sameNow, keyEq, Option.some.injEq]
        exact Bool.beq_comm
      · subst h1; subst h2
        cases hk; cases he
        simp only [Instr.sameNow, keyEq, if_true, Option.some.injEq]
        exact beq_flip _ _
      · cases hk; cases he
        simp only [Instr.sameNow, keyEq, Option.some.injEq]
        rw [bytes_eq_iff]
        exact beq_flip _ _

theorem find_sim {d : TypeDesc} {kd : DV} {w : World} {F : Fz} {k : Value} (hk : kd.rel w F k) (hka : isKeyA d kd = true) : ∀ (l : List MapEntry) (es : MapA) (i : Nat), l.length = es.length →
    (∀ (j : Nat) (p : Nat × DV × DV), es[j]? = some p → ∃ e, l[j]? = some e ∧ p.2.1.rel w F e.key) → (es.all fun e => isKeyA d e.2.1) = true →
    Instr.findNow d k l i = some ((findA kd es).bind fun j => (l[j]?).map fun e => (i + j, e.val))
  | [], es, i, hl, _, _ => by
    have : es = [] := List.eq_nil_of_length_eq_zero (by simpa using hl.symm)
    subst this
    rfl
  | e :: l, es, i, hl, hr, ha => by
    cases es with
    | nil => simp at hl
    | cons p es =>
      obtain ⟨e', he', hkr⟩ := hr 0 p rfl
      cases he'
      simp only [List.all_cons, Bool.and_eq_true] at ha
      have hs := sameNow_sim hk hkr hka ha.1
      have ih := find_sim hk hka l es (i + 1) (by simpa using hl) (fun j p hj => by simpa using hr (j + 1) p (by simpa using hj)) ha.2
      simp only [Instr.findNow, hs, findA, List.findIdx?_cons]
      cases hq : keyEq p.2.1 kd with
      | true => simp
      | false =>
        rw [ih]
        simp only [findA, Bool.false_eq_true, if_false]
        cases hf : es.findIdx? fun e => keyEq e.2.1 kd with
        | none => simp
        | some j => simp [Nat.add_assoc, Nat.add_comm 1 j]

theorem mapTy_inv {t : TypeId} {ty : TypeDesc × TypeId} (h : X.mapTy t = some ty) : ∃ k, X.P.underlying t = some (.map k ty.2) ∧ X.P.underlying k = some ty.1 := by
  unfold Ctx.mapTy at h
  cases hu : X.P.underlying t with
  | none => simp [hu] at h
  | some d =>
    simp only [hu, Option.bind_some] at h
    cases d <;> simp at h
    obtain ⟨d, hd, rfl⟩ := h
    exact ⟨_, rfl, hd⟩

theorem zeroV_inv {t : TypeId} {z : V} (h : X.zeroV t = some z) : ∃ v, (∀ w, (zeroValue t).run X.P w = .ok v w) ∧ z.rel E s.h v := by
  unfold Ctx.zeroV at h
  cases hz : X.zero t with
  | none => simp [hz] at h
  | some x =>
    simp only [hz, Option.bind_some] at h
    cases x with
    | tup => cases h
    | v y =>
      cases h
      obtain ⟨i, v, hi, hv, he⟩ := zero_inv hz
      have := litV_rel E s.h v
      rw [← he] at this
      exact ⟨v, fun w => by simp [zeroValue, typeInfo, hi, hv], this⟩

/-- What a map is, as it lies. -/
structure MapAt (E : Env) (b : Nat) (es : MapA) (clock : Nat) (ents : Array MapEntry) : Prop where
  heap : E.w.heap[b]? = some (.map ents clock)
  size : ents.size = es.length
  un : ∀ o, ¬ E.F b o
  rd : ∀ (j : Nat) (p : Nat × DV × DV), es[j]? = some p → ∃ e, ents[j]? = some e ∧ e.born = p.1 ∧ p.2.1.rel E.w E.F e.key ∧ p.2.2.rel E.w E.F e.val

theorem MapAt.keys {b : Nat} {es : MapA} {clock : Nat} {ents : Array MapEntry} (m : MapAt E b es clock ents) : ents.toList.length = es.length ∧ ∀ (j : Nat) (p : Nat × DV × DV), es[j]? = some p → ∃ e, ents.toList[j]? = some e ∧ p.2.1.rel E.w E.F e.key :=
  ⟨by simpa using m.size, fun j p hj => let ⟨e, he, _, hk, _⟩ := m.rd j p hj; ⟨e, by simpa using he, hk⟩⟩

theorem findA_lt {k : DV} {es : MapA} {i : Nat} (h : findA k es = some i) : ∃ p, es[i]? = some p ∧ keyEq p.2.1 k = true := by
  unfold findA at h
  rw [List.findIdx?_eq_some_iff_getElem] at h
  obtain ⟨hi, h1, _⟩ := h
  exact ⟨es[i], List.getElem?_eq_getElem hi, h1⟩

theorem lookup_sim (hn : Now X A E s a) {t : TypeId} {x i v : AV} {ux ui : Value} {ok : Bool} (hx : x.rel E s.h ux) (hi : i.rel E s.h ui) (h : X.lookupA s.h t x i ok = some v) :
    ∃ u, (Instr.lookup t ux ui ok).run X.P E.w = .ok u E.w ∧ v.rel E s.h u := by
  unfold Ctx.lookupA at h
  simp only [Option.bind_eq_some_iff] at h
  obtain ⟨ty, hty, es, hes, k, hk, z, hz, h⟩ := h
  obtain ⟨kt, hu, hd⟩ := mapTy_inv hty
  obtain ⟨zv, hzv, hzr⟩ := zeroV_inv (E := E) (s := s) hz
  split at h
  · rename_i hok
    simp only [keysOk, Bool.and_eq_true] at hok
    obtain ⟨hka, hall⟩ := hok
    have hkr := dv_rel hi hk
    have hik := isKey_sim hkr hka
    have hshow : ∀ (l : Array MapEntry), l.toList.length = es.length → (∀ (j : Nat) (p : Nat × DV × DV), es[j]? = some p → ∃ e, l.toList[j]? = some e ∧ p.2.1.rel E.w E.F e.key) →
        (∀ (j : Nat) (p : Nat × DV × DV), es[j]? = some p → ∃ e, l[j]? = some e ∧ p.2.2.rel E.w E.F e.val) →
        (∀ (w : World), (Instr.lookup t ux ui ok).run X.P E.w = (do
          Instr.checkKey l.isEmpty 10000 kt ui
          let (v, k2) ← match ← Instr.findKey kt ui l.toList with
            | some (_, v) => pure (v, true)
            | none => pure (← zeroValue ty.2, false)
          pure (if ok then .tuple #[v, .bool k2] else v) : Sem Value).run X.P E.w) →
        ∃ u, (Instr.lookup t ux ui ok).run X.P E.w = .ok u E.w ∧ v.rel E s.h u := by
      intro l hl hkeys hvals hrun
      have hf := find_sim hkr hka l.toList es 0 hl hkeys hall
      rw [hrun E.w]
      have hck := run_checkKey (P := X.P) (w := E.w) hd hik l.isEmpty 9999
      have hfk := run_findKey (P := X.P) (w := E.w) hd hf
      simp only [Sem.run_bind, hck, Result.andThen_ok, hfk]
      cases hfa : findA k es with
      | none =>
        have hpk : pickA es k = none := by simp [pickA, hfa]
        simp only [hfa, Option.bind_none, Sem.run_bind, hzv, Result.andThen_ok, Sem.run_pure]
        simp only [hpk, hfa, Option.some.injEq] at h
        subst h
        cases ok
        · exact ⟨zv, rfl, hzr⟩
        · refine ⟨_, rfl, [zv, .bool false], rfl, rfl, fun j x hj => ?_⟩
          match j with
          | 0 => cases hj; exact ⟨_, rfl, hzr⟩
          | 1 => cases hj; exact ⟨_, rfl, .bool _⟩
          | j + 2 => simp at hj
      | some j =>
        obtain ⟨p, hp, _⟩ := findA_lt hfa
        obtain ⟨e, he, hv⟩ := hvals j p hp
        have hpk : pickA es k = some p.2.2 := by simp [pickA, hfa, hp]
        have he' : l.toList[j]? = some e := by simpa using he
        simp only [hfa, Option.bind_some, he', Option.map_some, Sem.run_pure, Result.andThen_ok]
        simp only [hpk, hfa, Option.some.injEq] at h
        subst h
        cases ok
        · exact ⟨e.val, rfl, dV_rel hv⟩
        · refine ⟨_, rfl, [e.val, .bool true], rfl, rfl, fun j x hj => ?_⟩
          match j with
          | 0 => cases hj; exact ⟨_, rfl, dV_rel hv⟩
          | 1 => cases hj; exact ⟨_, rfl, .bool _⟩
          | j + 2 => simp at hj
    unfold Ctx.mapOf at hes
    split at hes
    · cases hes
      have : ux = .map none := hx
      subst this
      refine hshow #[] rfl (fun j p hj => by simp at hj) (fun j p hj => by simp at hj) fun w => ?_
      simp only [Instr.lookup, Sem.run_bind, run_underlying hu, Result.andThen_ok, Sem.run_pure]
      rfl
    · rename_i id
      split at hes
      · rename_i es' clock hid
        cases hes
        obtain ⟨b, ⟨_, hρ⟩, rfl⟩ := hx
        obtain ⟨b', ents, hρ', hb, hl, hun, hrd⟩ := hn.rel.env.ob id _ hid
        rw [hρ] at hρ'
        cases hρ'
        have m : MapAt E b es clock ents := ⟨hb, hl, hun, hrd⟩
        refine hshow ents m.keys.1 m.keys.2 (fun j p hj => let ⟨e, he, _, _, hv⟩ := hrd j p hj; ⟨e, he, hv⟩) fun w => ?_
        simp only [Instr.lookup, Sem.run_bind, run_underlying hu, Result.andThen_ok, Go.MapKept.run_getObj_map hb, Sem.run_pure]
        rfl
      · cases hes
    · cases hes
  · cases h

/-- The map's block becomes another map. -/
theorem map_done (hn : Now X A E s a) {id b : Nat} {es es' : MapA} {clock clock' : Nat} {ents ents' : Array MapEntry} (hid : s.h[id]? = some (.map es clock)) (hρ : E.ρ id = some b) (m : MapAt E b es clock ents)
    (hl : ents'.size = es'.length) (hr : ∀ (j : Nat) (p : Nat × DV × DV), es'[j]? = some p → ∃ e, ents'[j]? = some e ∧ e.born = p.1 ∧ p.2.1.rel E.w E.F e.key ∧ p.2.2.rel E.w E.F e.val) :
    Evo s.h.length E s.h (E.setB b (.map ents' clock')) (s.h.set id (.map es' clock')) ∧ EnvOk A (E.setB b (.map ents' clock')) (s.h.set id (.map es' clock')) := by
  have st := Stp.obj hn.rel.env (o' := .map es' clock') (ob' := .map ents' clock') hid (fun h => by cases h) rfl hρ (fun off hf => absurd hf (m.un off))
  have ev := st.evo hn.rel.env
  refine ⟨ev, st.ok hn.rel.env fun o ho => ?_⟩
  simp [lt_of_get hid] at ho
  subst ho
  exact ⟨b, ents', hρ, setB_heap m.heap, hl, m.un, fun j p hj => let ⟨e, he, h1, h2, h3⟩ := hr j p hj; ⟨e, he, h1, h2.evo ev, h3.evo ev⟩⟩

theorem mapat_of (hn : Now X A E s a) {id : Nat} {es : MapA} {clock : Nat} {ux : Value} (hx : (C1.mp id).rel E s.h ux) (hid : s.h[id]? = some (.map es clock)) : ∃ b ents, ux = .map (some b) ∧ E.ρ id = some b ∧ MapAt E b es clock ents := by
  obtain ⟨b, ⟨_, hρ⟩, rfl⟩ := hx
  obtain ⟨b', ents, hρ', hb, hl, hun, hrd⟩ := hn.rel.env.ob id _ hid
  rw [hρ] at hρ'
  cases hρ'
  exact ⟨b, ents, rfl, hρ, hb, hl, hun, hrd⟩

theorem keyEq_val {d : TypeDesc} {a b : DV} {w : World} {F : Fz} {u v : Value} (ha : a.rel w F u) (hb : b.rel w F v) (h1 : isKeyA d a = true) (h2 : isKeyA d b = true) (h : keyEq a b = true) : u = v := by
  have hs := sameNow_sim hb ha h2 h1
  rw [h] at hs
  obtain ⟨r, hr, hiff⟩ := sameNow_of_keys (isKey_sim hb h2) (isKey_sim ha h1)
  rw [hr] at hs
  cases hs
  exact (hiff.1 rfl).symm

theorem modify_get {α : Type} {l : List α} {f : α → α} {i j : Nat} : (l.modify i f)[j]? = if i = j then (l[j]?).map f else l[j]? := by
  rw [List.getElem?_modify]
  split <;> cases l[j]? <;> rfl

theorem update_sim (hn : Now X A E s a) {t : TypeId} {x i v : AV} {ux ui uv : Value} {h' : Hp} (hx : x.rel E s.h ux) (hi : i.rel E s.h ui) (hv : v.rel E s.h uv) (h : X.updateA s.h t x i v = some h') :
    ∃ E', (Instr.mapUpdate t ux ui uv).run X.P E.w = .ok () E'.w ∧ Evo s.h.length E s.h E' h' ∧ EnvOk A E' h' := by
  unfold Ctx.updateA at h
  simp only [Option.bind_eq_some_iff] at h
  obtain ⟨ty, hty, h⟩ := h
  obtain ⟨kt, hu, hd⟩ := mapTy_inv hty
  split at h
  · rename_i id
    split at h
    · rename_i es clock hid
      simp only [Option.bind_eq_some_iff] at h
      obtain ⟨k, hk, y, hy, h⟩ := h
      split at h
      · rename_i hok
        cases h
        simp only [keysOk, Bool.and_eq_true] at hok
        obtain ⟨hka, hall⟩ := hok
        have hkr := dv_rel hi hk
        have hyr := dv_rel hv hy
        have hik := isKey_sim hkr hka
        obtain ⟨b, ents, rfl, hρ, m⟩ := mapat_of hn hx hid
        have hf := find_sim hkr hka ents.toList es 0 m.keys.1 m.keys.2 hall
        have hck := run_checkKey (P := X.P) (w := E.w) hd hik false 9999
        have hfk := run_findKey (P := X.P) (w := E.w) hd hf
        cases hfa : findA k es with
        | none =>
          rw [hfa] at hfk
          simp only [Option.bind_none] at hfk
          have hrun : (Instr.mapUpdate t (.map (some b)) ui uv).run X.P E.w = .ok () (E.setB b (.map (ents.push { key := ui, val := uv, born := clock }) (clock + 1))).w := by
            simp only [Instr.mapUpdate, Sem.run_bind, run_underlying hu, Result.andThen_ok, Go.MapKept.run_getObj_map m.heap, hck, hfk, run_setObj_map _ m.heap]
            rfl
          have hput : putA es clock k y = .map (es ++ [(clock, k, y)]) (clock + 1) := by simp [putA, hfa]
          rw [hput]
          obtain ⟨ev, hok⟩ := map_done (es' := es ++ [(clock, k, y)]) (clock' := clock + 1) (ents' := ents.push { key := ui, val := uv, born := clock }) hn hid hρ m (by simp [m.size]) (fun j p hj => by
            by_cases hjl : j < es.length
            · rw [List.getElem?_append_left hjl] at hj
              rw [Array.getElem?_push_lt (by rw [m.size]; exact hjl)]
              have := m.rd j p hj
              rwa [Array.getElem?_eq_getElem (by rw [m.size]; exact hjl)] at this
            · rw [List.getElem?_append_right (by omega)] at hj
              have hj0 : j - es.length = 0 := by have := lt_of_get hj; simp at this; omega
              rw [hj0] at hj
              cases hj
              have : j = ents.size := by rw [m.size]; omega
              subst this
              exact ⟨_, Array.getElem?_push_size, rfl, hkr, hyr⟩)
          exact ⟨_, hrun, ev, hok⟩
        | some j =>
          obtain ⟨p, hp, hpk⟩ := findA_lt hfa
          obtain ⟨e, he, hb1, hb2, hb3⟩ := m.rd j p hp
          have he' : ents.toList[j]? = some e := by simpa using he
          rw [hfa] at hfk
          simp only [Option.bind_some, he', Option.map_some, Nat.zero_add] at hfk
          have hpa : isKeyA ty.1 p.2.1 = true := by
            rw [List.all_eq_true] at hall
            exact hall p (List.mem_of_getElem? hp)
          have hkey : e.key = ui := keyEq_val hb2 hkr hpa hka hpk
          have hrun : (Instr.mapUpdate t (.map (some b)) ui uv).run X.P E.w = .ok () (E.setB b (.map (ents.modify j fun e => { e with key := ui, val := uv }) clock)).w := by
            simp only [Instr.mapUpdate, Sem.run_bind, run_underlying hu, Result.andThen_ok, Go.MapKept.run_getObj_map m.heap, hck, hfk, he, Option.map_some, Option.getD_some, hkey, run_keyThatStays hik, run_setObj_map _ m.heap]
            rfl
          have hput : putA es clock k y = .map (es.modify j fun e => (e.1, k, y)) clock := by simp [putA, hfa]
          rw [hput]
          obtain ⟨ev, hok⟩ := map_done (es' := es.modify j fun e => (e.1, k, y)) (clock' := clock) (ents' := ents.modify j fun e => { e with key := ui, val := uv }) hn hid hρ m (by simp [m.size]) (fun i q hq => by
            rw [modify_get] at hq
            rw [Array.getElem?_modify]
            by_cases hji : j = i
            · subst hji
              rw [if_pos rfl, hp] at hq
              cases hq
              rw [if_pos rfl, he]
              exact ⟨_, rfl, hb1, hkr, hyr⟩
            · rw [if_neg hji] at hq ⊢
              exact m.rd i q hq)
          exact ⟨_, hrun, ev, hok⟩
      · cases h
    · cases h
  · cases h

theorem entry_sim (hn : Now X A E s a) {t : TypeId} {x i v : AV} {ux ui : Value} {h' : Hp} (hx : x.rel E s.h ux) (hi : i.rel E s.h ui) (h : X.entryA s.h t x i = some (v, h')) :
    ∃ u E', (Instr.mapEntry t ux ui).run X.P E.w = .ok u E'.w ∧ Evo s.h.length E s.h E' h' ∧ EnvOk A E' h' ∧ v.rel E' h' u := by
  unfold Ctx.entryA at h
  simp only [Option.bind_eq_some_iff] at h
  obtain ⟨ty, hty, h⟩ := h
  obtain ⟨kt, hu, hd⟩ := mapTy_inv hty
  split at h
  · rename_i id
    split at h
    · rename_i es clock hid
      simp only [Option.bind_eq_some_iff] at h
      obtain ⟨k, hk, h⟩ := h
      split at h
      · rename_i hok
        simp only [keysOk, Bool.and_eq_true] at hok
        obtain ⟨hka, hall⟩ := hok
        have hkr := dv_rel hi hk
        have hik := isKey_sim hkr hka
        obtain ⟨b, ents, rfl, hρ, m⟩ := mapat_of hn hx hid
        have hf := find_sim hkr hka ents.toList es 0 m.keys.1 m.keys.2 hall
        have hck := run_checkKey (P := X.P) (w := E.w) hd hik false 9999
        have hfk := run_findKey (P := X.P) (w := E.w) hd hf
        cases hfa : findA k es with
        | none =>
          simp only [hfa, Option.bind_eq_some_iff, Option.map_eq_some_iff] at h
          obtain ⟨z, hz, y, hy, h⟩ := h
          cases h
          obtain ⟨zv, hzv, hzr⟩ := zeroV_inv (E := E) (s := s) hz
          have hyr : y.rel E.w E.F zv := dv_rel (E := E) (h := s.h) (x := .v z) hzr hy
          rw [hfa] at hfk
          simp only [Option.bind_none] at hfk
          have hrun : (Instr.mapEntry t (.map (some b)) ui).run X.P E.w = .ok (.tuple #[zv, .int .i64 clock]) (E.setB b (.map (ents.push { key := ui, val := zv, born := clock }) (clock + 1))).w := by
            simp only [Instr.mapEntry, Sem.run_bind, run_underlying hu, Result.andThen_ok, Go.MapKept.run_getObj_map m.heap, hck, hfk, hzv, run_setObj_map _ m.heap, Sem.run_pure, goInt]
            rfl
          obtain ⟨ev, hok⟩ := map_done (es' := es ++ [(clock, k, y)]) (clock' := clock + 1) (ents' := ents.push { key := ui, val := zv, born := clock }) hn hid hρ m (by simp [m.size]) (fun j p hj => by
            by_cases hjl : j < es.length
            · rw [List.getElem?_append_left hjl] at hj
              rw [Array.getElem?_push_lt (by rw [m.size]; exact hjl)]
              have := m.rd j p hj
              rwa [Array.getElem?_eq_getElem (by rw [m.size]; exact hjl)] at this
            · rw [List.getElem?_append_right (by omega)] at hj
              have hj0 : j - es.length = 0 := by have := lt_of_get hj; simp at this; omega
              rw [hj0] at hj
              cases hj
              have : j = ents.size := by rw [m.size]; omega
              subst this
              exact ⟨_, Array.getElem?_push_size, rfl, hkr, hyr⟩)
          refine ⟨_, _, hrun, ev, hok, [zv, .int .i64 clock], rfl, rfl, fun j x hj => ?_⟩
          match j with
          | 0 => cases hj; exact ⟨_, rfl, hzr.evo ev (Nat.le_refl _)⟩
          | 1 => cases hj; exact ⟨_, rfl, .int _ _⟩
          | j + 2 => simp at hj
        | some j =>
          obtain ⟨p, hp, hpk⟩ := findA_lt hfa
          obtain ⟨e, he, hb1, hb2, hb3⟩ := m.rd j p hp
          have he' : ents.toList[j]? = some e := by simpa using he
          simp only [hfa, hp, Option.map_some] at h
          cases h
          rw [hfa] at hfk
          simp only [Option.bind_some, he', Option.map_some, Nat.zero_add] at hfk
          have hpa : isKeyA ty.1 p.2.1 = true := by
            rw [List.all_eq_true] at hall
            exact hall p (List.mem_of_getElem? hp)
          have hkey : e.key = ui := keyEq_val hb2 hkr hpa hka hpk
          have hrun : (Instr.mapEntry t (.map (some b)) ui).run X.P E.w = .ok (.tuple #[e.val, .int .i64 p.1]) (E.setB b (.map (ents.modify j fun e => { e with key := ui }) clock)).w := by
            simp only [Instr.mapEntry, Sem.run_bind, run_underlying hu, Result.andThen_ok, Go.MapKept.run_getObj_map m.heap, hck, hfk, he, Option.map_some, Option.getD_some, hkey, run_keyThatStays hik, run_setObj_map _ m.heap, Sem.run_pure, goInt, hb1]
            rfl
          obtain ⟨ev, hok⟩ := map_done (es' := es.modify j fun e => (e.1, k, e.2.2)) (clock' := clock) (ents' := ents.modify j fun e => { e with key := ui }) hn hid hρ m (by simp [m.size]) (fun i q hq => by
            rw [modify_get] at hq
            rw [Array.getElem?_modify]
            by_cases hji : j = i
            · subst hji
              rw [if_pos rfl, hp] at hq
              cases hq
              rw [if_pos rfl, he]
              exact ⟨_, rfl, hb1, hkr, hb3⟩
            · rw [if_neg hji] at hq ⊢
              exact m.rd i q hq)
          refine ⟨_, _, hrun, ev, hok, [e.val, .int .i64 p.1], rfl, rfl, fun j x hj => ?_⟩
          match j with
          | 0 => cases hj; exact ⟨_, rfl, dV_rel (hb3.evo ev)⟩
          | 1 => cases hj; exact ⟨_, rfl, .int _ _⟩
          | j + 2 => simp at hj
      · cases h
    · cases h
  · cases h

theorem findIdx_sim {b : Nat} {es : MapA} {clock : Nat} {n : Int} : ∀ (l : List MapEntry) (es : MapA), l.length = es.length → (∀ (j : Nat) (p : Nat × DV × DV), es[j]? = some p → ∃ e, l[j]? = some e ∧ e.born = p.1) →
    l.findIdx? (fun e => (e.born : Int) == n) = es.findIdx? (fun e => (e.1 : Int) == n)
  | [], es, hl, _ => by
    have : es = [] := List.eq_nil_of_length_eq_zero (by simpa using hl.symm)
    subst this
    rfl
  | e :: l, es, hl, hr => by
    cases es with
    | nil => simp at hl
    | cons p es =>
      obtain ⟨e', he', hb⟩ := hr 0 p rfl
      cases he'
      rw [List.findIdx?_cons, List.findIdx?_cons, hb, findIdx_sim (b := b) (es := []) (clock := clock) l es (by simpa using hl) (fun j p hj => by simpa using hr (j + 1) p (by simpa using hj))]

theorem entryPut_sim (hn : Now X A E s a) {t : TypeId} {x i v : AV} {ux ui uv : Value} {h' : Hp} (hx : x.rel E s.h ux) (hi : i.rel E s.h ui) (hv : v.rel E s.h uv) (h : X.entryPutA s.h x i v = some h') :
    ∃ E', (Instr.entryStore t ux ui uv).run X.P E.w = .ok () E'.w ∧ Evo s.h.length E s.h E' h' ∧ EnvOk A E' h' := by
  unfold Ctx.entryPutA at h
  split at h
  · rename_i id k n
    split at h
    · rename_i es clock hid
      simp only [Option.bind_eq_some_iff, Option.map_eq_some_iff] at h
      obtain ⟨y, hy, j, hj, rfl⟩ := h
      have hyr := dv_rel hv hy
      have hiv := int_inv (rel_d hi)
      subst hiv
      obtain ⟨b, ents, rfl, hρ, m⟩ := mapat_of hn hx hid
      have hf : ents.findIdx? (fun e => (e.born : Int) == n) = some j := by
        have e0 : ents = ents.toList.toArray := by simp
        rw [e0, List.findIdx?_toArray, findIdx_sim (b := 0) (es := []) (clock := 0) ents.toList es m.keys.1 (fun j p hj => let ⟨e, he, h1, _⟩ := m.rd j p hj; ⟨e, by simpa using he, h1⟩)]
        exact hj
      have hrun : (Instr.entryStore t (.map (some b)) (.int k n) uv).run X.P E.w = .ok () (E.setB b (.map (ents.modify j fun e => { e with val := uv }) clock)).w := by
        simp only [Instr.entryStore, Sem.run_bind, Result.andThen_ok, Go.MapKept.run_getObj_map m.heap, asInt, asIntOf, Sem.run_pure, hf, run_setObj_map _ m.heap]
        rfl
      obtain ⟨ev, hok⟩ := map_done (es' := es.modify j fun e => (e.1, e.2.1, y)) (clock' := clock) (ents' := ents.modify j fun e => { e with val := uv }) hn hid hρ m (by simp [m.size]) (fun i q hq => by
        rw [modify_get] at hq
        rw [Array.getElem?_modify]
        by_cases hji : j = i
        · subst hji
          rw [if_pos rfl] at hq
          simp only [Option.map_eq_some_iff] at hq
          obtain ⟨p, hp, rfl⟩ := hq
          obtain ⟨e, he, h1, h2, h3⟩ := m.rd j p hp
          rw [if_pos rfl, he]
          exact ⟨_, rfl, h1, h2, hyr⟩
        · rw [if_neg hji] at hq ⊢
          exact m.rd i q hq)
      exact ⟨_, hrun, ev, hok⟩
    · cases h
  · cases h

theorem delete_sim (hn : Now X A E s a) {t ty : TypeId} {ts : List TypeId} {x i : AV} {ux ui : Value} {h' : Hp} (hx : x.rel E s.h ux) (hi : i.rel E s.h ui) (h : X.deleteA s.h t x i = some h') :
    ∃ E', (Builtin.delete_ (t :: ts).toArray ty #[ux, ui]).run X.P E.w = .ok (.tuple #[]) E'.w ∧ Evo s.h.length E s.h E' h' ∧ EnvOk A E' h' := by
  unfold Ctx.deleteA at h
  simp only [Option.bind_eq_some_iff] at h
  obtain ⟨ty', hty, h⟩ := h
  obtain ⟨kt, hu, hd⟩ := mapTy_inv hty
  split at h
  · rename_i id
    split at h
    · rename_i es clock hid
      simp only [Option.bind_eq_some_iff] at h
      obtain ⟨k, hk, h⟩ := h
      split at h
      · rename_i hok
        cases h
        simp only [keysOk, Bool.and_eq_true] at hok
        obtain ⟨hka, hall⟩ := hok
        have hkr := dv_rel hi hk
        have hik := isKey_sim hkr hka
        obtain ⟨b, ents, rfl, hρ, m⟩ := mapat_of hn hx hid
        have hf := find_sim hkr hka ents.toList es 0 m.keys.1 m.keys.2 hall
        have hck := run_checkKey (P := X.P) (w := E.w) hd hik ents.isEmpty 9999
        have hfk := run_findKey (P := X.P) (w := E.w) hd hf
        cases hfa : findA k es with
        | none =>
          rw [hfa] at hfk
          simp only [Option.bind_none] at hfk
          have hrun : (Builtin.delete_ (t :: ts).toArray ty #[.map (some b), ui]).run X.P E.w = .ok (.tuple #[]) (E.setB b (.map ents clock)).w := by
            simp only [Builtin.delete_, Sem.run_bind, List.getElem?_toArray, List.getElem?_cons_zero, List.getElem?_cons_succ, run_underlying hu, Result.andThen_ok, Go.MapKept.run_getObj_map m.heap, hck, hfk, run_setObj_map _ m.heap, Sem.run_pure]
            rfl
          obtain ⟨ev, hok⟩ := map_done (es' := es) (clock' := clock) (ents' := ents) hn hid hρ m m.size m.rd
          exact ⟨_, hrun, ev, hok⟩
        | some j =>
          obtain ⟨p, hp, hpk⟩ := findA_lt hfa
          obtain ⟨e, he, hb1, hb2, hb3⟩ := m.rd j p hp
          have he' : ents.toList[j]? = some e := by simpa using he
          rw [hfa] at hfk
          simp only [Option.bind_some, he', Option.map_some, Nat.zero_add] at hfk
          have hjl : j < ents.size := by rw [m.size]; exact lt_of_get hp
          have hrun : (Builtin.delete_ (t :: ts).toArray ty #[.map (some b), ui]).run X.P E.w = .ok (.tuple #[]) (E.setB b (.map (ents.eraseIdxIfInBounds j) clock)).w := by
            simp only [Builtin.delete_, Sem.run_bind, List.getElem?_toArray, List.getElem?_cons_zero, List.getElem?_cons_succ, run_underlying hu, Result.andThen_ok, Go.MapKept.run_getObj_map m.heap, hck, hfk, run_setObj_map _ m.heap, Sem.run_pure]
            rfl
          have herase : (ents.eraseIdxIfInBounds j).toList = ents.toList.eraseIdx j := by
            unfold Array.eraseIdxIfInBounds
            rw [dif_pos hjl, Array.toList_eraseIdx]
          obtain ⟨ev, hok⟩ := map_done (es' := es.eraseIdx j) (clock' := clock) (ents' := ents.eraseIdxIfInBounds j) hn hid hρ m (by
              rw [← Array.length_toList, herase, List.length_eraseIdx, List.length_eraseIdx, Array.length_toList, m.size]) (fun i q hq => by
            rw [← Array.getElem?_toList, herase, List.getElem?_eraseIdx]
            rw [List.getElem?_eraseIdx] at hq
            split at hq
            · rename_i hij
              rw [if_pos hij]
              obtain ⟨e, he, h1⟩ := m.rd i q hq
              exact ⟨e, by simpa using he, h1⟩
            · rename_i hij
              rw [if_neg hij]
              obtain ⟨e, he, h1⟩ := m.rd (i + 1) q hq
              exact ⟨e, by simpa using he, h1⟩)
          exact ⟨_, hrun, ev, hok⟩
      · cases h
    · cases h
  · cases h

/-! ### The runes of a string -/

theorem range_sim (hn : Now X A E s a) {t : TypeId} {l : List UInt8} {u : Value} (hu : X.P.underlying t = some .string) (hx : (C1.d (.str l)).rel E s.h u) :
    ∃ v E', (Instr.range t u).run X.P E.w = .ok v E'.w ∧ Evo s.h.length E s.h E' (s.h ++ [.siter l 0]) ∧ EnvOk A E' (s.h ++ [.siter l 0]) ∧ (C1.it s.h.length).rel E' (s.h ++ [.siter l 0]) v := by
  obtain ⟨b, rfl, rfl⟩ := str_inv hx
  have hb : (⟨b.data.toList.toArray⟩ : ByteArray) = b := by simp
  have st := Stp.new hn.rel.env (.stringIter b 0) (.siter b.data.toList 0)
  have ev := st.evo hn.rel.env
  refine ⟨_, _, run_range_string E.w t b hu, ev, st.ok hn.rel.env fun o ho => ?_, ?_⟩
  · simp at ho
    subst ho
    refine ⟨E.w.heap.size, by simp [Env.newOb], ?_⟩
    rw [hb]
    exact heap_alloc_new _ _
  · exact ⟨_, new_at, rfl⟩

theorem next_sim (hn : Now X A E s a) {ty : TypeId} {x v : AV} {u : Value} {str : Bool} {h' : Hp} (hx : x.rel E s.h u) (h : X.nextA s.h x str = some (v, h')) :
    ∃ r E', (Instr.next u str ty).run X.P E.w = .ok r E'.w ∧ Evo s.h.length E s.h E' h' ∧ EnvOk A E' h' ∧ v.rel E' h' r := by
  unfold Ctx.nextA at h
  split at h
  · rename_i id
    split at h
    · rename_i l pos hid
      obtain ⟨b, ⟨_, hρ⟩, rfl⟩ := hx
      obtain ⟨b', hρ', hb⟩ := hn.rel.env.ob id _ hid
      rw [hρ] at hρ'
      cases hρ'
      have hsz : (⟨l.toArray⟩ : ByteArray).size = l.length := by simp [ByteArray.size]
      split at h
      · rename_i hlt
        cases h
        have hlt' : pos < (⟨l.toArray⟩ : ByteArray).size := by rw [hsz]; exact hlt
        have st := Stp.obj hn.rel.env (o' := .siter l (pos + (Utf8.decode ⟨l.toArray⟩ pos).2)) (ob' := .stringIter ⟨l.toArray⟩ (pos + (Utf8.decode ⟨l.toArray⟩ pos).2)) hid (fun h => by cases h) rfl hρ (fun off _ => by
          simp only [World.cell?, setB_heap hb, hb])
        have ev := st.evo hn.rel.env
        have hok := st.ok hn.rel.env fun o ho => by
          simp [lt_of_get hid] at ho
          subst ho
          exact ⟨b, hρ, setB_heap hb⟩
        refine ⟨.tuple #[.bool true, .int .i64 pos, .int .i32 (Utf8.decode ⟨l.toArray⟩ pos).1], _, ?_, ev, hok, [.bool true, .int .i64 pos, .int .i32 (Utf8.decode ⟨l.toArray⟩ pos).1], rfl, rfl, fun j x hj => ?_⟩
        · simp only [Instr.next, getObj, setObj, Sem.run_bind, Sem.run, hb, Result.andThen, hlt', if_true, goInt]
          rfl
        · match j with
          | 0 => cases hj; exact ⟨_, rfl, .bool _⟩
          | 1 => cases hj; exact ⟨_, rfl, .int _ _⟩
          | 2 => cases hj; exact ⟨_, rfl, .int _ _⟩
          | j + 3 => simp at hj
      · rename_i hlt
        cases h
        have hlt' : ¬ pos < (⟨l.toArray⟩ : ByteArray).size := by rw [hsz]; exact hlt
        refine ⟨.tuple #[.bool false], E, ?_, Evo.refl (Nat.le_refl _), hn.rel.env, [.bool false], rfl, rfl, fun j x hj => ?_⟩
        · simp only [Instr.next, getObj, Sem.run_bind, Sem.run, hb, Result.andThen, hlt', if_false]
          rfl
        · match j with
          | 0 => cases hj; exact ⟨_, rfl, .bool _⟩
          | j + 1 => simp at hj
    · cases h
  · cases h

/-! ### Slices that can still be written -/

theorem lenM_msl {t ty : TypeId} {id n m z : Nat} {c : Option (List C1)} {e : TypeId} {u : Value} (hx : (C1.msl id n).rel E s.h u) (hu : X.P.underlying t = some (.slice e)) (hid : s.h[id]? = some (.tok m z c)) (hn : n = m) :
    (Builtin.len_ #[t] ty #[u]).run X.P E.w = .ok (.int .i64 n) E.w := by
  obtain ⟨_, m', z', c', hid', _, ho⟩ := hx
  rw [hid] at hid'
  cases hid'
  have ho := ho hn
  subst hn
  unfold OwnRow at ho
  split at ho
  · obtain ⟨⟨base, rfl, hsp⟩, rfl⟩ := ho
    simp [Builtin.len_, run_underlying hu, goInt]
  · obtain ⟨cap, _, _, rfl, _⟩ := ho
    simp [Builtin.len_, run_underlying hu, goInt]

theorem lenM_mso {t ty : TypeId} {id m o n : Nat} {e : TypeId} {u : Value} (hx : (C1.mso id m o n).rel E s.h u) (hu : X.P.underlying t = some (.slice e)) :
    (Builtin.len_ #[t] ty #[u]).run X.P E.w = .ok (.int .i64 n) E.w := by
  obtain ⟨b, cap, rfl, _⟩ := hx
  simp [Builtin.len_, run_underlying hu, goInt]

theorem lenM_map (henv : EnvOk A E s.h) {t ty : TypeId} {id clock : Nat} {es : MapA} {k e : TypeId} {u : Value} (hx : (C1.mp id).rel E s.h u) (hu : X.P.underlying t = some (.map k e)) (hid : s.h[id]? = some (.map es clock)) :
    (Builtin.len_ #[t] ty #[u]).run X.P E.w = .ok (.int .i64 es.length) E.w := by
  obtain ⟨b, ⟨_, hρ⟩, rfl⟩ := hx
  obtain ⟨b', ents, hρ', hb, hl, _⟩ := henv.ob id _ hid
  rw [hρ] at hρ'
  cases hρ'
  simp [Builtin.len_, run_underlying hu, goInt, Go.MapKept.run_getObj_map hb, hl]

theorem indexAddrM_sim (henv : EnvOk A E s.h) {t : TypeId} {x : AV} {ux : Value} {k : IntKind} {i : Int} {c : C1} (hx : x.rel E s.h ux) (h : X.indexAddrM s.h t x i = some c) :
    ∃ u, (Instr.indexAt t ux (.int k i)).run X.P E.w = .ok u E.w ∧ c.rel E s.h u := by
  unfold Ctx.indexAddrM at h
  split at h
  · rename_i id n
    split at h
    · rename_i e m z ds hu hid
      split at h
      · rename_i hc
        obtain ⟨rfl, hi0, hin, hz⟩ := hc
        cases h
        obtain ⟨_, m', z', c', hid', _, ho⟩ := hx
        rw [hid] at hid'
        cases hid'
        have ho := ho rfl
        unfold OwnRow at ho
        split at ho
        · obtain ⟨_, h0⟩ := ho; omega
        · rename_i b hρ
          obtain ⟨cap, vs, T, rfl, _⟩ := ho
          refine ⟨.pointer (some ⟨b, i.toNat * z, none⟩), ?_, b, rfl, _, _, _, hid, Nat.le_refl _, fun _ => hρ⟩
          simp only [Instr.indexAt, run_underlying hu, asIntOf, Sem.run_bind, Sem.run_pure, Result.andThen_ok]
          rw [if_pos ⟨hi0, by omega⟩]
          simp [run_sizeOf (size_info hz), Addr.add_zero_none]
      · cases h
    · cases h
  · rename_i id k o n
    split at h
    · rename_i e m z ds hu hid
      split at h
      · rename_i hc
        obtain ⟨rfl, hi0, hin, hz⟩ := hc
        cases h
        obtain ⟨b, cap, rfl, _, m', z', c', hid', _, ho⟩ := hx
        rw [hid] at hid'
        cases hid'
        have ho := ho rfl
        refine ⟨.pointer (some ⟨b, o + i.toNat * z, none⟩), ?_, b, rfl, _, _, _, hid, Nat.le_refl _, fun _ => ho.1⟩
        simp only [Instr.indexAt, run_underlying hu, asIntOf, Sem.run_bind, Sem.run_pure, Result.andThen_ok]
        rw [if_pos ⟨hi0, by omega⟩]
        simp [run_sizeOf (size_info hz), Addr.add_zero_none]
      · cases h
    · cases h
  · exact indexAddr_sim hx h

end
end Go.Ab
