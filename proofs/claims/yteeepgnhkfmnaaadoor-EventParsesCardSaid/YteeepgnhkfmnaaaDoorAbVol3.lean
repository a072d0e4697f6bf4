/-
  Texts of the layer and of the laws, put together: Ab6. No law is stated here.
-/
import Derived.Test.YteeepgnhkfmnaaaDoorAbVol2
import Derived.Lib.Bytes
set_option linter.unusedSimpArgs false
set_option linter.unusedVariables false
set_option maxRecDepth 100000

/-
  Each operation of the code does what the abstract one says: stores, conversions, slicing, indexing.
-/
namespace Go.Ab
open Go.RowKit

section
variable {X : Ctx} {A : Actn} {E : Env} {s : S} {a : Act}

theorem setAt_rel {E : Env} {h : Hp} {vs : List Value} {us : List Value} {cs xs : List C1} {off : Nat} (hc : CellsRel E h vs cs) (hx : CellsRel E h us xs) (hle : off + xs.length ≤ cs.length) :
    CellsRel E h (vs.take off ++ us ++ vs.drop (off + us.length)) (setAt cs off xs) := by
  have hvl := hc.1
  have hul := hx.1
  refine ⟨by simp [setAt]; omega, fun j x hj => ?_⟩
  simp only [setAt] at hj
  rw [List.append_assoc]
  by_cases h1 : j < off
  · rw [List.getElem?_append_left (by simp; omega), List.getElem?_take, if_pos h1] at hj
    rw [List.getElem?_append_left (by simp; omega), List.getElem?_take, if_pos h1]
    exact hc.2 j x hj
  · rw [List.getElem?_append_right (by simp; omega)] at hj
    rw [List.getElem?_append_right (by simp; omega)]
    simp only [List.length_take, Nat.min_eq_left (show off ≤ cs.length by omega)] at hj
    simp only [List.length_take, Nat.min_eq_left (show off ≤ vs.length by omega)]
    by_cases h2 : j - off < xs.length
    · rw [List.getElem?_append_left h2] at hj
      rw [List.getElem?_append_left (by omega)]
      exact hx.2 _ x hj
    · rw [List.getElem?_append_right (by omega), List.getElem?_drop] at hj
      rw [List.getElem?_append_right (by omega), List.getElem?_drop, hul]
      exact hc.2 _ x hj

theorem storeVar_run {P : Program} {w : World} {b off : Nat} {t : TypeId} {v : Value} {cur : Array Value} {T : TypeId} {n : Nat} (hb : w.heap[b]? = some (.cells cur T (0, 0)))
    (hn : (P.info? t).map (·.size) = some n) (hv : v.cells.size = n) (hle : off + n ≤ cur.size) (h1 : ∀ u ∈ v.cells.toList, u.oneCell' = true) :
    (storeVar t ⟨b, off, none⟩ v).run P w = .ok () (w.setRow b (cur.toList.take off ++ v.cells.toList ++ cur.toList.drop (off + v.cells.toList.length)).toArray) := by
  have := run_storeCells_at P b off T v.cells.toList 0 cur w hb (by simp; omega) h1
  simp only [Nat.add_zero] at this
  simp [storeVar, run_sizeOf hn, hv, this]

theorem cells_one {E : Env} {h : Hp} {vs : List Value} {cs : List C1} (hc : CellsRel E h vs cs) : ∀ u ∈ vs, u.oneCell' = true := by
  intro u hu
  obtain ⟨j, hj⟩ := List.getElem?_of_mem hu
  have hlt : j < cs.length := by have := lt_of_get hj; have := hc.1; omega
  obtain ⟨u', hu', _, h1⟩ := hc.2 j _ (List.getElem?_eq_getElem hlt)
  rw [hj] at hu'
  cases hu'
  exact h1

/-- The cells of an own variable are written. -/
theorem Stp.row {A : Actn} {E : Env} {h : Hp} (hE : EnvOk A E h) {id b : Nat} {cs cs' : List C1} {vs' : Array Value} (hid : h[id]? = some (.box cs)) (hρ : E.ρ id = some b)
    (hf : ∀ o, ¬ E.F b o) : Stp A.G.dr E h id { E with w := E.w.setRow b vs' } (h.set id (.box cs')) where
  os := rfl
  tape := rfl
  output := rfl
  size := by simp
  blk k _ hne := setRow_other _ _ _ _ (fun e => hne ⟨lt_of_get hid, by rw [hρ, e]⟩)
  idle := Nat.le_of_lt (lt_of_get hid)
  len := by simp
  len' := by simp; omega
  ρ _ _ _ := rfl
  hh j _ hji := by rw [List.getElem?_set_ne (Ne.symm hji)]
  F _ _ h := h
  F' _ _ h := .inl h
  same x o hx := World.cell?_of_block (setRow_other _ _ _ _ (fun e => hf o (e ▸ hx)))
  at' x _ hx := by
    have hx' : E.ρ id = some x := hx
    rw [hρ] at hx'
    cases hx'
    exact ⟨by simpa using hE.lt_len (lt_of_get hid) hρ, .inr ⟨lt_of_get hid, hρ⟩⟩
  keep o ho := by
    rw [hid] at ho
    cases ho
    exact ⟨⟨.box cs', by simp [lt_of_get hid], rfl⟩, rfl⟩

theorem cells_d' {E : Env} {h : Hp} {vs : List Value} {xs : List D} (hl : vs.length = xs.length) (hx : ∀ (k : Nat) (y : D), xs[k]? = some y → ∃ v, vs[k]? = some v ∧ Rd E.w E.F v y) : CellsRel E h vs (xs.map .d) := by
  refine ⟨by simp [hl], fun j x hj => ?_⟩
  rw [List.getElem?_map] at hj
  cases hq : xs[j]? with
  | none => simp [hq] at hj
  | some y =>
    simp [hq] at hj
    subst hj
    obtain ⟨v, hv, hr⟩ := hx j y hq
    exact ⟨v, hv, hr, hr.one⟩

theorem store_sim (hn : Now X A E s a) {o : Oper} {K : Act → World → Prop} {Q : Exit → Act → World → Prop} {t : TypeId} {p v : AV} {up uv : Value} {h' : Hp}
    (hp : p.rel E s.h up) (hv : v.rel E s.h uv) (hs : X.storeA s.h t p v = some h')
    (hex : ∀ w', (Instr.storeAt t up uv).run X.P E.w = .ok () w' → (execOp a.eval o).run X.P E.w = .ok .skip w') (hd : Done A E s.h o a K Q (.skip h')) : o.wp X.P a E.w K Q := by
  unfold Ctx.storeA at hs
  split at hs
  · rename_i id off
    split at hs
    · rename_i cs hid
      cases hx : v.cs with
      | none => simp [hx] at hs
      | some xs =>
        cases hz : X.size t with
        | none => simp [hx, hz] at hs
        | some n =>
          simp only [hx, hz, Option.bind_some] at hs
          split at hs
          · rename_i hc
            cases hs
            obtain ⟨b, ⟨_, hρ⟩, rfl⟩ := hp
            obtain ⟨b', vs, T, hρ', hb, hcr, hf⟩ := hn.rel.env.ob id _ hid
            rw [hρ] at hρ'
            cases hρ'
            have hxr := cs_rel hv hx
            have hxl : uv.cells.size = n := by have := hxr.1; simp at this; omega
            have hvl : vs.size = cs.length := by have := hcr.1; simpa using this
            have hrun := storeVar_run (P := X.P) (w := E.w) (off := off) hb (size_info hz) hxl (by omega) (cells_one hxr)
            have st := Stp.row hn.rel.env (cs' := setAt cs off xs) (vs' := (vs.toList.take off ++ uv.cells.toList ++ vs.toList.drop (off + uv.cells.toList.length)).toArray) hid hρ hf
            have ev := st.evo hn.rel.env
            have hrun' := hex _ (by simp only [Instr.storeAt, Instr.sureAddr, Sem.run_bind, Sem.run_pure, Result.andThen_ok]; exact hrun)
            simp only [Oper.wp, hrun', Oper.upon_skip]
            refine hd _ ev (st.ok hn.rel.env fun o ho => ?_)
            simp [lt_of_get hid] at ho
            subst ho
            refine ⟨b, _, T, hρ, setRow_heap _ _ _ _ _ _ hb, ?_, hf⟩
            exact (setAt_rel hcr hxr (by omega)).evo ev (Nat.le_refl _)
          · cases hs
    · cases hs
  · rename_i id n off
    split at hs
    · rename_i m z ds hid
      cases hx : v.cs with
      | none => simp [hx] at hs
      | some xs =>
        skip
        · cases hz : X.size t with
          | none => simp [hx, hz] at hs
          | some k =>
            simp only [hx, hz, Option.bind_some] at hs
            split at hs
            · rename_i hc
              obtain ⟨rfl, hdl, hle⟩ := hc
              cases hs
              obtain ⟨b, rfl, m', z', c', hid', _, hpv⟩ := hp
              rw [hid] at hid'
              cases hid'
              have hρ := hpv rfl
              have hidl := lt_of_get hid
              obtain ⟨hz0, h3 | ⟨b', vs, T, hρ', hb, hnz, hcr, hf⟩⟩ := hn.rel.env.ob id _ hid
              · rw [hρ] at h3; cases h3.1
              · rw [hρ] at hρ'
                cases hρ'
                have hxr := cs_rel hv hx
                have hxl : uv.cells.size = k := by have := hxr.1; simp at this; omega
                have hdsl : ds.length = n * z := by have := hcr.1; simp at this; omega
                have hrun := storeVar_run (P := X.P) (w := E.w) (off := off) hb (size_info hz) hxl (by omega) (cells_one hxr)
                generalize hrow : (vs.toList.take off ++ uv.cells.toList ++ vs.toList.drop (off + uv.cells.toList.length)).toArray = row at hrun
                have hulen : uv.cells.toList.length = k := by simpa using hxl
                have hrs : row.size = vs.size := by rw [← hrow]; simp; omega
                have htake : row.toList.take (n * z) = (vs.toList.take (n * z)).take off ++ uv.cells.toList ++ (vs.toList.take (n * z)).drop (off + uv.cells.toList.length) := by
                  rw [← hrow, List.toList_toArray, List.take_take, Nat.min_eq_left (by omega), List.append_assoc, List.append_assoc, List.take_append, List.take_append]
                  have e1 : (vs.toList.take off).length = off := by simp; omega
                  rw [e1, hulen, List.drop_take]
                  congr 1
                  · rw [List.take_take, Nat.min_eq_right (by omega)]
                  · congr 1
                    · rw [List.take_of_length_le (by rw [hulen]; omega)]
                    · congr 1
                      omega
                have hheap : (E.w.setRow b row).heap[b]? = some (.cells row T (0, 0)) := setRow_heap _ _ _ _ _ _ hb
                have hbl : b < E.w.heap.size := (Array.getElem?_eq_some_iff.1 hb).1
                have hat : (s.h.set id (.tok n z (some (setAt ds off xs))))[id]? = some (.tok n z (some (setAt ds off xs))) := by simp [hidl]
                let E' : Env := { E with w := E.w.setRow b row }
                have st : Stp A.G.dr E s.h id E' (s.h.set id (.tok n z (some (setAt ds off xs)))) := {
                  os := rfl
                  tape := rfl
                  output := rfl
                  size := by simp [E']
                  blk := fun k _ hne => setRow_other _ _ _ _ (fun e => hne ⟨hidl, by rw [hρ, e]⟩)
                  idle := Nat.le_of_lt hidl
                  len := by simp
                  len' := by simp; omega
                  ρ := fun _ _ _ => rfl
                  hh := fun j _ hji => by rw [List.getElem?_set_ne (Ne.symm hji)]
                  F := fun _ _ h => h
                  F' := fun c o h => .inl h
                  same := fun c o hfr => by
                    by_cases hcb : c = b
                    · subst hcb; exact absurd hfr (hf o)
                    · exact World.cell?_of_block (setRow_other _ _ _ _ hcb)
                  at' := fun c _ hc => by
                    have hc' : E.ρ id = some c := hc
                    rw [hρ] at hc'
                    cases hc'
                    exact ⟨by simpa [E'] using hbl, .inr ⟨hidl, hρ⟩⟩
                  keep := fun o ho => by
                    rw [hid] at ho
                    cases ho
                    exact ⟨n, _, hat, Nat.le_refl _, fun _ => ⟨rfl, fun b2 vs2 T2 h2 h3 => by
                      rw [hρ] at h2
                      cases h2
                      rw [hb] at h3
                      cases h3
                      exact ⟨row, T, hheap, hrs⟩⟩⟩ }
                have ev := st.evo hn.rel.env
                have hrun' := hex _ (by simp only [Instr.storeAt, Instr.sureAddr, Sem.run_bind, Sem.run_pure, Result.andThen_ok]; exact hrun)
                simp only [Oper.wp, hrun', Oper.upon_skip]
                refine hd E' ev (st.ok hn.rel.env fun o ho => ?_)
                rw [hat] at ho
                cases ho
                refine ⟨hz0, .inr ⟨b, row, T, hρ, hheap, by rw [hrs]; exact hnz, ?_, hf⟩⟩
                rw [htake]
                exact (setAt_rel hcr hxr (by omega)).evo ev (Nat.le_refl _)
            · cases hs
    · cases hs
  · cases hs

/-! ### Slices -/

/-- What a slice value is, its elements known. -/
theorem elems_rel {E : Env} {h : Hp} {v : Value} {c : C1} {es : List (List D)} (hr : c.rel E h v) (he : c.elems = some es) : ∃ full, Rd E.w E.F v (.sl full es) ∧ (c.toD = some (.sl full es)) := by
  unfold C1.elems at he
  split at he
  · rename_i full es'
    cases he
    exact ⟨full, hr, rfl⟩
  · cases he
    exact ⟨false, hr.1, rfl⟩
  · cases he

theorem Rd.weak {w : World} {F : Fz} {v : Value} {full : Bool} {es : List (List D)} (h : Rd w F v (.sl full es)) : Rd w F v (.sl false es) := by
  cases h with
  | nil b f => exact .nil b _
  | sl b o len cap size full es vals hlen hcap hfull hsize hF hc h1 hr => exact .sl b o len cap size false es vals hlen hcap (by simp) hsize hF hc h1 hr

theorem sl_inv {w : World} {F : Fz} {v : Value} {full : Bool} {es : List (List D)} (h : Rd w F v (.sl full es)) : ∃ a cap, v = .slice a es.length cap ∧ es.length ≤ cap ∧ (full = true → cap = es.length) ∧ (a = none → es = [] ∧ cap = 0) := by
  cases h with
  | nil b f => exact ⟨b, 0, rfl, Nat.le_refl _, fun _ => rfl, fun _ => ⟨rfl, rfl⟩⟩
  | sl b o len cap size full es vals hlen hcap hfull hsize hF hc h1 hr =>
    subst hlen
    exact ⟨_, _, rfl, hcap, hfull, fun h => by cases h⟩

/-- The two shapes of a slice. -/
theorem sl_cases {w : World} {F : Fz} {v : Value} {full : Bool} {es : List (List D)} (h : Rd w F v (.sl full es)) : (∃ base, v = .slice base 0 0 ∧ es = []) ∨
    ∃ b o cap size, ∃ vals : Nat → Nat → Value, v = .slice (some ⟨b, o, none⟩) es.length cap ∧ es.length ≤ cap ∧ (full = true → cap = es.length) ∧ (∀ e ∈ es, e.length = size) ∧
      (∀ i j, i < es.length → j < size → F b (o + i * size + j)) ∧ (∀ i j, i < es.length → j < size → w.cell? ⟨b, o + i * size + j, none⟩ = some (vals i j)) ∧
      (∀ i j, i < es.length → j < size → (vals i j).oneCell' = true) ∧ ∀ (i j : Nat) (e : List D) (y : D), es[i]? = some e → e[j]? = some y → Rd w F (vals i j) y := by
  cases h with
  | nil b f => exact .inl ⟨b, rfl, rfl⟩
  | sl b o len cap size full es vals hlen hcap hfull hsize hF hc h1 hr =>
    subst hlen
    exact .inr ⟨b, o, cap, size, vals, rfl, hcap, hfull, hsize, hF, hc, h1, hr⟩

/-- An element's cells. -/
theorem elem_ptr {w : World} {F : Fz} {v : Value} {full : Bool} {es : List (List D)} {i z : Nat} {r : List D} (h : Rd w F v (.sl full es)) (hi : es[i]? = some r) (hz : r.length = z) :
    ∃ b o cap, v = .slice (some ⟨b, o, none⟩) es.length cap ∧ DPtr w F (.pointer (some ⟨b, o + i * z, none⟩)) r := by
  cases h with
  | nil b f => simp at hi
  | sl b o len cap size full es vals hlen hcap hfull hsize hF hc h1 hr =>
    subst hlen
    have hil := lt_of_get hi
    have hs : r.length = size := hsize r (List.mem_of_getElem? hi)
    have hzs : z = size := by omega
    subst hzs
    refine ⟨b, o, cap, rfl, b, o + i * z, rfl, fun j x hj => ?_⟩
    have hjl : j < z := by have := lt_of_get hj; omega
    exact ⟨hF i j hil hjl, vals i j, hc i j hil hjl, hr i j r x hi hj⟩

theorem Addr.add_zero_none (b o n : Nat) : (⟨b, o, none⟩ : Addr).add n = ⟨b, o + n, none⟩ := Addr.add_mid b o n

theorem dptr_drop {w : World} {F : Fz} {b o : Nat} {xs : List D} (h : DPtr w F (.pointer (some ⟨b, o, none⟩)) xs) (n : Nat) : DPtr w F (.pointer (some ⟨b, o + n, none⟩)) (xs.drop n) := by
  obtain ⟨b', o', he, hx⟩ := h
  cases he
  refine ⟨b, o + n, rfl, fun j x hj => ?_⟩
  rw [List.getElem?_drop] at hj
  have := hx _ x hj
  rw [Nat.add_assoc]
  exact this

theorem indexAddr_sim {t : TypeId} {x : AV} {ux : Value} {k : IntKind} {i : Int} {c : C1} (hx : x.rel E s.h ux) (h : X.indexAddrA t x i = some c) :
    ∃ u, (Instr.indexAt t ux (.int k i)).run X.P E.w = .ok u E.w ∧ c.rel E s.h u := by
  unfold Ctx.indexAddrA at h
  cases hu : X.P.underlying t with
  | none => simp [hu] at h
  | some dt =>
    simp only [hu, Option.bind_some] at h
    split at h
    · rename_i e ps
      cases hz : X.size e with
      | none => simp [hz] at h
      | some z =>
        simp only [hz, Option.bind_some] at h
        split at h
        · rename_i hi
          obtain ⟨rfl, hi0, hi1⟩ := hi
          cases h
          obtain ⟨b, o, cap, rfl, hp⟩ := id hx
          refine ⟨.pointer (some ⟨b, o + i.toNat * 1, none⟩), ?_, b, o + i.toNat * 1, rfl, fun j p hj => ?_⟩
          · simp only [Instr.indexAt, run_underlying hu, asIntOf, Sem.run_bind, Sem.run_pure, Result.andThen_ok]
            rw [if_pos ⟨hi0, by omega⟩]
            simp [run_sizeOf (size_info hz), Addr.add_zero_none]
          · rw [List.getElem?_drop] at hj
            have := hp _ p hj
            rw [Nat.mul_one, Nat.add_assoc]
            exact this
        · cases h
    · rename_i e c0 _
      cases he : c0.elems with
      | none => simp [he] at h
      | some es =>
        cases hz : X.size e with
        | none => simp [he, hz] at h
        | some z =>
          simp only [he, hz, Option.bind_some] at h
          split at h
          · rename_i hi0
            cases hr : es[i.toNat]? with
            | none => simp [hr] at h
            | some r =>
              simp only [hr, Option.bind_some] at h
              split at h
              · rename_i hrl
                cases h
                obtain ⟨full, hrd, _⟩ := elems_rel hx he
                obtain ⟨b, o, cap, rfl, hp⟩ := elem_ptr hrd hr hrl
                have hlt := lt_of_get hr
                refine ⟨_, ?_, hp⟩
                simp only [Instr.indexAt, run_underlying hu, asIntOf, Sem.run_bind, Sem.run_pure, Result.andThen_ok]
                rw [if_pos ⟨hi0, by omega⟩]
                simp [run_sizeOf (size_info hz), Addr.add_zero_none]
              · cases h
          · cases h
    · rename_i n e xs
      cases hz : X.size e with
      | none => simp [hz] at h
      | some z =>
        simp only [hz, Option.bind_some] at h
        split at h
        · rename_i hi
          cases h
          obtain ⟨b, o, rfl, hp⟩ := id hx
          refine ⟨.pointer (some ⟨b, o + i.toNat * z, none⟩), ?_, dptr_drop ⟨b, o, rfl, hp⟩ _⟩
          simp only [Instr.indexAt, run_underlying hu, asIntOf, Instr.sureAddr, Sem.run_bind, Sem.run_pure, Result.andThen_ok]
          rw [if_pos hi]
          simp [run_sizeOf (size_info hz), Addr.add_zero_none]
        · cases h
    · rename_i n e id off
      cases hz : X.size e with
      | none => simp [hz] at h
      | some z =>
        simp only [hz, Option.bind_some] at h
        split at h
        · rename_i hi
          cases h
          obtain ⟨b, hat, rfl⟩ := hx
          refine ⟨.pointer (some ⟨b, off + i.toNat * z, none⟩), ?_, b, hat, rfl⟩
          simp only [Instr.indexAt, run_underlying hu, asIntOf, Instr.sureAddr, Sem.run_bind, Sem.run_pure, Result.andThen_ok]
          rw [if_pos hi]
          simp [run_sizeOf (size_info hz), Addr.add_zero_none]
        · cases h
    · cases h

theorem data_get (s : ByteArray) (i : Nat) (b : UInt8) (h : s.data.toList[i]? = some b) : s[i]? = some b := by
  have hl : i < s.size := by have := lt_of_get h; rw [Lib.size_eq]; exact this
  rw [ByteArray.getElem?_lt' s i hl]
  rw [List.getElem?_eq_getElem (lt_of_get h)] at h
  simp at h
  rw [← h]
  rfl

theorem index_sim {t : TypeId} {x v : AV} {ux : Value} {k : IntKind} {i : Int} (hx : x.rel E s.h ux) (h : X.indexA t x i = some v) :
    ∃ u, (Instr.index t ux (.int k i)).run X.P E.w = .ok u E.w ∧ v.rel E s.h u := by
  unfold Ctx.indexA at h
  cases hu : X.P.underlying t with
  | none => simp [hu] at h
  | some dt =>
    simp only [hu, Option.bind_some] at h
    split at h
    · rename_i l
      split at h
      · rename_i hi
        cases hb : l[i.toNat]? with
        | none => simp [hb] at h
        | some b =>
          simp [hb] at h
          subst h
          obtain ⟨s', rfl, rfl⟩ := str_inv (rel_d hx)
          refine ⟨.int .u8 b.toNat, ?_, .int _ _⟩
          simp [Instr.index, run_underlying hu, asIntOf, hi, data_get s' _ b hb]
      · cases h
    · rename_i n e cs
      cases hz : X.size e with
      | none => simp [hz] at h
      | some z =>
        simp only [hz, Option.bind_some] at h
        split at h
        · rename_i hi
          cases hp : X.part e cs (i.toNat * z) with
          | none => simp [hp] at h
          | some y =>
            simp [hp] at h
            subst h
            obtain ⟨vs, rfl, hc⟩ := hx
            obtain ⟨u, hru, hrel⟩ := part_sim (E := E) (h := s.h) hc hp
            refine ⟨u, ?_, hrel⟩
            simp only [Instr.index, run_underlying hu, asIntOf, Sem.run_bind, Sem.run_pure, Result.andThen_ok]
            rw [if_pos hi]
            simp [run_sizeOf (size_info hz), hru]
        · cases h
    · cases h

theorem sliceBound_run {P : Program} {w : World} {k : IntKind} {i : Int} {y : Nat} {code : BoundsCode} (h : 0 ≤ i ∧ i ≤ y) : (Instr.sliceBound (.int k i) y code).run P w = .ok i.toNat w := by
  simp only [Instr.sliceBound, asIntOf, Sem.run_bind, Sem.run_pure, Result.andThen_ok]
  rw [if_pos h]
  rfl

/-- A bound of a slice expression, as a value. -/
def BoundRel (v : Option Value) (i : Option Int) : Prop := match v, i with
  | none, none => True
  | some v, some n => ∃ k, v = .int k n
  | _, _ => False

theorem sliceBounds_run {P : Program} {w : World} {isS : Bool} {len cap : Nat} {lo hi mx : Option Value} {l h m : Option Int} (h1 : BoundRel lo l) (h2 : BoundRel hi h) (h3 : BoundRel mx m)
    (hl : 0 ≤ l.getD 0) (hlh : l.getD 0 ≤ h.getD len) (hhm : h.getD len ≤ m.getD (if h.isSome then cap else len)) (hmc : m.getD cap ≤ cap) (hmh : m.isSome → h.isSome) :
    (Instr.sliceBounds isS len cap lo hi mx).run P w = .ok ((l.getD 0).toNat, (h.getD len).toNat, (m.getD cap).toNat) w := by
  cases mx with
  | none =>
    cases m with
    | some _ => exact h3.elim
    | none =>
      cases hi with
      | none =>
        cases h with
        | some _ => exact h2.elim
        | none =>
          cases lo with
          | none =>
            cases l with
            | some _ => exact h1.elim
            | none => simp [Instr.sliceBounds]
          | some v =>
            cases l with
            | none => exact h1.elim
            | some n =>
              obtain ⟨k, rfl⟩ := h1
              simp at hl hlh
              simp [Instr.sliceBounds, sliceBound_run ⟨hl, hlh⟩]
      | some v =>
        cases h with
        | none => exact h2.elim
        | some n =>
          obtain ⟨k, rfl⟩ := h2
          simp at hlh hhm
          have hn0 : 0 ≤ n := by omega
          have hb := fun code => sliceBound_run (P := P) (w := w) (k := k) (code := code) (y := cap) ⟨hn0, hhm⟩
          cases lo with
          | none =>
            cases l with
            | some _ => exact h1.elim
            | none => simp [Instr.sliceBounds, hb]
          | some v =>
            cases l with
            | none => exact h1.elim
            | some n' =>
              obtain ⟨k', rfl⟩ := h1
              simp at hl hlh
              have hb' := fun code => sliceBound_run (P := P) (w := w) (k := k') (code := code) (i := n') (y := n.toNat) ⟨hl, by omega⟩
              simp [Instr.sliceBounds, hb, hb']
  | some vm =>
    cases m with
    | none => exact h3.elim
    | some nm =>
      obtain ⟨km, rfl⟩ := h3
      cases hi with
      | none =>
        cases h with
        | some _ => exact h2.elim
        | none => simp at hmh
      | some v =>
        cases h with
        | none => exact h2.elim
        | some n =>
          obtain ⟨k, rfl⟩ := h2
          simp at hlh hhm hmc
          have hn0 : 0 ≤ n := by omega
          have hbm := fun code => sliceBound_run (P := P) (w := w) (k := km) (code := code) (i := nm) (y := cap) ⟨by omega, hmc⟩
          have hb := fun code => sliceBound_run (P := P) (w := w) (k := k) (code := code) (i := n) (y := nm.toNat) ⟨hn0, by omega⟩
          cases lo with
          | none =>
            cases l with
            | some _ => exact h1.elim
            | none => simp [Instr.sliceBounds, hb, hbm]
          | some v =>
            cases l with
            | none => exact h1.elim
            | some n' =>
              obtain ⟨k', rfl⟩ := h1
              simp at hl hlh
              have hb' := fun code => sliceBound_run (P := P) (w := w) (k := k') (code := code) (i := n') (y := n.toNat) ⟨hl, by omega⟩
              simp [Instr.sliceBounds, hb, hb', hbm]

theorem slice_sim {t : TypeId} {x : AV} {ux : Value} {lo hi mx : Option Value} {l h m : Option Int} {d : D} (hx : x.rel E s.h ux) (h1 : BoundRel lo l) (h2 : BoundRel hi h) (h3 : BoundRel mx m)
    (hs : X.sliceA t x l h m = some d) : ∃ u, (Instr.sliceAt t ux lo hi mx).run X.P E.w = .ok u E.w ∧ Rd E.w E.F u d := by
  unfold Ctx.sliceA at hs
  cases hu : X.P.underlying t with
  | none => simp [hu] at hs
  | some dt =>
    simp only [hu, Option.bind_some] at hs
    split at hs
    · rename_i str
      split at hs
      · rename_i hc
        cases hs
        obtain ⟨hm, hl, hlh, hhs⟩ := hc
        obtain ⟨s', rfl, rfl⟩ := str_inv (rel_d hx)
        have hm' : m = none := by cases m <;> simp_all
        subst hm'
        have hmx : mx = none := by cases mx <;> simp_all [BoundRel]
        subst hmx
        rw [← Lib.size_eq] at hlh hhs
        have hb := sliceBounds_run (P := X.P) (w := E.w) (isS := false) (len := s'.size) (cap := s'.size) (mx := none) (m := none) h1 h2 trivial hl hlh (by cases h <;> simp_all) (by simp) (by simp)
        refine ⟨.string (s'.extract (l.getD 0).toNat (h.getD s'.size).toNat), ?_, Rd.str' ?_⟩
        · simp [Instr.sliceAt, Instr.slice, run_underlying hu, hb]
        · rw [Lib.extract_data, Lib.size_eq]
      · cases hs
    · rename_i e c
      cases he : c.elems with
      | none => simp [he] at hs
      | some es =>
        cases hz : X.size e with
        | none => simp [he, hz] at hs
        | some z =>
          simp only [he, hz, Option.bind_some] at hs
          split at hs
          · rename_i hc
            obtain ⟨hmh, hmm, hez, hl, hlh, hhe⟩ := hc
            cases hs
            obtain ⟨full, hrd, htd⟩ := elems_rel hx he
            have hmi : m.isSome → h.isSome := fun hi => by rcases hmh with h' | h' <;> simp_all
            have hln : (l.getD 0).toNat ≤ (h.getD es.length).toNat := by omega
            have hhn : (h.getD es.length).toNat ≤ es.length := by omega
            generalize hbb : fullOf m c (h.getD es.length) es.length = bb
            have hbounds : ∀ cap, es.length ≤ cap → (Instr.sliceBounds true es.length cap lo hi mx).run X.P E.w = .ok ((l.getD 0).toNat, (h.getD es.length).toNat, (m.getD cap).toNat) E.w := fun cap hcap =>
              sliceBounds_run h1 h2 h3 hl hlh
                (by cases m with
                    | none => cases h <;> simp_all <;> omega
                    | some q => have := hmm q rfl; simp; omega)
                (by cases m with
                    | none => simp
                    | some q => have := hmm q rfl; simp; omega) hmi
            have hmn : ∀ cap, es.length ≤ cap → (h.getD es.length).toNat ≤ (m.getD cap).toNat := fun cap hcap => by
              cases m with
              | none => simp; omega
              | some q => have := hmm q rfl; simp; omega
            have hlen : ((es.drop (l.getD 0).toNat).take ((h.getD es.length).toNat - (l.getD 0).toNat)).length = (h.getD es.length).toNat - (l.getD 0).toNat := by simp; omega
            rcases sl_cases hrd with ⟨base, rfl, rfl⟩ | ⟨b, o, cap, size, vals, rfl, hcap, hfull, hsize, hF, hcl, h1', hr⟩
            · have hH : (h.getD ↑([] : List (List D)).length).toNat = 0 := by simpa using hhn
              have hL : (l.getD 0).toNat = 0 := by omega
              have hM : (m.getD ((0 : Nat) : Int)).toNat = 0 := by
                cases m with
                | none => rfl
                | some q => have := hmm q rfl; simp at this ⊢; omega
              refine ⟨.slice base 0 0, ?_, ?_⟩
              · have hb0 := hbounds 0 (Nat.le_refl _)
                rw [hH, hL, hM] at hb0
                simp only [List.length_nil] at hb0
                cases base <;> simp [Instr.sliceAt, Instr.slice, run_underlying hu, hb0, run_sizeOf (size_info hz)]
              · simp only [List.drop_nil, List.take_nil]
                exact .nil _ _
            · have hb0 := hbounds cap hcap
              have hM := hmn cap hcap
              have hrun : (Instr.sliceAt t (.slice (some ⟨b, o, none⟩) es.length cap) lo hi mx).run X.P E.w = .ok (.slice (if (m.getD cap).toNat = (l.getD 0).toNat then some ⟨b, o, none⟩ else some ⟨b, o + (l.getD 0).toNat * z, none⟩) ((h.getD es.length).toNat - (l.getD 0).toNat) ((m.getD cap).toNat - (l.getD 0).toNat)) E.w := by
                simp [Instr.sliceAt, Instr.slice, run_underlying hu, hb0, run_sizeOf (size_info hz), Addr.add_zero_none]
              refine ⟨_, hrun, ?_⟩
              have hfb : bb = true → (m.getD cap).toNat = (h.getD es.length).toNat := by
                intro hbt
                rw [hbt] at hbb
                unfold fullOf at hbb
                cases m with
                | some q =>
                  have hq : q = h.getD ↑es.length := by simpa using hbb
                  simp [hq]
                | none =>
                  simp only at hbb
                  split at hbb
                  · rename_i f es1
                    simp at hbb
                    obtain ⟨hf, hq⟩ := hbb
                    simp [C1.toD] at htd
                    have := hfull (htd.1 ▸ hf)
                    simp [hq, this]
                  · cases hbb
              clear hbb hb0 hrun hbounds hmn
              generalize (l.getD 0).toNat = L at *
              generalize (h.getD es.length).toNat = H at *
              generalize (m.getD cap).toNat = M at *
              have hmem : ∀ r ∈ (es.drop L).take (H - L), r.length = z := fun r hr => hez r (List.mem_of_mem_drop (List.mem_of_mem_take hr))
              have hget : ∀ (i : Nat) (r : List D), ((es.drop L).take (H - L))[i]? = some r → es[L + i]? = some r ∧ i < H - L := fun i r hr => by
                rw [List.getElem?_take] at hr
                split at hr
                · rw [List.getElem?_drop] at hr; exact ⟨hr, by assumption⟩
                · cases hr
              by_cases hHL : H - L = 0
              · have e0 : (es.drop L).take (H - L) = [] := List.eq_nil_of_length_eq_zero (by rw [hlen, hHL])
                rw [e0, hHL]
                split
                all_goals exact .sl b _ 0 (M - L) 0 bb [] (fun _ _ => undef) rfl (by omega) (fun h => by have := hfb h; omega) (by simp) (fun i j hi => by omega) (fun i j hi => by omega) (fun i j hi => by omega) (fun i j e y he => by simp at he)
              · rw [if_neg (by omega)]
                have hsz : size = z := by
                  have hlt : L < es.length := by omega
                  have hmem := List.getElem_mem (l := es) (n := L) hlt
                  rw [← hsize _ hmem, hez _ hmem]
                subst hsz
                have hadd : ∀ i j, o + L * size + i * size + j = o + (L + i) * size + j := fun i j => by rw [Nat.add_mul]; omega
                refine .sl b _ (H - L) (M - L) size bb _ (fun i j => vals (L + i) j) hlen (by omega) (fun h => by have := hfb h; omega) hmem (fun i j hi hj => ?_) (fun i j hi hj => ?_) (fun i j hi hj => h1' _ _ (by omega) hj) (fun i j e y he hy => ?_)
                · rw [hadd]; exact hF _ _ (by omega) hj
                · rw [hadd]; exact hcl _ _ (by omega) hj
                · obtain ⟨he', _⟩ := hget i e he
                  exact hr _ _ e y he' hy
          · cases hs
    · cases hs

end
end Go.Ab
