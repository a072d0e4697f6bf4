/-
  Texts of the layer and of the laws, put together: Ab7, Ab8.
-/
import Derived.Test.YtdoofgbeajkpaaaGreatDoorAbWP2
set_option linter.unusedSimpArgs false
set_option linter.unusedVariables false
set_option maxRecDepth 100000
namespace Go.Ab
open Go.RowKit
section
variable {X : Ctx} {A : Actn} {E : Env} {s : S} {a : Act}
theorem isU8_inv {e : TypeId} (h : X.isU8 e = true) : X.P.underlying e = some (.int .u8) := by
  unfold Ctx.isU8 at h
  split at h
  · assumption
  cases h
def numOf : Option (List D) → Int
  | some [.int _ n] => n
  | _ => 0
theorem bytesOf_get : ∀ (es : List (List D)) (l : List UInt8), bytesOf es = some l → es.length = l.length ∧ ∀ (i : Nat) (b : UInt8), l[i]? = some b → ∃ n : Int, es[i]? = some [.int .u8 n] ∧ UInt8.ofNat n.toNat = b
  | [], l, h => by simp [bytesOf] at h; subst h; exact ⟨rfl, fun i b hb => by simp at hb⟩
  | e :: es, l, h => by
    simp only [bytesOf] at h
    cases hb : byteOf e with
    | none => simp [hb] at h
    | some b =>
      cases hr : bytesOf es with
      | none => simp [hb, hr] at h
      | some r =>
        simp [hb, hr] at h
        subst h
        obtain ⟨h1, h2⟩ := bytesOf_get es r hr
        refine ⟨by simp [h1], fun i b' hi => ?_⟩
        cases i with
        | zero =>
          simp at hi
          subst hi
          unfold byteOf at hb
          split at hb
          · rename_i n
            split at hb
            · cases hb; exact ⟨n, rfl, rfl⟩
            cases hb
          · cases hb
        | succ i => simpa using h2 i b' (by simpa using hi)
theorem foldl_push : ∀ (ns : List Int) (s : ByteArray), (ns.foldl (fun r n => r.push (UInt8.ofNat n.toNat)) s).data.toList = s.data.toList ++ ns.map fun n => UInt8.ofNat n.toNat
  | [], s => by simp
  | n :: ns, s => by
    simp only [List.foldl_cons, foldl_push ns, List.map_cons]
    simp
theorem conv_sim (hn : Now X A E s a) {o : Oper} {K : Act → World → Prop} {Q : Exit → Act → World → Prop} {src dst : TypeId} {x : AV} {ux : Value} {d : D} (hx : x.rel E s.h ux) (hc : X.convA src dst x = some d)
    (hex : ∀ u w', (convert src dst ux).run X.P E.w = .ok u w' → (execOp a.eval o).run X.P E.w = .ok (.value u) w') (hd : Done A E s.h o a K Q (.val (.d d) s.h)) : o.wp X.P a E.w K Q := by
  unfold Ctx.convA at hc
  cases hs : X.P.underlying src with
  | none => simp [hs] at hc
  | some ds =>
    cases hdd : X.P.underlying dst with
    | none => simp [hs, hdd] at hc
    | some dd =>
      simp only [hs, hdd, Option.bind_some] at hc
      split at hc
      · rename_i k k0 n
        cases hc
        have := int_inv (rel_d hx)
        subst this
        refine wp_of_val (hex (.int k (k.wrap n)) _ ?_) (done_val hn hd (show Rd _ _ _ _ from .int _ _))
        simp [convert, run_underlying hs, run_underlying hdd, Conv.intToInt]
      · rename_i l
        cases hc
        obtain ⟨s', rfl, rfl⟩ := str_inv (rel_d hx)
        refine wp_of_val (hex (.string s') _ ?_) (done_val hn hd (show Rd _ _ _ _ from .str s'))
        simp [convert, run_underlying hs, run_underlying hdd]
      · rename_i c hne
        split at hc
        · rename_i e
          split at hc
          · rename_i hu8
            cases he : c.elems with
            | none => simp [he] at hc
            | some es =>
              cases hb : bytesOf es with
              | none => simp [he, hb] at hc
              | some l =>
                simp [he, hb] at hc
                subst hc
                obtain ⟨full, hrd, _⟩ := elems_rel hx he
                obtain ⟨hel, heg⟩ := bytesOf_get es l hb
                rcases sl_cases hrd with ⟨base, rfl, rfl⟩ | ⟨b, o', cap, size, vals, rfl, hcap, hfull, hsize, hF, hcl, h1', hr⟩
                · simp [bytesOf] at hb
                  subst hb
                  refine wp_of_val (hex (.string .empty) _ ?_) (done_val hn hd (show Rd _ _ _ _ from .str .empty))
                  rw [run_convert_bytes_string E.w src dst e base 0 0 hs (isU8_inv hu8) hdd]
                  cases base <;> simp [Conv.bytesToString, loadCells, loadCellsFrom]
                have hvals : ∀ i, i < es.length → E.w.cell? ⟨b, o' + i, none⟩ = some (.int .u8 (numOf es[i]?)) ∧ l[i]? = some (UInt8.ofNat (numOf es[i]?).toNat) := by
                  intro i hi
                  obtain ⟨n, hn1, hn2⟩ := heg i _ (List.getElem?_eq_getElem (by omega))
                  have hs1 : size = 1 := by rw [← hsize _ (List.mem_of_getElem? hn1)]; rfl
                  subst hs1
                  have h2 := hr i 0 _ _ hn1 rfl
                  have h3 := hcl i 0 hi (by omega)
                  rw [int_inv h2] at h3
                  rw [hn1]
                  refine ⟨by simpa [numOf] using h3, ?_⟩
                  show _ = some (UInt8.ofNat n.toNat)
                  rw [hn2]
                  exact List.getElem?_eq_getElem (by omega)
                let ns : List Int := (List.range es.length).map fun i => numOf es[i]?
                have hns : ∀ i, i < es.length → ns[i]? = some (numOf es[i]?) := fun i hi => by
                  simp [ns, hi]
                have hload : (loadCells ⟨b, o', none⟩ es.length).run X.P E.w = .ok (ns.map (Value.int .u8)).toArray E.w := by
                  have hl : (ns.map (Value.int .u8)).length = es.length := by simp [ns]
                  rw [← hl]
                  refine run_loadCells_list E.w ⟨b, o', none⟩ _ (fun j v hj => ?_)
                  rw [List.getElem?_map] at hj
                  have hjl : j < es.length := by
                    cases hnj : ns[j]? with
                    | none => simp [hnj] at hj
                    | some q => have := lt_of_get hnj; simp [ns] at this; exact this
                  rw [hns j hjl, Option.map_some, Option.some.injEq] at hj
                  subst hj
                  rw [Addr.add_mid]
                  exact (hvals j hjl).1
                have hrun := run_bytesToString (P := X.P) E.w ⟨b, o', none⟩ es.length cap ns hload
                refine wp_of_val (hex _ _ (by rw [run_convert_bytes_string E.w src dst e _ _ _ hs (isU8_inv hu8) hdd]; exact hrun)) (done_val hn hd (show Rd _ _ _ _ from Rd.str' ?_))
                rw [foldl_push]
                apply List.ext_getElem?
                intro i
                have he0 : ByteArray.empty.data.toList = [] := rfl
                rw [he0, List.nil_append, List.getElem?_map]
                by_cases hi : i < es.length
                · rw [hns i hi, (hvals i hi).2]
                  rfl
                rw [List.getElem?_eq_none (by simp [ns]; omega), List.getElem?_eq_none (by omega)]
                rfl
          cases hc
        cases hc
      · rename_i e l
        split at hc
        · rename_i hcond
          cases hc
          obtain ⟨s', rfl, rfl⟩ := str_inv (rel_d hx)
          have hrun := Lib.run_convert_string_bytes (P := X.P) E.w src dst e s' hs hdd (isU8_inv hcond.1)
          have st := Stp.fz hn.rel.env (Lib.bytesWorld E.w e s') rfl rfl rfl (by rw [Lib.bytesWorld_size]; omega) (fun k hk => Lib.bytesWorld_at_old _ _ _ _ hk) (fun _ => by unfold Lib.bytesWorld; exact Nat.le_succ E.w.drawn)
          have ev := st.evo hn.rel.env
          refine wp_of_val' (hex _ _ hrun) (hd _ _ ev (st.fz_ok hn.rel.env) ?_)
          have hcap := grownCap_ge E.w s'.size 0 e
          have hsz : s'.size = s'.data.toList.length := Lib.size_eq s'
          refine row_rd (z := 1) (Lib.bytesWorld_at_new E.w e s') (by simp) hcap (by simp) (by simp [Lib.bytesCells]) (fun r hr => by simp at hr; obtain ⟨_, _, rfl⟩ := hr; rfl) (fun o _ => .inr ⟨Nat.le_refl _, by simp [Lib.bytesWorld_size]⟩) (fun i j r y hi hy => ?_) (fun o ho u hu => ?_)
          · rw [List.getElem?_map] at hi
            cases hb : s'.data.toList[i]? with
            | none => simp [hb] at hi
            | some b =>
              simp [hb] at hi
              subst hi
              have hj : j = 0 := by have := lt_of_get hy; simp at this; exact this
              subst hj
              simp at hy
              subst hy
              refine ⟨.int .u8 b.toNat, ?_, .int _ _⟩
              have hil := lt_of_get hb
              have hb' : s'.data[i]? = some b := by simpa using hb
              simp only [Lib.bytesCells, Nat.mul_one, Nat.add_zero]
              rw [Array.getElem?_append_left (by simpa using hil)]
              simp [hb']
          rw [Nat.mul_one] at ho
          have hol : o < s'.data.toList.length := by omega
          have hb : s'.data[o]? = some s'.data[o] := Array.getElem?_eq_getElem (by simpa using hol)
          simp only [Lib.bytesCells] at hu
          rw [Array.getElem?_append_left (by simpa using hol)] at hu
          simp [hb] at hu
          rw [← hu]
          rfl
        cases hc
      cases hc
theorem flat_get {α : Type} {z : Nat} : ∀ (es : List (List α)), (∀ e ∈ es, e.length = z) → es.flatten.length = es.length * z ∧ ∀ (i j : Nat) (e : List α), es[i]? = some e → j < z → es.flatten[i * z + j]? = e[j]?
  | [], _ => ⟨by simp, fun i j e h => by simp at h⟩
  | e :: es, h => by
    obtain ⟨h1, h2⟩ := flat_get es (fun x hx => h x (List.mem_cons_of_mem _ hx))
    have he := h e List.mem_cons_self
    refine ⟨by simp [h1, he, Nat.add_mul]; omega, fun i j x hx hj => ?_⟩
    cases i with
    | zero =>
      simp at hx
      subst hx
      simp only [Nat.zero_mul, Nat.zero_add, List.flatten_cons]
      rw [List.getElem?_append_left (by omega)]
    | succ i =>
      simp at hx
      simp only [List.flatten_cons]
      rw [List.getElem?_append_right (by rw [he, Nat.add_mul]; omega)]
      rw [← h2 i j x hx hj]
      congr 1
      rw [he, Nat.add_mul]; omega
structure News (P : Program) (E : Env) (size : Nat) (tx : TypeId) (u : Value) (ys : List (List D)) (news : List Value) : Prop where
  src : Src P size tx u ys.length news E.w
  rd : ∀ (i j : Nat) (e : List D) (y : D), ys[i]? = some e → e[j]? = some y → ∃ v, news[i * size + j]? = some v ∧ Rd E.w E.F v y
theorem src_of_rd {tx : TypeId} {u : Value} {ys : List (List D)} {size : Nat} {full : Bool} (hrd : Rd E.w E.F u (.sl full ys)) (hz : ∀ r ∈ ys, r.length = size) (hsz : 0 < size)
    (ht : ∃ e', X.P.underlying tx = some (.slice e')) : ∃ news, News X.P E size tx u ys news := by
  obtain ⟨e', he'⟩ := ht
  rcases sl_cases hrd with ⟨base, rfl, rfl⟩ | ⟨b, o', cap, size', vals, rfl, hcap, hfull, hsize, hF, hcl, h1', hr⟩
  · cases base with
    | none => exact ⟨[], Src.ofNil E.w he' 0, fun i j e y hi => by simp at hi⟩
    | some p => exact ⟨[], Src.ofSlice E.w he' p 0 0 [] (by simp) (fun j u hj => by simp at hj) (fun u hu => by cases hu), fun i j e y hi => by simp at hi⟩
  by_cases hy0 : ys.length = 0
  · have : ys = [] := List.eq_nil_of_length_eq_zero hy0
    subst this
    refine ⟨[], Src.ofSlice E.w he' _ 0 cap [] (by simp) (fun j u hj => by simp at hj) (fun u hu => by cases hu), fun i j e y hi => by simp at hi⟩
  have hse : size' = size := by
    have hm := List.getElem_mem (l := ys) (n := 0) (by omega)
    rw [← hsize _ hm, hz _ hm]
  subst hse
  let rows : List (List Value) := (List.range ys.length).map fun i => (List.range size').map fun j => vals i j
  have hrl : ∀ r ∈ rows, r.length = size' := fun r hr => by
    simp only [rows, List.mem_map] at hr
    obtain ⟨i, _, rfl⟩ := hr
    simp
  obtain ⟨g1, g2⟩ := flat_get rows hrl
  have hrows : rows.length = ys.length := by simp [rows]
  have hget : ∀ i j, i < ys.length → j < size' → rows.flatten[i * size' + j]? = some (vals i j) := fun i j hi hj => by
    rw [g2 i j ((List.range size').map fun j => vals i j) (by simp [rows, hi]) hj]
    simp [hj]
  have hall : ∀ k, k < ys.length * size' → ∃ i j, i < ys.length ∧ j < size' ∧ k = i * size' + j := fun k hk =>
    ⟨k / size', k % size', Nat.div_lt_of_lt_mul (by rw [Nat.mul_comm]; exact hk), Nat.mod_lt _ hsz, by rw [Nat.mul_comm]; exact (Nat.div_add_mod k size').symm⟩
  refine ⟨rows.flatten, Src.ofSlice E.w he' ⟨b, o', none⟩ ys.length cap rows.flatten (by rw [g1, hrows]) (fun k v hk => ?_) (fun v hv => ?_), fun i j e y hi hy => ?_⟩
  · have hkl := lt_of_get hk
    rw [g1, hrows] at hkl
    obtain ⟨i, j, hi, hj, rfl⟩ := hall k hkl
    rw [hget i j hi hj] at hk
    cases hk
    rw [Addr.add_mid, ← Nat.add_assoc]
    exact hcl i j hi hj
  · obtain ⟨k, hk⟩ := List.getElem?_of_mem hv
    have hkl := lt_of_get hk
    rw [g1, hrows] at hkl
    obtain ⟨i, j, hi, hj, rfl⟩ := hall k hkl
    rw [hget i j hi hj] at hk
    cases hk
    exact h1' i j hi hj
  have hil := lt_of_get hi
  have hjl : j < size' := by have := lt_of_get hy; rw [hz _ (List.mem_of_getElem? hi)] at this; exact this
  exact ⟨vals i j, hget i j hil hjl, hr i j e y hi hy⟩
theorem news_of {tx : TypeId} {c : C1} {u : Value} {ys : List (List D)} {size : Nat} (hr : c.rel E s.h u) (hy : c.source = some ys) (hz : ∀ r ∈ ys, r.length = size) (hsz : 0 < size)
    (hstr : ∀ l, c = .d (.str l) → X.P.underlying tx = some .string)
    (hsl : (∀ l, c ≠ .d (.str l)) → ∃ e', X.P.underlying tx = some (.slice e')) : ∃ news, News X.P E size tx u ys news := by
  have slices : ∀ full, Rd E.w E.F u (.sl full ys) → (∃ e', X.P.underlying tx = some (.slice e')) → ∃ news, News X.P E size tx u ys news := fun _ hrd ht => src_of_rd hrd hz hsz ht
  unfold C1.source at hy
  split at hy
  · rename_i full es
    cases hy
    exact slices full hr (hsl (fun l h => by cases h))
  · cases hy
    exact slices false hr.1 (hsl (fun l h => by cases h))
  · rename_i l
    cases hy
    obtain ⟨s', rfl, rfl⟩ := str_inv hr
    by_cases h0 : s'.data.toList.length = 0
    · -- the empty string: no element
      have hl : s'.data.toList = [] := List.eq_nil_of_length_eq_zero h0
      have hsz0 : s'.size = 0 := by rw [Lib.size_eq, h0]
      refine ⟨[], ⟨.inr (hstr _ rfl), fun w' => ?_, ?_, ?_, by simp [hl], fun u hu => by cases hu⟩, fun i j e y hi => by simp [hl] at hi⟩
      · simp [Builtin.lenOf, hl, hsz0]
      · simp [Builtin.firstCells, hl]
      simp [Builtin.firstCells, hl]
    have h1 : size = 1 := by
      rw [← hz _ (List.getElem_mem (n := 0) (by simpa using Nat.pos_of_ne_zero h0))]
      simp
    subst h1
    have hsrc := Src.ofString (P := X.P) (w := E.w) (hstr _ rfl) s'
    refine ⟨byteCells s', ?_, fun i j e y hi hy => ?_⟩
    · have : (s'.data.toList.map fun b => [D.int .u8 (b.toNat : Int)]).length = s'.size := by rw [List.length_map, ← Lib.size_eq]
      rw [this]
      exact hsrc
    rw [List.getElem?_map] at hi
    cases hb : s'.data.toList[i]? with
    | none => simp [hb] at hi
    | some b =>
      simp [hb] at hi
      subst hi
      have hj : j = 0 := by have := lt_of_get hy; simp at this; exact this
      subst hj
      simp at hy
      subst hy
      refine ⟨.int .u8 b.toNat, ?_, .int _ _⟩
      simp only [byteCells, Nat.mul_one, Nat.add_zero, List.getElem?_map, hb, Option.map_some]
  cases hy
end
end Go.Ab
namespace Go.Ab
open Go.RowKit
section
variable {X : Ctx} {A : Actn} {E : Env} {s : S} {a : Act}
theorem setCells_row {w : World} {b o : Nat} {T : TypeId} {vs : List Value} {cur : Array Value} (hb : w.heap[b]? = some (.cells cur T (0, 0))) (hfit : o + vs.length ≤ cur.size) (h1 : ∀ v ∈ vs, v.oneCell' = true) :
    w.setCells b o vs = w.setRow b (cur.toList.take o ++ vs ++ cur.toList.drop (o + vs.length)).toArray := by
  have r1 := run_storeCells_at (default : Program) b o T vs 0 cur w hb (by simpa using hfit) h1
  have r2 := run_storeCells_cells (P := (default : Program)) b o vs 0 w (fun j hj => by
    simp only [World.cell?, hb, Option.isSome_none, Bool.false_eq_true, if_false]
    rw [Array.getElem?_eq_getElem (by omega)]
    rfl) (fun j hj => by simp [World.frozen?, hb]) h1
  rw [r1] at r2
  simp only [Nat.add_zero, Result.ok.injEq, true_and] at r2
  exact r2.symm
theorem both_rd {w : World} {F : Fz} {z : Nat} {es ys : List (List D)} {olds news : List Value} (ho : olds.length = es.length * z) (hes : ∀ r ∈ es, r.length = z)
    (hor : ∀ (i j : Nat) (e : List D) (y : D), es[i]? = some e → e[j]? = some y → ∃ v, olds[i * z + j]? = some v ∧ Rd w F v y)
    (hnr : ∀ (i j : Nat) (e : List D) (y : D), ys[i]? = some e → e[j]? = some y → ∃ v, news[i * z + j]? = some v ∧ Rd w F v y) :
    ∀ (i j : Nat) (e : List D) (y : D), (es ++ ys)[i]? = some e → e[j]? = some y → ∃ v, (olds ++ news)[i * z + j]? = some v ∧ Rd w F v y := by
  intro i j e y hi hj
  by_cases hil : i < es.length
  · rw [List.getElem?_append_left hil] at hi
    have hjl : j < z := by have := lt_of_get hj; rw [hes _ (List.mem_of_getElem? hi)] at this; exact this
    have hlt : i * z + j < olds.length := by
      have : (i + 1) * z ≤ es.length * z := Nat.mul_le_mul_right _ hil
      rw [Nat.add_mul] at this
      omega
    rw [List.getElem?_append_left hlt]
    exact hor i j e y hi hj
  rw [List.getElem?_append_right (by omega)] at hi
  have hge : es.length * z ≤ i * z := Nat.mul_le_mul_right _ (by omega)
  rw [List.getElem?_append_right (by omega), ho]
  have : i * z + j - es.length * z = (i - es.length) * z + j := by rw [Nat.sub_mul]; omega
  rw [this]
  exact hnr _ j e y hi hj
def Env.grow (E : Env) (id : Nat) (k : Nat) (w : World) : Env :=
  { ρ := fun i => if i = id then some E.w.heap.size else E.ρ i, F := fun b o => E.F b o ∨ (b = E.w.heap.size ∧ o < k ∧ b < w.heap.size), w }
theorem grow_sim (hn : Now X A E s a) {t tx ty e : TypeId} {i : TypeInfo} {zr u uy : Value} {es ys : List (List D)} {full : Bool} {n cap : Nat} {base : Option Addr} {news : List Value} {id : Nat} {h' : Hp}
    (ht : X.P.underlying t = some (.slice e)) (hi : X.P.info? e = some i) (hz : i.zero = some zr) (hzc : zr.cells.size = i.size) (hz0 : 0 < i.size)
    (hrd : Rd E.w E.F u (.sl full es)) (hu : u = .slice base n cap) (hnl : n = es.length) (hes : ∀ r ∈ es, r.length = i.size) (hys : ∀ r ∈ ys, r.length = i.size)
    (hnews : News X.P E i.size tx uy ys news) (hcap : cap < n + ys.length) (hby : (n + ys.length) * i.bytes ≤ 140737488355328) (hsm : n + ys.length ≤ 4611686018427387904)
    (hid : id ≤ s.h.length) (hh : h' = if id < s.h.length then s.h.set id (.tok (n + ys.length) i.size none) else s.h ++ [.tok (n + ys.length) i.size none])
    (hold : ∀ o, s.h[id]? = some o → ∃ m, o = .tok m i.size none ∧ m < n + ys.length) :
    ∃ v E', (Builtin.append_ #[t, tx] ty #[u, uy]).run X.P E.w = .ok v E'.w ∧ Evo s.h.length E s.h E' h' ∧ EnvOk A E' h' ∧ (C1.own id (es ++ ys)).rel E' h' v := by
  obtain ⟨olds, hsrc⟩ := src_of_rd (X := X) (tx := t) hrd hes hz0 ⟨e, ht⟩
  subst hu
  have hol : olds.length = n * i.size := by rw [hsrc.src.newsLen, hnl]
  have hnl' : news.length = ys.length * i.size := hnews.src.newsLen
  have hcellsD := hsrc.src.cellsD
  rw [← hnl] at hcellsD
  have hrun := run_append_grow_src (P := X.P) E.w t tx ty e i zr ht hi hz base n cap olds hcellsD uy ys.length news hnews.src hcap (by omega) (growslice_fits hcap hby)
  generalize hrow : (olds ++ news).toArray ++ Builtin.zeroCells zr.cells (grownCap E.w (n + ys.length) cap e - (n + ys.length)) = row at hrun
  have hge := grownCap_ge E.w (n + ys.length) cap e
  have hgm : grownCap E.w (n + ys.length) cap e ≤ maxLen := grownCap_le_maxLen E.w _ cap e (by unfold maxLen; omega)
  have hrs : row.size = grownCap E.w (n + ys.length) cap e * i.size := by
    rw [← hrow, Array.size_append, size_zeroCells, hzc]
    simp only [List.size_toArray, List.length_append, hol, hnl', ← Nat.add_mul]
    congr 1
    omega
  have hpre : ∀ k, k < (n + ys.length) * i.size → row[k]? = (olds ++ news)[k]? := fun k hk => by
    have hl : (olds ++ news).toArray.size = (n + ys.length) * i.size := by
      simp only [List.size_toArray, List.length_append, hol, hnl', Nat.add_mul]
    rw [← hrow, Array.getElem?_append_left (by rw [hl]; exact hk)]
    simp
  let w' := E.w.drew.alloc (.cells row e)
  have hws : w'.heap.size = E.w.heap.size + 1 := by simp [w']
  have hblk : ∀ k, k < E.w.heap.size → w'.heap[k]? = E.w.heap[k]? := fun k hk => Below.heap_alloc E.w.drew _ _ hk
  have hnew : w'.heap[E.w.heap.size]? = some (.cells row e (0, 0)) := heap_alloc_new E.w.drew _
  have hlen : s.h.length ≤ h'.length ∧ h'.length ≤ max s.h.length (id + 1) := by
    rw [hh]; split <;> simp <;> omega
  have hat : h'[id]? = some (.tok (n + ys.length) i.size none) := by
    rw [hh]; split
    · simp_all
    have : id = s.h.length := by omega
    subst this
    simp
  have st : Stp A.G.dr E s.h id (E.grow id ((n + ys.length) * i.size) w') h' := {
    os := rfl
    tape := rfl
    output := rfl
    size := by show E.w.heap.size ≤ w'.heap.size; omega
    blk := fun k hk _ => hblk k hk
    idle := hid
    len := hlen.1
    len' := hlen.2
    ρ := fun j _ hji => by simp [Env.grow, hji]
    hh := fun j hj hji => by
      rw [hh]; split
      · rw [List.getElem?_set_ne (Ne.symm hji)]
      rw [List.getElem?_append_left hj]
    F := fun _ _ h => .inl h
    F' := fun b o h => by
      rcases h with h | ⟨h1, _, h3⟩
      · exact .inl h
      exact .inr ⟨h3, .inl (by omega)⟩
    same := fun b o hf => World.cell?_of_block (hblk b (hn.rel.env.lt b o hf))
    at' := fun b _ hb => by
      simp [Env.grow] at hb
      subst hb
      exact ⟨by show _ < w'.heap.size; omega, .inl (Nat.le_refl _)⟩
    keep := fun o ho => by
      obtain ⟨m, rfl, hm⟩ := hold o ho
      exact ⟨_, none, hat, by omega, fun e => by omega⟩ }
  have ev := st.evo hn.rel.env
  refine ⟨_, E.grow id ((n + ys.length) * i.size) w', hrun, ev, st.ok hn.rel.env fun o ho => ?_, ?_⟩
  · rw [hat] at ho
    cases ho
    refine ⟨hz0, .inr ⟨E.w.heap.size, row, e, by simp [Env.grow], hnew, ?_, fun o ho hf => ?_⟩⟩
    · rw [hrs]; exact Nat.mul_le_mul_right _ hge
    rcases hf with hf | ⟨_, h2, _⟩
    · have := hn.rel.env.lt _ _ hf; omega
    omega
  have hesl : (es ++ ys).length = n + ys.length := by simp [hnl]
  have hall : ∀ r ∈ es ++ ys, r.length = i.size := fun r hr => by
    rcases List.mem_append.1 hr with h | h
    · exact hes r h
    exact hys r h
  have hrd' : Rd w' (E.grow id ((n + ys.length) * i.size) w').F (.slice (some ⟨E.w.heap.size, 0, none⟩) (n + ys.length) (grownCap E.w (n + ys.length) cap e)) (.sl false (es ++ ys)) := by
    refine row_rd (z := i.size) hnew hesl hge (by simp) ?_ hall (fun o ho => .inr ⟨rfl, ho, by show _ < w'.heap.size; omega⟩) (fun i' j r y hi' hy => ?_) (fun o ho v hv => ?_)
    · rw [hrs]; exact Nat.mul_le_mul_right _ hge
    · have hb := both_rd (w := E.w) (F := E.F) (z := i.size) (olds := olds) (news := news) (by rw [hol, hnl]) hes hsrc.rd hnews.rd i' j r y hi' hy
      obtain ⟨v, hv, hr⟩ := hb
      have hlt := lt_of_get hv
      simp only [List.length_append, hol, hnl', ← Nat.add_mul] at hlt
      exact ⟨v, by rw [hpre _ hlt]; exact hv, hr.evo ev⟩
    rw [hpre o ho] at hv
    rcases List.mem_append.1 (List.mem_of_getElem? hv) with h | h
    · exact hsrc.src.one v h
    exact hnews.src.one v h
  refine ⟨hrd', n + ys.length, i.size, none, hat, by omega, hall, fun _ => ?_⟩
  unfold OwnRow
  simp only [Env.grow, if_true]
  exact ⟨_, row, e, rfl, hge, hgm, hnew, hrs⟩
theorem news_flat {w : World} {F : Fz} {z : Nat} {ys : List (List D)} {news : List Value} (hys : ∀ r ∈ ys, r.length = z) (hz : 0 < z) (hl : news.length = ys.length * z)
    (hnr : ∀ (i j : Nat) (e : List D) (y : D), ys[i]? = some e → e[j]? = some y → ∃ v, news[i * z + j]? = some v ∧ Rd w F v y) :
    ys.flatten.length = news.length ∧ ∀ (k : Nat) (y : D), ys.flatten[k]? = some y → ∃ v, news[k]? = some v ∧ Rd w F v y := by
  obtain ⟨g1, g2⟩ := flat_get ys hys
  refine ⟨by rw [g1, hl], fun k y hk => ?_⟩
  have hkl := lt_of_get hk
  rw [g1] at hkl
  have hi : k / z < ys.length := Nat.div_lt_of_lt_mul (by rw [Nat.mul_comm]; exact hkl)
  have hj : k % z < z := Nat.mod_lt _ hz
  have hke : k = k / z * z + k % z := by rw [Nat.mul_comm]; exact (Nat.div_add_mod k z).symm
  have he : ys[k / z]? = some ys[k / z] := List.getElem?_eq_getElem hi
  rw [hke, g2 _ _ _ he hj] at hk
  obtain ⟨v, hv, hr⟩ := hnr _ _ _ y he hk
  exact ⟨v, by rw [hke]; exact hv, hr⟩
theorem cells_append {E : Env} {h : Hp} {us vs : List Value} {xs ys : List C1} (h1 : CellsRel E h us xs) (h2 : CellsRel E h vs ys) : CellsRel E h (us ++ vs) (xs ++ ys) := by
  refine ⟨by simp [h1.1, h2.1], fun j x hj => ?_⟩
  by_cases hl : j < xs.length
  · rw [List.getElem?_append_left hl] at hj
    rw [List.getElem?_append_left (by rw [h1.1]; exact hl)]
    exact h1.2 j x hj
  rw [List.getElem?_append_right (by omega)] at hj
  rw [List.getElem?_append_right (by rw [h1.1]; omega), h1.1]
  exact h2.2 _ x hj
theorem cells_d {E : Env} {h : Hp} {vs : List Value} {xs : List D} (hl : vs.length = xs.length) (hx : ∀ (k : Nat) (y : D), xs[k]? = some y → ∃ v, vs[k]? = some v ∧ Rd E.w E.F v y) : CellsRel E h vs (xs.map .d) := by
  refine ⟨by simp [hl], fun j x hj => ?_⟩
  rw [List.getElem?_map] at hj
  cases hq : xs[j]? with
  | none => simp [hq] at hj
  | some y =>
    simp [hq] at hj
    subst hj
    obtain ⟨v, hv, hr⟩ := hx j y hq
    exact ⟨v, hv, hr, hr.one⟩
def Env.growM (E : Env) (id : Nat) (w : World) : Env := { ρ := fun i => if i = id then some E.w.heap.size else E.ρ i, F := E.F, w }
theorem append_msl (hn : Now X A E s a) {t tx ty e : TypeId} {i : TypeInfo} {zr ux uy : Value} {q : Nat} {ds cn : List C1} {news : List Value} {id m : Nat}
    (ht : X.P.underlying t = some (.slice e)) (hi : X.P.info? e = some i) (hz : i.zero = some zr) (hzc : zr.cells.size = i.size) (hz0 : 0 < i.size)
    (hid : s.h[id]? = some (.tok m i.size (some ds))) (hx : (C1.msl id m).rel E s.h ux)
    (hnews : Src X.P i.size tx uy q news E.w) (hcn : CellsRel E s.h news cn) (hby : (m + q) * i.bytes ≤ 140737488355328) (hsm : m + q ≤ 4611686018427387904) :
    ∃ v E', (Builtin.append_ #[t, tx] ty #[ux, uy]).run X.P E.w = .ok v E'.w ∧ Evo s.h.length E s.h E' (s.h.set id (.tok (m + q) i.size (some (ds ++ cn)))) ∧
      EnvOk A E' (s.h.set id (.tok (m + q) i.size (some (ds ++ cn)))) ∧ (C1.msl id (m + q)).rel E' (s.h.set id (.tok (m + q) i.size (some (ds ++ cn)))) v := by
  have hidl := lt_of_get hid
  obtain ⟨_, m', z', c', hid', _, ho⟩ := hx
  rw [hid] at hid'
  cases hid'
  have ho := ho rfl
  have hob := hn.rel.env.ob id _ hid
  have hnl : news.length = q * i.size := hnews.newsLen
  have hat : (s.h.set id (.tok (m + q) i.size (some (ds ++ cn))))[id]? = some (.tok (m + q) i.size (some (ds ++ cn))) := by simp [hidl]
  have hgrow : ∀ base cap olds, ux = .slice base m cap → cap < m + q → olds.length = m * i.size → CellsRel E s.h olds ds →
      (Builtin.firstCells i.size m (.slice base m cap)).run X.P E.w.drew = .ok olds.toArray E.w.drew →
      ∃ v E', (Builtin.append_ #[t, tx] ty #[ux, uy]).run X.P E.w = .ok v E'.w ∧ Evo s.h.length E s.h E' (s.h.set id (.tok (m + q) i.size (some (ds ++ cn)))) ∧
        EnvOk A E' (s.h.set id (.tok (m + q) i.size (some (ds ++ cn)))) ∧ (C1.msl id (m + q)).rel E' (s.h.set id (.tok (m + q) i.size (some (ds ++ cn)))) v := by
    intro base cap olds hu hcap hol hco hcellsD
    subst hu
    have hrun := run_append_grow_src (P := X.P) E.w t tx ty e i zr ht hi hz base m cap olds hcellsD uy q news hnews hcap (by omega) (growslice_fits hcap hby)
    generalize hrow : (olds ++ news).toArray ++ Builtin.zeroCells zr.cells (grownCap E.w (m + q) cap e - (m + q)) = row at hrun
    have hge := grownCap_ge E.w (m + q) cap e
    have hgm : grownCap E.w (m + q) cap e ≤ maxLen := grownCap_le_maxLen E.w _ cap e (by unfold maxLen; omega)
    have hlen2 : (olds ++ news).length = (m + q) * i.size := by simp only [List.length_append, hol, hnl, Nat.add_mul]
    have hrs : row.size = grownCap E.w (m + q) cap e * i.size := by
      rw [← hrow, Array.size_append, size_zeroCells, hzc]
      simp only [List.size_toArray, hlen2, ← Nat.add_mul]
      congr 1
      omega
    have htake : row.toList.take ((m + q) * i.size) = olds ++ news := by
      rw [← hrow]
      simp only [Array.toList_append]
      rw [List.take_append_of_le_length (by simp only [hlen2]; exact Nat.le_refl _)]
      rw [List.take_of_length_le (by simp only [hlen2]; exact Nat.le_refl _)]
    let w' := E.w.drew.alloc (.cells row e)
    have hws : w'.heap.size = E.w.heap.size + 1 := by simp [w']
    have hblk : ∀ k, k < E.w.heap.size → w'.heap[k]? = E.w.heap[k]? := fun k hk => Below.heap_alloc E.w.drew _ _ hk
    have hnew : w'.heap[E.w.heap.size]? = some (.cells row e (0, 0)) := heap_alloc_new E.w.drew _
    have st : Stp A.G.dr E s.h id (E.growM id w') (s.h.set id (.tok (m + q) i.size (some (ds ++ cn)))) := {
      os := rfl
      tape := rfl
      output := rfl
      size := by show E.w.heap.size ≤ w'.heap.size; omega
      blk := fun k hk _ => hblk k hk
      idle := Nat.le_of_lt hidl
      len := by simp
      len' := by simp; omega
      ρ := fun j _ hji => by simp [Env.growM, hji]
      hh := fun j hj hji => by rw [List.getElem?_set_ne (Ne.symm hji)]
      F := fun _ _ h => h
      F' := fun b o h => .inl h
      same := fun b o hf => World.cell?_of_block (hblk b (hn.rel.env.lt b o hf))
      at' := fun b _ hb => by
        simp [Env.growM] at hb
        subst hb
        exact ⟨by show _ < w'.heap.size; omega, .inl (Nat.le_refl _)⟩
      keep := fun o ho2 => by
        rw [hid] at ho2
        cases ho2
        have hmc : m ≤ cap := by
          unfold OwnRow at ho
          split at ho
          · obtain ⟨h1, h2⟩ := ho; omega
          obtain ⟨cap', _, _, h1, h2, _⟩ := ho; cases h1; exact h2
        exact ⟨_, _, hat, by omega, fun e => by omega⟩ }
    have ev := st.evo hn.rel.env
    refine ⟨_, E.growM id w', hrun, ev, st.ok hn.rel.env fun o ho => ?_, ⟨rfl, _, _, _, hat, Nat.le_refl _, fun _ => ?_⟩⟩
    · rw [hat] at ho
      cases ho
      refine ⟨hz0, .inr ⟨E.w.heap.size, row, e, by simp [Env.growM], hnew, ?_, ?_, fun o hf => ?_⟩⟩
      · rw [hrs]; exact Nat.mul_le_mul_right _ hge
      · rw [htake]
        exact (cells_append hco hcn).evo ev (Nat.le_refl _)
      have := hn.rel.env.lt _ _ hf; omega
    unfold OwnRow
    simp only [Env.growM, if_true]
    exact ⟨_, row, e, rfl, hge, hgm, hnew, hrs⟩
  unfold OwnRow at ho
  cases hρ : E.ρ id with
  | none =>
    simp only [hρ] at ho
    obtain ⟨⟨base, rfl, hsp⟩, rfl⟩ := ho
    have hds : ds = [] := by
      rcases hob with ⟨_, ⟨_, _, h3⟩ | ⟨b, _, _, h3, _⟩⟩
      · exact h3
      rw [hρ] at h3; cases h3
    subst hds
    by_cases hy0 : q = 0
    · subst hy0
      have hn0 : news = [] := List.eq_nil_of_length_eq_zero (by simpa using hnl)
      subst hn0
      obtain rfl : cn = [] := List.eq_nil_of_length_eq_zero (by simpa using hcn.1.symm)
      have hlen : ∀ w' : World, (Builtin.lenOf uy).run X.P w' = .ok 0 w' := hnews.len
      have hcells := hnews.cells
      have hrun : (Builtin.append_ #[t, tx] ty #[.slice base 0 0, uy]).run X.P E.w = .ok (.slice base 0 0) E.w := by
        rcases hnews.kind with ⟨e', hk⟩ | hk <;> cases base <;> simp [Builtin.append_, run_underlying ht, run_underlying hk, sizeOf, typeInfo, hi, hlen, hcells, storeCells]
      have hset : s.h.set id (.tok (0 + 0) i.size (some ([] ++ ([] : List C1)))) = s.h := by
        have e1 : Ob.tok (0 + 0) i.size (some ([] ++ ([] : List C1))) = s.h[id] := by
          rw [List.getElem?_eq_getElem hidl] at hid
          exact (Option.some.inj hid).symm
        rw [e1]
        exact List.set_getElem_self hidl
      rw [hset]
      refine ⟨_, E, hrun, Evo.refl (Nat.le_refl _), hn.rel.env, rfl, _, _, _, hid, Nat.le_refl _, fun _ => ?_⟩
      unfold OwnRow
      simp [hρ]
    · refine hgrow base 0 [] rfl (by omega) (by simp) ⟨rfl, fun j x hj => by simp at hj⟩ ?_
      cases base with
      | none => simp [Builtin.firstCells]
      | some p => exact (Src.ofSlice (P := X.P) E.w ht p 0 0 [] (by simp) (fun j u hj => by simp at hj) (fun u hu => by cases hu)).cellsD
  | some b =>
    simp only [hρ] at ho
    obtain ⟨cap, vs, T, rfl, hnc, hcm, hb, hvs⟩ := ho
    have hb2 : CellsRel E s.h (vs.toList.take (m * i.size)) ds ∧ ∀ o, ¬ E.F b o := by
      rcases hob with ⟨_, ⟨h3, _⟩ | ⟨b', vs', T', h3, hb', _, h5, h6⟩⟩
      · rw [hρ] at h3; cases h3
      rw [hρ] at h3
      cases h3
      rw [hb] at hb'
      cases hb'
      exact ⟨h5, h6⟩
    obtain ⟨hco, hnf⟩ := hb2
    have hmz : m * i.size ≤ vs.size := by rw [hvs]; exact Nat.mul_le_mul_right _ hnc
    have hol : (vs.toList.take (m * i.size)).length = m * i.size := by simp; omega
    by_cases hroom : m + q ≤ cap
    · have hfit : m * i.size + news.length ≤ vs.size := by rw [hnl, hvs, ← Nat.add_mul]; exact Nat.mul_le_mul_right _ hroom
      have hrun := run_append_room_src (P := X.P) E.w t tx ty e i ht hi b 0 m cap uy q news hnews hroom
        (fun j hj => by
          simp only [World.cell?, hb, Nat.zero_add, Option.isSome_none, Bool.false_eq_true, if_false]
          rw [Array.getElem?_eq_getElem (by omega)]
          rfl)
        (fun j hj => by simp [World.frozen?, hb])
      rw [Nat.zero_add, setCells_row hb hfit hnews.one] at hrun
      generalize hnew : (vs.toList.take (m * i.size) ++ news ++ vs.toList.drop (m * i.size + news.length)).toArray = row at hrun
      have hrs : row.size = vs.size := by
        rw [← hnew]; simp; omega
      have htake : row.toList.take ((m + q) * i.size) = vs.toList.take (m * i.size) ++ news := by
        rw [← hnew, List.toList_toArray]
        have h2 : (vs.toList.take (m * i.size) ++ news).length = (m + q) * i.size := by simp only [List.length_append, hol, hnl, Nat.add_mul]
        rw [List.take_append_of_le_length (by rw [h2]; exact Nat.le_refl _)]
        rw [List.take_of_length_le (by rw [h2]; exact Nat.le_refl _)]
      have hbl : b < E.w.heap.size := (Array.getElem?_eq_some_iff.1 hb).1
      have hheap : (E.w.setRow b row).heap[b]? = some (.cells row T (0, 0)) := setRow_heap _ _ _ _ _ _ hb
      let E' : Env := { E with w := E.w.setRow b row }
      have st : Stp A.G.dr E s.h id E' (s.h.set id (.tok (m + q) i.size (some (ds ++ cn)))) := {
        os := rfl
        tape := rfl
        output := rfl
        size := by simp [E']
        blk := fun k _ hne => setRow_other _ _ _ _ (fun e => hne ⟨hidl, by rw [hρ, e]⟩)
        idle := Nat.le_of_lt hidl
        len := by simp
        len' := by simp; omega
        ρ := fun _ _ _ => rfl
        hh := fun j _ hji => by rw [List.getElem?_set_ne (Ne.symm hji)]
        F := fun _ _ h => h
        F' := fun c o h => .inl h
        same := fun c o hf => by
          by_cases hcb : c = b
          · subst hcb; exact absurd hf (hnf o)
          exact World.cell?_of_block (setRow_other _ _ _ _ hcb)
        at' := fun c _ hc => by
          have hc' : E.ρ id = some c := hc
          rw [hρ] at hc'
          cases hc'
          exact ⟨by simpa [E'] using hbl, .inr ⟨hidl, hρ⟩⟩
        keep := fun o ho => by
          rw [hid] at ho
          cases ho
          exact ⟨m + q, _, hat, by omega, fun _ => ⟨rfl, fun b2 vs2 T2 h2 h3 => by
            rw [hρ] at h2
            cases h2
            rw [hb] at h3
            cases h3
            exact ⟨row, T, hheap, hrs⟩⟩⟩ }
      have ev := st.evo hn.rel.env
      refine ⟨_, E', hrun, ev, st.ok hn.rel.env fun o ho => ?_, rfl, _, _, _, hat, Nat.le_refl _, fun _ => ?_⟩
      · rw [hat] at ho
        cases ho
        refine ⟨hz0, .inr ⟨b, row, T, hρ, hheap, ?_, ?_, fun o hf => hnf o hf⟩⟩
        · rw [hrs, hvs]; exact Nat.mul_le_mul_right _ hroom
        rw [htake]
        exact (cells_append hco hcn).evo ev (Nat.le_refl _)
      unfold OwnRow
      have hρ' : E'.ρ id = some b := hρ
      rw [hρ']
      exact ⟨cap, row, T, rfl, hroom, hcm, hheap, by rw [hrs, hvs]⟩
    refine hgrow _ cap _ rfl (by omega) hol hco ?_
    have hsrc := Src.ofSlice (P := X.P) E.w ht ⟨b, 0, none⟩ m cap (vs.toList.take (m * i.size)) hol (fun j u hj => ?_) (fun u hu => ?_) 
    · exact hsrc.cellsD
    · have hjl := lt_of_get hj
      rw [hol] at hjl
      rw [List.getElem?_take, if_pos hjl] at hj
      rw [Addr.add_mid, Nat.zero_add]
      simp only [World.cell?, hb, Option.isSome_none, Bool.false_eq_true, if_false]
      simpa using hj
    obtain ⟨j, hj⟩ := List.getElem?_of_mem hu
    have hjl := lt_of_get hj
    have hjd : j < ds.length := by rw [← hco.1]; exact hjl
    obtain ⟨u', hu', _, h1⟩ := hco.2 j _ (List.getElem?_eq_getElem hjd)
    rw [hj] at hu'
    cases hu'
    exact h1
theorem src_msl {tx e' : TypeId} {z id n : Nat} {u : Value} {cs : List C1} (hok : EnvOk A E s.h) (ht : X.P.underlying tx = some (.slice e')) (hx : (C1.msl id n).rel E s.h u) (hid : s.h[id]? = some (.tok n z (some cs))) :
    ∃ news, Src X.P z tx u n news E.w ∧ CellsRel E s.h news cs := by
  obtain ⟨_, m', z', c', hid', _, ho⟩ := hx
  rw [hid] at hid'
  cases hid'
  have ho := ho rfl
  have hob := hok.ob id _ hid
  unfold OwnRow at ho
  cases hρ : E.ρ id with
  | none =>
    simp only [hρ] at ho
    obtain ⟨⟨base, rfl⟩, rfl⟩ := ho
    have hcs : cs = [] := by
      rcases hob with ⟨_, ⟨_, _, h3⟩ | ⟨b, _, _, h3, _⟩⟩
      · exact h3
      rw [hρ] at h3; cases h3
    subst hcs
    cases base with
    | none => exact ⟨[], Src.ofNil E.w ht 0, rfl, fun j x hj => by simp at hj⟩
    | some p => exact ⟨[], Src.ofSlice E.w ht p 0 0 [] (by simp) (fun j u hj => by simp at hj) (fun u hu => by cases hu), rfl, fun j x hj => by simp at hj⟩
  | some b =>
    simp only [hρ] at ho
    obtain ⟨cap, vs, T, rfl, hnc, hcm, hb, hvs⟩ := ho
    have hco : CellsRel E s.h (vs.toList.take (n * z)) cs := by
      rcases hob with ⟨_, ⟨h3, _⟩ | ⟨b', vs', T', h3, hb', _, h5, h6⟩⟩
      · rw [hρ] at h3; cases h3
      rw [hρ] at h3
      cases h3
      rw [hb] at hb'
      cases hb'
      exact h5
    have hmz : n * z ≤ vs.size := by rw [hvs]; exact Nat.mul_le_mul_right _ hnc
    have hol : (vs.toList.take (n * z)).length = n * z := by simp; omega
    refine ⟨vs.toList.take (n * z), Src.ofSlice E.w ht ⟨b, 0, none⟩ n cap _ hol (fun j u hj => ?_) (fun u hu => ?_), hco⟩
    · have hjl := lt_of_get hj
      rw [hol] at hjl
      rw [List.getElem?_take, if_pos hjl] at hj
      rw [Addr.add_mid, Nat.zero_add]
      simp only [World.cell?, hb, Option.isSome_none, Bool.false_eq_true, if_false]
      simpa using hj
    obtain ⟨j, hj⟩ := List.getElem?_of_mem hu
    have hjl := lt_of_get hj
    have hjd : j < cs.length := by rw [← hco.1]; exact hjl
    obtain ⟨u', hu', _, h1⟩ := hco.2 j _ (List.getElem?_eq_getElem hjd)
    rw [hj] at hu'
    cases hu'
    exact h1
theorem src_of {tx : TypeId} {c : C1} {u : Value} {z : Nat} {p : Nat × List C1} (hok : EnvOk A E s.h) (hr : c.rel E s.h u) (hy : c.srcM s.h z = some p) (hsz : 0 < z)
    (hstr : ∀ l, c = .d (.str l) → X.P.underlying tx = some .string) (hsl : (∀ l, c ≠ .d (.str l)) → ∃ e', X.P.underlying tx = some (.slice e')) : ∃ news, Src X.P z tx u p.1 news E.w ∧ CellsRel E s.h news p.2 := by
  unfold C1.srcM at hy
  split at hy
  · rename_i id n
    unfold msS at hy
    split at hy
    · rename_i m z' cs hid
      split at hy
      · rename_i h2
        obtain ⟨rfl, rfl⟩ := h2
        cases hy
        obtain ⟨e', ht⟩ := hsl (fun l h => by cases h)
        exact src_msl hok ht hr hid
      cases hy
    cases hy
  unfold srS at hy
  split at hy
  · rename_i ys hys
    split at hy
    · rename_i hall
      cases hy
      obtain ⟨news, hnews⟩ := news_of (X := X) (tx := tx) hr hys hall hsz hstr hsl
      obtain ⟨hfl, hfr⟩ := news_flat hall hsz hnews.src.newsLen hnews.rd
      exact ⟨news, hnews.src, cells_d hfl.symm hfr⟩
    cases hy
  cases hy
theorem srcM_app {h g : Hp} {z : Nat} {c : C1} {p : Nat × List C1} (hy : c.srcM h z = some p) : c.srcM (h ++ g) z = some p := by
  cases c <;> first
    | exact hy
    | (rename_i id n
       simp only [C1.srcM] at hy ⊢
       unfold msS at hy ⊢
       cases hid : h[id]? with
       | none => rw [hid] at hy; cases hy
       | some ob =>
         rw [List.getElem?_append_left (lt_of_get hid), hid]
         rw [hid] at hy
         exact hy)
theorem msl_of_nil {n : Nat} {v : Value} (z : Nat) (hz : 0 < z) (hn : Now X A E s a) (hrd : Rd E.w E.F v (.sl true [])) : ∃ E' : Env, E'.w = E.w ∧ Evo s.h.length E s.h E' (s.h ++ [.tok 0 z (some [])]) ∧ EnvOk A E' (s.h ++ [.tok 0 z (some [])]) ∧ (C1.msl s.h.length 0).rel E' (s.h ++ [.tok 0 z (some [])]) v ∧
    Rel A E' ⟨s.t, s.h ++ [.tok 0 z (some [])]⟩ a E.w := by
  let E' : Env := { ρ := fun i => if i = s.h.length then none else E.ρ i, F := E.F, w := E.w }
  have st : Stp A.G.dr E s.h s.h.length E' (s.h ++ [.tok 0 z (some [])]) := {
    os := rfl, tape := rfl, output := rfl, size := Nat.le_refl _, blk := fun _ _ _ => rfl, idle := Nat.le_refl _, len := by simp, len' := by simp
    ρ := fun j _ hj => by simp [E', hj]
    hh := fun j hj _ => by rw [List.getElem?_append_left hj]
    F := fun _ _ h => h
    F' := fun _ _ h => .inl h
    same := fun _ _ _ => rfl
    at' := fun b _ hb => by simp [E'] at hb
    keep := fun o ho => by have := lt_of_get ho; omega }
  have ev := st.evo hn.rel.env
  have hat : (s.h ++ [Ob.tok 0 z (some [])])[s.h.length]? = some (.tok 0 z (some [])) := by simp
  have hok : EnvOk A E' (s.h ++ [.tok 0 z (some [])]) := st.ok hn.rel.env fun o ho => by
    rw [hat] at ho
    cases ho
    exact ⟨hz, .inl ⟨by simp [E'], rfl, rfl⟩⟩
  refine ⟨E', rfl, ev, hok, ?_, ⟨hok, rfl, hn.rel.defers, fun j => (hn.rel.tmps j).evo ev (Nat.le_refl _)⟩⟩
  obtain ⟨base, cap, hu, hcap, hfull, hnil⟩ := sl_inv hrd
  have hc0 : cap = 0 := by have := hfull rfl; simpa using this
  subst hc0
  refine ⟨hrd.one, 0, z, some [], hat, Nat.le_refl _, fun _ => ?_⟩
  unfold OwnRow
  simp only [E', if_true]
  exact ⟨⟨base, hu⟩, trivial⟩
theorem append_sim (hn : Now X A E s a) {o : Oper} {K : Act → World → Prop} {Q : Exit → Act → World → Prop} {t tx ty : TypeId} {x y v : AV} {ux uy : Value} {h' : Hp} (hx : x.rel E s.h ux) (hy : y.rel E s.h uy)
    (htx' : ∀ l, y = .d (.str l) → X.P.underlying tx = some .string) (htx'' : (∀ l, y ≠ .d (.str l)) → ∃ e', X.P.underlying tx = some (.slice e'))
    (hap : X.appendA s.h t x y = some (v, h')) (hex : ∀ u w', (Builtin.append_ #[t, tx] ty #[ux, uy]).run X.P E.w = .ok u w' → (execOp a.eval o).run X.P E.w = .ok (.value u) w')
    (hd : Done A E s.h o a K Q (.val v h')) : o.wp X.P a E.w K Q := by
  unfold Ctx.appendA at hap
  split at hap
  · rename_i dt e c cy ht
    cases hi : X.P.info? e with
    | none => simp [hi] at hap
    | some i =>
      · skip
        cases hzr : i.zero with
        | none => simp [hi, hzr] at hap
        | some zr =>
          simp only [hi, hzr, Option.bind_some] at hap
          split at hap
          · rename_i hzs
            obtain ⟨hzc, hz0⟩ := hzs
            split at hap
            · rename_i id es
              cases hys : cy.source with
              | none => simp [hys] at hap
              | some ys =>
              simp only [hys, Option.bind_some] at hap
              split at hap
              · rename_i n z htok
                split at hap
                · rename_i hcond
                  obtain ⟨hel, rfl, hyl, hby, hsm⟩ := hcond
                  simp only [Option.some.injEq, Prod.mk.injEq] at hap
                  obtain ⟨rfl, rfl⟩ := hap
                  have hx' := hx
                  obtain ⟨hrd, n', z', c', htok', hle, hez, hown⟩ := hx'
                  rw [htok] at htok'
                  cases htok'
                  have ho := hown hel
                  obtain ⟨news, hnews⟩ := news_of (X := X) (tx := tx) hy hys hyl hz0 (fun l h => htx' l (by rw [h])) (fun h => htx'' (fun l h2 => h l (by cases h2; rfl)))
                  have hnc0 : ∀ base cap, ux = .slice base n cap → n ≤ cap := fun base cap hu => by
                    obtain ⟨_, cap', h1, h2, _⟩ := sl_inv hrd
                    rw [hu] at h1
                    cases h1
                    omega
                  have hgrow : ∀ base cap, ux = .slice base n cap → cap < n + ys.length → o.wp X.P a E.w K Q := fun base cap hu hc => by
                    obtain ⟨v, E', hrun, ev, hok, hrel⟩ := grow_sim (A := A) (h' := s.h.set id (.tok (es.length + ys.length) i.size none)) hn ht hi hzr hzc hz0 hrd hu hel.symm hez hyl hnews hc (by rw [← hel]; exact hby) (by rw [← hel]; exact hsm)
                      (Nat.le_of_lt (lt_of_get htok)) (by rw [if_pos (lt_of_get htok), hel]) (fun o ho => by rw [htok] at ho; cases ho; exact ⟨_, rfl, by have := hnc0 base cap hu; omega⟩)
                    exact wp_of_val' (hex _ _ hrun) (hd _ _ ev hok hrel)
                  unfold OwnRow at ho
                  cases hρ : E.ρ id with
                  | none =>
                    simp only [hρ] at ho
                    obtain ⟨⟨base, rfl, hsp⟩, rfl⟩ := ho
                    by_cases hy0 : ys.length = 0
                    · -- nothing is appended to nil
                      have hys0 : ys = [] := List.eq_nil_of_length_eq_zero hy0
                      have hes0 : es = [] := List.eq_nil_of_length_eq_zero hel
                      subst hys0
                      subst hes0
                      have hnl := hnews.src.newsLen
                      have hn0 : news = [] := List.eq_nil_of_length_eq_zero (by simpa using hnl)
                      subst hn0
                      have hlen : ∀ w' : World, (Builtin.lenOf uy).run X.P w' = .ok 0 w' := hnews.src.len
                      have hcells := hnews.src.cells
                      simp only [List.length_nil] at hcells
                      have hrun : (Builtin.append_ #[t, tx] ty #[.slice base 0 0, uy]).run X.P E.w = .ok (.slice base 0 0) E.w := by
                        rcases hnews.src.kind with ⟨e', hk⟩ | hk <;> cases base <;> simp [Builtin.append_, run_underlying ht, run_underlying hk, sizeOf, typeInfo, hi, hlen, hcells, storeCells]
                      have hset : s.h.set id (.tok (([] : List (List D)).length + ([] : List (List D)).length) i.size none) = s.h := by
                        apply List.ext_getElem?
                        intro k
                        rw [List.getElem?_set]
                        split
                        · rename_i hk
                          subst hk
                          rw [htok, if_pos (lt_of_get htok)]
                          rfl
                        rfl
                      rw [hset] at hd
                      exact wp_of_val (hex _ _ hrun) (done_val hn hd hx)
                    · exact hgrow base 0 rfl (by omega)
                  | some b =>
                    simp only [hρ] at ho
                    obtain ⟨cap, vs, T, rfl, hnc, hcm, hb, hvs⟩ := ho
                    by_cases hroom : n + ys.length ≤ cap
                    · obtain ⟨_, hr0 | ⟨b', vs', T', hρ', hb', hnz, hnf⟩⟩ := hn.rel.env.ob id _ htok
                      · rw [hρ] at hr0; cases hr0.1
                      rw [hρ] at hρ'
                      cases hρ'
                      rw [hb] at hb'
                      cases hb'
                      have hnl : news.length = ys.length * i.size := hnews.src.newsLen
                      have hfit : n * i.size + news.length ≤ vs.size := by rw [hnl, hvs, ← Nat.add_mul]; exact Nat.mul_le_mul_right _ hroom
                      have hrun := run_append_room_src (P := X.P) E.w t tx ty e i ht hi b 0 n cap uy ys.length news hnews.src hroom
                        (fun j hj => by
                          simp only [World.cell?, hb, Nat.zero_add, Option.isSome_none, Bool.false_eq_true, if_false]
                          rw [Array.getElem?_eq_getElem (by omega)]
                          rfl)
                        (fun j hj => by simp [World.frozen?, hb])
                      rw [Nat.zero_add, setCells_row hb hfit hnews.src.one] at hrun
                      generalize hnew : (vs.toList.take (n * i.size) ++ news ++ vs.toList.drop (n * i.size + news.length)).toArray = row at hrun
                      have hrs : row.size = vs.size := by
                        rw [← hnew]; simp; omega
                      have hpre : ∀ k, k < n * i.size → row[k]? = vs[k]? := fun k hk => by
                        rw [← hnew]
                        simp only [List.getElem?_toArray, List.append_assoc]
                        rw [List.getElem?_append_left (by simp; omega), List.getElem?_take, if_pos hk]
                        simp
                      have hmid : ∀ k, k < news.length → row[n * i.size + k]? = news[k]? := fun k hk => by
                        rw [← hnew]
                        simp only [List.getElem?_toArray, List.append_assoc]
                        rw [List.getElem?_append_right (by simp; omega), List.getElem?_append_left (by simp; omega)]
                        congr 1
                        simp; omega
                      let E' : Env := { ρ := E.ρ, F := fun c o => E.F c o ∨ (c = b ∧ o < (n + ys.length) * i.size), w := E.w.setRow b row }
                      have hbl : b < E.w.heap.size := (Array.getElem?_eq_some_iff.1 hb).1
                      have hheap : (E.w.setRow b row).heap[b]? = some (.cells row T (0, 0)) := setRow_heap _ _ _ _ _ _ hb
                      have st : Stp A.G.dr E s.h id E' (s.h.set id (.tok (n + ys.length) i.size none)) := {
                        os := rfl
                        tape := rfl
                        output := rfl
                        size := by simp [E']
                        blk := fun k _ hne => setRow_other _ _ _ _ (fun e => hne ⟨lt_of_get htok, by rw [hρ, e]⟩)
                        idle := Nat.le_of_lt (lt_of_get htok)
                        len := by simp
                        len' := by simp; omega
                        ρ := fun _ _ _ => rfl
                        hh := fun j _ hji => by rw [List.getElem?_set_ne (Ne.symm hji)]
                        F := fun _ _ h => .inl h
                        F' := fun c o h => by
                          rcases h with h | ⟨h1, _⟩
                          · exact .inl h
                          exact .inr ⟨by simp [E']; omega, .inr ⟨lt_of_get htok, by rw [hρ, h1]⟩⟩
                        same := fun c o hf => by
                          by_cases hcb : c = b
                          · subst hcb
                            have hol : o < n * i.size := by
                              rcases Nat.lt_or_ge o (n * i.size) with h | h
                              · exact h
                              exact absurd hf (hnf o h)
                            simp only [E', World.cell?, hheap, hb, Option.isSome_none, Bool.false_eq_true, if_false]
                            exact hpre o hol
                          exact World.cell?_of_block (setRow_other _ _ _ _ hcb)
                        at' := fun c _ hc => by
                          have hc' : E.ρ id = some c := hc
                          rw [hρ] at hc'
                          cases hc'
                          exact ⟨by simpa [E'] using hbl, .inr ⟨lt_of_get htok, hρ⟩⟩
                        keep := fun o ho => by
                          rw [htok] at ho
                          cases ho
                          exact ⟨n + ys.length, none, by simp [lt_of_get htok], by omega, fun _ => ⟨rfl, fun b2 vs2 T2 h2 h3 => by
                            rw [hρ] at h2
                            cases h2
                            rw [hb] at h3
                            cases h3
                            exact ⟨row, T, hheap, hrs⟩⟩⟩ }
                      have ev := st.evo hn.rel.env
                      have hat : (s.h.set id (.tok (n + ys.length) i.size none))[id]? = some (.tok (n + ys.length) i.size none) := by simp [lt_of_get htok]
                      have hok : EnvOk A E' (s.h.set id (.tok (n + ys.length) i.size none)) := st.ok hn.rel.env fun o ho => by
                        rw [hat] at ho
                        cases ho
                        refine ⟨hz0, .inr ⟨b, row, T, hρ, hheap, ?_, fun o ho hf => ?_⟩⟩
                        · rw [hrs, hvs]; exact Nat.mul_le_mul_right _ hroom
                        rcases hf with hf | ⟨_, h2⟩
                        · exact hnf o (Nat.le_trans (Nat.mul_le_mul_right _ (by omega)) ho) hf
                        omega
                      refine wp_of_val' (w' := E'.w) (hex _ _ hrun) (hd _ E' (by rw [hel]; exact ev) (by rw [hel]; exact hok) ?_)
                      rw [hel]
                      have hall : ∀ r ∈ es ++ ys, r.length = i.size := fun r hr => by
                        rcases List.mem_append.1 hr with h | h
                        · exact hez r h
                        exact hyl r h
                      have hesl : (es ++ ys).length = n + ys.length := by simp [hel]
                      have hvl : (vs.toList.take (n * i.size)).length = es.length * i.size := by simp; rw [hel]; omega
                      have hcell : ∀ k, k < n * i.size → vs[k]? = E.w.cell? ⟨b, k, none⟩ := fun k hk => by
                        simp only [World.cell?, hb, Option.isSome_none, Bool.false_eq_true, if_false]
                      have holds : ∀ (i' j : Nat) (r : List D) (y : D), es[i']? = some r → r[j]? = some y → ∃ v, (vs.toList.take (n * i.size))[i' * i.size + j]? = some v ∧ Rd E.w E.F v y := fun i' j r y hr hy => by
                        rcases sl_cases hrd with ⟨_, h1, h2⟩ | ⟨b2, o2, cap2, size2, vals, h1, _, _, hsize, _, hcl, _, hrr⟩
                        · subst h2; simp at hr
                        injection h1 with ha _ _
                        cases ha
                        have hrl := lt_of_get hr
                        have hs2 : size2 = i.size := by rw [← hsize r (List.mem_of_getElem? hr), hez r (List.mem_of_getElem? hr)]
                        subst hs2
                        have hjl : j < i.size := by have := lt_of_get hy; rw [hsize r (List.mem_of_getElem? hr)] at this; exact this
                        have hk : i' * i.size + j < n * i.size := by
                          have : (i' + 1) * i.size ≤ n * i.size := Nat.mul_le_mul_right _ (by omega)
                          rw [Nat.add_mul] at this
                          omega
                        refine ⟨vals i' j, ?_, hrr i' j r y hr hy⟩
                        rw [List.getElem?_take, if_pos hk, Array.getElem?_toList, hcell _ hk]
                        have := hcl i' j hrl hjl
                        simpa using this
                      have hrd' : Rd E'.w E'.F (.slice (some ⟨b, 0, none⟩) (n + ys.length) cap) (.sl false (es ++ ys)) := by
                        refine row_rd (z := i.size) hheap hesl hroom (by simp) ?_ hall (fun o ho => .inr ⟨rfl, ho⟩) (fun i' j r y hi' hy => ?_) (fun o ho v hv => ?_)
                        · rw [hrs, hvs]; exact Nat.mul_le_mul_right _ hroom
                        · obtain ⟨v, hv, hr⟩ := both_rd (w := E.w) (F := E.F) (z := i.size) hvl hez holds hnews.rd i' j r y hi' hy
                          have hlt := lt_of_get hv
                          simp only [List.length_append, hvl, hnl] at hlt
                          refine ⟨v, ?_, hr.evo ev⟩
                          rw [← hnew]
                          simp only [List.getElem?_toArray]
                          rw [List.getElem?_append_left (by simp only [List.length_append, hvl, hnl]; omega)]
                          exact hv
                        by_cases hlt : o < n * i.size
                        · rw [hpre o hlt, hcell o hlt] at hv
                          obtain ⟨i', j, hi', hj, rfl⟩ : ∃ i' j, i' < n ∧ j < i.size ∧ o = i' * i.size + j :=
                            ⟨o / i.size, o % i.size, Nat.div_lt_of_lt_mul (by rw [Nat.mul_comm]; exact hlt), Nat.mod_lt _ hz0, by rw [Nat.mul_comm]; exact (Nat.div_add_mod o i.size).symm⟩
                          rcases sl_cases hrd with ⟨_, h1, h2⟩ | ⟨b2, o2, cap2, size2, vals, h1, _, _, hsize, _, hcl, h1', _⟩
                          · subst h2; simp at hel; omega
                          injection h1 with ha _ _
                          cases ha
                          have hs2 : size2 = i.size := by
                            have hm := List.getElem_mem (l := es) (n := i') (by omega)
                            rw [← hsize _ hm, hez _ hm]
                          subst hs2
                          have := hcl i' j (by omega) hj
                          simp only [Nat.zero_add] at this
                          rw [this] at hv
                          cases hv
                          exact h1' i' j (by omega) hj
                        have hk : o - n * i.size < news.length := by rw [hnl]; rw [Nat.add_mul] at ho; omega
                        have := hmid _ hk
                        rw [show n * i.size + (o - n * i.size) = o by omega] at this
                        rw [this] at hv
                        exact hnews.src.one v (List.mem_of_getElem? hv)
                      refine ⟨hrd', n + ys.length, i.size, none, hat, by omega, hall, fun _ => ?_⟩
                      unfold OwnRow
                      have hρ' : E'.ρ id = some b := hρ
                      rw [hρ']
                      exact ⟨cap, row, T, rfl, hroom, hcm, hheap, by rw [hrs, hvs]⟩
                    exact hgrow _ cap rfl (by omega)
                cases hap
              cases hap
            · rename_i id n
              cases hys : cy.srcM s.h i.size with
              | none => simp [hys] at hap
              | some p =>
              simp only [hys, Option.bind_some] at hap
              split at hap
              · rename_i m z ds htok
                split at hap
                · rename_i hcond
                  obtain ⟨rfl, rfl, hby, hsm⟩ := hcond
                  simp only [Option.some.injEq, Prod.mk.injEq] at hap
                  obtain ⟨rfl, rfl⟩ := hap
                  obtain ⟨news, hnews, hcn⟩ := src_of (X := X) (tx := tx) hn.rel.env hy hys hz0 (fun l h => htx' l (by rw [h])) (fun h => htx'' (fun l h2 => h l (by cases h2; rfl)))
                  obtain ⟨v, E', hrun, ev, hok, hrel⟩ := append_msl (A := A) (ty := ty) hn ht hi hzr hzc hz0 htok hx hnews hcn hby hsm
                  exact wp_of_val' (hex _ _ hrun) (hd _ _ ev hok hrel)
                cases hap
              cases hap
            · rename_i es
              split at hap
              · cases hys : cy.srcM s.h i.size with
                | none => simp [hys] at hap
                | some p =>
                simp only [hys, Option.bind_some] at hap
                split at hap
                · rename_i hcond
                  obtain ⟨he0, hby, hsm⟩ := hcond
                  simp only [Option.some.injEq, Prod.mk.injEq] at hap
                  obtain ⟨rfl, rfl⟩ := hap
                  obtain rfl : es = [] := List.isEmpty_iff.1 he0
                  obtain ⟨E1, hw1, ev1, hok1, hrel1, hr1⟩ := msl_of_nil (n := s.h.length) i.size hz0 hn hx
                  have hn1 : Now X A E1 ⟨s.t, s.h ++ [.tok 0 i.size (some [])]⟩ a := ⟨hn.G, by rw [hw1]; exact hr1⟩
                  have hys1 := srcM_app (g := [.tok 0 i.size (some [])]) hys
                  have hy1 : cy.rel E1 (s.h ++ [.tok 0 i.size (some [])]) uy := C1.rel.evo ev1 (Nat.le_refl _) hy
                  obtain ⟨news, hnews, hcn⟩ := src_of (X := X) (tx := tx) (c := cy) (s := ⟨s.t, s.h ++ [.tok 0 i.size (some [])]⟩) hok1 hy1 hys1 hz0 (fun l h => htx' l (by rw [h])) (fun h => htx'' (fun l h2 => h l (by cases h2; rfl)))
                  obtain ⟨v, E', hrun, ev, hok, hrel⟩ := append_msl (A := A) (ty := ty) (m := 0) (id := s.h.length) (ds := []) hn1 ht hi hzr hzc hz0 (by simp) hrel1 hnews hcn (by simpa using hby) (by simpa using hsm)
                  have hset : (s.h ++ [Ob.tok 0 i.size (some [])]).set s.h.length (.tok (0 + p.1) i.size (some ([] ++ p.2))) = s.h ++ [.tok p.1 i.size (some p.2)] := by simp
                  dsimp only at ev hok hrel
                  rw [hset] at ev hok hrel
                  rw [Nat.zero_add] at hrel
                  rw [hw1] at hrun
                  exact wp_of_val' (hex _ _ hrun) (hd _ _ (ev1.trans ev (by show s.h.length ≤ (s.h ++ [_]).length; rw [List.length_append]; omega)) hok hrel)
                cases hap
              cases hys : cy.source with
              | none => simp [hys] at hap
              | some ys =>
              simp only [hys, Option.bind_some] at hap
              split at hap
              · rename_i hcond
                obtain ⟨hez, hyl, hby, hsm⟩ := hcond
                have hrd : Rd E.w E.F ux (.sl true es) := hx
                obtain ⟨base, cap, hu, hcap, hfull, hnil⟩ := sl_inv hrd
                have hcapn := hfull rfl
                obtain ⟨news, hnews⟩ := news_of (X := X) (tx := tx) hy hys hyl hz0 (fun l h => htx' l (by rw [h])) (fun h => htx'' (fun l h2 => h l (by cases h2; rfl)))
                split at hap
                · rename_i hy0
                  simp only [Option.some.injEq, Prod.mk.injEq] at hap
                  obtain ⟨rfl, rfl⟩ := hap
                  have hys0 : ys = [] := List.eq_nil_of_length_eq_zero hy0
                  subst hys0
                  have hnl := hnews.src.newsLen
                  have hn0 : news = [] := List.eq_nil_of_length_eq_zero (by simpa using hnl)
                  subst hn0
                  have hlen : ∀ w' : World, (Builtin.lenOf uy).run X.P w' = .ok 0 w' := hnews.src.len
                  have hcells := hnews.src.cells
                  simp only [List.length_nil] at hcells
                  have hrun : (Builtin.append_ #[t, tx] ty #[ux, uy]).run X.P E.w = .ok ux E.w := by
                    rw [hu]
                    rcases hnews.src.kind with ⟨e', hk⟩ | hk <;> cases base <;> simp [Builtin.append_, run_underlying ht, run_underlying hk, sizeOf, typeInfo, hi, hlen, hcells, hcap, storeCells]
                  exact wp_of_val (hex _ _ hrun) (done_val hn hd hx)
                rename_i hy0
                simp only [Option.some.injEq, Prod.mk.injEq] at hap
                obtain ⟨rfl, rfl⟩ := hap
                obtain ⟨v, E', hrun, ev, hok, hrel⟩ := grow_sim (A := A) (id := s.h.length) (h' := s.h ++ [.tok (es.length + ys.length) i.size none]) hn ht hi hzr hzc hz0 hrd hu rfl hez hyl hnews (by omega) hby hsm
                  (Nat.le_refl _) (by rw [if_neg (by omega)]) (fun o ho => by have := lt_of_get ho; omega)
                exact wp_of_val' (hex _ _ hrun) (hd _ _ ev hok hrel)
              cases hap
            cases hap
          cases hap
  cases hap
end
end Go.Ab
