/-
  Texts of the layer and of the laws, put together: Ab7. No law is stated here.
-/
import Derived.Test.YteeepgnhkfmnaaaDoorAbVol3
set_option linter.unusedSimpArgs false
set_option linter.unusedVariables false
set_option maxRecDepth 100000

/-
  Each operation of the code does what the abstract one says: conversions, append, the other builtins, calls; then all operations at once.
-/
namespace Go.Ab
open Go.RowKit

section
variable {X : Ctx} {A : Actn} {E : Env} {s : S} {a : Act}

theorem isU8_inv {e : TypeId} (h : X.isU8 e = true) : X.P.underlying e = some (.int .u8) := by
  unfold Ctx.isU8 at h
  split at h
  · assumption
  · cases h

def numOf : Option (List D) → Int
  | some [.int _ n] => n
  | _ => 0

theorem bytesOf_get : ∀ (es : List (List D)) (l : List UInt8), bytesOf es = some l → es.length = l.length ∧ ∀ (i : Nat) (b : UInt8), l[i]? = some b → ∃ n : Int, es[i]? = some [.int .u8 n] ∧ UInt8.ofNat n.toNat = b
  | [], l, h => by simp [bytesOf] at h; subst h; exact ⟨rfl, fun i b hb => by simp at hb⟩
  | e :: es, l, h => by
    simp only [bytesOf] at h
    cases hb : byteOf e with
    | none => simp [hb] at h
    | some b =>
      cases hr : bytesOf es with
      | none => simp [hb, hr] at h
      | some r =>
        simp [hb, hr] at h
        subst h
        obtain ⟨h1, h2⟩ := bytesOf_get es r hr
        refine ⟨by simp [h1], fun i b' hi => ?_⟩
        cases i with
        | zero =>
          simp at hi
          subst hi
          unfold byteOf at hb
          split at hb
          · rename_i n
            split at hb
            · cases hb; exact ⟨n, rfl, rfl⟩
            · cases hb
          · cases hb
        | succ i => simpa using h2 i b' (by simpa using hi)

theorem foldl_push : ∀ (ns : List Int) (s : ByteArray), (ns.foldl (fun r n => r.push (UInt8.ofNat n.toNat)) s).data.toList = s.data.toList ++ ns.map fun n => UInt8.ofNat n.toNat
  | [], s => by simp
  | n :: ns, s => by
    simp only [List.foldl_cons, foldl_push ns, List.map_cons]
    simp

theorem conv_sim (hn : Now X A E s a) {o : Oper} {K : Act → World → Prop} {Q : Exit → Act → World → Prop} {src dst : TypeId} {x : AV} {ux : Value} {d : D} (hx : x.rel E s.h ux) (hc : X.convA src dst x = some d)
    (hex : ∀ u w', (convert src dst ux).run X.P E.w = .ok u w' → (execOp a.eval o).run X.P E.w = .ok (.value u) w') (hd : Done A E s.h o a K Q (.val (.d d) s.h)) : o.wp X.P a E.w K Q := by
  unfold Ctx.convA at hc
  cases hs : X.P.underlying src with
  | none => simp [hs] at hc
  | some ds =>
    cases hdd : X.P.underlying dst with
    | none => simp [hs, hdd] at hc
    | some dd =>
      simp only [hs, hdd, Option.bind_some] at hc
      split at hc
      · rename_i k k0 n
        cases hc
        have := int_inv (rel_d hx)
        subst this
        refine wp_of_val (hex (.int k (k.wrap n)) _ ?_) (done_val hn hd (show Rd _ _ _ _ from .int _ _))
        simp [convert, run_underlying hs, run_underlying hdd, Conv.intToInt]
      · rename_i l
        cases hc
        obtain ⟨s', rfl, rfl⟩ := str_inv (rel_d hx)
        refine wp_of_val (hex (.string s') _ ?_) (done_val hn hd (show Rd _ _ _ _ from .str s'))
        simp [convert, run_underlying hs, run_underlying hdd]
      · rename_i c hne
        split at hc
        · rename_i e
          split at hc
          · rename_i hu8
            cases he : c.elems with
            | none => simp [he] at hc
            | some es =>
              cases hb : bytesOf es with
              | none => simp [he, hb] at hc
              | some l =>
                simp [he, hb] at hc
                subst hc
                obtain ⟨full, hrd, _⟩ := elems_rel hx he
                obtain ⟨hel, heg⟩ := bytesOf_get es l hb
                rcases sl_cases hrd with ⟨base, rfl, rfl⟩ | ⟨b, o', cap, size, vals, rfl, hcap, hfull, hsize, hF, hcl, h1', hr⟩
                · simp [bytesOf] at hb
                  subst hb
                  refine wp_of_val (hex (.string .empty) _ ?_) (done_val hn hd (show Rd _ _ _ _ from .str .empty))
                  rw [run_convert_bytes_string E.w src dst e base 0 0 hs (isU8_inv hu8) hdd]
                  cases base <;> simp [Conv.bytesToString, loadCells, loadCellsFrom]
                · have hvals : ∀ i, i < es.length → E.w.cell? ⟨b, o' + i, none⟩ = some (.int .u8 (numOf es[i]?)) ∧ l[i]? = some (UInt8.ofNat (numOf es[i]?).toNat) := by
                    intro i hi
                    obtain ⟨n, hn1, hn2⟩ := heg i _ (List.getElem?_eq_getElem (by omega))
                    have hs1 : size = 1 := by rw [← hsize _ (List.mem_of_getElem? hn1)]; rfl
                    subst hs1
                    have h2 := hr i 0 _ _ hn1 rfl
                    have h3 := hcl i 0 hi (by omega)
                    rw [int_inv h2] at h3
                    rw [hn1]
                    refine ⟨by simpa [numOf] using h3, ?_⟩
                    show _ = some (UInt8.ofNat n.toNat)
                    rw [hn2]
                    exact List.getElem?_eq_getElem (by omega)
                  let ns : List Int := (List.range es.length).map fun i => numOf es[i]?
                  have hns : ∀ i, i < es.length → ns[i]? = some (numOf es[i]?) := fun i hi => by
                    simp [ns, hi]
                  have hload : (loadCells ⟨b, o', none⟩ es.length).run X.P E.w = .ok (ns.map (Value.int .u8)).toArray E.w := by
                    have hl : (ns.map (Value.int .u8)).length = es.length := by simp [ns]
                    rw [← hl]
                    refine run_loadCells_list E.w ⟨b, o', none⟩ _ (fun j v hj => ?_)
                    rw [List.getElem?_map] at hj
                    have hjl : j < es.length := by
                      cases hnj : ns[j]? with
                      | none => simp [hnj] at hj
                      | some q => have := lt_of_get hnj; simp [ns] at this; exact this
                    rw [hns j hjl, Option.map_some, Option.some.injEq] at hj
                    subst hj
                    rw [Addr.add_mid]
                    exact (hvals j hjl).1
                  have hrun := run_bytesToString (P := X.P) E.w ⟨b, o', none⟩ es.length cap ns hload
                  refine wp_of_val (hex _ _ (by rw [run_convert_bytes_string E.w src dst e _ _ _ hs (isU8_inv hu8) hdd]; exact hrun)) (done_val hn hd (show Rd _ _ _ _ from Rd.str' ?_))
                  rw [foldl_push]
                  apply List.ext_getElem?
                  intro i
                  have he0 : ByteArray.empty.data.toList = [] := rfl
                  rw [he0, List.nil_append, List.getElem?_map]
                  by_cases hi : i < es.length
                  · rw [hns i hi, (hvals i hi).2]
                    rfl
                  · rw [List.getElem?_eq_none (by simp [ns]; omega), List.getElem?_eq_none (by omega)]
                    rfl
          · cases hc
        · cases hc
      · rename_i e l
        split at hc
        · rename_i hcond
          cases hc
          obtain ⟨s', rfl, rfl⟩ := str_inv (rel_d hx)
          have hrun := Lib.run_convert_string_bytes (P := X.P) E.w src dst e s' hs hdd (isU8_inv hcond.1)
          have st := Stp.fz hn.rel.env (Lib.bytesWorld E.w e s') rfl rfl rfl (by rw [Lib.bytesWorld_size]; omega) (fun k hk => Lib.bytesWorld_at_old _ _ _ _ hk) (fun _ => by unfold Lib.bytesWorld; exact Nat.le_succ E.w.drawn)
          have ev := st.evo hn.rel.env
          refine wp_of_val' (hex _ _ hrun) (hd _ _ ev (st.fz_ok hn.rel.env) ?_)
          have hcap := grownCap_ge E.w s'.size 0 e
          have hsz : s'.size = s'.data.toList.length := Lib.size_eq s'
          refine row_rd (z := 1) (Lib.bytesWorld_at_new E.w e s') (by simp) hcap (by simp) (by simp [Lib.bytesCells]) (fun r hr => by simp at hr; obtain ⟨_, _, rfl⟩ := hr; rfl) (fun o _ => .inr ⟨Nat.le_refl _, by simp [Lib.bytesWorld_size]⟩) (fun i j r y hi hy => ?_) (fun o ho u hu => ?_)
          · rw [List.getElem?_map] at hi
            cases hb : s'.data.toList[i]? with
            | none => simp [hb] at hi
            | some b =>
              simp [hb] at hi
              subst hi
              have hj : j = 0 := by have := lt_of_get hy; simp at this; exact this
              subst hj
              simp at hy
              subst hy
              refine ⟨.int .u8 b.toNat, ?_, .int _ _⟩
              have hil := lt_of_get hb
              have hb' : s'.data[i]? = some b := by simpa using hb
              simp only [Lib.bytesCells, Nat.mul_one, Nat.add_zero]
              rw [Array.getElem?_append_left (by simpa using hil)]
              simp [hb']
          · rw [Nat.mul_one] at ho
            have hol : o < s'.data.toList.length := by omega
            have hb : s'.data[o]? = some s'.data[o] := Array.getElem?_eq_getElem (by simpa using hol)
            simp only [Lib.bytesCells] at hu
            rw [Array.getElem?_append_left (by simpa using hol)] at hu
            simp [hb] at hu
            rw [← hu]
            rfl
        · cases hc
      · cases hc

/-! ### append -/

theorem flat_get {α : Type} {z : Nat} : ∀ (es : List (List α)), (∀ e ∈ es, e.length = z) → es.flatten.length = es.length * z ∧ ∀ (i j : Nat) (e : List α), es[i]? = some e → j < z → es.flatten[i * z + j]? = e[j]?
  | [], _ => ⟨by simp, fun i j e h => by simp at h⟩
  | e :: es, h => by
    obtain ⟨h1, h2⟩ := flat_get es (fun x hx => h x (List.mem_cons_of_mem _ hx))
    have he := h e List.mem_cons_self
    refine ⟨by simp [h1, he, Nat.add_mul]; omega, fun i j x hx hj => ?_⟩
    cases i with
    | zero =>
      simp at hx
      subst hx
      simp only [Nat.zero_mul, Nat.zero_add, List.flatten_cons]
      rw [List.getElem?_append_left (by omega)]
    | succ i =>
      simp at hx
      simp only [List.flatten_cons]
      rw [List.getElem?_append_right (by rw [he, Nat.add_mul]; omega)]
      rw [← h2 i j x hx hj]
      congr 1
      rw [he, Nat.add_mul]; omega

/-- What append takes from its second argument. -/
structure News (P : Program) (E : Env) (size : Nat) (tx : TypeId) (u : Value) (ys : List (List D)) (news : List Value) : Prop where
  src : Src P size tx u ys.length news E.w
  rd : ∀ (i j : Nat) (e : List D) (y : D), ys[i]? = some e → e[j]? = some y → ∃ v, news[i * size + j]? = some v ∧ Rd E.w E.F v y

theorem src_of_rd {tx : TypeId} {u : Value} {ys : List (List D)} {size : Nat} {full : Bool} (hrd : Rd E.w E.F u (.sl full ys)) (hz : ∀ r ∈ ys, r.length = size) (hsz : 0 < size)
    (ht : ∃ e', X.P.underlying tx = some (.slice e')) : ∃ news, News X.P E size tx u ys news := by
  obtain ⟨e', he'⟩ := ht
  rcases sl_cases hrd with ⟨base, rfl, rfl⟩ | ⟨b, o', cap, size', vals, rfl, hcap, hfull, hsize, hF, hcl, h1', hr⟩
  · cases base with
    | none => exact ⟨[], Src.ofNil E.w he' 0, fun i j e y hi => by simp at hi⟩
    | some p => exact ⟨[], Src.ofSlice E.w he' p 0 0 [] (by simp) (fun j u hj => by simp at hj) (fun u hu => by cases hu), fun i j e y hi => by simp at hi⟩
  · by_cases hy0 : ys.length = 0
    · have : ys = [] := List.eq_nil_of_length_eq_zero hy0
      subst this
      refine ⟨[], Src.ofSlice E.w he' _ 0 cap [] (by simp) (fun j u hj => by simp at hj) (fun u hu => by cases hu), fun i j e y hi => by simp at hi⟩
    · have hse : size' = size := by
        have hm := List.getElem_mem (l := ys) (n := 0) (by omega)
        rw [← hsize _ hm, hz _ hm]
      subst hse
      let rows : List (List Value) := (List.range ys.length).map fun i => (List.range size').map fun j => vals i j
      have hrl : ∀ r ∈ rows, r.length = size' := fun r hr => by
        simp only [rows, List.mem_map] at hr
        obtain ⟨i, _, rfl⟩ := hr
        simp
      obtain ⟨g1, g2⟩ := flat_get rows hrl
      have hrows : rows.length = ys.length := by simp [rows]
      have hget : ∀ i j, i < ys.length → j < size' → rows.flatten[i * size' + j]? = some (vals i j) := fun i j hi hj => by
        rw [g2 i j ((List.range size').map fun j => vals i j) (by simp [rows, hi]) hj]
        simp [hj]
      have hall : ∀ k, k < ys.length * size' → ∃ i j, i < ys.length ∧ j < size' ∧ k = i * size' + j := fun k hk =>
        ⟨k / size', k % size', Nat.div_lt_of_lt_mul (by rw [Nat.mul_comm]; exact hk), Nat.mod_lt _ hsz, by rw [Nat.mul_comm]; exact (Nat.div_add_mod k size').symm⟩
      refine ⟨rows.flatten, Src.ofSlice E.w he' ⟨b, o', none⟩ ys.length cap rows.flatten (by rw [g1, hrows]) (fun k v hk => ?_) (fun v hv => ?_), fun i j e y hi hy => ?_⟩
      · have hkl := lt_of_get hk
        rw [g1, hrows] at hkl
        obtain ⟨i, j, hi, hj, rfl⟩ := hall k hkl
        rw [hget i j hi hj] at hk
        cases hk
        rw [Addr.add_mid, ← Nat.add_assoc]
        exact hcl i j hi hj
      · obtain ⟨k, hk⟩ := List.getElem?_of_mem hv
        have hkl := lt_of_get hk
        rw [g1, hrows] at hkl
        obtain ⟨i, j, hi, hj, rfl⟩ := hall k hkl
        rw [hget i j hi hj] at hk
        cases hk
        exact h1' i j hi hj
      · have hil := lt_of_get hi
        have hjl : j < size' := by have := lt_of_get hy; rw [hz _ (List.mem_of_getElem? hi)] at this; exact this
        exact ⟨vals i j, hget i j hil hjl, hr i j e y hi hy⟩

theorem news_of {tx : TypeId} {c : C1} {u : Value} {ys : List (List D)} {size : Nat} (hr : c.rel E s.h u) (hy : c.source = some ys) (hz : ∀ r ∈ ys, r.length = size) (hsz : 0 < size)
    (hstr : ∀ l, c = .d (.str l) → X.P.underlying tx = some .string)
    (hsl : (∀ l, c ≠ .d (.str l)) → ∃ e', X.P.underlying tx = some (.slice e')) : ∃ news, News X.P E size tx u ys news := by
  have slices : ∀ full, Rd E.w E.F u (.sl full ys) → (∃ e', X.P.underlying tx = some (.slice e')) → ∃ news, News X.P E size tx u ys news := fun _ hrd ht => src_of_rd hrd hz hsz ht
  unfold C1.source at hy
  split at hy
  · rename_i full es
    cases hy
    exact slices full hr (hsl (fun l h => by cases h))
  · cases hy
    exact slices false hr.1 (hsl (fun l h => by cases h))
  · rename_i l
    cases hy
    obtain ⟨s', rfl, rfl⟩ := str_inv hr
    by_cases h0 : s'.data.toList.length = 0
    · -- the empty string: no element
      have hl : s'.data.toList = [] := List.eq_nil_of_length_eq_zero h0
      have hsz0 : s'.size = 0 := by rw [Lib.size_eq, h0]
      refine ⟨[], ⟨.inr (hstr _ rfl), fun w' => ?_, ?_, ?_, by simp [hl], fun u hu => by cases hu⟩, fun i j e y hi => by simp [hl] at hi⟩
      · simp [Builtin.lenOf, hl, hsz0]
      · simp [Builtin.firstCells, hl]
      · simp [Builtin.firstCells, hl]
    · have h1 : size = 1 := by
        rw [← hz _ (List.getElem_mem (n := 0) (by simpa using Nat.pos_of_ne_zero h0))]
        simp
      subst h1
      have hsrc := Src.ofString (P := X.P) (w := E.w) (hstr _ rfl) s'
      refine ⟨byteCells s', ?_, fun i j e y hi hy => ?_⟩
      · have : (s'.data.toList.map fun b => [D.int .u8 (b.toNat : Int)]).length = s'.size := by rw [List.length_map, ← Lib.size_eq]
        rw [this]
        exact hsrc
      · rw [List.getElem?_map] at hi
        cases hb : s'.data.toList[i]? with
        | none => simp [hb] at hi
        | some b =>
          simp [hb] at hi
          subst hi
          have hj : j = 0 := by have := lt_of_get hy; simp at this; exact this
          subst hj
          simp at hy
          subst hy
          refine ⟨.int .u8 b.toNat, ?_, .int _ _⟩
          simp only [byteCells, Nat.mul_one, Nat.add_zero, List.getElem?_map, hb, Option.map_some]
  · cases hy

end
end Go.Ab
