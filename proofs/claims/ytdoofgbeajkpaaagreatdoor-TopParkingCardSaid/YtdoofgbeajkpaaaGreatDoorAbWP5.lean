/-
  Texts of the layer and of the laws, put together: Ab8s, Ab8e.
-/
import Derived.Test.YtdoofgbeajkpaaaGreatDoorAbWP4
import Derived.Laws.MakeOwn
import Derived.Laws.CopyRow
set_option linter.unusedSimpArgs false
set_option linter.unusedVariables false
set_option maxRecDepth 100000
namespace Go.Ab
open Go.RowKit
variable {A : Actn} {X : Ctx} {E : Env} {s : S} {a : Act}
theorem rel_drop {h : Hp} {us : List Value} {cs : List C1} (hc : CellsRel E h us cs) (k : Nat) : CellsRel E h (us.drop k) (cs.drop k) :=
  ⟨by simp [hc.1], fun j x hj => by
    rw [List.getElem?_drop] at hj
    obtain ⟨v, hv, hr⟩ := hc.2 _ x hj
    exact ⟨v, by rw [List.getElem?_drop]; exact hv, hr⟩⟩
theorem copy_msl (hn : Now X A E s a) {t tx ty e : TypeId} {i : TypeInfo} {ux uy : Value} {ys : List (List D)} {ds : List C1} {news : List Value} {id m : Nat}
    (ht : X.P.underlying t = some (.slice e)) (hi : X.P.info? e = some i) (hz0 : 0 < i.size)
    (hid : s.h[id]? = some (.tok m i.size (some ds))) (hx : (C1.msl id m).rel E s.h ux) (hys : ∀ r ∈ ys, r.length = i.size)
    (hnews : News X.P E i.size tx uy ys news) (hle : ys.length ≤ m) :
    ∃ E', (Builtin.copy_ #[t, tx] ty #[ux, uy]).run X.P E.w = .ok (goInt ys.length) E'.w ∧ Evo s.h.length E s.h E' (s.h.set id (.tok m i.size (some (ys.flatten.map .d ++ ds.drop (ys.length * i.size))))) ∧
      EnvOk A E' (s.h.set id (.tok m i.size (some (ys.flatten.map .d ++ ds.drop (ys.length * i.size))))) := by
  have hidl := lt_of_get hid
  obtain ⟨_, m', z', c', hid', _, ho⟩ := hx
  rw [hid] at hid'
  cases hid'
  have ho := ho rfl
  have hob := hn.rel.env.ob id _ hid
  have hnl : news.length = ys.length * i.size := hnews.src.newsLen
  obtain ⟨hfl, hfr⟩ := news_flat hys hz0 hnl hnews.rd
  have hcn : CellsRel E s.h news (ys.flatten.map .d) := cells_d hfl.symm hfr
  have hat : (s.h.set id (.tok m i.size (some (ys.flatten.map .d ++ ds.drop (ys.length * i.size)))))[id]? = some (.tok m i.size (some (ys.flatten.map .d ++ ds.drop (ys.length * i.size)))) := by simp [hidl]
  have hlen : ∀ w' : World, (Builtin.lenOf uy).run X.P w' = .ok ys.length w' := hnews.src.len
  have hcells := hnews.src.cells
  have hmin : Nat.min ys.length m = ys.length := Nat.min_eq_left hle
  unfold OwnRow at ho
  cases hρ : E.ρ id with
  | none =>
    simp only [hρ] at ho
    obtain ⟨⟨base, rfl⟩, rfl⟩ := ho
    have hys0 : ys = [] := List.eq_nil_of_length_eq_zero (by omega)
    subst hys0
    have hn0 : news = [] := List.eq_nil_of_length_eq_zero (by simpa using hnl)
    subst hn0
    simp only [List.length_nil] at hlen hcells
    have hrun : (Builtin.copy_ #[t, tx] ty #[.slice base 0 0, uy]).run X.P E.w = .ok (goInt 0) E.w := by
      cases base <;> simp [Builtin.copy_, run_underlying ht, sizeOf, typeInfo, hi, hlen, hcells, storeCells]
    have hset : s.h.set id (.tok 0 i.size (some (([] : List (List D)).flatten.map .d ++ ds.drop (([] : List (List D)).length * i.size)))) = s.h := by
      have e1 : Ob.tok 0 i.size (some (([] : List (List D)).flatten.map .d ++ ds.drop (([] : List (List D)).length * i.size))) = s.h[id] := by
        rw [List.getElem?_eq_getElem hidl] at hid
        simpa using (Option.some.inj hid).symm
      rw [e1]
      exact List.set_getElem_self hidl
    rw [hset]
    exact ⟨E, hrun, Evo.refl (Nat.le_refl _), hn.rel.env⟩
  | some b =>
    simp only [hρ] at ho
    obtain ⟨cap, vs, T, rfl, hnc, hcm, hb, hvs⟩ := ho
    have hb2 : CellsRel E s.h (vs.toList.take (m * i.size)) ds ∧ ∀ o, ¬ E.F b o := by
      rcases hob with ⟨_, ⟨h3, _⟩ | ⟨b', vs', T', h3, hb', _, h5, h6⟩⟩
      · rw [hρ] at h3; cases h3
      rw [hρ] at h3
      cases h3
      rw [hb] at hb'
      cases hb'
      exact ⟨h5, h6⟩
    obtain ⟨hco, hnf⟩ := hb2
    have hmz : m * i.size ≤ vs.size := by rw [hvs]; exact Nat.mul_le_mul_right _ hnc
    have hyz : ys.length * i.size ≤ m * i.size := Nat.mul_le_mul_right _ hle
    have hst := run_storeCells_at X.P b 0 T news 0 vs E.w hb (by omega) hnews.src.one
    simp only [Nat.zero_add, List.take_zero, List.nil_append] at hst
    have hrun : (Builtin.copy_ #[t, tx] ty #[.slice (some ⟨b, 0, none⟩) m cap, uy]).run X.P E.w = .ok (goInt ys.length) (E.w.setRow b (news ++ vs.toList.drop news.length).toArray) := by
      simp [Builtin.copy_, run_underlying ht, sizeOf, typeInfo, hi, hlen, hmin, hcells, hst]
    generalize hnew : (news ++ vs.toList.drop news.length).toArray = row at hrun
    have hrs : row.size = vs.size := by
      rw [← hnew]; simp; omega
    have htake : row.toList.take (m * i.size) = news ++ (vs.toList.take (m * i.size)).drop news.length := by
      rw [← hnew, List.toList_toArray, List.take_append, List.take_of_length_le (by omega), List.take_drop, show news.length + (m * i.size - news.length) = m * i.size by omega]
    have hbl : b < E.w.heap.size := (Array.getElem?_eq_some_iff.1 hb).1
    have hheap : (E.w.setRow b row).heap[b]? = some (.cells row T (0, 0)) := setRow_heap _ _ _ _ _ _ hb
    let E' : Env := { E with w := E.w.setRow b row }
    have st : Stp A.G.dr E s.h id E' (s.h.set id (.tok m i.size (some (ys.flatten.map .d ++ ds.drop (ys.length * i.size))))) := {
      os := rfl
      tape := rfl
      output := rfl
      size := by simp [E']
      blk := fun k _ hne => setRow_other _ _ _ _ (fun e => hne ⟨hidl, by rw [hρ, e]⟩)
      idle := Nat.le_of_lt hidl
      len := by simp
      len' := by simp; omega
      ρ := fun _ _ _ => rfl
      hh := fun j _ hji => by rw [List.getElem?_set_ne (Ne.symm hji)]
      F := fun _ _ h => h
      F' := fun c o h => .inl h
      same := fun c o hf => by
        by_cases hcb : c = b
        · subst hcb; exact absurd hf (hnf o)
        exact World.cell?_of_block (setRow_other _ _ _ _ hcb)
      at' := fun c _ hc => by
        have hc' : E.ρ id = some c := hc
        rw [hρ] at hc'
        cases hc'
        exact ⟨by simpa [E'] using hbl, .inr ⟨hidl, hρ⟩⟩
      keep := fun o ho => by
        rw [hid] at ho
        cases ho
        exact ⟨m, _, hat, Nat.le_refl _, fun _ => ⟨rfl, fun b2 vs2 T2 h2 h3 => by
          rw [hρ] at h2
          cases h2
          rw [hb] at h3
          cases h3
          exact ⟨row, T, hheap, hrs⟩⟩⟩ }
    have ev := st.evo hn.rel.env
    refine ⟨E', hrun, ev, st.ok hn.rel.env fun o ho => ?_⟩
    rw [hat] at ho
    cases ho
    refine ⟨hz0, .inr ⟨b, row, T, hρ, hheap, ?_, ?_, fun o hf => hnf o hf⟩⟩
    · rw [hrs]; exact hmz
    rw [htake]
    have := rel_drop hco (ys.length * i.size)
    rw [hnl]
    exact (cells_append hcn this).evo ev (Nat.le_refl _)
theorem rep_len (l : List D) : ∀ n, (rep n l).length = n * l.length
  | 0 => by simp [rep]
  | n + 1 => by simp [rep, rep_len l n, Nat.add_mul, Nat.add_comm]
theorem rep_get (l : List D) (hl : 0 < l.length) : ∀ (n j : Nat), j < n * l.length → (rep n l)[j]? = l[j % l.length]?
  | 0, j, h => by simp at h
  | n + 1, j, h => by
    unfold rep
    by_cases hj : j < l.length
    · rw [List.getElem?_append_left hj, Nat.mod_eq_of_lt hj]
    rw [List.getElem?_append_right (by omega), rep_get l hl n (j - l.length) (by rw [Nat.add_mul] at h; omega)]
    congr 1
    rw [Nat.mod_eq_sub_mod (by omega : l.length ≤ j)]
theorem make_sim (hn : Now X A E s a) {o : Oper} {K : Act → World → Prop} {Q : Exit → Act → World → Prop} {t : TypeId} {kl kc : IntKind} {l c : Int} {v : AV} {h' : Hp}
    (hm : X.makeA s.h t l c = some (v, h')) (hex : ∀ u w', (Instr.makeSlice t (.int kl l) (.int kc c)).run X.P E.w = .ok u w' → (execOp a.eval o).run X.P E.w = .ok (.value u) w')
    (hd : Done A E s.h o a K Q (.val v h')) : o.wp X.P a E.w K Q := by
  unfold Ctx.makeA mkD at hm
  split at hm
  · rename_i e ht
    cases ha : X.apz e with
    | none => simp [ha, mkZ] at hm
    | some zb =>
      obtain ⟨z, b⟩ := zb
      cases hzr : X.zero e with
      | none => simp [ha, hzr, mkZ] at hm
      | some zr =>
        cases hzc : zr.cs with
        | none => simp [ha, hzr, hzc, mkZ] at hm
        | some zc =>
          cases hzd : allD zc with
          | none => simp [ha, hzr, hzc, hzd, mkZ] at hm
          | some zd =>
            simp only [ha, hzr, hzc, hzd, Option.bind_some, mkZ] at hm
            split at hm
            · rename_i hcond
              obtain ⟨h0, hlc, hzl, hby, hcb⟩ := hcond
              cases hm
              obtain ⟨i, hi, hz0, rfl, rfl⟩ : ∃ i, X.P.info? e = some i ∧ 0 < i.size ∧ z = i.size ∧ b = i.bytes := by
                unfold Ctx.apz at ha
                cases hi : X.P.info? e with
                | none => simp [hi] at ha
                | some i =>
                  cases hz : i.zero with
                  | none => simp [hi, hz] at ha
                  | some zv =>
                    simp only [hi, hz, Option.bind_some] at ha
                    split at ha
                    · rename_i h2
                      cases ha
                      exact ⟨i, rfl, h2.2, rfl, rfl⟩
                    cases ha
              obtain ⟨i', zv, hi', hzv, rfl⟩ := zero_inv hzr
              rw [hi] at hi'
              cases hi'
              have hcr := cs_rel (litV_rel E s.h zv) hzc
              obtain ⟨hzdl, hzdr⟩ := allD_rel zc zd zv.cells.toList hcr hzd
              have hzvl : zv.cells.size = i.size := by rw [← hzl]; simpa using hzdl.symm
              have hrun := run_make (P := X.P) E.w t e i zv ht hi hzv kl kc l c h0 hlc hby (by omega)
              generalize hrow : madeCells zv.cells (c.toNat * i.size) = row at hrun
              have hrs : row.size = c.toNat * i.size := by rw [← hrow, size_madeCells]
              have st := Stp.new hn.rel.env (.cells row e) (.tok l.toNat i.size (some ((rep l.toNat zd).map .d)))
              have ev := st.evo hn.rel.env
              have hln : l.toNat * i.size ≤ c.toNat * i.size := Nat.mul_le_mul_right _ (by omega)
              have hc0 : CellsRel E s.h (row.toList.take (l.toNat * i.size)) ((rep l.toNat zd).map .d) := by
                refine cells_d (by rw [List.length_take, rep_len, hzl, Array.length_toList, hrs]; omega) fun k y hk => ?_
                have hkl := lt_of_get hk
                rw [rep_len, hzl] at hkl
                rw [rep_get zd (by omega) _ _ (by rw [hzl]; exact hkl), hzl] at hk
                obtain ⟨u, hu, hru⟩ := hzdr _ _ hk
                refine ⟨u, ?_, hru⟩
                rw [List.getElem?_take, if_pos hkl, ← hrow]
                simp only [madeCells, Array.toList_map, Array.toList_range, List.getElem?_map]
                rw [List.getElem?_range (by omega), Option.map_some, hzvl]
                have : zv.cells[k % i.size]? = some u := by simpa using hu
                rw [getElem!_def, this]
              refine wp_of_val' (hex _ _ hrun) (hd _ _ ev (st.ok hn.rel.env fun o ho => ?_) ?_)
              · simp at ho
                subst ho
                refine ⟨hz0, .inr ⟨E.w.heap.size, row, e, by simp [Env.newOb], heap_alloc_new _ _, by rw [hrs]; exact hln, hc0.evo ev (Nat.le_refl _), fun o hf => ?_⟩⟩
                have := hn.rel.env.lt _ _ hf
                omega
              refine ⟨rfl, l.toNat, i.size, some ((rep l.toNat zd).map .d), by simp, Nat.le_refl _, fun _ => ?_⟩
              unfold OwnRow
              simp only [Env.newOb, if_true]
              exact ⟨c.toNat, row, e, rfl, by omega, by unfold maxLen; omega, heap_alloc_new _ _, hrs⟩
            cases hm
  cases hm
theorem buildM_sim (hn : Now X A E s a) {o : Oper} {K : Act → World → Prop} {Q : Exit → Act → World → Prop} {t : TypeId} {n : Nat} {pa : List (Nat × AV)} {pv : Array (Nat × Value)} {v : AV} {h' : Hp} (hl : pa.length = pv.size)
    (hp : ∀ (j : Nat) (x : Nat × AV) (y : Nat × Value), pa[j]? = some x → pv.toList[j]? = some y → x.1 = y.1 ∧ x.2.rel E s.h y.2) (hb : X.buildMA s.h t n pa = some (v, h'))
    (hex : ∀ u w', (Instr.buildSlice t n pv).run X.P E.w = .ok u w' → (execOp a.eval o).run X.P E.w = .ok (.value u) w') (hd : Done A E s.h o a K Q (.val v h')) : o.wp X.P a E.w K Q := by
  unfold Ctx.buildMA at hb
  cases hu : X.P.underlying t with
  | none => simp [hu] at hb
  | some dt =>
    simp only [hu, Option.bind_some] at hb
    cases dt <;> try (cases hb; done)
    rename_i e
    simp only at hb
    cases hz : X.size e with
    | none => simp [hz] at hb
    | some z =>
      cases hzr : X.zero e with
      | none => simp [hz, hzr] at hb
      | some zr =>
        cases hzc : zr.cs with
        | none => simp [hz, hzr, hzc] at hb
        | some zc =>
          simp only [hz, hzr, hzc, Option.bind_some] at hb
          split at hb
          · rename_i hcond
            obtain ⟨hzl, hz0, hn0, hsm⟩ := hcond
            cases hf : fillA (fun i => some (i * z, z)) ((List.range (n * z)).map fun j => zc.getD (j % z) .top) pa with
            | none => rw [hf] at hb; cases hb
            | some cs =>
              rw [hf, Option.map_some, Option.some.injEq, Prod.mk.injEq] at hb
              obtain ⟨rfl, rfl⟩ := hb
              obtain ⟨i, zv, hi, hzv, rfl⟩ := zero_inv hzr
              have hsz : i.size = z := by simpa [Ctx.size, hi] using hz
              subst hsz
              have hcr := cs_rel (litV_rel E s.h zv) hzc
              have hzvl : zv.cells.size = i.size := by have := hcr.1; simp at this; omega
              have hc0 : CellsRel E s.h ((Array.range (n * i.size)).map (zv.cells[· % zv.cells.size]!)).toList ((List.range (n * i.size)).map fun j => zc.getD (j % i.size) .top) := by
                refine ⟨by simp, fun j x hj => ?_⟩
                rw [List.getElem?_map] at hj
                cases hjr : (List.range (n * i.size))[j]? with
                | none => simp [hjr] at hj
                | some k =>
                  have hk : j = k ∧ j < n * i.size := by
                    have := lt_of_get hjr
                    simp at this
                    rw [List.getElem?_range this] at hjr
                    exact ⟨by simpa using hjr, this⟩
                  obtain ⟨rfl, hjn⟩ := hk
                  simp [hjr] at hj
                  have hlt : j % i.size < zc.length := by rw [hzl]; exact Nat.mod_lt _ hz0
                  rw [List.getElem?_eq_getElem hlt] at hj
                  simp at hj
                  subst hj
                  obtain ⟨u, hu', hru⟩ := hcr.2 (j % i.size) _ (List.getElem?_eq_getElem hlt)
                  refine ⟨u, ?_, hru⟩
                  simp only [Array.toList_map, Array.toList_range, List.getElem?_map, hjr, Option.map_some, hzvl]
                  have : zv.cells[j % i.size]? = some u := by simpa using hu'
                  rw [getElem!_def, this]
              obtain ⟨rv, hrv, hrr⟩ := fill_sim (E := E) (h := s.h) pa pv.toList _ cs _ (by simpa using hl) hp hc0 hf
              have hrvs : rv.size = n * i.size := by
                have h1 := (buildSlice_sim.fill_len (fun i_1 => some (i_1 * i.size, i.size)) pv.toList _ rv hrv)
                simpa using h1
              have hpos : 0 < n * i.size := Nat.mul_pos hn0 hz0
              have hnn : n ≤ n * i.size := Nat.le_mul_of_pos_right n hz0
              have hrun := run_buildSlice (P := X.P) E.w t e n pv rv i zv hu hi hzv (by omega) (by omega) hrv
              have st := Stp.new hn.rel.env (.cells rv e) (.tok n i.size (some cs))
              have ev := st.evo hn.rel.env
              refine wp_of_val' (hex _ _ hrun) (hd _ _ ev (st.ok hn.rel.env fun o ho => ?_) ?_)
              · simp at ho
                subst ho
                refine ⟨hz0, .inr ⟨E.w.heap.size, rv, e, by simp [Env.newOb], heap_alloc_new _ _, by rw [hrvs]; exact Nat.le_refl _, ?_, fun o hf => ?_⟩⟩
                · rw [List.take_of_length_le (by rw [Array.length_toList, hrvs]; exact Nat.le_refl _)]
                  exact hrr.evo ev (Nat.le_refl _)
                have := hn.rel.env.lt _ _ hf
                omega
              refine ⟨rfl, n, i.size, some cs, by simp, Nat.le_refl _, fun _ => ?_⟩
              unfold OwnRow
              simp only [Env.newOb, if_true]
              exact ⟨n, rv, e, rfl, Nat.le_refl _, by unfold maxLen; omega, heap_alloc_new _ _, hrvs⟩
          cases hb
theorem copy_sim (hn : Now X A E s a) {o : Oper} {K : Act → World → Prop} {Q : Exit → Act → World → Prop} {t tx ty : TypeId} {x y v : AV} {ux uy : Value} {h' : Hp} (hx : x.rel E s.h ux) (hy : y.rel E s.h uy)
    (htx' : ∀ l, y = .d (.str l) → X.P.underlying tx = some .string) (htx'' : (∀ l, y ≠ .d (.str l)) → ∃ e', X.P.underlying tx = some (.slice e'))
    (hap : X.copyA s.h t x y = some (v, h')) (hex : ∀ u w', (Builtin.copy_ #[t, tx] ty #[ux, uy]).run X.P E.w = .ok u w' → (execOp a.eval o).run X.P E.w = .ok (.value u) w')
    (hd : Done A E s.h o a K Q (.val v h')) : o.wp X.P a E.w K Q := by
  unfold Ctx.copyA cpD at hap
  split at hap
  · rename_i e ht
    split at hap
    · rename_i id n cy
      unfold cpO at hap
      split at hap
      · rename_i m z ds hid
        cases hsz : X.size e with
        | none => simp [hsz] at hap
        | some z' =>
          cases hs : cy.source with
          | none => simp [hsz, hs] at hap
          | some es =>
            simp only [hsz, hs, Option.bind_some] at hap
            split at hap
            · rename_i hcond
              obtain ⟨rfl, rfl, hz0, hall, hle⟩ := hcond
              cases hap
              obtain ⟨i, hi, rfl⟩ : ∃ i, X.P.info? e = some i ∧ z' = i.size := by
                unfold Ctx.size at hsz
                cases hi : X.P.info? e with
                | none => simp [hi] at hsz
                | some i => simp [hi] at hsz; exact ⟨i, rfl, hsz.symm⟩
              obtain ⟨news, hnews⟩ := news_of (X := X) (tx := tx) hy hs hall hz0 (fun l h => htx' l (by rw [h])) (fun h => htx'' (fun l h2 => h l (by cases h2; rfl)))
              obtain ⟨E', hrun, ev, hok⟩ := copy_msl (ty := ty) hn ht hi hz0 hid hx hall hnews hle
              exact wp_of_val' (hex _ _ hrun) (hd _ _ ev hok (by exact .int _ _))
            cases hap
      cases hap
    cases hap
  cases hap
theorem msC_sim {t e : TypeId} {id m o n z b cap : Nat} {lo hi : Option Value} {l u : Option Int} {c : C1} (ht : X.P.underlying t = some (.slice e)) (hz : X.size e = some z) (h1 : BoundRel lo l) (h2 : BoundRel hi u)
    (hcap : n ≤ cap) (h : msC id m o n z l u = some c) :
    ∃ k q, (Instr.sliceAt t (.slice (some ⟨b, o, none⟩) n cap) lo hi none).run X.P E.w = .ok (.slice (some ⟨b, o + k * z, none⟩) q (cap - k)) E.w ∧ c = .mso id m (o + k * z) q ∧ k + q ≤ n := by
  unfold msC at h
  split at h
  · rename_i hc
    obtain ⟨hl, hlu, hun⟩ := hc
    cases h
    have hb0 : (Instr.sliceBounds true n cap lo hi none).run X.P E.w = .ok ((l.getD 0).toNat, (u.getD n).toNat, ((none : Option Int).getD cap).toNat) E.w :=
      sliceBounds_run (m := none) h1 h2 trivial hl (by omega) (by cases u <;> simp_all <;> omega) (by simp) (by simp)
    refine ⟨(l.getD 0).toNat, (u.getD n).toNat - (l.getD 0).toNat, ?_, rfl, by omega⟩
    have hne : ¬ cap = (l.getD 0).toNat := by omega
    simp [Instr.sliceAt, Instr.slice, run_underlying ht, hb0, run_sizeOf (size_info hz), Addr.add_zero_none, hne]
  cases h
theorem msD_sim {t : TypeId} {id m o n b cap : Nat} {lo hi : Option Value} {l u : Option Int} {c : C1} (h1 : BoundRel lo l) (h2 : BoundRel hi u) (hcap : n ≤ cap)
    (ho : ∀ z c', s.h[id]? = some (.tok m z c') → E.ρ id = some b ∧ o + n * z ≤ m * z) (h : msD X s.h id m o n l u (X.P.underlying t) = some c) :
    ∃ v, (Instr.sliceAt t (.slice (some ⟨b, o, none⟩) n cap) lo hi none).run X.P E.w = .ok v E.w ∧ c.rel E s.h v := by
  unfold msD at h
  split at h
  · rename_i e hu
    unfold msP at h
    split at h
    · rename_i z' m' z ds hz hid
      split at h
      · rename_i hc
        obtain ⟨rfl, rfl⟩ := hc
        obtain ⟨k, q, hrun, rfl, hkq⟩ := msC_sim (b := b) hu hz h1 h2 hcap h
        obtain ⟨hρ, hle⟩ := ho _ _ hid
        refine ⟨_, hrun, b, _, rfl, by omega, _, _, _, hid, Nat.le_refl _, fun _ => ⟨hρ, ?_⟩⟩
        have : (k + q) * z' ≤ n * z' := Nat.mul_le_mul_right _ hkq
        rw [Nat.add_mul] at this
        omega
      cases h
    cases h
  cases h
theorem sliceU_sim {t : TypeId} {x : AV} {ux : Value} {lo hi mx : Option Value} {l u m : Option Int} {c : C1} (hx : x.rel E s.h ux) (h1 : BoundRel lo l) (h2 : BoundRel hi u) (h3 : BoundRel mx m)
    (hs : X.sliceU s.h t x l u m = some c) : ∃ v, (Instr.sliceAt t ux lo hi mx).run X.P E.w = .ok v E.w ∧ c.rel E s.h v := by
  unfold Ctx.sliceU at hs
  split at hs
  · rename_i id n
    have hmx : mx = none := by cases mx <;> simp_all [BoundRel]
    subst hmx
    obtain ⟨_, m', z', c', hid', hle, ho⟩ := hx
    have hnm : n = m' ∧ 0 < n := by
      have hs' := hs
      unfold msD at hs'
      split at hs'
      · unfold msP at hs'
        split at hs'
        · rename_i h5
          split at hs'
          · rename_i hc
            rw [hid'] at h5
            cases h5
            unfold msC at hs'
            split at hs'
            · rename_i hd; exact ⟨hc.1, by omega⟩
            cases hs'
          cases hs'
        cases hs'
      cases hs'
    obtain ⟨hnm, hn0⟩ := hnm
    have ho := ho hnm
    subst hnm
    unfold OwnRow at ho
    cases hρ : E.ρ id with
    | none => rw [hρ] at ho; obtain ⟨_, h0⟩ := ho; omega
    | some b =>
      rw [hρ] at ho
      obtain ⟨cap, vs, T, rfl, hnc, _⟩ := ho
      exact msD_sim h1 h2 hnc (fun z c' hid => ⟨hρ, by omega⟩) hs
  · rename_i id k o n
    have hmx : mx = none := by cases mx <;> simp_all [BoundRel]
    subst hmx
    obtain ⟨b, cap, rfl, hcap, m', z', c', hid', hle, ho⟩ := hx
    refine msD_sim h1 h2 hcap (fun z c2 hid => ?_) hs
    rw [hid'] at hid
    cases hid
    exact ho rfl
  simp only [Option.map_eq_some_iff] at hs
  obtain ⟨d, hd, rfl⟩ := hs
  obtain ⟨v, hv, hr⟩ := slice_sim hx h1 h2 h3 hd
  exact ⟨v, hv, hr⟩
theorem repC_len (l : List C1) : ∀ n, (repC n l).length = n * l.length
  | 0 => by simp [repC]
  | n + 1 => by simp [repC, repC_len l n, Nat.add_mul, Nat.add_comm]
theorem repC_get (l : List C1) (hl : 0 < l.length) : ∀ (n j : Nat), j < n * l.length → (repC n l)[j]? = l[j % l.length]?
  | 0, j, h => by simp at h
  | n + 1, j, h => by
    rw [repC, List.getElem?_append]
    split
    · rename_i hj
      rw [Nat.mod_eq_of_lt hj]
    rename_i hj
    rw [Nat.add_mul, Nat.one_mul] at h
    rw [repC_get l hl n _ (by omega)]
    congr 1
    conv => rhs; rw [show j = j - l.length + l.length by omega, Nat.add_mod_right]
theorem take_mid {α : Type} (l news : List α) {M o : Nat} (h1 : o + news.length ≤ M) (h2 : M ≤ l.length) : (l.take o ++ news ++ l.drop (o + news.length)).take M = (l.take M).take o ++ news ++ (l.take M).drop (o + news.length) := by
  rw [List.take_append, List.take_of_length_le (by simp; omega), List.take_take, Nat.min_eq_left (by omega), List.drop_take]
  congr 2
  simp; omega
theorem clear_sim (hn : Now X A E s a) {t ty : TypeId} {x : AV} {ux : Value} {h' : Hp} (hx : x.rel E s.h ux) (h : X.clearA s.h t x = some h') :
    ∃ E', (Builtin.clear_ #[t] ty #[ux]).run X.P E.w = .ok (.tuple #[]) E'.w ∧ Evo s.h.length E s.h E' h' ∧ EnvOk A E' h' := by
  unfold Ctx.clearA at h
  split at h
  · rename_i id m o n
    unfold clD at h
    split at h
    · rename_i e hu
      unfold clO at h
      split at h
      · rename_i z' zc m' z ds hz hzc hid
        split at h
        · rename_i hc
          obtain ⟨rfl, rfl, hzl, hn0, hle⟩ := hc
          cases h
          obtain ⟨b, cap, rfl, hcap, m2, z2, c2, hid2, _, ho⟩ := hx
          rw [hid] at hid2
          cases hid2
          obtain ⟨hρ, homz⟩ := ho rfl
          have hidl := lt_of_get hid
          have hob := hn.rel.env.ob id _ hid
          obtain ⟨hz0, h3 | ⟨b', vs, T, h3, hb, hmz, hco, hnf⟩⟩ := hob
          · rw [hρ] at h3; cases h3.1
          rw [hρ] at h3
          cases h3
          simp only [Option.bind_eq_some_iff] at hzc
          obtain ⟨zr, hzr, hzcs⟩ := hzc
          obtain ⟨i, v0, hi, hiz, rfl⟩ := zero_inv hzr
          have hzv : ∀ w, (zeroValue e).run X.P w = .ok v0 w := fun w => by simp [zeroValue, typeInfo, hi, hiz]
          have hcz : CellsRel E s.h v0.cells.toList zc := cs_rel (litV_rel E s.h v0) hzcs
          have hzsz : v0.cells.size = z' := by have := hcz.1; simp at this; omega
          generalize hnews : (Builtin.zeroCells v0.cells n).toList = news
          have hnl : news.length = n * z' := by rw [← hnews]; simp [Builtin.zeroCells, hzsz]
          have hrel : CellsRel E s.h news (repC n zc) := by
            refine ⟨by rw [hnl, repC_len, hzl], fun j x hj => ?_⟩
            have hjl : j < n * z' := by have := lt_of_get hj; rw [repC_len, hzl] at this; exact this
            rw [repC_get zc (by omega) n j (by rw [hzl]; exact hjl), hzl] at hj
            obtain ⟨u, hu1, hu2⟩ := hcz.2 _ x hj
            refine ⟨u, ?_, hu2⟩
            rw [← hnews]
            have hml : j % z' < v0.cells.size := by rw [hzsz]; exact Nat.mod_lt _ hz0
            simp only [Builtin.zeroCells, hzsz]
            rw [Array.toList_map, List.getElem?_map, Array.getElem?_toList, Array.getElem?_range, if_pos hjl]
            simp only [Option.map_some, Option.some.injEq]
            rw [getElem!_pos v0.cells (j % z') hml]
            have hu1' : v0.cells[j % z']? = some u := by simpa using hu1
            rw [Array.getElem?_eq_getElem hml] at hu1'
            exact Option.some.inj hu1'
          have hdl : ds.length = m * z' := by have := hco.1; simp at this; omega
          have hst := run_storeCells_at X.P b o T news 0 vs E.w hb (by omega) (cells_one hrel)
          simp only [Nat.add_zero] at hst
          have hrun : (Builtin.clear_ #[t] ty #[.slice (some ⟨b, o, none⟩) n cap]).run X.P E.w = .ok (.tuple #[]) (E.w.setRow b (vs.toList.take o ++ news ++ vs.toList.drop (o + news.length)).toArray) := by
            obtain ⟨n', rfl⟩ : ∃ n', n = n' + 1 := ⟨n - 1, by omega⟩
            simp [Builtin.clear_, run_underlying hu, hzv, hnews, hst]
          generalize hnew : (vs.toList.take o ++ news ++ vs.toList.drop (o + news.length)).toArray = row at hrun
          have hrs : row.size = vs.size := by
            rw [← hnew]; simp; omega
          have htake : row.toList.take (m * z') = (vs.toList.take (m * z')).take o ++ news ++ (vs.toList.take (m * z')).drop (o + news.length) := by
            rw [← hnew, List.toList_toArray]
            exact take_mid _ _ (by omega) (by simpa using hmz)
          have hbl : b < E.w.heap.size := (Array.getElem?_eq_some_iff.1 hb).1
          have hheap : (E.w.setRow b row).heap[b]? = some (.cells row T (0, 0)) := setRow_heap _ _ _ _ _ _ hb
          have hat : (s.h.set id (.tok m z' (some (setAt ds o (repC n zc)))))[id]? = some (.tok m z' (some (setAt ds o (repC n zc)))) := by simp [hidl]
          let E' : Env := { E with w := E.w.setRow b row }
          have st : Stp A.G.dr E s.h id E' (s.h.set id (.tok m z' (some (setAt ds o (repC n zc))))) := {
            os := rfl
            tape := rfl
            output := rfl
            size := by simp [E']
            blk := fun k _ hne => setRow_other _ _ _ _ (fun e => hne ⟨hidl, by rw [hρ, e]⟩)
            idle := Nat.le_of_lt hidl
            len := by simp
            len' := by simp; omega
            ρ := fun _ _ _ => rfl
            hh := fun j _ hji => by rw [List.getElem?_set_ne (Ne.symm hji)]
            F := fun _ _ h => h
            F' := fun c o h => .inl h
            same := fun c o hf => by
              by_cases hcb : c = b
              · subst hcb; exact absurd hf (hnf o)
              exact World.cell?_of_block (setRow_other _ _ _ _ hcb)
            at' := fun c _ hc => by
              have hc' : E.ρ id = some c := hc
              rw [hρ] at hc'
              cases hc'
              exact ⟨by simpa [E'] using hbl, .inr ⟨hidl, hρ⟩⟩
            keep := fun o ho => by
              rw [hid] at ho
              cases ho
              exact ⟨m, _, hat, Nat.le_refl _, fun _ => ⟨rfl, fun b2 vs2 T2 h2 h3 => by
                rw [hρ] at h2
                cases h2
                rw [hb] at h3
                cases h3
                exact ⟨row, T, hheap, hrs⟩⟩⟩ }
          have ev := st.evo hn.rel.env
          refine ⟨E', hrun, ev, st.ok hn.rel.env fun o' ho' => ?_⟩
          rw [hat] at ho'
          cases ho'
          refine ⟨hz0, .inr ⟨b, row, T, hρ, hheap, ?_, ?_, fun o hf => hnf o hf⟩⟩
          · rw [hrs]; exact hmz
          rw [htake]
          have := setAt_rel hco hrel (off := o) (by rw [repC_len, hzl]; exact hle)
          rw [hnl] at *
          exact this.evo ev (Nat.le_refl _)
        cases h
      cases h
    cases h
  cases h
end Go.Ab
namespace Go.Ab
open Go.RowKit
theorem eqOp_sim {P : Program} {w : World} {F : Fz} {op : BinOp} {t : TypeId} {v u : Value} {b : Bool} {d : D} (h : eqOp op b = some d) (hv : ∀ k n, v ≠ .int k n) (hv2 : ∀ s, v ≠ .string s) (hv3 : ∀ k n, v ≠ .float k n) (hv4 : ∀ k a b, v ≠ .complex k a b)
    (he : (Op.equalIn 10000 t v u).run P w = .ok b w) : ∃ x, (binOp op t v u).run P w = .ok x w ∧ Rd w F x d := by
  have he' : (Op.equal t v u).run P w = .ok b w := he
  cases op <;> simp only [eqOp, Option.some.injEq, reduceCtorEq] at h
  · subst h
    refine ⟨.bool b, ?_, .bool _⟩
    have : binOp .eql t v u = (do pure (.bool (← Op.equal t v u))) := by
      cases v <;> first | rfl | exact absurd rfl (hv _ _) | exact absurd rfl (hv2 _) | exact absurd rfl (hv3 _ _) | exact absurd rfl (hv4 _ _ _)
    rw [this]
    simp [he']
  subst h
  refine ⟨.bool (!b), ?_, .bool _⟩
  have : binOp .neq t v u = (do pure (.bool (!(← Op.equal t v u)))) := by
    cases v <;> first | rfl | exact absurd rfl (hv _ _) | exact absurd rfl (hv2 _) | exact absurd rfl (hv3 _ _) | exact absurd rfl (hv4 _ _ _)
  rw [this]
  simp [he']
theorem rowRel_of {E : Env} {h : Hp} {vs : List Value} {xs : List C1} {dx : List D} (hc : CellsRel E h vs xs) (hd : allD xs = some dx) : RowRel E.w E.F vs dx := by
  obtain ⟨hl, hr⟩ := allD_rel xs dx vs hc hd
  exact ⟨hl.symm, hr⟩
theorem eqAgg_sim {X : Ctx} {E : Env} {h : Hp} {op : BinOp} {t : TypeId} {x y : Operand} {xs ys : List C1} {v u : Value} {d : D} (hx : (AV.v (.agg xs)).rel E h v) (hy : (AV.v (.agg ys)).rel E h u) (he : X.eqAgg op t xs ys = some d) :
    ∃ r, (do eqGuard op t x y v u; binOp op t v u : Sem Value).run X.P E.w = .ok r E.w ∧ Rd E.w E.F r d := by
  obtain ⟨vs, rfl, hvs⟩ := hx
  obtain ⟨us, rfl, hus⟩ := hy
  unfold Ctx.eqAgg eqAgg0 at he
  split at he
  · rename_i l dx dy hag hfl hdx hdy
    split at he
    · rename_i hfit
      obtain ⟨dd, hdd, hrow⟩ := isAgg_inv hag
      unfold Ctx.flat at hfl
      split at hfl
      · cases hfl
      rename_i hg
      have hfs : ∃ fs, X.P.underlying t = some (.struct fs) := by
        unfold flatT at hfl
        split at hfl
        · rename_i hu; rw [hdd] at hu; cases hu; simp [TypeDesc.isRow] at hrow
        · rename_i hu; rw [hdd] at hu; cases hu; simp [TypeDesc.isRow] at hrow
        · rename_i hu; rw [hdd] at hu; cases hu; simp [TypeDesc.isRow] at hrow
        · rename_i fs hu; exact ⟨fs, hu⟩
        cases hfl
      obtain ⟨fs, hfs⟩ := hfs
      have hpv : PackRel X.P t E.w E.F (.agg vs.toArray) dx := by simp only [PackRel, hfs]; exact ⟨vs, rfl, rowRel_of hvs hdx⟩
      have hpu : PackRel X.P t E.w E.F (.agg us.toArray) dy := by simp only [PackRel, hfs]; exact ⟨us, rfl, rowRel_of hus hdy⟩
      have heq := flat_sim (P := X.P) (w := E.w) (F := E.F) 6 t l hfl 10000 (by omega) dx dy _ _ hfit.1 hfit.2 hpv hpu
      obtain ⟨r, hr, hrd⟩ := eqOp_sim (P := X.P) (w := E.w) (F := E.F) (t := t) he (by intros; simp) (by intros; simp) (by intros; simp) (by intros; simp) heq
      refine ⟨r, ?_, hrd⟩
      simp only [Sem.run_bind, run_eqGuard_agg E.w op t x y _ _ (by simpa using hg), Result.andThen_ok, hr]
    cases he
  cases he
theorem guard_nn {P : Program} {w : World} {op : BinOp} {t : TypeId} {x y : Operand} (h0 : (Op.eqGuardIn Op.maxDepth t .nilIface .nilIface).run P w = .ok false w) : (eqGuard op t x y .nilIface .nilIface).run P w = .ok () w := by
  unfold eqGuard
  cases op <;> first | rfl | skip
  all_goals
    cases x <;> cases y <;> first | rfl | (simp only [Bool.false_eq_true, Bool.or_false, Bool.not_true, if_false, Sem.run_bind, Sem.run_pure, Result.andThen_ok, h0]; try rfl)
theorem guard_other {P : Program} {w : World} {op : BinOp} {t : TypeId} {x y : Operand} {a b : Value} (h1 : ¬ (a = .nilIface ∧ b = .nilIface)) (h2 : ∀ xs ys, ¬ (a = .agg xs ∧ b = .agg ys)) : (eqGuard op t x y a b).run P w = .ok () w := by
  unfold eqGuard
  cases op <;> first | rfl | skip
  all_goals
    cases a <;> cases b <;> first | rfl | exact absurd ⟨rfl, rfl⟩ h1 | exact absurd ⟨rfl, rfl⟩ (h2 _ _)
theorem ifcNil_sim {X : Ctx} {w : World} {F : Fz} {op : BinOp} {t : TypeId} {x y : Operand} {v : Value} {b : Bool} {d : D} (hv : (b = false ∧ ∃ tt u, v = .iface tt u) ∨ (b = true ∧ v = .nilIface)) (he : ifcNil op b (X.ifT t) = some d) :
    ∃ r, (do eqGuard op t x y v .nilIface; binOp op t v .nilIface : Sem Value).run X.P w = .ok r w ∧ Rd w F r d := by
  unfold ifcNil at he
  split at he
  · rename_i e0 hif
    obtain ⟨ms, hu, rfl⟩ : ∃ ms, X.P.underlying t = some (.interface ms) ∧ ms.isEmpty = e0 := by
      unfold Ctx.ifT at hif
      cases hu : X.P.underlying t with
      | none => simp [hu] at hif
      | some dd => cases dd <;> simp [hu] at hif; exact ⟨_, rfl, by simpa using hif⟩
    split at he
    · rename_i hb
      have heq0 : ∀ k, (Op.equalIn (k + 1) t v .nilIface).run X.P w = .ok b w := fun k => by
        rcases hv with ⟨rfl, tt, u, rfl⟩ | ⟨rfl, rfl⟩ <;> simp [Op.equalIn, run_underlying hu]
      have heq : (Op.equalIn 10000 t v .nilIface).run X.P w = .ok b w := heq0 9999
      obtain ⟨r, hr, hrd⟩ := eqOp_sim (P := X.P) (w := w) (F := F) (t := t) he (by rcases hv with ⟨_, tt, u, rfl⟩ | ⟨_, rfl⟩ <;> intros <;> simp) (by rcases hv with ⟨_, tt, u, rfl⟩ | ⟨_, rfl⟩ <;> intros <;> simp)
        (by rcases hv with ⟨_, tt, u, rfl⟩ | ⟨_, rfl⟩ <;> intros <;> simp) (by rcases hv with ⟨_, tt, u, rfl⟩ | ⟨_, rfl⟩ <;> intros <;> simp) heq
      refine ⟨r, ?_, hrd⟩
      have hgd : (eqGuard op t x y v .nilIface).run X.P w = .ok () w := by
        rcases hv with ⟨rfl, tt, u, rfl⟩ | ⟨rfl, rfl⟩
        · exact guard_other (by simp) (by simp)
        have hms : ms.isEmpty = true := by simpa using hb
        have h0 : ∀ k, (Op.eqGuardIn (k + 1) t .nilIface .nilIface).run X.P w = .ok false w := fun k => by
          simp [Op.eqGuardIn, run_underlying hu, hms]
        exact guard_nn (h0 9999)
      simp only [Sem.run_bind, hgd, Result.andThen_ok, hr]
    cases he
  cases he
theorem ptrNil_sim {X : Ctx} {w : World} {F : Fz} {op : BinOp} {t : TypeId} {x y : Operand} {p : Option Addr} {d : D} (he : ptrNil op p.isNone (X.ptT t) = some d) :
    ∃ r, (do eqGuard op t x y (.pointer p) (.pointer none); binOp op t (.pointer p) (.pointer none) : Sem Value).run X.P w = .ok r w ∧ Rd w F r d := by
  unfold ptrNil at he
  split at he
  · rename_i e0 hpt
    obtain ⟨e, hu⟩ : ∃ e, X.P.underlying t = some (.pointer e) := by
      unfold Ctx.ptT at hpt
      cases hu : X.P.underlying t with
      | none => simp [hu] at hpt
      | some dd => cases dd <;> simp [hu] at hpt; exact ⟨_, rfl⟩
    have heq0 : ∀ k, (Op.equalIn (k + 1) t (.pointer p) (.pointer none)).run X.P w = .ok p.isNone w := fun k => by
      cases p <;> simp [Op.equalIn, run_underlying hu]
    have heq : (Op.equalIn 10000 t (.pointer p) (.pointer none)).run X.P w = .ok p.isNone w := heq0 9999
    obtain ⟨r, hr, hrd⟩ := eqOp_sim (P := X.P) (w := w) (F := F) (t := t) he (by intros; simp) (by intros; simp) (by intros; simp) (by intros; simp) heq
    refine ⟨r, ?_, hrd⟩
    have hgd : (eqGuard op t x y (.pointer p) (.pointer none)).run X.P w = .ok () w := guard_other (by simp) (by simp)
    simp only [Sem.run_bind, hgd, Result.andThen_ok, hr]
  cases he
theorem nilS_sim {X : Ctx} {E : Env} {h : Hp} {a : Act} {op : BinOp} {t : TypeId} {x y : Operand} {v : AV} {c : C1} (hy : nilY y = true) (hr : v.rel E h (a.eval x)) (hb : nilS op (X.P.underlying t) v = some c) :
    ∃ r, (do eqGuard op t x y (a.eval x) (a.eval y); binOp op t (a.eval x) (a.eval y) : Sem Value).run X.P E.w = .ok r E.w ∧ c.rel E h r := by
  have hye : a.eval y = .slice none 0 0 := by
    unfold nilY at hy
    split at hy
    · rfl
    cases hy
  have key : ∀ (e : TypeId) (f : Bool) (es : List (List D)), X.P.underlying t = some (.slice e) → Rd E.w E.F (a.eval x) (.sl f es) → nilE op es.isEmpty = some c →
      ∃ r, (do eqGuard op t x y (a.eval x) (a.eval y); binOp op t (a.eval x) (a.eval y) : Sem Value).run X.P E.w = .ok r E.w ∧ c.rel E h r := fun e f es hu hrd he => by
    obtain ⟨base, n, cap, hv, hne⟩ : ∃ base n cap, a.eval x = .slice base n cap ∧ (es.isEmpty = false → base.isNone = false) := by
      rcases sl_cases hrd with ⟨base, h1, h2⟩ | ⟨b, o, cap, _, _, h1, _⟩
      · exact ⟨base, 0, 0, h1, fun h => by rw [h2] at h; cases h⟩
      exact ⟨some ⟨b, o, none⟩, _, cap, h1, fun _ => rfl⟩
    rw [hv, hye]
    have heq0 : ∀ k, (Op.equalIn (k + 1) t (.slice base n cap) (.slice none 0 0)).run X.P E.w = .ok base.isNone E.w := fun k => by
      cases base <;> simp [Op.equalIn, run_underlying hu]
    have heq : (Op.equalIn 10000 t (.slice base n cap) (.slice none 0 0)).run X.P E.w = .ok base.isNone E.w := heq0 9999
    have hgd : (eqGuard op t x y (.slice base n cap) (.slice none 0 0)).run X.P E.w = .ok () E.w := guard_other (by simp) (by simp)
    have fin : ∀ d, eqOp op base.isNone = some d → (∀ r, Rd E.w E.F r d → c.rel E h r) → ∃ r, (do eqGuard op t x y (.slice base n cap) (.slice none 0 0); binOp op t (.slice base n cap) (.slice none 0 0) : Sem Value).run X.P E.w = .ok r E.w ∧ c.rel E h r := fun d hd hc => by
      obtain ⟨r, hr, hrd⟩ := eqOp_sim (P := X.P) (w := E.w) (F := E.F) (t := t) hd (by intros; simp) (by intros; simp) (by intros; simp) (by intros; simp) heq
      exact ⟨r, by simp only [Sem.run_bind, hgd, Result.andThen_ok, hr], hc r hrd⟩
    unfold nilE at he
    split at he
    · refine fin _ rfl fun r hr => ?_
      cases hem : es.isEmpty with
      | true =>
        simp only [hem, if_true, Option.some.injEq] at he
        subst he
        cases hr
        exact ⟨_, rfl⟩
      | false =>
        simp only [hem, Bool.false_eq_true, if_false, Option.some.injEq] at he
        subst he
        rw [hne hem] at hr
        exact hr
    · refine fin _ rfl fun r hr => ?_
      cases hem : es.isEmpty with
      | true =>
        simp only [hem, if_true, Option.some.injEq] at he
        subst he
        cases hr
        exact ⟨_, rfl⟩
      | false =>
        simp only [hem, Bool.false_eq_true, if_false, Option.some.injEq] at he
        subst he
        rw [hne hem] at hr
        exact hr
    cases he
  unfold nilS at hb
  split at hb
  · rename_i e f es hu
    exact key e f es hu hr hb
  · rename_i e i es hu
    exact key e false es hu hr.1 hb
  cases hb
end Go.Ab
