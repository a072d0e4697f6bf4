/-
  Texts of the layer and of the laws, put together: Ab8s. No law is stated here.
-/
import Derived.Test.YtfokeholingnjaaDoorAbV6
import Derived.Laws.MakeOwn
import Derived.Laws.CopyRow
set_option linter.unusedSimpArgs false
set_option linter.unusedVariables false
set_option maxRecDepth 100000

/-
  Slices that are made, and copies into them.
-/
namespace Go.Ab
open Go.RowKit
variable {A : Actn} {X : Ctx} {E : Env} {s : S} {a : Act}

theorem rel_drop {h : Hp} {us : List Value} {cs : List C1} (hc : CellsRel E h us cs) (k : Nat) : CellsRel E h (us.drop k) (cs.drop k) :=
  ⟨by simp [hc.1], fun j x hj => by
    rw [List.getElem?_drop] at hj
    obtain ⟨v, hv, hr⟩ := hc.2 _ x hj
    exact ⟨v, by rw [List.getElem?_drop]; exact hv, hr⟩⟩

/-- copy into a slice that can still be written: the source is no longer than it. -/
theorem copy_msl (hn : Now X A E s a) {t tx ty e : TypeId} {i : TypeInfo} {ux uy : Value} {ys : List (List D)} {ds : List D} {news : List Value} {id m : Nat}
    (ht : X.P.underlying t = some (.slice e)) (hi : X.P.info? e = some i) (hz0 : 0 < i.size)
    (hid : s.h[id]? = some (.tok m i.size (some ds))) (hx : (C1.msl id m).rel E s.h ux) (hys : ∀ r ∈ ys, r.length = i.size)
    (hnews : News X.P E i.size tx uy ys news) (hle : ys.length ≤ m) :
    ∃ E', (Builtin.copy_ #[t, tx] ty #[ux, uy]).run X.P E.w = .ok (goInt ys.length) E'.w ∧ Evo s.h.length E s.h E' (s.h.set id (.tok m i.size (some (ys.flatten ++ ds.drop (ys.length * i.size))))) ∧
      EnvOk A E' (s.h.set id (.tok m i.size (some (ys.flatten ++ ds.drop (ys.length * i.size))))) := by
  have hidl := lt_of_get hid
  obtain ⟨_, m', z', c', hid', _, ho⟩ := hx
  rw [hid] at hid'
  cases hid'
  have ho := ho rfl
  have hob := hn.rel.env.ob id _ hid
  have hnl : news.length = ys.length * i.size := hnews.src.newsLen
  obtain ⟨hfl, hfr⟩ := news_flat hys hz0 hnl hnews.rd
  have hcn : CellsRel E s.h news (ys.flatten.map .d) := cells_d hfl.symm hfr
  have hat : (s.h.set id (.tok m i.size (some (ys.flatten ++ ds.drop (ys.length * i.size)))))[id]? = some (.tok m i.size (some (ys.flatten ++ ds.drop (ys.length * i.size)))) := by simp [hidl]
  have hlen : ∀ w' : World, (Builtin.lenOf uy).run X.P w' = .ok ys.length w' := hnews.src.len
  have hcells := hnews.src.cells
  have hmin : Nat.min ys.length m = ys.length := Nat.min_eq_left hle
  unfold OwnRow at ho
  cases hρ : E.ρ id with
  | none =>
    simp only [hρ] at ho
    obtain ⟨⟨base, rfl⟩, rfl⟩ := ho
    have hys0 : ys = [] := List.eq_nil_of_length_eq_zero (by omega)
    subst hys0
    have hn0 : news = [] := List.eq_nil_of_length_eq_zero (by simpa using hnl)
    subst hn0
    simp only [List.length_nil] at hlen hcells
    have hrun : (Builtin.copy_ #[t, tx] ty #[.slice base 0 0, uy]).run X.P E.w = .ok (goInt 0) E.w := by
      cases base <;> simp [Builtin.copy_, run_underlying ht, sizeOf, typeInfo, hi, hlen, hcells, storeCells]
    have hset : s.h.set id (.tok 0 i.size (some (([] : List (List D)).flatten ++ ds.drop (([] : List (List D)).length * i.size)))) = s.h := by
      have e1 : Ob.tok 0 i.size (some (([] : List (List D)).flatten ++ ds.drop (([] : List (List D)).length * i.size))) = s.h[id] := by
        rw [List.getElem?_eq_getElem hidl] at hid
        simpa using (Option.some.inj hid).symm
      rw [e1]
      exact List.set_getElem_self hidl
    rw [hset]
    exact ⟨E, hrun, Evo.refl (Nat.le_refl _), hn.rel.env⟩
  | some b =>
    simp only [hρ] at ho
    obtain ⟨cap, vs, T, rfl, hnc, hcm, hb, hvs⟩ := ho
    have hb2 : CellsRel E s.h (vs.toList.take (m * i.size)) (ds.map .d) ∧ ∀ o, ¬ E.F b o := by
      rcases hob with ⟨_, ⟨h3, _⟩ | ⟨b', vs', T', h3, hb', _, h5, h6⟩⟩
      · rw [hρ] at h3; cases h3
      · rw [hρ] at h3
        cases h3
        rw [hb] at hb'
        cases hb'
        exact ⟨h5, h6⟩
    obtain ⟨hco, hnf⟩ := hb2
    have hmz : m * i.size ≤ vs.size := by rw [hvs]; exact Nat.mul_le_mul_right _ hnc
    have hyz : ys.length * i.size ≤ m * i.size := Nat.mul_le_mul_right _ hle
    have hst := run_storeCells_at X.P b 0 T news 0 vs E.w hb (by omega) hnews.src.one
    simp only [Nat.zero_add, List.take_zero, List.nil_append] at hst
    have hrun : (Builtin.copy_ #[t, tx] ty #[.slice (some ⟨b, 0, none⟩) m cap, uy]).run X.P E.w = .ok (goInt ys.length) (E.w.setRow b (news ++ vs.toList.drop news.length).toArray) := by
      simp [Builtin.copy_, run_underlying ht, sizeOf, typeInfo, hi, hlen, hmin, hcells, hst]
    generalize hnew : (news ++ vs.toList.drop news.length).toArray = row at hrun
    have hrs : row.size = vs.size := by
      rw [← hnew]; simp; omega
    have htake : row.toList.take (m * i.size) = news ++ (vs.toList.take (m * i.size)).drop news.length := by
      rw [← hnew, List.toList_toArray, List.take_append, List.take_of_length_le (by omega), List.take_drop, show news.length + (m * i.size - news.length) = m * i.size by omega]
    have hbl : b < E.w.heap.size := (Array.getElem?_eq_some_iff.1 hb).1
    have hheap : (E.w.setRow b row).heap[b]? = some (.cells row T (0, 0)) := setRow_heap _ _ _ _ _ _ hb
    let E' : Env := { E with w := E.w.setRow b row }
    have st : Stp E s.h id E' (s.h.set id (.tok m i.size (some (ys.flatten ++ ds.drop (ys.length * i.size))))) := {
      os := rfl
      tape := rfl
      output := rfl
      size := by simp [E']
      blk := fun k _ hne => setRow_other _ _ _ _ (fun e => hne ⟨hidl, by rw [hρ, e]⟩)
      idle := Nat.le_of_lt hidl
      len := by simp
      len' := by simp; omega
      ρ := fun _ _ _ => rfl
      hh := fun j _ hji => by rw [List.getElem?_set_ne (Ne.symm hji)]
      F := fun _ _ h => h
      F' := fun c o h => .inl h
      same := fun c o hf => by
        by_cases hcb : c = b
        · subst hcb; exact absurd hf (hnf o)
        · exact World.cell?_of_block (setRow_other _ _ _ _ hcb)
      at' := fun c _ hc => by
        have hc' : E.ρ id = some c := hc
        rw [hρ] at hc'
        cases hc'
        exact ⟨by simpa [E'] using hbl, .inr ⟨hidl, hρ⟩⟩
      keep := fun o ho => by
        rw [hid] at ho
        cases ho
        exact ⟨m, _, hat, Nat.le_refl _, fun _ => ⟨rfl, fun b2 vs2 T2 h2 h3 => by
          rw [hρ] at h2
          cases h2
          rw [hb] at h3
          cases h3
          exact ⟨row, T, hheap, hrs⟩⟩⟩ }
    have ev := st.evo hn.rel.env
    refine ⟨E', hrun, ev, st.ok hn.rel.env fun o ho => ?_⟩
    rw [hat] at ho
    cases ho
    refine ⟨hz0, .inr ⟨b, row, T, hρ, hheap, ?_, ?_, fun o hf => hnf o hf⟩⟩
    · rw [hrs]; exact hmz
    · rw [htake, List.map_append, List.map_drop]
      have := rel_drop hco (ys.length * i.size)
      rw [hnl]
      exact (cells_append hcn this).evo ev (Nat.le_refl _)

theorem rep_len (l : List D) : ∀ n, (rep n l).length = n * l.length
  | 0 => by simp [rep]
  | n + 1 => by simp [rep, rep_len l n, Nat.add_mul, Nat.add_comm]
theorem rep_get (l : List D) (hl : 0 < l.length) : ∀ (n j : Nat), j < n * l.length → (rep n l)[j]? = l[j % l.length]?
  | 0, j, h => by simp at h
  | n + 1, j, h => by
    unfold rep
    by_cases hj : j < l.length
    · rw [List.getElem?_append_left hj, Nat.mod_eq_of_lt hj]
    · rw [List.getElem?_append_right (by omega), rep_get l hl n (j - l.length) (by rw [Nat.add_mul] at h; omega)]
      congr 1
      rw [Nat.mod_eq_sub_mod (by omega : l.length ≤ j)]

theorem make_sim (hn : Now X A E s a) {o : Oper} {K : Act → World → Prop} {Q : Exit → Act → World → Prop} {t : TypeId} {kl kc : IntKind} {l c : Int} {v : AV} {h' : Hp}
    (hm : X.makeA s.h t l c = some (v, h')) (hex : ∀ u w', (Instr.makeSlice t (.int kl l) (.int kc c)).run X.P E.w = .ok u w' → (execOp a.eval o).run X.P E.w = .ok (.value u) w')
    (hd : Done A E s.h o a K Q (.val v h')) : o.wp X.P a E.w K Q := by
  unfold Ctx.makeA mkD at hm
  split at hm
  · rename_i e ht
    cases ha : X.apz e with
    | none => simp [ha, mkZ] at hm
    | some zb =>
      obtain ⟨z, b⟩ := zb
      cases hzr : X.zero e with
      | none => simp [ha, hzr, mkZ] at hm
      | some zr =>
        cases hzc : zr.cs with
        | none => simp [ha, hzr, hzc, mkZ] at hm
        | some zc =>
          cases hzd : allD zc with
          | none => simp [ha, hzr, hzc, hzd, mkZ] at hm
          | some zd =>
            simp only [ha, hzr, hzc, hzd, Option.bind_some, mkZ] at hm
            split at hm
            · rename_i hcond
              obtain ⟨h0, hlc, hzl, hby, hcb⟩ := hcond
              cases hm
              obtain ⟨i, hi, hz0, rfl, rfl⟩ : ∃ i, X.P.info? e = some i ∧ 0 < i.size ∧ z = i.size ∧ b = i.bytes := by
                unfold Ctx.apz at ha
                cases hi : X.P.info? e with
                | none => simp [hi] at ha
                | some i =>
                  cases hz : i.zero with
                  | none => simp [hi, hz] at ha
                  | some zv =>
                    simp only [hi, hz, Option.bind_some] at ha
                    split at ha
                    · rename_i h2
                      cases ha
                      exact ⟨i, rfl, h2.2, rfl, rfl⟩
                    · cases ha
              obtain ⟨i', zv, hi', hzv, rfl⟩ := zero_inv hzr
              rw [hi] at hi'
              cases hi'
              have hcr := cs_rel (litV_rel E s.h zv) hzc
              obtain ⟨hzdl, hzdr⟩ := allD_rel zc zd zv.cells.toList hcr hzd
              have hzvl : zv.cells.size = i.size := by rw [← hzl]; simpa using hzdl.symm
              have hrun := run_make (P := X.P) E.w t e i zv ht hi hzv kl kc l c h0 hlc hby (by omega)
              generalize hrow : madeCells zv.cells (c.toNat * i.size) = row at hrun
              have hrs : row.size = c.toNat * i.size := by rw [← hrow, size_madeCells]
              have st := Stp.new hn.rel.env (.cells row e) (.tok l.toNat i.size (some (rep l.toNat zd)))
              have ev := st.evo hn.rel.env
              have hln : l.toNat * i.size ≤ c.toNat * i.size := Nat.mul_le_mul_right _ (by omega)
              have hc0 : CellsRel E s.h (row.toList.take (l.toNat * i.size)) ((rep l.toNat zd).map .d) := by
                refine cells_d (by rw [List.length_take, rep_len, hzl, Array.length_toList, hrs]; omega) fun k y hk => ?_
                have hkl := lt_of_get hk
                rw [rep_len, hzl] at hkl
                rw [rep_get zd (by omega) _ _ (by rw [hzl]; exact hkl), hzl] at hk
                obtain ⟨u, hu, hru⟩ := hzdr _ _ hk
                refine ⟨u, ?_, hru⟩
                rw [List.getElem?_take, if_pos hkl, ← hrow]
                simp only [madeCells, Array.toList_map, Array.toList_range, List.getElem?_map]
                rw [List.getElem?_range (by omega), Option.map_some, hzvl]
                have : zv.cells[k % i.size]? = some u := by simpa using hu
                rw [getElem!_def, this]
              refine wp_of_val' (hex _ _ hrun) (hd _ _ ev (st.ok hn.rel.env fun o ho => ?_) ?_)
              · simp at ho
                subst ho
                refine ⟨hz0, .inr ⟨E.w.heap.size, row, e, by simp [Env.newOb], heap_alloc_new _ _, by rw [hrs]; exact hln, hc0.evo ev (Nat.le_refl _), fun o hf => ?_⟩⟩
                have := hn.rel.env.lt _ _ hf
                omega
              · refine ⟨rfl, l.toNat, i.size, some (rep l.toNat zd), by simp, Nat.le_refl _, fun _ => ?_⟩
                unfold OwnRow
                simp only [Env.newOb, if_true]
                exact ⟨c.toNat, row, e, rfl, by omega, by unfold maxLen; omega, heap_alloc_new _ _, hrs⟩
            · cases hm
  · cases hm

theorem copy_sim (hn : Now X A E s a) {o : Oper} {K : Act → World → Prop} {Q : Exit → Act → World → Prop} {t tx ty : TypeId} {x y v : AV} {ux uy : Value} {h' : Hp} (hx : x.rel E s.h ux) (hy : y.rel E s.h uy)
    (htx' : ∀ l, y = .d (.str l) → X.P.underlying tx = some .string) (htx'' : (∀ l, y ≠ .d (.str l)) → ∃ e', X.P.underlying tx = some (.slice e'))
    (hap : X.copyA s.h t x y = some (v, h')) (hex : ∀ u w', (Builtin.copy_ #[t, tx] ty #[ux, uy]).run X.P E.w = .ok u w' → (execOp a.eval o).run X.P E.w = .ok (.value u) w')
    (hd : Done A E s.h o a K Q (.val v h')) : o.wp X.P a E.w K Q := by
  unfold Ctx.copyA cpD at hap
  split at hap
  · rename_i e ht
    split at hap
    · rename_i id n cy
      unfold cpO at hap
      split at hap
      · rename_i m z ds hid
        cases hsz : X.size e with
        | none => simp [hsz] at hap
        | some z' =>
          cases hs : cy.source with
          | none => simp [hsz, hs] at hap
          | some es =>
            simp only [hsz, hs, Option.bind_some] at hap
            split at hap
            · rename_i hcond
              obtain ⟨rfl, rfl, hz0, hall, hle⟩ := hcond
              cases hap
              obtain ⟨i, hi, rfl⟩ : ∃ i, X.P.info? e = some i ∧ z' = i.size := by
                unfold Ctx.size at hsz
                cases hi : X.P.info? e with
                | none => simp [hi] at hsz
                | some i => simp [hi] at hsz; exact ⟨i, rfl, hsz.symm⟩
              obtain ⟨news, hnews⟩ := news_of (X := X) (tx := tx) hy hs hall hz0 (fun l h => htx' l (by rw [h])) (fun h => htx'' (fun l h2 => h l (by cases h2; rfl)))
              obtain ⟨E', hrun, ev, hok⟩ := copy_msl (ty := ty) hn ht hi hz0 hid hx hall hnews hle
              exact wp_of_val' (hex _ _ hrun) (hd _ _ ev hok (by exact .int _ _))
            · cases hap
      · cases hap
    · cases hap
  · cases hap

end Go.Ab
