/-
  Texts of the layer and of the laws, put together: Ab4, Ab5, Ab6.
-/
import Derived.Test.YtdoofgbeajkpaaaGreatDoorAbWP1
import Derived.WalkLawsBesides
import Derived.Great.BuildSlice
import Derived.Lib.ConvBytes
import Derived.Lib.Bytes
set_option linter.unusedSimpArgs false
set_option linter.unusedVariables false
set_option maxRecDepth 100000
namespace Go.Ab
open Go.RowKit
def Done (A : Actn) (E : Env) (h : Hp) (o : Oper) (a : Act) (K : Act → World → Prop) (Q : Exit → Act → World → Prop) : OpR → Prop
  | .val v h' => ∀ u E', Evo h.length E h E' h' → EnvOk A E' h' → v.rel E' h' u → K (a.put o.dst u) E'.w
  | .skip h' => ∀ E', Evo h.length E h E' h' → EnvOk A E' h' → K (a.put o.dst undef) E'.w
  | .pan x h' => ∀ u E', Evo h.length E h E' h' → EnvOk A E' h' → x.rel E' h' u → Q (.panic [{ v := u, recovered := false }]) a E'.w
def hdl (X : Ctx) (f : FuncId) (args : List AV) (h : Hp) : Option COut :=
  match X.M f with
  | some m => (m args).map fun v => .ret v h
  | none => match X.N f with
    | some m => (m args).map fun r => r.at h
    | none => X.K f args h
def FOk (P : Program) (G : Gl) (f : FuncId) (args : List AV) (h : Hp) (out : COut) : Prop :=
  ∀ (A : Actn) (E : Env) (vs : Array Value), A.G = G → EnvOk A E h → vs.size = args.length → (∀ (j : Nat) (x : AV), args[j]? = some x → x.rel E h (vs.getD j undef)) →
  ∀ (o : Oper) (a : Act) (K : Act → World → Prop) (Q : Exit → Act → World → Prop), Done A E h o a K Q out.op → o.upon P a K Q ((callFunc f vs).run P E.w)
def KOk (X : Ctx) : Prop := ∀ (f : FuncId) (args : List AV) (h : Hp) (out : COut), hdl X f args h = some out → FOk X.P X.G f args h out
theorem litC_rel (E : Env) (h : Hp) (v : Value) : (litC v).rel E h v := by
  unfold litC
  split <;> simp only [C1.rel] <;> first | exact .bool _ | exact .int _ _ | exact .str _ | exact .nil _ _ | trivial
theorem litV_rel (E : Env) (h : Hp) (v : Value) : (litV v).rel E h v := by
  cases v with
  | agg cs =>
    simp only [litV]
    split
    · rename_i hc
      refine ⟨cs.toList, by simp, by simp, fun j x hj => ?_⟩
      rw [List.getElem?_map] at hj
      cases hv : cs.toList[j]? with
      | none => simp [hv] at hj
      | some u =>
        simp [hv] at hj
        subst hj
        exact ⟨u, rfl, litC_rel E h u, List.all_eq_true.1 hc u (List.mem_of_getElem? hv)⟩
    · trivial
  | _ => (simp only [litV, AV.rel, V.rel]; exact litC_rel E h _)
section
variable {X : Ctx} {A : Actn} {E : Env} {s : S} {a : Act}
structure Now (X : Ctx) (A : Actn) (E : Env) (s : S) (a : Act) : Prop where
  G : A.G = X.G
  rel : Rel A E s a E.w
theorem ev_rel (hn : Now X A E s a) (x : Operand) : (X.ev s x).rel E s.h (a.eval x) := by
  cases x with
  | tmp t => exact hn.rel.tmps t
  | const v => exact litV_rel E s.h v
  | global g =>
    simp only [Ctx.ev]
    cases hg : X.G.f g with
    | none => trivial
    | some xs => exact hn.rel.env.glob g xs (by rw [hn.G]; exact hg)
  | func f => exact ⟨[], rfl, rfl, fun j p hp => by simp at hp⟩
theorem done_val (hn : Now X A E s a) {o : Oper} {K : Act → World → Prop} {Q : Exit → Act → World → Prop} {u : Value} {v : AV}
    (hd : Done A E s.h o a K Q (.val v s.h)) (hr : v.rel E s.h u) : K (a.put o.dst u) E.w :=
  hd u E (Evo.refl (Nat.le_refl _)) hn.rel.env hr
theorem wp_of_val {P : Program} {w : World} {o : Oper} {K : Act → World → Prop} {Q : Exit → Act → World → Prop} {u : Value} (hr : (execOp a.eval o).run P w = .ok (.value u) w) (hk : K (a.put o.dst u) w) : o.wp P a w K Q := by
  simp only [Oper.wp, hr, Oper.upon_value]; exact hk
theorem wp_of_val' {P : Program} {w w' : World} {o : Oper} {K : Act → World → Prop} {Q : Exit → Act → World → Prop} {u : Value} (hr : (execOp a.eval o).run P w = .ok (.value u) w') (hk : K (a.put o.dst u) w') : o.wp P a w K Q := by
  simp only [Oper.wp, hr, Oper.upon_value]; exact hk
theorem rel_d {E : Env} {h : Hp} {v : Value} {x : D} (hr : (AV.d x).rel E h v) : Rd E.w E.F v x := hr
theorem int_inv {w : World} {F : Fz} {v : Value} {k : IntKind} {n : Int} (h : Rd w F v (.int k n)) : v = .int k n := by cases h; rfl
theorem bool_inv {w : World} {F : Fz} {v : Value} {b : Bool} (h : Rd w F v (.bool b)) : v = .bool b := by cases h; rfl
theorem str_inv {w : World} {F : Fz} {v : Value} {l : List UInt8} (h : Rd w F v (.str l)) : ∃ s : ByteArray, v = .string s ∧ s.data.toList = l := by cases h with | str s => exact ⟨s, rfl, rfl⟩
theorem Rd.str' {w : World} {F : Fz} {s : ByteArray} {l : List UInt8} (h : s.data.toList = l) : Rd w F (.string s) (.str l) := h ▸ .str s
theorem intA_sim {P : Program} {w w' : World} {F : Fz} {op : BinOp} {t : TypeId} {k k' : IntKind} {x y : Int} {d : D} (h : intA op k k' x y = some d) :
    ∃ v, (binOp op t (.int k x) (.int k' y)).run P w = .ok v w ∧ Rd w' F v d := by
  cases op <;> simp only [intA] at h
  case shl =>
    split at h
    · cases h
    rename_i hb
    cases h
    exact ⟨.int k _, by simp only [binOp, Op.shift, if_neg hb, Sem.run_pure], .int _ _⟩
  case shr =>
    split at h
    · cases h
    rename_i hb
    cases h
    exact ⟨.int k _, by simp only [binOp, Op.shift, if_neg hb, Sem.run_pure], .int _ _⟩
  case quo =>
    split at h
    · rename_i hk; subst hk
      split at h
      · cases h
      rename_i hb
      cases h
      exact ⟨.int k _, by simp only [binOp_quo, Op.intDiv, if_neg hb, Sem.run_pure], .int _ _⟩
    cases h
  case rem =>
    split at h
    · rename_i hk; subst hk
      split at h
      · cases h
      rename_i hb
      cases h
      exact ⟨.int k _, by simp only [binOp_rem, Op.intDiv, if_neg hb, Sem.run_pure], .int _ _⟩
    cases h
  all_goals
    split at h
    · rename_i hk; subst hk
      simp only [cmpI, Option.map_some, Option.some.injEq] at h
      subst h
      first
        | exact ⟨.int k _, by simp [binOp, Op.intArith, Op.intBits, bits], .int _ _⟩
        | exact ⟨.bool _, by simp [binOp, Op.intCmp], .bool _⟩
    cases h
theorem strA_sim {P : Program} {w w' : World} {F : Fz} {op : BinOp} {t : TypeId} {x y : ByteArray} {d : D} (h : strA op x.data.toList y.data.toList = some d) :
    ∃ v, (binOp op t (.string x) (.string y)).run P w = .ok v w ∧ Rd w' F v d := by
  cases op <;> simp only [strA, Option.some.injEq] at h
  case add =>
    split at h
    · rename_i hl
      cases h
      refine ⟨.string (x ++ y), ?_, Rd.str' (by simp)⟩
      rw [binOp_string_add]
      exact run_string_add_sum w x y (by rw [Lib.size_eq, Lib.size_eq]; omega)
    cases h
  all_goals first
    | (cases h; done)
    | (subst h
       exact ⟨.bool _, by simp only [binOp, Op.stringOp, ByteArray.toList_eq, Sem.run_pure], .bool _⟩)
theorem boolA_sim {P : Program} {w w' : World} {F : Fz} {op : BinOp} {t : TypeId} {x y : Bool} {d : D} (ht : P.underlying t = some .bool) (h : boolA op x y = some d) :
    ∃ v, (binOp op t (.bool x) (.bool y)).run P w = .ok v w ∧ Rd w' F v d := by
  have he0 : ∀ d, (Op.equalIn (d + 1) t (.bool x) (.bool y)).run P w = .ok (x == y) w := fun d => by simp [Op.equalIn, run_underlying ht]
  have he : (Op.equal t (.bool x) (.bool y)).run P w = .ok (x == y) w := he0 9999
  cases op <;> simp only [boolA] at h
  case eql => cases h; exact ⟨.bool (x == y), by simp [binOp, he], .bool _⟩
  case neq => cases h; exact ⟨.bool (!(x == y)), by simp [binOp, he], .bool _⟩
  all_goals cases h
theorem unA_sim {P : Program} {w w' : World} {F : Fz} {op : UnOp} {x : AV} {u : Value} {d : D} {E : Env} {h : Hp} (hx : x.rel E h u) (h : unA op x = some d) :
    ∃ v, (Op.unary op u).run P w = .ok v w ∧ Rd w' F v d := by
  unfold unA at h
  split at h
  · cases h; have := bool_inv (rel_d hx); subst this; exact ⟨_, by simp only [Op.unary, Sem.run_pure], .bool _⟩
  · cases h; have := int_inv (rel_d hx); subst this; exact ⟨_, by simp only [Op.unary, Op.intArith, Sem.run_pure], .int _ _⟩
  · cases h; have := int_inv (rel_d hx); subst this; exact ⟨_, by simp only [Op.unary, intBits_xor, Sem.run_pure], .int _ _⟩
  cases h
def CellsAt (E : Env) (h : Hp) (b o : Nat) (cs : List C1) : Prop :=
  ∀ (j : Nat) (x : C1), cs[j]? = some x → ∃ u, E.w.cell? ⟨b, o + j, none⟩ = some u ∧ x.rel E h u ∧ u.oneCell' = true
theorem cells_of_row {E : Env} {h : Hp} {b : Nat} {vs : Array Value} {T : TypeId} {fr : Nat × Nat} {cs : List C1} (hb : E.w.heap[b]? = some (.cells vs T fr)) (hc : CellsRel E h vs.toList cs) : CellsAt E h b 0 cs := by
  intro j x hj
  obtain ⟨u, hu, hr⟩ := hc.2 j x hj
  refine ⟨u, ?_, hr⟩
  simp only [World.cell?, hb, Nat.zero_add]
  simpa using hu
theorem cells_of_dptr {E : Env} {h : Hp} {v : Value} {xs : List D} (hp : DPtr E.w E.F v xs) : ∃ b o, v = .pointer (some ⟨b, o, none⟩) ∧ CellsAt E h b o (xs.map .d) := by
  obtain ⟨b, o, hv, hc⟩ := hp
  refine ⟨b, o, hv, fun j x hj => ?_⟩
  rw [List.getElem?_map] at hj
  cases hx : xs[j]? with
  | none => simp [hx] at hj
  | some d =>
    simp [hx] at hj
    subst hj
    obtain ⟨_, u, hu, hr⟩ := hc j d hx
    exact ⟨u, hu, hr, hr.one⟩
theorem cells_of_ppt {E : Env} {h : Hp} {b o : Nat} {ps : List (Nat × Nat)} (hp : PCells E h b o ps) : CellsAt E h b o (ps.map fun p => .ptr p.1 p.2) := by
  intro j x hj
  rw [List.getElem?_map] at hj
  cases hx : ps[j]? with
  | none => simp [hx] at hj
  | some p =>
    simp [hx] at hj
    subst hj
    obtain ⟨_, k, hk, hc⟩ := hp j p hx
    exact ⟨_, hc, ⟨k, hk, rfl⟩, rfl⟩
theorem size_info {X : Ctx} {t : TypeId} {n : Nat} (h : X.size t = some n) : (X.P.info? t).map (·.size) = some n := h
theorem run_sizeOf {P : Program} {t : TypeId} {n : Nat} (h : (P.info? t).map (·.size) = some n) (w : World) : (sizeOf t).run P w = .ok n w := by
  cases hi : P.info? t with
  | none => simp [hi] at h
  | some i => simp [hi] at h; simp [sizeOf, typeInfo, hi, h]
theorem run_isAgg {P : Program} {t : TypeId} {d : TypeDesc} (h : P.underlying t = some d) (w : World) : (isAgg t).run P w = .ok d.isRow w := by
  simp only [isAgg, Sem.run_bind, run_underlying h w, Result.andThen_ok]
  cases d <;> rfl
theorem isAgg_inv {X : Ctx} {t : TypeId} {b : Bool} (h : X.isAgg t = some b) : ∃ d, X.P.underlying t = some d ∧ d.isRow = b := by
  unfold Ctx.isAgg at h
  cases hd : X.P.underlying t with
  | none => simp [hd] at h
  | some d =>
    simp only [hd, Option.map_some, Option.some.injEq] at h
    refine ⟨d, rfl, ?_⟩
    cases d <;> simp_all [TypeDesc.isRow]
theorem take_cells {E : Env} {h : Hp} : ∀ (cs : List C1) (b o : Nat), CellsAt E h b o cs → ∃ vs : List Value, CellsRel E h vs cs ∧ E.w.rangeAt b o vs
  | [], b, o, _ => ⟨[], ⟨rfl, fun j x hj => by simp at hj⟩, fun j v hj => by simp at hj⟩
  | c :: cs, b, o, hc => by
    obtain ⟨u, hu, hr⟩ := hc 0 c rfl
    obtain ⟨vs, hv, hw⟩ := take_cells cs b (o + 1) (fun j x hj => by
      obtain ⟨u, hu, hr⟩ := hc (j + 1) x (by simpa using hj)
      exact ⟨u, by rw [show o + 1 + j = o + (j + 1) by omega]; exact hu, hr⟩)
    refine ⟨u :: vs, ⟨by simp [hv.1], fun j x hj => ?_⟩, fun j v hj => ?_⟩
    · cases j with
      | zero => simp at hj; subst hj; exact ⟨u, rfl, hr⟩
      | succ j => exact hv.2 j x (by simpa using hj)
    cases j with
    | zero => simp at hj; subst hj; exact hu
    | succ j => rw [show o + (j + 1) = o + 1 + j by omega]; exact hw j v (by simpa using hj)
theorem cells_drop {E : Env} {h : Hp} {cs : List C1} {b o : Nat} (hc : CellsAt E h b o cs) (k n : Nat) : CellsAt E h b (o + k) ((cs.drop k).take n) := by
  intro j x hj
  rw [List.getElem?_take] at hj
  split at hj
  · rw [List.getElem?_drop] at hj
    obtain ⟨u, hu, hr⟩ := hc (k + j) x hj
    exact ⟨u, by rw [Nat.add_assoc]; exact hu, hr⟩
  cases hj
theorem load_sim {E : Env} {h : Hp} {cs : List C1} {b o off : Nat} {t : TypeId} {v : V} (hc : CellsAt E h b o cs) (hp : X.part t cs off = some v) :
    ∃ u, (loadVar t ⟨b, o + off, none⟩).run X.P E.w = .ok u E.w ∧ v.rel E h u := by
  unfold Ctx.part at hp
  cases ha : X.isAgg t with
  | none => simp [ha] at hp
  | some ag =>
    obtain ⟨d, hd, hrow⟩ := isAgg_inv ha
    simp only [ha, Option.bind_some] at hp
    cases ag with
    | true =>
      simp only [if_true] at hp
      cases hn : X.size t with
      | none => simp [hn] at hp
      | some n =>
        simp only [hn, Option.bind_some] at hp
        split at hp
        · rename_i hle
          cases hp
          obtain ⟨vs, hv, hw⟩ := take_cells _ _ _ (cells_drop hc off n)
          have hl : vs.length = n := by rw [hv.1]; simp; omega
          exact ⟨.agg vs.toArray, run_loadVar_mid E.w b (o + off) t vs d hw hd hrow (by rw [hl]; exact hn), vs, rfl, hv⟩
        · cases hp
    | false =>
      simp only [Bool.false_eq_true, if_false] at hp
      cases hx : cs[off]? with
      | none => simp [hx] at hp
      | some x =>
        simp [hx] at hp
        subst hp
        obtain ⟨u, hu, hr, _⟩ := hc off x hx
        exact ⟨u, by simp [loadVar, run_isAgg hd, hrow, hu], hr⟩
theorem part_sim {E : Env} {h : Hp} {cs : List C1} {vs : List Value} {off : Nat} {t : TypeId} {v : V} (hc : CellsRel E h vs cs) (hp : X.part t cs off = some v) :
    ∃ u, (part t vs.toArray off).run X.P E.w = .ok u E.w ∧ v.rel E h u := by
  unfold Ctx.part at hp
  cases ha : X.isAgg t with
  | none => simp [ha] at hp
  | some ag =>
    obtain ⟨d, hd, hrow⟩ := isAgg_inv ha
    simp only [ha, Option.bind_some] at hp
    cases ag with
    | true =>
      simp only [if_true] at hp
      cases hn : X.size t with
      | none => simp [hn] at hp
      | some n =>
        simp only [hn, Option.bind_some] at hp
        split at hp
        · rename_i hle
          cases hp
          refine ⟨.agg ((vs.drop off).take n).toArray, ?_, _, rfl, ?_, fun j x hj => ?_⟩
          · simp [part, run_isAgg hd, hrow, run_sizeOf (size_info hn)]
          · simp [hc.1]
          rw [List.getElem?_take] at hj ⊢
          split at hj
          · rename_i hjn
            rw [List.getElem?_drop] at hj
            rw [if_pos hjn, List.getElem?_drop]
            exact hc.2 _ _ hj
          cases hj
        · cases hp
    | false =>
      simp only [Bool.false_eq_true, if_false] at hp
      cases hx : cs[off]? with
      | none => simp [hx] at hp
      | some x =>
        simp [hx] at hp
        subst hp
        obtain ⟨u, hu, hr, _⟩ := hc.2 off x hx
        exact ⟨u, by simp [part, run_isAgg hd, hrow, hu], hr⟩
end
end Go.Ab
namespace Go.Ab
open Go.RowKit
section
variable {X : Ctx} {A : Actn} {E : Env} {s : S} {a : Act}
theorem cs_rel {E : Env} {h : Hp} {v : Value} {x : AV} {cs : List C1} (hr : x.rel E h v) (hc : x.cs = some cs) : CellsRel E h v.cells.toList cs := by
  cases x with
  | tup => cases hc
  | v x =>
    cases x with
    | agg xs =>
      simp only [AV.cs, V.cs, Option.some.injEq] at hc
      subst hc
      obtain ⟨vs, rfl, h⟩ := hr
      simpa [Value.cells] using h
    | c x =>
      have hx : x ≠ .top := by rintro rfl; cases hc
      have he : cs = [x] := by cases x <;> first | exact absurd rfl hx | (simp only [AV.cs, V.cs, Option.some.injEq] at hc; exact hc.symm)
      subst he
      have h1 := C1.rel_one hr hx
      have hv : v.cells.toList = [v] := by cases v <;> first | rfl | cases h1
      rw [hv]
      refine ⟨rfl, fun j y hj => ?_⟩
      cases j with
      | zero => simp at hj; subst hj; exact ⟨v, rfl, hr, h1⟩
      | succ j => simp at hj
theorem box_sim (hn : Now X A E s a) {o : Oper} {K : Act → World → Prop} {Q : Exit → Act → World → Prop} {vs : Array Value} {T : TypeId} {cs : List C1}
    (hc : CellsRel E s.h vs.toList cs) (hr : (execOp a.eval o).run X.P E.w = .ok (.value (.pointer (some ⟨E.w.heap.size, 0, none⟩))) (E.w.alloc (.cells vs T)))
    (hd : Done A E s.h o a K Q (.val (.v (.c (.ptr s.h.length 0))) (s.h ++ [.box cs]))) : o.wp X.P a E.w K Q := by
  have st := Stp.new hn.rel.env (.cells vs T) (.box cs)
  have ev := st.evo hn.rel.env
  refine wp_of_val' hr (hd _ _ ev (st.ok hn.rel.env fun o ho => ?_) ?_)
  · simp at ho
    subst ho
    refine ⟨E.w.heap.size, vs, T, by simp [Env.newOb], heap_alloc_new _ _, hc.evo ev (Nat.le_refl _), fun o hf => ?_⟩
    have := hn.rel.env.lt _ _ hf
    omega
  exact ⟨_, new_at, rfl⟩
theorem litC_nil {x : Value} (h : litC x = .d (.sl true [])) : x = .slice none 0 0 := by
  unfold litC at h
  split at h <;> first | rfl | (simp at h)
theorem lit_nils {v : Value} {cs : List C1} (hc : (litV v).cs = some cs) (h : cs = [.nilp, .d (.sl true [])]) : v.cells.toList[1]? = some (.slice none 0 0) := by
  subst h
  cases v with
  | agg xs =>
    simp only [litV] at hc
    split at hc
    · simp only [AV.cs, V.cs, Option.some.injEq] at hc
      have h1 : (xs.toList.map litC)[1]? = some (.d (.sl true [])) := by rw [hc]; rfl
      rw [List.getElem?_map] at h1
      simp only [Option.map_eq_some_iff] at h1
      obtain ⟨x, hx, hx2⟩ := h1
      rw [litC_nil hx2] at hx
      simpa [Value.cells] using hx
    · cases hc
  | _ =>
    simp only [litV, AV.cs, V.cs] at hc
    split at hc
    · cases hc
    · simp at hc
    rename_i hq
    cases hq
theorem new_sim (hn : Now X A E s a) {o : Oper} {K : Act → World → Prop} {Q : Exit → Act → World → Prop} {vs : Array Value} {T : TypeId} {cs : List C1} {B : Option (TypeId × TypeId)}
    (hc : CellsRel E s.h vs.toList cs) (hz : cs = [.nilp, .d (.sl true [])] → vs.toList[1]? = some (.slice none 0 0)) (hr : (execOp a.eval o).run X.P E.w = .ok (.value (.pointer (some ⟨E.w.heap.size, 0, none⟩))) (E.w.alloc (.cells vs T)))
    (hd : Done A E s.h o a K Q (.val (.v (.c (.ptr s.h.length 0))) (s.h ++ [newA B T cs]))) : o.wp X.P a E.w K Q := by
  unfold newA at hd
  split at hd
  · rename_i B T' el
    split at hd
    · rename_i hT
      obtain ⟨rfl, hne⟩ := hT
      obtain ⟨p, v, hvs⟩ : ∃ p v, vs = #[p, v] := by
        have hl := hc.1
        simp at hl
        exact ⟨vs[0]'(by omega), vs[1]'(by omega), by apply Array.ext <;> simp [hl]; intro i h1; match i, h1 with | 0, _ => intro _; rfl | 1, _ => intro _; rfl⟩
      subst hvs
      obtain ⟨p', hp', hp1, _⟩ := hc.2 0 _ rfl
      obtain ⟨v', hv', hv1, _⟩ := hc.2 1 _ rfl
      cases hp'
      cases hv'
      have st := Stp.new hn.rel.env (.cells #[p, v] T') (.bld T' el [] true)
      have ev := st.evo hn.rel.env
      refine wp_of_val' hr (hd _ _ ev (st.ok hn.rel.env fun o ho => ?_) ?_)
      · simp at ho
        subst ho
        refine ⟨E.w.heap.size, by simp [Env.newOb], fun o hf => ?_, fun _ => ⟨p, v, heap_alloc_new _ _, .inl hp1, ⟨rfl, ?_⟩, hne, fun g hg => ?_⟩⟩
        · have := hn.rel.env.lt _ _ hf
          omega
        · exact .inl ⟨by simpa using hz rfl, rfl⟩
        have hv0 : v = .slice none 0 0 := by simpa using hz rfl
        subst hv0
        cases hg
      exact ⟨_, new_at, rfl⟩
    exact box_sim hn hc hr hd
  exact box_sim hn hc hr hd
theorem zero_inv {t : TypeId} {z : AV} (h : X.zero t = some z) : ∃ i v, X.P.info? t = some i ∧ i.zero = some v ∧ z = litV v := by
  unfold Ctx.zero at h
  cases hi : X.P.info? t with
  | none => simp [hi] at h
  | some i =>
    cases hz : i.zero with
    | none => simp [hi, hz] at h
    | some v => simp [hi, hz] at h; exact ⟨i, v, rfl, hz, h.symm⟩
theorem fill_sim {E : Env} {h : Hp} {place : Nat → Option (Nat × Nat)} : ∀ (pa : List (Nat × AV)) (pv : List (Nat × Value)) (cs r : List C1) (cv : Array Value),
    pa.length = pv.length → (∀ (j : Nat) (x : Nat × AV) (y : Nat × Value), pa[j]? = some x → pv[j]? = some y → x.1 = y.1 ∧ x.2.rel E h y.2) →
    CellsRel E h cv.toList cs → fillA place cs pa = some r → ∃ rv, Instr.fill place cv pv = some rv ∧ CellsRel E h rv.toList r
  | [], pv, cs, r, cv, hl, _, hc, hf => by
    have : pv = [] := List.eq_nil_of_length_eq_zero (by simpa using hl.symm)
    subst this
    simp only [fillA, Option.some.injEq] at hf
    subst hf
    exact ⟨cv, rfl, hc⟩
  | (i, v) :: pa, pv, cs, r, cv, hl, hp, hc, hf => by
    cases pv with
    | nil => simp at hl
    | cons y pv =>
      obtain ⟨i', u⟩ := y
      obtain ⟨hi, hr⟩ := hp 0 (i, v) (i', u) rfl rfl
      simp only at hi hr
      subst hi
      simp only [fillA] at hf
      cases hpl : place i with
      | none => simp [hpl] at hf
      | some p =>
        cases hcs : v.cs with
        | none => simp [hpl, hcs] at hf
        | some xs =>
          simp only [hpl, hcs, Option.bind_some] at hf
          split at hf
          · rename_i hle
            have hx := cs_rel hr hcs
            have hlu : u.cells.toList.length = p.2 := by rw [hx.1]; exact hle.1
            have hlu' : u.cells.size = p.2 := by simpa using hlu
            have hcl : cv.size = cs.length := by have := hc.1; simpa using this
            obtain ⟨g1, g2⟩ := Great.foldl_set p.1 u.cells.toList 0 cv
            have hset : CellsRel E h (List.foldl (fun cs (x : Value × Nat) => cs.setIfInBounds (p.1 + x.2) x.1) cv (u.cells.toList.zipIdx 0)).toList (setAt cs p.1 xs) := by
              refine ⟨?_, fun j x hj => ?_⟩
              · simp only [Array.length_toList, g1, setAt, List.length_append, List.length_take, List.length_drop]
                omega
              rw [Array.getElem?_toList, g2 j]
              simp only [setAt] at hj
              by_cases h1 : j < p.1
              · rw [if_neg (by omega)]
                rw [List.getElem?_append_left (by simp; omega), List.getElem?_take, if_pos h1] at hj
                have := hc.2 j x hj
                simpa using this
              rw [List.getElem?_append_right (by simp; omega)] at hj
              simp only [List.length_take, Nat.min_eq_left (show p.1 ≤ cs.length by omega)] at hj
              by_cases h2 : j < p.1 + xs.length
              · rw [List.getElem?_append_left (by omega)] at hj
                rw [if_pos (by simp only [Nat.add_zero]; exact ⟨by omega, by rw [hx.1]; omega, by omega⟩)]
                simp only [Nat.add_zero]
                exact hx.2 _ x hj
              rw [List.getElem?_append_right (by omega), List.getElem?_drop] at hj
              rw [if_neg (by rw [hx.1]; omega)]
              have e : p.1 + xs.length + (j - p.1 - xs.length) = j := by omega
              rw [e] at hj
              have := hc.2 j x hj
              simpa using this
            obtain ⟨rv, hrv, hrr⟩ := fill_sim pa pv _ r _ (by simpa using hl)
              (fun j x y hx hy => hp (j + 1) x y (by simpa using hx) (by simpa using hy)) hset hf
            refine ⟨rv, ?_, hrr⟩
            unfold Instr.fill
            simp only [hpl]
            rw [if_neg (by simp; omega)]
            rw [← hrv]
            congr 1
            rw [← Array.foldl_toList, Array.toList_zipIdx]
          cases hf
theorem build_sim {t : TypeId} {pa : List (Nat × AV)} {pv : Array (Nat × Value)} {v : AV} (hl : pa.length = pv.size)
    (hp : ∀ (j : Nat) (x : Nat × AV) (y : Nat × Value), pa[j]? = some x → pv.toList[j]? = some y → x.1 = y.1 ∧ x.2.rel E s.h y.2) (hb : X.buildA t pa = some v) :
    ∃ u, (Instr.build t pv).run X.P E.w = .ok u E.w ∧ v.rel E s.h u := by
  unfold Ctx.buildA at hb
  cases hpl : X.place t with
  | none => simp [hpl] at hb
  | some pl =>
    cases hz : X.zero t with
    | none => simp [hpl, hz] at hb
    | some z =>
      cases hc : z.cs with
      | none => simp [hpl, hz, hc] at hb
      | some cs =>
        cases hf : fillA pl cs pa with
        | none => simp [hpl, hz, hc, hf] at hb
        | some r =>
          simp [hpl, hz, hc, hf] at hb
          subst hb
          obtain ⟨i, zv, hi, hzv, rfl⟩ := zero_inv hz
          have hcr := cs_rel (litV_rel E s.h zv) hc
          obtain ⟨rv, hrv, hrr⟩ := fill_sim (E := E) (h := s.h) (place := pl) pa pv.toList cs r zv.cells (by simpa using hl) hp hcr hf
          refine ⟨.agg rv, run_build E.w t pv rv ?_, rv.toList, by simp, hrr⟩
          unfold Program.built
          unfold Ctx.place at hpl
          cases hu : X.P.underlying t with
          | none => simp [hu] at hpl
          | some d =>
            simp only [hu, Option.bind_some] at hpl
            cases d <;> simp only [hi, hzv] <;> try (cases hpl; done)
            case array n e =>
              cases hie : X.P.info? e with
              | none => simp [Ctx.size, hie] at hpl
              | some ie =>
                simp [Ctx.size, hie] at hpl
                subst hpl
                exact hrv
            case struct fs =>
              cases hm : fs.toList.mapM (fun f => (X.P.info? f.type).map fun i => (f.offset, i.size)) with
              | none => simp [hm] at hpl
              | some places =>
                simp [hm] at hpl
                subst hpl
                simpa using hrv
theorem allD_rel {E : Env} {h : Hp} : ∀ (cs : List C1) (ds : List D) (vs : List Value), CellsRel E h vs cs → allD cs = some ds →
    ds.length = vs.length ∧ ∀ (j : Nat) (d : D), ds[j]? = some d → ∃ u, vs[j]? = some u ∧ Rd E.w E.F u d
  | [], ds, vs, hc, hd => by
    simp only [allD, Option.some.injEq] at hd
    subst hd
    exact ⟨by simpa using hc.1.symm, fun j d hj => by simp at hj⟩
  | c :: cs, ds, vs, hc, hd => by
    cases vs with
    | nil => have := hc.1; simp at this
    | cons v vs =>
      simp only [allD] at hd
      cases h1 : c.toD with
      | none => simp [h1] at hd
      | some d0 =>
        cases h2 : allD cs with
        | none => simp [h1, h2] at hd
        | some dr =>
          simp [h1, h2] at hd
          subst hd
          obtain ⟨hl, hr⟩ := allD_rel cs dr vs ⟨by simpa using hc.1, fun j x hj => by simpa using hc.2 (j + 1) x (by simpa using hj)⟩ h2
          refine ⟨by simp [hl], fun j d hj => ?_⟩
          cases j with
          | zero =>
            simp at hj
            subst hj
            obtain ⟨u, hu, hru, _⟩ := hc.2 0 c rfl
            refine ⟨u, hu, ?_⟩
            cases c <;> simp only [C1.toD, Option.some.injEq] at h1 <;> first | (cases h1; done) | skip
            case d x => subst h1; exact hru
            case own id es => subst h1; exact hru.1
          | succ j => simpa using hr j d (by simpa using hj)
theorem toD_rel {E : Env} {h : Hp} {c : C1} {d : D} {v : Value} (hr : c.rel E h v) (hd : c.toD = some d) : Rd E.w E.F v d := by
  cases c <;> simp only [C1.toD, Option.some.injEq] at hd <;> first | (cases hd; done) | skip
  case d x => subst hd; exact hr
  case own id es => subst hd; exact hr.1
theorem chunk_length (z : Nat) : ∀ (n : Nat) (l : List D), (chunk z n l).length = n
  | 0, _ => rfl
  | n + 1, l => by simp [chunk, chunk_length z n]
theorem chunk_get (z : Nat) : ∀ (n : Nat) (l : List D) (i : Nat) (e : List D), (chunk z n l)[i]? = some e → i < n ∧ e = (l.drop (i * z)).take z
  | 0, _, i, e, h => by simp [chunk] at h
  | n + 1, l, i, e, h => by
    cases i with
    | zero => simp [chunk] at h; simp [h]
    | succ i =>
      simp only [chunk, List.getElem?_cons_succ] at h
      obtain ⟨h1, h2⟩ := chunk_get z n _ i e h
      refine ⟨by omega, ?_⟩
      rw [h2, List.drop_drop]
      congr 2
      rw [Nat.add_mul]; omega
theorem row_rd {w : World} {F : Fz} {b : Nat} {vs : Array Value} {T : TypeId} {fr : Nat × Nat} {es : List (List D)} {n z cap : Nat} {full : Bool} (hb : w.heap[b]? = some (.cells vs T fr))
    (hlen : es.length = n) (hcap : n ≤ cap) (hfull : full = true → cap = n) (hs : n * z ≤ vs.size) (hz : ∀ e ∈ es, e.length = z) (hF : ∀ o, o < n * z → F b o)
    (hr : ∀ (i j : Nat) (e : List D) (y : D), es[i]? = some e → e[j]? = some y → ∃ u, vs[i * z + j]? = some u ∧ Rd w F u y)
    (h1 : ∀ o, o < n * z → ∀ u, vs[o]? = some u → u.oneCell' = true) : Rd w F (.slice (some ⟨b, 0, none⟩) n cap) (.sl full es) := by
  have hin : ∀ i j, i < n → j < z → i * z + j < n * z := fun i j hi hj => by
    have : (i + 1) * z ≤ n * z := Nat.mul_le_mul_right _ hi
    rw [Nat.add_mul] at this
    omega
  refine .sl b 0 n cap z full es (fun i j => vs.getD (i * z + j) undef) hlen hcap hfull hz (fun i j hi hj => ?_) (fun i j hi hj => ?_) (fun i j hi hj => ?_) (fun i j e y he hy => ?_)
  · rw [Nat.zero_add]; exact hF _ (hin i j hi hj)
  · have := hin i j hi hj
    simp only [World.cell?, hb, Nat.zero_add, Option.isSome_none, Bool.false_eq_true, if_false]
    rw [Array.getElem?_eq_getElem (by omega)]
    simp [Array.getD, show i * z + j < vs.size by omega]
  · have hl := hin i j hi hj
    have hl' : i * z + j < vs.size := by omega
    refine h1 _ hl _ ?_
    rw [Array.getElem?_eq_getElem hl']
    simp [Array.getD, hl']
  obtain ⟨u, hu, hru⟩ := hr i j e y he hy
  have : vs.getD (i * z + j) undef = u := by simp [Array.getD_eq_getD_getElem?, hu]
  rw [this]
  exact hru
theorem ptCs_get : ∀ (cs : List C1) (ps : List (Nat × Nat)), ptCs cs = some ps → ps.length = cs.length ∧ ∀ (j : Nat) (p : Nat × Nat), ps[j]? = some p → cs[j]? = some (.ptr p.1 p.2)
  | [], ps, h => by
    simp only [ptCs, Option.some.injEq] at h
    subst h
    exact ⟨rfl, fun j p hj => by simp at hj⟩
  | c :: cs, ps, h => by
    cases c <;> simp only [ptCs] at h <;> try (cases h; done)
    rename_i id off
    simp only [Option.map_eq_some_iff] at h
    obtain ⟨qs, hq, rfl⟩ := h
    obtain ⟨h1, h2⟩ := ptCs_get cs qs hq
    refine ⟨by simp [h1], fun j p hj => ?_⟩
    cases j with
    | zero => simp only [List.getElem?_cons_zero, Option.some.injEq] at hj ⊢; subst hj; rfl
    | succ j => rw [List.getElem?_cons_succ] at hj ⊢; exact h2 j p hj
theorem buildSlice_sim (hn : Now X A E s a) {o : Oper} {K : Act → World → Prop} {Q : Exit → Act → World → Prop} {t : TypeId} {n : Nat} {pa : List (Nat × AV)} {pv : Array (Nat × Value)} {v : AV} (hl : pa.length = pv.size)
    (hp : ∀ (j : Nat) (x : Nat × AV) (y : Nat × Value), pa[j]? = some x → pv.toList[j]? = some y → x.1 = y.1 ∧ x.2.rel E s.h y.2) (hb : X.buildSliceA t n pa = some v)
    (hex : ∀ u w', (Instr.buildSlice t n pv).run X.P E.w = .ok u w' → (execOp a.eval o).run X.P E.w = .ok (.value u) w') (hd : Done A E s.h o a K Q (.val v s.h)) : o.wp X.P a E.w K Q := by
  unfold Ctx.buildSliceA at hb
  cases hu : X.P.underlying t with
  | none => simp [hu] at hb
  | some dt =>
    simp only [hu, Option.bind_some] at hb
    cases dt <;> try (cases hb; done)
    rename_i e
    simp only at hb
    cases hz : X.size e with
    | none => simp [hz] at hb
    | some z =>
      cases hzr : X.zero e with
      | none => simp [hz, hzr] at hb
      | some zr =>
        cases hzc : zr.cs with
        | none => simp [hz, hzr, hzc] at hb
        | some zc =>
          simp only [hz, hzr, hzc, Option.bind_some] at hb
          split at hb
          · rename_i hcond
            obtain ⟨hzl, hz0, hsm⟩ := hcond
            cases hf : fillA (fun i => some (i * z, z)) ((List.range (n * z)).map fun j => zc.getD (j % z) .top) pa with
            | none => rw [hf] at hb; cases hb
            | some cs =>
              rw [hf, Option.bind_some] at hb
              obtain ⟨i, zv, hi, hzv, rfl⟩ := zero_inv hzr
              have hsz : i.size = z := by simpa [Ctx.size, hi] using hz
              subst hsz
              have hcr := cs_rel (litV_rel E s.h zv) hzc
              have hzvl : zv.cells.size = i.size := by have := hcr.1; simp at this; omega
              have hc0 : CellsRel E s.h ((Array.range (n * i.size)).map (zv.cells[· % zv.cells.size]!)).toList ((List.range (n * i.size)).map fun j => zc.getD (j % i.size) .top) := by
                refine ⟨by simp, fun j x hj => ?_⟩
                rw [List.getElem?_map] at hj
                cases hjr : (List.range (n * i.size))[j]? with
                | none => simp [hjr] at hj
                | some k =>
                  have hk : j = k ∧ j < n * i.size := by
                    have := lt_of_get hjr
                    simp at this
                    rw [List.getElem?_range this] at hjr
                    exact ⟨by simpa using hjr, this⟩
                  obtain ⟨rfl, hjn⟩ := hk
                  simp [hjr] at hj
                  have hlt : j % i.size < zc.length := by rw [hzl]; exact Nat.mod_lt _ hz0
                  rw [List.getElem?_eq_getElem hlt] at hj
                  simp at hj
                  subst hj
                  obtain ⟨u, hu', hru⟩ := hcr.2 (j % i.size) _ (List.getElem?_eq_getElem hlt)
                  refine ⟨u, ?_, hru⟩
                  simp only [Array.toList_map, Array.toList_range, List.getElem?_map, hjr, Option.map_some, hzvl]
                  have : zv.cells[j % i.size]? = some u := by simpa using hu'
                  rw [getElem!_def, this]
              obtain ⟨rv, hrv, hrr⟩ := fill_sim (E := E) (h := s.h) pa pv.toList _ cs _ (by simpa using hl) hp hc0 hf
              have hrvs : rv.size = n * i.size := by
                have h1 := (fill_len (fun i_1 => some (i_1 * i.size, i.size)) pv.toList _ rv hrv)
                simpa using h1
              cases had : allD cs with
              | none =>
                rw [had] at hb
                simp only [bsOut] at hb
                split at hb
                · rename_i hz1
                  obtain ⟨hz1, hn0⟩ := hz1
                  cases hps : ptCs cs with
                  | none => rw [hps] at hb; cases hb
                  | some ps =>
                    rw [hps, Option.map_some, Option.some.injEq] at hb
                    subst hb
                    have hpos : 0 < n * i.size := Nat.mul_pos (by omega) hz0
                    have hrun := run_buildSlice (P := X.P) E.w t e n pv rv i zv hu hi hzv (by omega) (by omega) hrv
                    have st := Stp.fz hn.rel.env (E.w.alloc (.cells rv e)) rfl rfl rfl (by simp) (fun k hk => Below.heap_alloc _ _ _ hk) (fun _ => Nat.le_refl _)
                    have ev := st.evo hn.rel.env
                    refine wp_of_val' (hex _ _ hrun) (hd _ _ ev (st.fz_ok hn.rel.env) ?_)
                    obtain ⟨hpl, hpc⟩ := ptCs_get cs ps hps
                    have hcl : cs.length = rv.size := by have := hrr.1; simpa using this.symm
                    have hpn : ps.length = n := by rw [hpl, hcl, hrvs, hz1, Nat.mul_one]
                    refine ⟨E.w.heap.size, 0, n, by rw [hpn], fun j p hj => ⟨.inr ⟨Nat.le_refl _, by simp⟩, ?_⟩⟩
                    obtain ⟨u, hu', hr1, _⟩ := hrr.2 j _ (hpc j p hj)
                    obtain ⟨k, hk, rfl⟩ := hr1
                    refine ⟨k, hk.evo ev (Nat.le_refl _) (by decide), ?_⟩
                    rw [Nat.zero_add]
                    show (E.w.alloc (.cells rv e)).cell? _ = _
                    simp only [World.cell?, heap_alloc_new, Option.isSome_none, Bool.false_eq_true, if_false]
                    simpa using hu'
                · cases hb
              | some ds =>
                rw [had] at hb
                simp only [bsOut, Option.some.injEq] at hb
                subst hb
                obtain ⟨hdl, hdr⟩ := allD_rel cs ds rv.toList hrr had
                by_cases hn0 : n = 0
                · subst hn0
                  have hrun : (Instr.buildSlice t 0 pv).run X.P E.w = .ok (.slice (some ⟨E.w.heap.size, 0, none⟩) 0 0) (E.w.alloc (.cells rv e)) := by
                    rw [Nat.zero_mul, Array.range_zero', Array.map_empty] at hrv
                    simp [Instr.buildSlice, run_underlying hu, sizeOf, typeInfo, hi, newRow, hrv, Array.range_zero']
                  have st := Stp.fz hn.rel.env (E.w.alloc (.cells rv e)) rfl rfl rfl (by simp) (fun k hk => Below.heap_alloc _ _ _ hk) (fun _ => Nat.le_refl _)
                  refine wp_of_val' (hex _ _ hrun) (hd _ _ (st.evo hn.rel.env) (st.fz_ok hn.rel.env) ?_)
                  exact row_rd (z := 0) (heap_alloc_new _ _) (chunk_length _ _ _) (Nat.le_refl _) (fun _ => rfl) (by simp) (fun e he => by simp [chunk] at he) (fun o ho => by omega)
                    (fun i j e y he => by simp [chunk] at he) (fun o ho => by omega)
                have hpos : 0 < n * i.size := Nat.mul_pos (by omega) hz0
                have hrun := run_buildSlice (P := X.P) E.w t e n pv rv i zv hu hi hzv (by omega) (by omega) hrv
                have st := Stp.fz hn.rel.env (E.w.alloc (.cells rv e)) rfl rfl rfl (by simp) (fun k hk => Below.heap_alloc _ _ _ hk) (fun _ => Nat.le_refl _)
                have ev := st.evo hn.rel.env
                refine wp_of_val' (hex _ _ hrun) (hd _ _ ev (st.fz_ok hn.rel.env) ?_)
                have hdl' : ds.length = n * i.size := by rw [hdl]; simpa using hrvs
                refine row_rd (z := i.size) (heap_alloc_new _ _) (chunk_length _ _ _) (Nat.le_refl _) (fun _ => rfl) (by omega) (fun r hr => ?_) (fun o _ => .inr ⟨Nat.le_refl _, by simp⟩) (fun k j r y hk hy => ?_) (fun o ho u hu' => ?_)
                · obtain ⟨k, hk⟩ := List.getElem?_of_mem hr
                  obtain ⟨h1, rfl⟩ := chunk_get _ _ _ _ _ hk
                  have : (k + 1) * i.size ≤ n * i.size := Nat.mul_le_mul_right _ h1
                  rw [Nat.add_mul] at this
                  simp; omega
                · obtain ⟨h1, rfl⟩ := chunk_get _ _ _ _ _ hk
                  rw [List.getElem?_take] at hy
                  split at hy
                  · rw [List.getElem?_drop] at hy
                    obtain ⟨u, hu', hru⟩ := hdr _ _ hy
                    exact ⟨u, by simpa using hu', hru.evo ev⟩
                  cases hy
                have hlt : o < cs.length := by have := hrr.1; simp at this; omega
                obtain ⟨u', hu2, _, h1⟩ := hrr.2 o _ (List.getElem?_eq_getElem hlt)
                have : u' = u := by rw [Array.getElem?_toList, hu'] at hu2; simpa using hu2.symm
                rw [← this]; exact h1
          cases hb
where
  fill_len (place : Nat → Option (Nat × Nat)) : ∀ (l : List (Nat × Value)) (c r : Array Value), Instr.fill place c l = some r → r.size = c.size
    | [], c, r, h => by simp only [Instr.fill, Option.some.injEq] at h; rw [h]
    | (i, v) :: l, c, r, h => by
      simp only [Instr.fill] at h
      split at h
      · cases h
      rename_i off sz _
      split at h
      · cases h
      have := fill_len place l _ r h
      rw [this]
      have hs := (Great.foldl_set off v.cells.toList 0 c).1
      rw [← Array.foldl_toList, Array.toList_zipIdx]
      exact hs
end
end Go.Ab
namespace Go.Ab
open Go.RowKit
section
variable {X : Ctx} {A : Actn} {E : Env} {s : S} {a : Act}
theorem setAt_rel {E : Env} {h : Hp} {vs : List Value} {us : List Value} {cs xs : List C1} {off : Nat} (hc : CellsRel E h vs cs) (hx : CellsRel E h us xs) (hle : off + xs.length ≤ cs.length) :
    CellsRel E h (vs.take off ++ us ++ vs.drop (off + us.length)) (setAt cs off xs) := by
  have hvl := hc.1
  have hul := hx.1
  refine ⟨by simp [setAt]; omega, fun j x hj => ?_⟩
  simp only [setAt] at hj
  rw [List.append_assoc]
  by_cases h1 : j < off
  · rw [List.getElem?_append_left (by simp; omega), List.getElem?_take, if_pos h1] at hj
    rw [List.getElem?_append_left (by simp; omega), List.getElem?_take, if_pos h1]
    exact hc.2 j x hj
  rw [List.getElem?_append_right (by simp; omega)] at hj
  rw [List.getElem?_append_right (by simp; omega)]
  simp only [List.length_take, Nat.min_eq_left (show off ≤ cs.length by omega)] at hj
  simp only [List.length_take, Nat.min_eq_left (show off ≤ vs.length by omega)]
  by_cases h2 : j - off < xs.length
  · rw [List.getElem?_append_left h2] at hj
    rw [List.getElem?_append_left (by omega)]
    exact hx.2 _ x hj
  rw [List.getElem?_append_right (by omega), List.getElem?_drop] at hj
  rw [List.getElem?_append_right (by omega), List.getElem?_drop, hul]
  exact hc.2 _ x hj
theorem storeVar_run {P : Program} {w : World} {b off : Nat} {t : TypeId} {v : Value} {cur : Array Value} {T : TypeId} {n : Nat} (hb : w.heap[b]? = some (.cells cur T (0, 0)))
    (hn : (P.info? t).map (·.size) = some n) (hv : v.cells.size = n) (hle : off + n ≤ cur.size) (h1 : ∀ u ∈ v.cells.toList, u.oneCell' = true) :
    (storeVar t ⟨b, off, none⟩ v).run P w = .ok () (w.setRow b (cur.toList.take off ++ v.cells.toList ++ cur.toList.drop (off + v.cells.toList.length)).toArray) := by
  have := run_storeCells_at P b off T v.cells.toList 0 cur w hb (by simp; omega) h1
  simp only [Nat.add_zero] at this
  simp [storeVar, run_sizeOf hn, hv, this]
theorem cells_one {E : Env} {h : Hp} {vs : List Value} {cs : List C1} (hc : CellsRel E h vs cs) : ∀ u ∈ vs, u.oneCell' = true := by
  intro u hu
  obtain ⟨j, hj⟩ := List.getElem?_of_mem hu
  have hlt : j < cs.length := by have := lt_of_get hj; have := hc.1; omega
  obtain ⟨u', hu', _, h1⟩ := hc.2 j _ (List.getElem?_eq_getElem hlt)
  rw [hj] at hu'
  cases hu'
  exact h1
theorem Stp.row {A : Actn} {E : Env} {h : Hp} (hE : EnvOk A E h) {id b : Nat} {cs cs' : List C1} {vs' : Array Value} (hid : h[id]? = some (.box cs)) (hρ : E.ρ id = some b)
    (hf : ∀ o, ¬ E.F b o) : Stp A.G.dr E h id { E with w := E.w.setRow b vs' } (h.set id (.box cs')) where
  os := rfl
  tape := rfl
  output := rfl
  size := by simp
  blk k _ hne := setRow_other _ _ _ _ (fun e => hne ⟨lt_of_get hid, by rw [hρ, e]⟩)
  idle := Nat.le_of_lt (lt_of_get hid)
  len := by simp
  len' := by simp; omega
  ρ _ _ _ := rfl
  hh j _ hji := by rw [List.getElem?_set_ne (Ne.symm hji)]
  F _ _ h := h
  F' _ _ h := .inl h
  same x o hx := World.cell?_of_block (setRow_other _ _ _ _ (fun e => hf o (e ▸ hx)))
  at' x _ hx := by
    have hx' : E.ρ id = some x := hx
    rw [hρ] at hx'
    cases hx'
    exact ⟨by simpa using hE.lt_len (lt_of_get hid) hρ, .inr ⟨lt_of_get hid, hρ⟩⟩
  keep o ho := by
    rw [hid] at ho
    cases ho
    exact ⟨⟨.box cs', by simp [lt_of_get hid], rfl⟩, rfl⟩
theorem cells_d' {E : Env} {h : Hp} {vs : List Value} {xs : List D} (hl : vs.length = xs.length) (hx : ∀ (k : Nat) (y : D), xs[k]? = some y → ∃ v, vs[k]? = some v ∧ Rd E.w E.F v y) : CellsRel E h vs (xs.map .d) := by
  refine ⟨by simp [hl], fun j x hj => ?_⟩
  rw [List.getElem?_map] at hj
  cases hq : xs[j]? with
  | none => simp [hq] at hj
  | some y =>
    simp [hq] at hj
    subst hj
    obtain ⟨v, hv, hr⟩ := hx j y hq
    exact ⟨v, hv, hr, hr.one⟩
theorem store_sim (hn : Now X A E s a) {o : Oper} {K : Act → World → Prop} {Q : Exit → Act → World → Prop} {t : TypeId} {p v : AV} {up uv : Value} {h' : Hp}
    (hp : p.rel E s.h up) (hv : v.rel E s.h uv) (hs : X.storeA s.h t p v = some h')
    (hex : ∀ w', (Instr.storeAt t up uv).run X.P E.w = .ok () w' → (execOp a.eval o).run X.P E.w = .ok .skip w') (hd : Done A E s.h o a K Q (.skip h')) : o.wp X.P a E.w K Q := by
  unfold Ctx.storeA at hs
  split at hs
  · rename_i id off
    split at hs
    · rename_i cs hid
      cases hx : v.cs with
      | none => simp [hx] at hs
      | some xs =>
        cases hz : X.size t with
        | none => simp [hx, hz] at hs
        | some n =>
          simp only [hx, hz, Option.bind_some] at hs
          split at hs
          · rename_i hc
            cases hs
            obtain ⟨b, ⟨_, hρ⟩, rfl⟩ := hp
            obtain ⟨b', vs, T, hρ', hb, hcr, hf⟩ := hn.rel.env.ob id _ hid
            rw [hρ] at hρ'
            cases hρ'
            have hxr := cs_rel hv hx
            have hxl : uv.cells.size = n := by have := hxr.1; simp at this; omega
            have hvl : vs.size = cs.length := by have := hcr.1; simpa using this
            have hrun := storeVar_run (P := X.P) (w := E.w) (off := off) hb (size_info hz) hxl (by omega) (cells_one hxr)
            have st := Stp.row hn.rel.env (cs' := setAt cs off xs) (vs' := (vs.toList.take off ++ uv.cells.toList ++ vs.toList.drop (off + uv.cells.toList.length)).toArray) hid hρ hf
            have ev := st.evo hn.rel.env
            have hrun' := hex _ (by simp only [Instr.storeAt, Instr.sureAddr, Sem.run_bind, Sem.run_pure, Result.andThen_ok]; exact hrun)
            simp only [Oper.wp, hrun', Oper.upon_skip]
            refine hd _ ev (st.ok hn.rel.env fun o ho => ?_)
            simp [lt_of_get hid] at ho
            subst ho
            refine ⟨b, _, T, hρ, setRow_heap _ _ _ _ _ _ hb, ?_, hf⟩
            exact (setAt_rel hcr hxr (by omega)).evo ev (Nat.le_refl _)
          cases hs
    cases hs
  · rename_i id n off
    split at hs
    · rename_i m z ds hid
      cases hx : v.cs with
      | none => simp [hx] at hs
      | some xs =>
        skip
        cases hz : X.size t with
        | none => simp [hx, hz] at hs
        | some k =>
          simp only [hx, hz, Option.bind_some] at hs
          split at hs
          · rename_i hc
            obtain ⟨rfl, hdl, hle⟩ := hc
            cases hs
            obtain ⟨b, rfl, m', z', c', hid', _, hpv⟩ := hp
            rw [hid] at hid'
            cases hid'
            have hρ := hpv rfl
            have hidl := lt_of_get hid
            obtain ⟨hz0, h3 | ⟨b', vs, T, hρ', hb, hnz, hcr, hf⟩⟩ := hn.rel.env.ob id _ hid
            · rw [hρ] at h3; cases h3.1
            rw [hρ] at hρ'
            cases hρ'
            have hxr := cs_rel hv hx
            have hxl : uv.cells.size = k := by have := hxr.1; simp at this; omega
            have hdsl : ds.length = n * z := by have := hcr.1; simp at this; omega
            have hrun := storeVar_run (P := X.P) (w := E.w) (off := off) hb (size_info hz) hxl (by omega) (cells_one hxr)
            generalize hrow : (vs.toList.take off ++ uv.cells.toList ++ vs.toList.drop (off + uv.cells.toList.length)).toArray = row at hrun
            have hulen : uv.cells.toList.length = k := by simpa using hxl
            have hrs : row.size = vs.size := by rw [← hrow]; simp; omega
            have htake : row.toList.take (n * z) = (vs.toList.take (n * z)).take off ++ uv.cells.toList ++ (vs.toList.take (n * z)).drop (off + uv.cells.toList.length) := by
              rw [← hrow, List.toList_toArray, List.take_take, Nat.min_eq_left (by omega), List.append_assoc, List.append_assoc, List.take_append, List.take_append]
              have e1 : (vs.toList.take off).length = off := by simp; omega
              rw [e1, hulen, List.drop_take]
              congr 1
              · rw [List.take_take, Nat.min_eq_right (by omega)]
              congr 1
              · rw [List.take_of_length_le (by rw [hulen]; omega)]
              congr 1
              omega
            have hheap : (E.w.setRow b row).heap[b]? = some (.cells row T (0, 0)) := setRow_heap _ _ _ _ _ _ hb
            have hbl : b < E.w.heap.size := (Array.getElem?_eq_some_iff.1 hb).1
            have hat : (s.h.set id (.tok n z (some (setAt ds off xs))))[id]? = some (.tok n z (some (setAt ds off xs))) := by simp [hidl]
            let E' : Env := { E with w := E.w.setRow b row }
            have st : Stp A.G.dr E s.h id E' (s.h.set id (.tok n z (some (setAt ds off xs)))) := {
              os := rfl
              tape := rfl
              output := rfl
              size := by simp [E']
              blk := fun k _ hne => setRow_other _ _ _ _ (fun e => hne ⟨hidl, by rw [hρ, e]⟩)
              idle := Nat.le_of_lt hidl
              len := by simp
              len' := by simp; omega
              ρ := fun _ _ _ => rfl
              hh := fun j _ hji => by rw [List.getElem?_set_ne (Ne.symm hji)]
              F := fun _ _ h => h
              F' := fun c o h => .inl h
              same := fun c o hfr => by
                by_cases hcb : c = b
                · subst hcb; exact absurd hfr (hf o)
                exact World.cell?_of_block (setRow_other _ _ _ _ hcb)
              at' := fun c _ hc => by
                have hc' : E.ρ id = some c := hc
                rw [hρ] at hc'
                cases hc'
                exact ⟨by simpa [E'] using hbl, .inr ⟨hidl, hρ⟩⟩
              keep := fun o ho => by
                rw [hid] at ho
                cases ho
                exact ⟨n, _, hat, Nat.le_refl _, fun _ => ⟨rfl, fun b2 vs2 T2 h2 h3 => by
                  rw [hρ] at h2
                  cases h2
                  rw [hb] at h3
                  cases h3
                  exact ⟨row, T, hheap, hrs⟩⟩⟩ }
            have ev := st.evo hn.rel.env
            have hrun' := hex _ (by simp only [Instr.storeAt, Instr.sureAddr, Sem.run_bind, Sem.run_pure, Result.andThen_ok]; exact hrun)
            simp only [Oper.wp, hrun', Oper.upon_skip]
            refine hd E' ev (st.ok hn.rel.env fun o ho => ?_)
            rw [hat] at ho
            cases ho
            refine ⟨hz0, .inr ⟨b, row, T, hρ, hheap, by rw [hrs]; exact hnz, ?_, hf⟩⟩
            rw [htake]
            exact (setAt_rel hcr hxr (by omega)).evo ev (Nat.le_refl _)
          cases hs
    cases hs
  cases hs
theorem elems_rel {E : Env} {h : Hp} {v : Value} {c : C1} {es : List (List D)} (hr : c.rel E h v) (he : c.elems = some es) : ∃ full, Rd E.w E.F v (.sl full es) ∧ (c.toD = some (.sl full es)) := by
  unfold C1.elems at he
  split at he
  · rename_i full es'
    cases he
    exact ⟨full, hr, rfl⟩
  · cases he
    exact ⟨false, hr.1, rfl⟩
  cases he
theorem Rd.weak {w : World} {F : Fz} {v : Value} {full : Bool} {es : List (List D)} (h : Rd w F v (.sl full es)) : Rd w F v (.sl false es) := by
  cases h with
  | nil b f => exact .nil b _
  | sl b o len cap size full es vals hlen hcap hfull hsize hF hc h1 hr => exact .sl b o len cap size false es vals hlen hcap (by simp) hsize hF hc h1 hr
theorem sl_inv {w : World} {F : Fz} {v : Value} {full : Bool} {es : List (List D)} (h : Rd w F v (.sl full es)) : ∃ a cap, v = .slice a es.length cap ∧ es.length ≤ cap ∧ (full = true → cap = es.length) ∧ (a = none → es = [] ∧ cap = 0) := by
  cases h with
  | nil b f => exact ⟨b, 0, rfl, Nat.le_refl _, fun _ => rfl, fun _ => ⟨rfl, rfl⟩⟩
  | sl b o len cap size full es vals hlen hcap hfull hsize hF hc h1 hr =>
    subst hlen
    exact ⟨_, _, rfl, hcap, hfull, fun h => by cases h⟩
theorem sl_cases {w : World} {F : Fz} {v : Value} {full : Bool} {es : List (List D)} (h : Rd w F v (.sl full es)) : (∃ base, v = .slice base 0 0 ∧ es = []) ∨
    ∃ b o cap size, ∃ vals : Nat → Nat → Value, v = .slice (some ⟨b, o, none⟩) es.length cap ∧ es.length ≤ cap ∧ (full = true → cap = es.length) ∧ (∀ e ∈ es, e.length = size) ∧
      (∀ i j, i < es.length → j < size → F b (o + i * size + j)) ∧ (∀ i j, i < es.length → j < size → w.cell? ⟨b, o + i * size + j, none⟩ = some (vals i j)) ∧
      (∀ i j, i < es.length → j < size → (vals i j).oneCell' = true) ∧ ∀ (i j : Nat) (e : List D) (y : D), es[i]? = some e → e[j]? = some y → Rd w F (vals i j) y := by
  cases h with
  | nil b f => exact .inl ⟨b, rfl, rfl⟩
  | sl b o len cap size full es vals hlen hcap hfull hsize hF hc h1 hr =>
    subst hlen
    exact .inr ⟨b, o, cap, size, vals, rfl, hcap, hfull, hsize, hF, hc, h1, hr⟩
theorem elem_ptr {w : World} {F : Fz} {v : Value} {full : Bool} {es : List (List D)} {i z : Nat} {r : List D} (h : Rd w F v (.sl full es)) (hi : es[i]? = some r) (hz : r.length = z) :
    ∃ b o cap, v = .slice (some ⟨b, o, none⟩) es.length cap ∧ DPtr w F (.pointer (some ⟨b, o + i * z, none⟩)) r := by
  cases h with
  | nil b f => simp at hi
  | sl b o len cap size full es vals hlen hcap hfull hsize hF hc h1 hr =>
    subst hlen
    have hil := lt_of_get hi
    have hs : r.length = size := hsize r (List.mem_of_getElem? hi)
    have hzs : z = size := by omega
    subst hzs
    refine ⟨b, o, cap, rfl, b, o + i * z, rfl, fun j x hj => ?_⟩
    have hjl : j < z := by have := lt_of_get hj; omega
    exact ⟨hF i j hil hjl, vals i j, hc i j hil hjl, hr i j r x hi hj⟩
theorem Addr.add_zero_none (b o n : Nat) : (⟨b, o, none⟩ : Addr).add n = ⟨b, o + n, none⟩ := Addr.add_mid b o n
theorem dptr_drop {w : World} {F : Fz} {b o : Nat} {xs : List D} (h : DPtr w F (.pointer (some ⟨b, o, none⟩)) xs) (n : Nat) : DPtr w F (.pointer (some ⟨b, o + n, none⟩)) (xs.drop n) := by
  obtain ⟨b', o', he, hx⟩ := h
  cases he
  refine ⟨b, o + n, rfl, fun j x hj => ?_⟩
  rw [List.getElem?_drop] at hj
  have := hx _ x hj
  rw [Nat.add_assoc]
  exact this
theorem indexAddr_sim {t : TypeId} {x : AV} {ux : Value} {k : IntKind} {i : Int} {c : C1} (hx : x.rel E s.h ux) (h : X.indexAddrA t x i = some c) :
    ∃ u, (Instr.indexAt t ux (.int k i)).run X.P E.w = .ok u E.w ∧ c.rel E s.h u := by
  unfold Ctx.indexAddrA at h
  cases hu : X.P.underlying t with
  | none => simp [hu] at h
  | some dt =>
    simp only [hu, Option.bind_some] at h
    split at h
    · rename_i e ps
      cases hz : X.size e with
      | none => simp [hz] at h
      | some z =>
        simp only [hz, Option.bind_some] at h
        split at h
        · rename_i hi
          obtain ⟨rfl, hi0, hi1⟩ := hi
          cases h
          obtain ⟨b, o, cap, rfl, hp⟩ := id hx
          refine ⟨.pointer (some ⟨b, o + i.toNat * 1, none⟩), ?_, b, o + i.toNat * 1, rfl, fun j p hj => ?_⟩
          · simp only [Instr.indexAt, run_underlying hu, asIntOf, Sem.run_bind, Sem.run_pure, Result.andThen_ok]
            rw [if_pos ⟨hi0, by omega⟩]
            simp [run_sizeOf (size_info hz), Addr.add_zero_none]
          rw [List.getElem?_drop] at hj
          have := hp _ p hj
          rw [Nat.mul_one, Nat.add_assoc]
          exact this
        cases h
    · rename_i e c0 _
      cases he : c0.elems with
      | none => simp [he] at h
      | some es =>
        cases hz : X.size e with
        | none => simp [he, hz] at h
        | some z =>
          simp only [he, hz, Option.bind_some] at h
          split at h
          · rename_i hi0
            cases hr : es[i.toNat]? with
            | none => simp [hr] at h
            | some r =>
              simp only [hr, Option.bind_some] at h
              split at h
              · rename_i hrl
                cases h
                obtain ⟨full, hrd, _⟩ := elems_rel hx he
                obtain ⟨b, o, cap, rfl, hp⟩ := elem_ptr hrd hr hrl
                have hlt := lt_of_get hr
                refine ⟨_, ?_, hp⟩
                simp only [Instr.indexAt, run_underlying hu, asIntOf, Sem.run_bind, Sem.run_pure, Result.andThen_ok]
                rw [if_pos ⟨hi0, by omega⟩]
                simp [run_sizeOf (size_info hz), Addr.add_zero_none]
              cases h
          cases h
    · rename_i n e xs
      cases hz : X.size e with
      | none => simp [hz] at h
      | some z =>
        simp only [hz, Option.bind_some] at h
        split at h
        · rename_i hi
          cases h
          obtain ⟨b, o, rfl, hp⟩ := id hx
          refine ⟨.pointer (some ⟨b, o + i.toNat * z, none⟩), ?_, dptr_drop ⟨b, o, rfl, hp⟩ _⟩
          simp only [Instr.indexAt, run_underlying hu, asIntOf, Instr.sureAddr, Sem.run_bind, Sem.run_pure, Result.andThen_ok]
          rw [if_pos hi]
          simp [run_sizeOf (size_info hz), Addr.add_zero_none]
        cases h
    · rename_i n e id off
      cases hz : X.size e with
      | none => simp [hz] at h
      | some z =>
        simp only [hz, Option.bind_some] at h
        split at h
        · rename_i hi
          cases h
          obtain ⟨b, hat, rfl⟩ := hx
          refine ⟨.pointer (some ⟨b, off + i.toNat * z, none⟩), ?_, b, hat, rfl⟩
          simp only [Instr.indexAt, run_underlying hu, asIntOf, Instr.sureAddr, Sem.run_bind, Sem.run_pure, Result.andThen_ok]
          rw [if_pos hi]
          simp [run_sizeOf (size_info hz), Addr.add_zero_none]
        cases h
    cases h
theorem data_get (s : ByteArray) (i : Nat) (b : UInt8) (h : s.data.toList[i]? = some b) : s[i]? = some b := by
  have hl : i < s.size := by have := lt_of_get h; rw [Lib.size_eq]; exact this
  rw [ByteArray.getElem?_lt' s i hl]
  rw [List.getElem?_eq_getElem (lt_of_get h)] at h
  simp at h
  rw [← h]
  rfl
theorem index_sim {t : TypeId} {x v : AV} {ux : Value} {k : IntKind} {i : Int} (hx : x.rel E s.h ux) (h : X.indexA t x i = some v) :
    ∃ u, (Instr.index t ux (.int k i)).run X.P E.w = .ok u E.w ∧ v.rel E s.h u := by
  unfold Ctx.indexA at h
  cases hu : X.P.underlying t with
  | none => simp [hu] at h
  | some dt =>
    simp only [hu, Option.bind_some] at h
    split at h
    · rename_i l
      split at h
      · rename_i hi
        cases hb : l[i.toNat]? with
        | none => simp [hb] at h
        | some b =>
          simp [hb] at h
          subst h
          obtain ⟨s', rfl, rfl⟩ := str_inv (rel_d hx)
          refine ⟨.int .u8 b.toNat, ?_, .int _ _⟩
          simp [Instr.index, run_underlying hu, asIntOf, hi, data_get s' _ b hb]
      cases h
    · rename_i n e cs
      cases hz : X.size e with
      | none => simp [hz] at h
      | some z =>
        simp only [hz, Option.bind_some] at h
        split at h
        · rename_i hi
          cases hp : X.part e cs (i.toNat * z) with
          | none => simp [hp] at h
          | some y =>
            simp [hp] at h
            subst h
            obtain ⟨vs, rfl, hc⟩ := hx
            obtain ⟨u, hru, hrel⟩ := part_sim (E := E) (h := s.h) hc hp
            refine ⟨u, ?_, hrel⟩
            simp only [Instr.index, run_underlying hu, asIntOf, Sem.run_bind, Sem.run_pure, Result.andThen_ok]
            rw [if_pos hi]
            simp [run_sizeOf (size_info hz), hru]
        cases h
    cases h
theorem sliceBound_run {P : Program} {w : World} {k : IntKind} {i : Int} {y : Nat} {code : BoundsCode} (h : 0 ≤ i ∧ i ≤ y) : (Instr.sliceBound (.int k i) y code).run P w = .ok i.toNat w := by
  simp only [Instr.sliceBound, asIntOf, Sem.run_bind, Sem.run_pure, Result.andThen_ok]
  rw [if_pos h]
  rfl
def BoundRel (v : Option Value) (i : Option Int) : Prop := match v, i with
  | none, none => True
  | some v, some n => ∃ k, v = .int k n
  | _, _ => False
theorem sliceBounds_run {P : Program} {w : World} {isS : Bool} {len cap : Nat} {lo hi mx : Option Value} {l h m : Option Int} (h1 : BoundRel lo l) (h2 : BoundRel hi h) (h3 : BoundRel mx m)
    (hl : 0 ≤ l.getD 0) (hlh : l.getD 0 ≤ h.getD len) (hhm : h.getD len ≤ m.getD (if h.isSome then cap else len)) (hmc : m.getD cap ≤ cap) (hmh : m.isSome → h.isSome) :
    (Instr.sliceBounds isS len cap lo hi mx).run P w = .ok ((l.getD 0).toNat, (h.getD len).toNat, (m.getD cap).toNat) w := by
  cases mx with
  | none =>
    cases m with
    | some _ => exact h3.elim
    | none =>
      cases hi with
      | none =>
        cases h with
        | some _ => exact h2.elim
        | none =>
          cases lo with
          | none =>
            cases l with
            | some _ => exact h1.elim
            | none => simp [Instr.sliceBounds]
          | some v =>
            cases l with
            | none => exact h1.elim
            | some n =>
              obtain ⟨k, rfl⟩ := h1
              simp at hl hlh
              simp [Instr.sliceBounds, sliceBound_run ⟨hl, hlh⟩]
      | some v =>
        cases h with
        | none => exact h2.elim
        | some n =>
          obtain ⟨k, rfl⟩ := h2
          simp at hlh hhm
          have hn0 : 0 ≤ n := by omega
          have hb := fun code => sliceBound_run (P := P) (w := w) (k := k) (code := code) (y := cap) ⟨hn0, hhm⟩
          cases lo with
          | none =>
            cases l with
            | some _ => exact h1.elim
            | none => simp [Instr.sliceBounds, hb]
          | some v =>
            cases l with
            | none => exact h1.elim
            | some n' =>
              obtain ⟨k', rfl⟩ := h1
              simp at hl hlh
              have hb' := fun code => sliceBound_run (P := P) (w := w) (k := k') (code := code) (i := n') (y := n.toNat) ⟨hl, by omega⟩
              simp [Instr.sliceBounds, hb, hb']
  | some vm =>
    cases m with
    | none => exact h3.elim
    | some nm =>
      obtain ⟨km, rfl⟩ := h3
      cases hi with
      | none =>
        cases h with
        | some _ => exact h2.elim
        | none => simp at hmh
      | some v =>
        cases h with
        | none => exact h2.elim
        | some n =>
          obtain ⟨k, rfl⟩ := h2
          simp at hlh hhm hmc
          have hn0 : 0 ≤ n := by omega
          have hbm := fun code => sliceBound_run (P := P) (w := w) (k := km) (code := code) (i := nm) (y := cap) ⟨by omega, hmc⟩
          have hb := fun code => sliceBound_run (P := P) (w := w) (k := k) (code := code) (i := n) (y := nm.toNat) ⟨hn0, by omega⟩
          cases lo with
          | none =>
            cases l with
            | some _ => exact h1.elim
            | none => simp [Instr.sliceBounds, hb, hbm]
          | some v =>
            cases l with
            | none => exact h1.elim
            | some n' =>
              obtain ⟨k', rfl⟩ := h1
              simp at hl hlh
              have hb' := fun code => sliceBound_run (P := P) (w := w) (k := k') (code := code) (i := n') (y := n.toNat) ⟨hl, by omega⟩
              simp [Instr.sliceBounds, hb, hb', hbm]
theorem slice_sim {t : TypeId} {x : AV} {ux : Value} {lo hi mx : Option Value} {l h m : Option Int} {d : D} (hx : x.rel E s.h ux) (h1 : BoundRel lo l) (h2 : BoundRel hi h) (h3 : BoundRel mx m)
    (hs : X.sliceA t x l h m = some d) : ∃ u, (Instr.sliceAt t ux lo hi mx).run X.P E.w = .ok u E.w ∧ Rd E.w E.F u d := by
  unfold Ctx.sliceA at hs
  cases hu : X.P.underlying t with
  | none => simp [hu] at hs
  | some dt =>
    simp only [hu, Option.bind_some] at hs
    split at hs
    · rename_i str
      split at hs
      · rename_i hc
        cases hs
        obtain ⟨hm, hl, hlh, hhs⟩ := hc
        obtain ⟨s', rfl, rfl⟩ := str_inv (rel_d hx)
        have hm' : m = none := by cases m <;> simp_all
        subst hm'
        have hmx : mx = none := by cases mx <;> simp_all [BoundRel]
        subst hmx
        rw [← Lib.size_eq] at hlh hhs
        have hb := sliceBounds_run (P := X.P) (w := E.w) (isS := false) (len := s'.size) (cap := s'.size) (mx := none) (m := none) h1 h2 trivial hl hlh (by cases h <;> simp_all) (by simp) (by simp)
        refine ⟨.string (s'.extract (l.getD 0).toNat (h.getD s'.size).toNat), ?_, Rd.str' ?_⟩
        · simp [Instr.sliceAt, Instr.slice, run_underlying hu, hb]
        rw [Lib.extract_data, Lib.size_eq]
      cases hs
    · rename_i e c
      cases he : c.elems with
      | none => simp [he] at hs
      | some es =>
        cases hz : X.size e with
        | none => simp [he, hz] at hs
        | some z =>
          simp only [he, hz, Option.bind_some] at hs
          split at hs
          · rename_i hc
            obtain ⟨hmh, hmm, hez, hl, hlh, hhe⟩ := hc
            cases hs
            obtain ⟨full, hrd, htd⟩ := elems_rel hx he
            have hmi : m.isSome → h.isSome := fun hi => by rcases hmh with h' | h' <;> simp_all
            have hln : (l.getD 0).toNat ≤ (h.getD es.length).toNat := by omega
            have hhn : (h.getD es.length).toNat ≤ es.length := by omega
            generalize hbb : fullOf m c (h.getD es.length) es.length = bb
            have hbounds : ∀ cap, es.length ≤ cap → (Instr.sliceBounds true es.length cap lo hi mx).run X.P E.w = .ok ((l.getD 0).toNat, (h.getD es.length).toNat, (m.getD cap).toNat) E.w := fun cap hcap =>
              sliceBounds_run h1 h2 h3 hl hlh
                (by cases m with
                    | none => cases h <;> simp_all <;> omega
                    | some q => have := hmm q rfl; simp; omega)
                (by cases m with
                    | none => simp
                    | some q => have := hmm q rfl; simp; omega) hmi
            have hmn : ∀ cap, es.length ≤ cap → (h.getD es.length).toNat ≤ (m.getD cap).toNat := fun cap hcap => by
              cases m with
              | none => simp; omega
              | some q => have := hmm q rfl; simp; omega
            have hlen : ((es.drop (l.getD 0).toNat).take ((h.getD es.length).toNat - (l.getD 0).toNat)).length = (h.getD es.length).toNat - (l.getD 0).toNat := by simp; omega
            rcases sl_cases hrd with ⟨base, rfl, rfl⟩ | ⟨b, o, cap, size, vals, rfl, hcap, hfull, hsize, hF, hcl, h1', hr⟩
            · have hH : (h.getD ↑([] : List (List D)).length).toNat = 0 := by simpa using hhn
              have hL : (l.getD 0).toNat = 0 := by omega
              have hM : (m.getD ((0 : Nat) : Int)).toNat = 0 := by
                cases m with
                | none => rfl
                | some q => have := hmm q rfl; simp at this ⊢; omega
              refine ⟨.slice base 0 0, ?_, ?_⟩
              · have hb0 := hbounds 0 (Nat.le_refl _)
                rw [hH, hL, hM] at hb0
                simp only [List.length_nil] at hb0
                cases base <;> simp [Instr.sliceAt, Instr.slice, run_underlying hu, hb0, run_sizeOf (size_info hz)]
              simp only [List.drop_nil, List.take_nil]
              exact .nil _ _
            have hb0 := hbounds cap hcap
            have hM := hmn cap hcap
            have hrun : (Instr.sliceAt t (.slice (some ⟨b, o, none⟩) es.length cap) lo hi mx).run X.P E.w = .ok (.slice (if (m.getD cap).toNat = (l.getD 0).toNat then some ⟨b, o, none⟩ else some ⟨b, o + (l.getD 0).toNat * z, none⟩) ((h.getD es.length).toNat - (l.getD 0).toNat) ((m.getD cap).toNat - (l.getD 0).toNat)) E.w := by
              simp [Instr.sliceAt, Instr.slice, run_underlying hu, hb0, run_sizeOf (size_info hz), Addr.add_zero_none]
            refine ⟨_, hrun, ?_⟩
            have hfb : bb = true → (m.getD cap).toNat = (h.getD es.length).toNat := by
              intro hbt
              rw [hbt] at hbb
              unfold fullOf at hbb
              cases m with
              | some q =>
                have hq : q = h.getD ↑es.length := by simpa using hbb
                simp [hq]
              | none =>
                simp only at hbb
                split at hbb
                · rename_i f es1
                  simp at hbb
                  obtain ⟨hf, hq⟩ := hbb
                  simp [C1.toD] at htd
                  have := hfull (htd.1 ▸ hf)
                  simp [hq, this]
                cases hbb
            clear hbb hb0 hrun hbounds hmn
            generalize (l.getD 0).toNat = L at *
            generalize (h.getD es.length).toNat = H at *
            generalize (m.getD cap).toNat = M at *
            have hmem : ∀ r ∈ (es.drop L).take (H - L), r.length = z := fun r hr => hez r (List.mem_of_mem_drop (List.mem_of_mem_take hr))
            have hget : ∀ (i : Nat) (r : List D), ((es.drop L).take (H - L))[i]? = some r → es[L + i]? = some r ∧ i < H - L := fun i r hr => by
              rw [List.getElem?_take] at hr
              split at hr
              · rw [List.getElem?_drop] at hr; exact ⟨hr, by assumption⟩
              cases hr
            by_cases hHL : H - L = 0
            · have e0 : (es.drop L).take (H - L) = [] := List.eq_nil_of_length_eq_zero (by rw [hlen, hHL])
              rw [e0, hHL]
              split
              all_goals exact .sl b _ 0 (M - L) 0 bb [] (fun _ _ => undef) rfl (by omega) (fun h => by have := hfb h; omega) (by simp) (fun i j hi => by omega) (fun i j hi => by omega) (fun i j hi => by omega) (fun i j e y he => by simp at he)
            rw [if_neg (by omega)]
            have hsz : size = z := by
              have hlt : L < es.length := by omega
              have hmem := List.getElem_mem (l := es) (n := L) hlt
              rw [← hsize _ hmem, hez _ hmem]
            subst hsz
            have hadd : ∀ i j, o + L * size + i * size + j = o + (L + i) * size + j := fun i j => by rw [Nat.add_mul]; omega
            refine .sl b _ (H - L) (M - L) size bb _ (fun i j => vals (L + i) j) hlen (by omega) (fun h => by have := hfb h; omega) hmem (fun i j hi hj => ?_) (fun i j hi hj => ?_) (fun i j hi hj => h1' _ _ (by omega) hj) (fun i j e y he hy => ?_)
            · rw [hadd]; exact hF _ _ (by omega) hj
            · rw [hadd]; exact hcl _ _ (by omega) hj
            obtain ⟨he', _⟩ := hget i e he
            exact hr _ _ e y he' hy
          cases hs
    cases hs
end
end Go.Ab
