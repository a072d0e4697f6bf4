/-
  Texts of the layer and of the laws, put together: Ab4, Ab5. No law is stated here.
-/
import Derived.Test.YteeepgnhkfmnaaaDoorAbVol1
import Derived.WalkLawsBesides
import Derived.Great.BuildSlice
import Derived.Lib.ConvBytes
set_option linter.unusedSimpArgs false
set_option linter.unusedVariables false
set_option maxRecDepth 100000

/-
  Each operation of the code does what the abstract one says: operations that leave the world alone.
-/
namespace Go.Ab
open Go.RowKit

def Done (A : Actn) (E : Env) (h : Hp) (o : Oper) (a : Act) (K : Act → World → Prop) (Q : Exit → Act → World → Prop) : OpR → Prop
  | .val v h' => ∀ u E', Evo h.length E h E' h' → EnvOk A E' h' → v.rel E' h' u → K (a.put o.dst u) E'.w
  | .skip h' => ∀ E', Evo h.length E h E' h' → EnvOk A E' h' → K (a.put o.dst undef) E'.w
  | .pan x h' => ∀ u E', Evo h.length E h E' h' → EnvOk A E' h' → x.rel E' h' u → Q (.panic [{ v := u, recovered := false }]) a E'.w

/-- What a call does, by the tables. -/
def hdl (X : Ctx) (f : FuncId) (args : List AV) (h : Hp) : Option COut :=
  match X.M f with
  | some m => (m args).map fun v => .ret v h
  | none => match X.N f with
    | some m => (m args).map fun r => r.at h
    | none => X.K f args h

/-- What one call does is as said. -/
def FOk (P : Program) (G : Gl) (f : FuncId) (args : List AV) (h : Hp) (out : COut) : Prop :=
  ∀ (A : Actn) (E : Env) (vs : Array Value), A.G = G → EnvOk A E h → vs.size = args.length → (∀ (j : Nat) (x : AV), args[j]? = some x → x.rel E h (vs.getD j undef)) →
  ∀ (o : Oper) (a : Act) (K : Act → World → Prop) (Q : Exit → Act → World → Prop), Done A E h o a K Q out.op → o.upon P a K Q ((callFunc f vs).run P E.w)

/-- What the tables say of calls is so. -/
def KOk (X : Ctx) : Prop := ∀ (f : FuncId) (args : List AV) (h : Hp) (out : COut), hdl X f args h = some out → FOk X.P X.G f args h out

theorem litC_rel (E : Env) (h : Hp) (v : Value) : (litC v).rel E h v := by
  unfold litC
  split <;> simp only [C1.rel] <;> first | exact .bool _ | exact .int _ _ | exact .str _ | exact .nil _ _ | trivial

theorem litV_rel (E : Env) (h : Hp) (v : Value) : (litV v).rel E h v := by
  cases v with
  | agg cs =>
    simp only [litV]
    split
    · rename_i hc
      refine ⟨cs.toList, by simp, by simp, fun j x hj => ?_⟩
      rw [List.getElem?_map] at hj
      cases hv : cs.toList[j]? with
      | none => simp [hv] at hj
      | some u =>
        simp [hv] at hj
        subst hj
        exact ⟨u, rfl, litC_rel E h u, List.all_eq_true.1 hc u (List.mem_of_getElem? hv)⟩
    · trivial
  | _ => (simp only [litV, AV.rel, V.rel]; exact litC_rel E h _)

section
variable {X : Ctx} {A : Actn} {E : Env} {s : S} {a : Act}

structure Now (X : Ctx) (A : Actn) (E : Env) (s : S) (a : Act) : Prop where
  G : A.G = X.G
  rel : Rel A E s a E.w

theorem ev_rel (hn : Now X A E s a) (x : Operand) : (X.ev s x).rel E s.h (a.eval x) := by
  cases x with
  | tmp t => exact hn.rel.tmps t
  | const v => exact litV_rel E s.h v
  | global g =>
    simp only [Ctx.ev]
    cases hg : X.G.f g with
    | none => trivial
    | some xs => exact hn.rel.env.glob g xs (by rw [hn.G]; exact hg)
  | func f => exact ⟨[], rfl, rfl, fun j p hp => by simp at hp⟩

/-- An operation that yields a value in the world as it is. -/
theorem done_val (hn : Now X A E s a) {o : Oper} {K : Act → World → Prop} {Q : Exit → Act → World → Prop} {u : Value} {v : AV}
    (hd : Done A E s.h o a K Q (.val v s.h)) (hr : v.rel E s.h u) : K (a.put o.dst u) E.w :=
  hd u E (Evo.refl (Nat.le_refl _)) hn.rel.env hr

theorem wp_of_val {P : Program} {w : World} {o : Oper} {K : Act → World → Prop} {Q : Exit → Act → World → Prop} {u : Value} (hr : (execOp a.eval o).run P w = .ok (.value u) w) (hk : K (a.put o.dst u) w) : o.wp P a w K Q := by
  simp only [Oper.wp, hr, Oper.upon_value]; exact hk

theorem wp_of_val' {P : Program} {w w' : World} {o : Oper} {K : Act → World → Prop} {Q : Exit → Act → World → Prop} {u : Value} (hr : (execOp a.eval o).run P w = .ok (.value u) w') (hk : K (a.put o.dst u) w') : o.wp P a w K Q := by
  simp only [Oper.wp, hr, Oper.upon_value]; exact hk

theorem rel_d {E : Env} {h : Hp} {v : Value} {x : D} (hr : (AV.d x).rel E h v) : Rd E.w E.F v x := hr

theorem int_inv {w : World} {F : Fz} {v : Value} {k : IntKind} {n : Int} (h : Rd w F v (.int k n)) : v = .int k n := by cases h; rfl
theorem bool_inv {w : World} {F : Fz} {v : Value} {b : Bool} (h : Rd w F v (.bool b)) : v = .bool b := by cases h; rfl
theorem str_inv {w : World} {F : Fz} {v : Value} {l : List UInt8} (h : Rd w F v (.str l)) : ∃ s : ByteArray, v = .string s ∧ s.data.toList = l := by cases h with | str s => exact ⟨s, rfl, rfl⟩
theorem Rd.str' {w : World} {F : Fz} {s : ByteArray} {l : List UInt8} (h : s.data.toList = l) : Rd w F (.string s) (.str l) := h ▸ .str s

theorem intA_sim {P : Program} {w w' : World} {F : Fz} {op : BinOp} {t : TypeId} {k k' : IntKind} {x y : Int} {d : D} (h : intA op k k' x y = some d) :
    ∃ v, (binOp op t (.int k x) (.int k' y)).run P w = .ok v w ∧ Rd w' F v d := by
  cases op <;> simp only [intA] at h
  case shl =>
    split at h
    · cases h
    · rename_i hb
      cases h
      exact ⟨.int k _, by simp only [binOp, Op.shift, if_neg hb, Sem.run_pure], .int _ _⟩
  case shr =>
    split at h
    · cases h
    · rename_i hb
      cases h
      exact ⟨.int k _, by simp only [binOp, Op.shift, if_neg hb, Sem.run_pure], .int _ _⟩
  case quo =>
    split at h
    · rename_i hk; subst hk
      split at h
      · cases h
      · rename_i hb
        cases h
        exact ⟨.int k _, by simp only [binOp_quo, Op.intDiv, if_neg hb, Sem.run_pure], .int _ _⟩
    · cases h
  case rem =>
    split at h
    · rename_i hk; subst hk
      split at h
      · cases h
      · rename_i hb
        cases h
        exact ⟨.int k _, by simp only [binOp_rem, Op.intDiv, if_neg hb, Sem.run_pure], .int _ _⟩
    · cases h
  all_goals
    split at h
    · rename_i hk; subst hk
      simp only [cmpI, Option.map_some, Option.some.injEq] at h
      subst h
      first
        | exact ⟨.int k _, by simp [binOp, Op.intArith, Op.intBits, bits], .int _ _⟩
        | exact ⟨.bool _, by simp [binOp, Op.intCmp], .bool _⟩
    · cases h

theorem strA_sim {P : Program} {w w' : World} {F : Fz} {op : BinOp} {t : TypeId} {x y : ByteArray} {d : D} (h : strA op x.data.toList y.data.toList = some d) :
    ∃ v, (binOp op t (.string x) (.string y)).run P w = .ok v w ∧ Rd w' F v d := by
  cases op <;> simp only [strA, Option.some.injEq] at h
  case add =>
    split at h
    · rename_i hl
      cases h
      refine ⟨.string (x ++ y), ?_, Rd.str' (by simp)⟩
      rw [binOp_string_add]
      exact run_string_add_sum w x y (by rw [Lib.size_eq, Lib.size_eq]; omega)
    · cases h
  all_goals first
    | (cases h; done)
    | (subst h
       exact ⟨.bool _, by simp only [binOp, Op.stringOp, ByteArray.toList_eq, Sem.run_pure], .bool _⟩)

theorem boolA_sim {P : Program} {w w' : World} {F : Fz} {op : BinOp} {t : TypeId} {x y : Bool} {d : D} (ht : P.underlying t = some .bool) (h : boolA op x y = some d) :
    ∃ v, (binOp op t (.bool x) (.bool y)).run P w = .ok v w ∧ Rd w' F v d := by
  have he0 : ∀ d, (Op.equalIn (d + 1) t (.bool x) (.bool y)).run P w = .ok (x == y) w := fun d => by simp [Op.equalIn, run_underlying ht]
  have he : (Op.equal t (.bool x) (.bool y)).run P w = .ok (x == y) w := he0 9999
  cases op <;> simp only [boolA] at h
  case eql => cases h; exact ⟨.bool (x == y), by simp [binOp, he], .bool _⟩
  case neq => cases h; exact ⟨.bool (!(x == y)), by simp [binOp, he], .bool _⟩
  all_goals cases h

theorem unA_sim {P : Program} {w w' : World} {F : Fz} {op : UnOp} {x : AV} {u : Value} {d : D} {E : Env} {h : Hp} (hx : x.rel E h u) (h : unA op x = some d) :
    ∃ v, (Op.unary op u).run P w = .ok v w ∧ Rd w' F v d := by
  unfold unA at h
  split at h
  · cases h; have := bool_inv (rel_d hx); subst this; exact ⟨_, by simp only [Op.unary, Sem.run_pure], .bool _⟩
  · cases h; have := int_inv (rel_d hx); subst this; exact ⟨_, by simp only [Op.unary, Op.intArith, Sem.run_pure], .int _ _⟩
  · cases h; have := int_inv (rel_d hx); subst this; exact ⟨_, by simp only [Op.unary, intBits_xor, Sem.run_pure], .int _ _⟩
  · cases h

/-! ### Memory -/

/-- The cells from (b, o) on read as cs. -/
def CellsAt (E : Env) (h : Hp) (b o : Nat) (cs : List C1) : Prop :=
  ∀ (j : Nat) (x : C1), cs[j]? = some x → ∃ u, E.w.cell? ⟨b, o + j, none⟩ = some u ∧ x.rel E h u ∧ u.oneCell' = true

theorem cells_of_row {E : Env} {h : Hp} {b : Nat} {vs : Array Value} {T : TypeId} {fr : Nat × Nat} {cs : List C1} (hb : E.w.heap[b]? = some (.cells vs T fr)) (hc : CellsRel E h vs.toList cs) : CellsAt E h b 0 cs := by
  intro j x hj
  obtain ⟨u, hu, hr⟩ := hc.2 j x hj
  refine ⟨u, ?_, hr⟩
  simp only [World.cell?, hb, Nat.zero_add]
  simpa using hu

theorem cells_of_dptr {E : Env} {h : Hp} {v : Value} {xs : List D} (hp : DPtr E.w E.F v xs) : ∃ b o, v = .pointer (some ⟨b, o, none⟩) ∧ CellsAt E h b o (xs.map .d) := by
  obtain ⟨b, o, hv, hc⟩ := hp
  refine ⟨b, o, hv, fun j x hj => ?_⟩
  rw [List.getElem?_map] at hj
  cases hx : xs[j]? with
  | none => simp [hx] at hj
  | some d =>
    simp [hx] at hj
    subst hj
    obtain ⟨_, u, hu, hr⟩ := hc j d hx
    exact ⟨u, hu, hr, hr.one⟩

theorem cells_of_ppt {E : Env} {h : Hp} {b o : Nat} {ps : List (Nat × Nat)} (hp : PCells E h b o ps) : CellsAt E h b o (ps.map fun p => .ptr p.1 p.2) := by
  intro j x hj
  rw [List.getElem?_map] at hj
  cases hx : ps[j]? with
  | none => simp [hx] at hj
  | some p =>
    simp [hx] at hj
    subst hj
    obtain ⟨_, k, hk, hc⟩ := hp j p hx
    exact ⟨_, hc, ⟨k, hk, rfl⟩, rfl⟩

theorem size_info {X : Ctx} {t : TypeId} {n : Nat} (h : X.size t = some n) : (X.P.info? t).map (·.size) = some n := h

theorem run_sizeOf {P : Program} {t : TypeId} {n : Nat} (h : (P.info? t).map (·.size) = some n) (w : World) : (sizeOf t).run P w = .ok n w := by
  cases hi : P.info? t with
  | none => simp [hi] at h
  | some i => simp [hi] at h; simp [sizeOf, typeInfo, hi, h]

theorem run_isAgg {P : Program} {t : TypeId} {d : TypeDesc} (h : P.underlying t = some d) (w : World) : (isAgg t).run P w = .ok d.isRow w := by
  simp only [isAgg, Sem.run_bind, run_underlying h w, Result.andThen_ok]
  cases d <;> rfl

theorem isAgg_inv {X : Ctx} {t : TypeId} {b : Bool} (h : X.isAgg t = some b) : ∃ d, X.P.underlying t = some d ∧ d.isRow = b := by
  unfold Ctx.isAgg at h
  cases hd : X.P.underlying t with
  | none => simp [hd] at h
  | some d =>
    simp only [hd, Option.map_some, Option.some.injEq] at h
    refine ⟨d, rfl, ?_⟩
    cases d <;> simp_all [TypeDesc.isRow]

/-- Cells that are there, taken as a list of values. -/
theorem take_cells {E : Env} {h : Hp} : ∀ (cs : List C1) (b o : Nat), CellsAt E h b o cs → ∃ vs : List Value, CellsRel E h vs cs ∧ E.w.rangeAt b o vs
  | [], b, o, _ => ⟨[], ⟨rfl, fun j x hj => by simp at hj⟩, fun j v hj => by simp at hj⟩
  | c :: cs, b, o, hc => by
    obtain ⟨u, hu, hr⟩ := hc 0 c rfl
    obtain ⟨vs, hv, hw⟩ := take_cells cs b (o + 1) (fun j x hj => by
      obtain ⟨u, hu, hr⟩ := hc (j + 1) x (by simpa using hj)
      exact ⟨u, by rw [show o + 1 + j = o + (j + 1) by omega]; exact hu, hr⟩)
    refine ⟨u :: vs, ⟨by simp [hv.1], fun j x hj => ?_⟩, fun j v hj => ?_⟩
    · cases j with
      | zero => simp at hj; subst hj; exact ⟨u, rfl, hr⟩
      | succ j => exact hv.2 j x (by simpa using hj)
    · cases j with
      | zero => simp at hj; subst hj; exact hu
      | succ j => rw [show o + (j + 1) = o + 1 + j by omega]; exact hw j v (by simpa using hj)

theorem cells_drop {E : Env} {h : Hp} {cs : List C1} {b o : Nat} (hc : CellsAt E h b o cs) (k n : Nat) : CellsAt E h b (o + k) ((cs.drop k).take n) := by
  intro j x hj
  rw [List.getElem?_take] at hj
  split at hj
  · rw [List.getElem?_drop] at hj
    obtain ⟨u, hu, hr⟩ := hc (k + j) x hj
    exact ⟨u, by rw [Nat.add_assoc]; exact hu, hr⟩
  · cases hj

theorem load_sim {E : Env} {h : Hp} {cs : List C1} {b o off : Nat} {t : TypeId} {v : V} (hc : CellsAt E h b o cs) (hp : X.part t cs off = some v) :
    ∃ u, (loadVar t ⟨b, o + off, none⟩).run X.P E.w = .ok u E.w ∧ v.rel E h u := by
  unfold Ctx.part at hp
  cases ha : X.isAgg t with
  | none => simp [ha] at hp
  | some ag =>
    obtain ⟨d, hd, hrow⟩ := isAgg_inv ha
    simp only [ha, Option.bind_some] at hp
    cases ag with
    | true =>
      simp only [if_true] at hp
      cases hn : X.size t with
      | none => simp [hn] at hp
      | some n =>
        simp only [hn, Option.bind_some] at hp
        split at hp
        · rename_i hle
          cases hp
          obtain ⟨vs, hv, hw⟩ := take_cells _ _ _ (cells_drop hc off n)
          have hl : vs.length = n := by rw [hv.1]; simp; omega
          exact ⟨.agg vs.toArray, run_loadVar_mid E.w b (o + off) t vs d hw hd hrow (by rw [hl]; exact hn), vs, rfl, hv⟩
        · cases hp
    | false =>
      simp only [Bool.false_eq_true, if_false] at hp
      cases hx : cs[off]? with
      | none => simp [hx] at hp
      | some x =>
        simp [hx] at hp
        subst hp
        obtain ⟨u, hu, hr, _⟩ := hc off x hx
        exact ⟨u, by simp [loadVar, run_isAgg hd, hrow, hu], hr⟩

theorem part_sim {E : Env} {h : Hp} {cs : List C1} {vs : List Value} {off : Nat} {t : TypeId} {v : V} (hc : CellsRel E h vs cs) (hp : X.part t cs off = some v) :
    ∃ u, (part t vs.toArray off).run X.P E.w = .ok u E.w ∧ v.rel E h u := by
  unfold Ctx.part at hp
  cases ha : X.isAgg t with
  | none => simp [ha] at hp
  | some ag =>
    obtain ⟨d, hd, hrow⟩ := isAgg_inv ha
    simp only [ha, Option.bind_some] at hp
    cases ag with
    | true =>
      simp only [if_true] at hp
      cases hn : X.size t with
      | none => simp [hn] at hp
      | some n =>
        simp only [hn, Option.bind_some] at hp
        split at hp
        · rename_i hle
          cases hp
          refine ⟨.agg ((vs.drop off).take n).toArray, ?_, _, rfl, ?_, fun j x hj => ?_⟩
          · simp [part, run_isAgg hd, hrow, run_sizeOf (size_info hn)]
          · simp [hc.1]
          · rw [List.getElem?_take] at hj ⊢
            split at hj
            · rename_i hjn
              rw [List.getElem?_drop] at hj
              rw [if_pos hjn, List.getElem?_drop]
              exact hc.2 _ _ hj
            · cases hj
        · cases hp
    | false =>
      simp only [Bool.false_eq_true, if_false] at hp
      cases hx : cs[off]? with
      | none => simp [hx] at hp
      | some x =>
        simp [hx] at hp
        subst hp
        obtain ⟨u, hu, hr, _⟩ := hc.2 off x hx
        exact ⟨u, by simp [part, run_isAgg hd, hrow, hu], hr⟩

end
end Go.Ab

/-
  Each operation of the code does what the abstract one says: all operations but calls and append.
-/
namespace Go.Ab
open Go.RowKit

section
variable {X : Ctx} {A : Actn} {E : Env} {s : S} {a : Act}

theorem cs_rel {E : Env} {h : Hp} {v : Value} {x : AV} {cs : List C1} (hr : x.rel E h v) (hc : x.cs = some cs) : CellsRel E h v.cells.toList cs := by
  cases x with
  | tup => cases hc
  | v x =>
    cases x with
    | agg xs =>
      simp only [AV.cs, V.cs, Option.some.injEq] at hc
      subst hc
      obtain ⟨vs, rfl, h⟩ := hr
      simpa [Value.cells] using h
    | c x =>
      have hx : x ≠ .top := by rintro rfl; cases hc
      have he : cs = [x] := by cases x <;> first | exact absurd rfl hx | (simp only [AV.cs, V.cs, Option.some.injEq] at hc; exact hc.symm)
      subst he
      have h1 := C1.rel_one hr hx
      have hv : v.cells.toList = [v] := by cases v <;> first | rfl | cases h1
      rw [hv]
      refine ⟨rfl, fun j y hj => ?_⟩
      cases j with
      | zero => simp at hj; subst hj; exact ⟨v, rfl, hr, h1⟩
      | succ j => simp at hj

/-- A new variable. -/
theorem box_sim (hn : Now X A E s a) {o : Oper} {K : Act → World → Prop} {Q : Exit → Act → World → Prop} {vs : Array Value} {T : TypeId} {cs : List C1}
    (hc : CellsRel E s.h vs.toList cs) (hr : (execOp a.eval o).run X.P E.w = .ok (.value (.pointer (some ⟨E.w.heap.size, 0, none⟩))) (E.w.alloc (.cells vs T)))
    (hd : Done A E s.h o a K Q (.val (.v (.c (.ptr s.h.length 0))) (s.h ++ [.box cs]))) : o.wp X.P a E.w K Q := by
  have st := Stp.new hn.rel.env (.cells vs T) (.box cs)
  have ev := st.evo hn.rel.env
  refine wp_of_val' hr (hd _ _ ev (st.ok hn.rel.env fun o ho => ?_) ?_)
  · simp at ho
    subst ho
    refine ⟨E.w.heap.size, vs, T, by simp [Env.newOb], heap_alloc_new _ _, hc.evo ev (Nat.le_refl _), fun o hf => ?_⟩
    have := hn.rel.env.lt _ _ hf
    omega
  · exact ⟨_, new_at, rfl⟩

theorem litC_nil {x : Value} (h : litC x = .d (.sl true [])) : x = .slice none 0 0 := by
  unfold litC at h
  split at h <;> first | rfl | (simp at h)

theorem lit_nils {v : Value} {cs : List C1} (hc : (litV v).cs = some cs) (h : cs = [.nilp, .d (.sl true [])]) : v.cells.toList[1]? = some (.slice none 0 0) := by
  subst h
  cases v with
  | agg xs =>
    simp only [litV] at hc
    split at hc
    · simp only [AV.cs, V.cs, Option.some.injEq] at hc
      have h1 : (xs.toList.map litC)[1]? = some (.d (.sl true [])) := by rw [hc]; rfl
      rw [List.getElem?_map] at h1
      simp only [Option.map_eq_some_iff] at h1
      obtain ⟨x, hx, hx2⟩ := h1
      rw [litC_nil hx2] at hx
      simpa [Value.cells] using hx
    · cases hc
  | _ =>
    simp only [litV, AV.cs, V.cs] at hc
    split at hc
    · cases hc
    · simp at hc
    · rename_i hq
      cases hq

/-- A new variable, a builder perhaps. -/
theorem new_sim (hn : Now X A E s a) {o : Oper} {K : Act → World → Prop} {Q : Exit → Act → World → Prop} {vs : Array Value} {T : TypeId} {cs : List C1} {B : Option (TypeId × TypeId)}
    (hc : CellsRel E s.h vs.toList cs) (hz : cs = [.nilp, .d (.sl true [])] → vs.toList[1]? = some (.slice none 0 0)) (hr : (execOp a.eval o).run X.P E.w = .ok (.value (.pointer (some ⟨E.w.heap.size, 0, none⟩))) (E.w.alloc (.cells vs T)))
    (hd : Done A E s.h o a K Q (.val (.v (.c (.ptr s.h.length 0))) (s.h ++ [newA B T cs]))) : o.wp X.P a E.w K Q := by
  unfold newA at hd
  split at hd
  · rename_i B T' el
    split at hd
    · rename_i hT
      obtain ⟨rfl, hne⟩ := hT
      obtain ⟨p, v, hvs⟩ : ∃ p v, vs = #[p, v] := by
        have hl := hc.1
        simp at hl
        exact ⟨vs[0]'(by omega), vs[1]'(by omega), by apply Array.ext <;> simp [hl]; intro i h1; match i, h1 with | 0, _ => intro _; rfl | 1, _ => intro _; rfl⟩
      subst hvs
      obtain ⟨p', hp', hp1, _⟩ := hc.2 0 _ rfl
      obtain ⟨v', hv', hv1, _⟩ := hc.2 1 _ rfl
      cases hp'
      cases hv'
      have st := Stp.new hn.rel.env (.cells #[p, v] T') (.bld T' el [] true)
      have ev := st.evo hn.rel.env
      refine wp_of_val' hr (hd _ _ ev (st.ok hn.rel.env fun o ho => ?_) ?_)
      · simp at ho
        subst ho
        refine ⟨E.w.heap.size, by simp [Env.newOb], fun o hf => ?_, fun _ => ⟨p, v, heap_alloc_new _ _, .inl hp1, ⟨rfl, ?_⟩, hne, fun g hg => ?_⟩⟩
        · have := hn.rel.env.lt _ _ hf
          omega
        · exact .inl ⟨by simpa using hz rfl, rfl⟩
        · have hv0 : v = .slice none 0 0 := by simpa using hz rfl
          subst hv0
          cases hg
      · exact ⟨_, new_at, rfl⟩
    · exact box_sim hn hc hr hd
  · exact box_sim hn hc hr hd

theorem zero_inv {t : TypeId} {z : AV} (h : X.zero t = some z) : ∃ i v, X.P.info? t = some i ∧ i.zero = some v ∧ z = litV v := by
  unfold Ctx.zero at h
  cases hi : X.P.info? t with
  | none => simp [hi] at h
  | some i =>
    cases hz : i.zero with
    | none => simp [hi, hz] at h
    | some v => simp [hi, hz] at h; exact ⟨i, v, rfl, hz, h.symm⟩

/-! ### Literals -/

theorem fill_sim {E : Env} {h : Hp} {place : Nat → Option (Nat × Nat)} : ∀ (pa : List (Nat × AV)) (pv : List (Nat × Value)) (cs r : List C1) (cv : Array Value),
    pa.length = pv.length → (∀ (j : Nat) (x : Nat × AV) (y : Nat × Value), pa[j]? = some x → pv[j]? = some y → x.1 = y.1 ∧ x.2.rel E h y.2) →
    CellsRel E h cv.toList cs → fillA place cs pa = some r → ∃ rv, Instr.fill place cv pv = some rv ∧ CellsRel E h rv.toList r
  | [], pv, cs, r, cv, hl, _, hc, hf => by
    have : pv = [] := List.eq_nil_of_length_eq_zero (by simpa using hl.symm)
    subst this
    simp only [fillA, Option.some.injEq] at hf
    subst hf
    exact ⟨cv, rfl, hc⟩
  | (i, v) :: pa, pv, cs, r, cv, hl, hp, hc, hf => by
    cases pv with
    | nil => simp at hl
    | cons y pv =>
      obtain ⟨i', u⟩ := y
      obtain ⟨hi, hr⟩ := hp 0 (i, v) (i', u) rfl rfl
      simp only at hi hr
      subst hi
      simp only [fillA] at hf
      cases hpl : place i with
      | none => simp [hpl] at hf
      | some p =>
        cases hcs : v.cs with
        | none => simp [hpl, hcs] at hf
        | some xs =>
          simp only [hpl, hcs, Option.bind_some] at hf
          split at hf
          · rename_i hle
            have hx := cs_rel hr hcs
            have hlu : u.cells.toList.length = p.2 := by rw [hx.1]; exact hle.1
            have hlu' : u.cells.size = p.2 := by simpa using hlu
            have hcl : cv.size = cs.length := by have := hc.1; simpa using this
            obtain ⟨g1, g2⟩ := Great.foldl_set p.1 u.cells.toList 0 cv
            have hset : CellsRel E h (List.foldl (fun cs (x : Value × Nat) => cs.setIfInBounds (p.1 + x.2) x.1) cv (u.cells.toList.zipIdx 0)).toList (setAt cs p.1 xs) := by
              refine ⟨?_, fun j x hj => ?_⟩
              · simp only [Array.length_toList, g1, setAt, List.length_append, List.length_take, List.length_drop]
                omega
              · rw [Array.getElem?_toList, g2 j]
                simp only [setAt] at hj
                by_cases h1 : j < p.1
                · rw [if_neg (by omega)]
                  rw [List.getElem?_append_left (by simp; omega), List.getElem?_take, if_pos h1] at hj
                  have := hc.2 j x hj
                  simpa using this
                · rw [List.getElem?_append_right (by simp; omega)] at hj
                  simp only [List.length_take, Nat.min_eq_left (show p.1 ≤ cs.length by omega)] at hj
                  by_cases h2 : j < p.1 + xs.length
                  · rw [List.getElem?_append_left (by omega)] at hj
                    rw [if_pos (by simp only [Nat.add_zero]; exact ⟨by omega, by rw [hx.1]; omega, by omega⟩)]
                    simp only [Nat.add_zero]
                    exact hx.2 _ x hj
                  · rw [List.getElem?_append_right (by omega), List.getElem?_drop] at hj
                    rw [if_neg (by rw [hx.1]; omega)]
                    have e : p.1 + xs.length + (j - p.1 - xs.length) = j := by omega
                    rw [e] at hj
                    have := hc.2 j x hj
                    simpa using this
            obtain ⟨rv, hrv, hrr⟩ := fill_sim pa pv _ r _ (by simpa using hl)
              (fun j x y hx hy => hp (j + 1) x y (by simpa using hx) (by simpa using hy)) hset hf
            refine ⟨rv, ?_, hrr⟩
            unfold Instr.fill
            simp only [hpl]
            rw [if_neg (by simp; omega)]
            rw [← hrv]
            congr 1
            rw [← Array.foldl_toList, Array.toList_zipIdx]
          · cases hf

theorem build_sim {t : TypeId} {pa : List (Nat × AV)} {pv : Array (Nat × Value)} {v : AV} (hl : pa.length = pv.size)
    (hp : ∀ (j : Nat) (x : Nat × AV) (y : Nat × Value), pa[j]? = some x → pv.toList[j]? = some y → x.1 = y.1 ∧ x.2.rel E s.h y.2) (hb : X.buildA t pa = some v) :
    ∃ u, (Instr.build t pv).run X.P E.w = .ok u E.w ∧ v.rel E s.h u := by
  unfold Ctx.buildA at hb
  cases hpl : X.place t with
  | none => simp [hpl] at hb
  | some pl =>
    cases hz : X.zero t with
    | none => simp [hpl, hz] at hb
    | some z =>
      cases hc : z.cs with
      | none => simp [hpl, hz, hc] at hb
      | some cs =>
        cases hf : fillA pl cs pa with
        | none => simp [hpl, hz, hc, hf] at hb
        | some r =>
          simp [hpl, hz, hc, hf] at hb
          subst hb
          obtain ⟨i, zv, hi, hzv, rfl⟩ := zero_inv hz
          have hcr := cs_rel (litV_rel E s.h zv) hc
          obtain ⟨rv, hrv, hrr⟩ := fill_sim (E := E) (h := s.h) (place := pl) pa pv.toList cs r zv.cells (by simpa using hl) hp hcr hf
          refine ⟨.agg rv, run_build E.w t pv rv ?_, rv.toList, by simp, hrr⟩
          unfold Program.built
          unfold Ctx.place at hpl
          cases hu : X.P.underlying t with
          | none => simp [hu] at hpl
          | some d =>
            simp only [hu, Option.bind_some] at hpl
            cases d <;> simp only [hi, hzv] <;> try (cases hpl; done)
            case array n e =>
              cases hie : X.P.info? e with
              | none => simp [Ctx.size, hie] at hpl
              | some ie =>
                simp [Ctx.size, hie] at hpl
                subst hpl
                exact hrv
            case struct fs =>
              cases hm : fs.toList.mapM (fun f => (X.P.info? f.type).map fun i => (f.offset, i.size)) with
              | none => simp [hm] at hpl
              | some places =>
                simp [hm] at hpl
                subst hpl
                simpa using hrv

theorem allD_rel {E : Env} {h : Hp} : ∀ (cs : List C1) (ds : List D) (vs : List Value), CellsRel E h vs cs → allD cs = some ds →
    ds.length = vs.length ∧ ∀ (j : Nat) (d : D), ds[j]? = some d → ∃ u, vs[j]? = some u ∧ Rd E.w E.F u d
  | [], ds, vs, hc, hd => by
    simp only [allD, Option.some.injEq] at hd
    subst hd
    exact ⟨by simpa using hc.1.symm, fun j d hj => by simp at hj⟩
  | c :: cs, ds, vs, hc, hd => by
    cases vs with
    | nil => have := hc.1; simp at this
    | cons v vs =>
      simp only [allD] at hd
      cases h1 : c.toD with
      | none => simp [h1] at hd
      | some d0 =>
        cases h2 : allD cs with
        | none => simp [h1, h2] at hd
        | some dr =>
          simp [h1, h2] at hd
          subst hd
          obtain ⟨hl, hr⟩ := allD_rel cs dr vs ⟨by simpa using hc.1, fun j x hj => by simpa using hc.2 (j + 1) x (by simpa using hj)⟩ h2
          refine ⟨by simp [hl], fun j d hj => ?_⟩
          cases j with
          | zero =>
            simp at hj
            subst hj
            obtain ⟨u, hu, hru, _⟩ := hc.2 0 c rfl
            refine ⟨u, hu, ?_⟩
            cases c <;> simp only [C1.toD, Option.some.injEq] at h1 <;> first | (cases h1; done) | skip
            case d x => subst h1; exact hru
            case own id es => subst h1; exact hru.1
          | succ j => simpa using hr j d (by simpa using hj)

theorem toD_rel {E : Env} {h : Hp} {c : C1} {d : D} {v : Value} (hr : c.rel E h v) (hd : c.toD = some d) : Rd E.w E.F v d := by
  cases c <;> simp only [C1.toD, Option.some.injEq] at hd <;> first | (cases hd; done) | skip
  case d x => subst hd; exact hr
  case own id es => subst hd; exact hr.1

theorem chunk_length (z : Nat) : ∀ (n : Nat) (l : List D), (chunk z n l).length = n
  | 0, _ => rfl
  | n + 1, l => by simp [chunk, chunk_length z n]

theorem chunk_get (z : Nat) : ∀ (n : Nat) (l : List D) (i : Nat) (e : List D), (chunk z n l)[i]? = some e → i < n ∧ e = (l.drop (i * z)).take z
  | 0, _, i, e, h => by simp [chunk] at h
  | n + 1, l, i, e, h => by
    cases i with
    | zero => simp [chunk] at h; simp [h]
    | succ i =>
      simp only [chunk, List.getElem?_cons_succ] at h
      obtain ⟨h1, h2⟩ := chunk_get z n _ i e h
      refine ⟨by omega, ?_⟩
      rw [h2, List.drop_drop]
      congr 2
      rw [Nat.add_mul]; omega

/-- A new row, frozen at once, reads as a slice. -/
theorem row_rd {w : World} {F : Fz} {b : Nat} {vs : Array Value} {T : TypeId} {fr : Nat × Nat} {es : List (List D)} {n z cap : Nat} {full : Bool} (hb : w.heap[b]? = some (.cells vs T fr))
    (hlen : es.length = n) (hcap : n ≤ cap) (hfull : full = true → cap = n) (hs : n * z ≤ vs.size) (hz : ∀ e ∈ es, e.length = z) (hF : ∀ o, o < n * z → F b o)
    (hr : ∀ (i j : Nat) (e : List D) (y : D), es[i]? = some e → e[j]? = some y → ∃ u, vs[i * z + j]? = some u ∧ Rd w F u y)
    (h1 : ∀ o, o < n * z → ∀ u, vs[o]? = some u → u.oneCell' = true) : Rd w F (.slice (some ⟨b, 0, none⟩) n cap) (.sl full es) := by
  have hin : ∀ i j, i < n → j < z → i * z + j < n * z := fun i j hi hj => by
    have : (i + 1) * z ≤ n * z := Nat.mul_le_mul_right _ hi
    rw [Nat.add_mul] at this
    omega
  refine .sl b 0 n cap z full es (fun i j => vs.getD (i * z + j) undef) hlen hcap hfull hz (fun i j hi hj => ?_) (fun i j hi hj => ?_) (fun i j hi hj => ?_) (fun i j e y he hy => ?_)
  · rw [Nat.zero_add]; exact hF _ (hin i j hi hj)
  · have := hin i j hi hj
    simp only [World.cell?, hb, Nat.zero_add, Option.isSome_none, Bool.false_eq_true, if_false]
    rw [Array.getElem?_eq_getElem (by omega)]
    simp [Array.getD, show i * z + j < vs.size by omega]
  · have hl := hin i j hi hj
    have hl' : i * z + j < vs.size := by omega
    refine h1 _ hl _ ?_
    rw [Array.getElem?_eq_getElem hl']
    simp [Array.getD, hl']
  · obtain ⟨u, hu, hru⟩ := hr i j e y he hy
    have : vs.getD (i * z + j) undef = u := by simp [Array.getD_eq_getD_getElem?, hu]
    rw [this]
    exact hru

theorem getElem!_mod {z : Nat} (l : List Value) (hl : l.length = z) (hz : 0 < z) (i : Nat) : ∃ u, l[i % z]? = some u :=
  ⟨l[i % z]'(by rw [hl]; exact Nat.mod_lt _ hz), List.getElem?_eq_getElem _⟩

theorem ptCs_get : ∀ (cs : List C1) (ps : List (Nat × Nat)), ptCs cs = some ps → ps.length = cs.length ∧ ∀ (j : Nat) (p : Nat × Nat), ps[j]? = some p → cs[j]? = some (.ptr p.1 p.2)
  | [], ps, h => by
    simp only [ptCs, Option.some.injEq] at h
    subst h
    exact ⟨rfl, fun j p hj => by simp at hj⟩
  | c :: cs, ps, h => by
    cases c <;> simp only [ptCs] at h <;> try (cases h; done)
    rename_i id off
    simp only [Option.map_eq_some_iff] at h
    obtain ⟨qs, hq, rfl⟩ := h
    obtain ⟨h1, h2⟩ := ptCs_get cs qs hq
    refine ⟨by simp [h1], fun j p hj => ?_⟩
    cases j with
    | zero => simp only [List.getElem?_cons_zero, Option.some.injEq] at hj ⊢; subst hj; rfl
    | succ j => rw [List.getElem?_cons_succ] at hj ⊢; exact h2 j p hj

theorem buildSlice_sim (hn : Now X A E s a) {o : Oper} {K : Act → World → Prop} {Q : Exit → Act → World → Prop} {t : TypeId} {n : Nat} {pa : List (Nat × AV)} {pv : Array (Nat × Value)} {v : AV} (hl : pa.length = pv.size)
    (hp : ∀ (j : Nat) (x : Nat × AV) (y : Nat × Value), pa[j]? = some x → pv.toList[j]? = some y → x.1 = y.1 ∧ x.2.rel E s.h y.2) (hb : X.buildSliceA t n pa = some v)
    (hex : ∀ u w', (Instr.buildSlice t n pv).run X.P E.w = .ok u w' → (execOp a.eval o).run X.P E.w = .ok (.value u) w') (hd : Done A E s.h o a K Q (.val v s.h)) : o.wp X.P a E.w K Q := by
  unfold Ctx.buildSliceA at hb
  cases hu : X.P.underlying t with
  | none => simp [hu] at hb
  | some dt =>
    simp only [hu, Option.bind_some] at hb
    cases dt <;> try (cases hb; done)
    rename_i e
    simp only at hb
    cases hz : X.size e with
    | none => simp [hz] at hb
    | some z =>
      cases hzr : X.zero e with
      | none => simp [hz, hzr] at hb
      | some zr =>
        cases hzc : zr.cs with
        | none => simp [hz, hzr, hzc] at hb
        | some zc =>
          simp only [hz, hzr, hzc, Option.bind_some] at hb
          split at hb
          · rename_i hcond
            obtain ⟨hzl, hz0, hsm⟩ := hcond
            cases hf : fillA (fun i => some (i * z, z)) ((List.range (n * z)).map fun j => zc.getD (j % z) .top) pa with
            | none => rw [hf] at hb; cases hb
            | some cs =>
              rw [hf, Option.bind_some] at hb
              obtain ⟨i, zv, hi, hzv, rfl⟩ := zero_inv hzr
              have hsz : i.size = z := by simpa [Ctx.size, hi] using hz
              subst hsz
              have hcr := cs_rel (litV_rel E s.h zv) hzc
              have hzvl : zv.cells.size = i.size := by have := hcr.1; simp at this; omega
              have hc0 : CellsRel E s.h ((Array.range (n * i.size)).map (zv.cells[· % zv.cells.size]!)).toList ((List.range (n * i.size)).map fun j => zc.getD (j % i.size) .top) := by
                refine ⟨by simp, fun j x hj => ?_⟩
                rw [List.getElem?_map] at hj
                cases hjr : (List.range (n * i.size))[j]? with
                | none => simp [hjr] at hj
                | some k =>
                  have hk : j = k ∧ j < n * i.size := by
                    have := lt_of_get hjr
                    simp at this
                    rw [List.getElem?_range this] at hjr
                    exact ⟨by simpa using hjr, this⟩
                  obtain ⟨rfl, hjn⟩ := hk
                  simp [hjr] at hj
                  have hlt : j % i.size < zc.length := by rw [hzl]; exact Nat.mod_lt _ hz0
                  rw [List.getElem?_eq_getElem hlt] at hj
                  simp at hj
                  subst hj
                  obtain ⟨u, hu', hru⟩ := hcr.2 (j % i.size) _ (List.getElem?_eq_getElem hlt)
                  refine ⟨u, ?_, hru⟩
                  simp only [Array.toList_map, Array.toList_range, List.getElem?_map, hjr, Option.map_some, hzvl]
                  have : zv.cells[j % i.size]? = some u := by simpa using hu'
                  rw [getElem!_def, this]
              obtain ⟨rv, hrv, hrr⟩ := fill_sim (E := E) (h := s.h) pa pv.toList _ cs _ (by simpa using hl) hp hc0 hf
              have hrvs : rv.size = n * i.size := by
                have h1 := (fill_len (fun i_1 => some (i_1 * i.size, i.size)) pv.toList _ rv hrv)
                simpa using h1
              cases had : allD cs with
              | none =>
                rw [had] at hb
                simp only [bsOut] at hb
                split at hb
                · rename_i hz1
                  obtain ⟨hz1, hn0⟩ := hz1
                  cases hps : ptCs cs with
                  | none => rw [hps] at hb; cases hb
                  | some ps =>
                    rw [hps, Option.map_some, Option.some.injEq] at hb
                    subst hb
                    have hpos : 0 < n * i.size := Nat.mul_pos (by omega) hz0
                    have hrun := run_buildSlice (P := X.P) E.w t e n pv rv i zv hu hi hzv (by omega) (by omega) hrv
                    have st := Stp.fz hn.rel.env (E.w.alloc (.cells rv e)) rfl rfl rfl (by simp) (fun k hk => Below.heap_alloc _ _ _ hk) (fun _ => Nat.le_refl _)
                    have ev := st.evo hn.rel.env
                    refine wp_of_val' (hex _ _ hrun) (hd _ _ ev (st.fz_ok hn.rel.env) ?_)
                    obtain ⟨hpl, hpc⟩ := ptCs_get cs ps hps
                    have hcl : cs.length = rv.size := by have := hrr.1; simpa using this.symm
                    have hpn : ps.length = n := by rw [hpl, hcl, hrvs, hz1, Nat.mul_one]
                    refine ⟨E.w.heap.size, 0, n, by rw [hpn], fun j p hj => ⟨.inr ⟨Nat.le_refl _, by simp⟩, ?_⟩⟩
                    obtain ⟨u, hu', hr1, _⟩ := hrr.2 j _ (hpc j p hj)
                    obtain ⟨k, hk, rfl⟩ := hr1
                    refine ⟨k, hk.evo ev (Nat.le_refl _) (by decide), ?_⟩
                    rw [Nat.zero_add]
                    show (E.w.alloc (.cells rv e)).cell? _ = _
                    simp only [World.cell?, heap_alloc_new, Option.isSome_none, Bool.false_eq_true, if_false]
                    simpa using hu'
                · cases hb
              | some ds =>
                rw [had] at hb
                simp only [bsOut, Option.some.injEq] at hb
                subst hb
                obtain ⟨hdl, hdr⟩ := allD_rel cs ds rv.toList hrr had
                by_cases hn0 : n = 0
                · subst hn0
                  have hrun : (Instr.buildSlice t 0 pv).run X.P E.w = .ok (.slice (some ⟨E.w.heap.size, 0, none⟩) 0 0) (E.w.alloc (.cells rv e)) := by
                    rw [Nat.zero_mul, Array.range_zero', Array.map_empty] at hrv
                    simp [Instr.buildSlice, run_underlying hu, sizeOf, typeInfo, hi, newRow, hrv, Array.range_zero']
                  have st := Stp.fz hn.rel.env (E.w.alloc (.cells rv e)) rfl rfl rfl (by simp) (fun k hk => Below.heap_alloc _ _ _ hk) (fun _ => Nat.le_refl _)
                  refine wp_of_val' (hex _ _ hrun) (hd _ _ (st.evo hn.rel.env) (st.fz_ok hn.rel.env) ?_)
                  exact row_rd (z := 0) (heap_alloc_new _ _) (chunk_length _ _ _) (Nat.le_refl _) (fun _ => rfl) (by simp) (fun e he => by simp [chunk] at he) (fun o ho => by omega)
                    (fun i j e y he => by simp [chunk] at he) (fun o ho => by omega)
                · have hpos : 0 < n * i.size := Nat.mul_pos (by omega) hz0
                  have hrun := run_buildSlice (P := X.P) E.w t e n pv rv i zv hu hi hzv (by omega) (by omega) hrv
                  have st := Stp.fz hn.rel.env (E.w.alloc (.cells rv e)) rfl rfl rfl (by simp) (fun k hk => Below.heap_alloc _ _ _ hk) (fun _ => Nat.le_refl _)
                  have ev := st.evo hn.rel.env
                  refine wp_of_val' (hex _ _ hrun) (hd _ _ ev (st.fz_ok hn.rel.env) ?_)
                  have hdl' : ds.length = n * i.size := by rw [hdl]; simpa using hrvs
                  refine row_rd (z := i.size) (heap_alloc_new _ _) (chunk_length _ _ _) (Nat.le_refl _) (fun _ => rfl) (by omega) (fun r hr => ?_) (fun o _ => .inr ⟨Nat.le_refl _, by simp⟩) (fun k j r y hk hy => ?_) (fun o ho u hu' => ?_)
                  · obtain ⟨k, hk⟩ := List.getElem?_of_mem hr
                    obtain ⟨h1, rfl⟩ := chunk_get _ _ _ _ _ hk
                    have : (k + 1) * i.size ≤ n * i.size := Nat.mul_le_mul_right _ h1
                    rw [Nat.add_mul] at this
                    simp; omega
                  · obtain ⟨h1, rfl⟩ := chunk_get _ _ _ _ _ hk
                    rw [List.getElem?_take] at hy
                    split at hy
                    · rw [List.getElem?_drop] at hy
                      obtain ⟨u, hu', hru⟩ := hdr _ _ hy
                      exact ⟨u, by simpa using hu', hru.evo ev⟩
                    · cases hy
                  · have hlt : o < cs.length := by have := hrr.1; simp at this; omega
                    obtain ⟨u', hu2, _, h1⟩ := hrr.2 o _ (List.getElem?_eq_getElem hlt)
                    have : u' = u := by rw [Array.getElem?_toList, hu'] at hu2; simpa using hu2.symm
                    rw [← this]; exact h1
          · cases hb
where
  fill_len (place : Nat → Option (Nat × Nat)) : ∀ (l : List (Nat × Value)) (c r : Array Value), Instr.fill place c l = some r → r.size = c.size
    | [], c, r, h => by simp only [Instr.fill, Option.some.injEq] at h; rw [h]
    | (i, v) :: l, c, r, h => by
      simp only [Instr.fill] at h
      split at h
      · cases h
      · rename_i off sz _
        split at h
        · cases h
        · have := fill_len place l _ r h
          rw [this]
          have hs := (Great.foldl_set off v.cells.toList 0 c).1
          rw [← Array.foldl_toList, Array.toList_zipIdx]
          exact hs

end
end Go.Ab
