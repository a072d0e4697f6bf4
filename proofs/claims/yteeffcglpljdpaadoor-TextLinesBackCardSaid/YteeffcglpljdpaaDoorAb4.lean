/-
  Each operation of the code does what the abstract one says: operations that leave the world alone.
-/
import Derived.Test.YteeffcglpljdpaaDoorAb3
import Derived.WalkLawsBesides
set_option linter.unusedSimpArgs false
set_option linter.unusedVariables false
namespace Go.Ab
open Go.RowKit

def Done (A : Actn) (E : Env) (h : Hp) (o : Oper) (a : Act) (K : Act → World → Prop) (Q : Exit → Act → World → Prop) : OpR → Prop
  | .val v h' => ∀ u E', Evo h.length E h E' h' → EnvOk A E' h' → v.rel E' h' u → K (a.put o.dst u) E'.w
  | .skip h' => ∀ E', Evo h.length E h E' h' → EnvOk A E' h' → K (a.put o.dst undef) E'.w
  | .pan x h' => ∀ u E', Evo h.length E h E' h' → EnvOk A E' h' → x.rel E' h' u → Q (.panic [{ v := u, recovered := false }]) a E'.w

/-- What a call does, by the tables. -/
def hdl (X : Ctx) (f : FuncId) (args : List AV) (h : Hp) : Option COut :=
  match X.M f with
  | some m => (m args).map fun v => .ret v h
  | none => X.K f args h

/-- What one call does is as said. -/
def FOk (P : Program) (G : Gl) (f : FuncId) (args : List AV) (h : Hp) (out : COut) : Prop :=
  ∀ (A : Actn) (E : Env) (vs : Array Value), A.G = G → EnvOk A E h → vs.size = args.length → (∀ (j : Nat) (x : AV), args[j]? = some x → x.rel E h (vs.getD j undef)) →
  ∀ (o : Oper) (a : Act) (K : Act → World → Prop) (Q : Exit → Act → World → Prop), Done A E h o a K Q out.op → o.upon P a K Q ((callFunc f vs).run P E.w)

/-- What the tables say of calls is so. -/
def KOk (X : Ctx) : Prop := ∀ (f : FuncId) (args : List AV) (h : Hp) (out : COut), hdl X f args h = some out → FOk X.P X.G f args h out

theorem litC_rel (E : Env) (h : Hp) (v : Value) : (litC v).rel E h v := by
  unfold litC
  split <;> simp only [C1.rel] <;> first | exact .bool _ | exact .int _ _ | exact .str _ | exact .nil _ _ | trivial

theorem litV_rel (E : Env) (h : Hp) (v : Value) : (litV v).rel E h v := by
  cases v with
  | agg cs =>
    simp only [litV]
    split
    · rename_i hc
      refine ⟨cs.toList, by simp, by simp, fun j x hj => ?_⟩
      rw [List.getElem?_map] at hj
      cases hv : cs.toList[j]? with
      | none => simp [hv] at hj
      | some u =>
        simp [hv] at hj
        subst hj
        exact ⟨u, rfl, litC_rel E h u, List.all_eq_true.1 hc u (List.mem_of_getElem? hv)⟩
    · trivial
  | _ => (simp only [litV, AV.rel, V.rel]; exact litC_rel E h _)

section
variable {X : Ctx} {A : Actn} {E : Env} {s : S} {a : Act}

structure Now (X : Ctx) (A : Actn) (E : Env) (s : S) (a : Act) : Prop where
  G : A.G = X.G
  rel : Rel A E s a E.w

theorem ev_rel (hn : Now X A E s a) (x : Operand) : (X.ev s x).rel E s.h (a.eval x) := by
  cases x with
  | tmp t => exact hn.rel.tmps t
  | const v => exact litV_rel E s.h v
  | global g =>
    simp only [Ctx.ev]
    cases hg : X.G.f g with
    | none => trivial
    | some xs => exact hn.rel.env.glob g xs (by rw [hn.G]; exact hg)
  | func f => exact ⟨[], rfl, rfl, fun j p hp => by simp at hp⟩

/-- An operation that yields a value in the world as it is. -/
theorem done_val (hn : Now X A E s a) {o : Oper} {K : Act → World → Prop} {Q : Exit → Act → World → Prop} {u : Value} {v : AV}
    (hd : Done A E s.h o a K Q (.val v s.h)) (hr : v.rel E s.h u) : K (a.put o.dst u) E.w :=
  hd u E (Evo.refl (Nat.le_refl _)) hn.rel.env hr

theorem wp_of_val {P : Program} {w : World} {o : Oper} {K : Act → World → Prop} {Q : Exit → Act → World → Prop} {u : Value} (hr : (execOp a.eval o).run P w = .ok (.value u) w) (hk : K (a.put o.dst u) w) : o.wp P a w K Q := by
  simp only [Oper.wp, hr, Oper.upon_value]; exact hk

theorem wp_of_val' {P : Program} {w w' : World} {o : Oper} {K : Act → World → Prop} {Q : Exit → Act → World → Prop} {u : Value} (hr : (execOp a.eval o).run P w = .ok (.value u) w') (hk : K (a.put o.dst u) w') : o.wp P a w K Q := by
  simp only [Oper.wp, hr, Oper.upon_value]; exact hk

theorem rel_d {E : Env} {h : Hp} {v : Value} {x : D} (hr : (AV.d x).rel E h v) : Rd E.w E.F v x := hr

theorem int_inv {w : World} {F : Fz} {v : Value} {k : IntKind} {n : Int} (h : Rd w F v (.int k n)) : v = .int k n := by cases h; rfl
theorem bool_inv {w : World} {F : Fz} {v : Value} {b : Bool} (h : Rd w F v (.bool b)) : v = .bool b := by cases h; rfl
theorem str_inv {w : World} {F : Fz} {v : Value} {l : List UInt8} (h : Rd w F v (.str l)) : ∃ s : ByteArray, v = .string s ∧ s.data.toList = l := by cases h with | str s => exact ⟨s, rfl, rfl⟩
theorem Rd.str' {w : World} {F : Fz} {s : ByteArray} {l : List UInt8} (h : s.data.toList = l) : Rd w F (.string s) (.str l) := h ▸ .str s

theorem intA_sim {P : Program} {w w' : World} {F : Fz} {op : BinOp} {t : TypeId} {k k' : IntKind} {x y : Int} {d : D} (h : intA op k k' x y = some d) :
    ∃ v, (binOp op t (.int k x) (.int k' y)).run P w = .ok v w ∧ Rd w' F v d := by
  cases op <;> simp only [intA] at h
  case shl =>
    split at h
    · cases h
    · rename_i hb
      cases h
      exact ⟨.int k _, by simp only [binOp, Op.shift, if_neg hb, Sem.run_pure], .int _ _⟩
  case shr =>
    split at h
    · cases h
    · rename_i hb
      cases h
      exact ⟨.int k _, by simp only [binOp, Op.shift, if_neg hb, Sem.run_pure], .int _ _⟩
  case quo =>
    split at h
    · rename_i hk; subst hk
      split at h
      · cases h
      · rename_i hb
        cases h
        exact ⟨.int k _, by simp only [binOp_quo, Op.intDiv, if_neg hb, Sem.run_pure], .int _ _⟩
    · cases h
  case rem =>
    split at h
    · rename_i hk; subst hk
      split at h
      · cases h
      · rename_i hb
        cases h
        exact ⟨.int k _, by simp only [binOp_rem, Op.intDiv, if_neg hb, Sem.run_pure], .int _ _⟩
    · cases h
  all_goals
    split at h
    · rename_i hk; subst hk
      simp only [cmpI, Option.map_some, Option.some.injEq] at h
      subst h
      first
        | exact ⟨.int k _, by simp [binOp, Op.intArith, Op.intBits, bits], .int _ _⟩
        | exact ⟨.bool _, by simp [binOp, Op.intCmp], .bool _⟩
    · cases h

theorem strA_sim {P : Program} {w w' : World} {F : Fz} {op : BinOp} {t : TypeId} {x y : ByteArray} {d : D} (h : strA op x.data.toList y.data.toList = some d) :
    ∃ v, (binOp op t (.string x) (.string y)).run P w = .ok v w ∧ Rd w' F v d := by
  cases op <;> simp only [strA, Option.some.injEq] at h
  case add =>
    split at h
    · rename_i hl
      cases h
      refine ⟨.string (x ++ y), ?_, Rd.str' (by simp)⟩
      rw [binOp_string_add]
      exact run_string_add_sum w x y (by rw [Lib.size_eq, Lib.size_eq]; omega)
    · cases h
  all_goals first
    | (cases h; done)
    | (subst h
       exact ⟨.bool _, by simp only [binOp, Op.stringOp, ByteArray.toList_eq, Sem.run_pure], .bool _⟩)

theorem boolA_sim {P : Program} {w w' : World} {F : Fz} {op : BinOp} {t : TypeId} {x y : Bool} {d : D} (ht : P.underlying t = some .bool) (h : boolA op x y = some d) :
    ∃ v, (binOp op t (.bool x) (.bool y)).run P w = .ok v w ∧ Rd w' F v d := by
  have he0 : ∀ d, (Op.equalIn (d + 1) t (.bool x) (.bool y)).run P w = .ok (x == y) w := fun d => by simp [Op.equalIn, run_underlying ht]
  have he : (Op.equal t (.bool x) (.bool y)).run P w = .ok (x == y) w := he0 9999
  cases op <;> simp only [boolA] at h
  case eql => cases h; exact ⟨.bool (x == y), by simp [binOp, he], .bool _⟩
  case neq => cases h; exact ⟨.bool (!(x == y)), by simp [binOp, he], .bool _⟩
  all_goals cases h

theorem unA_sim {P : Program} {w w' : World} {F : Fz} {op : UnOp} {x : AV} {u : Value} {d : D} {E : Env} {h : Hp} (hx : x.rel E h u) (h : unA op x = some d) :
    ∃ v, (Op.unary op u).run P w = .ok v w ∧ Rd w' F v d := by
  unfold unA at h
  split at h
  · cases h; have := bool_inv (rel_d hx); subst this; exact ⟨_, by simp only [Op.unary, Sem.run_pure], .bool _⟩
  · cases h; have := int_inv (rel_d hx); subst this; exact ⟨_, by simp only [Op.unary, Op.intArith, Sem.run_pure], .int _ _⟩
  · cases h; have := int_inv (rel_d hx); subst this; exact ⟨_, by simp only [Op.unary, intBits_xor, Sem.run_pure], .int _ _⟩
  · cases h

/-! ### Memory -/

/-- The cells from (b, o) on read as cs. -/
def CellsAt (E : Env) (h : Hp) (b o : Nat) (cs : List C1) : Prop :=
  ∀ (j : Nat) (x : C1), cs[j]? = some x → ∃ u, E.w.cell? ⟨b, o + j, none⟩ = some u ∧ x.rel E h u ∧ u.oneCell' = true

theorem cells_of_row {E : Env} {h : Hp} {b : Nat} {vs : Array Value} {T : TypeId} {fr : Nat × Nat} {cs : List C1} (hb : E.w.heap[b]? = some (.cells vs T fr)) (hc : CellsRel E h vs.toList cs) : CellsAt E h b 0 cs := by
  intro j x hj
  obtain ⟨u, hu, hr⟩ := hc.2 j x hj
  refine ⟨u, ?_, hr⟩
  simp only [World.cell?, hb, Nat.zero_add]
  simpa using hu

theorem cells_of_dptr {E : Env} {h : Hp} {v : Value} {xs : List D} (hp : DPtr E.w E.F v xs) : ∃ b o, v = .pointer (some ⟨b, o, none⟩) ∧ CellsAt E h b o (xs.map .d) := by
  obtain ⟨b, o, hv, hc⟩ := hp
  refine ⟨b, o, hv, fun j x hj => ?_⟩
  rw [List.getElem?_map] at hj
  cases hx : xs[j]? with
  | none => simp [hx] at hj
  | some d =>
    simp [hx] at hj
    subst hj
    obtain ⟨_, u, hu, hr⟩ := hc j d hx
    exact ⟨u, hu, hr, hr.one⟩

theorem size_info {X : Ctx} {t : TypeId} {n : Nat} (h : X.size t = some n) : (X.P.info? t).map (·.size) = some n := h

theorem run_sizeOf {P : Program} {t : TypeId} {n : Nat} (h : (P.info? t).map (·.size) = some n) (w : World) : (sizeOf t).run P w = .ok n w := by
  cases hi : P.info? t with
  | none => simp [hi] at h
  | some i => simp [hi] at h; simp [sizeOf, typeInfo, hi, h]

theorem run_isAgg {P : Program} {t : TypeId} {d : TypeDesc} (h : P.underlying t = some d) (w : World) : (isAgg t).run P w = .ok d.isRow w := by
  simp only [isAgg, Sem.run_bind, run_underlying h w, Result.andThen_ok]
  cases d <;> rfl

theorem isAgg_inv {X : Ctx} {t : TypeId} {b : Bool} (h : X.isAgg t = some b) : ∃ d, X.P.underlying t = some d ∧ d.isRow = b := by
  unfold Ctx.isAgg at h
  cases hd : X.P.underlying t with
  | none => simp [hd] at h
  | some d =>
    simp only [hd, Option.map_some, Option.some.injEq] at h
    refine ⟨d, rfl, ?_⟩
    cases d <;> simp_all [TypeDesc.isRow]

/-- Cells that are there, taken as a list of values. -/
theorem take_cells {E : Env} {h : Hp} : ∀ (cs : List C1) (b o : Nat), CellsAt E h b o cs → ∃ vs : List Value, CellsRel E h vs cs ∧ E.w.rangeAt b o vs
  | [], b, o, _ => ⟨[], ⟨rfl, fun j x hj => by simp at hj⟩, fun j v hj => by simp at hj⟩
  | c :: cs, b, o, hc => by
    obtain ⟨u, hu, hr⟩ := hc 0 c rfl
    obtain ⟨vs, hv, hw⟩ := take_cells cs b (o + 1) (fun j x hj => by
      obtain ⟨u, hu, hr⟩ := hc (j + 1) x (by simpa using hj)
      exact ⟨u, by rw [show o + 1 + j = o + (j + 1) by omega]; exact hu, hr⟩)
    refine ⟨u :: vs, ⟨by simp [hv.1], fun j x hj => ?_⟩, fun j v hj => ?_⟩
    · cases j with
      | zero => simp at hj; subst hj; exact ⟨u, rfl, hr⟩
      | succ j => exact hv.2 j x (by simpa using hj)
    · cases j with
      | zero => simp at hj; subst hj; exact hu
      | succ j => rw [show o + (j + 1) = o + 1 + j by omega]; exact hw j v (by simpa using hj)

theorem cells_drop {E : Env} {h : Hp} {cs : List C1} {b o : Nat} (hc : CellsAt E h b o cs) (k n : Nat) : CellsAt E h b (o + k) ((cs.drop k).take n) := by
  intro j x hj
  rw [List.getElem?_take] at hj
  split at hj
  · rw [List.getElem?_drop] at hj
    obtain ⟨u, hu, hr⟩ := hc (k + j) x hj
    exact ⟨u, by rw [Nat.add_assoc]; exact hu, hr⟩
  · cases hj

theorem load_sim {E : Env} {h : Hp} {cs : List C1} {b o off : Nat} {t : TypeId} {v : V} (hc : CellsAt E h b o cs) (hp : X.part t cs off = some v) :
    ∃ u, (loadVar t ⟨b, o + off, none⟩).run X.P E.w = .ok u E.w ∧ v.rel E h u := by
  unfold Ctx.part at hp
  cases ha : X.isAgg t with
  | none => simp [ha] at hp
  | some ag =>
    obtain ⟨d, hd, hrow⟩ := isAgg_inv ha
    simp only [ha, Option.bind_some] at hp
    cases ag with
    | true =>
      simp only [if_true] at hp
      cases hn : X.size t with
      | none => simp [hn] at hp
      | some n =>
        simp only [hn, Option.bind_some] at hp
        split at hp
        · rename_i hle
          cases hp
          obtain ⟨vs, hv, hw⟩ := take_cells _ _ _ (cells_drop hc off n)
          have hl : vs.length = n := by rw [hv.1]; simp; omega
          exact ⟨.agg vs.toArray, run_loadVar_mid E.w b (o + off) t vs d hw hd hrow (by rw [hl]; exact hn), vs, rfl, hv⟩
        · cases hp
    | false =>
      simp only [Bool.false_eq_true, if_false] at hp
      cases hx : cs[off]? with
      | none => simp [hx] at hp
      | some x =>
        simp [hx] at hp
        subst hp
        obtain ⟨u, hu, hr, _⟩ := hc off x hx
        exact ⟨u, by simp [loadVar, run_isAgg hd, hrow, hu], hr⟩

theorem part_sim {E : Env} {h : Hp} {cs : List C1} {vs : List Value} {off : Nat} {t : TypeId} {v : V} (hc : CellsRel E h vs cs) (hp : X.part t cs off = some v) :
    ∃ u, (part t vs.toArray off).run X.P E.w = .ok u E.w ∧ v.rel E h u := by
  unfold Ctx.part at hp
  cases ha : X.isAgg t with
  | none => simp [ha] at hp
  | some ag =>
    obtain ⟨d, hd, hrow⟩ := isAgg_inv ha
    simp only [ha, Option.bind_some] at hp
    cases ag with
    | true =>
      simp only [if_true] at hp
      cases hn : X.size t with
      | none => simp [hn] at hp
      | some n =>
        simp only [hn, Option.bind_some] at hp
        split at hp
        · rename_i hle
          cases hp
          refine ⟨.agg ((vs.drop off).take n).toArray, ?_, _, rfl, ?_, fun j x hj => ?_⟩
          · simp [part, run_isAgg hd, hrow, run_sizeOf (size_info hn)]
          · simp [hc.1]
          · rw [List.getElem?_take] at hj ⊢
            split at hj
            · rename_i hjn
              rw [List.getElem?_drop] at hj
              rw [if_pos hjn, List.getElem?_drop]
              exact hc.2 _ _ hj
            · cases hj
        · cases hp
    | false =>
      simp only [Bool.false_eq_true, if_false] at hp
      cases hx : cs[off]? with
      | none => simp [hx] at hp
      | some x =>
        simp [hx] at hp
        subst hp
        obtain ⟨u, hu, hr, _⟩ := hc.2 off x hx
        exact ⟨u, by simp [part, run_isAgg hd, hrow, hu], hr⟩

end
end Go.Ab
