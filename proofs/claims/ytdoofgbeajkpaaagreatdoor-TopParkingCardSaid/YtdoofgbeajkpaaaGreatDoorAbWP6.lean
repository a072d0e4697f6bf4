/-
  Texts of the layer and of the laws, put together: Ab9.
-/
import Derived.Test.YtdoofgbeajkpaaaGreatDoorAbWP5
set_option linter.unusedSimpArgs false
set_option linter.unusedVariables false
set_option maxRecDepth 100000
namespace Go.Ab
open Go.RowKit
section
variable {X : Ctx} {A : Actn} {E : Env} {s : S} {a : Act}
theorem len_sim {t ty : TypeId} {x v : AV} {u : Value} (hx : x.rel E s.h u) (h : X.lenA t x = some v) : ∃ u', (Builtin.len_ #[t] ty #[u]).run X.P E.w = .ok u' E.w ∧ v.rel E s.h u' := by
  unfold Ctx.lenA at h
  cases hu : X.P.underlying t with
  | none => simp [hu] at h
  | some dt =>
    simp only [hu, Option.bind_some] at h
    split at h
    · cases h
      obtain ⟨s', rfl, rfl⟩ := str_inv (rel_d hx)
      refine ⟨.int .i64 s'.size, by simp [Builtin.len_, run_underlying hu, goInt], ?_⟩
      rw [Lib.size_eq]
      exact .int _ _
    · rename_i e ps
      cases h
      obtain ⟨b, o, cap, rfl, _⟩ := hx
      exact ⟨.int .i64 ps.length, by simp [Builtin.len_, run_underlying hu, goInt], .int _ _⟩
    · rename_i e c _
      cases he : c.elems with
      | none => simp [he] at h
      | some es =>
        simp [he] at h
        subst h
        obtain ⟨full, hrd, _⟩ := elems_rel hx he
        obtain ⟨b, cap, rfl, _⟩ := sl_inv hrd
        exact ⟨.int .i64 es.length, by simp [Builtin.len_, run_underlying hu, goInt], .int _ _⟩
    · cases h
      exact ⟨_, by simp [Builtin.len_, run_underlying hu, goInt], .int _ _⟩
    cases h
theorem lenM_sim {t ty : TypeId} {x v : AV} {u : Value} (henv : EnvOk A E s.h) (hx : x.rel E s.h u) (h : X.lenM s.h t x = some v) : ∃ u', (Builtin.len_ #[t] ty #[u]).run X.P E.w = .ok u' E.w ∧ v.rel E s.h u' := by
  unfold Ctx.lenM at h
  split at h
  · split at h
    · rename_i hu hid
      split at h
      · rename_i hnm
        cases h
        exact ⟨_, lenM_msl hx hu hid hnm, .int _ _⟩
      cases h
    cases h
  · split at h
    · rename_i hu hid
      cases h
      exact ⟨_, lenM_map henv hx hu hid, .int _ _⟩
    cases h
  · split at h
    · rename_i hu
      cases h
      exact ⟨_, lenM_mso hx hu, .int _ _⟩
    cases h
  exact len_sim hx h
theorem fold_sim {f : AV → AV → Option AV} {g : Value → Value → Sem Value} (hfg : ∀ x y v ux uy, f x y = some v → x.rel E s.h ux → y.rel E s.h uy → ∃ u, (g ux uy).run X.P E.w = .ok u E.w ∧ v.rel E s.h u) :
    ∀ (r : List AV) (ur : List Value) (x v : AV) (ux : Value), r.length = ur.length → (∀ (j : Nat) (y : AV), r[j]? = some y → ∃ u, ur[j]? = some u ∧ y.rel E s.h u) → x.rel E s.h ux → foldO f x r = some v →
    ∃ u, (ur.foldlM g ux).run X.P E.w = .ok u E.w ∧ v.rel E s.h u
  | [], ur, x, v, ux, hl, _, hx, h => by
    have : ur = [] := List.eq_nil_of_length_eq_zero (by simpa using hl.symm)
    subst this
    cases h
    exact ⟨ux, by simp, hx⟩
  | y :: r, ur, x, v, ux, hl, hr, hx, h => by
    cases ur with
    | nil => simp at hl
    | cons uy ur =>
      obtain ⟨uy', hy', hyr⟩ := hr 0 y rfl
      cases hy'
      simp only [foldO] at h
      cases hf : f x y with
      | none => simp [hf] at h
      | some c =>
        simp only [hf, Option.bind_some] at h
        obtain ⟨u, hu, hur⟩ := hfg x y c ux uy hf hx hyr
        obtain ⟨u2, hu2, hr2⟩ := fold_sim hfg r ur c v u (by simpa using hl) (fun j y hj => by simpa using hr (j + 1) y (by simpa using hj)) hur h
        exact ⟨u2, by simp [hu, hu2], hr2⟩
theorem min_sim (x y v : AV) (ux uy : Value) (h : minA x y = some v) (hx : x.rel E s.h ux) (hy : y.rel E s.h uy) : ∃ u, (Builtin.min2 ux uy).run X.P E.w = .ok u E.w ∧ v.rel E s.h u := by
  unfold minA at h
  split at h
  · cases h
    have h1 := int_inv (rel_d hx)
    have h2 := int_inv (rel_d hy)
    subst h1; subst h2
    exact ⟨_, by simp [Builtin.min2], .int _ _⟩
  cases h
theorem max_sim (x y v : AV) (ux uy : Value) (h : maxA x y = some v) (hx : x.rel E s.h ux) (hy : y.rel E s.h uy) : ∃ u, (Builtin.max2 ux uy).run X.P E.w = .ok u E.w ∧ v.rel E s.h u := by
  unfold maxA at h
  split at h
  · cases h
    have h1 := int_inv (rel_d hx)
    have h2 := int_inv (rel_d hy)
    subst h1; subst h2
    exact ⟨_, by simp [Builtin.max2], .int _ _⟩
  cases h
theorem args_rel (hn : Now X A E s a) (args : Array Operand) : ∀ (j : Nat) (y : AV), (args.toList.map (X.ev s))[j]? = some y → ∃ u, (args.toList.map a.eval)[j]? = some u ∧ y.rel E s.h u := by
  intro j y hj
  rw [List.getElem?_map] at hj
  cases hx : args.toList[j]? with
  | none => simp [hx] at hj
  | some x =>
    simp [hx] at hj
    subst hj
    exact ⟨a.eval x, by rw [List.getElem?_map, hx]; rfl, ev_rel hn x⟩
theorem list1 {α : Type} {l : Array α} {x : α} (h : l.toList = [x]) : l = #[x] := by
  rw [← Array.toArray_toList (xs := l), h]
theorem list2 {α : Type} {l : Array α} {x y : α} (h : l.toList = [x, y]) : l = #[x, y] := by
  rw [← Array.toArray_toList (xs := l), h]
theorem builtin_sim (hn : Now X A E s a) {o : Oper} {K : Act → World → Prop} {Q : Exit → Act → World → Prop} {c : Call} {b : Builtin} {out : OpR} (ho : o.op = .call c) (hc : c.callee = .builtin b)
    (h : builtinA X s.h b c.argTypes.toList (c.args.toList.map (X.ev s)) = some out) (hd : Done A E s.h o a K Q out) : o.wp X.P a E.w K Q := by
  have hex : ∀ (r : Result Next), ((builtin b c.argTypes o.type (c.args.map fun | .const _ => true | _ => false) (c.args.map a.eval)).run X.P E.w) = r → (execOp a.eval o).run X.P E.w = r := fun r hr => by
    simp only [execOp, ho, resolve, hc, Sem.run_bind, Sem.run_pure, Result.andThen_ok, invoke]
    exact hr
  have hargs := args_rel hn c.args
  unfold builtinA at h
  split at h
  · rename_i t x hts hxs
    cases hv : X.lenM s.h t x with
    | none => simp [hv] at h
    | some v =>
      simp [hv] at h
      subst h
      obtain ⟨u, hu, hr⟩ := hargs 0 x (by rw [hxs]; rfl)
      have hl : (c.args.toList.map a.eval).length = 1 := by
        have := congrArg List.length hxs
        simp at this ⊢
        exact this
      have hcs : (c.args.map a.eval) = #[u] := by
        apply list1
        rw [Array.toList_map]
        apply List.ext_getElem?
        intro j
        cases j with
        | zero => rw [hu]; rfl
        | succ j => rw [List.getElem?_eq_none (by omega)]; rfl
      obtain ⟨u', hu', hr'⟩ := lenM_sim (X := X) (ty := o.type) hn.rel.env hr hv
      refine wp_of_val (hex _ ?_) (done_val hn hd hr')
      rw [hcs, list1 hts]
      simp [builtin, hu']
  · rename_i t ts x y hts hxs
    cases hv : X.deleteA s.h t x y with
    | none => simp [hv] at h
    | some h' =>
      simp [hv] at h
      subst h
      obtain ⟨u, hu, hr⟩ := hargs 0 x (by rw [hxs]; rfl)
      obtain ⟨u2, hu2, hr2⟩ := hargs 1 y (by rw [hxs]; rfl)
      have hl : (c.args.toList.map a.eval).length = 2 := by
        have := congrArg List.length hxs
        simpa using this
      have hcs : (c.args.map a.eval) = #[u, u2] := by
        apply list2
        rw [Array.toList_map]
        apply List.ext_getElem?
        intro j
        match j with
        | 0 => rw [hu]; rfl
        | 1 => rw [hu2]; rfl
        | j + 2 => rw [List.getElem?_eq_none (by omega)]; rfl
      have hts' : c.argTypes = (t :: ts).toArray := by rw [← hts]
      obtain ⟨E', hrun, ev, hok⟩ := delete_sim (X := X) (ty := o.type) (ts := ts) hn hr hr2 hv
      refine wp_of_val' (hex _ ?_) (hd (.tuple #[]) E' ev hok ⟨[], rfl, rfl, fun j x hj => by simp at hj⟩)
      rw [hcs, hts']
      simp [builtin, hrun]
  · rename_i ts x r hxs
    cases hv : foldO minA x r with
    | none => simp [hv] at h
    | some v =>
      simp [hv] at h
      subst h
      obtain ⟨u, hu, hr⟩ := hargs 0 x (by rw [hxs]; rfl)
      have hl := congrArg List.length hxs
      cases hcl : c.args.toList.map a.eval with
      | nil => rw [hcl] at hu; cases hu
      | cons u0 ur =>
        rw [hcl] at hu
        cases hu
        obtain ⟨u', hu', hr'⟩ := fold_sim (X := X) (E := E) (s := s) min_sim r ur x v u (by have := congrArg List.length hcl; simp at this hl; omega)
          (fun j y hj => by
            obtain ⟨u2, h2, h3⟩ := hargs (j + 1) y (by rw [hxs]; exact hj)
            rw [hcl] at h2
            exact ⟨u2, h2, h3⟩) hr hv
        refine wp_of_val (hex _ ?_) (done_val hn hd hr')
        have hcl' : (c.args.map a.eval).toList = u :: ur := by rw [Array.toList_map]; exact hcl
        simp [builtin, Builtin.min_, hcl, hu']
  · rename_i ts x r hxs
    cases hv : foldO maxA x r with
    | none => simp [hv] at h
    | some v =>
      simp [hv] at h
      subst h
      obtain ⟨u, hu, hr⟩ := hargs 0 x (by rw [hxs]; rfl)
      have hl := congrArg List.length hxs
      cases hcl : c.args.toList.map a.eval with
      | nil => rw [hcl] at hu; cases hu
      | cons u0 ur =>
        rw [hcl] at hu
        cases hu
        obtain ⟨u', hu', hr'⟩ := fold_sim (X := X) (E := E) (s := s) max_sim r ur x v u (by have := congrArg List.length hcl; simp at this hl; omega)
          (fun j y hj => by
            obtain ⟨u2, h2, h3⟩ := hargs (j + 1) y (by rw [hxs]; exact hj)
            rw [hcl] at h2
            exact ⟨u2, h2, h3⟩) hr hv
        refine wp_of_val (hex _ ?_) (done_val hn hd hr')
        simp [builtin, Builtin.max_, hcl, hu']
  · rename_i t t' x y hts hxs
    split at h
    · rename_i hok
      cases hv : X.appendA s.h t x y with
      | none => simp [hv] at h
      | some p =>
        simp [hv] at h
        subst h
        obtain ⟨v, h'⟩ := p
        obtain ⟨u, hu, hr⟩ := hargs 0 x (by rw [hxs]; rfl)
        obtain ⟨uy, huy, hry⟩ := hargs 1 y (by rw [hxs]; rfl)
        have hl : (c.args.toList.map a.eval).length = 2 := by
          have := congrArg List.length hxs
          simp at this ⊢
          exact this
        have hcs : (c.args.map a.eval) = #[u, uy] := by
          apply list2
          rw [Array.toList_map]
          apply List.ext_getElem?
          intro j
          cases j with
          | zero => rw [hu]; rfl
          | succ j =>
            cases j with
            | zero => rw [huy]; rfl
            | succ j => rw [List.getElem?_eq_none (by omega)]; rfl
        refine append_sim (X := X) (t := t) (tx := t') (ty := o.type) hn hr hry (fun l hl => ?_) (fun hne => ?_) hv (fun u' w' hrun => hex _ ?_) hd
        · subst hl
          unfold okSrc at hok
          split at hok
          · assumption
          · simp at hok
          cases hok
        · unfold okSrc at hok
          split at hok
          · split at hok
            · rename_i l
              exact absurd rfl (hne l)
            cases hok
          · rename_i e' he'
            exact ⟨e', he'⟩
          cases hok
        rw [hcs, list2 hts]
        simp [builtin, hrun]
    cases h
  · rename_i t t' x y hts hxs
    split at h
    · rename_i hok
      cases hv : X.copyA s.h t x y with
      | none => simp [hv] at h
      | some p =>
        simp [hv] at h
        subst h
        obtain ⟨v, h'⟩ := p
        obtain ⟨u, hu, hr⟩ := hargs 0 x (by rw [hxs]; rfl)
        obtain ⟨uy, huy, hry⟩ := hargs 1 y (by rw [hxs]; rfl)
        have hl : (c.args.toList.map a.eval).length = 2 := by
          have := congrArg List.length hxs
          simp at this ⊢
          exact this
        have hcs : (c.args.map a.eval) = #[u, uy] := by
          apply list2
          rw [Array.toList_map]
          apply List.ext_getElem?
          intro j
          cases j with
          | zero => rw [hu]; rfl
          | succ j =>
            cases j with
            | zero => rw [huy]; rfl
            | succ j => rw [List.getElem?_eq_none (by omega)]; rfl
        refine copy_sim (X := X) (t := t) (tx := t') (ty := o.type) hn hr hry (fun l hl => ?_) (fun hne => ?_) hv (fun u' w' hrun => hex _ ?_) hd
        · subst hl
          unfold okSrc at hok
          split at hok
          · assumption
          · simp at hok
          cases hok
        · unfold okSrc at hok
          split at hok
          · split at hok
            · rename_i l
              exact absurd rfl (hne l)
            cases hok
          · rename_i e' he'
            exact ⟨e', he'⟩
          cases hok
        rw [hcs, list2 hts]
        simp [builtin, hrun]
    cases h
  · rename_i t x hts hxs
    cases hv : X.clearA s.h t x with
    | none => simp [hv] at h
    | some h' =>
      simp [hv] at h
      subst h
      obtain ⟨u, hu, hr⟩ := hargs 0 x (by rw [hxs]; rfl)
      have hl : (c.args.toList.map a.eval).length = 1 := by
        have := congrArg List.length hxs
        simp at this ⊢
        exact this
      have hcs : (c.args.map a.eval) = #[u] := by
        apply list1
        rw [Array.toList_map]
        apply List.ext_getElem?
        intro j
        cases j with
        | zero => rw [hu]; rfl
        | succ j => rw [List.getElem?_eq_none (by omega)]; rfl
      obtain ⟨E', hrun, ev, hok⟩ := clear_sim (X := X) (ty := o.type) hn hr hv
      refine wp_of_val' (hex _ ?_) (hd (.tuple #[]) E' ev hok ⟨[], rfl, rfl, fun j x hj => by simp at hj⟩)
      rw [hcs, list1 hts]
      simp [builtin, hrun]
  cases h
theorem call_sim (hK : KOk X) (hn : Now X A E s a) {o : Oper} {K : Act → World → Prop} {Q : Exit → Act → World → Prop} {c : Call} {out : OpR} (ho : o.op = .call c) (h : callA X (X.ev s) s.h c = some out)
    (hd : Done A E s.h o a K Q out) : o.wp X.P a E.w K Q := by
  unfold callA at h
  split at h
  · rename_i b hc
    exact builtin_sim hn ho hc h hd
  · rename_i f hc
    split at h
    · rename_i g caps hf
      have key : ∀ co : COut, hdl X g (c.args.toList.map (X.ev s) ++ caps.map fun p => .v (.c (.ptr p.1 p.2))) s.h = some co → out = co.op → o.wp X.P a E.w K Q := fun co hk he => by
        subst he
        have hfr := ev_rel hn f
        rw [hf] at hfr
        obtain ⟨vs, hv, hvl, hvc⟩ := hfr
        have hrun : (execOp a.eval o).run X.P E.w = (callFunc g ((c.args.map a.eval) ++ vs.toArray)).run X.P E.w := by
          simp [execOp, ho, resolve, hc, hv, Deferred.ofValue, invoke]
        unfold Oper.wp
        rw [hrun]
        refine hK g _ _ co hk A E _ hn.G hn.rel.env (by simp [hvl]) (fun j x hj => ?_) o a K Q hd
        by_cases hjl : j < c.args.size
        · rw [List.getElem?_append_left (by simpa using hjl)] at hj
          obtain ⟨u, hu, hr⟩ := args_rel hn c.args j x hj
          have : (c.args.map a.eval ++ vs.toArray).getD j undef = u := by
            simp only [Array.getD_eq_getD_getElem?]
            rw [Array.getElem?_append_left (by simpa using hjl)]
            have : (c.args.map a.eval)[j]? = some u := by
              rw [← Array.getElem?_toList, Array.toList_map]; exact hu
            rw [this]
            rfl
          rw [this]
          exact hr
        rw [List.getElem?_append_right (by simpa using hjl)] at hj
        simp only [List.length_map, Array.length_toList] at hj
        rw [List.getElem?_map] at hj
        cases hp : caps[j - c.args.size]? with
        | none => simp [hp] at hj
        | some p =>
          simp [hp] at hj
          subst hj
          obtain ⟨b, hb, hvj⟩ := hvc _ p hp
          have : (c.args.map a.eval ++ vs.toArray).getD j undef = .pointer (some ⟨b, p.2, none⟩) := by
            simp only [Array.getD_eq_getD_getElem?]
            rw [Array.getElem?_append_right (by simp; omega)]
            simp [hvj]
          rw [this]
          exact ⟨b, hb, rfl⟩
      split at h
      · rename_i m hm
        cases hv : m (c.args.toList.map (X.ev s) ++ caps.map fun p => .v (.c (.ptr p.1 p.2))) with
        | none => simp [hv] at h
        | some v =>
          simp [hv] at h
          exact key (.ret v s.h) (by simp [hdl, hm, hv]) h.symm
      rename_i hm
      split at h
      · rename_i m hN
        cases hv : m (c.args.toList.map (X.ev s) ++ caps.map fun p => .v (.c (.ptr p.1 p.2))) with
        | none => simp [hv] at h
        | some r =>
          simp [hv] at h
          exact key (r.at s.h) (by simp [hdl, hm, hN, hv]) h.symm
      rename_i hN
      cases hv : X.K g (c.args.toList.map (X.ev s) ++ caps.map fun p => .v (.c (.ptr p.1 p.2))) s.h with
      | none => simp [hv] at h
      | some co =>
        simp [hv] at h
        exact key co (by simp [hdl, hm, hN, hv]) h.symm
    cases h
  cases h
theorem intOf_rel {x : AV} {n : Int} {u : Value} (hr : x.rel E s.h u) (h : intOfA x = some n) : ∃ k, u = .int k n := by
  unfold intOfA at h
  split at h
  · cases h; exact ⟨_, int_inv (rel_d hr)⟩
  cases h
theorem optI_rel (hn : Now X A E s a) {x : Option Operand} {n : Option Int} (h : optI (X.ev s) x = some n) : BoundRel (x.map a.eval) n := by
  cases x with
  | none => cases h; trivial
  | some x =>
    simp only [optI] at h
    cases hi : intOfA (X.ev s x) with
    | none => simp [hi] at h
    | some i =>
      simp [hi] at h
      subst h
      exact intOf_rel (ev_rel hn x) hi
theorem parts_rel (hn : Now X A E s a) (parts : Array (Nat × Operand)) (j : Nat) (x : Nat × AV) (y : Nat × Value) (hx : (parts.toList.map fun p => (p.1, X.ev s p.2))[j]? = some x)
    (hy : (parts.map fun (i, x) => (i, a.eval x)).toList[j]? = some y) : x.1 = y.1 ∧ x.2.rel E s.h y.2 := by
  rw [Array.toList_map] at hy
  rw [List.getElem?_map] at hx hy
  cases hp : parts.toList[j]? with
  | none => simp [hp] at hx
  | some p =>
    simp [hp] at hx hy
    subst hx
    subst hy
    exact ⟨rfl, ev_rel hn p.2⟩
theorem exec_bin {ρ : Operand → Value} {o : Oper} {op : BinOp} {t yt : TypeId} {x y : Operand} (ho : o.op = .binOp op t x y yt) :
    execOp ρ o = (do pure (Next.value (← (do eqGuard op t x y (ρ x) (ρ y); binOp op t (ρ x) (ρ y) : Sem Value)))) := by
  simp only [execOp, ho]
theorem assert_sim (hn : Now X A E s a) {ty xt : TypeId} {x v : AV} {u : Value} (hx : x.rel E s.h u) (h : assertA ty (X.isIf ty) (X.zeroV ty) x = some v) :
    ∃ r, (Instr.typeAssert u xt ty true).run X.P E.w = .ok r E.w ∧ v.rel E s.h r := by
  have two : ∀ {z : V} {zv : Value} {b : Bool}, z.rel E s.h zv → (AV.tup [z, .c (.d (.bool b))]).rel E s.h (.tuple #[zv, .bool b]) := fun {z zv b} hz => by
    refine ⟨[zv, .bool b], rfl, rfl, fun j y hj => ?_⟩
    match j with
    | 0 => simp at hj; subst hj; exact ⟨zv, rfl, hz⟩
    | 1 => simp at hj; subst hj; exact ⟨.bool b, rfl, .bool b⟩
    | j + 2 => simp at hj
  have inv : X.isIf ty = some false → ∃ dt, X.P.underlying ty = some dt ∧ ∀ ms, dt ≠ .interface ms := fun hi => by
    unfold Ctx.isIf at hi
    cases hu : X.P.underlying ty with
    | none => simp [hu] at hi
    | some dd => exact ⟨dd, rfl, fun ms he => by subst he; simp [hu] at hi⟩
  unfold assertA at h
  split at h
  · rename_i z t xs ag hif
    obtain ⟨dt, hu, hne⟩ := inv hif
    obtain ⟨y, rfl, hy⟩ := hx
    split at h
    · rename_i he
      subst he
      cases h
      refine ⟨.tuple #[y, .bool true], ?_, two ?_⟩
      · cases dt <;> first | exact absurd rfl (hne _) | simp [Instr.typeAssert, run_underlying hu]
      cases ag with
      | false =>
        simp only [Bool.false_eq_true, if_false] at hy ⊢
        obtain ⟨x0, rfl, hr⟩ := hy
        exact hr
      | true =>
        simp only [if_true] at hy ⊢
        obtain ⟨vs, rfl, hl, hr⟩ := hy
        refine ⟨vs, rfl, by simp [hl], fun j x0 hj => ?_⟩
        rw [List.getElem?_map] at hj
        cases hq : xs[j]? with
        | none => simp [hq] at hj
        | some d =>
          simp [hq] at hj
          subst hj
          obtain ⟨w0, hw0, hr0⟩ := hr j d hq
          exact ⟨w0, hw0, hr0, hr0.one⟩
    rename_i he
    cases hz : X.zeroV ty with
    | none => simp [hz] at h
    | some z0 =>
      simp [hz] at h
      subst h
      obtain ⟨zv, hzv, hzr⟩ := zeroV_inv (E := E) (s := s) hz
      refine ⟨.tuple #[zv, .bool false], ?_, two hzr⟩
      cases dt <;> first | exact absurd rfl (hne _) | simp [Instr.typeAssert, run_underlying hu, he, hzv]
  · rename_i z hif
    obtain ⟨dt, hu, hne⟩ := inv hif
    have hx' : u = .nilIface := hx
    subst hx'
    cases hz : X.zeroV ty with
    | none => simp [hz] at h
    | some z0 =>
      simp [hz] at h
      subst h
      obtain ⟨zv, hzv, hzr⟩ := zeroV_inv (E := E) (s := s) hz
      refine ⟨.tuple #[zv, .bool false], ?_, two hzr⟩
      cases dt <;> first | exact absurd rfl (hne _) | simp [Instr.typeAssert, run_underlying hu, hzv]
  cases h
theorem ptrs_sim : ∀ (xs : List AV) (vs : List Value), xs.length = vs.length → (∀ (j : Nat) (y : AV), xs[j]? = some y → ∃ u, vs[j]? = some u ∧ y.rel E s.h u) → ∀ l, ptrsA xs = some l →
    vs.length = l.length ∧ ∀ (j : Nat) (p : Nat × Nat), l[j]? = some p → ∃ b, At E s.h 1 p.1 b ∧ vs[j]? = some (.pointer (some ⟨b, p.2, none⟩))
  | [], vs, hl, _, l, h => by
    cases h
    have : vs = [] := List.eq_nil_of_length_eq_zero (by simpa using hl.symm)
    subst this
    exact ⟨rfl, fun j p hj => by simp at hj⟩
  | x :: xs, vs, hl, hr, l, h => by
    cases vs with
    | nil => simp at hl
    | cons v vs =>
      unfold ptrsA at h
      split at h
      · rename_i he; cases he
      · rename_i id off r he
        cases he
        simp only [Option.map_eq_some_iff] at h
        obtain ⟨l', hl', rfl⟩ := h
        obtain ⟨h1, h2⟩ := ptrs_sim xs vs (by simpa using hl) (fun j y hj => by simpa using hr (j + 1) y (by simpa using hj)) l' hl'
        refine ⟨by simp [h1], fun j p hj => ?_⟩
        cases j with
        | zero =>
          simp at hj
          subst hj
          obtain ⟨u, hu, b, hb, hv⟩ := hr 0 _ rfl
          exact ⟨b, hb, by rw [hu, hv]⟩
        | succ j => simpa using h2 j p (by simpa using hj)
      cases h
theorem op_sim (hK : KOk X) (hn : Now X A E s a) {o : Oper} {K : Act → World → Prop} {Q : Exit → Act → World → Prop} {out : OpR} (h : opA X s o = some out) (hd : Done A E s.h o a K Q out) : o.wp X.P a E.w K Q := by
  unfold opA opR at h
  split at h
  · rename_i x ho
    cases h
    exact wp_of_val (u := a.eval x) (by simp [execOp, ho]) (done_val hn hd (ev_rel hn x))
  · rename_i x ho
    cases h
    exact wp_of_val (u := a.eval x) (by simp [execOp, ho]) (done_val hn hd (ev_rel hn x))
  · rename_i c x y ho
    split at h
    · rename_i t hc
      cases h
      have hcr := ev_rel hn c
      rw [hc] at hcr
      have hcv := bool_inv (rel_d hcr)
      refine wp_of_val (u := if t then a.eval x else a.eval y) (by simp [execOp, ho, hcv, asBool]) (done_val hn hd ?_)
      cases t
      · exact ev_rel hn y
      exact ev_rel hn x
    cases h
  · rename_i e ho
    cases hz : X.zero e with
    | none => simp [hz] at h
    | some z =>
      cases hc : z.cs with
      | none => simp [hz, hc] at h
      | some cs =>
        simp [hz, hc] at h
        subst h
        obtain ⟨i, v, hi, hv, rfl⟩ := zero_inv hz
        refine new_sim hn (cs_rel (litV_rel E s.h v) hc) (lit_nils hc) (T := e) ?_ hd
        simp [execOp, ho, Instr.alloc, zeroValue, typeInfo, hi, hv, newVar, newRow]
  · rename_i e x ho
    cases hc : (X.ev s x).cs with
    | none => simp [hc] at h
    | some cs =>
      simp [hc] at h
      subst h
      refine box_sim hn (cs_rel (ev_rel hn x) hc) (T := e) ?_ hd
      simp [execOp, ho, Instr.box, newVar, newRow]
  · rename_i t parts ho
    cases hb : X.buildA t (parts.toList.map fun p => (p.1, X.ev s p.2)) with
    | none => simp [hb] at h
    | some v =>
      simp [hb] at h
      subst h
      obtain ⟨u, hu, hr⟩ := build_sim (X := X) (E := E) (s := s) (pv := parts.map fun (i, x) => (i, a.eval x)) (by simp) (parts_rel hn parts) hb
      exact wp_of_val (u := u) (by simp [execOp, ho, hu]) (done_val hn hd hr)
  · rename_i t n parts ho
    split at h
    · cases hb : X.buildMA s.h t n (parts.toList.map fun p => (p.1, X.ev s p.2)) with
      | none => simp [hb] at h
      | some p =>
        simp [hb] at h
        subst h
        exact buildM_sim hn (pv := parts.map fun (i, x) => (i, a.eval x)) (by simp) (parts_rel hn parts) hb (fun u w' hu => by simp [execOp, ho, hu]) hd
    cases hb : X.buildSliceA t n (parts.toList.map fun p => (p.1, X.ev s p.2)) with
    | none => simp [hb] at h
    | some v =>
      simp [hb] at h
      subst h
      exact buildSlice_sim hn (pv := parts.map fun (i, x) => (i, a.eval x)) (by simp) (parts_rel hn parts) hb (fun u w' hu => by simp [execOp, ho, hu]) hd
  · rename_i t x ho
    cases hl : X.loadA s.h t (X.ev s x) with
    | none => simp [hl] at h
    | some v =>
      simp [hl] at h
      subst h
      have hxr := ev_rel hn x
      have key : ∀ b o' off cs y, a.eval x = .pointer (some ⟨b, o' + off, none⟩) → CellsAt E s.h b o' cs → X.part t cs off = some y → v = .v y → o.wp X.P a E.w K Q := fun b o' off cs y hv hc hp hy => by
        obtain ⟨u, hu, hr⟩ := load_sim (X := X) hc hp
        subst hy
        exact wp_of_val (u := u) (by simp [execOp, ho, hv, Instr.loadAt, Instr.sureAddr, hu]) (done_val hn hd hr)
      unfold Ctx.loadA at hl
      split at hl
      · rename_i id off hx
        split at hl
        · rename_i cs hid
          cases hp : X.part t cs off with
          | none => simp [hp] at hl
          | some y =>
            simp [hp] at hl
            rw [hx] at hxr
            obtain ⟨b, ⟨_, hρ⟩, hv⟩ := hxr
            obtain ⟨b', vs, T, hρ', hb, hc, _⟩ := hn.rel.env.ob id _ hid
            rw [hρ] at hρ'
            cases hρ'
            exact key b 0 off cs y (by rw [Nat.zero_add]; exact hv) (cells_of_row hb hc) hp hl.symm
        cases hl
      · rename_i xs hx
        cases hp : X.part t (xs.map .d) 0 with
        | none => simp [hp] at hl
        | some y =>
          simp [hp] at hl
          rw [hx] at hxr
          obtain ⟨b, o', hv, hc⟩ := cells_of_dptr (h := s.h) hxr
          exact key b o' 0 _ y hv hc hp hl.symm
      · rename_i ps hx
        cases hp : X.part t (ps.map fun p => C1.ptr p.1 p.2) 0 with
        | none => simp [hp] at hl
        | some y =>
          simp [hp] at hl
          rw [hx] at hxr
          obtain ⟨b, o', hv, hc⟩ := hxr
          exact key b o' 0 _ y hv (cells_of_ppt hc) hp hl.symm
      · rename_i id n off hx
        split at hl
        · rename_i m z ds hid
          split at hl
          · rename_i hnm
            cases hp : X.part t ds off with
            | none => simp [hp] at hl
            | some y =>
              simp [hp] at hl
              rw [hx] at hxr
              obtain ⟨b, hv, m', z', c', hid', _, hρ⟩ := hxr
              rw [hid] at hid'
              cases hid'
              have hρ := hρ hnm
              obtain ⟨_, h0 | ⟨b', vs, T, hρ', hb, _, hc, _⟩⟩ := hn.rel.env.ob id _ hid
              · rw [hρ] at h0; cases h0.1
              rw [hρ] at hρ'
              cases hρ'
              refine key b 0 off ds y (by rw [Nat.zero_add]; exact hv) (fun j x hj => ?_) hp hl.symm
              obtain ⟨u, hu, hr⟩ := hc.2 j x hj
              refine ⟨u, ?_, hr⟩
              have hjl := lt_of_get hu
              simp only [List.length_take] at hjl
              rw [List.getElem?_take, if_pos (by omega)] at hu
              simp only [World.cell?, hb, Nat.zero_add, Option.isSome_none, Bool.false_eq_true, if_false]
              simpa using hu
          cases hl
        cases hl
      cases hl
  · rename_i t x y ho
    cases hs : X.storeA s.h t (X.ev s x) (X.ev s y) with
    | none => simp [hs] at h
    | some h' =>
      simp [hs] at h
      subst h
      exact store_sim hn (ev_rel hn x) (ev_rel hn y) hs (fun w' hw => by simp [execOp, ho, hw]) hd
  · rename_i x ho
    have hxr := ev_rel hn x
    split at h
    · rename_i id off hx
      cases h
      rw [hx] at hxr
      have hxr' := hxr
      obtain ⟨b, hb, hv⟩ := hxr'
      exact wp_of_val (u := a.eval x) (by simp [execOp, ho, hv]) (done_val hn hd hxr)
    · rename_i xs hx
      cases h
      rw [hx] at hxr
      have hxr' := hxr
      obtain ⟨b, o', hv, _⟩ := hxr'
      exact wp_of_val (u := a.eval x) (by simp [execOp, ho, hv]) (done_val hn hd hxr)
    · rename_i id n off hx
      cases h
      rw [hx] at hxr
      have hxr' := hxr
      obtain ⟨b, hv, _⟩ := hxr'
      exact wp_of_val (u := a.eval x) (by simp [execOp, ho, hv]) (done_val hn hd hxr)
    cases h
  · rename_i op t x y yt ho
    split at h
    · rename_i hy
      cases hb : nilS op (X.P.underlying t) (X.ev s x) with
      | none => simp [hb] at h
      | some c =>
        simp [hb] at h
        subst h
        obtain ⟨u, hu, hr⟩ := nilS_sim (x := x) (y := y) hy (ev_rel hn x) hb
        exact wp_of_val (u := u) (by rw [exec_bin ho, Sem.run_bind, hu]; rfl) (done_val hn hd hr)
    cases hb : X.binA op t (X.ev s x) (X.ev s y) with
    | none => simp [hb] at h
    | some d =>
      simp [hb] at h
      subst h
      have hxr := ev_rel hn x
      have hyr := ev_rel hn y
      unfold Ctx.binA at hb
      split at hb
      · rename_i k i k' j hx hy
        rw [hx] at hxr
        rw [hy] at hyr
        have h1 := int_inv (rel_d hxr)
        have h2 := int_inv (rel_d hyr)
        obtain ⟨v, hv, hr⟩ := intA_sim (P := X.P) (w := E.w) (w' := E.w) (F := E.F) (t := t) hb
        exact wp_of_val (u := v) (by simp [execOp, ho, h1, h2, eqGuard_at_int, hv]) (done_val hn hd hr)
      · rename_i l l' hx hy
        rw [hx] at hxr
        rw [hy] at hyr
        obtain ⟨s1, h1, rfl⟩ := str_inv (rel_d hxr)
        obtain ⟨s2, h2, rfl⟩ := str_inv (rel_d hyr)
        obtain ⟨v, hv, hr⟩ := strA_sim (P := X.P) (w := E.w) (w' := E.w) (F := E.F) (t := t) hb
        exact wp_of_val (u := v) (by simp [execOp, ho, h1, h2, eqGuard_at_string, hv]) (done_val hn hd hr)
      · rename_i b b' hx hy
        rw [hx] at hxr
        rw [hy] at hyr
        have h1 := bool_inv (rel_d hxr)
        have h2 := bool_inv (rel_d hyr)
        cases ht : X.P.underlying t with
        | none => simp [ht] at hb
        | some dt =>
          simp only [ht, Option.bind_some] at hb
          split at hb
          · obtain ⟨v, hv, hr⟩ := boolA_sim (P := X.P) (w := E.w) (w' := E.w) (F := E.F) ht hb
            exact wp_of_val (u := v) (by simp [execOp, ho, h1, h2, eqGuard_at_bool, hv]) (done_val hn hd hr)
          cases hb
      · rename_i xs ys hx hy
        rw [hx] at hxr
        rw [hy] at hyr
        obtain ⟨r, hr, hrd⟩ := eqAgg_sim (x := x) (y := y) hxr hyr hb
        exact wp_of_val (u := r) (by rw [exec_bin ho, Sem.run_bind, hr]; rfl) (done_val hn hd hrd)
      · rename_i tt xs ag hx hy
        rw [hx] at hxr
        rw [hy] at hyr
        obtain ⟨u, hv, _⟩ := hxr
        have hv2 : a.eval y = .nilIface := hyr
        obtain ⟨r, hr, hrd⟩ := ifcNil_sim (x := x) (y := y) (w := E.w) (F := E.F) (.inl ⟨rfl, tt, u, hv⟩) hb
        exact wp_of_val (u := r) (by rw [exec_bin ho, hv2, Sem.run_bind, hr]; rfl) (done_val hn hd hrd)
      · rename_i hx hy
        rw [hx] at hxr
        rw [hy] at hyr
        have hv : a.eval x = .nilIface := hxr
        have hv2 : a.eval y = .nilIface := hyr
        obtain ⟨r, hr, hrd⟩ := ifcNil_sim (x := x) (y := y) (w := E.w) (F := E.F) (.inr ⟨rfl, hv⟩) hb
        exact wp_of_val (u := r) (by rw [exec_bin ho, hv2, Sem.run_bind, hr]; rfl) (done_val hn hd hrd)
      · rename_i id off hx hy
        rw [hx] at hxr
        rw [hy] at hyr
        obtain ⟨b, _, hv⟩ := hxr
        have hv2 : a.eval y = .pointer none := hyr
        obtain ⟨r, hr, hrd⟩ := ptrNil_sim (x := x) (y := y) (w := E.w) (F := E.F) (p := some ⟨b, off, none⟩) hb
        exact wp_of_val (u := r) (by rw [exec_bin ho, hv, hv2, Sem.run_bind, hr]; rfl) (done_val hn hd hrd)
      · rename_i xs hx hy
        rw [hx] at hxr
        rw [hy] at hyr
        obtain ⟨b, off, hv, _⟩ := hxr
        have hv2 : a.eval y = .pointer none := hyr
        obtain ⟨r, hr, hrd⟩ := ptrNil_sim (x := x) (y := y) (w := E.w) (F := E.F) (p := some ⟨b, off, none⟩) hb
        exact wp_of_val (u := r) (by rw [exec_bin ho, hv, hv2, Sem.run_bind, hr]; rfl) (done_val hn hd hrd)
      · rename_i hx hy
        rw [hx] at hxr
        rw [hy] at hyr
        have hv : a.eval x = .pointer none := hxr
        have hv2 : a.eval y = .pointer none := hyr
        obtain ⟨r, hr, hrd⟩ := ptrNil_sim (x := x) (y := y) (w := E.w) (F := E.F) (p := none) hb
        exact wp_of_val (u := r) (by rw [exec_bin ho, hv, hv2, Sem.run_bind, hr]; rfl) (done_val hn hd hrd)
      cases hb
  · rename_i op t x ho
    cases hb : unA op (X.ev s x) with
    | none => simp [hb] at h
    | some d =>
      simp [hb] at h
      subst h
      obtain ⟨v, hv, hr⟩ := unA_sim (P := X.P) (w := E.w) (w' := E.w) (F := E.F) (ev_rel hn x) hb
      exact wp_of_val (u := v) (by simp [execOp, ho, hv]) (done_val hn hd hr)
  · rename_i src dst x ho
    cases hb : X.convA src dst (X.ev s x) with
    | none => simp [hb] at h
    | some d =>
      simp [hb] at h
      subst h
      exact conv_sim hn (ev_rel hn x) hb (fun u w' hu => by simp [execOp, ho, hu]) hd
  · rename_i t x ho
    have hxr := ev_rel hn x
    split at h
    · cases h
    · rename_i dt hne hu
      have hmk : (Instr.makeInterface t (a.eval x)).run X.P E.w = .ok (.iface t (a.eval x)) E.w := by
        simp only [Instr.makeInterface, Sem.run_bind, run_underlying hu, Result.andThen_ok]
        rfl
      split at h
      · rename_i c hx
        cases hdd : c.toD with
        | none => simp [hdd] at h
        | some d =>
          simp [hdd] at h
          subst h
          rw [hx] at hxr
          exact wp_of_val (u := .iface t (a.eval x)) (by simp [execOp, ho, hmk]) (done_val hn hd ⟨a.eval x, rfl, d, rfl, toD_rel hxr hdd⟩)
      · rename_i cs hx
        cases hdd : allD cs with
        | none => simp [hdd] at h
        | some ds =>
          simp [hdd] at h
          subst h
          rw [hx] at hxr
          obtain ⟨vs, hv, hc⟩ := hxr
          obtain ⟨hl, hr⟩ := allD_rel cs ds vs hc hdd
          exact wp_of_val (u := .iface t (a.eval x)) (by simp [execOp, ho, hmk]) (done_val hn hd ⟨a.eval x, rfl, vs, hv, hl.symm, hr⟩)
      cases h
    cases h
  · rename_i t x lo hi mx ho
    cases hl : optI (X.ev s) lo with
    | none => simp [hl] at h
    | some l =>
      cases hh : optI (X.ev s) hi with
      | none => simp [hl, hh] at h
      | some hv =>
        cases hm : optI (X.ev s) mx with
        | none => simp [hl, hh, hm] at h
        | some m =>
          by_cases hU : X.uT t = true
          · cases hs : X.sliceU s.h t (X.ev s x) l hv m with
            | none => simp [hl, hh, hm, hs, hU] at h
            | some d =>
              simp [hl, hh, hm, hs, hU] at h
              subst h
              obtain ⟨u, hu, hr⟩ := sliceU_sim (X := X) (ev_rel hn x) (optI_rel hn hl) (optI_rel hn hh) (optI_rel hn hm) hs
              exact wp_of_val (u := u) (by simp [execOp, ho, hu]) (done_val hn hd hr)
          cases hs : X.sliceA t (X.ev s x) l hv m with
          | none => simp [hl, hh, hm, hs, hU] at h
          | some d =>
            simp [hl, hh, hm, hs, hU] at h
            subst h
            obtain ⟨u, hu, hr⟩ := slice_sim (X := X) (ev_rel hn x) (optI_rel hn hl) (optI_rel hn hh) (optI_rel hn hm) hs
            exact wp_of_val (u := u) (by simp [execOp, ho, hu]) (done_val hn hd hr)
  · rename_i t x f ho
    have hxr := ev_rel hn x
    split at h
    · rename_i fs hu
      cases hfd : fs[f]? with
      | none => simp [hfd] at h
      | some fd =>
        cases hz : X.size fd.type with
        | none => simp [hfd, hz] at h
        | some n =>
          simp only [hfd, hz, Option.bind_some] at h
          split at h
          · cases h
          rename_i hn0
          have hplace : ∀ b o', (Instr.fieldAt t (.pointer (some ⟨b, o', none⟩)) f).run X.P E.w = .ok (.pointer (some ⟨b, o' + fd.offset, none⟩)) E.w := fun b o' => by
            simp [Instr.fieldAt, run_underlying hu, hfd, Instr.sureAddr, fieldPlace, run_sizeOf (size_info hz), hn0, Addr.add_zero_none]
          split at h
          · rename_i id off hx
            cases h
            rw [hx] at hxr
            obtain ⟨b, hb, hv⟩ := hxr
            exact wp_of_val (u := .pointer (some ⟨b, off + fd.offset, none⟩)) (by simp [execOp, ho, hv, hplace]) (done_val hn hd ⟨b, hb, rfl⟩)
          · rename_i xs hx
            cases h
            rw [hx] at hxr
            obtain ⟨b, o', hv, hp⟩ := id hxr
            exact wp_of_val (u := .pointer (some ⟨b, o' + fd.offset, none⟩)) (by simp [execOp, ho, hv, hplace]) (done_val hn hd (dptr_drop ⟨b, o', rfl, hp⟩ _))
          · rename_i id m off hx
            cases h
            rw [hx] at hxr
            obtain ⟨b, hv, hrest⟩ := hxr
            exact wp_of_val (u := .pointer (some ⟨b, off + fd.offset, none⟩)) (by simp [execOp, ho, hv, hplace]) (done_val hn hd ⟨b, rfl, hrest⟩)
          cases h
    cases h
  · rename_i t x f ho
    have hxr := ev_rel hn x
    split at h
    · rename_i fs hu
      cases hfd : fs[f]? with
      | none => simp [hfd] at h
      | some fd =>
        simp only [hfd, Option.bind_some] at h
        split at h
        · rename_i cs hx
          cases hp : X.part fd.type cs fd.offset with
          | none => simp [hp] at h
          | some y =>
            simp [hp] at h
            subst h
            rw [hx] at hxr
            obtain ⟨vs, hv, hc⟩ := hxr
            obtain ⟨u, hu', hr⟩ := part_sim (X := X) (E := E) (h := s.h) hc hp
            exact wp_of_val (u := u) (by simp [execOp, ho, hv, Instr.field, run_underlying hu, hfd, asAgg, hu']) (done_val hn hd hr)
        cases h
    cases h
  · rename_i t x i ho
    cases hi : intOfA (X.ev s i) with
    | none => simp [hi] at h
    | some n =>
      cases hc : X.indexAddrM s.h t (X.ev s x) n with
      | none => simp [hi, hc] at h
      | some c =>
        simp [hi, hc] at h
        subst h
        obtain ⟨k, hk⟩ := intOf_rel (ev_rel hn i) hi
        obtain ⟨u, hu, hr⟩ := indexAddrM_sim (X := X) (k := k) hn.rel.env (ev_rel hn x) hc
        exact wp_of_val (u := u) (by simp [execOp, ho, hk, hu]) (done_val hn hd hr)
  · rename_i t x i ho
    cases hi : intOfA (X.ev s i) with
    | none => simp [hi] at h
    | some n =>
      cases hc : X.indexA t (X.ev s x) n with
      | none => simp [hi, hc] at h
      | some c =>
        simp [hi, hc] at h
        subst h
        obtain ⟨k, hk⟩ := intOf_rel (ev_rel hn i) hi
        obtain ⟨u, hu, hr⟩ := index_sim (X := X) (k := k) (ev_rel hn x) hc
        exact wp_of_val (u := u) (by simp [execOp, ho, hk, hu]) (done_val hn hd hr)
  · rename_i t i ho
    have hxr := ev_rel hn t
    split at h
    · rename_i xs hx
      cases hp : xs[i]? with
      | none => simp [hp] at h
      | some y =>
        simp [hp] at h
        subst h
        rw [hx] at hxr
        obtain ⟨vs, hv, _, hc⟩ := hxr
        obtain ⟨u, hu, hr⟩ := hc i y hp
        exact wp_of_val (u := u) (by simp [execOp, ho, hv, Instr.extract, hu]) (done_val hn hd hr)
    cases h
  · rename_i c ho
    exact call_sim hK hn ho h hd
  · rename_i t ho
    cases h
    have st := Stp.new hn.rel.env (.map #[] 0) (.map [] 0)
    have ev := st.evo hn.rel.env
    refine wp_of_val' (u := .map (some E.w.heap.size)) (w' := E.w.alloc (.map #[] 0)) (by simp [execOp, ho, show (Instr.makeMap t none).run X.P E.w = .ok (.map (some E.w.heap.size)) (E.w.alloc (.map #[] 0)) from rfl]) (hd _ _ ev (st.ok hn.rel.env fun o ho => ?_) ⟨_, new_at, rfl⟩)
    simp at ho
    subst ho
    exact ⟨E.w.heap.size, #[], by simp [Env.newOb], heap_alloc_new _ _, rfl, fun o hf => by have := hn.rel.env.lt _ _ hf; omega, fun j p hj => by simp at hj⟩
  · rename_i t x i ok ho
    cases hc : X.lookupA s.h t (X.ev s x) (X.ev s i) ok with
    | none => simp [hc] at h
    | some v =>
      simp [hc] at h
      subst h
      obtain ⟨u, hu, hr⟩ := lookup_sim hn (ev_rel hn x) (ev_rel hn i) hc
      exact wp_of_val (u := u) (by simp [execOp, ho, hu]) (done_val hn hd hr)
  · rename_i t m k v ho
    cases hc : X.updateA s.h t (X.ev s m) (X.ev s k) (X.ev s v) with
    | none => simp [hc] at h
    | some h' =>
      simp [hc] at h
      subst h
      obtain ⟨E', hu, ev, hok⟩ := update_sim hn (ev_rel hn m) (ev_rel hn k) (ev_rel hn v) hc
      have hrun' : (execOp a.eval o).run X.P E.w = .ok .skip E'.w := by simp [execOp, ho, hu]
      simp only [Oper.wp, hrun', Oper.upon_skip]
      exact hd E' ev hok
  · rename_i t m k ho
    cases hc : X.entryA s.h t (X.ev s m) (X.ev s k) with
    | none => simp [hc] at h
    | some p =>
      simp [hc] at h
      subst h
      obtain ⟨u, E', hu, ev, hok, hr⟩ := entry_sim hn (ev_rel hn m) (ev_rel hn k) hc
      exact wp_of_val' (u := u) (by simp [execOp, ho, hu]) (hd u E' ev hok hr)
  · rename_i t m st v ho
    cases hc : X.entryPutA s.h (X.ev s m) (X.ev s st) (X.ev s v) with
    | none => simp [hc] at h
    | some h' =>
      simp [hc] at h
      subst h
      obtain ⟨E', hu, ev, hok⟩ := entryPut_sim (t := t) hn (ev_rel hn m) (ev_rel hn st) (ev_rel hn v) hc
      have hrun' : (execOp a.eval o).run X.P E.w = .ok .skip E'.w := by simp [execOp, ho, hu]
      simp only [Oper.wp, hrun', Oper.upon_skip]
      exact hd E' ev hok
  · rename_i t x ho
    split at h
    · rename_i l hu hx
      cases h
      have hxr := ev_rel hn x
      rw [hx] at hxr
      obtain ⟨v, E', hr, ev, hok, hv⟩ := range_sim hn hu hxr
      exact wp_of_val' (u := v) (by simp [execOp, ho, hr]) (hd v E' ev hok hv)
    cases h
  · rename_i x str ho
    cases hc : X.nextA s.h (X.ev s x) str with
    | none => simp [hc] at h
    | some p =>
      simp [hc] at h
      subst h
      obtain ⟨u, E', hu, ev, hok, hr⟩ := next_sim (ty := o.type) hn (ev_rel hn x) hc
      exact wp_of_val' (u := u) (by simp [execOp, ho, hu]) (hd u E' ev hok hr)
  · rename_i t l c ho
    cases hl : intOfA (X.ev s l) with
    | none => simp [hl] at h
    | some n =>
      cases hc : intOfA (X.ev s c) with
      | none => simp [hl, hc] at h
      | some k =>
        cases hm : X.makeA s.h t n k with
        | none => simp [hl, hc, hm] at h
        | some p =>
          simp [hl, hc, hm] at h
          subst h
          obtain ⟨k1, e1⟩ := intOf_rel (ev_rel hn l) hl
          obtain ⟨k2, e2⟩ := intOf_rel (ev_rel hn c) hc
          exact make_sim (kl := k1) (kc := k2) hn hm (fun u w' hu => by simp [execOp, ho, e1, e2, hu]) hd
  · rename_i x ho
    have hxr := ev_rel hn x
    split at h
    · rename_i t xs ag hx
      cases h
      rw [hx] at hxr
      have hxr' := hxr
      obtain ⟨u, hv, _⟩ := hxr'
      simp only [Oper.wp]
      have hrun : (execOp a.eval o).run X.P E.w = .halt (.panic (a.eval x)) E.w := by simp [execOp, ho, hv, Instr.panic]
      rw [hrun, Oper.upon_panic]
      exact hd _ E (Evo.refl (Nat.le_refl _)) hn.rel.env hxr
    cases h
  · rename_i x xt ty ho
    cases hc : assertA ty (X.isIf ty) (X.zeroV ty) (X.ev s x) with
    | none => simp [hc] at h
    | some v =>
      simp [hc] at h
      subst h
      obtain ⟨u, hu, hr⟩ := assert_sim (xt := xt) hn (ev_rel hn x) hc
      exact wp_of_val (u := u) (by simp [execOp, ho, hu]) (done_val hn hd hr)
  · rename_i f first captured ho
    split at h
    · rename_i hf
      subst hf
      cases hc : ptrsA (captured.toList.map (X.ev s)) with
      | none => simp [hc] at h
      | some l =>
        simp [hc] at h
        subst h
        have hr := ptrs_sim (E := E) (s := s) (captured.toList.map (X.ev s)) (captured.toList.map a.eval) (by simp) (fun j y hj => args_rel hn captured j y hj) l hc
        have hm : captured.map a.eval = (captured.toList.map a.eval).toArray := by rw [← Array.toList_map, Array.toArray_toList]
        exact wp_of_val (u := .func (.func f) #[] (captured.toList.map a.eval).toArray) (by simp [execOp, ho, Instr.makeFunc]; exact hm) (done_val hn hd ⟨_, rfl, hr.1, hr.2⟩)
    cases h
  cases h
end
end Go.Ab
