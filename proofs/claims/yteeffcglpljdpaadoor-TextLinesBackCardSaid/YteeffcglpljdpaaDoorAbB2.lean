/-
  A law that is a plain function of its arguments and answers true: what its row asks.
-/
import Derived.Test.YteeffcglpljdpaaDoorAbB1
import Derived.OpenShut
import Derived.ProofKit
set_option linter.unusedSimpArgs false
set_option linter.unusedVariables false
namespace Go.Ab
open Go.RowKit Go.ChangeShapes Go.WideShapes
open Go.Proofs.YteeffcglpljdpaaDoor.Rows (uptoBulk uptoBulkAll)

def isAggT (P : Program) (t : TypeId) : Bool := match P.underlying t with | some (.struct _) | some (.array _ _) => true | _ => false

/-- The shape of an argument. -/
def shpA (P : Program) (n : Nat) (t : TypeId) : PA → Prop
  | .c x => isAggT P t = false ∧ shp P n t [x] = true
  | .agg xs => isAggT P t = true ∧ shp P n t xs = true

def shpArgs (P : Program) : List TypeId → List PA → Prop
  | [], [] => True
  | t :: ts, p :: ps => (∃ n, shpA P n t p) ∧ shpArgs P ts ps
  | _, _ => False

def wA : PA → Nat
  | .c x => wL [x]
  | .agg xs => wL xs
def wArgs : List PA → Nat
  | [] => 0
  | p :: ps => wA p + wArgs ps

section
variable {H : Type} {enc : TypeId × Value → H} {P : Program} {w : World} {F : Fz} {base : Nat}

theorem arg_rd (hl : laidOutB P = true) (hp : posB P = true) (hF : ∀ b o, b < w.heap.size → F b o) {t : TypeId} {v : Value} {d : DataW H} {ps : List MemPlace} (hv : isVar P t = true)
    (hok : Value.okWide P w .any base t v) (h : DataW.Trod enc P w 0 (fun _ => true) true t v d ps) : ∃ p : PA, p.rel w F v ∧ (∃ n, shpA P n t p) ∧ wA p ≤ uptoBulk d := by
  obtain ⟨n, h⟩ := h
  obtain ⟨xs, h1, h2, h3, h4⟩ := trod_rd hl hp hF n t _ _ hv h
  by_cases ha : isAggT P t = true
  · have : ∃ cs, v = .agg cs := by
      unfold isAggT at ha
      unfold Value.okWide at hok
      split at ha
      · rename_i hd
        rw [hd] at hok
        obtain ⟨cs, rfl, _⟩ := hok
        exact ⟨cs, rfl⟩
      · rename_i hd
        rw [hd] at hok
        obtain ⟨cs, rfl, _⟩ := hok
        exact ⟨cs, rfl⟩
      · cases ha
    obtain ⟨cs, rfl⟩ := this
    refine ⟨.agg xs, ⟨cs.toList, by simp, h1.len, fun j x hj => h1.get j x hj⟩, ⟨n, ha, h2⟩, h3⟩
  · have hone : ∀ cs, v ≠ .agg cs := fun cs e => by
      subst e
      unfold isAggT at ha
      unfold Value.okWide at hok
      split at hok
      · rename_i hd; rw [hd] at ha; simp at ha
      · rename_i hd; rw [hd] at ha; simp at ha
      · unfold Cell.okWide at hok
        split at hok <;> first | (rename_i he; cases he; done) | skip
        all_goals first
          | (rename_i hd he; cases he; done)
          | (unfold Cell.ok at hok; split at hok <;> first | (rename_i hd he; cases he; done) | exact hok.elim)
    have hc : v.cells.toList = [v] := by
      cases v <;> first | rfl | exact absurd rfl (hone _)
    rw [hc] at h1
    have hl1 : xs.length = 1 := by rw [← h1.len]; rfl
    match xs, hl1 with
    | [x], _ =>
      obtain ⟨u, hu, hr⟩ := h1.get 0 x rfl
      cases hu
      exact ⟨.c x, hr, ⟨n, by simpa using ha, h2⟩, h3⟩

theorem args_rd (hl : laidOutB P = true) (hp : posB P = true) (hF : ∀ b o, b < w.heap.size → F b o) : ∀ {ts : List TypeId} {vs : List Value} {ds : List (DataW H)} {ps : List MemPlace},
    (∀ t ∈ ts, isVar P t = true) → (∀ (j : Nat) t v, ts[j]? = some t → vs[j]? = some v → Value.okWide P w .any base t v) → DataW.TrodAll enc P w 0 (fun _ => true) true ts vs ds ps →
    ∃ args : List PA, vs.length = args.length ∧ (∀ (j : Nat) (x : PA), args[j]? = some x → ∃ v, vs[j]? = some v ∧ x.rel w F v) ∧ shpArgs P ts args ∧ wArgs args ≤ uptoBulkAll ds
  | [], vs, ds, ps, _, _, h => by
    obtain ⟨rfl, rfl, rfl⟩ := trodAll_nil h
    exact ⟨[], rfl, fun j x h => by simp at h, trivial, by simp [wArgs]⟩
  | t :: ts, vs, ds, ps, hv, hok, h => by
    obtain ⟨v, vs1, d, ds1, p, q, rfl, rfl, rfl, h1, h2⟩ := trodAll_cons h
    obtain ⟨x, r1, r2, r3⟩ := arg_rd hl hp hF (hv t List.mem_cons_self) (hok 0 t v rfl rfl) h1
    obtain ⟨xs, g1, g2, g3, g4⟩ := args_rd hl hp hF (fun t ht => hv t (List.mem_cons_of_mem _ ht)) (fun j t v ht hv => hok (j + 1) t v (by simpa using ht) (by simpa using hv)) h2
    refine ⟨x :: xs, by simp [g1], fun j y hj => ?_, ⟨r2, g3⟩, by simp only [wArgs, uptoBulkAll]; omega⟩
    cases j with
    | zero => simp at hj; subst hj; exact ⟨v, rfl, r1⟩
    | succ j => simpa using g2 j y (by simpa using hj)

/-- All arguments read behind the call as they did. -/
theorem below_all (hl : laidOutB P = true) {W W' : World} (hb : Below W.heap.size W W') : ∀ {ts : List TypeId} {vs : List Value} {ds : List (DataW H)} {ps : List MemPlace},
    (∀ t ∈ ts, P.readableRec t = true ∧ isVar P t = true) → (∀ x ∈ ps, x.block < W.heap.size) → DataW.TrodAll enc P W 0 (fun _ => true) true ts vs ds ps →
    ∀ sp : Nat → Bool, (∀ p ∈ ps, sp p.block = true) → DataW.TrodAll enc P W' 0 sp true ts vs ds ps
  | [], vs, ds, ps, _, _, h, sp, _ => by
    obtain ⟨rfl, rfl, rfl⟩ := trodAll_nil h
    exact trodAll_mk0
  | t :: ts, vs, ds, ps, hr, hlt, h, sp, hsp => by
    obtain ⟨v, vs1, d, ds1, p, q, rfl, rfl, rfl, h1, h2⟩ := trodAll_cons h
    obtain ⟨r1, r2⟩ := hr t List.mem_cons_self
    have hrow : t < P.types.size := by simp only [isVar, Bool.and_eq_true, decide_eq_true_eq] at r2; exact r2.1
    refine trodAll_cons_mk (WideElems.Trod_stays hl r1 hrow h1 (fun x hx => hb.same (hlt x (List.mem_append_left _ hx))) (fun x hx => hsp x (List.mem_append_left _ hx))) ?_
    exact below_all hl hb (fun t ht => hr t (List.mem_cons_of_mem _ ht)) (fun x hx => hlt x (List.mem_append_right _ hx)) h2 sp (fun x hx => hsp x (List.mem_append_right _ hx))

theorem trodAll_len {spare : Nat → Bool} {held : Bool} : ∀ {ts : List TypeId} {vs : List Value} {ds : List (DataW H)} {ps : List MemPlace}, DataW.TrodAll enc P w base spare held ts vs ds ps → ds.length = ts.length
  | [], vs, ds, ps, h => by
    obtain ⟨rfl, rfl, rfl⟩ := trodAll_nil h
    rfl
  | t :: ts, vs, ds, ps, h => by
    obtain ⟨v, vs1, d, ds1, p, q, rfl, rfl, rfl, h1, h2⟩ := trodAll_cons h
    simp [trodAll_len h2]

/-- The closed facts on a law's function. -/
structure LawFn (P : Program) (fn : Func) (s : ChangeSpec) (n : Nat) (tb : TypeId) : Prop where
  laid : laidOutB P = true
  pos : posB P = true
  params : fn.params.toList.all (fun t => P.readableRec t && isVar P t) = true
  num : fn.params.toList.length = n
  res : fn.resultTypes = #[tb]
  bool : P.underlying tb = some .bool
  vars : s.vars = []
  spec : ∀ (H : Type) (ds : List (DataW H)), ds.length = n → s.fn H ds = { results := [.lit (.bool true)], args := ds }

theorem law_calls {fn : Func} {s : ChangeSpec} {n : Nat} {tb : TypeId} (L : LawFn P fn s n tb) {f : FuncId} {G : Gl} {m : List PA → Option (List PA)} (hm : PureC P G f m) {B : Nat}
    (ok : ∀ args : List PA, shpArgs P fn.params.toList args → wArgs args ≤ B → m args = some [.c (.bool true)])
    {W : World} {args : Array Value} {ds gs : List (DataW H)} {before : List MemPlace}
    (hval : ∀ (j : Nat) t v, fn.params[j]? = some t → args[j]? = some v → Value.okWide P W .any base t v)
    (hW : DataW.Whole enc P fn.params.toList s.vars false W args.toList ds gs before) (hG : GOk G W fun b _ => b < W.heap.size) (hB : uptoBulkAll ds ≤ B) :
    Calls P f args W fun e W' => ∃ v, e = .returned v ∧ s.post enc P fn false true false false W args v W' := by
  have hW' := hW
  obtain ⟨p, q, hA, hV, rfl, hfz, hnd⟩ := hW
  rw [L.vars] at hV
  obtain ⟨rfl, rfl⟩ := trodVars_none hV
  have hpar : ∀ t ∈ fn.params.toList, P.readableRec t = true ∧ isVar P t = true := fun t ht => by
    have := L.params
    rw [List.all_eq_true] at this
    simpa using this t ht
  have hl2 := trodAll_len hA
  obtain ⟨pas, g1, g2, g3, g4⟩ := args_rd (F := fun b _ => b < W.heap.size) L.laid L.pos (fun b o h => h) (fun t ht => (hpar t ht).2)
    (fun j t v ht hv => hval j t v (by rw [← ht]; simp) (by rw [← hv]; simp)) hA
  have hmt := ok pas g3 (by omega)
  have hlen : args.size = pas.length := by simpa using g1
  refine (hm.2 W (fun b _ => b < W.heap.size) args pas _ (fun b o h => h) hG hlen (fun j x hj => ?_) hmt).mono fun e W' ⟨v, he, hv, hb⟩ => ?_
  · obtain ⟨v, hv, hr⟩ := g2 j x hj
    have : args.getD j undef = v := by
      rw [Array.getD_eq_getD_getElem?]
      have : args[j]? = some v := by simpa using hv
      rw [this]; rfl
    rw [this]
    exact hr
  · subst he
    refine ⟨v, rfl, ?_⟩
    have hvt : v = .bool true := by
      have : Rd W' _ v (.bool true) := hv
      cases this
      rfl
    subst hvt
    simp only [List.append_nil] at hW'
    have hsp : s.fn H (ds ++ []) = { results := [.lit (.bool true)], args := ds } := by
      rw [List.append_nil]
      exact L.spec H ds (by rw [hl2, L.num])
    have hlt : ∀ x ∈ p, x.block < W.heap.size := fun x hx => hW'.lt x hx
    have hall := below_all L.laid hb hpar hlt hA
    refine ⟨ds, [], p, [], p, [], hW', ?_, ?_, ?_, World.keptBut_mono (fun x hx => ⟨hx, .inr (.inl hx)⟩) (hb.frame _), fun h => by cases h⟩
    · rw [hsp, L.res]
      exact trodAll_cons_mk (shut_bool L.bool _) trodAll_mk0
    · rw [hsp]
      exact hall _ (fun x hx => by simpa using hlt x hx)
    · rw [hsp, L.vars]
      exact rfl

end
end Go.Ab
