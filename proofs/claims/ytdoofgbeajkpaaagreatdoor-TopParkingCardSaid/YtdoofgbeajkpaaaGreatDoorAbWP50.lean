/-
  Texts of the layer and of the laws, put together: AbB1, AbB2, AbB3.
-/
import Derived.Test.YtdoofgbeajkpaaaGreatDoorRows
import Derived.Test.YtdoofgbeajkpaaaGreatDoorAbWP8
import Derived.Carry
import Derived.ChangeSame
import Derived.SizedLaws
import Derived.OpenShut
import Derived.ProofKit
set_option linter.unusedSimpArgs false
set_option linter.unusedVariables false
set_option maxRecDepth 100000
namespace Go.Ab
open Go.RowKit Go.ChangeShapes Go.WideShapes
open Go.Proofs.YtdoofgbeajkpaaaGreatDoor.Rows (uptoBulk uptoBulkAll)
def shpL {α : Type} (f : α → List D → Bool) (z : α → Nat) : List α → List D → Bool
  | [], xs => xs.isEmpty
  | a :: r, xs => decide (z a ≤ xs.length) && f a (xs.take (z a)) && shpL f z r (xs.drop (z a))
def shp (P : Program) : Nat → TypeId → List D → Bool
  | 0, _, _ => false
  | n + 1, t, xs => match P.underlying t with
    | some .bool => (match xs with | [.bool _] => true | _ => false)
    | some (.int k) => (match xs with | [.int k' m] => decide (k' = k) && (Lit.int k m).wf | _ => false)
    | some .string => (match xs with | [.str s] => decide (s.length ≤ reachBytes) | _ => false)
    | some (.slice e) => (match xs with | [.sl f es] => !f && (decide (es.length ≤ maxLen) && decide (es.length * P.bytesOf e ≤ reachBytes)) && es.all (shp P n e) | _ => false)
    | some (.struct fs) => shpL (fun f => shp P n f.type) (fun f => P.cellsOf f.type) fs.toList xs
    | some (.array k e) => shpL (fun _ => shp P n e) (fun _ => P.cellsOf e) (List.range k) xs
    | some _ => (match xs with | [.any] => true | _ => false)
    | none => false
mutual
def wD : D → Nat
  | .sl _ es => wLL es + 1
  | .str s => s.length + 1
  | .any => 1
  | .bool _ => 1
  | .int _ _ => 1
def wL : List D → Nat
  | [] => 0
  | x :: r => wD x + wL r
def wLL : List (List D) → Nat
  | [] => 0
  | e :: r => wL e + wLL r
end
theorem wL_append : ∀ (a b : List D), wL (a ++ b) = wL a + wL b
  | [], b => by simp [wL]
  | x :: a, b => by simp only [List.cons_append, wL, wL_append a b]; omega
structure RdL (w : World) (F : Fz) (cs : List Value) (xs : List D) : Prop where
  len : cs.length = xs.length
  get : ∀ (j : Nat) (x : D), xs[j]? = some x → ∃ u, cs[j]? = some u ∧ Rd w F u x
theorem RdL.nil {w : World} {F : Fz} : RdL w F [] [] := ⟨rfl, fun j x h => by simp at h⟩
theorem RdL.one {w : World} {F : Fz} {v : Value} {x : D} (h : Rd w F v x) : RdL w F [v] [x] := ⟨rfl, fun j y hj => by
  cases j with
  | zero => simp at hj; subst hj; exact ⟨v, rfl, h⟩
  | succ j => simp at hj⟩
theorem RdL.append {w : World} {F : Fz} {cs cs' : List Value} {xs xs' : List D} (h : RdL w F cs xs) (h' : RdL w F cs' xs') : RdL w F (cs ++ cs') (xs ++ xs') := ⟨by simp [h.len, h'.len], fun j x hj => by
  by_cases hl : j < xs.length
  · rw [List.getElem?_append_left hl] at hj
    rw [List.getElem?_append_left (by rw [h.len]; exact hl)]
    exact h.get j x hj
  · rw [List.getElem?_append_right (by omega)] at hj
    rw [List.getElem?_append_right (by rw [h.len]; omega), h.len]
    exact h'.get _ x hj⟩
theorem mapM_get {α β : Type} {f : α → Option β} : ∀ {l : List α} {ys : List β}, l.mapM f = some ys → ys.length = l.length ∧ ∀ (i : Nat) (a : α), l[i]? = some a → ∃ y, ys[i]? = some y ∧ f a = some y
  | [], ys, h => by simp at h; subst h; exact ⟨rfl, fun i a h => by simp at h⟩
  | a :: l, ys, h => by
    simp only [List.mapM_cons, Option.bind_eq_bind, Option.bind_eq_some_iff, Option.pure_def, Option.some.injEq] at h
    obtain ⟨y, hy, zs, hzs, rfl⟩ := h
    obtain ⟨h1, h2⟩ := mapM_get hzs
    refine ⟨by simp [h1], fun i b hb => ?_⟩
    cases i with
    | zero => simp at hb; subst hb; exact ⟨y, rfl, hy⟩
    | succ i => simpa using h2 i b (by simpa using hb)
theorem bulk_one {H : Type} (d : DataW H) : 1 ≤ uptoBulk d := by
  cases d with
  | lit l => cases l <;> simp [uptoBulk]
  | nil => simp [uptoBulk]
  | ptr d => simp [uptoBulk]
  | slice elems spare => simp [uptoBulk]
  | agg parts => simp [uptoBulk]
  | iface t d => simp [uptoBulk]
  | map entries => simp [uptoBulk]
  | held h => simp [uptoBulk]
theorem cells_get {w : World} {a : Addr} {n : Nat} {cl : List Value} (h : w.cells? 0 a n = some cl) : cl.length = n ∧ ∀ j, j < n → w.cell? (a.add j) = cl[j]? := by
  unfold World.cells? at h
  rw [if_pos (Nat.zero_le _)] at h
  obtain ⟨h1, h2⟩ := mapM_get h
  refine ⟨by simpa using h1, fun j hj => ?_⟩
  obtain ⟨y, hy, hc⟩ := h2 j j (by simp [hj])
  rw [hc, hy]
theorem cell_lt {w : World} {a : Addr} {v : Value} (h : w.cell? a = some v) : a.block < w.heap.size ∧ a.spot = none := by
  unfold World.cell? at h
  split at h
  · rename_i hb
    split at h
    · cases h
    rename_i hs
    exact ⟨(Array.getElem?_eq_some_iff.1 hb).1, by simpa using hs⟩
  cases h
def posB (P : Program) : Bool := (List.range P.types.size).all fun t => match P.underlying t with | some (.slice e) => decide (0 < P.cellsOf e) | _ => true
section
variable {H : Type} {enc : TypeId × Value → H} {P : Program} {w : World} {F : Fz}
def TrodRd (enc : TypeId × Value → H) (P : Program) (w : World) (F : Fz) (n : Nat) : Prop :=
  ∀ (t : TypeId) (cs : List Value) (x : DataW H × List MemPlace), isVar P t = true → DataW.trod enc P w 0 (fun _ => true) true n t cs = some x → (∀ m ∈ x.1.weights P t, m ≤ reachBytes) →
    ∃ xs, RdL w F cs xs ∧ shp P n t xs = true ∧ wL xs ≤ uptoBulk x.1 ∧ cs.length = P.cellsOf t
theorem all_mem {e : TypeId} : ∀ {ds : List (DataW H)} {j : Nat} {d : DataW H}, ds[j]? = some d → ∀ m ∈ d.weights P e, m ∈ DataW.weightsAll P e ds
  | [], j, d, h => by simp at h
  | y :: r, 0, d, h => by
    simp only [List.getElem?_cons_zero, Option.some.injEq] at h
    subst h
    intro m hm
    simp only [DataW.weightsAll, List.mem_append]
    exact Or.inl hm
  | y :: r, j + 1, d, h => by
    simp only [List.getElem?_cons_succ] at h
    intro m hm
    simp only [DataW.weightsAll, List.mem_append]
    exact Or.inr (all_mem h m hm)
theorem parts_rd {α : Type} (ty : α → TypeId) (off : α → Nat) {n : Nat} (ih : TrodRd enc P w F n) {cs : List Value} : ∀ (l : List α) (o : Nat) (ys : List (DataW H × List MemPlace)),
    (∀ (j : Nat) (a : α), l[j]? = some a → off a = o + ((l.take j).map fun a => P.cellsOf (ty a)).sum ∧ isVar P (ty a) = true) →
    l.mapM (fun a => DataW.trod enc P w 0 (fun _ => true) true n (ty a) ((cs.drop (off a)).take (P.cellsOf (ty a)))) = some ys →
    (∀ (j : Nat) (a : α) (y : DataW H × List MemPlace), l[j]? = some a → ys[j]? = some y → ∀ m ∈ y.1.weights P (ty a), m ≤ reachBytes) →
    ∃ xs, RdL w F ((cs.drop o).take (l.map fun a => P.cellsOf (ty a)).sum) xs ∧ shpL (fun a => shp P n (ty a)) (fun a => P.cellsOf (ty a)) l xs = true ∧ wL xs ≤ uptoBulkAll (ys.map (·.1))
  | [], o, ys, _, h, _ => by
    simp at h
    subst h
    exact ⟨[], by simpa using RdL.nil, rfl, by simp [wL]⟩
  | a :: l, o, ys, hl, h, hz => by
    simp only [List.mapM_cons, Option.bind_eq_bind, Option.bind_eq_some_iff, Option.pure_def, Option.some.injEq] at h
    obtain ⟨y, hy, zs, hzs, rfl⟩ := h
    obtain ⟨ho, hv⟩ := hl 0 a rfl
    simp only [List.take_zero, List.map_nil, List.sum_nil, Nat.add_zero] at ho
    obtain ⟨x1, r1, s1, w1, c1⟩ := ih _ _ _ hv hy (hz 0 a y rfl rfl)
    obtain ⟨x2, r2, s2, w2⟩ := parts_rd ty off ih l (o + P.cellsOf (ty a)) zs (fun j b hj => by
      obtain ⟨h1, h2⟩ := hl (j + 1) b (by simpa using hj)
      exact ⟨by rw [h1]; simp only [List.take_succ_cons, List.map_cons, List.sum_cons]; omega, h2⟩) hzs (fun j b y hb hy => hz (j + 1) b y (by simpa using hb) (by simpa using hy))
    rw [ho] at r1 c1
    have hx1 : x1.length = P.cellsOf (ty a) := by rw [← r1.len]; exact c1
    refine ⟨x1 ++ x2, ?_, ?_, ?_⟩
    · simp only [List.map_cons, List.sum_cons, List.take_add, List.drop_drop]
      exact r1.append r2
    · simp only [shpL, Bool.and_eq_true, decide_eq_true_eq]
      refine ⟨⟨by simp [hx1], ?_⟩, ?_⟩
      · rw [← hx1, List.take_left]; exact s1
      rw [← hx1, List.drop_left]; exact s2
    simp only [wL_append, List.map_cons, uptoBulkAll]
    omega
theorem rowFine_of {t : TypeId} (hl : laidOutB P = true) (hv : isVar P t = true) : rowFine P t = true := by
  simp only [laidOutB, Bool.and_eq_true, List.all_eq_true] at hl
  simp only [isVar, Bool.and_eq_true, decide_eq_true_eq] at hv
  exact hl.1.1 t (List.mem_range.2 hv.1)
theorem trod_rd (hl : laidOutB P = true) (hp : posB P = true) (hF : ∀ b o, b < w.heap.size → F b o) : ∀ n, TrodRd enc P w F n
  | 0 => fun t cs x _ h _ => by simp [DataW.trod] at h
  | n + 1 => fun t cs x hv h hz => by
    have ih := trod_rd hl hp hF n
    have hrf := rowFine_of hl hv
    have hlt : t < P.types.size := by simp only [isVar, Bool.and_eq_true, decide_eq_true_eq] at hv; exact hv.1
    simp only [rowFine, hv, Bool.not_true, Bool.false_or] at hrf
    have any1 : ∀ (v : Value), v.oneCell' = true → P.cellsOf t = 1 → shp P (n + 1) t [.any] = true → ∃ xs, RdL w F [v] xs ∧ shp P (n + 1) t xs = true ∧ wL xs ≤ uptoBulk x.1 ∧ [v].length = P.cellsOf t := fun v h1 h2 h3 =>
      ⟨[.any], RdL.one (.any v h1), h3, by have := bulk_one x.1; simp [wL, wD]; exact this, h2.symm⟩
    unfold DataW.trod at h
    split at h
    · rename_i hd
      cases h
      rw [hd] at hrf
      exact ⟨[.bool _], RdL.one (.bool _), by simp [shp, hd], by simp [wL, wD, uptoBulk], (by simp at hrf; simp [hrf])⟩
    · rename_i hd
      split at h
      · rename_i hk
        cases h
        obtain ⟨rfl, hwf⟩ := hk
        rw [hd] at hrf
        exact ⟨[.int _ _], RdL.one (.int _ _), by simp [shp, hd, hwf], by simp [wL, wD, uptoBulk], (by simp at hrf; simp [hrf])⟩
      cases h
    · rename_i hd
      split at h
      · rw [hd] at hrf
        exact any1 _ rfl (by simpa using hrf) (by simp [shp, hd])
      cases h
    · rename_i s hd
      split at h
      · rename_i hs
        cases h
        rw [hd] at hrf
        exact ⟨[.str s.data.toList], RdL.one (.str s), by simp [shp, hd]; simpa [DataW.weights] using hz, by simp [wL, wD, uptoBulk], (by simp at hrf; simp [hrf])⟩
      cases h
    · rename_i hd
      rw [hd] at hrf
      simp at hrf
      exact any1 _ rfl hrf.2 (by simp [shp, hd])
    · rename_i hd
      rw [hd] at hrf
      simp at hrf
      exact any1 _ rfl hrf.2 (by simp [shp, hd])
    · rename_i hd
      rw [hd] at hrf
      simp at hrf
      cases h
      exact ⟨[.sl false []], RdL.one (.nil _ _), by simp [shp, hd], by simp [wL, wD, wLL, uptoBulk], by simp [hrf.2]⟩
    · rename_i e a len cap hd
      have hze : 0 < P.cellsOf e := by
        simp only [posB, List.all_eq_true] at hp
        have := hp t (List.mem_range.2 hlt)
        rw [hd] at this
        simpa using this
      rw [hd] at hrf
      simp at hrf
      obtain ⟨hve, hct⟩ := hrf
      dsimp only at h
      split at h
      · rename_i hcond
        obtain ⟨_, hlc, hcm⟩ := hcond
        simp only [Option.bind_eq_some_iff, Option.map_eq_some_iff] at h
        obtain ⟨elems, hel, rest, hre, rfl⟩ := h
        obtain ⟨hlen, hget⟩ := mapM_get hel
        simp only [if_true] at hre
        obtain ⟨_, hgre⟩ := mapM_get hre
        simp only [List.length_range] at hlen
        have hzl : elems.length * P.bytesOf e ≤ reachBytes := by
          have h0 := hz ((elems.map (·.1)).length * P.bytesOf e + (rest.map (·.1)).length * P.bytesOf e) (by simp [DataW.weights, hd, Nat.add_mul])
          simp only [List.length_map] at h0
          omega
        have hze2 : ∀ (i : Nat) (y : DataW H × List MemPlace), elems[i]? = some y → ∀ m ∈ y.1.weights P e, m ≤ reachBytes := fun i y hy m hm => by
          refine hz m ?_
          have h0 : m ∈ DataW.weightsAll P e (elems.map (·.1)) := all_mem (j := i) (d := y.1) (by rw [List.getElem?_map, hy]; rfl) m hm
          simp only [DataW.weights, hd, List.mem_cons, List.mem_append]
          exact Or.inr (Or.inl h0)
        by_cases hc0 : cap = 0
        · have hl0 : len = 0 := by omega
          subst hc0; subst hl0
          exact ⟨[.sl false []], RdL.one (.nil _ _), by simp [shp, hd], by simp [wL, wD, wLL, uptoBulk], by simp [hct]⟩
        -- the first cell tells that the address has no spot
        have hspot : a.spot = none := by
          have h0 : ∃ y, (w.cells? 0 (a.add (0 * P.cellsOf e)) (P.cellsOf e)).bind (DataW.trod enc P w 0 (fun _ => true) true n e) = some y := by
            by_cases hl0 : len = 0
            · subst hl0
              obtain ⟨y, _, hy⟩ := hgre 0 0 (by rw [List.getElem?_range]; omega)
              exact ⟨y, hy⟩
            obtain ⟨y, _, hy⟩ := hget 0 0 (by rw [List.getElem?_range]; omega)
            exact ⟨y, hy⟩
          obtain ⟨y, hy⟩ := h0
          simp only [Option.bind_eq_some_iff] at hy
          obtain ⟨cl, hcl, _⟩ := hy
          obtain ⟨hcll, hcg⟩ := cells_get hcl
          have h0 := hcg 0 hze
          rw [List.getElem?_eq_getElem (by omega)] at h0
          simpa [Addr.add] using (cell_lt h0).2
        obtain ⟨b, o, sp⟩ := a
        simp only at hspot
        subst hspot
        have hall : ∀ i, ∃ r : List D × List Value, i < len → w.cells? 0 (⟨b, o + i * P.cellsOf e, none⟩ : Addr) (P.cellsOf e) = some r.2 ∧ RdL w F r.2 r.1 ∧ shp P n e r.1 = true ∧ (∀ y, elems[i]? = some y → wL r.1 ≤ uptoBulk y.1) := fun i => by
          by_cases hi : i < len
          · obtain ⟨y, hy, hc⟩ := hget i i (by rw [List.getElem?_range hi])
            simp only [Option.bind_eq_some_iff] at hc
            obtain ⟨cl, hcl, hc⟩ := hc
            obtain ⟨xs, h1, h2, h3, h4⟩ := ih _ _ _ hve hc (hze2 i y hy)
            refine ⟨(xs, cl), fun _ => ⟨by rw [← hcl, Addr.add_zero_none], h1, h2, fun y' hy' => ?_⟩⟩
            rw [hy] at hy'
            cases hy'
            exact h3
          exact ⟨([], []), fun h => absurd h hi⟩
        obtain ⟨g, hg⟩ := Classical.axiomOfChoice hall
        refine ⟨[.sl false ((List.range len).map fun i => (g i).1)], RdL.one (.sl b o len cap (P.cellsOf e) false _ (fun i j => ((g i).2[j]?).getD undef) (by simp) hlc (by simp) (fun r hr => ?_) (fun i j hi hj => ?_) (fun i j hi hj => ?_) (fun i j hi hj => ?_) (fun i j r y hr hy => ?_)), ?_, ?_, by simp [hct]⟩
        · obtain ⟨i, hi, rfl⟩ := List.mem_map.1 hr
          obtain ⟨h1, h2, _⟩ := hg i (List.mem_range.1 hi)
          rw [← h2.len]
          exact (cells_get h1).1
        · obtain ⟨h1, h2, _⟩ := hg i hi
          obtain ⟨c1, c2⟩ := cells_get h1
          have h0 := c2 j hj
          rw [List.getElem?_eq_getElem (by omega)] at h0
          refine hF _ _ ?_
          have := (cell_lt h0).1
          simpa [Addr.add_zero_none] using this
        · obtain ⟨h1, h2, _⟩ := hg i hi
          obtain ⟨c1, c2⟩ := cells_get h1
          have h0 := c2 j hj
          rw [Addr.add_zero_none] at h0
          rw [h0, List.getElem?_eq_getElem (by omega)]
          rfl
        · obtain ⟨h1, h2, _⟩ := hg i hi
          obtain ⟨c1, c2⟩ := cells_get h1
          obtain ⟨u, hu, hr⟩ := h2.get j _ (List.getElem?_eq_getElem (by rw [← h2.len]; omega))
          rw [hu]
          exact hr.one
        · have hil := lt_of_get hr
          simp at hil
          obtain ⟨h1, h2, _⟩ := hg i hil
          rw [List.getElem?_map, List.getElem?_range hil] at hr
          simp only [Option.map_some, Option.some.injEq] at hr
          subst hr
          obtain ⟨u, hu, hr⟩ := h2.get j y hy
          rw [hu]
          exact hr
        · simp only [shp, hd, Bool.not_false, Bool.true_and, Bool.and_eq_true, decide_eq_true_eq, List.all_eq_true]
          refine ⟨⟨by simp; omega, by rw [hlen] at hzl; simpa using hzl⟩, fun r hr => ?_⟩
          obtain ⟨i, hi, rfl⟩ := List.mem_map.1 hr
          exact (hg i (List.mem_range.1 hi)).2.2.1
        have key : ∀ (es : List (DataW H × List MemPlace)) (s : Nat), (∀ i, es[i]? = elems[s + i]?) → s + es.length = len → wLL ((List.range' s es.length).map fun i => (g i).1) ≤ uptoBulkAll (es.map (·.1)) := by
          intro es
          induction es with
          | nil => intro s _ _; simp [wLL]
          | cons y es ihe =>
            intro s h1 h2
            simp only [List.length_cons, List.range'_succ, List.map_cons, wLL, uptoBulkAll] at h2 ⊢
            have h3 := (hg s (by omega)).2.2.2 y (by have := h1 0; simpa using this.symm)
            have h4 := ihe (s + 1) (fun i => by have := h1 (i + 1); simp only [List.getElem?_cons_succ] at this; rw [this]; congr 1; omega) (by omega)
            omega
        have := key elems 0 (fun i => by simp) (by omega)
        rw [hlen, ← List.range_eq_range'] at this
        simp only [wL, wD, uptoBulk]
        omega
      cases h
    · rename_i fs hd
      split at h
      · rename_i hlen
        simp only [Option.map_eq_some_iff] at h
        obtain ⟨ys, hys, rfl⟩ := h
        rw [hd] at hrf
        simp only [Bool.and_eq_true, beq_iff_eq, List.all_eq_true] at hrf
        obtain ⟨⟨hv1, hsum⟩, hoff⟩ := hrf
        obtain ⟨xs, h1, h2, h3⟩ := parts_rd (fun f : Field => f.type) (fun f => f.offset) ih fs.toList 0 ys (fun j f hj => by
          have hjl := lt_of_get hj
          have := hoff j (List.mem_range.2 hjl)
          rw [hj] at this
          exact ⟨by simpa using this, hv1 f (List.mem_of_getElem? hj)⟩) hys (fun j f y hf hy m hm => hz m (by
            simp only [DataW.weights, hd]
            exact DataW.weights_mem_each (j := j) (t := f.type) (d := y.1) (by rw [List.getElem?_map, hf]; rfl) (by rw [List.getElem?_map, hy]; rfl) m hm))
        refine ⟨xs, ?_, by simp only [shp, hd]; exact h2, by simp only [uptoBulk]; omega, hlen⟩
        rw [List.drop_zero, ← hsum, ← hlen, List.take_length] at h1
        exact h1
      cases h
    · rename_i k e hd
      split at h
      · rename_i hlen
        simp only [Option.map_eq_some_iff] at h
        obtain ⟨ys, hys, rfl⟩ := h
        rw [hd] at hrf
        simp only [Bool.and_eq_true, beq_iff_eq] at hrf
        obtain ⟨hv1, hsum⟩ := hrf
        have sums : ∀ (l : List Nat), (l.map fun _ => P.cellsOf e).sum = l.length * P.cellsOf e := fun l => by
          induction l with
          | nil => simp
          | cons a l ihl => simp only [List.map_cons, List.sum_cons, ihl, List.length_cons, Nat.add_mul]; omega
        obtain ⟨xs, h1, h2, h3⟩ := parts_rd (fun _ : Nat => e) (fun i => i * P.cellsOf e) ih (List.range k) 0 ys (fun j i hj => by
          have hjl := lt_of_get hj
          simp only [List.length_range] at hjl
          rw [List.getElem?_range hjl] at hj
          cases hj
          refine ⟨?_, hv1⟩
          rw [sums, List.length_take, List.length_range, Nat.min_eq_left (by omega)]; omega) hys (fun j i y hi hy m hm => hz m (by
            simp only [DataW.weights, hd]
            exact all_mem (j := j) (d := y.1) (by rw [List.getElem?_map, hy]; rfl) m hm))
        refine ⟨xs, ?_, by simp only [shp, hd]; exact h2, by simp only [uptoBulk]; omega, hlen⟩
        rw [List.drop_zero, sums, List.length_range, ← hsum, ← hlen, List.take_length] at h1
        exact h1
      cases h
    all_goals
      first
        | (cases h; done)
        | (rename_i hd
           rw [hd] at hrf
           exact any1 _ rfl (by simpa using hrf) (by simp [shp, hd]))
end
end Go.Ab
namespace Go.Ab
open Go.RowKit Go.ChangeShapes Go.WideShapes
open Go.Proofs.YtdoofgbeajkpaaaGreatDoor.Rows (uptoBulk uptoBulkAll)
def isAggT (P : Program) (t : TypeId) : Bool := match P.underlying t with | some (.struct _) | some (.array _ _) => true | _ => false
def shpA (P : Program) (n : Nat) (t : TypeId) : PA → Prop
  | .c x => isAggT P t = false ∧ shp P n t [x] = true
  | .agg xs => isAggT P t = true ∧ shp P n t xs = true
def shpArgs (P : Program) : List TypeId → List PA → Prop
  | [], [] => True
  | t :: ts, p :: ps => (∃ n, shpA P n t p) ∧ shpArgs P ts ps
  | _, _ => False
def wA : PA → Nat
  | .c x => wL [x]
  | .agg xs => wL xs
def wArgs : List PA → Nat
  | [] => 0
  | p :: ps => wA p + wArgs ps
section
variable {H : Type} {enc : TypeId × Value → H} {P : Program} {w : World} {F : Fz} {base : Nat}
theorem arg_rd (hl : laidOutB P = true) (hp : posB P = true) (hF : ∀ b o, b < w.heap.size → F b o) {t : TypeId} {v : Value} {d : DataW H} {ps : List MemPlace} (hv : isVar P t = true)
    (hok : Value.okWide P w .any base t v) (h : DataW.Trod enc P w 0 (fun _ => true) true t v d ps) (hz : ∀ m ∈ d.weights P t, m ≤ reachBytes) : ∃ p : PA, p.rel w F v ∧ (∃ n, shpA P n t p) ∧ wA p ≤ uptoBulk d := by
  obtain ⟨n, h⟩ := h
  obtain ⟨xs, h1, h2, h3, h4⟩ := trod_rd hl hp hF n t _ _ hv h hz
  by_cases ha : isAggT P t = true
  · have : ∃ cs, v = .agg cs := by
      unfold isAggT at ha
      unfold Value.okWide at hok
      split at ha
      · rename_i hd
        rw [hd] at hok
        obtain ⟨cs, rfl, _⟩ := hok
        exact ⟨cs, rfl⟩
      · rename_i hd
        rw [hd] at hok
        obtain ⟨cs, rfl, _⟩ := hok
        exact ⟨cs, rfl⟩
      cases ha
    obtain ⟨cs, rfl⟩ := this
    refine ⟨.agg xs, ⟨cs.toList, by simp, h1.len, fun j x hj => h1.get j x hj⟩, ⟨n, ha, h2⟩, h3⟩
  have hone : ∀ cs, v ≠ .agg cs := fun cs e => by
    subst e
    unfold isAggT at ha
    unfold Value.okWide at hok
    split at hok
    · rename_i hd; rw [hd] at ha; simp at ha
    · rename_i hd; rw [hd] at ha; simp at ha
    unfold Cell.okWide at hok
    split at hok <;> first | (rename_i he; cases he; done) | skip
    all_goals first
      | (rename_i hd he; cases he; done)
      | (unfold Cell.ok at hok; split at hok <;> first | (rename_i hd he; cases he; done) | exact hok.elim)
  have hc : v.cells.toList = [v] := by
    cases v <;> first | rfl | exact absurd rfl (hone _)
  rw [hc] at h1
  have hl1 : xs.length = 1 := by rw [← h1.len]; rfl
  match xs, hl1 with
  | [x], _ =>
    obtain ⟨u, hu, hr⟩ := h1.get 0 x rfl
    cases hu
    exact ⟨.c x, hr, ⟨n, by simpa using ha, h2⟩, h3⟩
theorem args_rd (hl : laidOutB P = true) (hp : posB P = true) (hF : ∀ b o, b < w.heap.size → F b o) : ∀ {ts : List TypeId} {vs : List Value} {ds : List (DataW H)} {ps : List MemPlace},
    (∀ t ∈ ts, isVar P t = true) → (∀ (j : Nat) t v, ts[j]? = some t → vs[j]? = some v → Value.okWide P w .any base t v) → DataW.TrodAll enc P w 0 (fun _ => true) true ts vs ds ps → (∀ m ∈ DataW.weightsEach P ts ds, m ≤ reachBytes) →
    ∃ args : List PA, vs.length = args.length ∧ (∀ (j : Nat) (x : PA), args[j]? = some x → ∃ v, vs[j]? = some v ∧ x.rel w F v) ∧ shpArgs P ts args ∧ wArgs args ≤ uptoBulkAll ds
  | [], vs, ds, ps, _, _, h, _ => by
    obtain ⟨rfl, rfl, rfl⟩ := trodAll_nil h
    exact ⟨[], rfl, fun j x h => by simp at h, trivial, by simp [wArgs]⟩
  | t :: ts, vs, ds, ps, hv, hok, h, hz => by
    obtain ⟨v, vs1, d, ds1, p, q, rfl, rfl, rfl, h1, h2⟩ := trodAll_cons h
    simp only [DataW.weightsEach, List.mem_append] at hz
    obtain ⟨x, r1, r2, r3⟩ := arg_rd hl hp hF (hv t List.mem_cons_self) (hok 0 t v rfl rfl) h1 (fun m hm => hz m (Or.inl hm))
    obtain ⟨xs, g1, g2, g3, g4⟩ := args_rd hl hp hF (fun t ht => hv t (List.mem_cons_of_mem _ ht)) (fun j t v ht hv => hok (j + 1) t v (by simpa using ht) (by simpa using hv)) h2 (fun m hm => hz m (Or.inr hm))
    refine ⟨x :: xs, by simp [g1], fun j y hj => ?_, ⟨r2, g3⟩, by simp only [wArgs, uptoBulkAll]; omega⟩
    cases j with
    | zero => simp at hj; subst hj; exact ⟨v, rfl, r1⟩
    | succ j => simpa using g2 j y (by simpa using hj)
theorem below_all (hl : laidOutB P = true) {W W' : World} (hb : Below W.heap.size W W') : ∀ {ts : List TypeId} {vs : List Value} {ds : List (DataW H)} {ps : List MemPlace},
    (∀ t ∈ ts, P.readableRec t = true ∧ isVar P t = true) → (∀ x ∈ ps, x.block < W.heap.size) → DataW.TrodAll enc P W 0 (fun _ => true) true ts vs ds ps →
    ∀ sp : Nat → Bool, (∀ p ∈ ps, sp p.block = true) → DataW.TrodAll enc P W' 0 sp true ts vs ds ps
  | [], vs, ds, ps, _, _, h, sp, _ => by
    obtain ⟨rfl, rfl, rfl⟩ := trodAll_nil h
    exact trodAll_mk0
  | t :: ts, vs, ds, ps, hr, hlt, h, sp, hsp => by
    obtain ⟨v, vs1, d, ds1, p, q, rfl, rfl, rfl, h1, h2⟩ := trodAll_cons h
    obtain ⟨r1, r2⟩ := hr t List.mem_cons_self
    have hrow : t < P.types.size := by simp only [isVar, Bool.and_eq_true, decide_eq_true_eq] at r2; exact r2.1
    refine trodAll_cons_mk (WideElems.Trod_stays hl r1 hrow h1 (fun x hx => hb.same (hlt x (List.mem_append_left _ hx))) (fun x hx => hsp x (List.mem_append_left _ hx))) ?_
    exact below_all hl hb (fun t ht => hr t (List.mem_cons_of_mem _ ht)) (fun x hx => hlt x (List.mem_append_right _ hx)) h2 sp (fun x hx => hsp x (List.mem_append_right _ hx))
theorem trodAll_len {spare : Nat → Bool} {held : Bool} : ∀ {ts : List TypeId} {vs : List Value} {ds : List (DataW H)} {ps : List MemPlace}, DataW.TrodAll enc P w base spare held ts vs ds ps → ds.length = ts.length
  | [], vs, ds, ps, h => by
    obtain ⟨rfl, rfl, rfl⟩ := trodAll_nil h
    rfl
  | t :: ts, vs, ds, ps, h => by
    obtain ⟨v, vs1, d, ds1, p, q, rfl, rfl, rfl, h1, h2⟩ := trodAll_cons h
    simp [trodAll_len h2]
structure LawFn (P : Program) (fn : Func) (s : ChangeSpec) (n : Nat) (tb : TypeId) : Prop where
  laid : laidOutB P = true
  pos : posB P = true
  params : fn.params.toList.all (fun t => P.readableRec t && isVar P t) = true
  num : fn.params.toList.length = n
  res : fn.resultTypes = #[tb]
  bool : P.underlying tb = some .bool
  vars : s.vars = []
  spec : ∀ (H : Type) (ds : List (DataW H)), ds.length = n → s.fn H ds = { results := [.lit (.bool true)], args := ds }
theorem law_calls {fn : Func} {s : ChangeSpec} {n : Nat} {tb : TypeId} (L : LawFn P fn s n tb) {f : FuncId} {G : Gl} {m : List PA → Option (List PA)} (hm : PureC P G f m) {B : Nat}
    (ok : ∀ args : List PA, shpArgs P fn.params.toList args → wArgs args ≤ B → m args = some [.c (.bool true)])
    {W : World} {args : Array Value} {ds gs : List (DataW H)} {before : List MemPlace}
    (hval : ∀ (j : Nat) t v, fn.params[j]? = some t → args[j]? = some v → Value.okWide P W .any base t v)
    (hW : DataW.Whole enc P fn.params.toList s.vars false W args.toList ds gs before) (hz : (DataW.weightsEach P (fn.params.toList ++ s.plain.varTypes P) (ds ++ gs)).all (· ≤ reachBytes) = true) (hG : GOk G W fun b _ => b < W.heap.size) (hB : uptoBulkAll ds ≤ B) :
    Calls P f args W fun e W' => ∃ v, e = .returned v ∧ s.post enc P fn false true false false W args v W' := by
  have hW' := hW
  obtain ⟨p, q, hA, hV, rfl, hfz, hnd⟩ := hW
  rw [L.vars] at hV
  obtain ⟨rfl, rfl⟩ := trodVars_none hV
  have hpar : ∀ t ∈ fn.params.toList, P.readableRec t = true ∧ isVar P t = true := fun t ht => by
    have := L.params
    rw [List.all_eq_true] at this
    simpa using this t ht
  have hl2 := trodAll_len hA
  have hz' : ∀ m ∈ DataW.weightsEach P fn.params.toList ds, m ≤ reachBytes := fun m hm => by
    have e : s.plain.varTypes P = [] := by simp [DataSpec.varTypes, ChangeSpec.plain, L.vars]
    rw [e, List.append_nil, List.append_nil] at hz
    simpa using List.all_eq_true.1 hz m hm
  obtain ⟨pas, g1, g2, g3, g4⟩ := args_rd (F := fun b _ => b < W.heap.size) L.laid L.pos (fun b o h => h) (fun t ht => (hpar t ht).2)
    (fun j t v ht hv => hval j t v (by rw [← ht]; simp) (by rw [← hv]; simp)) hA hz'
  have hmt := ok pas g3 (by omega)
  have hlen : args.size = pas.length := by simpa using g1
  refine (hm.2 W (fun b _ => b < W.heap.size) args pas _ (fun b o h => h) hG hlen (fun j x hj => ?_) hmt).mono fun e W' ⟨v, he, hv, hb⟩ => ?_
  · obtain ⟨v, hv, hr⟩ := g2 j x hj
    have : args.getD j undef = v := by
      rw [Array.getD_eq_getD_getElem?]
      have : args[j]? = some v := by simpa using hv
      rw [this]; rfl
    rw [this]
    exact hr
  subst he
  refine ⟨v, rfl, ?_⟩
  have hvt : v = .bool true := by
    have : Rd W' _ v (.bool true) := hv
    cases this
    rfl
  subst hvt
  simp only [List.append_nil] at hW'
  have hsp : s.fn H (ds ++ []) = { results := [.lit (.bool true)], args := ds } := by
    rw [List.append_nil]
    exact L.spec H ds (by rw [hl2, L.num])
  have hlt : ∀ x ∈ p, x.block < W.heap.size := fun x hx => hW'.lt x hx
  have hall := below_all L.laid hb.1 hpar hlt hA
  refine ⟨ds, [], p, [], p, [], hW', ?_, ?_, ?_, World.keptBut_mono (fun x hx => ⟨hx, .inr (.inl hx)⟩) (hb.1.frame _), fun h => by cases h⟩
  · rw [hsp, L.res]
    exact trodAll_cons_mk (shut_bool L.bool _) trodAll_mk0
  · rw [hsp]
    exact hall _ (fun x hx => by simpa using hlt x hx)
  rw [hsp, L.vars]
  exact rfl
end
end Go.Ab
namespace Go.Ab
open Go.RowKit Go.ChangeShapes Go.WideShapes
section
variable {P : Program} {n : Nat} {t : TypeId} {xs : List D}
theorem shp_int {k : IntKind} (hd : P.underlying t = some (.int k)) (h : shp P n t xs = true) : ∃ m, xs = [.int k m] ∧ k.has m := by
  cases n with
  | zero => cases h
  | succ n =>
    simp only [shp, hd] at h
    split at h
    · simp only [Bool.and_eq_true, decide_eq_true_eq] at h
      obtain ⟨rfl, hw⟩ := h
      simp only [Lit.wf, Bool.and_eq_true, decide_eq_true_eq] at hw
      exact ⟨_, rfl, hw⟩
    cases h
theorem shp_strZ (hd : P.underlying t = some .string) (h : shp P n t xs = true) : ∃ s, xs = [.str s] ∧ s.length ≤ reachBytes := by
  cases n with
  | zero => cases h
  | succ n =>
    simp only [shp, hd] at h
    split at h
    · exact ⟨_, rfl, by simpa using h⟩
    cases h
theorem shp_str (hd : P.underlying t = some .string) (h : shp P n t xs = true) : ∃ s, xs = [.str s] ∧ s.length ≤ maxLen := by
  obtain ⟨s, h1, h2⟩ := shp_strZ hd h
  exact ⟨s, h1, Nat.le_trans h2 (by simp [reachBytes, maxLen])⟩
theorem shp_sliceZ {e : TypeId} (hd : P.underlying t = some (.slice e)) (h : shp P n t xs = true) : ∃ es m, xs = [.sl false es] ∧ es.length ≤ maxLen ∧ es.length * P.bytesOf e ≤ reachBytes ∧ ∀ r ∈ es, shp P m e r = true := by
  cases n with
  | zero => cases h
  | succ n =>
    simp only [shp, hd] at h
    split at h
    · rename_i f es
      simp only [Bool.and_eq_true, Bool.not_eq_true', decide_eq_true_eq, List.all_eq_true] at h
      obtain ⟨⟨rfl, h1, h3⟩, h2⟩ := h
      exact ⟨es, n, rfl, h1, h3, h2⟩
    cases h
theorem shp_slice {e : TypeId} (hd : P.underlying t = some (.slice e)) (h : shp P n t xs = true) : ∃ es m, xs = [.sl false es] ∧ es.length ≤ maxLen ∧ ∀ r ∈ es, shp P m e r = true := by
  obtain ⟨es, m, h1, h2, _, h3⟩ := shp_sliceZ hd h
  exact ⟨es, m, h1, h2, h3⟩
theorem shp_struct {fs : Array Field} (hd : P.underlying t = some (.struct fs)) (h : shp P n t xs = true) : ∃ m, shpL (fun f => shp P m f.type) (fun f => P.cellsOf f.type) fs.toList xs = true := by
  cases n with
  | zero => cases h
  | succ n =>
    simp only [shp, hd] at h
    exact ⟨n, h⟩
theorem shpL_nil {α : Type} {f : α → List D → Bool} {z : α → Nat} (h : shpL f z [] xs = true) : xs = [] := by
  simpa [shpL] using h
theorem shpL_cons {α : Type} {f : α → List D → Bool} {z : α → Nat} {a : α} {r : List α} (h : shpL f z (a :: r) xs = true) : ∃ x y, xs = x ++ y ∧ f a x = true ∧ shpL f z r y = true := by
  simp only [shpL, Bool.and_eq_true, decide_eq_true_eq] at h
  exact ⟨xs.take (z a), xs.drop (z a), (List.take_append_drop _ _).symm, h.1.2, h.2⟩
theorem shpA_c {p : PA} (ha : isAggT P t = false) (h : shpA P n t p) : ∃ x, p = .c x ∧ shp P n t [x] = true := by
  cases p with
  | c x => exact ⟨x, rfl, h.2⟩
  | agg xs => rw [h.1] at ha; cases ha
theorem shpArgs_cons {ts : List TypeId} {ps : List PA} (h : shpArgs P (t :: ts) ps) : ∃ p r, ps = p :: r ∧ (∃ n, shpA P n t p) ∧ shpArgs P ts r := by
  cases ps with
  | nil => exact h.elim
  | cons p r => exact ⟨p, r, rfl, h⟩
theorem shpArgs_nil {ps : List PA} (h : shpArgs P [] ps) : ps = [] := by
  cases ps with
  | nil => rfl
  | cons p r => exact h.elim
theorem arg_int {k : IntKind} (hd : P.underlying t = some (.int k)) {p : PA} (h : ∃ n, shpA P n t p) : ∃ m, p = .c (.int k m) ∧ k.has m := by
  obtain ⟨n, h⟩ := h
  obtain ⟨x, rfl, hx⟩ := shpA_c (by simp [isAggT, hd]) h
  obtain ⟨m, hm, hw⟩ := shp_int hd hx
  cases hm
  exact ⟨m, rfl, hw⟩
theorem arg_slice {e : TypeId} (hd : P.underlying t = some (.slice e)) {p : PA} (h : ∃ n, shpA P n t p) : ∃ es m, p = .c (.sl false es) ∧ es.length ≤ maxLen ∧ ∀ r ∈ es, shp P m e r = true := by
  obtain ⟨n, h⟩ := h
  obtain ⟨x, rfl, hx⟩ := shpA_c (by simp [isAggT, hd]) h
  obtain ⟨es, m, hm, hw⟩ := shp_slice hd hx
  cases hm
  exact ⟨es, m, rfl, hw⟩
end
end Go.Ab
