/-
  Texts of the layer and of the laws, put together: AbQ9. No law is stated here.
-/
import Derived.Test.YtfokeholingnjaaDoorAbV32
set_option linter.unusedSimpArgs false
set_option linter.unusedVariables false
set_option maxRecDepth 100000

/-
  What the functions of reports compute: accounts found; balances.
-/
namespace Go.Ab
open Go.RowKit Go.Proofs

noncomputable section
open Classical

theorem idx_cases (l : List Acc) (name : List UInt8) : idxF l name = -1 ∨ ∃ (k : Nat) (a : Acc), idxF l name = (k : Int) ∧ k < l.length ∧ l[k]? = some a := by
  unfold idxF
  cases h : l.findIdx? (fun a => a.name == name) with
  | none => exact .inl rfl
  | some k =>
    obtain ⟨hk, _⟩ := List.findIdx?_eq_some_iff_getElem.1 h
    exact .inr ⟨k, l[k], rfl, hk, by simp [hk]⟩

/-- The first account of a name. -/
def foundA (l : List Acc) (name : List UInt8) : Option Acc := if idxF l name < 0 then none else l[(idxF l name).toNat]?
def zeroAcc : Acc := ⟨[], [], false, true, [], 0, 0, 0, 0, false⟩
def Acc.cl (a : Acc) : Acc := { a with owf := false }

def find_m : List PA → Option (List PA) := mE encAs fun p => if p.1.2.length ≤ 1000 ∧ ∀ a ∈ p.1.2, a.owned.length ≤ 2932031007317 then (match foundA p.1.2 p.2 with | some a => some [.agg a.cl.row, .b true] | none => some [.agg zeroAcc.row, .b false]) else none
def rFind_m : List PA → Option (List PA) := mE encAs fun p => if p.1.2.length ≤ 1000 then (match foundA p.1.2 p.2 with | some a => some [.agg a.row, .b true] | none => some [.agg zeroAcc.row, .b false]) else none

theorem index_at {f : Bool} {l : List Acc} {name : List UInt8} (h : l.length ≤ 1000) : index_m [.c (.sl f (l.map Acc.row)), .c (.str name)] = some [.i (idxF l name)] := by
  rw [index_m, show ([.c (.sl f (l.map Acc.row)), .c (.str name)] : List PA) = encAs ((f, l), name) from rfl, mE_eq encAs_inj, if_pos (decide_eq_true (by dsimp only; omega))]
theorem rfind_at {f : Bool} {l : List Acc} {name : List UInt8} (h : l.length ≤ 1000) : rfind_m [.c (.sl f (l.map Acc.row)), .c (.str name)] = some [.i (idxF l name)] := by
  rw [rfind_m, show ([.c (.sl f (l.map Acc.row)), .c (.str name)] : List PA) = encAs ((f, l), name) from rfl, mE_eq encAs_inj, if_pos (decide_eq_true (by dsimp only; omega))]
theorem aclone_at {a : Acc} (h : a.owned.length ≤ 2932031007317) : aclone_m [.agg a.row] = some [.agg a.cl.row] := by
  rw [aclone_m, show ([.agg a.row] : List PA) = encAcc a from rfl, mE_eq encAcc_inj, if_pos (decide_eq_true h)]; rfl

theorem find_ok : PureC Tryd.prog Gt 39 find_m := by
  refine pure_of_awp (X := ctx Tryd.prog Gt [(69, index_m), (70, aclone_m)]) Tryd.func39 rfl rfl (by kernel_rfl) (by kernel_rfl) (AllOk.cons index_ok (AllOk.cons aclone_ok AllOk.nil)).kok ?_
  intro args r h0
  obtain ⟨⟨⟨f, l⟩, name⟩, rfl, h⟩ := mE_inv h0
  refine ⟨Nat.le_of_ble_eq_true rfl, ?_⟩
  split at h
  · rename_i hl
    dsimp only at hl h ⊢
    obtain ⟨hl, ho⟩ := hl
    have f1 := index_at (f := f) (name := name) hl
    have hF : foundA l name = if idxF l name < 0 then none else l[(idxF l name).toNat]? := rfl
    generalize foundA l name = F at *
    rcases idx_cases l name with hi | ⟨k, a, hi, hk, ha⟩
    · rw [hi] at f1 hF
      rw [if_pos (by omega)] at hF
      subst hF
      cases h
      have hc := Nat.zero_add 0
      repeat' (first | (simp only [hc, Tryd.f39, encAs, SX, f1, AB, PL, RG, LP, TY, Nat.reduceEqDiff, Nat.reduceAdd, Nat.reduceSub, Nat.reduceMul, Nat.reduceLT, Nat.reduceLeDiff, Nat.reduceMod, Nat.reduceDiv, reduceCtorEq, Int.reduceEq, Int.reduceNe, Int.reduceLT, Int.reduceLE, Int.reduceNeg, Int.reduceToNat, Int.reduceAdd, Int.reduceSub, Int.reduceMul, ↓reduceIte, forall_const, eq_self, ne_eq, Option.some.injEq, beq_self_eq_true]) | refine fin_ndec (fun hc => ?_) (fun hc => ?_) | refine fin_dec (fun hc => ?_) (fun hc => ?_) | refine cnd_ndec (fun hc => ?_) (fun hc => ?_) | refine cnd_dec' (fun hc => ?_) (fun hc => ?_) | refine fin_nsplit (fun hc => ?_) (fun hc => ?_) | refine fin_split (fun hc => ?_) (fun hc => ?_) | refine cnd_nsplit (fun hc => ?_) (fun hc => ?_) | refine cnd_split (fun hc => ?_) (fun hc => ?_) | refine blk_exit_id ?_)
      all_goals simp [zeroAcc, Acc.row, DV.b]
    · rw [hi] at f1 hF
      rw [if_neg (by omega), Int.toNat_natCast, ha] at hF
      subst hF
      cases h
      have hneg : ((k : Int) < 0) = False := eq_false (by omega)
      have e1 : (l.map Acc.row)[k]? = some a.row := by simp [ha]
      have f2 := aclone_at (ho a (List.mem_of_getElem? ha))
      simp only [Acc.row, Acc.cl] at e1 f2 ⊢
      have hc := Nat.zero_add 0
      repeat' (first | (simp only [hc, Tryd.f39, encAs, SX, f1, hneg, nn, e1, f2, AB, PL, RG, LP, TY, Nat.reduceEqDiff, Nat.reduceAdd, Nat.reduceSub, Nat.reduceMul, Nat.reduceLT, Nat.reduceLeDiff, Nat.reduceMod, Nat.reduceDiv, reduceCtorEq, Int.reduceEq, Int.reduceNe, Int.reduceLT, Int.reduceLE, Int.reduceNeg, Int.reduceToNat, Int.reduceAdd, Int.reduceSub, Int.reduceMul, ↓reduceIte, forall_const, eq_self, ne_eq, Option.some.injEq, beq_self_eq_true]) | refine fin_ndec (fun hc => ?_) (fun hc => ?_) | refine fin_dec (fun hc => ?_) (fun hc => ?_) | refine cnd_ndec (fun hc => ?_) (fun hc => ?_) | refine cnd_dec' (fun hc => ?_) (fun hc => ?_) | refine fin_nsplit (fun hc => ?_) (fun hc => ?_) | refine fin_split (fun hc => ?_) (fun hc => ?_) | refine cnd_nsplit (fun hc => ?_) (fun hc => ?_) | refine cnd_split (fun hc => ?_) (fun hc => ?_) | refine blk_exit_id ?_)
      all_goals simp [DV.b]
  · cases h

theorem rFind_ok : PureC Tryd.prog Gt 41 rFind_m := by
  refine pure_of_awp (X := ctx Tryd.prog Gt [(72, rfind_m)]) Tryd.func41 rfl rfl (by kernel_rfl) (by kernel_rfl) (AllOk.cons rfind_ok AllOk.nil).kok ?_
  intro args r h0
  obtain ⟨⟨⟨f, l⟩, name⟩, rfl, h⟩ := mE_inv h0
  refine ⟨Nat.le_of_ble_eq_true rfl, ?_⟩
  split at h
  · rename_i hl
    dsimp only at hl h ⊢
    have f1 := rfind_at (f := f) (name := name) hl
    have hF : foundA l name = if idxF l name < 0 then none else l[(idxF l name).toNat]? := rfl
    generalize foundA l name = F at *
    rcases idx_cases l name with hi | ⟨k, a, hi, hk, ha⟩
    · rw [hi] at f1 hF
      rw [if_pos (by omega)] at hF
      subst hF
      cases h
      have hc := Nat.zero_add 0
      repeat' (first | (simp only [hc, Tryd.f41, encAs, SX, f1, AB, PL, RG, LP, TY, Nat.reduceEqDiff, Nat.reduceAdd, Nat.reduceSub, Nat.reduceMul, Nat.reduceLT, Nat.reduceLeDiff, Nat.reduceMod, Nat.reduceDiv, reduceCtorEq, Int.reduceEq, Int.reduceNe, Int.reduceLT, Int.reduceLE, Int.reduceNeg, Int.reduceToNat, Int.reduceAdd, Int.reduceSub, Int.reduceMul, ↓reduceIte, forall_const, eq_self, ne_eq, Option.some.injEq, beq_self_eq_true]) | refine fin_ndec (fun hc => ?_) (fun hc => ?_) | refine fin_dec (fun hc => ?_) (fun hc => ?_) | refine cnd_ndec (fun hc => ?_) (fun hc => ?_) | refine cnd_dec' (fun hc => ?_) (fun hc => ?_) | refine fin_nsplit (fun hc => ?_) (fun hc => ?_) | refine fin_split (fun hc => ?_) (fun hc => ?_) | refine cnd_nsplit (fun hc => ?_) (fun hc => ?_) | refine cnd_split (fun hc => ?_) (fun hc => ?_) | refine blk_exit_id ?_)
      all_goals simp [zeroAcc, Acc.row, DV.b]
    · rw [hi] at f1 hF
      rw [if_neg (by omega), Int.toNat_natCast, ha] at hF
      subst hF
      cases h
      have hneg : ((k : Int) < 0) = False := eq_false (by omega)
      have e1 : (l.map Acc.row)[k]? = some a.row := by simp [ha]
      simp only [Acc.row] at e1 ⊢
      have hc := Nat.zero_add 0
      repeat' (first | (simp only [hc, Tryd.f41, encAs, SX, f1, hneg, nn, e1, AB, PL, RG, LP, TY, Nat.reduceEqDiff, Nat.reduceAdd, Nat.reduceSub, Nat.reduceMul, Nat.reduceLT, Nat.reduceLeDiff, Nat.reduceMod, Nat.reduceDiv, reduceCtorEq, Int.reduceEq, Int.reduceNe, Int.reduceLT, Int.reduceLE, Int.reduceNeg, Int.reduceToNat, Int.reduceAdd, Int.reduceSub, Int.reduceMul, ↓reduceIte, forall_const, eq_self, ne_eq, Option.some.injEq, beq_self_eq_true]) | refine fin_ndec (fun hc => ?_) (fun hc => ?_) | refine fin_dec (fun hc => ?_) (fun hc => ?_) | refine cnd_ndec (fun hc => ?_) (fun hc => ?_) | refine cnd_dec' (fun hc => ?_) (fun hc => ?_) | refine fin_nsplit (fun hc => ?_) (fun hc => ?_) | refine fin_split (fun hc => ?_) (fun hc => ?_) | refine cnd_nsplit (fun hc => ?_) (fun hc => ?_) | refine cnd_split (fun hc => ?_) (fun hc => ?_) | refine blk_exit_id ?_)
      all_goals simp [DV.b]
  · cases h

/-! Balances -/

theorem bal_snoc (l : List Ent) (e : Ent) (k : List UInt8) : balF (l ++ [e]) k = sumP k (balF l k) e.posts := by simp [balF, List.foldl_append]
theorem sumP_snoc (k : List UInt8) (n : Int) (l : List (List UInt8 × Int)) (p : List UInt8 × Int) : sumP k n (l ++ [p]) = addP k (sumP k n l) p := by simp [sumP, List.foldl_append]

def balG (es : MapA) (k : List UInt8) : Int := match getM es (.c (.str k)) with | some (.c (.int .i64 n)) => n | _ => 0
def balS (p : MapA × Nat) (x : List UInt8 × Int) : MapA × Nat := match putA p.1 p.2 (.c (.str x.1)) (.c (.int .i64 (W (balG p.1 x.1 + x.2)))) with | .map es c => (es, c) | _ => p
def balM (l : List Ent) : MapA × Nat := l.foldl (fun p e => e.posts.foldl balS p) ([], 0)

/-- All keys are texts, all values ints. -/
def IntM (es : MapA) : Prop := KeysD .string es ∧ ∀ k, getM es (.c (.str k)) = none ∨ ∃ n, getM es (.c (.str k)) = some (.c (.int .i64 n))

theorem IntM.nil : IntM [] := ⟨fun e h => (by cases h), fun k => .inl getM_nil⟩
theorem IntM.step {p : MapA × Nat} (h : IntM p.1) (x : List UInt8 × Int) : IntM (balS p x).1 ∧ (∀ k, balG (balS p x).1 k = addP k (balG p.1 k) x) ∧
    putA p.1 p.2 (.c (.str x.1)) (.c (.int .i64 (W (balG p.1 x.1 + x.2)))) = .map (balS p x).1 (balS p x).2 := by
  obtain ⟨es, c⟩ := p
  obtain ⟨es', c', hput, hks, _, hget⟩ := putA_spec (d := .string) (k := .c (.str x.1)) (y := .c (.int .i64 (W (balG es x.1 + x.2)))) (c := c) rfl h.1
  have hS : balS (es, c) x = (es', c') := by unfold balS; rw [hput]
  rw [hS]
  refine ⟨⟨hks, fun k => ?_⟩, fun k => ?_, hput⟩
  · have := hget (.c (.str k)) rfl
    by_cases hk : x.1 = k
    · subst hk; rw [if_pos rfl] at this; exact .inr ⟨_, this⟩
    · rw [if_neg (fun h => hk (by cases h; rfl))] at this
      rw [this]; exact h.2 k
  · have := hget (.c (.str k)) rfl
    unfold addP
    by_cases hk : x.1 = k
    · subst hk
      rw [if_pos rfl] at this
      rw [if_pos rfl]
      unfold balG
      rw [this]; rfl
    · rw [if_neg (fun h => hk (by cases h; rfl))] at this
      rw [if_neg hk]
      unfold balG
      rw [this]
theorem IntM.steps : ∀ (l : List (List UInt8 × Int)) {p : MapA × Nat}, IntM p.1 → IntM (l.foldl balS p).1 ∧ ∀ k, balG (l.foldl balS p).1 k = sumP k (balG p.1 k) l
  | [], p, h => ⟨h, fun k => rfl⟩
  | x :: l, p, h => by
    obtain ⟨h1, h2, _⟩ := h.step x
    obtain ⟨g1, g2⟩ := IntM.steps l h1
    refine ⟨g1, fun k => ?_⟩
    rw [List.foldl_cons, g2, h2]
    rfl
theorem IntM.all : ∀ (l : List Ent) {p : MapA × Nat}, IntM p.1 → IntM (l.foldl (fun p e => e.posts.foldl balS p) p).1 ∧ ∀ k, balG (l.foldl (fun p e => e.posts.foldl balS p) p).1 k = l.foldl (fun n e => sumP k n e.posts) (balG p.1 k)
  | [], p, h => ⟨h, fun k => rfl⟩
  | e :: l, p, h => by
    obtain ⟨h1, h2⟩ := IntM.steps e.posts h
    obtain ⟨g1, g2⟩ := IntM.all l h1
    refine ⟨g1, fun k => ?_⟩
    rw [List.foldl_cons, g2, h2]
    rfl
theorem balM_ok (l : List Ent) : IntM (balM l).1 ∧ ∀ k, balG (balM l).1 k = balF l k := by
  obtain ⟨h1, h2⟩ := IntM.all l (p := ([], 0)) IntM.nil
  exact ⟨h1, h2⟩
theorem balM_snoc (l : List Ent) (e : Ent) : balM (l ++ [e]) = e.posts.foldl balS (balM l) := by simp [balM, List.foldl_append]
theorem pk_int {es : MapA} (h : IntM es) (k : List UInt8) : pkV es (.c (.str k)) (.c (.d (.int .i64 0))) = .c (.d (.int .i64 (balG es k))) := by
  rw [pkV_eq]
  unfold balG
  rcases h.2 k with h | ⟨n, h⟩ <;> rw [h] <;> rfl
theorem ko_str {es : MapA} (h : IntM es) (k : List UInt8) : keysOk .string (.c (.str k)) es = true := keysOk_of rfl h.1

/-- g at what arguments and objects are related with. -/
def mK {α : Type} (R : α → List AV → Hp → Prop) (g : α → Option COut) (args : List AV) (h : Hp) : Option COut :=
  if hx : ∃ a, R a args h then g (Classical.choose hx) else none
theorem mK_inv {α : Type} {R : α → List AV → Hp → Prop} {g : α → Option COut} {args : List AV} {h : Hp} {out : COut} (hm : mK R g args h = some out) : ∃ a, R a args h ∧ g a = some out := by
  unfold mK at hm
  split at hm
  · rename_i hx
    exact ⟨_, Classical.choose_spec hx, hm⟩
  · cases hm
theorem mK_eq {α : Type} {R : α → List AV → Hp → Prop} {g : α → Option COut} {args : List AV} {h : Hp} {a : α} (hu : ∀ b, R b args h → g b = g a) (hr : R a args h) : mK R g args h = g a := by
  unfold mK
  rw [dif_pos ⟨a, hr⟩]
  exact hu _ (Classical.choose_spec (p := fun b => R b args h) ⟨a, hr⟩)

def balR (a : (Bool × List Ent) × D) (args : List AV) (h : Hp) : Prop := args = [AV.d (.sl a.1.1 (a.1.2.map Ent.row))] ∧ h = [.box [.d a.2]]
def EntsOk (l : List Ent) : Prop := l.length ≤ 9223372036854775807 ∧ ∀ e ∈ l, e.posts.length ≤ 9223372036854775807
def balances_k : List AV → Hp → Option COut := mK balR fun a => if EntsOk a.1.2 then some (.ret (.v (.c (.mp 1))) [.box [.d a.2], .map (balM a.1.2).1 (balM a.1.2).2]) else none

theorem balances_kok : ImpC Tryd.prog Gt 88 balances_k := by
  intro args h out h0
  refine fok_of_awp (X := ctxK Tryd.prog Gt [] []) Tryd.func88 rfl rfl (by kernel_rfl) (by kernel_rfl) (kok_of AllOk.nil AllK.nil) ?_ ?_
  · obtain ⟨a, ⟨rfl, rfl⟩, _⟩ := mK_inv h0
    exact Nat.le_of_ble_eq_true rfl
  obtain ⟨⟨⟨f, l⟩, y⟩, ⟨rfl, rfl⟩, hg⟩ := mK_inv h0
  split at hg
  · rename_i hok
    dsimp only at hok hg ⊢
    obtain ⟨ok1, ok2⟩ := hok
    cases hg
    have l1 : ((l.map Ent.row).length : Int) = l.length := by simp
    have hc := Nat.zero_add 0
    repeat' (first | (simp only [hc, Tryd.f88, look_argV_cons, look_argV_nil, KX, SX, MP, l1, AB, PL, RG, LP, TY, Nat.reduceEqDiff, Nat.reduceAdd, Nat.reduceSub, Nat.reduceMul, Nat.reduceLT, Nat.reduceLeDiff, Nat.reduceMod, Nat.reduceDiv, reduceCtorEq, Int.reduceEq, Int.reduceNe, Int.reduceLT, Int.reduceLE, Int.reduceNeg, Int.reduceToNat, Int.reduceAdd, Int.reduceSub, Int.reduceMul, ↓reduceIte, forall_const, eq_self, ne_eq, Option.some.injEq, beq_self_eq_true]) | refine fin_ndec (fun hc => ?_) (fun hc => ?_) | refine fin_dec (fun hc => ?_) (fun hc => ?_) | refine cnd_ndec (fun hc => ?_) (fun hc => ?_) | refine cnd_dec' (fun hc => ?_) (fun hc => ?_) | refine fin_nsplit (fun hc => ?_) (fun hc => ?_) | refine fin_split (fun hc => ?_) (fun hc => ?_) | refine cnd_nsplit (fun hc => ?_) (fun hc => ?_) | refine cnd_split (fun hc => ?_) (fun hc => ?_) | refine blk_exit_id ?_)
    refine awp_loop (σ := Nat) (fun j => j ≤ l.length) (fun j => ⟨[(11, AV.i j), (10, AV.i l.length), (9, AV.d (.sl f (l.map Ent.row))), (3, .v (.c (.mp 1)))], [.box [.d y], .map (balM (l.take j)).1 (balM (l.take j)).2]⟩) (fun j => l.length - j) 0 (Wk.sub' (by simp [subT, look]) (by simp [balM])) (by simp) ?_
    intro j hj
    by_cases hjl : j < l.length
    · have e1 : (l.map Ent.row)[j]? = some l[j].row := by simp [hjl]
      have hlt : ((j : Int) < (l.length : Int)) = True := eq_true (by omega)
      have hw := wI (n := (j : Int) + 1) (by omega) (by omega)
      have hpl := ok2 _ (List.getElem_mem hjl)
      have hstep : balM (l.take (j + 1)) = l[j].posts.foldl balS (balM (l.take j)) := by rw [List.take_succ_eq_append_getElem hjl, balM_snoc]
      have hI := (balM_ok (l.take j)).1
      generalize l[j] = e at *
      generalize balM (l.take j) = p at *
      obtain ⟨k0, t0, pf, ps⟩ := e
      dsimp only at hpl hstep
      simp only [Ent.row] at e1
      have l2 : ((ps.map rowL).length : Int) = ps.length := by simp
      have hc := Nat.zero_add 0
      repeat' (first | (simp only [hc, KX, SX, MP, l1, e1, hlt, nn, l2, AB, PL, RG, LP, TY, Nat.reduceEqDiff, Nat.reduceAdd, Nat.reduceSub, Nat.reduceMul, Nat.reduceLT, Nat.reduceLeDiff, Nat.reduceMod, Nat.reduceDiv, reduceCtorEq, Int.reduceEq, Int.reduceNe, Int.reduceLT, Int.reduceLE, Int.reduceNeg, Int.reduceToNat, Int.reduceAdd, Int.reduceSub, Int.reduceMul, ↓reduceIte, forall_const, eq_self, ne_eq, Option.some.injEq, beq_self_eq_true]) | refine fin_ndec (fun hc => ?_) (fun hc => ?_) | refine fin_dec (fun hc => ?_) (fun hc => ?_) | refine cnd_ndec (fun hc => ?_) (fun hc => ?_) | refine cnd_dec' (fun hc => ?_) (fun hc => ?_) | refine fin_nsplit (fun hc => ?_) (fun hc => ?_) | refine fin_split (fun hc => ?_) (fun hc => ?_) | refine cnd_nsplit (fun hc => ?_) (fun hc => ?_) | refine cnd_split (fun hc => ?_) (fun hc => ?_) | refine blk_exit_id ?_)
      refine awp_loop (σ := Nat) (fun q => q ≤ ps.length) (fun q => ⟨[(18, AV.i q), (17, AV.i ps.length), (16, AV.d (.sl pf (ps.map rowL))), (11, AV.i j), (10, AV.i l.length), (9, AV.d (.sl f (l.map Ent.row))), (3, .v (.c (.mp 1)))], [.box [.d y], .map ((ps.take q).foldl balS p).1 ((ps.take q).foldl balS p).2, .box [.d (.str k0), .d (.int .i64 t0), .d (.sl pf (ps.map rowL))]]⟩) (fun q => ps.length - q) 0 (Wk.sub' (by simp [subT, look]) (by simp)) (by simp) ?_
      intro q hq
      by_cases hql : q < ps.length
      · have e2 : (ps.map rowL)[q]? = some [.str ps[q].1, .int .i64 ps[q].2] := by simp [hql, rowL]
        have hltq : ((q : Int) < (ps.length : Int)) = True := eq_true (by omega)
        have hwq := wI (n := (q : Int) + 1) (by omega) (by omega)
        have hI2 := (IntM.steps (ps.take q) hI).1
        have hst2 : (ps.take (q + 1)).foldl balS p = balS ((ps.take q).foldl balS p) ps[q] := by rw [List.take_succ_eq_append_getElem hql, List.foldl_append]; rfl
        generalize ps[q] = x at *
        generalize (ps.take q).foldl balS p = r at *
        have hko := ko_str hI2 x.1
        have hpk := pk_int hI2 x.1
        have hput := (hI2.step x).2.2
        have hc := Nat.zero_add 0
        repeat' (first | (simp only [hc, KX, SX, MP, l2, e2, hltq, nn, hwq, hko, hpk, hput, AB, PL, RG, LP, TY, Nat.reduceEqDiff, Nat.reduceAdd, Nat.reduceSub, Nat.reduceMul, Nat.reduceLT, Nat.reduceLeDiff, Nat.reduceMod, Nat.reduceDiv, reduceCtorEq, Int.reduceEq, Int.reduceNe, Int.reduceLT, Int.reduceLE, Int.reduceNeg, Int.reduceToNat, Int.reduceAdd, Int.reduceSub, Int.reduceMul, ↓reduceIte, forall_const, eq_self, ne_eq, Option.some.injEq, beq_self_eq_true]) | refine fin_ndec (fun hc => ?_) (fun hc => ?_) | refine fin_dec (fun hc => ?_) (fun hc => ?_) | refine cnd_ndec (fun hc => ?_) (fun hc => ?_) | refine cnd_dec' (fun hc => ?_) (fun hc => ?_) | refine fin_nsplit (fun hc => ?_) (fun hc => ?_) | refine fin_split (fun hc => ?_) (fun hc => ?_) | refine cnd_nsplit (fun hc => ?_) (fun hc => ?_) | refine cnd_split (fun hc => ?_) (fun hc => ?_) | refine blk_exit_id ?_)
        exact lp_next (q + 1) (Wk.cutk (k := 3) (by simp) (by simp) (by simp [hst2]) (by simp [subT, look, hst2]) (by first | rfl | simp [AV.low, V.low, C1.low]) (by first | rfl | simp [Ob.low, C1.low, all_low_d])) (by omega) (by omega)
      · have hltq : ((q : Int) < (ps.length : Int)) = False := eq_false (by omega)
        have et : ps.take q = ps := List.take_of_length_le (by omega)
        simp only [et]
        rw [← hstep]
        have hc := Nat.zero_add 0
        repeat' (first | (simp only [hc, KX, SX, MP, l2, hltq, hw, AB, PL, RG, LP, TY, Nat.reduceEqDiff, Nat.reduceAdd, Nat.reduceSub, Nat.reduceMul, Nat.reduceLT, Nat.reduceLeDiff, Nat.reduceMod, Nat.reduceDiv, reduceCtorEq, Int.reduceEq, Int.reduceNe, Int.reduceLT, Int.reduceLE, Int.reduceNeg, Int.reduceToNat, Int.reduceAdd, Int.reduceSub, Int.reduceMul, ↓reduceIte, forall_const, eq_self, ne_eq, Option.some.injEq, beq_self_eq_true]) | refine fin_ndec (fun hc => ?_) (fun hc => ?_) | refine fin_dec (fun hc => ?_) (fun hc => ?_) | refine cnd_ndec (fun hc => ?_) (fun hc => ?_) | refine cnd_dec' (fun hc => ?_) (fun hc => ?_) | refine fin_nsplit (fun hc => ?_) (fun hc => ?_) | refine fin_split (fun hc => ?_) (fun hc => ?_) | refine cnd_nsplit (fun hc => ?_) (fun hc => ?_) | refine cnd_split (fun hc => ?_) (fun hc => ?_) | refine blk_exit_id ?_)
        exact lp_next (j + 1) (Wk.cutk (k := 2) (by simp) (by simp) (by simp) (by simp [subT, look]) (by first | rfl | simp [AV.low, V.low, C1.low]) (by first | rfl | simp [Ob.low, C1.low, all_low_d])) (by omega) (by omega)
    · have hlt : ((j : Int) < (l.length : Int)) = False := eq_false (by omega)
      rw [List.take_of_length_le (by omega)]
      have hc := Nat.zero_add 0
      repeat' (first | (simp only [hc, KX, SX, MP, l1, hlt, AB, PL, RG, LP, TY, Nat.reduceEqDiff, Nat.reduceAdd, Nat.reduceSub, Nat.reduceMul, Nat.reduceLT, Nat.reduceLeDiff, Nat.reduceMod, Nat.reduceDiv, reduceCtorEq, Int.reduceEq, Int.reduceNe, Int.reduceLT, Int.reduceLE, Int.reduceNeg, Int.reduceToNat, Int.reduceAdd, Int.reduceSub, Int.reduceMul, ↓reduceIte, forall_const, eq_self, ne_eq, Option.some.injEq, beq_self_eq_true]) | refine fin_ndec (fun hc => ?_) (fun hc => ?_) | refine fin_dec (fun hc => ?_) (fun hc => ?_) | refine cnd_ndec (fun hc => ?_) (fun hc => ?_) | refine cnd_dec' (fun hc => ?_) (fun hc => ?_) | refine fin_nsplit (fun hc => ?_) (fun hc => ?_) | refine fin_split (fun hc => ?_) (fun hc => ?_) | refine cnd_nsplit (fun hc => ?_) (fun hc => ?_) | refine cnd_split (fun hc => ?_) (fun hc => ?_) | refine blk_exit_id ?_)
      exact ⟨_, rfl, rfl⟩
  · cases hg

def encLk (p : (Bool × List Ent) × List UInt8) : List PA := [.agg [.sl p.1.1 (p.1.2.map Ent.row)], .c (.str p.2)]
theorem encLk_inj (a b : (Bool × List Ent) × List UInt8) (h : encLk a = encLk b) : a = b := by
  obtain ⟨⟨a1, a2⟩, a3⟩ := a
  obtain ⟨⟨b1, b2⟩, b3⟩ := b
  simp [encLk, mapE_inj] at h
  simp [h]
theorem balances_at {f : Bool} {l : List Ent} {y : D} (h : EntsOk l) : balances_k [AV.d (.sl f (l.map Ent.row))] [.box [.d y]] = some (.ret (.v (.c (.mp 1))) [.box [.d y], .map (balM l).1 (balM l).2]) := by
  rw [balances_k, mK_eq (a := ((f, l), y)) (fun b hb => ?_) ⟨rfl, rfl⟩, if_pos h]
  obtain ⟨⟨b1, b2⟩, b3⟩ := b
  obtain ⟨h1, h2⟩ := hb
  simp only [List.cons.injEq, AV.v.injEq, V.c.injEq, C1.d.injEq, D.sl.injEq, Ob.box.injEq, mapE_inj, and_true] at h1 h2
  simp [h1, h2]

def lbal_m : List PA → Option (List PA) := mE encLk fun p => if EntsOk p.1.2 then some [.i (balF p.1.2 p.2)] else none
def rbal_m : List PA → Option (List PA) := mE encLk fun p => if EntsOk p.1.2 then some [.i (balF p.1.2 p.2)] else none
def ebal_m : List PA → Option (List PA) := mR stS fun p => if p.1.Wf ∧ p.2.length ≤ 200 then some [.i (balF p.1.ents (ownF p.2))] else none

theorem lbal_ok : PureC Tryd.prog Gt 71 lbal_m := by
  refine pure_of_awp (X := ctxK Tryd.prog Gt [] [(88, balances_k)]) Tryd.func71 rfl rfl (by kernel_rfl) (by kernel_rfl) (kok_of AllOk.nil (AllK.cons balances_kok AllK.nil)) ?_
  intro args r h0
  obtain ⟨⟨⟨f, l⟩, k⟩, rfl, h⟩ := mE_inv h0
  refine ⟨Nat.le_of_ble_eq_true rfl, ?_⟩
  split at h
  · rename_i hok
    dsimp only at hok h ⊢
    cases h
    have f1 := balances_at (f := f) (y := .sl f (l.map Ent.row)) hok
    obtain ⟨hI, hb⟩ := balM_ok l
    have hko := ko_str hI k
    have hpk := pk_int hI k
    rw [hb] at hpk
    have hc := Nat.zero_add 0
    repeat' (first | (simp only [hc, Tryd.f71, encLk, KX, SX, MP, f1, hko, hpk, AB, PL, RG, LP, TY, Nat.reduceEqDiff, Nat.reduceAdd, Nat.reduceSub, Nat.reduceMul, Nat.reduceLT, Nat.reduceLeDiff, Nat.reduceMod, Nat.reduceDiv, reduceCtorEq, Int.reduceEq, Int.reduceNe, Int.reduceLT, Int.reduceLE, Int.reduceNeg, Int.reduceToNat, Int.reduceAdd, Int.reduceSub, Int.reduceMul, ↓reduceIte, forall_const, eq_self, ne_eq, Option.some.injEq, beq_self_eq_true]) | refine fin_ndec (fun hc => ?_) (fun hc => ?_) | refine fin_dec (fun hc => ?_) (fun hc => ?_) | refine cnd_ndec (fun hc => ?_) (fun hc => ?_) | refine cnd_dec' (fun hc => ?_) (fun hc => ?_) | refine fin_nsplit (fun hc => ?_) (fun hc => ?_) | refine fin_split (fun hc => ?_) (fun hc => ?_) | refine cnd_nsplit (fun hc => ?_) (fun hc => ?_) | refine cnd_split (fun hc => ?_) (fun hc => ?_) | refine blk_exit_id ?_)
    all_goals simp [DV.i]
  · cases h

theorem lbal_at {f : Bool} {l : List Ent} {k : List UInt8} (h : EntsOk l) : lbal_m [.agg [.sl f (l.map Ent.row)], .c (.str k)] = some [.i (balF l k)] := by
  rw [lbal_m, show ([.agg [.sl f (l.map Ent.row)], .c (.str k)] : List PA) = encLk ((f, l), k) from rfl, mE_eq encLk_inj, if_pos h]

theorem ebal_ok : PureC Tryd.prog Gt 40 ebal_m := by
  refine pure_of_awp (X := ctx Tryd.prog Gt [(71, lbal_m)]) Tryd.func40 rfl rfl (by kernel_rfl) (by kernel_rfl) (AllOk.cons lbal_ok AllOk.nil).kok ?_
  intro args r h0
  obtain ⟨⟨s, k⟩, ⟨hs, rfl⟩, h⟩ := mR_inv h0
  refine ⟨Nat.le_of_ble_eq_true rfl, ?_⟩
  split at h
  · rename_i hw
    obtain ⟨hw, hk⟩ := hw
    dsimp only at hs hw hk h ⊢
    cases h
    have f1 := lbal_at (f := s.ef) (l := s.ents) (k := ownF k) ⟨hw.enl, fun e he => (hw.enr e he).2.1⟩
    have ho : ownF k = [97, 99, 99, 111, 117, 110, 116, 58] ++ k := rfl
    generalize ownF k = o at *
    subst ho
    simp only [List.cons_append, List.nil_append] at f1
    have k1 : (8 + k.length ≤ 4611686018427387904) = True := eq_true (by omega)
    have c35 : (s.cells.drop 35).take 1 = [.sl s.ef (s.ents.map Ent.row)] := by
      have h35 := hs.c35
      rw [List.drop_eq_getElem_cons (by rw [hs.len]; omega)]
      rw [List.getElem?_eq_getElem (by rw [hs.len]; omega)] at h35
      rw [Option.some.inj h35]; rfl
    have hl := hs.len
    have hc := Nat.zero_add 0
    repeat' (first | (simp only [hc, Tryd.f40, SX, WH, hl, c35, f1, k1, AB, PL, RG, LP, TY, Nat.reduceEqDiff, Nat.reduceAdd, Nat.reduceSub, Nat.reduceMul, Nat.reduceLT, Nat.reduceLeDiff, Nat.reduceMod, Nat.reduceDiv, reduceCtorEq, Int.reduceEq, Int.reduceNe, Int.reduceLT, Int.reduceLE, Int.reduceNeg, Int.reduceToNat, Int.reduceAdd, Int.reduceSub, Int.reduceMul, ↓reduceIte, forall_const, eq_self, ne_eq, Option.some.injEq, beq_self_eq_true]) | refine fin_ndec (fun hc => ?_) (fun hc => ?_) | refine fin_dec (fun hc => ?_) (fun hc => ?_) | refine cnd_ndec (fun hc => ?_) (fun hc => ?_) | refine cnd_dec' (fun hc => ?_) (fun hc => ?_) | refine fin_nsplit (fun hc => ?_) (fun hc => ?_) | refine fin_split (fun hc => ?_) (fun hc => ?_) | refine cnd_nsplit (fun hc => ?_) (fun hc => ?_) | refine cnd_split (fun hc => ?_) (fun hc => ?_) | refine blk_exit_id ?_)
    all_goals simp [DV.i]
  · cases h

theorem rbal_ok : PureC Tryd.prog Gt 43 rbal_m := by
  refine pure_of_awp (X := ctx Tryd.prog Gt []) Tryd.func43 rfl rfl (by kernel_rfl) (by kernel_rfl) AllOk.nil.kok ?_
  intro args r h0
  obtain ⟨⟨⟨f, l⟩, k⟩, rfl, h⟩ := mE_inv h0
  refine ⟨Nat.le_of_ble_eq_true rfl, ?_⟩
  split at h
  · rename_i hok
    dsimp only at hok h ⊢
    obtain ⟨ok1, ok2⟩ := hok
    cases h
    have l1 : ((l.map Ent.row).length : Int) = l.length := by simp
    have hc := Nat.zero_add 0
    repeat' (first | (simp only [hc, Tryd.f43, encLk, SX, l1, AB, PL, RG, LP, TY, Nat.reduceEqDiff, Nat.reduceAdd, Nat.reduceSub, Nat.reduceMul, Nat.reduceLT, Nat.reduceLeDiff, Nat.reduceMod, Nat.reduceDiv, reduceCtorEq, Int.reduceEq, Int.reduceNe, Int.reduceLT, Int.reduceLE, Int.reduceNeg, Int.reduceToNat, Int.reduceAdd, Int.reduceSub, Int.reduceMul, ↓reduceIte, forall_const, eq_self, ne_eq, Option.some.injEq, beq_self_eq_true]) | refine fin_ndec (fun hc => ?_) (fun hc => ?_) | refine fin_dec (fun hc => ?_) (fun hc => ?_) | refine cnd_ndec (fun hc => ?_) (fun hc => ?_) | refine cnd_dec' (fun hc => ?_) (fun hc => ?_) | refine fin_nsplit (fun hc => ?_) (fun hc => ?_) | refine fin_split (fun hc => ?_) (fun hc => ?_) | refine cnd_nsplit (fun hc => ?_) (fun hc => ?_) | refine cnd_split (fun hc => ?_) (fun hc => ?_) | refine blk_exit_id ?_)
    refine awp_loop (σ := Nat) (fun j => j ≤ l.length) (fun j => ⟨[(6, AV.i j), (5, AV.i (balF (l.take j) k)), (2, .v (.c (.ptr 0 0))), (1, AV.s k)], [.box [.d (.sl f (l.map Ent.row))]]⟩) (fun j => l.length - j) 0 (Wk.sub' (by simp [subT, look, balF]) rfl) (by simp) ?_
    intro j hj
    by_cases hjl : j < l.length
    · have e1 : (l.map Ent.row)[j]? = some l[j].row := by simp [hjl]
      have hlt : ((j : Int) < (l.length : Int)) = True := eq_true (by omega)
      have hw := wI (n := (j : Int) + 1) (by omega) (by omega)
      have hpl := ok2 _ (List.getElem_mem hjl)
      have hstep : balF (l.take (j + 1)) k = sumP k (balF (l.take j) k) l[j].posts := by rw [List.take_succ_eq_append_getElem hjl, bal_snoc]
      generalize l[j] = e at *
      generalize balF (l.take j) k = n0 at *
      obtain ⟨k0, t0, pf, ps⟩ := e
      dsimp only at hpl hstep
      simp only [Ent.row] at e1
      have l2 : ((ps.map rowL).length : Int) = ps.length := by simp
      have hc := Nat.zero_add 0
      repeat' (first | (simp only [hc, SX, l1, e1, hlt, nn, l2, AB, PL, RG, LP, TY, Nat.reduceEqDiff, Nat.reduceAdd, Nat.reduceSub, Nat.reduceMul, Nat.reduceLT, Nat.reduceLeDiff, Nat.reduceMod, Nat.reduceDiv, reduceCtorEq, Int.reduceEq, Int.reduceNe, Int.reduceLT, Int.reduceLE, Int.reduceNeg, Int.reduceToNat, Int.reduceAdd, Int.reduceSub, Int.reduceMul, ↓reduceIte, forall_const, eq_self, ne_eq, Option.some.injEq, beq_self_eq_true]) | refine fin_ndec (fun hc => ?_) (fun hc => ?_) | refine fin_dec (fun hc => ?_) (fun hc => ?_) | refine cnd_ndec (fun hc => ?_) (fun hc => ?_) | refine cnd_dec' (fun hc => ?_) (fun hc => ?_) | refine fin_nsplit (fun hc => ?_) (fun hc => ?_) | refine fin_split (fun hc => ?_) (fun hc => ?_) | refine cnd_nsplit (fun hc => ?_) (fun hc => ?_) | refine cnd_split (fun hc => ?_) (fun hc => ?_) | refine blk_exit_id ?_)
      refine awp_loop (σ := Nat) (fun q => q ≤ ps.length) (fun q => ⟨[(7, AV.i q), (6, AV.i j), (5, AV.i (sumP k n0 (ps.take q))), (2, .v (.c (.ptr 0 0))), (1, AV.s k)], [.box [.d (.sl f (l.map Ent.row))]]⟩) (fun q => ps.length - q) 0 (Wk.sub' (by simp [subT, look, sumP]) rfl) (by simp) ?_
      intro q hq
      by_cases hql : q < ps.length
      · have e2 : (ps.map rowL)[q]? = some [.str ps[q].1, .int .i64 ps[q].2] := by simp [hql, rowL]
        have hltq : ((q : Int) < (ps.length : Int)) = True := eq_true (by omega)
        have hwq := wI (n := (q : Int) + 1) (by omega) (by omega)
        have hst2 : sumP k n0 (ps.take (q + 1)) = addP k (sumP k n0 (ps.take q)) ps[q] := by rw [List.take_succ_eq_append_getElem hql, sumP_snoc]
        generalize ps[q] = x at *
        by_cases hx : x.1 = k
        · have hb : (x.1 == k) = true := by simp [hx]
          rw [addP, if_pos hx] at hst2
          have hc := Nat.zero_add 0
          repeat' (first | (simp only [hc, SX, l1, e1, l2, e2, hltq, nn, hwq, hb, AB, PL, RG, LP, TY, Nat.reduceEqDiff, Nat.reduceAdd, Nat.reduceSub, Nat.reduceMul, Nat.reduceLT, Nat.reduceLeDiff, Nat.reduceMod, Nat.reduceDiv, reduceCtorEq, Int.reduceEq, Int.reduceNe, Int.reduceLT, Int.reduceLE, Int.reduceNeg, Int.reduceToNat, Int.reduceAdd, Int.reduceSub, Int.reduceMul, ↓reduceIte, forall_const, eq_self, ne_eq, Option.some.injEq, beq_self_eq_true]) | refine fin_ndec (fun hc => ?_) (fun hc => ?_) | refine fin_dec (fun hc => ?_) (fun hc => ?_) | refine cnd_ndec (fun hc => ?_) (fun hc => ?_) | refine cnd_dec' (fun hc => ?_) (fun hc => ?_) | refine fin_nsplit (fun hc => ?_) (fun hc => ?_) | refine fin_split (fun hc => ?_) (fun hc => ?_) | refine cnd_nsplit (fun hc => ?_) (fun hc => ?_) | refine cnd_split (fun hc => ?_) (fun hc => ?_) | refine blk_exit_id ?_)
          exact lp_next (q + 1) (Wk.sub' (by simp [subT, look, hst2]) rfl) (by omega) (by omega)
        · have hb : (x.1 == k) = false := by simp [hx]
          rw [addP, if_neg hx] at hst2
          have hc := Nat.zero_add 0
          repeat' (first | (simp only [hc, SX, l1, e1, l2, e2, hltq, nn, hwq, hb, AB, PL, RG, LP, TY, Nat.reduceEqDiff, Nat.reduceAdd, Nat.reduceSub, Nat.reduceMul, Nat.reduceLT, Nat.reduceLeDiff, Nat.reduceMod, Nat.reduceDiv, reduceCtorEq, Int.reduceEq, Int.reduceNe, Int.reduceLT, Int.reduceLE, Int.reduceNeg, Int.reduceToNat, Int.reduceAdd, Int.reduceSub, Int.reduceMul, ↓reduceIte, forall_const, eq_self, ne_eq, Option.some.injEq, beq_self_eq_true]) | refine fin_ndec (fun hc => ?_) (fun hc => ?_) | refine fin_dec (fun hc => ?_) (fun hc => ?_) | refine cnd_ndec (fun hc => ?_) (fun hc => ?_) | refine cnd_dec' (fun hc => ?_) (fun hc => ?_) | refine fin_nsplit (fun hc => ?_) (fun hc => ?_) | refine fin_split (fun hc => ?_) (fun hc => ?_) | refine cnd_nsplit (fun hc => ?_) (fun hc => ?_) | refine cnd_split (fun hc => ?_) (fun hc => ?_) | refine blk_exit_id ?_)
          exact lp_next (q + 1) (Wk.sub' (by simp [subT, look, hst2]) rfl) (by omega) (by omega)
      · have hltq : ((q : Int) < (ps.length : Int)) = False := eq_false (by omega)
        have et : ps.take q = ps := List.take_of_length_le (by omega)
        simp only [et]
        rw [← hstep]
        have hc := Nat.zero_add 0
        repeat' (first | (simp only [hc, SX, l1, e1, l2, hltq, nn, hw, AB, PL, RG, LP, TY, Nat.reduceEqDiff, Nat.reduceAdd, Nat.reduceSub, Nat.reduceMul, Nat.reduceLT, Nat.reduceLeDiff, Nat.reduceMod, Nat.reduceDiv, reduceCtorEq, Int.reduceEq, Int.reduceNe, Int.reduceLT, Int.reduceLE, Int.reduceNeg, Int.reduceToNat, Int.reduceAdd, Int.reduceSub, Int.reduceMul, ↓reduceIte, forall_const, eq_self, ne_eq, Option.some.injEq, beq_self_eq_true]) | refine fin_ndec (fun hc => ?_) (fun hc => ?_) | refine fin_dec (fun hc => ?_) (fun hc => ?_) | refine cnd_ndec (fun hc => ?_) (fun hc => ?_) | refine cnd_dec' (fun hc => ?_) (fun hc => ?_) | refine fin_nsplit (fun hc => ?_) (fun hc => ?_) | refine fin_split (fun hc => ?_) (fun hc => ?_) | refine cnd_nsplit (fun hc => ?_) (fun hc => ?_) | refine cnd_split (fun hc => ?_) (fun hc => ?_) | refine blk_exit_id ?_)
        exact lp_next (j + 1) (Wk.sub' (by simp [subT, look]) rfl) (by omega) (by omega)
    · have hlt : ((j : Int) < (l.length : Int)) = False := eq_false (by omega)
      rw [List.take_of_length_le (by omega)]
      have hc := Nat.zero_add 0
      repeat' (first | (simp only [hc, SX, l1, hlt, AB, PL, RG, LP, TY, Nat.reduceEqDiff, Nat.reduceAdd, Nat.reduceSub, Nat.reduceMul, Nat.reduceLT, Nat.reduceLeDiff, Nat.reduceMod, Nat.reduceDiv, reduceCtorEq, Int.reduceEq, Int.reduceNe, Int.reduceLT, Int.reduceLE, Int.reduceNeg, Int.reduceToNat, Int.reduceAdd, Int.reduceSub, Int.reduceMul, ↓reduceIte, forall_const, eq_self, ne_eq, Option.some.injEq, beq_self_eq_true]) | refine fin_ndec (fun hc => ?_) (fun hc => ?_) | refine fin_dec (fun hc => ?_) (fun hc => ?_) | refine cnd_ndec (fun hc => ?_) (fun hc => ?_) | refine cnd_dec' (fun hc => ?_) (fun hc => ?_) | refine fin_nsplit (fun hc => ?_) (fun hc => ?_) | refine fin_split (fun hc => ?_) (fun hc => ?_) | refine cnd_nsplit (fun hc => ?_) (fun hc => ?_) | refine cnd_split (fun hc => ?_) (fun hc => ?_) | refine blk_exit_id ?_)
      all_goals simp [DV.i]
  · cases h

theorem rbal_at {f : Bool} {l : List Ent} {k : List UInt8} (h : EntsOk l) : rbal_m [.agg [.sl f (l.map Ent.row)], .c (.str k)] = some [.i (balF l k)] := by
  rw [rbal_m, show ([.agg [.sl f (l.map Ent.row)], .c (.str k)] : List PA) = encLk ((f, l), k) from rfl, mE_eq encLk_inj, if_pos h]
theorem ebal_at {s : St} {k : List UInt8} (h : s.is) (hw : s.Wf) (hk : k.length ≤ 200) : ebal_m [.agg s.cells, .c (.str k)] = some [.i (balF s.ents (ownF k))] := by
  rw [ebal_m, stS_eq h, if_pos ⟨hw, hk⟩]
theorem find_at {f : Bool} {l : List Acc} {name : List UInt8} (h : l.length ≤ 1000) (h2 : ∀ a ∈ l, a.owned.length ≤ 2932031007317) : find_m [.c (.sl f (l.map Acc.row)), .c (.str name)] = (match foundA l name with | some a => some [.agg a.cl.row, .b true] | none => some [.agg zeroAcc.row, .b false]) := by
  rw [find_m, show ([.c (.sl f (l.map Acc.row)), .c (.str name)] : List PA) = encAs ((f, l), name) from rfl, mE_eq encAs_inj, if_pos ⟨h, h2⟩]
theorem rFind_at {f : Bool} {l : List Acc} {name : List UInt8} (h : l.length ≤ 1000) : rFind_m [.c (.sl f (l.map Acc.row)), .c (.str name)] = (match foundA l name with | some a => some [.agg a.row, .b true] | none => some [.agg zeroAcc.row, .b false]) := by
  rw [rFind_m, show ([.c (.sl f (l.map Acc.row)), .c (.str name)] : List PA) = encAs ((f, l), name) from rfl, mE_eq encAs_inj, if_pos h]

end
end Go.Ab
