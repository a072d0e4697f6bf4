/-
  Texts of the layer and of the laws, put together: AbF5, AbF6. No law is stated here.
-/
import Derived.Test.YteeepgnhkfmnaaaDoorAbVol28
import Derived.Test.YteeepgnhkfmnaaaDoorAbVol13
import Derived.Test.YteeepgnhkfmnaaaDoorAbVol17
import Derived.Test.YteeepgnhkfmnaaaDoorAbVol16
import Derived.Test.YteeepgnhkfmnaaaDoorAbVol15
set_option linter.unusedSimpArgs false
set_option linter.unusedVariables false
set_option maxRecDepth 100000

/-
  Events, the reference's reading: what is right.
-/
namespace Go.Ab
open Go.RowKit Go.Proofs

def encE (e : Evt) : List PA := [.agg e.row]
theorem encE_inj (a b : Evt) (h : encE a = encE b) : a = b := by
  simp only [encE, List.cons.injEq, DV.agg.injEq, and_true] at h
  exact Evt.inj _ _ h
def monB (n : Int) : Bool := decide (-mMon ≤ n ∧ n ≤ mMon)

/-- The orders of 'd, p := e.Detect, e.Park' (loads 0..3, variables 4 and 5, stores 6 and 7). -/
def treeDP : Tr := .run [0, 1, 2] (.br3
  3 (.br 4 (.br 5 (.run [6, 7] .fin) 6 (.run [5, 7] .fin)) 5 (.run [4, 6, 7] .fin))
  4 (.br3 3 (.br 5 (.run [6, 7] .fin) 6 (.run [5, 7] .fin)) 5 (.br 3 (.run [6, 7] .fin) 6 (.run [3, 7] .fin)) 6 (.run [3, 5, 7] .fin))
  5 (.br 3 (.run [4, 6, 7] .fin) 4 (.br 3 (.run [6, 7] .fin) 6 (.run [3, 7] .fin))))

noncomputable section
open Classical

def efit_m : List PA → Option (List PA) := m1 fun n => if (true : Bool) = true then some [.b (monB n)] else none
def r6num_m : List PA → Option (List PA) := m1 fun n => if (true : Bool) = true then some [.b (numB n)] else none
def r6sht_m : List PA → Option (List PA) := ms fun s => if (true : Bool) = true then some [.b (shtB s)] else none
def r6only_m : List PA → Option (List PA) := mE encE fun e => some [.agg (onlyE e).row]
def r6right_m : List PA → Option (List PA) := mE encE fun e => some [.b (rightE e)]

theorem efit_ok : PureC Tryd.prog Gt 30 efit_m := by
  refine pure_of_awp (X := ctx Tryd.prog Gt []) Tryd.func30 rfl rfl (by kernel_rfl) (by kernel_rfl) AllOk.nil.kok ?_
  intro args r h0
  obtain ⟨n, rfl, h⟩ := m1_inv h0
  refine ⟨Nat.le_of_ble_eq_true rfl, ?_⟩
  rw [if_pos rfl] at h
  cases h
  have hc := Nat.zero_add 0
  repeat' (first | simp only [hc, Tryd.f30, SX, AB, PL, RG, LP, TY, simprocAttr, ↓reduceIte, forall_const, eq_self, ne_eq, Option.some.injEq, beq_self_eq_true] | ((first | apply fin_ndec | apply fin_dec | apply cnd_ndec | apply cnd_dec' | apply fin_nsplit | apply fin_split | apply cnd_nsplit | apply cnd_split) <;> intro hc) | refine blk_exit_id ?_)
  all_goals (simp [monB, DV.b, mMon]; try omega)
theorem r6num_ok : PureC Tryd.prog Gt 33 r6num_m := by
  refine pure_of_awp (X := ctx Tryd.prog Gt []) Tryd.func33 rfl rfl (by kernel_rfl) (by kernel_rfl) AllOk.nil.kok ?_
  intro args r h0
  obtain ⟨n, rfl, h⟩ := m1_inv h0
  refine ⟨Nat.le_of_ble_eq_true rfl, ?_⟩
  rw [if_pos rfl] at h
  cases h
  have hc := Nat.zero_add 0
  repeat' (first | simp only [hc, Tryd.f33, SX, AB, PL, RG, LP, TY, simprocAttr, ↓reduceIte, forall_const, eq_self, ne_eq, Option.some.injEq, beq_self_eq_true] | ((first | apply fin_ndec | apply fin_dec | apply cnd_ndec | apply cnd_dec' | apply fin_nsplit | apply fin_split | apply cnd_nsplit | apply cnd_split) <;> intro hc) | refine blk_exit_id ?_)
  all_goals (simp [numB, DV.b, mTime]; try omega)
theorem r6sht_ok : PureC Tryd.prog Gt 32 r6sht_m := by
  refine pure_of_awp (X := ctx Tryd.prog Gt []) Tryd.func32 rfl rfl (by kernel_rfl) (by kernel_rfl) AllOk.nil.kok ?_
  intro args r h0
  obtain ⟨s, rfl, h⟩ := ms_inv h0
  refine ⟨Nat.le_of_ble_eq_true rfl, ?_⟩
  rw [if_pos rfl] at h
  cases h
  have hc := Nat.zero_add 0
  repeat' (first | simp only [hc, Tryd.f32, SX, AB, PL, RG, LP, TY, simprocAttr, ↓reduceIte, forall_const, eq_self, ne_eq, Option.some.injEq, beq_self_eq_true] | ((first | apply fin_ndec | apply fin_dec | apply cnd_ndec | apply cnd_dec' | apply fin_nsplit | apply fin_split | apply cnd_nsplit | apply cnd_split) <;> intro hc) | refine blk_exit_id ?_)
  all_goals (simp [shtB, DV.b]; try omega)
theorem efit_at {n : Int} : efit_m [.c (.int .i64 n)] = some [.b (monB n)] := rfl
theorem r6num_at {n : Int} : r6num_m [.c (.int .i64 n)] = some [.b (numB n)] := rfl
theorem r6sht_at {s : List UInt8} : r6sht_m [.c (.str s)] = some [.b (shtB s)] := rfl

theorem r6only_ok : PureC Tryd.prog Gt 31 r6only_m := by
  refine pure_of_awp (X := ctx Tryd.prog Gt []) Tryd.func31 rfl rfl (by kernel_rfl) (by kernel_rfl) AllOk.nil.kok ?_
  intro args r h0
  obtain ⟨e, rfl, h⟩ := mE_inv h0
  refine ⟨Nat.le_of_ble_eq_true rfl, ?_⟩
  cases h
  obtain ⟨k, a, b, c, d, f, g, i, j, l, m, n, o, p, q, r⟩ := e
  have hO : onlyE ⟨k, a, b, c, d, f, g, i, j, l, m, n, o, p, q, r⟩ = onlyE ⟨k, a, b, c, d, f, g, i, j, l, m, n, o, p, q, r⟩ := rfl
  conv at hO => rhs; unfold onlyE
  generalize onlyE ⟨k, a, b, c, d, f, g, i, j, l, m, n, o, p, q, r⟩ = R at *
  dsimp only at hO
  subst hO
  by_cases k1 : k = 1
  · subst k1
    have hc := Nat.zero_add 0
    repeat' (first | simp only [hc, Tryd.f31, encE, Evt.row, SX, if_pos, AB, PL, RG, LP, TY, simprocAttr, ↓reduceIte, forall_const, eq_self, ne_eq, Option.some.injEq, beq_self_eq_true] | ((first | apply fin_ndec | apply fin_dec | apply cnd_ndec | apply cnd_dec' | apply fin_nsplit | apply fin_split | apply cnd_nsplit | apply cnd_split) <;> intro hc) | refine blk_exit_id ?_)
  by_cases k2 : k = 2
  · subst k2
    have hc := Nat.zero_add 0
    repeat' (first | simp only [hc, Tryd.f31, encE, Evt.row, SX, AB, PL, RG, LP, TY, simprocAttr, ↓reduceIte, forall_const, eq_self, ne_eq, Option.some.injEq, beq_self_eq_true] | ((first | apply fin_ndec | apply fin_dec | apply cnd_ndec | apply cnd_dec' | apply fin_nsplit | apply fin_split | apply cnd_nsplit | apply cnd_split) <;> intro hc) | refine blk_exit_id ?_)
    all_goals simp
  by_cases k3 : k = 3
  · subst k3
    have hc := Nat.zero_add 0
    repeat' (first | simp only [hc, Tryd.f31, encE, Evt.row, SX, AB, PL, RG, LP, TY, simprocAttr, ↓reduceIte, forall_const, eq_self, ne_eq, Option.some.injEq, beq_self_eq_true] | ((first | apply fin_ndec | apply fin_dec | apply cnd_ndec | apply cnd_dec' | apply fin_nsplit | apply fin_split | apply cnd_nsplit | apply cnd_split) <;> intro hc) | refine blk_exit_id ?_)
    all_goals simp
  by_cases k4 : k = 4
  · subst k4
    have hc := Nat.zero_add 0
    repeat' (first | simp only [hc, Tryd.f31, encE, Evt.row, SX, AB, PL, RG, LP, TY, simprocAttr, ↓reduceIte, forall_const, eq_self, ne_eq, Option.some.injEq, beq_self_eq_true] | ((first | apply fin_ndec | apply fin_dec | apply cnd_ndec | apply cnd_dec' | apply fin_nsplit | apply fin_split | apply cnd_nsplit | apply cnd_split) <;> intro hc) | refine blk_exit_id ?_)
    all_goals simp
  by_cases k5 : k = 5
  · subst k5
    have hc := Nat.zero_add 0
    repeat' (first | simp only [hc, Tryd.f31, encE, Evt.row, SX, AB, PL, RG, LP, TY, simprocAttr, ↓reduceIte, forall_const, eq_self, ne_eq, Option.some.injEq, beq_self_eq_true] | ((first | apply fin_ndec | apply fin_dec | apply cnd_ndec | apply cnd_dec' | apply fin_nsplit | apply fin_split | apply cnd_nsplit | apply cnd_split) <;> intro hc) | refine blk_exit_id ?_)
    all_goals simp
  have k1' : (k = 1) = False := eq_false k1
  have k2' : (k = 2) = False := eq_false k2
  have k3' : (k = 3) = False := eq_false k3
  have k4' : (k = 4) = False := eq_false k4
  have k5' : (k = 5) = False := eq_false k5
  have hc := Nat.zero_add 0
  repeat' (first | simp only [hc, Tryd.f31, encE, Evt.row, SX, k1', k2', k3', k4', k5', AB, PL, RG, LP, TY, simprocAttr, ↓reduceIte, forall_const, eq_self, ne_eq, Option.some.injEq, beq_self_eq_true] | ((first | apply fin_ndec | apply fin_dec | apply cnd_ndec | apply cnd_dec' | apply fin_nsplit | apply fin_split | apply cnd_nsplit | apply cnd_split) <;> intro hc) | refine blk_exit_id ?_)
  all_goals simp [k1, k2, k3, k4, k5, zEvt]
theorem r6only_at {e : Evt} : r6only_m [.agg e.row] = some [.agg (onlyE e).row] := mE_eq encE_inj (g := fun e => some [DV.agg (onlyE e).row]) (a := e)

theorem eqL_row {a b : Evt} : eqL a.row b.row = decide (a = b) := by
  obtain ⟨a1, a2, a3, a4, a5, a6, a7, a8, a9, a10, a11, a12, a13, a14, a15, a16⟩ := a
  obtain ⟨b1, b2, b3, b4, b5, b6, b7, b8, b9, b10, b11, b12, b13, b14, b15, b16⟩ := b
  simp only [Evt.row, eqL_i, eqL_s, eqL_nil, Bool.and_true]
  rw [Bool.eq_iff_iff]
  simp only [Bool.and_eq_true, beq_iff_eq, decide_eq_true_eq, Evt.mk.injEq]

set_option maxHeartbeats 4000000 in
theorem r6right_ok : PureC Tryd.prog Gt 13 r6right_m := by
  refine pure_of_awpS (X := ctxN Tryd.prog Gt [(31, r6only_m), (32, r6sht_m), (33, r6num_m)] [] [] none (uL []) (uL [3])) Tryd.func13 rfl rfl (by kernel_rfl) (by kernel_rfl) (kok_n (AllOk.cons r6only_ok (AllOk.cons r6sht_ok (AllOk.cons r6num_ok AllOk.nil))) AllK.nil AllN.nil) ?_
  intro args r h0
  obtain ⟨e, rfl, h⟩ := mE_inv h0
  refine ⟨Nat.le_of_ble_eq_true rfl, ?_⟩
  cases h
  have f1 := @r6only_at e
  have hq := @eqL_row e (onlyE e)
  rw [right_iff]
  have hsy : decide (onlyE e = e) = decide (e = onlyE e) := decide_eq_decide.2 ⟨Eq.symm, Eq.symm⟩
  rw [hsy]
  unfold capB
  have hkb : kindB e.kind = (decide (1 ≤ e.kind) && decide (e.kind ≤ 5)) := by unfold kindB; rw [Bool.eq_iff_iff]; simp
  rw [hkb]
  generalize decide (e = onlyE e) = eqb at *
  generalize onlyE e = O at *
  obtain ⟨k, a, b, c, d, f, g, i, j, l, m, n, o, p, q, r⟩ := e
  obtain ⟨k', a', b', c', d', f', g', i', j', l', m', n', o', p', q', r'⟩ := O
  simp only [Evt.row] at f1 hq
  have g1 := @r6sht_at a; have g2 := @r6sht_at d; have g3 := @r6sht_at f; have g4 := @r6sht_at l; have g5 := @r6sht_at m; have g6 := @r6sht_at q
  have g7 := @r6num_at b; have g8 := @r6num_at c; have g9 := @r6num_at g; have g10 := @r6num_at i; have g11 := @r6num_at j; have g12 := @r6num_at n; have g13 := @r6num_at o; have g14 := @r6num_at p
  dsimp only
  generalize shtB a = x1 at *; generalize shtB d = x2 at *; generalize shtB f = x3 at *; generalize shtB l = x4 at *; generalize shtB m = x5 at *; generalize shtB q = x6 at *
  generalize numB b = y1 at *; generalize numB c = y2 at *; generalize numB g = y3 at *; generalize numB i = y4 at *; generalize numB j = y5 at *; generalize numB n = y6 at *; generalize numB o = y7 at *; generalize numB p = y8 at *
  by_cases k1 : k < 1
  · have k1' : (k < 1) = True := eq_true k1
    have hc := Nat.zero_add 0
    repeat' (first | simp only [hc, AS, Tryd.f13, encE, Evt.row, NX, SX, k1', AB, PL, RG, LP, TY, simprocAttr, ↓reduceIte, forall_const, eq_self, ne_eq, Option.some.injEq, beq_self_eq_true] | ((first | apply fin_ndec | apply fin_dec | apply cnd_ndec | apply cnd_dec' | apply fin_nsplit | apply fin_split | apply cnd_nsplit | apply cnd_split) <;> intro hc) | refine seqS_id ?_ | refine blk_exit_id ?_)
    all_goals (have : ¬ 1 ≤ k := by omega); simp [this, DV.b]
  have k1' : (k < 1) = False := eq_false k1
  have k1'' : (1 ≤ k) := by omega
  by_cases k2 : k > 5
  · have k2' : (k > 5) = True := eq_true k2
    have hc := Nat.zero_add 0
    repeat' (first | simp only [hc, AS, Tryd.f13, encE, Evt.row, NX, SX, k1', k2', AB, PL, RG, LP, TY, simprocAttr, ↓reduceIte, forall_const, eq_self, ne_eq, Option.some.injEq, beq_self_eq_true] | ((first | apply fin_ndec | apply fin_dec | apply cnd_ndec | apply cnd_dec' | apply fin_nsplit | apply fin_split | apply cnd_nsplit | apply cnd_split) <;> intro hc) | refine seqS_id ?_ | refine blk_exit_id ?_)
    all_goals (have : ¬ k ≤ 5 := by omega); simp [this, DV.b]
  have k2' : (k > 5) = False := eq_false k2
  have k2'' : k ≤ 5 := by omega
  cases eqb with
  | false =>
    have hc := Nat.zero_add 0
    repeat' (first | simp only [hc, AS, Tryd.f13, encE, Evt.row, NX, SX, NW, k1', k2', f1, hq, AB, PL, RG, LP, TY, simprocAttr, ↓reduceIte, forall_const, eq_self, ne_eq, Option.some.injEq, beq_self_eq_true] | ((first | apply fin_ndec | apply fin_dec | apply cnd_ndec | apply cnd_dec' | apply fin_nsplit | apply fin_split | apply cnd_nsplit | apply cnd_split) <;> intro hc) | refine seqS_id ?_ | refine blk_exit_id ?_)
    all_goals simp [DV.b]
  | true =>
    have hc := Nat.zero_add 0
    repeat' (first | simp only [hc, AS, Tryd.f13, encE, Evt.row, NX, SX, NW, k1', k2', f1, hq, AB, PL, RG, LP, TY, simprocAttr, ↓reduceIte, forall_const, eq_self, ne_eq, Option.some.injEq, beq_self_eq_true] | ((first | apply fin_ndec | apply fin_dec | apply cnd_ndec | apply cnd_dec' | apply fin_nsplit | apply fin_split | apply cnd_nsplit | apply cnd_split) <;> intro hc) | refine seqS_id ?_ | refine blk_exit_id ?_)
    refine awp_fork treeDP ⟨[(4, .v (.c (.ptr 2 0))), (3, .v (.c (.ptr 1 0))), (1, .v (.c (.ptr 0 0)))], [.box ((Evt.row ⟨k, a, b, c, d, f, g, i, j, l, m, n, o, p, q, r⟩).map .d), .box [.d (.str a), .d (.int .i64 b), .d (.int .i64 c), .d (.str d), .d (.str f), .d (.int .i64 g), .d (.int .i64 i)], .box [.d (.int .i64 j), .d (.str l), .d (.str m), .d (.int .i64 n), .d (.int .i64 o)]]⟩
      ⟨[(4, .v (.c (.ptr 1 0))), (3, .v (.c (.ptr 2 0))), (1, .v (.c (.ptr 0 0)))], [.box ((Evt.row ⟨k, a, b, c, d, f, g, i, j, l, m, n, o, p, q, r⟩).map .d), .box [.d (.int .i64 j), .d (.str l), .d (.str m), .d (.int .i64 n), .d (.int .i64 o)], .box [.d (.str a), .d (.int .i64 b), .d (.int .i64 c), .d (.str d), .d (.str f), .d (.int .i64 g), .d (.int .i64 i)]]⟩ rfl (by kernel_rfl) ?_ ?_ ?_
    · skip
      have hc := Nat.zero_add 0
      repeat' (first | simp only [hc, AS, treeDP, TRE, NX, SX, AB, PL, RG, LP, TY, simprocAttr, ↓reduceIte, forall_const, eq_self, ne_eq, Option.some.injEq, beq_self_eq_true] | ((first | apply fin_ndec | apply fin_dec | apply cnd_ndec | apply cnd_dec' | apply fin_nsplit | apply fin_split | apply cnd_nsplit | apply cnd_split) <;> intro hc) | refine seqS_id ?_ | refine blk_exit_id ?_)
      repeat' apply And.intro
      all_goals first
        | exact Or.inl (Wk.sub' (by simp [subT, look]) rfl)
        | exact Or.inr (Wk.sub' (by simp [subT, look]) rfl)
    all_goals
      have hc := Nat.zero_add 0
      repeat' (first | simp only [hc, AS, Evt.row, List.map_cons, List.map_nil, NX, SX, NW, g1, g2, g3, g4, g5, g6, g7, g8, g9, g10, g11, g12, g13, g14, AB, PL, RG, LP, TY, simprocAttr, ↓reduceIte, forall_const, eq_self, ne_eq, Option.some.injEq, beq_self_eq_true] | ((first | apply fin_ndec | apply fin_dec | apply cnd_ndec | apply cnd_dec' | apply fin_nsplit | apply fin_split | apply cnd_nsplit | apply cnd_split) <;> intro hc) | refine seqS_id ?_ | refine blk_exit_id ?_)

    all_goals simp_all [DV.b]

end
end Go.Ab

/-
  event.Right.
-/
namespace Go.Ab
open Go.RowKit Go.Proofs

theorem frow_len (id : Nat) (p : Fld) : (frow id p).length = 2 := by
  unfold frow
  split <;> rfl
theorem putF_next {r z : List D} {F : List Fld} {j : Nat} {p : Fld} (h : F[j]? = some p) : putF r z (F.take (j + 1)) = (putF r z (F.take j)).set p.2 (if p.1 = true then .str (rTx r p.2) else .int .i64 (rNm r p.2)) := by
  obtain ⟨hj, rfl⟩ := List.getElem?_eq_some_iff.1 h
  unfold putF
  rw [List.take_succ_eq_append_getElem hj, List.foldl_append]
  rfl
theorem putF_len {r : List D} : ∀ {F : List Fld} {z : List D}, (putF r z F).length = z.length
  | [], z => rfl
  | p :: F, z => by
    show (putF r (z.set _ _) F).length = _
    rw [putF_len, List.length_set]
theorem stO_set {h : Hp} {id o : Nat} {W : List D} {v : D} (ho : o < W.length) : stO h id o (W.map .d) (some [.d v]) (some 1) = some (h.set id (.box ((W.set o v).map .d))) := by
  rw [stO_ok (xs := [.d v]) (n := 1) (eq_true rfl) (eq_true (by rw [List.length_map]; omega))]
  congr 3
  unfold setAt
  rw [List.map_set, List.set_eq_take_append_cons_drop, if_pos (by rw [List.length_map]; omega)]
  rfl
theorem all_badF {l : List Fld} {q : Fld → Bool} {j : Nat} {p : Fld} (h : l[j]? = some p) (hx : q p = false) : l.all q = false := by
  rw [← Bool.not_eq_true, List.all_eq_true]
  intro h2
  rw [h2 p (List.mem_of_getElem? h)] at hx
  cases hx
theorem row_len (e : Evt) : e.row.length = 16 := rfl

noncomputable section
open Classical

theorem efields_at {id : Nat} {k : Int} {cs : List C1} {h : Hp} (h1 : h[id]? = some (.box (.d (.int .i64 k) :: cs))) (h2 : cs.length = 15) (h3 : LowH h) (h4 : NoB h) (hk : kindB k = true) :
    efields_k [.v (.c (.ptr id 0))] h = some (.ret (.tup [.c (.d (.str (wrdK k))), .c (.msl h.length (fldK k).length)]) (h ++ [.tok (fldK k).length 2 (some (frows id (fldK k)))])) := by
  have e : efields_k [.v (.c (.ptr id 0))] h = fldsK [.v (.c (.ptr id 0))] h := rfl
  rw [e]
  simp only [fldsK, h1]
  rw [if_pos ⟨h2, h3, h4⟩, if_pos hk]
theorem efields_no {id : Nat} {k : Int} {cs : List C1} {h : Hp} (h1 : h[id]? = some (.box (.d (.int .i64 k) :: cs))) (h2 : cs.length = 15) (h3 : LowH h) (h4 : NoB h) (hk : ¬ kindB k = true) :
    efields_k [.v (.c (.ptr id 0))] h = some (.ret (.tup [.c (.d (.str [])), .c (.d (.sl true []))]) h) := by
  have e : efields_k [.v (.c (.ptr id 0))] h = fldsK [.v (.c (.ptr id 0))] h := rfl
  rw [e]
  simp only [fldsK, h1]
  rw [if_pos ⟨h2, h3, h4⟩, if_neg hk]
theorem frows_low {id m : Nat} (h : id < m) {F : List Fld} : ((frows id F).all (C1.low m)) = true := by
  rw [List.all_eq_true]
  intro c hc
  obtain ⟨p, _, hp⟩ := List.mem_flatMap.1 hc
  unfold frow at hp
  split at hp <;> (simp at hp; rcases hp with rfl | rfl <;> simp [C1.low, h])

def eright_m : List PA → Option (List PA) := mE encE fun e => some [.b (rightE e)]

set_option maxHeartbeats 1000000 in
theorem eright_ok : PureC Tryd.prog Gt 12 eright_m := by
  refine pure_of_awpSW (X := ctxN Tryd.prog Gt [(30, efit_m)] [(25, efields_k)] [] none (uL [63])) Tryd.func12 rfl rfl (by kernel_rfl) (by kernel_rfl) (kok_n (AllOk.cons efit_ok AllOk.nil) (AllK.cons efields_kok AllK.nil) AllN.nil) ?_
  intro args r h0
  obtain ⟨e, rfl, h⟩ := mE_inv h0
  refine ⟨Nat.le_of_ble_eq_true rfl, ?_⟩
  simp only [Option.some.injEq] at h
  have hR : e.row = .int .i64 e.kind :: (e.row).tail := rfl
  have hz : (zEvt e.kind).row.map C1.d = .d (.int .i64 e.kind) :: ((zEvt e.kind).row.tail).map C1.d := rfl
  have hRd : ((e.row).all fun _ => true) = true := by simp
  have lowD : ∀ (l : List D) (m : Nat), ((l.map C1.d).all (C1.low m)) = true := fun l m => all_low_d m l
  have hl2 : LowH [.box (e.row.map .d), .box ((zEvt e.kind).row.map .d)] := by
    unfold LowH
    simp only [List.all_cons, List.all_nil, Ob.low, lowD, Bool.and_true]
  by_cases hk : kindB e.kind = true
  · have f1 := efields_at (id := 1) (k := e.kind) (cs := ((zEvt e.kind).row.tail).map .d) (h := [.box (e.row.map .d), .box ((zEvt e.kind).row.map .d)]) rfl rfl hl2 rfl hk
    have f2 := efields_at (id := 0) (k := e.kind) (cs := (e.row.tail).map .d) (h := [.box (e.row.map .d), .box ((zEvt e.kind).row.map .d), .tok (fldK e.kind).length 2 (some (frows 1 (fldK e.kind)))]) rfl rfl
      (by unfold LowH; simp only [List.all_cons, List.all_nil, Ob.low, lowD, Bool.and_true, List.length_cons, List.length_nil]; exact frows_low (by decide)) rfl hk
    have hty := typed_row e e.kind
    have hflt := fld_lt e.kind
    have hfl := fld_len e.kind
    have hw0 : (wrdK e.kind == []) = false := by rcases kind_cases hk with h | h | h | h | h <;> rw [h] <;> rfl
    have hR0 : (e.row.map C1.d)[0]? = some (.d (.int .i64 e.kind)) := rfl
    have hRl := row_len e
    have hfit : ∀ p, fitF e.kind e.row p = fitF e.kind e.row p := fun _ => rfl
    have hzl : (zEvt e.kind).row.length = 16 := rfl
    have hpl := fun j => @putF_len e.row ((fldK e.kind).take j) (zEvt e.kind).row
    have hr : rightE e = ((fldK e.kind).all (fitF e.kind e.row) && decide (onlyE e = e)) := by unfold rightE; rw [hk, Bool.true_and]
    have ho : putF e.row (zEvt e.kind).row (fldK e.kind) = (onlyE e).row := only_row hk
    have heq := @eqL_row (onlyE e) e
    generalize hF : fldK e.kind = F at *
    simp only [zEvt, Evt.row, List.map_cons, List.map_nil, List.length_cons, List.length_nil, List.cons_append, List.nil_append, Nat.reduceAdd, Nat.zero_add] at f1 f2
    have hERow : e.row = evRow e.kind e.dev e.seq e.time e.tag e.plt e.axl e.score e.pk e.pz e.pp e.pt e.pu e.day e.name e.cents := rfl
    have hc := Nat.zero_add 0
    repeat' (first | simp only [hc, AS, Tryd.f12, encE, Evt.row, List.map_cons, List.map_nil, NX, NPV, SX, NW, f1, f2, hw0, AB, PL, RG, LP, TY, simprocAttr, ↓reduceIte, forall_const, eq_self, ne_eq, Option.some.injEq, beq_self_eq_true] | ((first | apply fin_ndec | apply fin_dec | apply cnd_ndec | apply cnd_dec' | apply fin_nsplit | apply fin_split | apply cnd_nsplit | apply cnd_split) <;> intro hc) | refine seqS_id ?_ | refine blk_exit_id ?_)
    have hrd : ∀ p ∈ F, (e.row.map C1.d)[p.2]? = some (.d (if p.1 = true then .str (rTx e.row p.2) else .int .i64 (rNm e.row p.2))) := fun p hp => by rw [List.getElem?_map, hty p hp]; rfl
    have hini : (zEvt e.kind).row.map C1.d = (putF e.row (zEvt e.kind).row (F.take 0)).map C1.d := rfl
    have hkd : fitF e.kind e.row = fitF e.kind e.row := rfl
    refine awpS_loop (σ := Nat) (fun j => j ≤ F.length ∧ (F.take j).all (fitF e.kind e.row) = true) (fun j => ⟨[(26, AV.i j), (25, AV.i F.length), (24, .v (.c (.msl 3 F.length))), (5, .v (.c (.msl 2 F.length))), (3, .v (.c (.ptr 1 0))), (1, .v (.c (.ptr 0 0)))], [.box (e.row.map .d), .box ((putF e.row (zEvt e.kind).row (F.take j)).map .d), .tok F.length 2 (some (frows 1 F)), .tok F.length 2 (some (frows 0 F))]⟩) (fun j => F.length - j) 0 (Wk.sub' (by simp [subT, look]) rfl) ⟨Nat.zero_le _, rfl⟩ ?_
    rintro j ⟨hj, hall⟩
    by_cases hjl : j < F.length
    · have hlt : ((j : Int) < (F.length : Int)) = True := eq_true (by omega)
      have hw := wI (n := (j : Int) + 1) (by omega) (by omega)
      have hp : F[j]? = some F[j] := List.getElem?_eq_getElem hjl
      have hpm := List.getElem_mem hjl
      have hnx := putF_next (r := e.row) (z := (zEvt e.kind).row) hp
      have htk : F.take (j + 1) = F.take j ++ [F[j]] := List.take_succ_eq_append_getElem hjl
      generalize F[j] = p at *
      have hcell := hrd p hpm
      have d30 : ((frows 0 F).drop (j * 2)).take 2 = frow 0 p := fm_at (frow_len 0) hp
      have hle : (j * 2 + 2 ≤ (frows 0 F).length) = True := eq_true (fm_le (frow_len 0) hp)
      have hWl : (putF e.row (zEvt e.kind).row (F.take j)).length = 16 := (hpl j).trans hzl
      have hpo := (hflt p hpm).1
      have c0 : (frows 1 F)[j * 2]? = (frow 1 p)[0]? := fm_cell (frow_len 1) (j := 0) hp (by decide)
      have c1 : (frows 1 F)[j * 2 + 1]? = (frow 1 p)[1]? := fm_cell (frow_len 1) (j := 1) hp (by decide)
      have hbad : fitF e.kind e.row p = false → F.all (fitF e.kind e.row) = false := fun h => all_badF hp h
      have hgood : fitF e.kind e.row p = true → (F.take (j + 1)).all (fitF e.kind e.row) = true := fun h => by rw [htk, List.all_append, hall]; simp [h]
      have hst := fun (h : Hp) (v : D) => stO_set (h := h) (id := 1) (v := v) (by omega : p.2 < (putF e.row (zEvt e.kind).row (F.take j)).length)
      have hfd : fitF e.kind e.row p = fitF e.kind e.row p := rfl
      conv at hfd => rhs; unfold fitF
      generalize F.all (fitF e.kind e.row) = FA at *
      generalize fitF e.kind e.row p = ft at *
      generalize putF e.row (zEvt e.kind).row (F.take j) = W at *
      generalize hrx : rTx e.row p.2 = s at *
      generalize hrn : rNm e.row p.2 = n at *
      obtain ⟨t, o⟩ := p
      dsimp only at *
      cases t with
      | true =>
        simp only [frow, if_pos, List.getElem?_cons_zero, List.getElem?_cons_succ] at d30 c0 c1
        rw [if_pos rfl] at hcell hfd hnx
        by_cases h32 : s.length ≤ 32
        · have h1 : ((s.length : Int) > 32) = False := eq_false (by omega)
          rw [decide_eq_true h32] at hfd
          have hc := Nat.zero_add 0
          repeat' (first | simp only [hc, AS, NX, NPV, SX, NW, hlt, nn, hw, d30, hle, c0, c1, hcell, h1, hst, Int.toNat_natCast, AB, PL, RG, LP, TY, simprocAttr, ↓reduceIte, forall_const, eq_self, ne_eq, Option.some.injEq, beq_self_eq_true] | ((first | apply fin_ndec | apply fin_dec | apply cnd_ndec | apply cnd_dec' | apply fin_nsplit | apply fin_split | apply cnd_nsplit | apply cnd_split) <;> intro hc) | refine seqS_id ?_ | refine blk_exit_id ?_)
          refine lp_next (j + 1) ?_ ⟨by omega, hgood hfd⟩ (by omega)
          rw [hnx]
          exact Wk.cutk (k := 4) (by decide) (by simp) (by simp) (by simp [subT, look]) (by simp [AV.low, V.low, C1.low]) (by simp only [List.all_cons, List.all_nil, Ob.low, lowD, frows_low (F := F) (show (1 : Nat) < 4 by decide), frows_low (F := F) (show (0 : Nat) < 4 by decide), Bool.and_true])
        · have h1 : ((s.length : Int) > 32) = True := eq_true (by omega)
          rw [decide_eq_false h32] at hfd
          have hc := Nat.zero_add 0
          repeat' (first | simp only [hc, AS, NX, NPV, SX, NW, hlt, nn, hw, d30, hle, c0, c1, hcell, h1, hst, Int.toNat_natCast, AB, PL, RG, LP, TY, simprocAttr, ↓reduceIte, forall_const, eq_self, ne_eq, Option.some.injEq, beq_self_eq_true] | ((first | apply fin_ndec | apply fin_dec | apply cnd_ndec | apply cnd_dec' | apply fin_nsplit | apply fin_split | apply cnd_nsplit | apply cnd_split) <;> intro hc) | refine seqS_id ?_ | refine blk_exit_id ?_)
          exact ⟨_, Wk.refl, by rw [← h, hr, hbad hfd]; rfl⟩
      | false =>
        simp only [frow, Bool.false_eq_true, if_false, List.getElem?_cons_zero, List.getElem?_cons_succ] at d30 c0 c1 hcell hfd hnx
        have hgo : ft = true → ∀ X : Prop, X → X := fun _ _ h => h
        by_cases hn : -68719476736 ≤ n ∧ n ≤ 68719476736
        · have h1 : (n < -68719476736) = False := eq_false (by omega)
          have h2 : (n > 68719476736) = False := eq_false (by omega)
          rw [decide_eq_true hn, Bool.true_or] at hfd
          have hc := Nat.zero_add 0
          repeat' (first | simp only [hc, AS, NX, NPV, SX, NW, hlt, nn, hw, d30, hle, c0, c1, hcell, h1, h2, hst, Int.toNat_natCast, AB, PL, RG, LP, TY, simprocAttr, ↓reduceIte, forall_const, eq_self, ne_eq, Option.some.injEq, beq_self_eq_true] | ((first | apply fin_ndec | apply fin_dec | apply cnd_ndec | apply cnd_dec' | apply fin_nsplit | apply fin_split | apply cnd_nsplit | apply cnd_split) <;> intro hc) | refine seqS_id ?_ | refine blk_exit_id ?_)
          refine lp_next (j + 1) ?_ ⟨by omega, hgood hfd⟩ (by omega)
          rw [hnx]
          exact Wk.cutk (k := 4) (by decide) (by simp) (by simp) (by simp [subT, look]) (by simp [AV.low, V.low, C1.low]) (by simp only [List.all_cons, List.all_nil, Ob.low, lowD, frows_low (F := F) (show (1 : Nat) < 4 by decide), frows_low (F := F) (show (0 : Nat) < 4 by decide), Bool.and_true])
        · rw [decide_eq_false hn, Bool.false_or] at hfd
          have g1 := @efit_at n
          by_cases h4 : e.kind = 4
          · have h4' : (e.kind = 4) = True := eq_true h4
            rw [decide_eq_true h4, Bool.true_and] at hfd
            rw [show monB n = ft from hfd.symm] at g1
            cases ft with
            | true =>
              by_cases h1 : n < -68719476736
              · have h1' : (n < -68719476736) = True := eq_true h1
                have hc := Nat.zero_add 0
                repeat' (first | simp only [hc, AS, NX, NPV, SX, NW, hlt, nn, hw, d30, hle, c0, c1, hcell, h1', hst, Int.toNat_natCast, hR0, h4', g1, AB, PL, RG, LP, TY, simprocAttr, ↓reduceIte, forall_const, eq_self, ne_eq, Option.some.injEq, beq_self_eq_true] | ((first | apply fin_ndec | apply fin_dec | apply cnd_ndec | apply cnd_dec' | apply fin_nsplit | apply fin_split | apply cnd_nsplit | apply cnd_split) <;> intro hc) | refine seqS_id ?_ | refine blk_exit_id ?_)
                refine lp_next (j + 1) ?_ ⟨by omega, hgood rfl⟩ (by omega)
                rw [hnx]
                exact Wk.cutk (k := 4) (by decide) (by simp) (by simp) (by simp [subT, look]) (by simp [AV.low, V.low, C1.low]) (by simp only [List.all_cons, List.all_nil, Ob.low, lowD, frows_low (F := F) (show (1 : Nat) < 4 by decide), frows_low (F := F) (show (0 : Nat) < 4 by decide), Bool.and_true])
              · have h1' : (n < -68719476736) = False := eq_false h1
                have h2' : (n > 68719476736) = True := eq_true (by omega)
                have hc := Nat.zero_add 0
                repeat' (first | simp only [hc, AS, NX, NPV, SX, NW, hlt, nn, hw, d30, hle, c0, c1, hcell, h1', h2', hst, Int.toNat_natCast, hR0, h4', g1, AB, PL, RG, LP, TY, simprocAttr, ↓reduceIte, forall_const, eq_self, ne_eq, Option.some.injEq, beq_self_eq_true] | ((first | apply fin_ndec | apply fin_dec | apply cnd_ndec | apply cnd_dec' | apply fin_nsplit | apply fin_split | apply cnd_nsplit | apply cnd_split) <;> intro hc) | refine seqS_id ?_ | refine blk_exit_id ?_)
                refine lp_next (j + 1) ?_ ⟨by omega, hgood rfl⟩ (by omega)
                rw [hnx]
                exact Wk.cutk (k := 4) (by decide) (by simp) (by simp) (by simp [subT, look]) (by simp [AV.low, V.low, C1.low]) (by simp only [List.all_cons, List.all_nil, Ob.low, lowD, frows_low (F := F) (show (1 : Nat) < 4 by decide), frows_low (F := F) (show (0 : Nat) < 4 by decide), Bool.and_true])
            | false =>
              by_cases h1 : n < -68719476736
              · have h1' : (n < -68719476736) = True := eq_true h1
                have hc := Nat.zero_add 0
                repeat' (first | simp only [hc, AS, NX, NPV, SX, NW, hlt, nn, hw, d30, hle, c0, c1, hcell, h1', hst, Int.toNat_natCast, hR0, h4', g1, AB, PL, RG, LP, TY, simprocAttr, ↓reduceIte, forall_const, eq_self, ne_eq, Option.some.injEq, beq_self_eq_true] | ((first | apply fin_ndec | apply fin_dec | apply cnd_ndec | apply cnd_dec' | apply fin_nsplit | apply fin_split | apply cnd_nsplit | apply cnd_split) <;> intro hc) | refine seqS_id ?_ | refine blk_exit_id ?_)
                exact ⟨_, Wk.refl, by rw [← h, hr, hbad rfl]; rfl⟩
              · have h1' : (n < -68719476736) = False := eq_false h1
                have h2' : (n > 68719476736) = True := eq_true (by omega)
                have hc := Nat.zero_add 0
                repeat' (first | simp only [hc, AS, NX, NPV, SX, NW, hlt, nn, hw, d30, hle, c0, c1, hcell, h1', h2', hst, Int.toNat_natCast, hR0, h4', g1, AB, PL, RG, LP, TY, simprocAttr, ↓reduceIte, forall_const, eq_self, ne_eq, Option.some.injEq, beq_self_eq_true] | ((first | apply fin_ndec | apply fin_dec | apply cnd_ndec | apply cnd_dec' | apply fin_nsplit | apply fin_split | apply cnd_nsplit | apply cnd_split) <;> intro hc) | refine seqS_id ?_ | refine blk_exit_id ?_)
                exact ⟨_, Wk.refl, by rw [← h, hr, hbad rfl]; rfl⟩
          · have h4' : (e.kind = 4) = False := eq_false h4
            rw [decide_eq_false h4, Bool.false_and] at hfd
            by_cases h1 : n < -68719476736
            · have h1' : (n < -68719476736) = True := eq_true h1
              have hc := Nat.zero_add 0
              repeat' (first | simp only [hc, AS, NX, NPV, SX, NW, hlt, nn, hw, d30, hle, c0, c1, hcell, h1', hst, Int.toNat_natCast, hR0, h4', AB, PL, RG, LP, TY, simprocAttr, ↓reduceIte, forall_const, eq_self, ne_eq, Option.some.injEq, beq_self_eq_true] | ((first | apply fin_ndec | apply fin_dec | apply cnd_ndec | apply cnd_dec' | apply fin_nsplit | apply fin_split | apply cnd_nsplit | apply cnd_split) <;> intro hc) | refine seqS_id ?_ | refine blk_exit_id ?_)
              exact ⟨_, Wk.refl, by rw [← h, hr, hbad hfd]; rfl⟩
            · have h1' : (n < -68719476736) = False := eq_false h1
              have h2' : (n > 68719476736) = True := eq_true (by omega)
              have hc := Nat.zero_add 0
              repeat' (first | simp only [hc, AS, NX, NPV, SX, NW, hlt, nn, hw, d30, hle, c0, c1, hcell, h1', h2', hst, Int.toNat_natCast, hR0, h4', AB, PL, RG, LP, TY, simprocAttr, ↓reduceIte, forall_const, eq_self, ne_eq, Option.some.injEq, beq_self_eq_true] | ((first | apply fin_ndec | apply fin_dec | apply cnd_ndec | apply cnd_dec' | apply fin_nsplit | apply fin_split | apply cnd_nsplit | apply cnd_split) <;> intro hc) | refine seqS_id ?_ | refine blk_exit_id ?_)
              exact ⟨_, Wk.refl, by rw [← h, hr, hbad hfd]; rfl⟩
    · have hlt : ((j : Int) < (F.length : Int)) = False := eq_false (by omega)
      rw [List.take_of_length_le (by omega)] at hall ⊢
      rw [ho]
      rw [hall, Bool.true_and, ← heq] at hr
      generalize onlyE e = O at *
      obtain ⟨k', a', b', c', d', f', g', i', j', l', m', n', o', p', q', r'⟩ := O
      rw [hERow] at heq hr ⊢
      simp only [Evt.row, evRow] at heq hr ⊢
      have hc := Nat.zero_add 0
      repeat' (first | simp only [hc, AS, Evt.row, evRow, List.map_cons, List.map_nil, NX, NPV, SX, NW, hlt, AB, PL, RG, LP, TY, simprocAttr, ↓reduceIte, forall_const, eq_self, ne_eq, Option.some.injEq, beq_self_eq_true] | ((first | apply fin_ndec | apply fin_dec | apply cnd_ndec | apply cnd_dec' | apply fin_nsplit | apply fin_split | apply cnd_nsplit | apply cnd_split) <;> intro hc) | refine seqS_id ?_ | refine blk_exit_id ?_)
      exact ⟨_, Wk.refl, by rw [← h, hr]; rfl⟩
  · have f1 := efields_no (id := 1) (k := e.kind) (cs := ((zEvt e.kind).row.tail).map .d) (h := [.box (e.row.map .d), .box ((zEvt e.kind).row.map .d)]) rfl rfl hl2 rfl hk
    have f2 := efields_no (id := 0) (k := e.kind) (cs := (e.row.tail).map .d) (h := [.box (e.row.map .d), .box ((zEvt e.kind).row.map .d)]) rfl rfl hl2 rfl hk
    have hr : rightE e = false := by unfold rightE; rw [Bool.eq_false_iff.2 hk]; rfl
    simp only [zEvt, Evt.row, List.map_cons, List.map_nil] at f1 f2
    have hc := Nat.zero_add 0
    repeat' (first | simp only [hc, AS, Tryd.f12, encE, Evt.row, List.map_cons, List.map_nil, NX, NPV, SX, NW, f1, f2, AB, PL, RG, LP, TY, simprocAttr, ↓reduceIte, forall_const, eq_self, ne_eq, Option.some.injEq, beq_self_eq_true] | ((first | apply fin_ndec | apply fin_dec | apply cnd_ndec | apply cnd_dec' | apply fin_nsplit | apply fin_split | apply cnd_nsplit | apply cnd_split) <;> intro hc) | refine seqS_id ?_ | refine blk_exit_id ?_)
    exact ⟨_, Wk.refl, by rw [← h, hr]; rfl⟩

end
end Go.Ab
