/-
  Texts of the layer and of the laws, put together: AbQ4, AbQ5. No law is stated here.
-/
import Derived.Test.YtfokeholingnjaaDoorAbV29
import Derived.Test.YtfokeholingnjaaDoorAbV12
set_option linter.unusedSimpArgs false
set_option linter.unusedVariables false
set_option maxRecDepth 100000

/-
  What the functions of reports compute: charges, days.
-/
namespace Go.Ab
open Go.RowKit Go.Proofs

noncomputable section

/-- A state: its cells, and what the reports read of them. -/
structure St where
  cells : List D
  af : Bool
  accs : List Acc
  hf : Bool
  hol : List Int
  law : Lw
  closed : Int
  psf : Bool
  ps : List (List D)
  rsf : Bool
  rs : List (List D)
  tsf : Bool
  ts : List (List D)
  ssf : Bool
  ss : List (List D)
  cf : Bool
  chs : List Chg
  xsf : Bool
  xs : List (List D)
  ef : Bool
  ents : List Ent
  dsf : Bool
  ds : List (List D)
  kf : Bool
  cases : List Cas
  count : Int

structure St.is (s : St) : Prop where
  len : s.cells.length = 39
  c17 : s.cells[17]? = some (.sl s.af (s.accs.map Acc.row))
  c19 : s.cells[19]? = some (.sl s.hf (s.hol.map rowN))
  c20 : s.cells[20]? = some (.sl s.law.df (s.law.days.map rowN))
  c21 : s.cells[21]? = some (.sl s.law.ff (s.law.fees.map rowN))
  c22 : s.cells[22]? = some (.int .i64 s.law.limit)
  c28 : s.cells[28]? = some (.int .i64 s.closed)
  c29 : s.cells[29]? = some (.sl s.psf s.ps)
  c30 : s.cells[30]? = some (.sl s.rsf s.rs)
  c31 : s.cells[31]? = some (.sl s.tsf s.ts)
  c32 : s.cells[32]? = some (.sl s.ssf s.ss)
  c33 : s.cells[33]? = some (.sl s.cf (s.chs.map Chg.row))
  c34 : s.cells[34]? = some (.sl s.xsf s.xs)
  c35 : s.cells[35]? = some (.sl s.ef (s.ents.map Ent.row))
  c36 : s.cells[36]? = some (.sl s.dsf s.ds)
  c37 : s.cells[37]? = some (.sl s.kf (s.cases.map Cas.row))
  c38 : s.cells[38]? = some (.int .i64 s.count)

theorem rowN_inj (a b : Int) (h : rowN a = rowN b) : a = b := by simpa [rowN] using h
theorem mapN_inj {l k : List Int} : l.map rowN = k.map rowN ↔ l = k := ⟨map_inj rowN_inj, fun h => by rw [h]⟩

theorem St.uniq {a b : St} (ha : a.is) (hb : b.is) (h : a.cells = b.cells) : a = b := by
  obtain ⟨-, a17, a19, a20, a21, a22, a28, a29, a30, a31, a32, a33, a34, a35, a36, a37, a38⟩ := ha
  obtain ⟨-, b17, b19, b20, b21, b22, b28, b29, b30, b31, b32, b33, b34, b35, b36, b37, b38⟩ := hb
  have key : ∀ {k : Nat} {x y : D}, a.cells[k]? = some x → b.cells[k]? = some y → x = y := fun {k x y} h1 h2 => by
    rw [h] at h1; rw [h1] at h2; exact Option.some.inj h2
  have e17 := key a17 b17
  have e19 := key a19 b19
  have e20 := key a20 b20
  have e21 := key a21 b21
  have e22 := key a22 b22
  have e28 := key a28 b28
  have e29 := key a29 b29
  have e30 := key a30 b30
  have e31 := key a31 b31
  have e32 := key a32 b32
  have e33 := key a33 b33
  have e34 := key a34 b34
  have e35 := key a35 b35
  have e36 := key a36 b36
  have e37 := key a37 b37
  have e38 := key a38 b38
  clear key a17 a19 a20 a21 a22 a28 a29 a30 a31 a32 a33 a34 a35 a36 a37 a38 b17 b19 b20 b21 b22 b28 b29 b30 b31 b32 b33 b34 b35 b36 b37 b38
  simp only [D.sl.injEq, D.int.injEq, mapA_inj, mapC_inj, mapE_inj, mapK_inj, mapN_inj, true_and] at e17 e19 e20 e21 e22 e28 e29 e30 e31 e32 e33 e34 e35 e36 e37 e38
  obtain ⟨ac, a1, a2, a3, a4, ⟨l1, l2, l3, l4, l5⟩, a5, a6, a7, a8, a9, a10, a11, a12, a13, a14, a15, a16, a17, a18, a19, a20, a21, a22, a23, a24⟩ := a
  obtain ⟨bc, b1, b2, b3, b4, ⟨m1, m2, m3, m4, m5⟩, b5, b6, b7, b8, b9, b10, b11, b12, b13, b14, b15, b16, b17, b18, b19, b20, b21, b22, b23, b24⟩ := b
  simp only at h e17 e19 e20 e21 e22 e28 e29 e30 e31 e32 e33 e34 e35 e36 e37 e38
  simp [h, e17, e19, e20, e21, e22, e28, e29, e30, e31, e32, e33, e34, e35, e36, e37, e38]

def stA (s : St) (args : List PA) : Prop := s.is ∧ args = [.agg s.cells]
def stI (p : St × Int) (args : List PA) : Prop := p.1.is ∧ args = [.agg p.1.cells, .c (.int .i64 p.2)]
def stS (p : St × List UInt8) (args : List PA) : Prop := p.1.is ∧ args = [.agg p.1.cells, .c (.str p.2)]
theorem stA_eq {g : St → Option (List PA)} {s : St} (h : s.is) : mR stA g [.agg s.cells] = g s :=
  mR_eq (R := stA) (a := s) (fun b hb => by
    obtain ⟨h1, h2⟩ := hb
    simp only [List.cons.injEq, DV.agg.injEq, and_true] at h2
    rw [St.uniq h h1 h2]) ⟨h, rfl⟩
theorem stI_eq {g : St × Int → Option (List PA)} {s : St} {d : Int} (h : s.is) : mR stI g [.agg s.cells, .c (.int .i64 d)] = g (s, d) :=
  mR_eq (R := stI) (a := (s, d)) (fun b hb => by
    obtain ⟨h1, h2⟩ := hb
    simp only [List.cons.injEq, DV.agg.injEq, DV.c.injEq, D.int.injEq, true_and, and_true] at h2
    obtain ⟨b1, b2⟩ := b
    simp only at h1 h2
    rw [St.uniq h h1 h2.1, h2.2]) ⟨h, rfl⟩
theorem stS_eq {g : St × List UInt8 → Option (List PA)} {s : St} {n : List UInt8} (h : s.is) : mR stS g [.agg s.cells, .c (.str n)] = g (s, n) :=
  mR_eq (R := stS) (a := (s, n)) (fun b hb => by
    obtain ⟨h1, h2⟩ := hb
    simp only [List.cons.injEq, DV.agg.injEq, DV.c.injEq, D.str.injEq, and_true] at h2
    obtain ⟨b1, b2⟩ := b
    simp only at h1 h2
    rw [St.uniq h h1 h2.1, h2.2]) ⟨h, rfl⟩

def encC (x : Chg) : List PA := [.agg x.row]
theorem encC_inj (a b : Chg) (h : encC a = encC b) : a = b := Chg.inj a b (by simpa [encC] using h)
def encCs (p : Bool × List Chg) : List PA := [.c (.sl p.1 (p.2.map Chg.row))]
theorem encCs_inj (a b : Bool × List Chg) (h : encCs a = encCs b) : a = b := by
  obtain ⟨a1, a2⟩ := a
  obtain ⟨b1, b2⟩ := b
  simpa [encCs, mapC_inj] using h

def fits_m : List PA → Option (List PA) := m1 fun n => some [.b (fitsB n)]
def one_m : List PA → Option (List PA) := mE encC fun x => if decide (x.lines.length ≤ 9223372036854775807) = true then some [.b x.one] else none
def tsum_m : List PA → Option (List PA) := mE encCs fun p => if decide (p.2.length ≤ 1000000000000) = true then some [.i (sumC p.2)] else none
def charge_m : List PA → Option (List PA) := mE encC fun x => if x.one && x.rng then some [.s (chargeF x)] else none
def rcharge_m : List PA → Option (List PA) := mE encC fun x => if x.one && x.rng then some [.s (chargeF x)] else none

theorem fits_ok : PureC Tryd.prog Gt 24 fits_m := by
  refine pure_of_awp (X := ctx Tryd.prog Gt []) Tryd.func24 rfl rfl (by kernel_rfl) (by kernel_rfl) AllOk.nil.kok ?_
  intro args r h0
  obtain ⟨n, rfl, h⟩ := m1_inv h0
  refine ⟨Nat.le_of_ble_eq_true rfl, ?_⟩
  cases h
  have hc := Nat.zero_add 0
  repeat' (first | (simp only [hc, Tryd.f24, AB, PL, RG, LP, TY, Nat.reduceEqDiff, Nat.reduceAdd, Nat.reduceSub, Nat.reduceMul, Nat.reduceLT, Nat.reduceLeDiff, Nat.reduceMod, Nat.reduceDiv, reduceCtorEq, Int.reduceEq, Int.reduceNe, Int.reduceLT, Int.reduceLE, Int.reduceNeg, Int.reduceToNat, Int.reduceAdd, Int.reduceSub, Int.reduceMul, ↓reduceIte, forall_const, eq_self, ne_eq, Option.some.injEq, beq_self_eq_true]) | refine fin_ndec (fun hc => ?_) (fun hc => ?_) | refine fin_dec (fun hc => ?_) (fun hc => ?_) | refine cnd_ndec (fun hc => ?_) (fun hc => ?_) | refine cnd_dec' (fun hc => ?_) (fun hc => ?_) | refine fin_nsplit (fun hc => ?_) (fun hc => ?_) | refine fin_split (fun hc => ?_) (fun hc => ?_) | refine cnd_nsplit (fun hc => ?_) (fun hc => ?_) | refine cnd_split (fun hc => ?_) (fun hc => ?_) | refine blk_exit_id ?_)
  all_goals (simp_all [fitsB, DV.b]; try omega)

theorem takeC {α β : Type} {l : List α} {j : Nat} (h : j < l.length) (f : α → List β) : (l.take (j + 1)).flatMap f = (l.take j).flatMap f ++ f l[j] := by
  rw [List.take_succ_eq_append_getElem h, List.flatMap_append]; simp
theorem sum_snoc (l : List Chg) (x : Chg) : sumC (l ++ [x]) = W (sumC l + x.cents) := by simp [sumC, List.foldl_append]

theorem tsum_ok : PureC Tryd.prog Gt 35 tsum_m := by
  refine pure_of_awp (X := ctx Tryd.prog Gt []) Tryd.func35 rfl rfl (by kernel_rfl) (by kernel_rfl) AllOk.nil.kok ?_
  intro args r h0
  obtain ⟨⟨f, l⟩, rfl, h⟩ := mE_inv h0
  refine ⟨Nat.le_of_ble_eq_true rfl, ?_⟩
  split at h
  · rename_i hl
    have hl := of_decide_eq_true hl
    dsimp only at hl h ⊢
    cases h
    have l1 : ((l.map Chg.row).length : Int) = l.length := by simp
    have hc := Nat.zero_add 0
    repeat' (first | (simp only [hc, Tryd.f35, encCs, SX, l1, AB, PL, RG, LP, TY, Nat.reduceEqDiff, Nat.reduceAdd, Nat.reduceSub, Nat.reduceMul, Nat.reduceLT, Nat.reduceLeDiff, Nat.reduceMod, Nat.reduceDiv, reduceCtorEq, Int.reduceEq, Int.reduceNe, Int.reduceLT, Int.reduceLE, Int.reduceNeg, Int.reduceToNat, Int.reduceAdd, Int.reduceSub, Int.reduceMul, ↓reduceIte, forall_const, eq_self, ne_eq, Option.some.injEq, beq_self_eq_true]) | refine fin_ndec (fun hc => ?_) (fun hc => ?_) | refine fin_dec (fun hc => ?_) (fun hc => ?_) | refine cnd_ndec (fun hc => ?_) (fun hc => ?_) | refine cnd_dec' (fun hc => ?_) (fun hc => ?_) | refine fin_nsplit (fun hc => ?_) (fun hc => ?_) | refine fin_split (fun hc => ?_) (fun hc => ?_) | refine cnd_nsplit (fun hc => ?_) (fun hc => ?_) | refine cnd_split (fun hc => ?_) (fun hc => ?_) | refine blk_exit_id ?_)
    refine awp_loop (σ := Nat) (fun j => j ≤ l.length) (fun j => ⟨[(8, AV.i j), (7, AV.i l.length), (6, AV.d (.sl f (l.map Chg.row))), (3, AV.i (sumC (l.take j)))], []⟩) (fun j => l.length - j) 0 (Wk.sub' (by simp [subT, look, sumC]) rfl) (by simp) ?_
    intro j hj
    by_cases hjl : j < l.length
    · have e1 : (l.map Chg.row)[j]? = some l[j].row := by simp [hjl]
      have hlt : ((j : Int) < (l.length : Int)) = True := eq_true (by omega)
      have hw := wI (n := (j : Int) + 1) (by omega) (by omega)
      have hstep : sumC (l.take (j + 1)) = W (sumC (l.take j) + l[j].cents) := by rw [List.take_succ_eq_append_getElem hjl, sum_snoc]
      generalize l[j] = x at *
      simp only [Chg.row] at e1
      have hc := Nat.zero_add 0
      repeat' (first | (simp only [hc, SX, l1, e1, hlt, nn, hw, AB, PL, RG, LP, TY, Nat.reduceEqDiff, Nat.reduceAdd, Nat.reduceSub, Nat.reduceMul, Nat.reduceLT, Nat.reduceLeDiff, Nat.reduceMod, Nat.reduceDiv, reduceCtorEq, Int.reduceEq, Int.reduceNe, Int.reduceLT, Int.reduceLE, Int.reduceNeg, Int.reduceToNat, Int.reduceAdd, Int.reduceSub, Int.reduceMul, ↓reduceIte, forall_const, eq_self, ne_eq, Option.some.injEq, beq_self_eq_true]) | refine fin_ndec (fun hc => ?_) (fun hc => ?_) | refine fin_dec (fun hc => ?_) (fun hc => ?_) | refine cnd_ndec (fun hc => ?_) (fun hc => ?_) | refine cnd_dec' (fun hc => ?_) (fun hc => ?_) | refine fin_nsplit (fun hc => ?_) (fun hc => ?_) | refine fin_split (fun hc => ?_) (fun hc => ?_) | refine cnd_nsplit (fun hc => ?_) (fun hc => ?_) | refine cnd_split (fun hc => ?_) (fun hc => ?_) | refine blk_exit_id ?_)
      exact lp_next (j + 1) (Wk.cutk (k := 0) (by simp) (by simp) (by simp [hstep]) (by simp [subT, look, hstep]) (by first | rfl | simp [AV.low, V.low, C1.low]) (by first | rfl | simp [Ob.low, C1.low, all_low_d])) (by omega) (by omega)
    · have hlt : ((j : Int) < (l.length : Int)) = False := eq_false (by omega)
      rw [List.take_of_length_le (by omega)]
      have hc := Nat.zero_add 0
      repeat' (first | (simp only [hc, SX, l1, hlt, AB, PL, RG, LP, TY, Nat.reduceEqDiff, Nat.reduceAdd, Nat.reduceSub, Nat.reduceMul, Nat.reduceLT, Nat.reduceLeDiff, Nat.reduceMod, Nat.reduceDiv, reduceCtorEq, Int.reduceEq, Int.reduceNe, Int.reduceLT, Int.reduceLE, Int.reduceNeg, Int.reduceToNat, Int.reduceAdd, Int.reduceSub, Int.reduceMul, ↓reduceIte, forall_const, eq_self, ne_eq, Option.some.injEq, beq_self_eq_true]) | refine fin_ndec (fun hc => ?_) (fun hc => ?_) | refine fin_dec (fun hc => ?_) (fun hc => ?_) | refine cnd_ndec (fun hc => ?_) (fun hc => ?_) | refine cnd_dec' (fun hc => ?_) (fun hc => ?_) | refine fin_nsplit (fun hc => ?_) (fun hc => ?_) | refine fin_split (fun hc => ?_) (fun hc => ?_) | refine cnd_nsplit (fun hc => ?_) (fun hc => ?_) | refine cnd_split (fun hc => ?_) (fun hc => ?_) | refine blk_exit_id ?_)
      all_goals simp
  · cases h

end
end Go.Ab

/-
  What the functions of reports compute: charges that the statements speak of, the report of a charge.
-/
namespace Go.Ab
open Go.RowKit Go.Proofs

theorem fits_at {n : Int} : fits_m [.c (.int .i64 n)] = some [.b (fitsB n)] := rfl
theorem one_no {x : Chg} (h : ¬ (x.lines.length ≤ 40 ∧ x.key.length ≤ 200 ∧ x.veh.length ≤ 200 ∧ x.sys.length ≤ 200 ∧ fitsB x.cents = true ∧ ∀ l ∈ x.lines, l.1.length ≤ 200)) : x.one = false := by
  rw [Bool.eq_false_iff]
  exact fun h2 => h (Chg.one_iff.1 h2)

theorem one_ok : PureC Tryd.prog Gt 10 one_m := by
  refine pure_of_awp (X := ctx Tryd.prog Gt [(24, fits_m)]) Tryd.func10 rfl rfl (by kernel_rfl) (by kernel_rfl) (AllOk.cons fits_ok AllOk.nil).kok ?_
  intro args r h0
  obtain ⟨x, rfl, h⟩ := mE_inv h0
  refine ⟨Nat.le_of_ble_eq_true rfl, ?_⟩
  split at h
  · rename_i hl
    have hl := of_decide_eq_true hl
    cases h
    have hno := @one_no x
    have hyes := @Chg.one_iff x
    generalize x.one = r at *
    obtain ⟨k, v, s, cl, tm, lf, ls, ct⟩ := x
    dsimp only at hl hno hyes ⊢
    have l1 : ((ls.map rowL).length : Int) = ls.length := by simp
    have f1 := @fits_at ct
    by_cases c1 : (40 : Int) < ls.length
    · have hr := hno (fun h => by omega)
      have hc := Nat.zero_add 0
      repeat' (first | (simp only [hc, Tryd.f10, encC, Chg.row, SX, l1, c1, AB, PL, RG, LP, TY, Nat.reduceEqDiff, Nat.reduceAdd, Nat.reduceSub, Nat.reduceMul, Nat.reduceLT, Nat.reduceLeDiff, Nat.reduceMod, Nat.reduceDiv, reduceCtorEq, Int.reduceEq, Int.reduceNe, Int.reduceLT, Int.reduceLE, Int.reduceNeg, Int.reduceToNat, Int.reduceAdd, Int.reduceSub, Int.reduceMul, ↓reduceIte, forall_const, eq_self, ne_eq, Option.some.injEq, beq_self_eq_true]) | refine fin_ndec (fun hc => ?_) (fun hc => ?_) | refine fin_dec (fun hc => ?_) (fun hc => ?_) | refine cnd_ndec (fun hc => ?_) (fun hc => ?_) | refine cnd_dec' (fun hc => ?_) (fun hc => ?_) | refine fin_nsplit (fun hc => ?_) (fun hc => ?_) | refine fin_split (fun hc => ?_) (fun hc => ?_) | refine cnd_nsplit (fun hc => ?_) (fun hc => ?_) | refine cnd_split (fun hc => ?_) (fun hc => ?_) | refine blk_exit_id ?_)
      all_goals simp [hr, DV.b]
    by_cases c2 : (200 : Int) < k.length
    · have hr := hno (fun h => by omega)
      have hc := Nat.zero_add 0
      repeat' (first | (simp only [hc, Tryd.f10, encC, Chg.row, SX, l1, c1, c2, AB, PL, RG, LP, TY, Nat.reduceEqDiff, Nat.reduceAdd, Nat.reduceSub, Nat.reduceMul, Nat.reduceLT, Nat.reduceLeDiff, Nat.reduceMod, Nat.reduceDiv, reduceCtorEq, Int.reduceEq, Int.reduceNe, Int.reduceLT, Int.reduceLE, Int.reduceNeg, Int.reduceToNat, Int.reduceAdd, Int.reduceSub, Int.reduceMul, ↓reduceIte, forall_const, eq_self, ne_eq, Option.some.injEq, beq_self_eq_true]) | refine fin_ndec (fun hc => ?_) (fun hc => ?_) | refine fin_dec (fun hc => ?_) (fun hc => ?_) | refine cnd_ndec (fun hc => ?_) (fun hc => ?_) | refine cnd_dec' (fun hc => ?_) (fun hc => ?_) | refine fin_nsplit (fun hc => ?_) (fun hc => ?_) | refine fin_split (fun hc => ?_) (fun hc => ?_) | refine cnd_nsplit (fun hc => ?_) (fun hc => ?_) | refine cnd_split (fun hc => ?_) (fun hc => ?_) | refine blk_exit_id ?_)
      all_goals simp [hr, DV.b]
    by_cases c3 : (200 : Int) < v.length
    · have hr := hno (fun h => by omega)
      have hc := Nat.zero_add 0
      repeat' (first | (simp only [hc, Tryd.f10, encC, Chg.row, SX, l1, c1, c2, c3, AB, PL, RG, LP, TY, Nat.reduceEqDiff, Nat.reduceAdd, Nat.reduceSub, Nat.reduceMul, Nat.reduceLT, Nat.reduceLeDiff, Nat.reduceMod, Nat.reduceDiv, reduceCtorEq, Int.reduceEq, Int.reduceNe, Int.reduceLT, Int.reduceLE, Int.reduceNeg, Int.reduceToNat, Int.reduceAdd, Int.reduceSub, Int.reduceMul, ↓reduceIte, forall_const, eq_self, ne_eq, Option.some.injEq, beq_self_eq_true]) | refine fin_ndec (fun hc => ?_) (fun hc => ?_) | refine fin_dec (fun hc => ?_) (fun hc => ?_) | refine cnd_ndec (fun hc => ?_) (fun hc => ?_) | refine cnd_dec' (fun hc => ?_) (fun hc => ?_) | refine fin_nsplit (fun hc => ?_) (fun hc => ?_) | refine fin_split (fun hc => ?_) (fun hc => ?_) | refine cnd_nsplit (fun hc => ?_) (fun hc => ?_) | refine cnd_split (fun hc => ?_) (fun hc => ?_) | refine blk_exit_id ?_)
      all_goals simp [hr, DV.b]
    by_cases c4 : (200 : Int) < s.length
    · have hr := hno (fun h => by omega)
      have hc := Nat.zero_add 0
      repeat' (first | (simp only [hc, Tryd.f10, encC, Chg.row, SX, l1, c1, c2, c3, c4, AB, PL, RG, LP, TY, Nat.reduceEqDiff, Nat.reduceAdd, Nat.reduceSub, Nat.reduceMul, Nat.reduceLT, Nat.reduceLeDiff, Nat.reduceMod, Nat.reduceDiv, reduceCtorEq, Int.reduceEq, Int.reduceNe, Int.reduceLT, Int.reduceLE, Int.reduceNeg, Int.reduceToNat, Int.reduceAdd, Int.reduceSub, Int.reduceMul, ↓reduceIte, forall_const, eq_self, ne_eq, Option.some.injEq, beq_self_eq_true]) | refine fin_ndec (fun hc => ?_) (fun hc => ?_) | refine fin_dec (fun hc => ?_) (fun hc => ?_) | refine cnd_ndec (fun hc => ?_) (fun hc => ?_) | refine cnd_dec' (fun hc => ?_) (fun hc => ?_) | refine fin_nsplit (fun hc => ?_) (fun hc => ?_) | refine fin_split (fun hc => ?_) (fun hc => ?_) | refine cnd_nsplit (fun hc => ?_) (fun hc => ?_) | refine cnd_split (fun hc => ?_) (fun hc => ?_) | refine blk_exit_id ?_)
      all_goals simp [hr, DV.b]
    by_cases c5 : fitsB ct = true
    · skip
      have hc := Nat.zero_add 0
      repeat' (first | (simp only [hc, Tryd.f10, encC, Chg.row, SX, l1, c1, c2, c3, c4, f1, c5, AB, PL, RG, LP, TY, Nat.reduceEqDiff, Nat.reduceAdd, Nat.reduceSub, Nat.reduceMul, Nat.reduceLT, Nat.reduceLeDiff, Nat.reduceMod, Nat.reduceDiv, reduceCtorEq, Int.reduceEq, Int.reduceNe, Int.reduceLT, Int.reduceLE, Int.reduceNeg, Int.reduceToNat, Int.reduceAdd, Int.reduceSub, Int.reduceMul, ↓reduceIte, forall_const, eq_self, ne_eq, Option.some.injEq, beq_self_eq_true]) | refine fin_ndec (fun hc => ?_) (fun hc => ?_) | refine fin_dec (fun hc => ?_) (fun hc => ?_) | refine cnd_ndec (fun hc => ?_) (fun hc => ?_) | refine cnd_dec' (fun hc => ?_) (fun hc => ?_) | refine fin_nsplit (fun hc => ?_) (fun hc => ?_) | refine fin_split (fun hc => ?_) (fun hc => ?_) | refine cnd_nsplit (fun hc => ?_) (fun hc => ?_) | refine cnd_split (fun hc => ?_) (fun hc => ?_) | refine blk_exit_id ?_)
      refine awp_loop (σ := Nat) (fun j => j ≤ ls.length ∧ ∀ l ∈ ls.take j, l.1.length ≤ 200) (fun j => ⟨[(3, AV.i j), (1, .v (.c (.ptr 0 0)))], [.box [.d (.str k), .d (.str v), .d (.str s), .d (.int .i64 cl), .d (.int .i64 tm), .d (.sl lf (ls.map rowL)), .d (.int .i64 ct)]]⟩) (fun j => ls.length - j) 0 (Wk.sub' (by simp [subT, look]) rfl) (by simp) ?_
      rintro j ⟨hj, hall⟩
      by_cases hjl : j < ls.length
      · have e1 : (ls.map rowL)[j]? = some [.str ls[j].1, .int .i64 ls[j].2] := by simp [hjl, rowL]
        have hlt : ((j : Int) < (ls.length : Int)) = True := eq_true (by omega)
        have hw := wI (n := (j : Int) + 1) (by omega) (by omega)
        have hmem : ls[j] ∈ ls := List.getElem_mem hjl
        have hstep : ls.take (j + 1) = ls.take j ++ [ls[j]] := List.take_succ_eq_append_getElem hjl
        generalize ls[j] = y at *
        by_cases c6 : (200 : Int) < y.1.length
        · have hr := hno (fun h => by have := h.2.2.2.2.2 y hmem; omega)
          have hc := Nat.zero_add 0
          repeat' (first | (simp only [hc, SX, l1, e1, hlt, nn, c6, AB, PL, RG, LP, TY, Nat.reduceEqDiff, Nat.reduceAdd, Nat.reduceSub, Nat.reduceMul, Nat.reduceLT, Nat.reduceLeDiff, Nat.reduceMod, Nat.reduceDiv, reduceCtorEq, Int.reduceEq, Int.reduceNe, Int.reduceLT, Int.reduceLE, Int.reduceNeg, Int.reduceToNat, Int.reduceAdd, Int.reduceSub, Int.reduceMul, ↓reduceIte, forall_const, eq_self, ne_eq, Option.some.injEq, beq_self_eq_true]) | refine fin_ndec (fun hc => ?_) (fun hc => ?_) | refine fin_dec (fun hc => ?_) (fun hc => ?_) | refine cnd_ndec (fun hc => ?_) (fun hc => ?_) | refine cnd_dec' (fun hc => ?_) (fun hc => ?_) | refine fin_nsplit (fun hc => ?_) (fun hc => ?_) | refine fin_split (fun hc => ?_) (fun hc => ?_) | refine cnd_nsplit (fun hc => ?_) (fun hc => ?_) | refine cnd_split (fun hc => ?_) (fun hc => ?_) | refine blk_exit_id ?_)
          all_goals simp [hr, DV.b]
        · skip
          have hc := Nat.zero_add 0
          repeat' (first | (simp only [hc, SX, l1, e1, hlt, nn, hw, c6, AB, PL, RG, LP, TY, Nat.reduceEqDiff, Nat.reduceAdd, Nat.reduceSub, Nat.reduceMul, Nat.reduceLT, Nat.reduceLeDiff, Nat.reduceMod, Nat.reduceDiv, reduceCtorEq, Int.reduceEq, Int.reduceNe, Int.reduceLT, Int.reduceLE, Int.reduceNeg, Int.reduceToNat, Int.reduceAdd, Int.reduceSub, Int.reduceMul, ↓reduceIte, forall_const, eq_self, ne_eq, Option.some.injEq, beq_self_eq_true]) | refine fin_ndec (fun hc => ?_) (fun hc => ?_) | refine fin_dec (fun hc => ?_) (fun hc => ?_) | refine cnd_ndec (fun hc => ?_) (fun hc => ?_) | refine cnd_dec' (fun hc => ?_) (fun hc => ?_) | refine fin_nsplit (fun hc => ?_) (fun hc => ?_) | refine fin_split (fun hc => ?_) (fun hc => ?_) | refine cnd_nsplit (fun hc => ?_) (fun hc => ?_) | refine cnd_split (fun hc => ?_) (fun hc => ?_) | refine blk_exit_id ?_)
          refine lp_next (j + 1) (Wk.sub' (by simp [subT, look]) rfl) ⟨by omega, ?_⟩ (by omega)
          intro l hm
          rw [hstep, List.mem_append] at hm
          rcases hm with hm | hm
          · exact hall l hm
          · rw [List.mem_singleton] at hm; subst hm; omega
      · have hlt : ((j : Int) < (ls.length : Int)) = False := eq_false (by omega)
        rw [List.take_of_length_le (by omega)] at hall
        have hr := hyes.2 ⟨by omega, by omega, by omega, by omega, c5, hall⟩
        have hc := Nat.zero_add 0
        repeat' (first | (simp only [hc, SX, l1, hlt, AB, PL, RG, LP, TY, Nat.reduceEqDiff, Nat.reduceAdd, Nat.reduceSub, Nat.reduceMul, Nat.reduceLT, Nat.reduceLeDiff, Nat.reduceMod, Nat.reduceDiv, reduceCtorEq, Int.reduceEq, Int.reduceNe, Int.reduceLT, Int.reduceLE, Int.reduceNeg, Int.reduceToNat, Int.reduceAdd, Int.reduceSub, Int.reduceMul, ↓reduceIte, forall_const, eq_self, ne_eq, Option.some.injEq, beq_self_eq_true]) | refine fin_ndec (fun hc => ?_) (fun hc => ?_) | refine fin_dec (fun hc => ?_) (fun hc => ?_) | refine cnd_ndec (fun hc => ?_) (fun hc => ?_) | refine cnd_dec' (fun hc => ?_) (fun hc => ?_) | refine fin_nsplit (fun hc => ?_) (fun hc => ?_) | refine fin_split (fun hc => ?_) (fun hc => ?_) | refine cnd_nsplit (fun hc => ?_) (fun hc => ?_) | refine cnd_split (fun hc => ?_) (fun hc => ?_) | refine blk_exit_id ?_)
        all_goals simp [hr, DV.b]
    · have hr := hno (fun h => c5 h.2.2.2.2.1)
      have hc := Nat.zero_add 0
      repeat' (first | (simp only [hc, Tryd.f10, encC, Chg.row, SX, l1, c1, c2, c3, c4, f1, c5, AB, PL, RG, LP, TY, Nat.reduceEqDiff, Nat.reduceAdd, Nat.reduceSub, Nat.reduceMul, Nat.reduceLT, Nat.reduceLeDiff, Nat.reduceMod, Nat.reduceDiv, reduceCtorEq, Int.reduceEq, Int.reduceNe, Int.reduceLT, Int.reduceLE, Int.reduceNeg, Int.reduceToNat, Int.reduceAdd, Int.reduceSub, Int.reduceMul, ↓reduceIte, forall_const, eq_self, ne_eq, Option.some.injEq, beq_self_eq_true]) | refine fin_ndec (fun hc => ?_) (fun hc => ?_) | refine fin_dec (fun hc => ?_) (fun hc => ?_) | refine cnd_ndec (fun hc => ?_) (fun hc => ?_) | refine cnd_dec' (fun hc => ?_) (fun hc => ?_) | refine fin_nsplit (fun hc => ?_) (fun hc => ?_) | refine fin_split (fun hc => ?_) (fun hc => ?_) | refine cnd_nsplit (fun hc => ?_) (fun hc => ?_) | refine cnd_split (fun hc => ?_) (fun hc => ?_) | refine blk_exit_id ?_)
      all_goals simp [hr, DV.b]
  · cases h

theorem one_at {x : Chg} (h : x.lines.length ≤ 9223372036854775807) : one_m [.agg x.row] = some [.b x.one] := by
  rw [one_m, show ([.agg x.row] : List PA) = encC x from rfl, mE_eq encC_inj, if_pos (decide_eq_true h)]
theorem tsum_at {f : Bool} {l : List Chg} (h : l.length ≤ 1000000000000) : tsum_m [.c (.sl f (l.map Chg.row))] = some [.i (sumC l)] := by
  rw [tsum_m, show ([.c (.sl f (l.map Chg.row))] : List PA) = encCs (f, l) from rfl, mE_eq encCs_inj, if_pos (decide_eq_true h)]
theorem tesc_at {s : List UInt8} (h : s.length ≤ 200) : tesc_m [.c (.str s)] = some [.c (.str (escF s))] := by rw [tesc_m, ms_eq, if_pos (decide_eq_true (by omega))]
theorem resc_at {s : List UInt8} (h : s.length ≤ 200) : resc_m [.c (.str s)] = some [.c (.str (escF s))] := by rw [resc_m, ms_eq, if_pos (decide_eq_true (by omega))]
theorem count_at {n : Int} (h : inI n = true) : count_m [.c (.int .i64 n)] = some [.s (Lib.itoa n)] := by rw [count_m, m1_eq, if_pos h]

theorem charge_ok : PureC Tryd.prog Gt 11 charge_m := by
  refine pure_of_awp (X := ctx Tryd.prog Gt [(26, tesc_m), (27, count_m), (28, mshow_m), (25, line_m)]) Tryd.func11 rfl rfl (by kernel_rfl) (by kernel_rfl) (AllOk.cons tesc_ok (AllOk.cons count_ok (AllOk.cons mshow_ok (AllOk.cons line_ok AllOk.nil)))).kok ?_
  intro args r h0
  obtain ⟨x, rfl, h⟩ := mE_inv h0
  refine ⟨Nat.le_of_ble_eq_true rfl, ?_⟩
  split at h
  · rename_i hl
    simp only [Bool.and_eq_true] at hl
    obtain ⟨h1, h2⟩ := hl
    cases h
    obtain ⟨a0, a1, a2, a3, _, a4⟩ := Chg.one_iff.1 h1
    obtain ⟨b1, b2, b3, b4⟩ := Chg.rng_iff.1 h2
    have hhl := headC_le h1 h2
    have hll := lines_le h1 h2
    have hF : chargeF x = headC x ++ x.lines.flatMap lineL := rfl
    have hH : headC x = lineF [[99, 104, 97, 114, 103, 101], escF x.key, escF x.veh, escF x.sys, Lib.itoa x.cls, Lib.itoa x.time, showF x.cents] := rfl
    generalize chargeF x = R at *
    generalize headC x = Hd at *
    obtain ⟨k, v, s, cl, tm, lf, ls, ct⟩ := x
    dsimp only at a0 a1 a2 a3 a4 b1 b2 b3 b4 hF hH hll ⊢
    have l1 : ((ls.map rowL).length : Int) = ls.length := by simp
    have f1 := tesc_at a1
    have f2 := tesc_at a2
    have f3 := tesc_at a3
    have f4 := count_at b1
    have f5 := count_at b2
    have f6 := mshow_at b3
    have f7 := ln7 (a := [99, 104, 97, 114, 103, 101]) (by simp) (b := escF k) (by have := esc_le a1; omega) (c := escF v) (by have := esc_le a2; omega) (d := escF s) (by have := esc_le a3; omega) (e := Lib.itoa cl) (by have := itoa_le b1; omega) (f := Lib.itoa tm) (by have := itoa_le b2; omega) (g := showF ct) (by have := show_le b3; omega)
    rw [← hH] at f7
    have hc := Nat.zero_add 0
    repeat' (first | (simp only [hc, Tryd.f11, encC, Chg.row, SX, l1, f1, f2, f3, f4, f5, f6, f7, AB, PL, RG, LP, TY, Nat.reduceEqDiff, Nat.reduceAdd, Nat.reduceSub, Nat.reduceMul, Nat.reduceLT, Nat.reduceLeDiff, Nat.reduceMod, Nat.reduceDiv, reduceCtorEq, Int.reduceEq, Int.reduceNe, Int.reduceLT, Int.reduceLE, Int.reduceNeg, Int.reduceToNat, Int.reduceAdd, Int.reduceSub, Int.reduceMul, ↓reduceIte, forall_const, eq_self, ne_eq, Option.some.injEq, beq_self_eq_true]) | refine fin_ndec (fun hc => ?_) (fun hc => ?_) | refine fin_dec (fun hc => ?_) (fun hc => ?_) | refine cnd_ndec (fun hc => ?_) (fun hc => ?_) | refine cnd_dec' (fun hc => ?_) (fun hc => ?_) | refine fin_nsplit (fun hc => ?_) (fun hc => ?_) | refine fin_split (fun hc => ?_) (fun hc => ?_) | refine cnd_nsplit (fun hc => ?_) (fun hc => ?_) | refine cnd_split (fun hc => ?_) (fun hc => ?_) | refine blk_exit_id ?_)
    refine awp_loop (σ := Nat) (fun j => j ≤ ls.length) (fun j => ⟨[(29, AV.i j), (28, AV.i ls.length), (27, AV.d (.sl lf (ls.map rowL))), (3, AV.s (Hd ++ (ls.take j).flatMap lineL))], [.box [.d (.str k), .d (.str v), .d (.str s), .d (.int .i64 cl), .d (.int .i64 tm), .d (.sl lf (ls.map rowL)), .d (.int .i64 ct)]]⟩) (fun j => ls.length - j) 0 (Wk.sub' (by simp [subT, look]) rfl) (by simp) ?_
    intro j hj
    have k0 := hll j
    by_cases hjl : j < ls.length
    · have e1 : (ls.map rowL)[j]? = some [.str ls[j].1, .int .i64 ls[j].2] := by simp [hjl, rowL]
      have hlt : ((j : Int) < (ls.length : Int)) = True := eq_true (by omega)
      have hw := wI (n := (j : Int) + 1) (by omega) (by omega)
      have hstep := takeC hjl lineL
      have g1 := tesc_at (a4 _ (List.getElem_mem hjl))
      have g2 := mshow_at (b4 _ (List.getElem_mem hjl))
      have g4 := lineL_le (a4 _ (List.getElem_mem hjl)) (b4 _ (List.getElem_mem hjl))
      have g3 : line_m [.c (.sl true [[.str [108, 105, 110, 101]], [.str (showF ls[j].2)], [.str (escF ls[j].1)]])] = some [.s (lineL ls[j])] :=
        ln3 (by simp) (by have := show_le (b4 _ (List.getElem_mem hjl)); omega) (by have := esc_le (a4 _ (List.getElem_mem hjl)); omega)
      generalize ls[j] = y at *
      have k1 : ((Hd ++ (ls.take j).flatMap lineL).length + (lineL y).length ≤ 4611686018427387904) = True := eq_true (by rw [List.length_append]; omega)
      have hc := Nat.zero_add 0
      repeat' (first | (simp only [hc, SX, l1, e1, hlt, nn, hw, g1, g2, g3, k1, AB, PL, RG, LP, TY, Nat.reduceEqDiff, Nat.reduceAdd, Nat.reduceSub, Nat.reduceMul, Nat.reduceLT, Nat.reduceLeDiff, Nat.reduceMod, Nat.reduceDiv, reduceCtorEq, Int.reduceEq, Int.reduceNe, Int.reduceLT, Int.reduceLE, Int.reduceNeg, Int.reduceToNat, Int.reduceAdd, Int.reduceSub, Int.reduceMul, ↓reduceIte, forall_const, eq_self, ne_eq, Option.some.injEq, beq_self_eq_true]) | refine fin_ndec (fun hc => ?_) (fun hc => ?_) | refine fin_dec (fun hc => ?_) (fun hc => ?_) | refine cnd_ndec (fun hc => ?_) (fun hc => ?_) | refine cnd_dec' (fun hc => ?_) (fun hc => ?_) | refine fin_nsplit (fun hc => ?_) (fun hc => ?_) | refine fin_split (fun hc => ?_) (fun hc => ?_) | refine cnd_nsplit (fun hc => ?_) (fun hc => ?_) | refine cnd_split (fun hc => ?_) (fun hc => ?_) | refine blk_exit_id ?_)
      exact lp_next (j + 1) (Wk.cutk (k := 1) (by simp) (by simp) (by simp [hstep]) (by simp [subT, look, hstep]) (by first | rfl | simp [AV.low, V.low, C1.low]) (by first | rfl | simp [Ob.low, C1.low, all_low_d])) (by omega) (by omega)
    · have hlt : ((j : Int) < (ls.length : Int)) = False := eq_false (by omega)
      rw [List.take_of_length_le (by omega)]
      have hc := Nat.zero_add 0
      repeat' (first | (simp only [hc, SX, l1, hlt, AB, PL, RG, LP, TY, Nat.reduceEqDiff, Nat.reduceAdd, Nat.reduceSub, Nat.reduceMul, Nat.reduceLT, Nat.reduceLeDiff, Nat.reduceMod, Nat.reduceDiv, reduceCtorEq, Int.reduceEq, Int.reduceNe, Int.reduceLT, Int.reduceLE, Int.reduceNeg, Int.reduceToNat, Int.reduceAdd, Int.reduceSub, Int.reduceMul, ↓reduceIte, forall_const, eq_self, ne_eq, Option.some.injEq, beq_self_eq_true]) | refine fin_ndec (fun hc => ?_) (fun hc => ?_) | refine fin_dec (fun hc => ?_) (fun hc => ?_) | refine cnd_ndec (fun hc => ?_) (fun hc => ?_) | refine cnd_dec' (fun hc => ?_) (fun hc => ?_) | refine fin_nsplit (fun hc => ?_) (fun hc => ?_) | refine fin_split (fun hc => ?_) (fun hc => ?_) | refine cnd_nsplit (fun hc => ?_) (fun hc => ?_) | refine cnd_split (fun hc => ?_) (fun hc => ?_) | refine blk_exit_id ?_)
      all_goals simp [hF]
  · cases h

theorem rcharge_ok : PureC Tryd.prog Gt 12 rcharge_m := by
  refine pure_of_awp (X := ctx Tryd.prog Gt [(30, resc_m), (31, rfmt_m), (32, rshow_m), (29, rline_m)]) Tryd.func12 rfl rfl (by kernel_rfl) (by kernel_rfl) (AllOk.cons resc_ok (AllOk.cons rfmt_ok (AllOk.cons rshow_ok (AllOk.cons rline_ok AllOk.nil)))).kok ?_
  intro args r h0
  obtain ⟨x, rfl, h⟩ := mE_inv h0
  refine ⟨Nat.le_of_ble_eq_true rfl, ?_⟩
  split at h
  · rename_i hl
    simp only [Bool.and_eq_true] at hl
    obtain ⟨h1, h2⟩ := hl
    cases h
    obtain ⟨a0, a1, a2, a3, _, a4⟩ := Chg.one_iff.1 h1
    obtain ⟨b1, b2, b3, b4⟩ := Chg.rng_iff.1 h2
    have hhl := headC_le h1 h2
    have hll := lines_le h1 h2
    have hF : chargeF x = headC x ++ x.lines.flatMap lineL := rfl
    have hH : headC x = lineF [[99, 104, 97, 114, 103, 101], escF x.key, escF x.veh, escF x.sys, Lib.itoa x.cls, Lib.itoa x.time, showF x.cents] := rfl
    generalize chargeF x = R at *
    generalize headC x = Hd at *
    obtain ⟨k, v, s, cl, tm, lf, ls, ct⟩ := x
    dsimp only at a0 a1 a2 a3 a4 b1 b2 b3 b4 hF hH hll ⊢
    have l1 : ((ls.map rowL).length : Int) = ls.length := by simp
    have f1 := resc_at a1
    have f2 := resc_at a2
    have f3 := resc_at a3
    have f4 := rfmt_at b1
    have f5 := rfmt_at b2
    have f6 := rshow_at b3
    have f7 := rln7 (a := [99, 104, 97, 114, 103, 101]) (by simp) (b := escF k) (by have := esc_le a1; omega) (c := escF v) (by have := esc_le a2; omega) (d := escF s) (by have := esc_le a3; omega) (e := Lib.itoa cl) (by have := itoa_le b1; omega) (f := Lib.itoa tm) (by have := itoa_le b2; omega) (g := showF ct) (by have := show_le b3; omega)
    rw [← hH] at f7
    have hc := Nat.zero_add 0
    repeat' (first | (simp only [hc, Tryd.f12, encC, Chg.row, SX, l1, f1, f2, f3, f4, f5, f6, f7, AB, PL, RG, LP, TY, Nat.reduceEqDiff, Nat.reduceAdd, Nat.reduceSub, Nat.reduceMul, Nat.reduceLT, Nat.reduceLeDiff, Nat.reduceMod, Nat.reduceDiv, reduceCtorEq, Int.reduceEq, Int.reduceNe, Int.reduceLT, Int.reduceLE, Int.reduceNeg, Int.reduceToNat, Int.reduceAdd, Int.reduceSub, Int.reduceMul, ↓reduceIte, forall_const, eq_self, ne_eq, Option.some.injEq, beq_self_eq_true]) | refine fin_ndec (fun hc => ?_) (fun hc => ?_) | refine fin_dec (fun hc => ?_) (fun hc => ?_) | refine cnd_ndec (fun hc => ?_) (fun hc => ?_) | refine cnd_dec' (fun hc => ?_) (fun hc => ?_) | refine fin_nsplit (fun hc => ?_) (fun hc => ?_) | refine fin_split (fun hc => ?_) (fun hc => ?_) | refine cnd_nsplit (fun hc => ?_) (fun hc => ?_) | refine cnd_split (fun hc => ?_) (fun hc => ?_) | refine blk_exit_id ?_)
    refine awp_loop (σ := Nat) (fun j => j ≤ ls.length) (fun j => ⟨[(4, AV.i j), (1, .v (.c (.ptr 0 0))), (3, AV.s (Hd ++ (ls.take j).flatMap lineL))], [.box [.d (.str k), .d (.str v), .d (.str s), .d (.int .i64 cl), .d (.int .i64 tm), .d (.sl lf (ls.map rowL)), .d (.int .i64 ct)]]⟩) (fun j => ls.length - j) 0 (Wk.sub' (by simp [subT, look]) rfl) (by simp) ?_
    intro j hj
    have k0 := hll j
    by_cases hjl : j < ls.length
    · have e1 : (ls.map rowL)[j]? = some [.str ls[j].1, .int .i64 ls[j].2] := by simp [hjl, rowL]
      have hlt : ((j : Int) < (ls.length : Int)) = True := eq_true (by omega)
      have hw := wI (n := (j : Int) + 1) (by omega) (by omega)
      have hstep := takeC hjl lineL
      have g1 := resc_at (a4 _ (List.getElem_mem hjl))
      have g2 := rshow_at (b4 _ (List.getElem_mem hjl))
      have g4 := lineL_le (a4 _ (List.getElem_mem hjl)) (b4 _ (List.getElem_mem hjl))
      have g3 : rline_m [.c (.sl true [[.str [108, 105, 110, 101]], [.str (showF ls[j].2)], [.str (escF ls[j].1)]])] = some [.s (lineL ls[j])] :=
        rln3 (by simp) (by have := show_le (b4 _ (List.getElem_mem hjl)); omega) (by have := esc_le (a4 _ (List.getElem_mem hjl)); omega)
      generalize ls[j] = y at *
      have k1 : ((Hd ++ (ls.take j).flatMap lineL).length + (lineL y).length ≤ 4611686018427387904) = True := eq_true (by rw [List.length_append]; omega)
      have hc := Nat.zero_add 0
      repeat' (first | (simp only [hc, SX, l1, e1, hlt, nn, hw, g1, g2, g3, k1, AB, PL, RG, LP, TY, Nat.reduceEqDiff, Nat.reduceAdd, Nat.reduceSub, Nat.reduceMul, Nat.reduceLT, Nat.reduceLeDiff, Nat.reduceMod, Nat.reduceDiv, reduceCtorEq, Int.reduceEq, Int.reduceNe, Int.reduceLT, Int.reduceLE, Int.reduceNeg, Int.reduceToNat, Int.reduceAdd, Int.reduceSub, Int.reduceMul, ↓reduceIte, forall_const, eq_self, ne_eq, Option.some.injEq, beq_self_eq_true]) | refine fin_ndec (fun hc => ?_) (fun hc => ?_) | refine fin_dec (fun hc => ?_) (fun hc => ?_) | refine cnd_ndec (fun hc => ?_) (fun hc => ?_) | refine cnd_dec' (fun hc => ?_) (fun hc => ?_) | refine fin_nsplit (fun hc => ?_) (fun hc => ?_) | refine fin_split (fun hc => ?_) (fun hc => ?_) | refine cnd_nsplit (fun hc => ?_) (fun hc => ?_) | refine cnd_split (fun hc => ?_) (fun hc => ?_) | refine blk_exit_id ?_)
      exact lp_next (j + 1) (Wk.sub' (by simp [subT, look, hstep]) rfl) (by omega) (by omega)
    · have hlt : ((j : Int) < (ls.length : Int)) = False := eq_false (by omega)
      rw [List.take_of_length_le (by omega)]
      have hc := Nat.zero_add 0
      repeat' (first | (simp only [hc, SX, l1, hlt, AB, PL, RG, LP, TY, Nat.reduceEqDiff, Nat.reduceAdd, Nat.reduceSub, Nat.reduceMul, Nat.reduceLT, Nat.reduceLeDiff, Nat.reduceMod, Nat.reduceDiv, reduceCtorEq, Int.reduceEq, Int.reduceNe, Int.reduceLT, Int.reduceLE, Int.reduceNeg, Int.reduceToNat, Int.reduceAdd, Int.reduceSub, Int.reduceMul, ↓reduceIte, forall_const, eq_self, ne_eq, Option.some.injEq, beq_self_eq_true]) | refine fin_ndec (fun hc => ?_) (fun hc => ?_) | refine fin_dec (fun hc => ?_) (fun hc => ?_) | refine cnd_ndec (fun hc => ?_) (fun hc => ?_) | refine cnd_dec' (fun hc => ?_) (fun hc => ?_) | refine fin_nsplit (fun hc => ?_) (fun hc => ?_) | refine fin_split (fun hc => ?_) (fun hc => ?_) | refine cnd_nsplit (fun hc => ?_) (fun hc => ?_) | refine cnd_split (fun hc => ?_) (fun hc => ?_) | refine blk_exit_id ?_)
      all_goals simp [hF]
  · cases h

theorem charge_at {x : Chg} (h1 : x.one = true) (h2 : x.rng = true) : charge_m [.agg x.row] = some [.s (chargeF x)] := by
  rw [charge_m, show ([.agg x.row] : List PA) = encC x from rfl, mE_eq encC_inj, if_pos (by rw [h1, h2]; rfl)]
theorem rcharge_at {x : Chg} (h1 : x.one = true) (h2 : x.rng = true) : rcharge_m [.agg x.row] = some [.s (chargeF x)] := by
  rw [rcharge_m, show ([.agg x.row] : List PA) = encC x from rfl, mE_eq encC_inj, if_pos (by rw [h1, h2]; rfl)]

end Go.Ab
