/-
  Texts of the layer and of the laws, put together: AbQ16, AbQ17, AbQ18. No law is stated here.
-/
import Derived.Test.YtfokeholingnjaaDoorAbV37
set_option linter.unusedSimpArgs false
set_option linter.unusedVariables false
set_option maxRecDepth 100000

/-
  The laws' own gate: alive answers true.
-/
namespace Go.Ab
open Go.RowKit Go.Proofs

noncomputable section
open Classical

def decK : Nat → Nat → List UInt8
  | 0, _ => []
  | k + 1, u => if u < 10 then [UInt8.ofNat (48 + u)] else decK k (u / 10) ++ [UInt8.ofNat (48 + u % 10)]
theorem dec_k : ∀ (k u : Nat), u < 10 ^ k → 0 < k → Lib.decDigits u = decK k u
  | 0, u, _, h => by omega
  | k + 1, u, hu, _ => by
    by_cases hs : u < 10
    · rw [dec_small hs, decK, if_pos hs]
    · rw [dec_big hs, decK, if_neg hs]
      have hk : 0 < k := by
        rcases Nat.eq_zero_or_pos k with rfl | h
        · simp at hu; omega
        · exact h
      rw [dec_k k (u / 10) (by rw [Nat.pow_succ] at hu; omega) hk]
theorem itoa_k {n : Nat} (h : n < 100000000000000000000) : Lib.itoa (n : Int) = decK 20 n := by
  rw [itoa_spec, if_neg (by omega), Int.toNat_natCast, dec_k 20 n (by rw [p20]; exact h) (by omega)]
theorem show_k {n : Nat} (h : n < 100000000000000000000) : showF (n : Int) = decK 20 (n / 100) ++ 46 :: [digU (n / 10), digU n] := by
  rw [showF, if_neg (by omega), Int.natAbs_natCast, dec_k 20 (n / 100) (by rw [p20]; omega) (by omega)]
  rfl
theorem i0 : Lib.itoa 0 = [48] := itoa_k (n := 0) (by omega)
theorem i1 : Lib.itoa 1 = [49] := itoa_k (n := 1) (by omega)
theorem i2 : Lib.itoa 2 = [50] := itoa_k (n := 2) (by omega)
theorem i2001 : Lib.itoa 2001 = [50, 48, 48, 49] := itoa_k (n := 2001) (by omega)
theorem i86400 : Lib.itoa 86400 = [56, 54, 52, 48, 48] := itoa_k (n := 86400) (by omega)
theorem s0 : showF 0 = [48, 46, 48, 48] := show_k (n := 0) (by omega)
theorem s400 : showF 400 = [52, 46, 48, 48] := show_k (n := 400) (by omega)
theorem s500 : showF 500 = [53, 46, 48, 48] := show_k (n := 500) (by omega)
theorem dO0 : dateOf 2001 0 = [.i 2001, .i 1, .i 1] := by kernel_rfl
theorem dO1 : dateOf 2001 1 = [.i 2001, .i 1, .i 2] := by kernel_rfl
theorem t1 : twoF 1 = [48, 49] := by unfold twoF; rw [i1]; rfl
theorem t2 : twoF 2 = [48, 50] := by unfold twoF; rw [i2]; rfl
theorem d0 : dateF 0 = [50, 48, 48, 49, 45, 48, 49, 45, 48, 49] := by
  unfold dateF
  rw [if_pos (show isD 0 = true from rfl), dO0]
  show Lib.itoa 2001 ++ [45] ++ twoF 1 ++ [45] ++ twoF 1 = _
  rw [i2001, t1]; rfl
theorem d1 : dateF 1 = [50, 48, 48, 49, 45, 48, 49, 45, 48, 50] := by
  unfold dateF
  rw [if_pos (show isD 1 = true from rfl), dO1]
  show Lib.itoa 2001 ++ [45] ++ twoF 1 ++ [45] ++ twoF 2 = _
  rw [i2001, t1, t2]; rfl

def chA : Chg := ⟨[116, 58, 100, 46, 53], [65, 66, 49], [115], 1, 86400, true, [([98, 97, 115, 101], 400)], 400⟩
def caA : Cas := ⟨[118, 49], [65, 66, 49], [107], 0, 0, 1, 500, 0, 0, 0, 0, 0⟩
def sl0 : D := .sl true []
def in0 : D := .int .i64 0
def stZ (chs : List Chg) (cas : List Cas) : St where
  cells := [sl0, sl0, sl0, sl0, sl0, sl0, in0, in0, sl0, in0, sl0, sl0, sl0, sl0, sl0, sl0, sl0, sl0, sl0, sl0, sl0, sl0, in0, sl0, .str [], sl0, sl0, sl0, in0, sl0, sl0, sl0, sl0, .sl true (chs.map Chg.row), sl0, sl0, sl0, .sl true (cas.map Cas.row), in0]
  af := true
  accs := []
  hf := true
  hol := []
  law := ⟨true, [], true, [], 0⟩
  closed := 0
  psf := true
  ps := []
  rsf := true
  rs := []
  tsf := true
  ts := []
  ssf := true
  ss := []
  cf := true
  chs := chs
  xsf := true
  xs := []
  ef := true
  ents := []
  dsf := true
  ds := []
  kf := true
  cases := cas
  count := 0
theorem stZ_is (chs : List Chg) (cas : List Cas) : (stZ chs cas).is := ⟨rfl, rfl, rfl, rfl, rfl, rfl, rfl, rfl, rfl, rfl, rfl, rfl, rfl, rfl, rfl, rfl, rfl⟩
theorem chA_one : chA.one = true := by decide +kernel
theorem chA_rng : chA.rng = true := by decide +kernel
theorem stZ_wf (b c : Bool) : (stZ (if b then [chA] else []) (if c then [caA] else [])).Wf := by
  cases b <;> cases c
  all_goals
    constructor
    all_goals first
      | (show _ ≤ _; decide)
      | (intro x hx; simp [stZ] at hx; done)
      | (intro x hx; simp only [stZ, if_true, List.mem_singleton] at hx; subst hx; first | exact ⟨chA_rng, by decide⟩ | decide +kernel)
      | decide +kernel
theorem stZ_sm (b c : Bool) : (stZ (if b then [chA] else []) (if c then [caA] else [])).Small := by
  cases b <;> cases c
  all_goals
    constructor
    all_goals first
      | (show _ ≤ _; decide)
      | (intro x hx; simp [stZ] at hx; done)
      | (intro x hx; simp only [stZ, if_true, List.mem_singleton] at hx; subst hx; first | exact chA_one | decide +kernel)

def oneT : List UInt8 := [99, 104, 97, 114, 103, 101, 32, 116, 58, 100, 46, 53, 32, 65, 66, 49, 32, 115, 32, 49, 32, 56, 54, 52, 48, 48, 32, 52, 46, 48, 48, 10, 108, 105, 110, 101, 32, 52, 46, 48, 48, 32, 98, 97, 115, 101, 10]
theorem cA : chargeF chA = oneT := by
  unfold chargeF headC chA
  simp only [List.flatMap_cons, List.flatMap_nil, lineL, i1, i86400, s400]
  decide +kernel
theorem dayA1 : dayRep [chA] 1 = [100, 97, 121, 32, 50, 48, 48, 49, 45, 48, 49, 45, 48, 50, 10] ++ oneT ++ [115, 117, 109, 32, 49, 32, 52, 46, 48, 48, 10] := by
  have h : onDay 1 [chA] = [chA] := by kernel_rfl
  have h2 : sumC [chA] = 400 := by kernel_rfl
  unfold dayRep
  rw [h, h2, d1]
  simp only [List.flatMap_cons, List.flatMap_nil, cA, List.length_cons, List.length_nil, Nat.zero_add, Int.cast_ofNat_Int, i1, s400]
  decide +kernel
theorem dayA0 : dayRep [chA] 0 = [100, 97, 121, 32, 50, 48, 48, 49, 45, 48, 49, 45, 48, 49, 10, 115, 117, 109, 32, 48, 32, 48, 46, 48, 48, 10] := by
  have h : onDay 0 [chA] = [] := by kernel_rfl
  have h2 : sumC [] = 0 := rfl
  unfold dayRep
  rw [h, h2, d0]
  simp only [List.flatMap_nil, List.length_nil, Int.cast_ofNat_Int, i0, s0]
  decide +kernel
theorem caseA : caseRep (stZ [chA] [caA]).law (stZ [chA] [caA]).hol caA = [99, 97, 115, 101, 32, 118, 49, 32, 65, 66, 49, 32, 107, 10, 115, 116, 97, 103, 101, 32, 110, 101, 119, 32, 50, 48, 48, 49, 45, 48, 49, 45, 48, 49, 10, 111, 119, 101, 100, 32, 53, 46, 48, 48, 10, 112, 97, 105, 100, 32, 48, 46, 48, 48, 10, 100, 117, 101, 32, 45, 10, 97, 112, 112, 101, 97, 108, 32, 45, 10] := by
  have h : dueF (stZ [chA] [caA]).law (stZ [chA] [caA]).hol caA = (0, false) := by kernel_rfl
  unfold caseRep
  rw [h]
  simp only [caA, d0, s500, s0]
  decide +kernel
theorem totA : totRep (stZ [] []) = [101, 118, 101, 110, 116, 115, 32, 48, 10, 99, 108, 111, 115, 101, 100, 32, 50, 48, 48, 49, 45, 48, 49, 45, 48, 49, 10, 112, 97, 115, 115, 97, 103, 101, 115, 32, 48, 10, 114, 101, 106, 101, 99, 116, 115, 32, 48, 10, 116, 114, 105, 112, 115, 32, 48, 10, 115, 116, 97, 121, 115, 32, 48, 10, 99, 104, 97, 114, 103, 101, 115, 32, 48, 32, 48, 46, 48, 48, 10, 101, 120, 99, 108, 117, 115, 105, 111, 110, 115, 32, 48, 10, 112, 111, 115, 116, 101, 100, 32, 48, 10, 101, 110, 116, 114, 105, 101, 115, 32, 48, 32, 48, 46, 48, 48, 10, 99, 97, 115, 101, 115, 32, 48, 32, 48, 10] := by
  have h1 : sumC [] = 0 := rfl
  have h2 : debF [] = 0 := rfl
  have h3 : openN [] = 0 := rfl
  unfold totRep cntF
  simp only [stZ, h1, h2, h3, d0, i0, s0, List.length_nil, Int.cast_ofNat_Int]
  decide +kernel

end
end Go.Ab

/-
  The laws' own gate: alive answers true.
-/
namespace Go.Ab
open Go.RowKit Go.Proofs

noncomputable section
open Classical

def alive_m : List PA → Option (List PA) := m0 (some [.b true])

theorem eA : (stZ [chA] [caA]).is ∧ (stZ [chA] [caA]).Wf ∧ (stZ [chA] [caA]).Small := ⟨stZ_is _ _, stZ_wf true true, stZ_sm true true⟩
theorem eZ : (stZ [] []).is ∧ (stZ [] []).Wf ∧ (stZ [] []).Small := ⟨stZ_is _ _, stZ_wf false false, stZ_sm false false⟩
theorem al1 : tday_m [.agg (stZ [chA] [caA]).cells, .c (.int .i64 1)] = some [.c (.str ([100, 97, 121, 32, 50, 48, 48, 49, 45, 48, 49, 45, 48, 50, 10] ++ oneT ++ [115, 117, 109, 32, 49, 32, 52, 46, 48, 48, 10])), .c (.int .i64 0)] := by
  rw [tday_at eA.1 eA.2.1 eA.2.2, if_pos (show isD 1 = true from rfl)]
  show some [DV.s (dayRep [chA] 1), _] = _
  rw [dayA1]
theorem al2 : tday_m [.agg (stZ [chA] [caA]).cells, .c (.int .i64 0)] = some [.c (.str [100, 97, 121, 32, 50, 48, 48, 49, 45, 48, 49, 45, 48, 49, 10, 115, 117, 109, 32, 48, 32, 48, 46, 48, 48, 10]), .c (.int .i64 0)] := by
  rw [tday_at eA.1 eA.2.1 eA.2.2, if_pos (show isD 0 = true from rfl)]
  show some [DV.s (dayRep [chA] 0), _] = _
  rw [dayA0]
theorem al3 : tcase_m [.agg (stZ [chA] [caA]).cells, .c (.str [118, 49])] = some [.c (.str [99, 97, 115, 101, 32, 118, 49, 32, 65, 66, 49, 32, 107, 10, 115, 116, 97, 103, 101, 32, 110, 101, 119, 32, 50, 48, 48, 49, 45, 48, 49, 45, 48, 49, 10, 111, 119, 101, 100, 32, 53, 46, 48, 48, 10, 112, 97, 105, 100, 32, 48, 46, 48, 48, 10, 100, 117, 101, 32, 45, 10, 97, 112, 112, 101, 97, 108, 32, 45, 10]), .c (.int .i64 0)] := by
  rw [tcase_at eA.1 eA.2.1 eA.2.2]
  have h : foundK (stZ [chA] [caA]).cases [118, 49] = some caA := by kernel_rfl
  unfold caseOut
  rw [h]
  dsimp only
  rw [caseA]
theorem al4 : tacc_m [.agg (stZ [chA] [caA]).cells, .c (.str [97, 110, 110])] = some [.c (.str []), .c (.int .i64 25)] := by
  rw [tacc_at eA.1 eA.2.1 eA.2.2 (fun a ha => by cases ha) (by decide)]
  have h : foundA (stZ [chA] [caA]).accs [97, 110, 110] = none := by kernel_rfl
  unfold accOut
  rw [h]
theorem al5 : ttot_m [.agg (stZ [] []).cells] = some [.c (.str [101, 118, 101, 110, 116, 115, 32, 48, 10, 99, 108, 111, 115, 101, 100, 32, 50, 48, 48, 49, 45, 48, 49, 45, 48, 49, 10, 112, 97, 115, 115, 97, 103, 101, 115, 32, 48, 10, 114, 101, 106, 101, 99, 116, 115, 32, 48, 10, 116, 114, 105, 112, 115, 32, 48, 10, 115, 116, 97, 121, 115, 32, 48, 10, 99, 104, 97, 114, 103, 101, 115, 32, 48, 32, 48, 46, 48, 48, 10, 101, 120, 99, 108, 117, 115, 105, 111, 110, 115, 32, 48, 10, 112, 111, 115, 116, 101, 100, 32, 48, 10, 101, 110, 116, 114, 105, 101, 115, 32, 48, 32, 48, 46, 48, 48, 10, 99, 97, 115, 101, 115, 32, 48, 32, 48, 10])] := by
  rw [ttot_at eZ.1 eZ.2.1 eZ.2.2, totA]
theorem al6 : charge_m [.agg chA.row] = some [.c (.str oneT)] := by rw [charge_at chA_one chA_rng, cA]

theorem alive_ok : PureC Tryd.prog Gt 13 alive_m := by
  refine pure_of_awp (X := ctx Tryd.prog Gt [(15, tday_m), (19, tcase_m), (17, tacc_m), (11, charge_m), (21, ttot_m)]) Tryd.func13 rfl rfl (by kernel_rfl) (by kernel_rfl) (AllOk.cons tday_ok (AllOk.cons tcase_ok (AllOk.cons tacc_ok (AllOk.cons charge_ok (AllOk.cons ttot_ok AllOk.nil))))).kok ?_
  intro args r h0
  obtain ⟨rfl, h⟩ := m0_inv h0
  refine ⟨Nat.le_of_ble_eq_true rfl, ?_⟩
  cases h
  have a1 := al1
  have a2 := al2
  have a3 := al3
  have a4 := al4
  have a5 := al5
  have a6 := al6
  simp only [stZ, chA, caA, Chg.row, Cas.row, rowL, sl0, in0, List.map_cons, List.map_nil, oneT, List.cons_append, List.nil_append] at a1 a2 a3 a4 a5 a6
  have hc := Nat.zero_add 0
  repeat' (first | (simp only [hc, Tryd.f13, SX, List.append_eq, a1, a2, a3, a4, a5, a6, AB, PL, RG, LP, TY, Nat.reduceEqDiff, Nat.reduceAdd, Nat.reduceSub, Nat.reduceMul, Nat.reduceLT, Nat.reduceLeDiff, Nat.reduceMod, Nat.reduceDiv, reduceCtorEq, Int.reduceEq, Int.reduceNe, Int.reduceLT, Int.reduceLE, Int.reduceNeg, Int.reduceToNat, Int.reduceAdd, Int.reduceSub, Int.reduceMul, ↓reduceIte, forall_const, eq_self, ne_eq, Option.some.injEq, beq_self_eq_true]) | refine fin_ndec (fun hc => ?_) (fun hc => ?_) | refine fin_dec (fun hc => ?_) (fun hc => ?_) | refine cnd_ndec (fun hc => ?_) (fun hc => ?_) | refine cnd_dec' (fun hc => ?_) (fun hc => ?_) | refine fin_nsplit (fun hc => ?_) (fun hc => ?_) | refine fin_split (fun hc => ?_) (fun hc => ?_) | refine cnd_nsplit (fun hc => ?_) (fun hc => ?_) | refine cnd_split (fun hc => ?_) (fun hc => ?_) | refine blk_exit_id ?_)
  all_goals simp [DV.b]

end
end Go.Ab

/-
  The laws on reports: charges, days, cases, totals.
-/
namespace Go.Ab
open Go.RowKit Go.Proofs

noncomputable section
open Classical

def lCharges_m : List PA → Option (List PA) := mE encC fun x => if x.rng = true ∧ x.lines.length ≤ 9223372036854775807 then some [.b true] else none
def lDays_m : List PA → Option (List PA) := mR stI fun p => if p.1.Wf then some [.b true] else none
def lCases_m : List PA → Option (List PA) := mR stS fun p => if p.1.Wf then some [.b true] else none
def lTotals_m : List PA → Option (List PA) := mR stA fun s => if s.Wf then some [.b true] else none
def lAccounts_m : List PA → Option (List PA) := mR stS fun p => if p.1.Wf ∧ p.1.OwnOk then some [.b true] else none

theorem aliv : alive_m [] = some [.c (.bool true)] := rfl

theorem lCharges_ok : PureC Tryd.prog Gt 3 lCharges_m := by
  refine pure_of_awp (X := ctx Tryd.prog Gt [(10, one_m), (11, charge_m), (12, rcharge_m), (13, alive_m)]) Tryd.func3 rfl rfl (by kernel_rfl) (by kernel_rfl) (AllOk.cons one_ok (AllOk.cons charge_ok (AllOk.cons rcharge_ok (AllOk.cons alive_ok AllOk.nil)))).kok ?_
  intro args r h0
  obtain ⟨x, rfl, h⟩ := mE_inv h0
  refine ⟨Nat.le_of_ble_eq_true rfl, ?_⟩
  split at h
  · rename_i hx
    cases h
    have f1 := one_at hx.2
    by_cases h1 : x.one = true
    · have f2 := charge_at h1 hx.1
      have f3 := rcharge_at h1 hx.1
      rw [h1] at f1
      generalize chargeF x = R at *
      simp only [Chg.row] at f1 f2 f3
      have hc := Nat.zero_add 0
      repeat' (first | (simp only [hc, Tryd.f3, encC, Chg.row, SX, f1, f2, f3, aliv, AB, PL, RG, LP, TY, Nat.reduceEqDiff, Nat.reduceAdd, Nat.reduceSub, Nat.reduceMul, Nat.reduceLT, Nat.reduceLeDiff, Nat.reduceMod, Nat.reduceDiv, reduceCtorEq, Int.reduceEq, Int.reduceNe, Int.reduceLT, Int.reduceLE, Int.reduceNeg, Int.reduceToNat, Int.reduceAdd, Int.reduceSub, Int.reduceMul, ↓reduceIte, forall_const, eq_self, ne_eq, Option.some.injEq, beq_self_eq_true]) | refine fin_ndec (fun hc => ?_) (fun hc => ?_) | refine fin_dec (fun hc => ?_) (fun hc => ?_) | refine cnd_ndec (fun hc => ?_) (fun hc => ?_) | refine cnd_dec' (fun hc => ?_) (fun hc => ?_) | refine fin_nsplit (fun hc => ?_) (fun hc => ?_) | refine fin_split (fun hc => ?_) (fun hc => ?_) | refine cnd_nsplit (fun hc => ?_) (fun hc => ?_) | refine cnd_split (fun hc => ?_) (fun hc => ?_) | refine blk_exit_id ?_)
      all_goals simp [DV.b]
    · have h1' : x.one = false := by simpa using h1
      rw [h1'] at f1
      simp only [Chg.row] at f1
      have hc := Nat.zero_add 0
      repeat' (first | (simp only [hc, Tryd.f3, encC, Chg.row, SX, f1, AB, PL, RG, LP, TY, Nat.reduceEqDiff, Nat.reduceAdd, Nat.reduceSub, Nat.reduceMul, Nat.reduceLT, Nat.reduceLeDiff, Nat.reduceMod, Nat.reduceDiv, reduceCtorEq, Int.reduceEq, Int.reduceNe, Int.reduceLT, Int.reduceLE, Int.reduceNeg, Int.reduceToNat, Int.reduceAdd, Int.reduceSub, Int.reduceMul, ↓reduceIte, forall_const, eq_self, ne_eq, Option.some.injEq, beq_self_eq_true]) | refine fin_ndec (fun hc => ?_) (fun hc => ?_) | refine fin_dec (fun hc => ?_) (fun hc => ?_) | refine cnd_ndec (fun hc => ?_) (fun hc => ?_) | refine cnd_dec' (fun hc => ?_) (fun hc => ?_) | refine fin_nsplit (fun hc => ?_) (fun hc => ?_) | refine fin_split (fun hc => ?_) (fun hc => ?_) | refine cnd_nsplit (fun hc => ?_) (fun hc => ?_) | refine cnd_split (fun hc => ?_) (fun hc => ?_) | refine blk_exit_id ?_)
      all_goals simp [DV.b]
  · cases h

theorem lDays_ok : PureC Tryd.prog Gt 4 lDays_m := by
  refine pure_of_awp (X := ctx Tryd.prog Gt [(14, small_m), (15, tday_m), (16, rtday_m), (13, alive_m)]) Tryd.func4 rfl rfl (by kernel_rfl) (by kernel_rfl) (AllOk.cons small_ok (AllOk.cons tday_ok (AllOk.cons rtday_ok (AllOk.cons alive_ok AllOk.nil)))).kok ?_
  intro args r h0
  obtain ⟨⟨s, d⟩, ⟨hs, rfl⟩, h⟩ := mR_inv h0
  refine ⟨Nat.le_of_ble_eq_true rfl, ?_⟩
  split at h
  · rename_i hw
    dsimp only at hs hw h ⊢
    cases h
    have f1 := small_at hs hw
    have hl := hs.len
    have ht : s.cells.take 39 = s.cells := List.take_of_length_le (by omega)
    by_cases hsm : s.Small
    · rw [decide_eq_true hsm] at f1
      have f2 := tday_at (d := d) hs hw hsm
      have f3 := rtday_at (d := d) hs hw hsm
      by_cases hD : isD d = true
      · rw [if_pos hD] at f2 f3
        generalize dayRep s.chs d = R at *
        have hc := Nat.zero_add 0
        repeat' (first | (simp only [hc, Tryd.f4, SX, WH, hl, ht, f1, f2, f3, aliv, AB, PL, RG, LP, TY, Nat.reduceEqDiff, Nat.reduceAdd, Nat.reduceSub, Nat.reduceMul, Nat.reduceLT, Nat.reduceLeDiff, Nat.reduceMod, Nat.reduceDiv, reduceCtorEq, Int.reduceEq, Int.reduceNe, Int.reduceLT, Int.reduceLE, Int.reduceNeg, Int.reduceToNat, Int.reduceAdd, Int.reduceSub, Int.reduceMul, ↓reduceIte, forall_const, eq_self, ne_eq, Option.some.injEq, beq_self_eq_true]) | refine fin_ndec (fun hc => ?_) (fun hc => ?_) | refine fin_dec (fun hc => ?_) (fun hc => ?_) | refine cnd_ndec (fun hc => ?_) (fun hc => ?_) | refine cnd_dec' (fun hc => ?_) (fun hc => ?_) | refine fin_nsplit (fun hc => ?_) (fun hc => ?_) | refine fin_split (fun hc => ?_) (fun hc => ?_) | refine cnd_nsplit (fun hc => ?_) (fun hc => ?_) | refine cnd_split (fun hc => ?_) (fun hc => ?_) | refine blk_exit_id ?_)
        all_goals simp [DV.b]
      · rw [if_neg hD] at f2 f3
        have hc := Nat.zero_add 0
        repeat' (first | (simp only [hc, Tryd.f4, SX, WH, hl, ht, f1, f2, f3, aliv, AB, PL, RG, LP, TY, Nat.reduceEqDiff, Nat.reduceAdd, Nat.reduceSub, Nat.reduceMul, Nat.reduceLT, Nat.reduceLeDiff, Nat.reduceMod, Nat.reduceDiv, reduceCtorEq, Int.reduceEq, Int.reduceNe, Int.reduceLT, Int.reduceLE, Int.reduceNeg, Int.reduceToNat, Int.reduceAdd, Int.reduceSub, Int.reduceMul, ↓reduceIte, forall_const, eq_self, ne_eq, Option.some.injEq, beq_self_eq_true]) | refine fin_ndec (fun hc => ?_) (fun hc => ?_) | refine fin_dec (fun hc => ?_) (fun hc => ?_) | refine cnd_ndec (fun hc => ?_) (fun hc => ?_) | refine cnd_dec' (fun hc => ?_) (fun hc => ?_) | refine fin_nsplit (fun hc => ?_) (fun hc => ?_) | refine fin_split (fun hc => ?_) (fun hc => ?_) | refine cnd_nsplit (fun hc => ?_) (fun hc => ?_) | refine cnd_split (fun hc => ?_) (fun hc => ?_) | refine blk_exit_id ?_)
        all_goals simp [DV.b]
    · rw [decide_eq_false hsm] at f1
      have hc := Nat.zero_add 0
      repeat' (first | (simp only [hc, Tryd.f4, SX, WH, hl, ht, f1, AB, PL, RG, LP, TY, Nat.reduceEqDiff, Nat.reduceAdd, Nat.reduceSub, Nat.reduceMul, Nat.reduceLT, Nat.reduceLeDiff, Nat.reduceMod, Nat.reduceDiv, reduceCtorEq, Int.reduceEq, Int.reduceNe, Int.reduceLT, Int.reduceLE, Int.reduceNeg, Int.reduceToNat, Int.reduceAdd, Int.reduceSub, Int.reduceMul, ↓reduceIte, forall_const, eq_self, ne_eq, Option.some.injEq, beq_self_eq_true]) | refine fin_ndec (fun hc => ?_) (fun hc => ?_) | refine fin_dec (fun hc => ?_) (fun hc => ?_) | refine cnd_ndec (fun hc => ?_) (fun hc => ?_) | refine cnd_dec' (fun hc => ?_) (fun hc => ?_) | refine fin_nsplit (fun hc => ?_) (fun hc => ?_) | refine fin_split (fun hc => ?_) (fun hc => ?_) | refine cnd_nsplit (fun hc => ?_) (fun hc => ?_) | refine cnd_split (fun hc => ?_) (fun hc => ?_) | refine blk_exit_id ?_)
      all_goals simp [DV.b]
  · cases h

theorem lTotals_ok : PureC Tryd.prog Gt 7 lTotals_m := by
  refine pure_of_awp (X := ctx Tryd.prog Gt [(14, small_m), (21, ttot_m), (22, rttot_m), (13, alive_m)]) Tryd.func7 rfl rfl (by kernel_rfl) (by kernel_rfl) (AllOk.cons small_ok (AllOk.cons ttot_ok (AllOk.cons rttot_ok (AllOk.cons alive_ok AllOk.nil)))).kok ?_
  intro args r h0
  obtain ⟨s, ⟨hs, rfl⟩, h⟩ := mR_inv h0
  refine ⟨Nat.le_of_ble_eq_true rfl, ?_⟩
  split at h
  · rename_i hw
    cases h
    have f1 := small_at hs hw
    have hl := hs.len
    have ht : s.cells.take 39 = s.cells := List.take_of_length_le (by omega)
    by_cases hsm : s.Small
    · rw [decide_eq_true hsm] at f1
      have f2 := ttot_at hs hw hsm
      have f3 := rttot_at hs hw hsm
      generalize totRep s = R at *
      have hc := Nat.zero_add 0
      repeat' (first | (simp only [hc, Tryd.f7, SX, WH, hl, ht, f1, f2, f3, aliv, AB, PL, RG, LP, TY, Nat.reduceEqDiff, Nat.reduceAdd, Nat.reduceSub, Nat.reduceMul, Nat.reduceLT, Nat.reduceLeDiff, Nat.reduceMod, Nat.reduceDiv, reduceCtorEq, Int.reduceEq, Int.reduceNe, Int.reduceLT, Int.reduceLE, Int.reduceNeg, Int.reduceToNat, Int.reduceAdd, Int.reduceSub, Int.reduceMul, ↓reduceIte, forall_const, eq_self, ne_eq, Option.some.injEq, beq_self_eq_true]) | refine fin_ndec (fun hc => ?_) (fun hc => ?_) | refine fin_dec (fun hc => ?_) (fun hc => ?_) | refine cnd_ndec (fun hc => ?_) (fun hc => ?_) | refine cnd_dec' (fun hc => ?_) (fun hc => ?_) | refine fin_nsplit (fun hc => ?_) (fun hc => ?_) | refine fin_split (fun hc => ?_) (fun hc => ?_) | refine cnd_nsplit (fun hc => ?_) (fun hc => ?_) | refine cnd_split (fun hc => ?_) (fun hc => ?_) | refine blk_exit_id ?_)
      all_goals simp [DV.b]
    · rw [decide_eq_false hsm] at f1
      have hc := Nat.zero_add 0
      repeat' (first | (simp only [hc, Tryd.f7, SX, WH, hl, ht, f1, AB, PL, RG, LP, TY, Nat.reduceEqDiff, Nat.reduceAdd, Nat.reduceSub, Nat.reduceMul, Nat.reduceLT, Nat.reduceLeDiff, Nat.reduceMod, Nat.reduceDiv, reduceCtorEq, Int.reduceEq, Int.reduceNe, Int.reduceLT, Int.reduceLE, Int.reduceNeg, Int.reduceToNat, Int.reduceAdd, Int.reduceSub, Int.reduceMul, ↓reduceIte, forall_const, eq_self, ne_eq, Option.some.injEq, beq_self_eq_true]) | refine fin_ndec (fun hc => ?_) (fun hc => ?_) | refine fin_dec (fun hc => ?_) (fun hc => ?_) | refine cnd_ndec (fun hc => ?_) (fun hc => ?_) | refine cnd_dec' (fun hc => ?_) (fun hc => ?_) | refine fin_nsplit (fun hc => ?_) (fun hc => ?_) | refine fin_split (fun hc => ?_) (fun hc => ?_) | refine cnd_nsplit (fun hc => ?_) (fun hc => ?_) | refine cnd_split (fun hc => ?_) (fun hc => ?_) | refine blk_exit_id ?_)
      all_goals simp [DV.b]
  · cases h

theorem case_two (s : St) (id : List UInt8) : ∃ a e, caseOut s id = [.c (.str a), .c (.int .i64 e)] := by
  unfold caseOut
  cases foundK s.cases id with
  | none => exact ⟨_, _, rfl⟩
  | some x => exact ⟨_, _, rfl⟩
theorem acc_two (s : St) (id : List UInt8) : ∃ a e, accOut s id = [.c (.str a), .c (.int .i64 e)] := by
  unfold accOut
  cases foundA s.accs id with
  | none => exact ⟨_, _, rfl⟩
  | some x => exact ⟨_, _, rfl⟩

theorem lCases_ok : PureC Tryd.prog Gt 6 lCases_m := by
  refine pure_of_awp (X := ctx Tryd.prog Gt [(14, small_m), (19, tcase_m), (20, rtcase_m), (13, alive_m)]) Tryd.func6 rfl rfl (by kernel_rfl) (by kernel_rfl) (AllOk.cons small_ok (AllOk.cons tcase_ok (AllOk.cons rtcase_ok (AllOk.cons alive_ok AllOk.nil)))).kok ?_
  intro args r h0
  obtain ⟨⟨s, d⟩, ⟨hs, rfl⟩, h⟩ := mR_inv h0
  refine ⟨Nat.le_of_ble_eq_true rfl, ?_⟩
  split at h
  · rename_i hw
    dsimp only at hs hw h ⊢
    cases h
    have f1 := small_at hs hw
    have hl := hs.len
    have ht : s.cells.take 39 = s.cells := List.take_of_length_le (by omega)
    by_cases hsm : s.Small
    · rw [decide_eq_true hsm] at f1
      have f2 := tcase_at (n := d) hs hw hsm
      have f3 := rtcase_at (n := d) hs hw hsm
      obtain ⟨a, e, hae⟩ := case_two s d
      rw [hae] at f2 f3
      by_cases hn : (200 : Int) < d.length
      · skip
        have hc := Nat.zero_add 0
        repeat' (first | (simp only [hc, Tryd.f6, SX, WH, hl, ht, f1, hn, AB, PL, RG, LP, TY, Nat.reduceEqDiff, Nat.reduceAdd, Nat.reduceSub, Nat.reduceMul, Nat.reduceLT, Nat.reduceLeDiff, Nat.reduceMod, Nat.reduceDiv, reduceCtorEq, Int.reduceEq, Int.reduceNe, Int.reduceLT, Int.reduceLE, Int.reduceNeg, Int.reduceToNat, Int.reduceAdd, Int.reduceSub, Int.reduceMul, ↓reduceIte, forall_const, eq_self, ne_eq, Option.some.injEq, beq_self_eq_true]) | refine fin_ndec (fun hc => ?_) (fun hc => ?_) | refine fin_dec (fun hc => ?_) (fun hc => ?_) | refine cnd_ndec (fun hc => ?_) (fun hc => ?_) | refine cnd_dec' (fun hc => ?_) (fun hc => ?_) | refine fin_nsplit (fun hc => ?_) (fun hc => ?_) | refine fin_split (fun hc => ?_) (fun hc => ?_) | refine cnd_nsplit (fun hc => ?_) (fun hc => ?_) | refine cnd_split (fun hc => ?_) (fun hc => ?_) | refine blk_exit_id ?_)
        all_goals simp [DV.b]
      · skip
        have hc := Nat.zero_add 0
        repeat' (first | (simp only [hc, Tryd.f6, SX, WH, hl, ht, f1, f2, f3, aliv, hn, AB, PL, RG, LP, TY, Nat.reduceEqDiff, Nat.reduceAdd, Nat.reduceSub, Nat.reduceMul, Nat.reduceLT, Nat.reduceLeDiff, Nat.reduceMod, Nat.reduceDiv, reduceCtorEq, Int.reduceEq, Int.reduceNe, Int.reduceLT, Int.reduceLE, Int.reduceNeg, Int.reduceToNat, Int.reduceAdd, Int.reduceSub, Int.reduceMul, ↓reduceIte, forall_const, eq_self, ne_eq, Option.some.injEq, beq_self_eq_true]) | refine fin_ndec (fun hc => ?_) (fun hc => ?_) | refine fin_dec (fun hc => ?_) (fun hc => ?_) | refine cnd_ndec (fun hc => ?_) (fun hc => ?_) | refine cnd_dec' (fun hc => ?_) (fun hc => ?_) | refine fin_nsplit (fun hc => ?_) (fun hc => ?_) | refine fin_split (fun hc => ?_) (fun hc => ?_) | refine cnd_nsplit (fun hc => ?_) (fun hc => ?_) | refine cnd_split (fun hc => ?_) (fun hc => ?_) | refine blk_exit_id ?_)
        all_goals simp [DV.b]
    · rw [decide_eq_false hsm] at f1
      have hc := Nat.zero_add 0
      repeat' (first | (simp only [hc, Tryd.f6, SX, WH, hl, ht, f1, AB, PL, RG, LP, TY, Nat.reduceEqDiff, Nat.reduceAdd, Nat.reduceSub, Nat.reduceMul, Nat.reduceLT, Nat.reduceLeDiff, Nat.reduceMod, Nat.reduceDiv, reduceCtorEq, Int.reduceEq, Int.reduceNe, Int.reduceLT, Int.reduceLE, Int.reduceNeg, Int.reduceToNat, Int.reduceAdd, Int.reduceSub, Int.reduceMul, ↓reduceIte, forall_const, eq_self, ne_eq, Option.some.injEq, beq_self_eq_true]) | refine fin_ndec (fun hc => ?_) (fun hc => ?_) | refine fin_dec (fun hc => ?_) (fun hc => ?_) | refine cnd_ndec (fun hc => ?_) (fun hc => ?_) | refine cnd_dec' (fun hc => ?_) (fun hc => ?_) | refine fin_nsplit (fun hc => ?_) (fun hc => ?_) | refine fin_split (fun hc => ?_) (fun hc => ?_) | refine cnd_nsplit (fun hc => ?_) (fun hc => ?_) | refine cnd_split (fun hc => ?_) (fun hc => ?_) | refine blk_exit_id ?_)
      all_goals simp [DV.b]
  · cases h

theorem lAccounts_ok : PureC Tryd.prog Gt 5 lAccounts_m := by
  refine pure_of_awp (X := ctx Tryd.prog Gt [(14, small_m), (17, tacc_m), (18, rtacc_m), (13, alive_m)]) Tryd.func5 rfl rfl (by kernel_rfl) (by kernel_rfl) (AllOk.cons small_ok (AllOk.cons tacc_ok (AllOk.cons rtacc_ok (AllOk.cons alive_ok AllOk.nil)))).kok ?_
  intro args r h0
  obtain ⟨⟨s, d⟩, ⟨hs, rfl⟩, h⟩ := mR_inv h0
  refine ⟨Nat.le_of_ble_eq_true rfl, ?_⟩
  split at h
  · rename_i hw
    obtain ⟨hw, ho⟩ := hw
    dsimp only at hs hw h ⊢
    cases h
    have f1 := small_at hs hw
    have hl := hs.len
    have ht : s.cells.take 39 = s.cells := List.take_of_length_le (by omega)
    by_cases hsm : s.Small
    · rw [decide_eq_true hsm] at f1
      by_cases hn : (200 : Int) < d.length
      · skip
        have hc := Nat.zero_add 0
        repeat' (first | (simp only [hc, Tryd.f5, SX, WH, hl, ht, f1, hn, AB, PL, RG, LP, TY, Nat.reduceEqDiff, Nat.reduceAdd, Nat.reduceSub, Nat.reduceMul, Nat.reduceLT, Nat.reduceLeDiff, Nat.reduceMod, Nat.reduceDiv, reduceCtorEq, Int.reduceEq, Int.reduceNe, Int.reduceLT, Int.reduceLE, Int.reduceNeg, Int.reduceToNat, Int.reduceAdd, Int.reduceSub, Int.reduceMul, ↓reduceIte, forall_const, eq_self, ne_eq, Option.some.injEq, beq_self_eq_true]) | refine fin_ndec (fun hc => ?_) (fun hc => ?_) | refine fin_dec (fun hc => ?_) (fun hc => ?_) | refine cnd_ndec (fun hc => ?_) (fun hc => ?_) | refine cnd_dec' (fun hc => ?_) (fun hc => ?_) | refine fin_nsplit (fun hc => ?_) (fun hc => ?_) | refine fin_split (fun hc => ?_) (fun hc => ?_) | refine cnd_nsplit (fun hc => ?_) (fun hc => ?_) | refine cnd_split (fun hc => ?_) (fun hc => ?_) | refine blk_exit_id ?_)
        all_goals simp [DV.b]
      · have f2 := tacc_at (n := d) hs hw hsm ho (by omega)
        have f3 := rtacc_at (n := d) hs hw hsm (by omega)
        obtain ⟨a, e, hae⟩ := acc_two s d
        rw [hae] at f2 f3
        have hc := Nat.zero_add 0
        repeat' (first | (simp only [hc, Tryd.f5, SX, WH, hl, ht, f1, f2, f3, aliv, hn, AB, PL, RG, LP, TY, Nat.reduceEqDiff, Nat.reduceAdd, Nat.reduceSub, Nat.reduceMul, Nat.reduceLT, Nat.reduceLeDiff, Nat.reduceMod, Nat.reduceDiv, reduceCtorEq, Int.reduceEq, Int.reduceNe, Int.reduceLT, Int.reduceLE, Int.reduceNeg, Int.reduceToNat, Int.reduceAdd, Int.reduceSub, Int.reduceMul, ↓reduceIte, forall_const, eq_self, ne_eq, Option.some.injEq, beq_self_eq_true]) | refine fin_ndec (fun hc => ?_) (fun hc => ?_) | refine fin_dec (fun hc => ?_) (fun hc => ?_) | refine cnd_ndec (fun hc => ?_) (fun hc => ?_) | refine cnd_dec' (fun hc => ?_) (fun hc => ?_) | refine fin_nsplit (fun hc => ?_) (fun hc => ?_) | refine fin_split (fun hc => ?_) (fun hc => ?_) | refine cnd_nsplit (fun hc => ?_) (fun hc => ?_) | refine cnd_split (fun hc => ?_) (fun hc => ?_) | refine blk_exit_id ?_)
        all_goals simp [DV.b]
    · rw [decide_eq_false hsm] at f1
      have hc := Nat.zero_add 0
      repeat' (first | (simp only [hc, Tryd.f5, SX, WH, hl, ht, f1, AB, PL, RG, LP, TY, Nat.reduceEqDiff, Nat.reduceAdd, Nat.reduceSub, Nat.reduceMul, Nat.reduceLT, Nat.reduceLeDiff, Nat.reduceMod, Nat.reduceDiv, reduceCtorEq, Int.reduceEq, Int.reduceNe, Int.reduceLT, Int.reduceLE, Int.reduceNeg, Int.reduceToNat, Int.reduceAdd, Int.reduceSub, Int.reduceMul, ↓reduceIte, forall_const, eq_self, ne_eq, Option.some.injEq, beq_self_eq_true]) | refine fin_ndec (fun hc => ?_) (fun hc => ?_) | refine fin_dec (fun hc => ?_) (fun hc => ?_) | refine cnd_ndec (fun hc => ?_) (fun hc => ?_) | refine cnd_dec' (fun hc => ?_) (fun hc => ?_) | refine fin_nsplit (fun hc => ?_) (fun hc => ?_) | refine fin_split (fun hc => ?_) (fun hc => ?_) | refine cnd_nsplit (fun hc => ?_) (fun hc => ?_) | refine cnd_split (fun hc => ?_) (fun hc => ?_) | refine blk_exit_id ?_)
      all_goals simp [DV.b]
  · cases h

end
end Go.Ab
