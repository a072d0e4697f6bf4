/-
  Texts of the layer and of the laws, put together: AbF21, AbF22. No law is stated here.
-/
import Derived.Test.YteeepgnhkfmnaaaDoorAbVol38
set_option linter.unusedSimpArgs false
set_option linter.unusedVariables false
set_option maxRecDepth 100000

/-
  awake.
-/
namespace Go.Ab
open Go.RowKit Go.Proofs

abbrev exD : Evt := ⟨1, [99, 97, 109], 7, 100, [], [65, 66, 32, 49], 0, 900, 0, [], [], 0, 0, 0, [], 0⟩
abbrev exP : Evt := ⟨4, [], 0, 0, [], [], 0, 0, 0, [], [], 0, 0, 0, [97, 110, 110], -250⟩
theorem itP {n : Nat} : Lib.itoa (n : Int) = Lib.decDigits n := by rw [itoa_spec, if_neg (by omega), Int.toNat_natCast]
theorem it0 : Lib.itoa 0 = [48] := by rw [show (0 : Int) = ((0 : Nat) : Int) from rfl, itP, dec_small (by decide)]; rfl
theorem it7 : Lib.itoa 7 = [55] := by rw [show (7 : Int) = ((7 : Nat) : Int) from rfl, itP, dec_small (by decide)]; rfl
theorem it100 : Lib.itoa 100 = [49, 48, 48] := by
  rw [show (100 : Int) = ((100 : Nat) : Int) from rfl, itP, dec_big (by decide), dec_big (by decide), dec_small (by decide)]
  rfl
theorem it900 : Lib.itoa 900 = [57, 48, 48] := by
  rw [show (900 : Int) = ((900 : Nat) : Int) from rfl, itP, dec_big (by decide), dec_big (by decide), dec_small (by decide)]
  rfl
theorem itm250 : Lib.itoa (-250) = [45, 50, 53, 48] := by
  rw [itoa_spec, if_pos (by decide), show (-250 : Int).natAbs = 250 from rfl, dec_big (by decide), dec_big (by decide), dec_small (by decide)]
  rfl
theorem exDr : rightE exD = true := by kernel_rfl
theorem exPr : rightE exP = true := by kernel_rfl
theorem exDl : lineE exD = [100, 101, 116, 101, 99, 116, 32, 99, 97, 109, 32, 55, 32, 49, 48, 48, 32, 37, 32, 65, 66, 37, 50, 48, 49, 32, 48, 32, 57, 48, 48] := by
  have e1 := it0
  have e2 := it7
  have e3 := it100
  have e4 := it900
  show Lib.join [[100, 101, 116, 101, 99, 116], [99, 97, 109], Lib.itoa 7, Lib.itoa 100, escF [], escF [65, 66, 32, 49], Lib.itoa 0, Lib.itoa 900] [32] = _
  rw [e1, e2, e3, e4]
  kernel_rfl
theorem exPl : lineE exP = [112, 97, 121, 32, 97, 110, 110, 32, 45, 50, 53, 48] := by
  have e1 := itm250
  show Lib.join [[112, 97, 121], [97, 110, 110], Lib.itoa (-250)] [32] = _
  rw [e1]
  kernel_rfl
theorem exDp : printE exD = ([100, 101, 116, 101, 99, 116, 32, 99, 97, 109, 32, 55, 32, 49, 48, 48, 32, 37, 32, 65, 66, 37, 50, 48, 49, 32, 48, 32, 57, 48, 48], 0) := by
  rw [printE, if_pos exDr, exDl]
theorem exPp : printE exP = ([112, 97, 121, 32, 97, 110, 110, 32, 45, 50, 53, 48], 0) := by
  rw [printE, if_pos exPr, exPl]
theorem exPk : keyE exP = [112, 97, 121, 37, 50, 48, 97, 110, 110, 37, 50, 48, 45, 50, 53, 48] := by
  rw [keyE, if_pos exPr, exPl]
  kernel_rfl
theorem exPv : putE [] exP = [.c (.sl false ([8, 6, 97, 110, 110, 243, 3].map rowB)), .i 0] := by
  rw [putE, if_pos exPr]
  have e4 : encI 4 = [8] := by rw [encI, encU_lo (by decide)]; rfl
  have e3 : encI 3 = [6] := by rw [encI, encU_lo (by decide)]; rfl
  have e250 : encI (-250) = [243, 3] := by rw [encI, encU_hi (by decide), encU_lo (by decide)]; rfl
  have : encV exP = [8, 6, 97, 110, 110, 243, 3] := by
    show encI 4 ++ ((encI 3 ++ [97, 110, 110]) ++ (encI (-250) ++ [])) = _
    rw [e4, e3, e250]
    rfl
  rw [this]
  rfl
theorem exQ1 : parseE [99, 108, 111, 115, 101, 32, 49, 32, 50] = (zEvt 0, 5) := by kernel_rfl
theorem exQ2 : parseE [99, 108, 111, 115, 101, 32, 48, 49] = (zEvt 0, 5) := by kernel_rfl
theorem exQ3 : parseE [99, 108, 111, 115, 101, 32, 57, 57, 57, 57, 57, 57, 57, 57, 57, 57, 57] = (zEvt 0, 1) := by kernel_rfl
theorem exG1 : getE [12] 0 = (zEvt 0, 0, 5) := by kernel_rfl
theorem exG2 : getE [6] 0 = (zEvt 0, 0, 7) := by kernel_rfl

noncomputable section
open Classical

def alive46_m : List PA → Option (List PA) := m0 (some [.b true])
set_option maxHeartbeats 4000000 in
theorem alive46_ok : PureC Tryd.prog Gt 16 alive46_m := by
  refine pure_of_awpS (X := ctx Tryd.prog Gt [(10, eprint_m), (20, eput_m), (17, eparse_m), (23, eget_m), (14, ekey_m), (22, sameB_m)]) Tryd.func16 rfl rfl (by kernel_rfl) (by kernel_rfl) (AllOk.cons eprint_ok (AllOk.cons eput_ok (AllOk.cons eparse_ok (AllOk.cons eget_ok (AllOk.cons ekey_ok (AllOk.cons sameB_ok AllOk.nil)))))).kok ?_
  intro args r h0
  obtain ⟨rfl, h⟩ := m0_inv h0
  refine ⟨Nat.le_of_ble_eq_true rfl, ?_⟩
  cases h
  have g1 := @eprint_at exD
  have g2 := @eprint_at exP
  have g3 := @eput_at true [] exP (by decide)
  have g4 := @eparse_at [99, 108, 111, 115, 101, 32, 49, 32, 50]
  have g5 := @eparse_at [99, 108, 111, 115, 101, 32, 48, 49]
  have g6 := @eparse_at [99, 108, 111, 115, 101, 32, 57, 57, 57, 57, 57, 57, 57, 57, 57, 57, 57]
  have g7 : eget_m [.c (.sl true [[.int .u8 12]]), .c (.int .i64 0)] = some [.agg (getE [12] 0).1.row, .i (getE [12] 0).2.1, .i (getE [12] 0).2.2] := @eget_at true [12] 0 (by decide)
  have g8 : eget_m [.c (.sl true [[.int .u8 6]]), .c (.int .i64 0)] = some [.agg (getE [6] 0).1.row, .i (getE [6] 0).2.1, .i (getE [6] 0).2.2] := @eget_at true [6] 0 (by decide)
  have g9 := @ekey_at exP
  have g10 : sameB_m [.c (.sl false [[.int .u8 8], [.int .u8 6], [.int .u8 97], [.int .u8 110], [.int .u8 110], [.int .u8 243], [.int .u8 3]]), .c (.sl true [[.int .u8 8], [.int .u8 6], [.int .u8 97], [.int .u8 110], [.int .u8 110], [.int .u8 243], [.int .u8 3]])] = some [.b true] := @sameB_at false true [8, 6, 97, 110, 110, 243, 3] [8, 6, 97, 110, 110, 243, 3] (by decide)
  have r1 : rowB 8 = [.int .u8 8] := rfl
  have r2 : rowB 6 = [.int .u8 6] := rfl
  have r3 : rowB 97 = [.int .u8 97] := rfl
  have r4 : rowB 110 = [.int .u8 110] := rfl
  have r5 : rowB 243 = [.int .u8 243] := rfl
  have r6 : rowB 3 = [.int .u8 3] := rfl
  rw [exDp] at g1
  rw [exPp] at g2
  rw [exPv] at g3
  rw [exQ1] at g4
  rw [exQ2] at g5
  rw [exQ3] at g6
  rw [exG1] at g7
  rw [exG2] at g8
  rw [exPk] at g9
  simp only [Evt.row, zEvt, List.map_cons, List.map_nil, r1, r2, r3, r4, r5, r6] at g1 g2 g3 g4 g5 g6 g7 g8 g9
  have hc := Nat.zero_add 0
  repeat' (first | simp only [hc, AS, Tryd.f16, SX, g1, g2, g3, g4, g5, g6, g7, g8, g9, g10, AB, PL, RG, LP, TY, simprocAttr, ↓reduceIte, forall_const, eq_self, ne_eq, Option.some.injEq, beq_self_eq_true] | ((first | apply fin_ndec | apply fin_dec | apply cnd_ndec | apply cnd_dec' | apply fin_nsplit | apply fin_split | apply cnd_nsplit | apply cnd_split) <;> intro hc) | refine seqS_id ?_ | refine blk_exit_id ?_)

end
end Go.Ab

/-
  Laws: Prints.
-/
namespace Go.Ab
open Go.RowKit Go.Proofs

def shortE (e : Evt) : Bool := decide (e.dev.length ≤ 200) && decide (e.tag.length ≤ 200) && decide (e.plt.length ≤ 200) && decide (e.pz.length ≤ 200) && decide (e.pp.length ≤ 200) && decide (e.name.length ≤ 200)

noncomputable section
open Classical

def eshort_m : List PA → Option (List PA) := mE encE fun e => some [.b (shortE e)]
theorem eshort_at {e : Evt} : eshort_m [.agg e.row] = some [.b (shortE e)] := mE_eq encE_inj (g := fun e => some [DV.b (shortE e)]) (a := e)
theorem alive_at : alive46_m [] = some [.b true] := rfl

set_option maxHeartbeats 1000000 in
theorem eshort_ok : PureC Tryd.prog Gt 9 eshort_m := by
  refine pure_of_awpS (X := ctx Tryd.prog Gt []) Tryd.func9 rfl rfl (by kernel_rfl) (by kernel_rfl) AllOk.nil.kok ?_
  intro args r h0
  obtain ⟨e, rfl, h⟩ := mE_inv h0
  refine ⟨Nat.le_of_ble_eq_true rfl, ?_⟩
  cases h
  have d : ∀ (s : List UInt8), ((s.length : Int) ≤ 200) = (s.length ≤ 200) := fun s => by simp only [eq_iff_iff]; omega
  obtain ⟨k, a, b, c, d', f, g, i, j, l, m, n, o, p, q, r⟩ := e
  have hc := Nat.zero_add 0
  repeat' (first | simp only [hc, AS, Tryd.f9, encE, Evt.row, List.map_cons, List.map_nil, SX, NW, d, AB, PL, RG, LP, TY, simprocAttr, ↓reduceIte, forall_const, eq_self, ne_eq, Option.some.injEq, beq_self_eq_true] | ((first | apply fin_ndec | apply fin_dec | apply cnd_ndec | apply cnd_dec' | apply fin_nsplit | apply fin_split | apply cnd_nsplit | apply cnd_split) <;> intro hc) | refine seqS_id ?_ | refine blk_exit_id ?_)
  all_goals simp_all [shortE, DV.b]
  all_goals (intros; omega)

def lPrints_m : List PA → Option (List PA) := mE encE fun e => some [.b true]
set_option maxHeartbeats 1000000 in
theorem lPrints_ok : PureC Tryd.prog Gt 3 lPrints_m := by
  refine pure_of_awpS (X := ctx Tryd.prog Gt [(9, eshort_m), (10, eprint_m), (11, r6print_m), (12, eright_m), (13, r6right_m), (14, ekey_m), (15, r6key_m), (16, alive46_m)]) Tryd.func3 rfl rfl (by kernel_rfl) (by kernel_rfl) (AllOk.cons eshort_ok (AllOk.cons eprint_ok (AllOk.cons r6print_ok (AllOk.cons eright_ok (AllOk.cons r6right_ok (AllOk.cons ekey_ok (AllOk.cons r6key_ok (AllOk.cons alive46_ok AllOk.nil)))))))).kok ?_
  intro args r h0
  obtain ⟨e, rfl, h⟩ := mE_inv h0
  refine ⟨Nat.le_of_ble_eq_true rfl, ?_⟩
  cases h
  have g1 := @eprint_at e
  have g2 := @r6print_at e
  have g3 := @eright_at e
  have g4 := @r6right_at e
  have g5 := @ekey_at e
  have g6 := @r6key_at e
  have g7 := @eshort_at e
  have g8 := alive_at
  generalize (printE e).1 = s at *
  generalize (printE e).2 = n at *
  generalize rightE e = rt at *
  generalize keyE e = ke at *
  generalize shortE e = sh at *
  obtain ⟨k, a, b, c, d', f, g, i, j, l, m, n', o, p, q, r⟩ := e
  simp only [Evt.row] at g1 g2 g3 g4 g5 g6 g7
  have hc := Nat.zero_add 0
  repeat' (first | simp only [hc, AS, Tryd.f3, encE, Evt.row, List.map_cons, List.map_nil, SX, NW, g1, g2, g3, g4, g5, g6, g7, g8, AB, PL, RG, LP, TY, simprocAttr, ↓reduceIte, forall_const, eq_self, ne_eq, Option.some.injEq, beq_self_eq_true] | ((first | apply fin_ndec | apply fin_dec | apply cnd_ndec | apply cnd_dec' | apply fin_nsplit | apply fin_split | apply cnd_nsplit | apply cnd_split) <;> intro hc) | refine seqS_id ?_ | refine blk_exit_id ?_)
  all_goals simp_all [DV.b]

end
end Go.Ab
