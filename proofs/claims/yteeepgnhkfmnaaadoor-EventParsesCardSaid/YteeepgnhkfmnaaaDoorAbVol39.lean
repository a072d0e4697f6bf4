/-
  Texts of the layer and of the laws, put together: AbF21, AbF36. No law is stated here.
-/
import Derived.Test.YteeepgnhkfmnaaaDoorAbVol38
set_option linter.unusedSimpArgs false
set_option linter.unusedVariables false
set_option maxRecDepth 100000

/-
  awake.
-/
namespace Go.Ab
open Go.RowKit Go.Proofs

abbrev exD : Evt := ⟨1, [99, 97, 109], 7, 100, [], [65, 66, 32, 49], 0, 900, 0, [], [], 0, 0, 0, [], 0⟩
abbrev exP : Evt := ⟨4, [], 0, 0, [], [], 0, 0, 0, [], [], 0, 0, 0, [97, 110, 110], -250⟩
theorem itP {n : Nat} : Lib.itoa (n : Int) = Lib.decDigits n := by rw [itoa_spec, if_neg (by omega), Int.toNat_natCast]
theorem it0 : Lib.itoa 0 = [48] := by rw [show (0 : Int) = ((0 : Nat) : Int) from rfl, itP, dec_small (by decide)]; rfl
theorem it7 : Lib.itoa 7 = [55] := by rw [show (7 : Int) = ((7 : Nat) : Int) from rfl, itP, dec_small (by decide)]; rfl
theorem it100 : Lib.itoa 100 = [49, 48, 48] := by
  rw [show (100 : Int) = ((100 : Nat) : Int) from rfl, itP, dec_big (by decide), dec_big (by decide), dec_small (by decide)]
  rfl
theorem it900 : Lib.itoa 900 = [57, 48, 48] := by
  rw [show (900 : Int) = ((900 : Nat) : Int) from rfl, itP, dec_big (by decide), dec_big (by decide), dec_small (by decide)]
  rfl
theorem itm250 : Lib.itoa (-250) = [45, 50, 53, 48] := by
  rw [itoa_spec, if_pos (by decide), show (-250 : Int).natAbs = 250 from rfl, dec_big (by decide), dec_big (by decide), dec_small (by decide)]
  rfl
theorem exDr : rightE exD = true := by kernel_rfl
theorem exPr : rightE exP = true := by kernel_rfl
theorem exDl : lineE exD = [100, 101, 116, 101, 99, 116, 32, 99, 97, 109, 32, 55, 32, 49, 48, 48, 32, 37, 32, 65, 66, 37, 50, 48, 49, 32, 48, 32, 57, 48, 48] := by
  have e1 := it0
  have e2 := it7
  have e3 := it100
  have e4 := it900
  show Lib.join [[100, 101, 116, 101, 99, 116], [99, 97, 109], Lib.itoa 7, Lib.itoa 100, escF [], escF [65, 66, 32, 49], Lib.itoa 0, Lib.itoa 900] [32] = _
  rw [e1, e2, e3, e4]
  kernel_rfl
theorem exPl : lineE exP = [112, 97, 121, 32, 97, 110, 110, 32, 45, 50, 53, 48] := by
  have e1 := itm250
  show Lib.join [[112, 97, 121], [97, 110, 110], Lib.itoa (-250)] [32] = _
  rw [e1]
  kernel_rfl
theorem exDp : printE exD = ([100, 101, 116, 101, 99, 116, 32, 99, 97, 109, 32, 55, 32, 49, 48, 48, 32, 37, 32, 65, 66, 37, 50, 48, 49, 32, 48, 32, 57, 48, 48], 0) := by
  rw [printE, if_pos exDr, exDl]
theorem exPp : printE exP = ([112, 97, 121, 32, 97, 110, 110, 32, 45, 50, 53, 48], 0) := by
  rw [printE, if_pos exPr, exPl]
theorem exPk : keyE exP = [112, 97, 121, 37, 50, 48, 97, 110, 110, 37, 50, 48, 45, 50, 53, 48] := by
  rw [keyE, if_pos exPr, exPl]
  kernel_rfl
theorem exPv : putE [] exP = [.c (.sl false ([8, 6, 97, 110, 110, 243, 3].map rowB)), .i 0] := by
  rw [putE, if_pos exPr]
  have e4 : encI 4 = [8] := by rw [encI, encU_lo (by decide)]; rfl
  have e3 : encI 3 = [6] := by rw [encI, encU_lo (by decide)]; rfl
  have e250 : encI (-250) = [243, 3] := by rw [encI, encU_hi (by decide), encU_lo (by decide)]; rfl
  have : encV exP = [8, 6, 97, 110, 110, 243, 3] := by
    show encI 4 ++ ((encI 3 ++ [97, 110, 110]) ++ (encI (-250) ++ [])) = _
    rw [e4, e3, e250]
    rfl
  rw [this]
  rfl
theorem exQ1 : parseE [99, 108, 111, 115, 101, 32, 49, 32, 50] = (zEvt 0, 5) := by kernel_rfl
theorem exQ2 : parseE [99, 108, 111, 115, 101, 32, 48, 49] = (zEvt 0, 5) := by kernel_rfl
theorem exQ3 : parseE [99, 108, 111, 115, 101, 32, 57, 57, 57, 57, 57, 57, 57, 57, 57, 57, 57] = (zEvt 0, 1) := by kernel_rfl
theorem exG1 : getE [12] 0 = (zEvt 0, 0, 5) := by kernel_rfl
theorem exG2 : getE [6] 0 = (zEvt 0, 0, 7) := by kernel_rfl

noncomputable section
open Classical

def alive46_m : List PA → Option (List PA) := m0 (some [.b true])
set_option maxHeartbeats 4000000 in
theorem alive46_ok : PureC Tryd.prog Gt 16 alive46_m := by
  refine pure_of_awpS (X := ctx Tryd.prog Gt [(10, eprint_m), (20, eput_m), (17, eparse_m), (23, eget_m), (14, ekey_m), (22, sameB_m)]) Tryd.func16 rfl rfl (by kernel_rfl) (by kernel_rfl) (AllOk.cons eprint_ok (AllOk.cons eput_ok (AllOk.cons eparse_ok (AllOk.cons eget_ok (AllOk.cons ekey_ok (AllOk.cons sameB_ok AllOk.nil)))))).kok ?_
  intro args r h0
  obtain ⟨rfl, h⟩ := m0_inv h0
  refine ⟨Nat.le_of_ble_eq_true rfl, ?_⟩
  cases h
  have g1 := @eprint_at exD
  have g2 := @eprint_at exP
  have g3 := @eput_at true [] exP (by decide)
  have g4 := @eparse_at [99, 108, 111, 115, 101, 32, 49, 32, 50]
  have g5 := @eparse_at [99, 108, 111, 115, 101, 32, 48, 49]
  have g6 := @eparse_at [99, 108, 111, 115, 101, 32, 57, 57, 57, 57, 57, 57, 57, 57, 57, 57, 57]
  have g7 : eget_m [.c (.sl true [[.int .u8 12]]), .c (.int .i64 0)] = some [.agg (getE [12] 0).1.row, .i (getE [12] 0).2.1, .i (getE [12] 0).2.2] := @eget_at true [12] 0 (by decide)
  have g8 : eget_m [.c (.sl true [[.int .u8 6]]), .c (.int .i64 0)] = some [.agg (getE [6] 0).1.row, .i (getE [6] 0).2.1, .i (getE [6] 0).2.2] := @eget_at true [6] 0 (by decide)
  have g9 := @ekey_at exP
  have g10 : sameB_m [.c (.sl false [[.int .u8 8], [.int .u8 6], [.int .u8 97], [.int .u8 110], [.int .u8 110], [.int .u8 243], [.int .u8 3]]), .c (.sl true [[.int .u8 8], [.int .u8 6], [.int .u8 97], [.int .u8 110], [.int .u8 110], [.int .u8 243], [.int .u8 3]])] = some [.b true] := @sameB_at false true [8, 6, 97, 110, 110, 243, 3] [8, 6, 97, 110, 110, 243, 3] (by decide)
  have r1 : rowB 8 = [.int .u8 8] := rfl
  have r2 : rowB 6 = [.int .u8 6] := rfl
  have r3 : rowB 97 = [.int .u8 97] := rfl
  have r4 : rowB 110 = [.int .u8 110] := rfl
  have r5 : rowB 243 = [.int .u8 243] := rfl
  have r6 : rowB 3 = [.int .u8 3] := rfl
  rw [exDp] at g1
  rw [exPp] at g2
  rw [exPv] at g3
  rw [exQ1] at g4
  rw [exQ2] at g5
  rw [exQ3] at g6
  rw [exG1] at g7
  rw [exG2] at g8
  rw [exPk] at g9
  simp only [Evt.row, zEvt, List.map_cons, List.map_nil, r1, r2, r3, r4, r5, r6] at g1 g2 g3 g4 g5 g6 g7 g8 g9
  have hc := Nat.zero_add 0
  repeat' (first | simp only [hc, AS, Tryd.f16, SX, g1, g2, g3, g4, g5, g6, g7, g8, g9, g10, AB, PL, RG, LP, TY, simprocAttr, ↓reduceIte, forall_const, eq_self, ne_eq, Option.some.injEq, beq_self_eq_true] | ((first | apply fin_ndec | apply fin_dec | apply cnd_ndec | apply cnd_dec' | apply fin_nsplit | apply fin_split | apply cnd_nsplit | apply cnd_split) <;> intro hc) | refine seqS_id ?_ | refine blk_exit_id ?_)

end
end Go.Ab

/-
  Small laws on sums of digits and on rows.
-/
namespace Go.Ab
open Go.RowKit Go.Proofs

theorem accS_ge : ∀ {l : List UInt8} {n : Int}, 0 ≤ n → (∀ c ∈ l, isDig c = true) → n ≤ accS n l
  | [], n, _, _ => Int.le_refl _
  | c :: l, n, h0, hl => by
    rw [accS]
    have hd := dig_iff.1 (hl c List.mem_cons_self)
    split
    · have := accS_ge (l := l) (n := 10 * n + ((c.toNat : Int) - 48)) (by omega) (fun d hd => hl d (List.mem_cons_of_mem _ hd))
      omega
    · exact accS_ge h0 fun d hd => hl d (List.mem_cons_of_mem _ hd)
theorem accS_val : ∀ {l : List UInt8} {n : Nat}, (∀ c ∈ l, isDig c = true) → accS n l ≤ mMon → accS n l = (valF n l : Nat)
  | [], n, _, _ => rfl
  | c :: l, n, hl, hb => by
    have hd := dig_iff.1 (hl c List.mem_cons_self)
    have hl' : ∀ d ∈ l, isDig d = true := fun d hd => hl d (List.mem_cons_of_mem _ hd)
    rw [accS] at hb ⊢
    by_cases hn : (n : Int) ≤ mMon
    · have h45 : c ≠ 45 := fun e => by rw [e] at hd; exact absurd hd.1 (by decide)
      rw [if_pos ⟨h45, hn⟩] at hb ⊢
      have e : 10 * (n : Int) + ((c.toNat : Int) - 48) = ((10 * n + (c.toNat - 48) : Nat) : Int) := by omega
      rw [e] at hb ⊢
      exact accS_val hl' hb
    · rw [if_neg (fun h => hn h.2)] at hb
      have := accS_ge (l := l) (n := n) (by omega) hl'
      omega
theorem rTx_set_ne {r : List D} {o p : Nat} {x : D} (h : o ≠ p) : rTx (r.set o x) p = rTx r p := by
  unfold rTx
  rw [List.getElem?_set_ne h]
theorem rNm_set_ne {r : List D} {o p : Nat} {x : D} (h : o ≠ p) : rNm (r.set o x) p = rNm r p := by
  unfold rNm
  rw [List.getElem?_set_ne h]
theorem rTx_set {r : List D} {o : Nat} {s : List UInt8} (h : o < r.length) : rTx (r.set o (.str s)) o = s := by
  unfold rTx
  rw [List.getElem?_set_self h]
theorem rNm_set {r : List D} {o : Nat} {n : Int} (h : o < r.length) : rNm (r.set o (.int .i64 n)) o = n := by
  unfold rNm
  rw [List.getElem?_set_self h]
theorem kind_row {e : Evt} : rNm e.row 0 = e.kind := rfl
theorem numG_err : ∀ {l : List UInt8} {i acc : Nat} {e : Int}, numG i acc l = .error e → e ≠ 0
  | [], i, acc, e, h => by cases h; decide
  | c :: l, i, acc, e, h => by
    rw [numG] at h
    split at h
    · cases h; decide
    · split at h
      · exact numG_err h
      · split at h
        · cases h; decide
        · cases h
theorem setE_rowx {k : Int} {e : Evt} {p : Fld} (hp : p ∈ fldK k) (tx : List UInt8) (n : Int) : ∃ x, (setE e p.2 tx n).row = e.row.set p.2 x := ⟨_, (setE_row e k tx n p hp).symm⟩
theorem alive_at : alive46_m [] = some [.b true] := rfl

end Go.Ab
