/-
  Texts of the layer and of the laws, put together: AbF26, AbF27. No law is stated here.
-/
import Derived.Test.YteeepgnhkfmnaaaDoorAbVol40
set_option linter.unusedSimpArgs false
set_option linter.unusedVariables false
set_option maxRecDepth 100000

/-
  Law Again.
-/
namespace Go.Ab
open Go.RowKit Go.Proofs

noncomputable section
open Classical

def encSBI (p : List UInt8 × (Bool × List UInt8) × Int) : List PA := [.c (.str p.1), .c (.sl p.2.1.1 (p.2.1.2.map rowB)), .c (.int .i64 p.2.2)]
def lAgain_m : List PA → Option (List PA) := mE encSBI fun _ => some [.b true]
set_option maxHeartbeats 4000000 in
theorem lAgain_ok : PureC Tryd.prog Gt 7 lAgain_m := by
  refine pure_of_awpS (X := ctx Tryd.prog Gt [(17, eparse_m), (10, eprint_m), (12, eright_m), (23, eget_m), (20, eput_m), (22, sameB_m), (16, alive46_m)]) Tryd.func7 rfl rfl (by kernel_rfl) (by kernel_rfl) (AllOk.cons eparse_ok (AllOk.cons eprint_ok (AllOk.cons eright_ok (AllOk.cons eget_ok (AllOk.cons eput_ok (AllOk.cons sameB_ok (AllOk.cons alive46_ok AllOk.nil))))))).kok ?_
  intro args r h0
  obtain ⟨⟨s, ⟨fl, b⟩, p⟩, rfl, h⟩ := mE_inv h0
  refine ⟨Nat.le_of_ble_eq_true rfl, ?_⟩
  cases h
  have f7 := alive_at
  have l1 := @lenB b
  by_cases c1 : (s.length : Int) > 1000
  · have c1' := eq_true c1
    have hc := Nat.zero_add 0
    repeat' (first | simp only [hc, AS, Tryd.f7, encSBI, SX, NW, l1, c1', AB, PL, RG, LP, TY, simprocAttr, ↓reduceIte, forall_const, eq_self, ne_eq, Option.some.injEq, beq_self_eq_true] | ((first | apply fin_ndec | apply fin_dec | apply cnd_ndec | apply cnd_dec' | apply fin_nsplit | apply fin_split | apply cnd_nsplit | apply cnd_split) <;> intro hc) | refine seqS_id ?_ | refine blk_exit_id ?_)
    all_goals simp [DV.b]
  have c1' := eq_false c1
  by_cases c2 : (b.length : Int) > 1000
  · have c2' := eq_true c2
    have hc := Nat.zero_add 0
    repeat' (first | simp only [hc, AS, Tryd.f7, encSBI, SX, NW, l1, c1', c2', AB, PL, RG, LP, TY, simprocAttr, ↓reduceIte, forall_const, eq_self, ne_eq, Option.some.injEq, beq_self_eq_true] | ((first | apply fin_ndec | apply fin_dec | apply cnd_ndec | apply cnd_dec' | apply fin_nsplit | apply fin_split | apply cnd_nsplit | apply cnd_split) <;> intro hc) | refine seqS_id ?_ | refine blk_exit_id ?_)
    all_goals simp [DV.b]
  have c2' := eq_false c2
  have hb : b.length ≤ 1000000 := by omega
  have f1 := @eparse_at s
  have f2 := @eget_at fl b p hb
  have p1 := @parse_line s
  have p2 := @get_enc b p
  have p3 := @get_err b p
  generalize parseE s = P at *
  generalize getE b p = G at *
  obtain ⟨e, er⟩ := P
  obtain ⟨x, n, k⟩ := G
  dsimp only at f1 f2 p3
  have f3 := @eprint_at e
  have f4 := @eright_at e
  have f5 := @eright_at x
  have f6 := @eput_at true [] x (by simp)
  obtain ⟨k0, a0, b0, c0, d0, f0, g0, i0, j0, l0, m0, n0, o0, p0, q0, r0⟩ := e
  obtain ⟨k', a', b', c', d'', f', g', i', j', l', m', n'', o', p', q', r'⟩ := x
  have h1 : er = 0 ∨ ¬ er = 0 := Classical.em _
  have h2 : k = 0 ∨ ¬ k = 0 := Classical.em _
  rcases h2 with rfl | h2
  · obtain ⟨y1, y2, y3, y4, y5⟩ := p2 rfl
    have hcut : b.length ≤ 1000 := by omega
    have z1 : (p < 0) = False := eq_false (by omega)
    have z2 : (n < p) = False := eq_false (by omega)
    have z3 : (n > (b.length : Int)) = False := eq_false (by omega)
    rw [putE, if_pos y4, List.nil_append, y5] at f6
    rw [y4] at f5
    have f8 := sameB_at (f := false) (a := (b.drop p.toNat).take (n - p).toNat) (b := (b.drop p.toNat).take (n - p).toNat) (g := fl && decide (n = b.length)) (by rw [List.length_take, List.length_drop]; omega)
    rw [decide_eq_true rfl] at f8
    have q1 : ∀ ful : Bool, slX ful 1 (b.map rowB) p n = some (.sl ful (((b.drop p.toNat).take (n - p).toNat).map rowB)) := fun ful => by
      rw [slX_ok (eq_true (allB b)) (eq_true (by omega)) (eq_true (by omega)) (eq_true (by simp; omega)), show n.toNat - p.toNat = (n - p).toNat by omega, ← List.map_drop, ← List.map_take]
    rcases h1 with rfl | h1
    · obtain ⟨w1, w2⟩ := p1 rfl
      rw [w1] at f4
      rw [printE, if_pos w1, w2] at f3
      simp only [Evt.row, List.map_nil] at f1 f2 f3 f4 f5 f6
      have hc := Nat.zero_add 0
      repeat' (first | simp only [hc, AS, Tryd.f7, encSBI, SX, NW, l1, c1', c2', f1, f2, f3, f4, f5, f6, f7, f8, z1, z2, z3, sla_eq, slT_sl, slZ_some, q1, Option.getD_some, AB, PL, RG, LP, TY, simprocAttr, ↓reduceIte, forall_const, eq_self, ne_eq, Option.some.injEq, beq_self_eq_true] | ((first | apply fin_ndec | apply fin_dec | apply cnd_ndec | apply cnd_dec' | apply fin_nsplit | apply fin_split | apply cnd_nsplit | apply cnd_split) <;> intro hc) | refine seqS_id ?_ | refine blk_exit_id ?_)
    · have h1' := eq_false h1
      simp only [Evt.row, List.map_nil] at f1 f2 f3 f4 f5 f6
      have hc := Nat.zero_add 0
      repeat' (first | simp only [hc, AS, Tryd.f7, encSBI, SX, NW, l1, c1', c2', f1, f2, f3, f4, f5, f6, f7, f8, z1, z2, z3, sla_eq, slT_sl, slZ_some, q1, Option.getD_some, h1', AB, PL, RG, LP, TY, simprocAttr, ↓reduceIte, forall_const, eq_self, ne_eq, Option.some.injEq, beq_self_eq_true] | ((first | apply fin_ndec | apply fin_dec | apply cnd_ndec | apply cnd_dec' | apply fin_nsplit | apply fin_split | apply cnd_nsplit | apply cnd_split) <;> intro hc) | refine seqS_id ?_ | refine blk_exit_id ?_)
  · have hn : n = 0 := p3 h2
    subst hn
    have h2' := eq_false h2
    rcases h1 with rfl | h1
    · obtain ⟨w1, w2⟩ := p1 rfl
      rw [w1] at f4
      rw [printE, if_pos w1, w2] at f3
      simp only [Evt.row] at f1 f2 f3 f4
      have hc := Nat.zero_add 0
      repeat' (first | simp only [hc, AS, Tryd.f7, encSBI, SX, NW, l1, c1', c2', f1, f2, f3, f4, f7, h2', AB, PL, RG, LP, TY, simprocAttr, ↓reduceIte, forall_const, eq_self, ne_eq, Option.some.injEq, beq_self_eq_true] | ((first | apply fin_ndec | apply fin_dec | apply cnd_ndec | apply cnd_dec' | apply fin_nsplit | apply fin_split | apply cnd_nsplit | apply cnd_split) <;> intro hc) | refine seqS_id ?_ | refine blk_exit_id ?_)
    · have h1' := eq_false h1
      simp only [Evt.row] at f1 f2 f3 f4
      have hc := Nat.zero_add 0
      repeat' (first | simp only [hc, AS, Tryd.f7, encSBI, SX, NW, l1, c1', c2', f1, f2, f3, f4, f7, h1', h2', AB, PL, RG, LP, TY, simprocAttr, ↓reduceIte, forall_const, eq_self, ne_eq, Option.some.injEq, beq_self_eq_true] | ((first | apply fin_ndec | apply fin_dec | apply cnd_ndec | apply cnd_dec' | apply fin_nsplit | apply fin_split | apply cnd_nsplit | apply cnd_split) <;> intro hc) | refine seqS_id ?_ | refine blk_exit_id ?_)

end
end Go.Ab

/-
  Law Puts.
-/
namespace Go.Ab
open Go.RowKit Go.Proofs

theorem encV_len {e : Evt} (h : rightE e = true) : (encV e).length ≤ 400 := by
  have hk := right_kind h
  have h1 := encI_len (n := e.kind) (by rcases kind_cases hk with h | h | h | h | h <;> omega) (by rcases kind_cases hk with h | h | h | h | h <;> omega)
  have h2 := putFlds_len h (F := fldK e.kind) fun _ h => h
  have h3 := fld_len e.kind
  rw [encV, List.length_append]
  omega

noncomputable section
open Classical

theorem cut_own {tab : Tab} {kt : KTab} {nt : NTab} {B : Option (TypeId × TypeId)} {id : Nat} {a c : List UInt8} (hc : c ≠ []) : (ctxN Tryd.prog Gt tab kt nt B).sliceA 41 (.v (.c (.own id ((a ++ c).map rowB)))) none (some (a.length : Int)) none = some (.sl false (a.map rowB)) := by
  have hu : Tryd.prog.underlying 41 = some (.slice 5) := by kernel_rfl
  have hz : (ctxN Tryd.prog Gt tab kt nt B).size 5 = some 1 := by kernel_rfl
  have hcl : 0 < c.length := by cases c with | nil => exact absurd rfl hc | cons x r => simp
  unfold Ctx.sliceA
  rw [show (ctxN Tryd.prog Gt tab kt nt B).P = Tryd.prog from rfl, hu]
  simp only [Option.bind_some, C1.elems, hz]
  rw [if_pos]
  · have e1 : ((a ++ c).map rowB).take a.length = a.map rowB := by rw [← List.map_take, List.take_left']; rfl
    simp only [Option.getD_some, Option.getD_none, Int.toNat_zero, List.drop_zero, Int.toNat_natCast, Nat.sub_zero, e1]
    congr 2
  · refine ⟨.inl rfl, fun m h => (by cases h), allB _, Int.le_refl _, ?_, ?_⟩
    · simp only [Option.getD_some, Option.getD_none]
      omega
    · simp only [Option.getD_some, List.length_map, List.length_append]
      omega

def lPuts_m : List PA → Option (List PA) := mE encBE fun _ => some [.b true]
set_option maxHeartbeats 4000000 in
theorem lPuts_ok : PureC Tryd.prog Gt 5 lPuts_m := by
  refine pure_of_awpS (X := ctxN Tryd.prog Gt [(9, eshort_m), (20, eput_m), (21, r6put_m), (22, sameB_m), (16, alive46_m)] [(19, r2copy_k)] [] none) Tryd.func5 rfl rfl (by kernel_rfl) (by kernel_rfl) (kok_n (AllOk.cons eshort_ok (AllOk.cons eput_ok (AllOk.cons r6put_ok (AllOk.cons sameB_ok (AllOk.cons alive46_ok AllOk.nil))))) (AllK.cons r2copy_kok AllK.nil) AllN.nil) ?_
  intro args r h0
  obtain ⟨⟨⟨f, b⟩, e⟩, rfl, h⟩ := mE_inv h0
  refine ⟨Nat.le_of_ble_eq_true rfl, ?_⟩
  cases h
  have f7 := alive_at
  have l1 := @lenB b
  have g1 := @eshort_at e
  by_cases c2 : (b.length : Int) > 1000
  · have c2' := eq_true c2
    have hc := Nat.zero_add 0
    repeat' (first | simp only [hc, AS, Tryd.f5, encBE, NX, SX, NW, l1, c2', AB, PL, RG, LP, TY, simprocAttr, ↓reduceIte, forall_const, eq_self, ne_eq, Option.some.injEq, beq_self_eq_true] | ((first | apply fin_ndec | apply fin_dec | apply cnd_ndec | apply cnd_dec' | apply fin_nsplit | apply fin_split | apply cnd_nsplit | apply cnd_split) <;> intro hc) | refine seqS_id ?_ | refine blk_exit_id ?_)
    all_goals simp [DV.b]
  have c2' := eq_false c2
  have g2 := fun (ful : Bool) => @eput_at ful b e (by omega)
  have g3 := @r6put_at f b e (by omega)
  have r1 : rowB 1 = [.int .u8 1] := rfl
  have r2 : rowB 2 = [.int .u8 2] := rfl
  have r3 : rowB 3 = [.int .u8 3] := rfl
  have g5 := fun (f1 f2 : Bool) => sameB_at (f := f1) (g := f2) (a := b ++ [1, 2, 3]) (b := b ++ [1, 2, 3]) (by rw [List.length_append]; simp only [List.length_cons, List.length_nil]; omega)
  have hP : ∃ x : Bool × List UInt8, ∃ k : Int, putE b e = [.c (.sl x.1 (x.2.map rowB)), .i k] ∧ x.2.length ≤ 1000000 := by
    unfold putE
    split
    · rename_i hr
      refine ⟨(false, b ++ encV e), 0, rfl, ?_⟩
      have := encV_len hr
      rw [List.length_append]
      omega
    · exact ⟨(true, []), 1, rfl, by simp⟩
  obtain ⟨⟨ful, x⟩, k, hP, hx⟩ := hP
  rw [hP] at g3
  simp only [hP] at g2
  dsimp only at hx g2 g3
  have g4 := sameB_at (f := ful) (g := ful) (a := x) (b := x) (by omega)
  rw [decide_eq_true rfl] at g4 g5
  have h3n : ([1, 2, 3] : List UInt8) ≠ [] := by simp
  have hr3 : ([[.int .u8 1], [.int .u8 2], [.int .u8 3]] : List (List D)) = ([1, 2, 3] : List UInt8).map rowB := rfl
  have ap0 : ∀ g : Hp, b = [] → apSl g 1 1 [] [[.int .u8 1], [.int .u8 2], [.int .u8 3]] = some (.v (.c (.own g.length ((b ++ [1, 2, 3]).map rowB))), g ++ [.tok (b.length + 3) 1 none]) := fun g e => by
    subst e
    rw [hr3, apSl_new (allB _) (by simp) (by simp), if_neg (by simp)]
    rfl
  have ap1 : ∀ (g : Hp) (id : Nat), apTok g id 1 1 (b.map rowB) [[.int .u8 1], [.int .u8 2], [.int .u8 3]] (some (.tok b.length 1 none)) = some (.v (.c (.own id ((b ++ [1, 2, 3]).map rowB))), g.set id (.tok (b.length + 3) 1 none)) := fun g id => by
    rw [hr3, apTok_ok (eq_true (by simp)) (eq_true (allB _)) (eq_true (by simp; omega)) (eq_true (by simp; omega)), List.map_append]
    simp
  by_cases hb : b = []
  · have cp := fun h => (r2copy_at (f := f) (bs := b) (h := h) (by omega)).trans (congrArg some (if_pos hb))
    have ap0 := fun g => ap0 g hb
    obtain ⟨k0, a0, b0, c0, d0, f0, g0, i0, j0, l0, m0, n0, o0, p0, q0, r0⟩ := e
    simp only [Evt.row] at g1 g2 g3
    have hc := Nat.zero_add 0
    repeat' (first | simp only [hc, AS, Tryd.f5, encBE, Evt.row, List.map_cons, List.map_nil, NX, NPV, SX, NW, HX, l1, c2', f7, g1, g2, g3, g4, g5, cp, ap0, cut_own h3n, AB, PL, RG, LP, TY, simprocAttr, ↓reduceIte, forall_const, eq_self, ne_eq, Option.some.injEq, beq_self_eq_true] | ((first | apply fin_ndec | apply fin_dec | apply cnd_ndec | apply cnd_dec' | apply fin_nsplit | apply fin_split | apply cnd_nsplit | apply cnd_split) <;> intro hc) | refine seqS_id ?_ | refine blk_exit_id ?_)
  · have cp := fun h => (r2copy_at (f := f) (bs := b) (h := h) (by omega)).trans (congrArg some (if_neg hb))
    obtain ⟨k0, a0, b0, c0, d0, f0, g0, i0, j0, l0, m0, n0, o0, p0, q0, r0⟩ := e
    simp only [Evt.row] at g1 g2 g3
    have hc := Nat.zero_add 0
    repeat' (first | simp only [hc, AS, Tryd.f5, encBE, Evt.row, List.map_cons, List.map_nil, NX, NPV, SX, NW, HX, l1, c2', f7, g1, g2, g3, g4, g5, cp, ap1, cut_own h3n, AB, PL, RG, LP, TY, simprocAttr, ↓reduceIte, forall_const, eq_self, ne_eq, Option.some.injEq, beq_self_eq_true] | ((first | apply fin_ndec | apply fin_dec | apply cnd_ndec | apply cnd_dec' | apply fin_nsplit | apply fin_split | apply cnd_nsplit | apply cnd_split) <;> intro hc) | refine seqS_id ?_ | refine blk_exit_id ?_)

end
end Go.Ab
