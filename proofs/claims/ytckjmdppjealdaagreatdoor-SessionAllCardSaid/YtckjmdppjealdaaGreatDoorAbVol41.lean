/-
  Texts of the layer and of the laws, put together: AbV7. No law is stated here.
-/
import Derived.Test.YtckjmdppjealdaaGreatDoorAbVol40
set_option linter.unusedSimpArgs false
set_option linter.unusedVariables false
set_option maxRecDepth 100000

/-
  Sessions: awake.
-/
namespace Go.Ab
open Go.RowKit Go.Proofs

abbrev zAw : Zon := ⟨[122], true, [], true, [⟨0, 60, 1⟩], 300, 0, 0, 7200⟩
abbrev pAw : Par := ⟨1, [122], [65, 66, 49], 1000, 4600⟩
abbrev qAw : Par := ⟨1, [122], [65, 66, 49], 4899, 4600⟩
abbrev rAw : Par := ⟨4, [122], [65, 66, 49], 4900, 0⟩
abbrev wAw : Ses := ⟨[49, 46, 122, 46, 65, 66, 49, 46, 49, 48, 48, 48, 46, 52, 54, 48, 48], [122], [65, 66, 49], 1000, 4600, 1, true, []⟩
theorem key_pA : keyF pAw = [49, 46, 122, 46, 65, 66, 49, 46, 49, 48, 48, 48, 46, 52, 54, 48, 48] := by
  have e1 : Lib.itoa 1 = [49] := by simp [itoa_spec, dec_small]
  have e2 : Lib.itoa 1000 = [49, 48, 48, 48] := by simp [itoa_spec, dec_big, dec_small]
  have e3 : Lib.itoa 4600 = [52, 54, 48, 48] := by simp [itoa_spec, dec_big, dec_small]
  simp [keyF, e1, e2, e3]
theorem key_qA : keyF qAw = [49, 46, 122, 46, 65, 66, 49, 46, 52, 56, 57, 57, 46, 52, 54, 48, 48] := by
  have e1 : Lib.itoa 1 = [49] := by simp [itoa_spec, dec_small]
  have e2 : Lib.itoa 4899 = [52, 56, 57, 57] := by simp [itoa_spec, dec_big, dec_small]
  have e3 : Lib.itoa 4600 = [52, 54, 48, 48] := by simp [itoa_spec, dec_big, dec_small]
  simp [keyF, e1, e2, e3]
theorem new_pA : newS pAw = wAw := by rw [newS, key_pA]
theorem ap_pA : applyF [zAw] [] pAw = ([newS pAw], 0) := by kernel_rfl
theorem ap_qA : applyF [zAw] [wAw] qAw = ([wAw], 12) := by kernel_rfl
theorem ap_rA : applyF [zAw] [wAw] rAw = ([{ wAw with state := 3 }], 0) := by kernel_rfl
theorem all_A : allF [zAw] [qAw, pAw, pAw] = ([newS pAw], [⟨keyF qAw, 3⟩]) := by kernel_rfl
theorem sort_A : sortR [qAw, pAw, qAw] = [pAw, qAw] := by kernel_rfl
theorem ok_pA : pAw.Ok := ⟨rfl, rfl, rfl, by decide, by decide⟩
theorem ok_qA : qAw.Ok := ⟨rfl, rfl, rfl, by decide, by decide⟩
theorem ok_rA : rAw.Ok := ⟨rfl, rfl, rfl, by decide, by decide⟩
theorem ok_zA : zonesOk [zAw] := ⟨by decide, fun z hz => by rw [List.mem_singleton.1 hz]; exact ⟨by decide, by decide⟩⟩

noncomputable section
open Classical

theorem sstep_at {f : Bool} {l : List Ses} {p : Par} {g : Bool} {zs : List Zon} (h1 : l.length ≤ 1000000) (h2 : ∀ s ∈ l, s.seen.length ≤ 1000000) (hp : p.Ok) (hz : zonesOk zs) :
    sstep_m [.c (.sl f (l.map Ses.row)), .agg p.row, .c (.sl g (zs.map Zon.row))] = some (stepR f l p zs) := by
  have := mE_eq encStep_inj (g := fun q => if q.1.2.length ≤ 1000000 ∧ (∀ s ∈ q.1.2, s.seen.length ≤ 1000000) ∧ q.2.1.Ok ∧ zonesOk q.2.2.2 then some (stepR q.1.1 q.1.2 q.2.1 q.2.2.2) else none) (a := ((f, l), p, g, zs))
  exact this.trans (if_pos ⟨h1, h2, hp, hz⟩)
theorem sall_at {f g : Bool} {ps : List Par} {zs : List Zon} (hp : parsOk ps) (hz : zonesOk zs) :
    sall_m [.c (.sl f (ps.map Par.row)), .c (.sl g (zs.map Zon.row))] = some [.c (.sl false ((allF zs ps).1.map Ses.row)), .c (.sl false ((allF zs ps).2.map Exc.row))] := by
  have := mE_eq encPsZs_inj (g := fun p => if parsOk p.1.2 ∧ zonesOk p.2.2 then some [.c (.sl false ((allF p.2.2 p.1.2).1.map Ses.row)), .c (.sl false ((allF p.2.2 p.1.2).2.map Exc.row))] else none) (a := ((f, ps), g, zs))
  exact this.trans (if_pos ⟨hp, hz⟩)
theorem sameSs_at {f g : Bool} {a b : List Ses} (h1 : a.length ≤ 1000000000) (h2 : ∀ x ∈ a, x.seen.length ≤ 1000000000) :
    sameSs_m [.c (.sl f (a.map Ses.row)), .c (.sl g (b.map Ses.row))] = some [.b (sameL Ses.same a b)] := by
  have := mE_eq encSs2_inj (g := fun p => if p.1.2.length ≤ 1000000000 ∧ ∀ x ∈ p.1.2, x.seen.length ≤ 1000000000 then some [DV.b (sameL Ses.same p.1.2 p.2.2)] else none) (a := ((f, a), g, b))
  exact this.trans (if_pos ⟨h1, h2⟩)
theorem sameEx_at {f g : Bool} {a b : List Exc} (h1 : a.length ≤ 1000000000) : sameEx_m [.c (.sl f (a.map Exc.row)), .c (.sl g (b.map Exc.row))] = some [.b (sameL Exc.same a b)] := by
  have := mE_eq encEs2_inj (g := fun p => if decide (p.1.2.length ≤ 1000000000) = true then some [DV.b (sameL Exc.same p.1.2 p.2.2)] else none) (a := ((f, a), g, b))
  exact this.trans (if_pos (decide_eq_true h1))
theorem sameEv_at {f g : Bool} {a b : List Par} (h1 : parsOk a) (h2 : parsOk b) : sameEv_m [.c (.sl f (a.map Par.row)), .c (.sl g (b.map Par.row))] = some [.b (sameL parEq a b)] := by
  have := mE_eq encPs2_inj (g := fun p => if parsOk p.1.2 ∧ parsOk p.2.2 then some [DV.b (sameL parEq p.1.2 p.2.2)] else none) (a := ((f, a), g, b))
  exact this.trans (if_pos ⟨h1, h2⟩)
theorem sPaid_at {s : Ses} : sPaid_m [.agg s.row] = some [.agg (rowIv (paidF s))] := mE_eq encS_inj (g := fun s => some [.agg (rowIv (paidF s))]) (a := s)
theorem sOver_at {z : Zon} {s : Ses} {t : Int} (h : z.Ok) : sOver_m [.agg z.row, .agg s.row, .c (.int .i64 t)] = some [.b (overF z s t)] := by
  have := mE_eq encZSi_inj (g := fun p => if p.1.1.Ok then some [DV.b (overF p.1.1 p.1.2 p.2)] else none) (a := ((z, s), t))
  exact this.trans (if_pos h)
theorem parsOk_of {l : List Par} (h : l.length ≤ 1000000) (h2 : ∀ x ∈ l, x.Ok) : parsOk l := ⟨h, h2⟩

theorem wk1 : sstep_m [.c (.sl true []), .agg [.int .i64 1, .str [122], .str [65, 66, 49], .int .i64 1000, .int .i64 4600], .c (.sl true [[.str [122], .sl true [], .sl true [[.int .i64 0, .int .i64 60, .int .i64 1]], .int .i64 300, .int .i64 0, .int .i64 0, .int .i64 7200]])] = some [.c (.sl false [[.str [49, 46, 122, 46, 65, 66, 49, 46, 49, 48, 48, 48, 46, 52, 54, 48, 48], .str [122], .str [65, 66, 49], .int .i64 1000, .int .i64 4600, .int .i64 1, .sl true []]]), .i 0] := by
  have g1 := sstep_at (f := true) (l := []) (p := pAw) (g := true) (zs := [zAw]) (by decide) (by simp) ok_pA ok_zA
  rw [stepR, show ([] : List Ses).map cpS = [] from rfl, ap_pA, new_pA, if_pos rfl] at g1
  exact g1
theorem wk2 : sameSs_m [.c (.sl false [[.str [49, 46, 122, 46, 65, 66, 49, 46, 49, 48, 48, 48, 46, 52, 54, 48, 48], .str [122], .str [65, 66, 49], .int .i64 1000, .int .i64 4600, .int .i64 1, .sl true []]]), .c (.sl true [[.str [49, 46, 122, 46, 65, 66, 49, 46, 49, 48, 48, 48, 46, 52, 54, 48, 48], .str [122], .str [65, 66, 49], .int .i64 1000, .int .i64 4600, .int .i64 1, .sl true []]])] = some [.b true] := by
  have g2 := sameSs_at (f := false) (g := true) (a := [wAw]) (b := [wAw]) (by decide) (by simp)
  rw [show sameL Ses.same [wAw] [wAw] = true by simp [sameL, Ses.same, intEq]] at g2
  exact g2
theorem wk3 : skey_m [.agg [.int .i64 1, .str [122], .str [65, 66, 49], .int .i64 1000, .int .i64 4600]] = some [.c (.str [49, 46, 122, 46, 65, 66, 49, 46, 49, 48, 48, 48, 46, 52, 54, 48, 48])] := by
  have g3 := skey_at' ok_pA
  rw [key_pA] at g3
  exact g3
theorem wk4 : scheck_m [.agg [.int .i64 1, .str [122], .str [65, 66, 49], .int .i64 1000, .int .i64 4600], .c (.sl true [])] = some [.i 23] := by
  have g4 := scheck_at' (f := true) (l := []) (p := pAw) ⟨by decide, by simp⟩ ok_pA
  rw [show errP [] pAw = 23 from rfl] at g4
  exact g4
theorem wk5 : sstep_m [.c (.sl false [[.str [49, 46, 122, 46, 65, 66, 49, 46, 49, 48, 48, 48, 46, 52, 54, 48, 48], .str [122], .str [65, 66, 49], .int .i64 1000, .int .i64 4600, .int .i64 1, .sl true []]]), .agg [.int .i64 1, .str [122], .str [65, 66, 49], .int .i64 4899, .int .i64 4600], .c (.sl true [[.str [122], .sl true [], .sl true [[.int .i64 0, .int .i64 60, .int .i64 1]], .int .i64 300, .int .i64 0, .int .i64 0, .int .i64 7200]])] = some [.c (.sl false [[.str [49, 46, 122, 46, 65, 66, 49, 46, 49, 48, 48, 48, 46, 52, 54, 48, 48], .str [122], .str [65, 66, 49], .int .i64 1000, .int .i64 4600, .int .i64 1, .sl true []]]), .i 12] := by
  have g5 := sstep_at (f := false) (l := [wAw]) (p := qAw) (g := true) (zs := [zAw]) (by decide) (by simp) ok_qA ok_zA
  rw [stepR, show [wAw].map cpS = [wAw] from rfl, ap_qA, if_neg (by decide)] at g5
  exact g5
theorem wk6 : sstep_m [.c (.sl false [[.str [49, 46, 122, 46, 65, 66, 49, 46, 49, 48, 48, 48, 46, 52, 54, 48, 48], .str [122], .str [65, 66, 49], .int .i64 1000, .int .i64 4600, .int .i64 1, .sl true []]]), .agg [.int .i64 4, .str [122], .str [65, 66, 49], .int .i64 4900, .int .i64 0], .c (.sl true [[.str [122], .sl true [], .sl true [[.int .i64 0, .int .i64 60, .int .i64 1]], .int .i64 300, .int .i64 0, .int .i64 0, .int .i64 7200]])] = some [.c (.sl false [[.str [49, 46, 122, 46, 65, 66, 49, 46, 49, 48, 48, 48, 46, 52, 54, 48, 48], .str [122], .str [65, 66, 49], .int .i64 1000, .int .i64 4600, .int .i64 3, .sl true []]]), .i 0] := by
  have g6 := sstep_at (f := false) (l := [wAw]) (p := rAw) (g := true) (zs := [zAw]) (by decide) (by simp) ok_rA ok_zA
  rw [stepR, show [wAw].map cpS = [wAw] from rfl, ap_rA, if_pos rfl] at g6
  exact g6
theorem wk7 : sall_m [.c (.sl true [[.int .i64 1, .str [122], .str [65, 66, 49], .int .i64 4899, .int .i64 4600], [.int .i64 1, .str [122], .str [65, 66, 49], .int .i64 1000, .int .i64 4600], [.int .i64 1, .str [122], .str [65, 66, 49], .int .i64 1000, .int .i64 4600]]), .c (.sl true [[.str [122], .sl true [], .sl true [[.int .i64 0, .int .i64 60, .int .i64 1]], .int .i64 300, .int .i64 0, .int .i64 0, .int .i64 7200]])] = some [.c (.sl false [[.str [49, 46, 122, 46, 65, 66, 49, 46, 49, 48, 48, 48, 46, 52, 54, 48, 48], .str [122], .str [65, 66, 49], .int .i64 1000, .int .i64 4600, .int .i64 1, .sl true []]]), .c (.sl false [[.str [49, 46, 122, 46, 65, 66, 49, 46, 52, 56, 57, 57, 46, 52, 54, 48, 48], .int .i64 3]])] := by
  have g7 := sall_at (f := true) (g := true) (ps := [qAw, pAw, pAw]) (zs := [zAw]) ⟨by decide, by simp [ok_pA, ok_qA]⟩ ok_zA
  rw [all_A, new_pA, key_qA] at g7
  exact g7
theorem wk8 : sameSs_m [.c (.sl false [[.str [49, 46, 122, 46, 65, 66, 49, 46, 49, 48, 48, 48, 46, 52, 54, 48, 48], .str [122], .str [65, 66, 49], .int .i64 1000, .int .i64 4600, .int .i64 1, .sl true []]]), .c (.sl false [[.str [49, 46, 122, 46, 65, 66, 49, 46, 49, 48, 48, 48, 46, 52, 54, 48, 48], .str [122], .str [65, 66, 49], .int .i64 1000, .int .i64 4600, .int .i64 1, .sl true []]])] = some [.b true] := by
  have g8 := sameSs_at (f := false) (g := false) (a := [wAw]) (b := [wAw]) (by decide) (by simp)
  rw [show sameL Ses.same [wAw] [wAw] = true by simp [sameL, Ses.same, intEq]] at g8
  exact g8
theorem wk9 : sameEx_m [.c (.sl false [[.str [49, 46, 122, 46, 65, 66, 49, 46, 52, 56, 57, 57, 46, 52, 54, 48, 48], .int .i64 3]]), .c (.sl true [[.str [49, 46, 122, 46, 65, 66, 49, 46, 52, 56, 57, 57, 46, 52, 54, 48, 48], .int .i64 3]])] = some [.b true] := by
  have g9 := sameEx_at (f := false) (g := true) (a := [⟨[49, 46, 122, 46, 65, 66, 49, 46, 52, 56, 57, 57, 46, 52, 54, 48, 48], 3⟩]) (b := [⟨[49, 46, 122, 46, 65, 66, 49, 46, 52, 56, 57, 57, 46, 52, 54, 48, 48], 3⟩]) (by decide)
  rw [show sameL Exc.same [⟨[49, 46, 122, 46, 65, 66, 49, 46, 52, 56, 57, 57, 46, 52, 54, 48, 48], 3⟩] [⟨[49, 46, 122, 46, 65, 66, 49, 46, 52, 56, 57, 57, 46, 52, 54, 48, 48], 3⟩] = true by simp [sameL, Exc.same]] at g9
  exact g9
theorem wk10 : sPaid_m [.agg [.str [49, 46, 122, 46, 65, 66, 49, 46, 49, 48, 48, 48, 46, 52, 54, 48, 48], .str [122], .str [65, 66, 49], .int .i64 1000, .int .i64 4600, .int .i64 1, .sl true []]] = some [.agg [.int .i64 1000, .int .i64 4600]] := by
  have g10 := @sPaid_at wAw
  rw [show paidF wAw = (1000, 4600) by kernel_rfl] at g10
  exact g10
theorem wk11 : sOver_m [.agg [.str [122], .sl true [], .sl true [[.int .i64 0, .int .i64 60, .int .i64 1]], .int .i64 300, .int .i64 0, .int .i64 0, .int .i64 7200], .agg [.str [49, 46, 122, 46, 65, 66, 49, 46, 49, 48, 48, 48, 46, 52, 54, 48, 48], .str [122], .str [65, 66, 49], .int .i64 1000, .int .i64 4600, .int .i64 1, .sl true []], .c (.int .i64 4900)] = some [.b true] := by
  have g11 := @sOver_at zAw wAw 4900 ⟨by decide, by decide⟩
  rw [show overF zAw wAw 4900 = true by kernel_rfl] at g11
  exact g11
theorem wk12 : sOver_m [.agg [.str [122], .sl true [], .sl true [[.int .i64 0, .int .i64 60, .int .i64 1]], .int .i64 300, .int .i64 0, .int .i64 0, .int .i64 7200], .agg [.str [49, 46, 122, 46, 65, 66, 49, 46, 49, 48, 48, 48, 46, 52, 54, 48, 48], .str [122], .str [65, 66, 49], .int .i64 1000, .int .i64 4600, .int .i64 1, .sl true []], .c (.int .i64 4899)] = some [.b false] := by
  have g12 := @sOver_at zAw wAw 4899 ⟨by decide, by decide⟩
  rw [show overF zAw wAw 4899 = false by kernel_rfl] at g12
  exact g12
theorem wk13 : ssort_m [.c (.sl true [[.int .i64 1, .str [122], .str [65, 66, 49], .int .i64 4899, .int .i64 4600], [.int .i64 1, .str [122], .str [65, 66, 49], .int .i64 1000, .int .i64 4600], [.int .i64 1, .str [122], .str [65, 66, 49], .int .i64 4899, .int .i64 4600]])] = some [.c (.sl false [[.int .i64 1, .str [122], .str [65, 66, 49], .int .i64 1000, .int .i64 4600], [.int .i64 1, .str [122], .str [65, 66, 49], .int .i64 4899, .int .i64 4600]])] := by
  have g13 := ssort_at (f := true) (l := [qAw, pAw, qAw]) (by decide)
  rw [sort_A] at g13
  exact g13
theorem wk14 : sameEv_m [.c (.sl false [[.int .i64 1, .str [122], .str [65, 66, 49], .int .i64 1000, .int .i64 4600], [.int .i64 1, .str [122], .str [65, 66, 49], .int .i64 4899, .int .i64 4600]]), .c (.sl true [[.int .i64 1, .str [122], .str [65, 66, 49], .int .i64 1000, .int .i64 4600], [.int .i64 1, .str [122], .str [65, 66, 49], .int .i64 4899, .int .i64 4600]])] = some [.b true] := by
  have g14 := sameEv_at (f := false) (g := true) (a := [pAw, qAw]) (b := [pAw, qAw]) ⟨by decide, by simp [ok_pA, ok_qA]⟩ ⟨by decide, by simp [ok_pA, ok_qA]⟩
  rw [show sameL parEq [pAw, qAw] [pAw, qAw] = true by kernel_rfl] at g14
  exact g14

def sawake_m : List PA → Option (List PA) := m0 (some [.b true])
set_option maxHeartbeats 8000000 in
theorem sawake_ok : PureC Tryz.prog Gt 10 sawake_m := by
  refine pure_of_awp (X := ctx Tryz.prog Gt [(11, sstep_m), (13, sameSs_m), (26, skey_m), (27, scheck_m), (15, sall_m), (17, sameEx_m), (28, sPaid_m), (29, sOver_m), (31, ssort_m), (30, sameEv_m)]) Tryz.func10 rfl rfl (by kernel_rfl) (by kernel_rfl) (AllOk.cons sstep_ok (AllOk.cons sameSs_ok (AllOk.cons skey_ok (AllOk.cons scheck_ok (AllOk.cons sall_ok (AllOk.cons sameEx_ok (AllOk.cons sPaid_ok (AllOk.cons sOver_ok (AllOk.cons ssort_ok (AllOk.cons sameEv_ok AllOk.nil)))))))))).kok ?_
  intro args r h0
  obtain ⟨rfl, h⟩ := m0_inv h0
  refine ⟨Nat.le_of_ble_eq_true rfl, ?_⟩
  cases h
  have ek : (([49, 46, 122, 46, 65, 66, 49, 46, 49, 48, 48, 48, 46, 52, 54, 48, 48] : List UInt8) == [49, 46, 122, 46, 65, 66, 49, 46, 49, 48, 48, 48, 46, 52, 54, 48, 48]) = true := by decide
  have hc := Nat.zero_add 0
  repeat' (first | simp only [hc, Tryz.f10, SX, wk1, wk2, wk3, wk4, wk5, wk6, wk7, wk8, wk9, wk10, wk11, wk12, wk13, wk14, ek, AB, PL, RG, LP, TY, simprocAttr, ↓reduceIte, forall_const, eq_self, ne_eq, Option.some.injEq, beq_self_eq_true] | ((first | apply fin_ndec | apply fin_dec | apply cnd_ndec | apply cnd_dec' | apply fin_nsplit | apply fin_split | apply cnd_nsplit | apply cnd_split) <;> intro hc) | refine blk_exit_id ?_)

end
end Go.Ab
