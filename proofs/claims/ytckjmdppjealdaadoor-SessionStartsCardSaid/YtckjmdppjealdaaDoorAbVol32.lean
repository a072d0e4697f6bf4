/-
  Texts of the layer and of the laws, put together: AbShS, AbSo4. No law is stated here.
-/
import Derived.Shelf.SlLaysF0
import Derived.Test.YtckjmdppjealdaaDoorProg
import Derived.Test.YtckjmdppjealdaaDoorAbVol29
import Derived.Test.YtckjmdppjealdaaDoorAbVol30
import Derived.Test.YtckjmdppjealdaaDoorAbVol31
set_option linter.unusedSimpArgs false
set_option linter.unusedVariables false
set_option maxRecDepth 100000

/-
  The laying of slices.SortFunc at this program. Written by the kit's lay-plain.mjs (tools/sortlay.sh).
-/
namespace Go.Proofs
open Go.Shelf
def Tryd.sortPar_ren : Go.Shelf.Ren := ⟨fun | 6 => 39 | 15 => 61 | 14 => 60 | 28 => 88 | 29 => 89 | 20 => 80 | 21 => 81 | 22 => 82 | 23 => 83 | 24 => 84 | 25 => 85 | 26 => 86 | 27 => 87 | 46 => 93 | 47 => 94 | 48 => 95 | 49 => 96 | 50 => 97 | 57 => 102 | n => n, fun | 22 => 33 | 24 => 23 | 25 => 72 | 3 => 3 | 39 => 95 | 0 => 0 | 53 => 118 | 55 => 120 | 4 => 4 | 46 => 111 | 45 => 110 | 50 => 115 | 5 => 5 | 9 => 9 | 66 => 125 | 70 => 129 | 76 => 135 | 77 => 136 | n => n, fun | n => n⟩
theorem Tryd.sortPar : Go.Proofs.SlLaysF0.n6 Tryd.prog Tryd.sortPar_ren := {
  mixed := by kernel_rfl
  f6 := ⟨Tryd.f39.name, by decide, Tryd.func39.trans (congrArg some (by kernel_rfl))⟩
  f14 := ⟨Tryd.f60.name, by decide, Tryd.func60.trans (congrArg some (by kernel_rfl))⟩
  f15 := Tryd.func61.trans (congrArg some (by kernel_rfl))
  f20 := ⟨Tryd.f80.name, by decide, Tryd.func80.trans (congrArg some (by kernel_rfl))⟩
  f21 := ⟨Tryd.f81.name, by decide, Tryd.func81.trans (congrArg some (by kernel_rfl))⟩
  f22 := ⟨Tryd.f82.name, by decide, Tryd.func82.trans (congrArg some (by kernel_rfl))⟩
  f23 := ⟨Tryd.f83.name, by decide, Tryd.func83.trans (congrArg some (by kernel_rfl))⟩
  f24 := ⟨Tryd.f84.name, by decide, Tryd.func84.trans (congrArg some (by kernel_rfl))⟩
  f25 := ⟨Tryd.f85.name, by decide, Tryd.func85.trans (congrArg some (by kernel_rfl))⟩
  f26 := ⟨Tryd.f86.name, by decide, Tryd.func86.trans (congrArg some (by kernel_rfl))⟩
  f27 := ⟨Tryd.f87.name, by decide, Tryd.func87.trans (congrArg some (by kernel_rfl))⟩
  f28 := Tryd.func88.trans (congrArg some (by kernel_rfl))
  f29 := Tryd.func89.trans (congrArg some (by kernel_rfl))
  f46 := ⟨Tryd.f93.name, by decide, Tryd.func93.trans (congrArg some (by kernel_rfl))⟩
  f47 := Tryd.func94.trans (congrArg some (by kernel_rfl))
  f48 := Tryd.func95.trans (congrArg some (by kernel_rfl))
  f49 := ⟨Tryd.f96.name, by decide, Tryd.func96.trans (congrArg some (by kernel_rfl))⟩
  f50 := ⟨Tryd.f97.name, by decide, Tryd.func97.trans (congrArg some (by kernel_rfl))⟩
  f57 := ⟨Tryd.f102.name, by decide, Tryd.func102.trans (congrArg some (by kernel_rfl))⟩
  t0 := Tryd.underlying0
  a0 := Tryd.isAgg0
  z0 := Tryd.sizeOf0
  v0 := Tryd.zeroValue0
  t3 := Tryd.underlying3
  a3 := Tryd.isAgg3
  z3 := Tryd.sizeOf3
  v3 := Tryd.zeroValue3
  t4 := Tryd.underlying4
  a4 := Tryd.isAgg4
  z4 := Tryd.sizeOf4
  v4 := Tryd.zeroValue4
  t5 := Tryd.underlying5
  a5 := Tryd.isAgg5
  z5 := Tryd.sizeOf5
  v5 := Tryd.zeroValue5
  t9 := Tryd.underlying9
  a9 := Tryd.isAgg9
  z9 := Tryd.sizeOf9
  v9 := Tryd.zeroValue9
  t22 := Tryd.underlying33
  a22 := Tryd.isAgg33
  z22 := Tryd.sizeOf33
  v22 := Tryd.zeroValue33
  t25 := Tryd.underlying72
  a25 := Tryd.isAgg72
  z25 := Tryd.sizeOf72
  v25 := Tryd.zeroValue72
  t39 := Tryd.underlying95
  a39 := Tryd.isAgg95
  z39 := Tryd.sizeOf95
  v39 := Tryd.zeroValue95
  t45 := Tryd.underlying110
  a45 := Tryd.isAgg110
  z45 := Tryd.sizeOf110
  v45 := Tryd.zeroValue110
  t46 := Tryd.underlying111
  a46 := Tryd.isAgg111
  z46 := Tryd.sizeOf111
  v46 := Tryd.zeroValue111
  t50 := Tryd.underlying115
  a50 := Tryd.isAgg115
  z50 := Tryd.sizeOf115
  v50 := Tryd.zeroValue115
  t53 := Tryd.underlying118
  a53 := Tryd.isAgg118
  z53 := Tryd.sizeOf118
  v53 := Tryd.zeroValue118
  t55 := Tryd.underlying120
  a55 := Tryd.isAgg120
  z55 := Tryd.sizeOf120
  v55 := Tryd.zeroValue120
  t66 := Tryd.underlying125
  a66 := Tryd.isAgg125
  z66 := Tryd.sizeOf125
  v66 := Tryd.zeroValue125
  t70 := Tryd.underlying129
  a70 := Tryd.isAgg129
  z70 := Tryd.sizeOf129
  v70 := Tryd.zeroValue129
  t76 := Tryd.underlying135
  a76 := Tryd.isAgg135
  z76 := Tryd.sizeOf135
  v76 := Tryd.zeroValue135
  t77 := Tryd.underlying136
  a77 := Tryd.isAgg136
  z77 := Tryd.sizeOf136
  v77 := Tryd.zeroValue136 }
end Go.Proofs

/-
  session.Sort.
-/
namespace Go.Ab
open Go.RowKit Go.Proofs Go.Lib Go.Sort

instance : Inhabited Par := ⟨Par.nil⟩

theorem ltOf_ordP (x y : Par) : ltOf ordP x y = decide (ordP x y < 0) := rfl
theorem swo_ordP : SWO (ltOf ordP) where
  irrefl x := by
    rw [ltOf_ordP]
    exact decide_eq_false (ordP_irr x)
  trans x y z h1 h2 := by
    rw [ltOf_ordP] at *
    exact decide_eq_true (cmp_ordP.lt x y z (of_decide_eq_true h1) (of_decide_eq_true h2))
  ntrans x y z h1 h2 := by
    rw [ltOf_ordP] at *
    have h1 := of_decide_eq_false h1
    have h2 := of_decide_eq_false h2
    refine decide_eq_false fun h => ?_
    have a1 := cmp_ordP.anti y x
    have a2 := cmp_ordP.anti z y
    have b1 : ordP y x < 0 ∨ ordP x y = 0 := by omega
    have b2 : ordP z y < 0 ∨ ordP y z = 0 := by omega
    rcases b1 with b1 | b1
    · exact h2 (cmp_ordP.lt _ _ _ b1 h)
    · exact h2 (cmp_ordP.el _ _ _ (cmp_ordP.sym b1) h)
theorem ordP_both (x y : Par) (h1 : ltOf ordP x y = false) (h2 : ltOf ordP y x = false) : x = y := by
  rw [ltOf_ordP] at *
  have h1 := of_decide_eq_false h1
  have h2 := of_decide_eq_false h2
  have a1 := cmp_ordP.anti y x
  exact ordP_zero.1 (by omega)

/-- Sorted and compacted. -/
theorem sort_comp (ps : List Par) : compP (sortBy ordP ps) = sortR ps := by
  refine sort_same ?_ fun x => (List.mergeSort_perm _ _).mem_iff
  have h := List.pairwise_mergeSort (le := fun x y : Par => !(ltOf ordP) y x) (fun a b c h1 h2 => ?_) (fun a b => ?_) ps
  · refine h.imp fun {a b} hab => ?_
    rw [ltOf_ordP] at hab
    have := cmp_ordP.anti b a
    simp at hab
    omega
  · simp only [Bool.not_eq_true'] at h1 h2 ⊢
    exact swo_ordP.ntrans _ _ _ h2 h1
  · rw [Bool.or_eq_true, Bool.not_eq_true', Bool.not_eq_true', ltOf_ordP, ltOf_ordP]
    by_cases h1 : ordP b a < 0
    · right
      refine decide_eq_false fun h2 => ?_
      have := cmp_ordP.anti a b
      omega
    · left
      exact decide_eq_false h1

noncomputable section
open Classical

def sfR (p : Hp × Nat × List Par) (args : List AV) (h : Hp) : Prop := args = [.v (.c (.msl p.2.1 p.2.2.length)), .v (.c (.fn 40 []))] ∧ h = p.1 ∧ p.1[p.2.1]? = some (.tok p.2.2.length 5 (some (pc p.2.2)))
theorem sfR_inj {a b : Hp × Nat × List Par} {args : List AV} {h : Hp} (ha : sfR a args h) (hb : sfR b args h) : b = a := by
  obtain ⟨h1, h2, h3⟩ := ha
  obtain ⟨g1, g2, g3⟩ := hb
  rw [h1] at g1
  simp only [List.cons.injEq, and_true] at g1
  exact cmR_inj (args := [.v (.c (.msl a.2.1 a.2.2.length))]) (h := h) ⟨rfl, h2, h3⟩ ⟨by rw [g1], g2, g3⟩

def sfP_k : List AV → Hp → Option COut := kR sfR fun p => if p.2.2.length ≤ 1000000000 then some (.ret (.tup []) (p.1.set p.2.1 (.tok p.2.2.length 5 (some (pc (sortBy ordP p.2.2)))))) else none
theorem sfP_kok : ImpC Tryd.prog Gt 39 sfP_k := by
  intro args h out h0
  obtain ⟨⟨h', id, ps⟩, ⟨rfl, rfl, hid⟩, hg⟩ := kR_inv h0
  dsimp only at hid hg ⊢
  split at hg
  · rename_i hl
    cases hg
    refine fok_sort Tryd.sortPar (by decide) Tryd.isAgg23 Tryd.sizeOf23 dsc_ok Par.row (fun _ => rfl) (fun x d hd => ?_) ordP (fun x y => ?_) swo_ordP ordP_both ps (by omega) hid
    · simp [Par.row] at hd
      rcases hd with rfl | rfl | rfl | rfl | rfl <;> rfl
    · have := mE_eq encPP_inj (g := fun p => some [DV.i (ordP p.1 p.2)]) (a := (x, y))
      exact this
  · cases hg

def ssort_m : List PA → Option (List PA) := mE encPs fun p => if p.2.length ≤ 1000000 then some [.c (.sl false ((sortR p.2).map Par.row))] else none

theorem row_flat (ps : List Par) : ((ps.map Par.row).flatten.map C1.d) = pc ps := by rw [pc, List.flatMap_def]
theorem ssort_ok : PureC Tryd.prog Gt 18 ssort_m := by
  refine pure_of_awpS (X := ctxN Tryd.prog Gt [] [(38, clP_k), (39, sfP_k), (44, cmP_k)] [] none) Tryd.func18 rfl rfl (by kernel_rfl) (by kernel_rfl) (kok_n AllOk.nil (AllK.cons clP_kok (AllK.cons sfP_kok (AllK.cons cmP_kok AllK.nil))) AllN.nil) ?_
  intro args r h0
  obtain ⟨⟨f, ps⟩, rfl, h⟩ := mE_inv h0
  refine ⟨Nat.le_of_ble_eq_true rfl, ?_⟩
  split at h
  · rename_i hl
    dsimp only at hl h
    cases h
    have f1 : clP_k [.v (.c (.d (.sl f (ps.map Par.row))))] [] = some (.ret (.v (.c (.msl 0 ps.length))) [.tok ps.length 5 (some (pc ps))]) := by
      have := clA_ok (z := 5) (b := 56) (h := []) (f := f) (es := ps.map Par.row) (fun r hr => by obtain ⟨x, _, rfl⟩ := List.mem_map.1 hr; rfl) (by simp; omega) (by simp; omega)
      rw [row_flat, List.length_map] at this
      exact this
    have f2 : sfP_k [.v (.c (.msl 0 ps.length)), .v (.c (.fn 40 []))] [.tok ps.length 5 (some (pc ps))] = some (.ret (.tup []) [.tok ps.length 5 (some (pc (sortBy ordP ps)))]) := by
      have := kR_eq (R := sfR) (g := fun p => if p.2.2.length ≤ 1000000000 then some (.ret (.tup []) (p.1.set p.2.1 (.tok p.2.2.length 5 (some (pc (sortBy ordP p.2.2)))))) else none) (a := ([.tok ps.length 5 (some (pc ps))], 0, ps)) (args := [.v (.c (.msl 0 ps.length)), .v (.c (.fn 40 []))]) (fun b hb => by rw [sfR_inj (a := ([.tok ps.length 5 (some (pc ps))], 0, ps)) ⟨rfl, rfl, rfl⟩ hb]) ⟨rfl, rfl, rfl⟩
      exact this.trans (if_pos (by simp only []; omega))
    have hsl : (sortBy ordP ps).length = ps.length := (List.mergeSort_perm _ _).length_eq
    have f3 : cmP_k [.v (.c (.msl 0 ps.length))] [.tok ps.length 5 (some (pc (sortBy ordP ps)))] = some (.ret (.v (.c (.d (.sl false ((sortR ps).map Par.row))))) [.tok ps.length 5 none]) := by
      have := kR_eq (R := cmR) (g := fun p => if p.2.2.length ≤ 1000000000 then some (.ret (.v (.c (.d (.sl false ((compP p.2.2).map Par.row))))) (p.1.set p.2.1 (.tok p.2.2.length 5 none))) else none) (a := ([.tok (sortBy ordP ps).length 5 (some (pc (sortBy ordP ps)))], 0, sortBy ordP ps)) (args := [.v (.c (.msl 0 (sortBy ordP ps).length))]) (fun b hb => by rw [cmR_inj (a := ([.tok (sortBy ordP ps).length 5 (some (pc (sortBy ordP ps)))], 0, sortBy ordP ps)) ⟨rfl, rfl, rfl⟩ hb]) ⟨rfl, rfl, rfl⟩
      rw [if_pos (by simp only []; omega), sort_comp, hsl] at this
      exact this
    have hc := Nat.zero_add 0
    repeat' (first | simp only [hc, AS, Tryd.f18, encPs, NX, NPV, SX, f1, f2, f3, AB, PL, RG, LP, TY, simprocAttr, ↓reduceIte, forall_const, eq_self, ne_eq, Option.some.injEq, beq_self_eq_true] | ((first | apply fin_ndec | apply fin_dec | apply cnd_ndec | apply cnd_dec' | apply fin_nsplit | apply fin_split | apply cnd_nsplit | apply cnd_split) <;> intro hc) | refine seqS_id ?_ | refine blk_exit_id ?_)
  · cases h

end
end Go.Ab
