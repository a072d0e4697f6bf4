/-
  Texts of the layer and of the laws, put together: AbShS, AbSo4. No law is stated here.
-/
import Derived.Shelf.SlLaysF0
import Derived.Test.YtckjmdppjealdaaGreatDoorProg
import Derived.Test.YtckjmdppjealdaaGreatDoorAbVol31
import Derived.Test.YtckjmdppjealdaaGreatDoorAbVol32
import Derived.Test.YtckjmdppjealdaaGreatDoorAbVol33
set_option linter.unusedSimpArgs false
set_option linter.unusedVariables false
set_option maxRecDepth 100000

/-
  The laying of slices.SortFunc at this program. Written by the kit's lay-plain.mjs (tools/sortlay.sh).
-/
namespace Go.Proofs
open Go.Shelf
def Tryz.sortPar_ren : Go.Shelf.Ren := ⟨fun | 6 => 61 | 15 => 78 | 14 => 100 | 28 => 114 | 29 => 115 | 20 => 134 | 21 => 135 | 22 => 136 | 23 => 137 | 24 => 138 | 25 => 139 | 26 => 140 | 27 => 141 | 46 => 159 | 47 => 143 | 48 => 144 | 49 => 160 | 50 => 161 | 57 => 174 | n => n, fun | 22 => 37 | 24 => 24 | 25 => 101 | 3 => 3 | 39 => 115 | 0 => 0 | 53 => 155 | 55 => 157 | 4 => 4 | 46 => 149 | 45 => 148 | 50 => 83 | 5 => 5 | 9 => 9 | 66 => 176 | 70 => 180 | 76 => 191 | 77 => 192 | n => n, fun | n => n⟩
theorem Tryz.sortPar : Go.Proofs.SlLaysF0.n6 Tryz.prog Tryz.sortPar_ren := {
  mixed := by kernel_rfl
  f6 := ⟨Tryz.f61.name, by decide, Tryz.func61.trans (congrArg some (by kernel_rfl))⟩
  f14 := ⟨Tryz.f100.name, by decide, Tryz.func100.trans (congrArg some (by kernel_rfl))⟩
  f15 := Tryz.func78.trans (congrArg some (by kernel_rfl))
  f20 := ⟨Tryz.f134.name, by decide, Tryz.func134.trans (congrArg some (by kernel_rfl))⟩
  f21 := ⟨Tryz.f135.name, by decide, Tryz.func135.trans (congrArg some (by kernel_rfl))⟩
  f22 := ⟨Tryz.f136.name, by decide, Tryz.func136.trans (congrArg some (by kernel_rfl))⟩
  f23 := ⟨Tryz.f137.name, by decide, Tryz.func137.trans (congrArg some (by kernel_rfl))⟩
  f24 := ⟨Tryz.f138.name, by decide, Tryz.func138.trans (congrArg some (by kernel_rfl))⟩
  f25 := ⟨Tryz.f139.name, by decide, Tryz.func139.trans (congrArg some (by kernel_rfl))⟩
  f26 := ⟨Tryz.f140.name, by decide, Tryz.func140.trans (congrArg some (by kernel_rfl))⟩
  f27 := ⟨Tryz.f141.name, by decide, Tryz.func141.trans (congrArg some (by kernel_rfl))⟩
  f28 := Tryz.func114.trans (congrArg some (by kernel_rfl))
  f29 := Tryz.func115.trans (congrArg some (by kernel_rfl))
  f46 := ⟨Tryz.f159.name, by decide, Tryz.func159.trans (congrArg some (by kernel_rfl))⟩
  f47 := Tryz.func143.trans (congrArg some (by kernel_rfl))
  f48 := Tryz.func144.trans (congrArg some (by kernel_rfl))
  f49 := ⟨Tryz.f160.name, by decide, Tryz.func160.trans (congrArg some (by kernel_rfl))⟩
  f50 := ⟨Tryz.f161.name, by decide, Tryz.func161.trans (congrArg some (by kernel_rfl))⟩
  f57 := ⟨Tryz.f174.name, by decide, Tryz.func174.trans (congrArg some (by kernel_rfl))⟩
  t0 := Tryz.underlying0
  a0 := Tryz.isAgg0
  z0 := Tryz.sizeOf0
  v0 := Tryz.zeroValue0
  t3 := Tryz.underlying3
  a3 := Tryz.isAgg3
  z3 := Tryz.sizeOf3
  v3 := Tryz.zeroValue3
  t4 := Tryz.underlying4
  a4 := Tryz.isAgg4
  z4 := Tryz.sizeOf4
  v4 := Tryz.zeroValue4
  t5 := Tryz.underlying5
  a5 := Tryz.isAgg5
  z5 := Tryz.sizeOf5
  v5 := Tryz.zeroValue5
  t9 := Tryz.underlying9
  a9 := Tryz.isAgg9
  z9 := Tryz.sizeOf9
  v9 := Tryz.zeroValue9
  t22 := Tryz.underlying37
  a22 := Tryz.isAgg37
  z22 := Tryz.sizeOf37
  v22 := Tryz.zeroValue37
  t25 := Tryz.underlying101
  a25 := Tryz.isAgg101
  z25 := Tryz.sizeOf101
  v25 := Tryz.zeroValue101
  t39 := Tryz.underlying115
  a39 := Tryz.isAgg115
  z39 := Tryz.sizeOf115
  v39 := Tryz.zeroValue115
  t45 := Tryz.underlying148
  a45 := Tryz.isAgg148
  z45 := Tryz.sizeOf148
  v45 := Tryz.zeroValue148
  t46 := Tryz.underlying149
  a46 := Tryz.isAgg149
  z46 := Tryz.sizeOf149
  v46 := Tryz.zeroValue149
  t50 := Tryz.underlying83
  a50 := Tryz.isAgg83
  z50 := Tryz.sizeOf83
  v50 := Tryz.zeroValue83
  t53 := Tryz.underlying155
  a53 := Tryz.isAgg155
  z53 := Tryz.sizeOf155
  v53 := Tryz.zeroValue155
  t55 := Tryz.underlying157
  a55 := Tryz.isAgg157
  z55 := Tryz.sizeOf157
  v55 := Tryz.zeroValue157
  t66 := Tryz.underlying176
  a66 := Tryz.isAgg176
  z66 := Tryz.sizeOf176
  v66 := Tryz.zeroValue176
  t70 := Tryz.underlying180
  a70 := Tryz.isAgg180
  z70 := Tryz.sizeOf180
  v70 := Tryz.zeroValue180
  t76 := Tryz.underlying191
  a76 := Tryz.isAgg191
  z76 := Tryz.sizeOf191
  v76 := Tryz.zeroValue191
  t77 := Tryz.underlying192
  a77 := Tryz.isAgg192
  z77 := Tryz.sizeOf192
  v77 := Tryz.zeroValue192 }
end Go.Proofs

/-
  session.Sort.
-/
namespace Go.Ab
open Go.RowKit Go.Proofs Go.Lib Go.Sort

instance : Inhabited Par := ⟨Par.nil⟩

theorem ltOf_ordP (x y : Par) : ltOf ordP x y = decide (ordP x y < 0) := rfl
theorem swo_ordP : SWO (ltOf ordP) where
  irrefl x := by
    rw [ltOf_ordP]
    exact decide_eq_false (ordP_irr x)
  trans x y z h1 h2 := by
    rw [ltOf_ordP] at *
    exact decide_eq_true (cmp_ordP.lt x y z (of_decide_eq_true h1) (of_decide_eq_true h2))
  ntrans x y z h1 h2 := by
    rw [ltOf_ordP] at *
    have h1 := of_decide_eq_false h1
    have h2 := of_decide_eq_false h2
    refine decide_eq_false fun h => ?_
    have a1 := cmp_ordP.anti y x
    have a2 := cmp_ordP.anti z y
    have b1 : ordP y x < 0 ∨ ordP x y = 0 := by omega
    have b2 : ordP z y < 0 ∨ ordP y z = 0 := by omega
    rcases b1 with b1 | b1
    · exact h2 (cmp_ordP.lt _ _ _ b1 h)
    · exact h2 (cmp_ordP.el _ _ _ (cmp_ordP.sym b1) h)
theorem ordP_both (x y : Par) (h1 : ltOf ordP x y = false) (h2 : ltOf ordP y x = false) : x = y := by
  rw [ltOf_ordP] at *
  have h1 := of_decide_eq_false h1
  have h2 := of_decide_eq_false h2
  have a1 := cmp_ordP.anti y x
  exact ordP_zero.1 (by omega)

/-- Sorted and compacted. -/
theorem sort_comp (ps : List Par) : compP (sortBy ordP ps) = sortR ps := by
  refine sort_same ?_ fun x => (List.mergeSort_perm _ _).mem_iff
  have h := List.pairwise_mergeSort (le := fun x y : Par => !(ltOf ordP) y x) (fun a b c h1 h2 => ?_) (fun a b => ?_) ps
  · refine h.imp fun {a b} hab => ?_
    rw [ltOf_ordP] at hab
    have := cmp_ordP.anti b a
    simp at hab
    omega
  · simp only [Bool.not_eq_true'] at h1 h2 ⊢
    exact swo_ordP.ntrans _ _ _ h2 h1
  · rw [Bool.or_eq_true, Bool.not_eq_true', Bool.not_eq_true', ltOf_ordP, ltOf_ordP]
    by_cases h1 : ordP b a < 0
    · right
      refine decide_eq_false fun h2 => ?_
      have := cmp_ordP.anti a b
      omega
    · left
      exact decide_eq_false h1

noncomputable section
open Classical

def sfR (p : Hp × Nat × List Par) (args : List AV) (h : Hp) : Prop := args = [.v (.c (.msl p.2.1 p.2.2.length)), .v (.c (.fn 62 []))] ∧ h = p.1 ∧ p.1[p.2.1]? = some (.tok p.2.2.length 5 (some (pc p.2.2)))
theorem sfR_inj {a b : Hp × Nat × List Par} {args : List AV} {h : Hp} (ha : sfR a args h) (hb : sfR b args h) : b = a := by
  obtain ⟨h1, h2, h3⟩ := ha
  obtain ⟨g1, g2, g3⟩ := hb
  rw [h1] at g1
  simp only [List.cons.injEq, and_true] at g1
  exact cmR_inj (args := [.v (.c (.msl a.2.1 a.2.2.length))]) (h := h) ⟨rfl, h2, h3⟩ ⟨by rw [g1], g2, g3⟩

def sfP_k : List AV → Hp → Option COut := kR sfR fun p => if p.2.2.length ≤ 1000000000 then some (.ret (.tup []) (p.1.set p.2.1 (.tok p.2.2.length 5 (some (pc (sortBy ordP p.2.2)))))) else none
theorem sfP_kok : ImpC Tryz.prog Gt 61 sfP_k := by
  intro args h out h0
  obtain ⟨⟨h', id, ps⟩, ⟨rfl, rfl, hid⟩, hg⟩ := kR_inv h0
  dsimp only at hid hg ⊢
  split at hg
  · rename_i hl
    cases hg
    refine fok_sort Tryz.sortPar (by decide) Tryz.isAgg24 Tryz.sizeOf24 dsc_ok Par.row (fun _ => rfl) (fun x d hd => ?_) ordP (fun x y => ?_) swo_ordP ordP_both ps (by omega) hid
    · simp [Par.row] at hd
      rcases hd with rfl | rfl | rfl | rfl | rfl <;> rfl
    · have := mE_eq encPP_inj (g := fun p => some [DV.i (ordP p.1 p.2)]) (a := (x, y))
      exact this
  · cases hg

def ssort_m : List PA → Option (List PA) := mE encPs fun p => if p.2.length ≤ 1000000 then some [.c (.sl false ((sortR p.2).map Par.row))] else none

theorem row_flat (ps : List Par) : ((ps.map Par.row).flatten.map C1.d) = pc ps := by rw [pc, List.flatMap_def]
theorem ssort_ok : PureC Tryz.prog Gt 31 ssort_m := by
  refine pure_of_awpS (X := ctxN Tryz.prog Gt [] [(60, clP_k), (61, sfP_k), (66, cmP_k)] [] none) Tryz.func31 rfl rfl (by kernel_rfl) (by kernel_rfl) (kok_n AllOk.nil (AllK.cons clP_kok (AllK.cons sfP_kok (AllK.cons cmP_kok AllK.nil))) AllN.nil) ?_
  intro args r h0
  obtain ⟨⟨f, ps⟩, rfl, h⟩ := mE_inv h0
  refine ⟨Nat.le_of_ble_eq_true rfl, ?_⟩
  split at h
  · rename_i hl
    dsimp only at hl h
    cases h
    have f1 : clP_k [.v (.c (.d (.sl f (ps.map Par.row))))] [] = some (.ret (.v (.c (.msl 0 ps.length))) [.tok ps.length 5 (some (pc ps))]) := by
      have := clA_ok (z := 5) (b := 56) (h := []) (f := f) (es := ps.map Par.row) (fun r hr => by obtain ⟨x, _, rfl⟩ := List.mem_map.1 hr; rfl) (by simp; omega) (by simp; omega)
      rw [row_flat, List.length_map] at this
      exact this
    have f2 : sfP_k [.v (.c (.msl 0 ps.length)), .v (.c (.fn 62 []))] [.tok ps.length 5 (some (pc ps))] = some (.ret (.tup []) [.tok ps.length 5 (some (pc (sortBy ordP ps)))]) := by
      have := kR_eq (R := sfR) (g := fun p => if p.2.2.length ≤ 1000000000 then some (.ret (.tup []) (p.1.set p.2.1 (.tok p.2.2.length 5 (some (pc (sortBy ordP p.2.2)))))) else none) (a := ([.tok ps.length 5 (some (pc ps))], 0, ps)) (args := [.v (.c (.msl 0 ps.length)), .v (.c (.fn 62 []))]) (fun b hb => by rw [sfR_inj (a := ([.tok ps.length 5 (some (pc ps))], 0, ps)) ⟨rfl, rfl, rfl⟩ hb]) ⟨rfl, rfl, rfl⟩
      exact this.trans (if_pos (by simp only []; omega))
    have hsl : (sortBy ordP ps).length = ps.length := (List.mergeSort_perm _ _).length_eq
    have f3 : cmP_k [.v (.c (.msl 0 ps.length))] [.tok ps.length 5 (some (pc (sortBy ordP ps)))] = some (.ret (.v (.c (.d (.sl false ((sortR ps).map Par.row))))) [.tok ps.length 5 none]) := by
      have := kR_eq (R := cmR) (g := fun p => if p.2.2.length ≤ 1000000000 then some (.ret (.v (.c (.d (.sl false ((compP p.2.2).map Par.row))))) (p.1.set p.2.1 (.tok p.2.2.length 5 none))) else none) (a := ([.tok (sortBy ordP ps).length 5 (some (pc (sortBy ordP ps)))], 0, sortBy ordP ps)) (args := [.v (.c (.msl 0 (sortBy ordP ps).length))]) (fun b hb => by rw [cmR_inj (a := ([.tok (sortBy ordP ps).length 5 (some (pc (sortBy ordP ps)))], 0, sortBy ordP ps)) ⟨rfl, rfl, rfl⟩ hb]) ⟨rfl, rfl, rfl⟩
      rw [if_pos (by simp only []; omega), sort_comp, hsl] at this
      exact this
    have hc := Nat.zero_add 0
    repeat' (first | simp only [hc, AS, Tryz.f31, encPs, NX, NPV, SX, f1, f2, f3, AB, PL, RG, LP, TY, simprocAttr, ↓reduceIte, forall_const, eq_self, ne_eq, Option.some.injEq, beq_self_eq_true] | ((first | apply fin_ndec | apply fin_dec | apply cnd_ndec | apply cnd_dec' | apply fin_nsplit | apply fin_split | apply cnd_nsplit | apply cnd_split) <;> intro hc) | refine seqS_id ?_ | refine blk_exit_id ?_)
  · cases h

end
end Go.Ab
