/-
  Texts of the layer and of the laws, put together: AbShS, AbSo4, AbU13, AbU17.
-/
import Derived.Shelf.SlLaysF0
import Derived.Test.YtdoofgbeajkpaaaGreatDoorProg
import Derived.Test.YtdoofgbeajkpaaaGreatDoorAbWD30
import Derived.Test.YtdoofgbeajkpaaaGreatDoorAbWD31
import Derived.Test.YtdoofgbeajkpaaaGreatDoorAbWD22
import Derived.Test.YtdoofgbeajkpaaaGreatDoorAbWD29
set_option linter.unusedSimpArgs false
set_option linter.unusedVariables false
set_option maxRecDepth 100000
namespace Go.Proofs
open Go.Shelf
def Tryz.sortPar_ren : Go.Shelf.Ren := ⟨fun | 6 => 83 | 15 => 122 | 14 => 121 | 28 => 145 | 29 => 146 | 20 => 137 | 21 => 138 | 22 => 139 | 23 => 140 | 24 => 141 | 25 => 142 | 26 => 143 | 27 => 144 | 46 => 155 | 47 => 156 | 48 => 157 | 49 => 158 | 50 => 159 | 57 => 171 | n => n, fun | 22 => 24 | 24 => 79 | 25 => 126 | 3 => 3 | 39 => 156 | 0 => 0 | 53 => 181 | 55 => 183 | 4 => 4 | 46 => 175 | 45 => 174 | 50 => 101 | 5 => 5 | 9 => 9 | 66 => 187 | 70 => 191 | 76 => 202 | 77 => 74 | n => n, fun | n => n⟩
theorem Tryz.sortPar : Go.Proofs.SlLaysF0.n6 Tryz.prog Tryz.sortPar_ren := {
  mixed := by kernel_rfl
  f6 := ⟨Tryz.f83.name, by decide, Tryz.func83.trans (congrArg some (by kernel_rfl))⟩
  f14 := ⟨Tryz.f121.name, by decide, Tryz.func121.trans (congrArg some (by kernel_rfl))⟩
  f15 := Tryz.func122.trans (congrArg some (by kernel_rfl))
  f20 := ⟨Tryz.f137.name, by decide, Tryz.func137.trans (congrArg some (by kernel_rfl))⟩
  f21 := ⟨Tryz.f138.name, by decide, Tryz.func138.trans (congrArg some (by kernel_rfl))⟩
  f22 := ⟨Tryz.f139.name, by decide, Tryz.func139.trans (congrArg some (by kernel_rfl))⟩
  f23 := ⟨Tryz.f140.name, by decide, Tryz.func140.trans (congrArg some (by kernel_rfl))⟩
  f24 := ⟨Tryz.f141.name, by decide, Tryz.func141.trans (congrArg some (by kernel_rfl))⟩
  f25 := ⟨Tryz.f142.name, by decide, Tryz.func142.trans (congrArg some (by kernel_rfl))⟩
  f26 := ⟨Tryz.f143.name, by decide, Tryz.func143.trans (congrArg some (by kernel_rfl))⟩
  f27 := ⟨Tryz.f144.name, by decide, Tryz.func144.trans (congrArg some (by kernel_rfl))⟩
  f28 := Tryz.func145.trans (congrArg some (by kernel_rfl))
  f29 := Tryz.func146.trans (congrArg some (by kernel_rfl))
  f46 := ⟨Tryz.f155.name, by decide, Tryz.func155.trans (congrArg some (by kernel_rfl))⟩
  f47 := Tryz.func156.trans (congrArg some (by kernel_rfl))
  f48 := Tryz.func157.trans (congrArg some (by kernel_rfl))
  f49 := ⟨Tryz.f158.name, by decide, Tryz.func158.trans (congrArg some (by kernel_rfl))⟩
  f50 := ⟨Tryz.f159.name, by decide, Tryz.func159.trans (congrArg some (by kernel_rfl))⟩
  f57 := ⟨Tryz.f171.name, by decide, Tryz.func171.trans (congrArg some (by kernel_rfl))⟩
  t0 := Tryz.underlying0
  a0 := Tryz.isAgg0
  z0 := Tryz.sizeOf0
  v0 := Tryz.zeroValue0
  t3 := Tryz.underlying3
  a3 := Tryz.isAgg3
  z3 := Tryz.sizeOf3
  v3 := Tryz.zeroValue3
  t4 := Tryz.underlying4
  a4 := Tryz.isAgg4
  z4 := Tryz.sizeOf4
  v4 := Tryz.zeroValue4
  t5 := Tryz.underlying5
  a5 := Tryz.isAgg5
  z5 := Tryz.sizeOf5
  v5 := Tryz.zeroValue5
  t9 := Tryz.underlying9
  a9 := Tryz.isAgg9
  z9 := Tryz.sizeOf9
  v9 := Tryz.zeroValue9
  t22 := Tryz.underlying24
  a22 := Tryz.isAgg24
  z22 := Tryz.sizeOf24
  v22 := Tryz.zeroValue24
  t25 := Tryz.underlying126
  a25 := Tryz.isAgg126
  z25 := Tryz.sizeOf126
  v25 := Tryz.zeroValue126
  t39 := Tryz.underlying156
  a39 := Tryz.isAgg156
  z39 := Tryz.sizeOf156
  v39 := Tryz.zeroValue156
  t45 := Tryz.underlying174
  a45 := Tryz.isAgg174
  z45 := Tryz.sizeOf174
  v45 := Tryz.zeroValue174
  t46 := Tryz.underlying175
  a46 := Tryz.isAgg175
  z46 := Tryz.sizeOf175
  v46 := Tryz.zeroValue175
  t50 := Tryz.underlying101
  a50 := Tryz.isAgg101
  z50 := Tryz.sizeOf101
  v50 := Tryz.zeroValue101
  t53 := Tryz.underlying181
  a53 := Tryz.isAgg181
  z53 := Tryz.sizeOf181
  v53 := Tryz.zeroValue181
  t55 := Tryz.underlying183
  a55 := Tryz.isAgg183
  z55 := Tryz.sizeOf183
  v55 := Tryz.zeroValue183
  t66 := Tryz.underlying187
  a66 := Tryz.isAgg187
  z66 := Tryz.sizeOf187
  v66 := Tryz.zeroValue187
  t70 := Tryz.underlying191
  a70 := Tryz.isAgg191
  z70 := Tryz.sizeOf191
  v70 := Tryz.zeroValue191
  t76 := Tryz.underlying202
  a76 := Tryz.isAgg202
  z76 := Tryz.sizeOf202
  v76 := Tryz.zeroValue202
  t77 := Tryz.underlying74
  a77 := Tryz.isAgg74
  z77 := Tryz.sizeOf74
  v77 := Tryz.zeroValue74 }
end Go.Proofs
namespace Go.Ab
open Go.RowKit Go.Proofs Go.Lib Go.Sort
instance : Inhabited Par := ⟨Par.nil⟩
theorem ltOf_ordP (x y : Par) : ltOf ordP x y = decide (ordP x y < 0) := rfl
theorem swo_ordP : SWO (ltOf ordP) where
  irrefl x := by
    rw [ltOf_ordP]
    exact decide_eq_false (ordP_irr x)
  trans x y z h1 h2 := by
    rw [ltOf_ordP] at *
    exact decide_eq_true (cmp_ordP.lt x y z (of_decide_eq_true h1) (of_decide_eq_true h2))
  ntrans x y z h1 h2 := by
    rw [ltOf_ordP] at *
    have h1 := of_decide_eq_false h1
    have h2 := of_decide_eq_false h2
    refine decide_eq_false fun h => ?_
    have a1 := cmp_ordP.anti y x
    have a2 := cmp_ordP.anti z y
    have b1 : ordP y x < 0 ∨ ordP x y = 0 := by omega
    have b2 : ordP z y < 0 ∨ ordP y z = 0 := by omega
    rcases b1 with b1 | b1
    · exact h2 (cmp_ordP.lt _ _ _ b1 h)
    exact h2 (cmp_ordP.el _ _ _ (cmp_ordP.sym b1) h)
theorem ordP_both (x y : Par) (h1 : ltOf ordP x y = false) (h2 : ltOf ordP y x = false) : x = y := by
  rw [ltOf_ordP] at *
  have h1 := of_decide_eq_false h1
  have h2 := of_decide_eq_false h2
  have a1 := cmp_ordP.anti y x
  exact ordP_zero.1 (by omega)
theorem sort_comp (ps : List Par) : compP (sortBy ordP ps) = sortR ps := by
  refine sort_same ?_ fun x => (List.mergeSort_perm _ _).mem_iff
  have h := List.pairwise_mergeSort (le := fun x y : Par => !(ltOf ordP) y x) (fun a b c h1 h2 => ?_) (fun a b => ?_) ps
  · refine h.imp fun {a b} hab => ?_
    rw [ltOf_ordP] at hab
    have := cmp_ordP.anti b a
    simp at hab
    omega
  · simp only [Bool.not_eq_true'] at h1 h2 ⊢
    exact swo_ordP.ntrans _ _ _ h2 h1
  rw [Bool.or_eq_true, Bool.not_eq_true', Bool.not_eq_true', ltOf_ordP, ltOf_ordP]
  by_cases h1 : ordP b a < 0
  · right
    refine decide_eq_false fun h2 => ?_
    have := cmp_ordP.anti a b
    omega
  left
  exact decide_eq_false h1
noncomputable section
open Classical
def sfR (p : Hp × Nat × List Par) (args : List AV) (h : Hp) : Prop := args = [.v (.c (.msl p.2.1 p.2.2.length)), .v (.c (.fn 84 []))] ∧ h = p.1 ∧ p.1[p.2.1]? = some (.tok p.2.2.length 5 (some (pc p.2.2)))
theorem sfR_inj {a b : Hp × Nat × List Par} {args : List AV} {h : Hp} (ha : sfR a args h) (hb : sfR b args h) : b = a := by
  obtain ⟨h1, h2, h3⟩ := ha
  obtain ⟨g1, g2, g3⟩ := hb
  rw [h1] at g1
  simp only [List.cons.injEq, and_true] at g1
  exact cmR_inj (args := [.v (.c (.msl a.2.1 a.2.2.length))]) (h := h) ⟨rfl, h2, h3⟩ ⟨by rw [g1], g2, g3⟩
def sfP_k : List AV → Hp → Option COut := kR sfR fun p => if p.2.2.length ≤ 1000000000 then some (.ret (.tup []) (p.1.set p.2.1 (.tok p.2.2.length 5 (some (pc (sortBy ordP p.2.2)))))) else none
theorem sfP_kok : ImpC Tryz.prog Gt 83 sfP_k := by
  intro args h out h0
  obtain ⟨⟨h', id, ps⟩, ⟨rfl, rfl, hid⟩, hg⟩ := kR_inv h0
  dsimp only at hid hg ⊢
  split at hg
  · rename_i hl
    cases hg
    refine fok_sort Tryz.sortPar (by decide) Tryz.isAgg79 Tryz.sizeOf79 dsc_ok Par.row (fun _ => rfl) (fun x d hd => ?_) ordP (fun x y => ?_) swo_ordP ordP_both ps (by omega) hid
    · simp [Par.row] at hd
      rcases hd with rfl | rfl | rfl | rfl | rfl <;> rfl
    have := mE_eq encPP_inj (g := fun p => some [DV.i (ordP p.1 p.2)]) (a := (x, y))
    exact this
  cases hg
def ssort_m : List PA → Option (List PA) := mE encPs fun p => if p.2.length ≤ 1000000 then some [.c (.sl false ((sortR p.2).map Par.row))] else none
theorem row_flat (ps : List Par) : ((ps.map Par.row).flatten.map C1.d) = pc ps := by rw [pc, List.flatMap_def]
theorem ssort_ok : PureC Tryz.prog Gt 44 ssort_m := by
  refine pure_of_awpS (X := ctxN Tryz.prog Gt [] [(82, clP_k), (83, sfP_k), (88, cmP_k)] [] none) Tryz.func44 rfl rfl (by kernel_rfl) (by kernel_rfl) (kok_n AllOk.nil (AllK.cons clP_kok (AllK.cons sfP_kok (AllK.cons cmP_kok AllK.nil))) AllN.nil) ?_
  intro args r h0
  obtain ⟨⟨f, ps⟩, rfl, h⟩ := mE_inv h0
  refine ⟨Nat.le_of_ble_eq_true rfl, ?_⟩
  split at h
  · rename_i hl
    dsimp only at hl h
    cases h
    have f1 : clP_k [.v (.c (.d (.sl f (ps.map Par.row))))] [] = some (.ret (.v (.c (.msl 0 ps.length))) [.tok ps.length 5 (some (pc ps))]) := by
      have := clA_ok (z := 5) (b := 56) (h := []) (f := f) (es := ps.map Par.row) (fun r hr => by obtain ⟨x, _, rfl⟩ := List.mem_map.1 hr; rfl) (by simp; omega) (by simp; omega)
      rw [row_flat, List.length_map] at this
      exact this
    have f2 : sfP_k [.v (.c (.msl 0 ps.length)), .v (.c (.fn 84 []))] [.tok ps.length 5 (some (pc ps))] = some (.ret (.tup []) [.tok ps.length 5 (some (pc (sortBy ordP ps)))]) := by
      have := kR_eq (R := sfR) (g := fun p => if p.2.2.length ≤ 1000000000 then some (.ret (.tup []) (p.1.set p.2.1 (.tok p.2.2.length 5 (some (pc (sortBy ordP p.2.2)))))) else none) (a := ([.tok ps.length 5 (some (pc ps))], 0, ps)) (args := [.v (.c (.msl 0 ps.length)), .v (.c (.fn 84 []))]) (fun b hb => by rw [sfR_inj (a := ([.tok ps.length 5 (some (pc ps))], 0, ps)) ⟨rfl, rfl, rfl⟩ hb]) ⟨rfl, rfl, rfl⟩
      exact this.trans (if_pos (by simp only []; omega))
    have hsl : (sortBy ordP ps).length = ps.length := (List.mergeSort_perm _ _).length_eq
    have f3 : cmP_k [.v (.c (.msl 0 ps.length))] [.tok ps.length 5 (some (pc (sortBy ordP ps)))] = some (.ret (.v (.c (.d (.sl false ((sortR ps).map Par.row))))) [.tok ps.length 5 none]) := by
      have := kR_eq (R := cmR) (g := fun p => if p.2.2.length ≤ 1000000000 then some (.ret (.v (.c (.d (.sl false ((compP p.2.2).map Par.row))))) (p.1.set p.2.1 (.tok p.2.2.length 5 none))) else none) (a := ([.tok (sortBy ordP ps).length 5 (some (pc (sortBy ordP ps)))], 0, sortBy ordP ps)) (args := [.v (.c (.msl 0 (sortBy ordP ps).length))]) (fun b hb => by rw [cmR_inj (a := ([.tok (sortBy ordP ps).length 5 (some (pc (sortBy ordP ps)))], 0, sortBy ordP ps)) ⟨rfl, rfl, rfl⟩ hb]) ⟨rfl, rfl, rfl⟩
      rw [if_pos (by simp only []; omega), sort_comp, hsl] at this
      exact this
    have hc := Nat.zero_add 0
    repeat' (first | simp only [hc, AS, Tryz.f44, encPs, NX, NPV, SX, f1, f2, f3, ZZ, simprocAttr, ↓reduceIte] | refine Zi ?_ )
  cases h
end
end Go.Ab
namespace Go.Ab
open Go.RowKit Go.Proofs
def lasN : Option Nat → Int
  | some i => i
  | none => -1
noncomputable section
open Classical
end
end Go.Ab
namespace Go.Ab
open Go.RowKit Go.Proofs
theorem sortR_len (l : List Par) : (sortR l).length ≤ l.length := by
  have gen : ∀ (l m : List Par), (l.foldl insP m).length ≤ l.length + m.length := by
    intro l
    induction l with
    | nil => intro m; simp
    | cons x l ih =>
      intro m
      have h1 := ih (insP m x)
      have h2 := insP_len m x
      rw [List.foldl_cons, List.length_cons]
      omega
  have := gen l []
  simpa [sortR] using this
noncomputable section
open Classical
end
end Go.Ab
