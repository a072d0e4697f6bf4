/-
  Texts of the layer and of the laws, put together: AbShS, AbSo4, AbU12, AbU13, AbU14, AbU15, AbU16, AbU17.
-/
import Derived.Shelf.SlLaysF0
import Derived.Test.YtdoofgbeajkpaaaGreatDoorProg
import Derived.Test.YtdoofgbeajkpaaaGreatDoorAbWP30
import Derived.Test.YtdoofgbeajkpaaaGreatDoorAbWP31
import Derived.Test.YtdoofgbeajkpaaaGreatDoorAbWP29
import Derived.Test.YtdoofgbeajkpaaaGreatDoorAbWP22
set_option linter.unusedSimpArgs false
set_option linter.unusedVariables false
set_option maxRecDepth 100000
namespace Go.Proofs
open Go.Shelf
def Tryz.sortPar_ren : Go.Shelf.Ren := ⟨fun | 6 => 83 | 15 => 122 | 14 => 121 | 28 => 145 | 29 => 146 | 20 => 137 | 21 => 138 | 22 => 139 | 23 => 140 | 24 => 141 | 25 => 142 | 26 => 143 | 27 => 144 | 46 => 155 | 47 => 156 | 48 => 157 | 49 => 158 | 50 => 159 | 57 => 171 | n => n, fun | 22 => 24 | 24 => 79 | 25 => 126 | 3 => 3 | 39 => 156 | 0 => 0 | 53 => 181 | 55 => 183 | 4 => 4 | 46 => 175 | 45 => 174 | 50 => 101 | 5 => 5 | 9 => 9 | 66 => 187 | 70 => 191 | 76 => 202 | 77 => 74 | n => n, fun | n => n⟩
theorem Tryz.sortPar : Go.Proofs.SlLaysF0.n6 Tryz.prog Tryz.sortPar_ren := {
  mixed := by kernel_rfl
  f6 := ⟨Tryz.f83.name, by decide, Tryz.func83.trans (congrArg some (by kernel_rfl))⟩
  f14 := ⟨Tryz.f121.name, by decide, Tryz.func121.trans (congrArg some (by kernel_rfl))⟩
  f15 := Tryz.func122.trans (congrArg some (by kernel_rfl))
  f20 := ⟨Tryz.f137.name, by decide, Tryz.func137.trans (congrArg some (by kernel_rfl))⟩
  f21 := ⟨Tryz.f138.name, by decide, Tryz.func138.trans (congrArg some (by kernel_rfl))⟩
  f22 := ⟨Tryz.f139.name, by decide, Tryz.func139.trans (congrArg some (by kernel_rfl))⟩
  f23 := ⟨Tryz.f140.name, by decide, Tryz.func140.trans (congrArg some (by kernel_rfl))⟩
  f24 := ⟨Tryz.f141.name, by decide, Tryz.func141.trans (congrArg some (by kernel_rfl))⟩
  f25 := ⟨Tryz.f142.name, by decide, Tryz.func142.trans (congrArg some (by kernel_rfl))⟩
  f26 := ⟨Tryz.f143.name, by decide, Tryz.func143.trans (congrArg some (by kernel_rfl))⟩
  f27 := ⟨Tryz.f144.name, by decide, Tryz.func144.trans (congrArg some (by kernel_rfl))⟩
  f28 := Tryz.func145.trans (congrArg some (by kernel_rfl))
  f29 := Tryz.func146.trans (congrArg some (by kernel_rfl))
  f46 := ⟨Tryz.f155.name, by decide, Tryz.func155.trans (congrArg some (by kernel_rfl))⟩
  f47 := Tryz.func156.trans (congrArg some (by kernel_rfl))
  f48 := Tryz.func157.trans (congrArg some (by kernel_rfl))
  f49 := ⟨Tryz.f158.name, by decide, Tryz.func158.trans (congrArg some (by kernel_rfl))⟩
  f50 := ⟨Tryz.f159.name, by decide, Tryz.func159.trans (congrArg some (by kernel_rfl))⟩
  f57 := ⟨Tryz.f171.name, by decide, Tryz.func171.trans (congrArg some (by kernel_rfl))⟩
  t0 := Tryz.underlying0
  a0 := Tryz.isAgg0
  z0 := Tryz.sizeOf0
  v0 := Tryz.zeroValue0
  t3 := Tryz.underlying3
  a3 := Tryz.isAgg3
  z3 := Tryz.sizeOf3
  v3 := Tryz.zeroValue3
  t4 := Tryz.underlying4
  a4 := Tryz.isAgg4
  z4 := Tryz.sizeOf4
  v4 := Tryz.zeroValue4
  t5 := Tryz.underlying5
  a5 := Tryz.isAgg5
  z5 := Tryz.sizeOf5
  v5 := Tryz.zeroValue5
  t9 := Tryz.underlying9
  a9 := Tryz.isAgg9
  z9 := Tryz.sizeOf9
  v9 := Tryz.zeroValue9
  t22 := Tryz.underlying24
  a22 := Tryz.isAgg24
  z22 := Tryz.sizeOf24
  v22 := Tryz.zeroValue24
  t25 := Tryz.underlying126
  a25 := Tryz.isAgg126
  z25 := Tryz.sizeOf126
  v25 := Tryz.zeroValue126
  t39 := Tryz.underlying156
  a39 := Tryz.isAgg156
  z39 := Tryz.sizeOf156
  v39 := Tryz.zeroValue156
  t45 := Tryz.underlying174
  a45 := Tryz.isAgg174
  z45 := Tryz.sizeOf174
  v45 := Tryz.zeroValue174
  t46 := Tryz.underlying175
  a46 := Tryz.isAgg175
  z46 := Tryz.sizeOf175
  v46 := Tryz.zeroValue175
  t50 := Tryz.underlying101
  a50 := Tryz.isAgg101
  z50 := Tryz.sizeOf101
  v50 := Tryz.zeroValue101
  t53 := Tryz.underlying181
  a53 := Tryz.isAgg181
  z53 := Tryz.sizeOf181
  v53 := Tryz.zeroValue181
  t55 := Tryz.underlying183
  a55 := Tryz.isAgg183
  z55 := Tryz.sizeOf183
  v55 := Tryz.zeroValue183
  t66 := Tryz.underlying187
  a66 := Tryz.isAgg187
  z66 := Tryz.sizeOf187
  v66 := Tryz.zeroValue187
  t70 := Tryz.underlying191
  a70 := Tryz.isAgg191
  z70 := Tryz.sizeOf191
  v70 := Tryz.zeroValue191
  t76 := Tryz.underlying202
  a76 := Tryz.isAgg202
  z76 := Tryz.sizeOf202
  v76 := Tryz.zeroValue202
  t77 := Tryz.underlying74
  a77 := Tryz.isAgg74
  z77 := Tryz.sizeOf74
  v77 := Tryz.zeroValue74 }
end Go.Proofs
namespace Go.Ab
open Go.RowKit Go.Proofs Go.Lib Go.Sort
instance : Inhabited Par := ⟨Par.nil⟩
theorem ltOf_ordP (x y : Par) : ltOf ordP x y = decide (ordP x y < 0) := rfl
theorem swo_ordP : SWO (ltOf ordP) where
  irrefl x := by
    rw [ltOf_ordP]
    exact decide_eq_false (ordP_irr x)
  trans x y z h1 h2 := by
    rw [ltOf_ordP] at *
    exact decide_eq_true (cmp_ordP.lt x y z (of_decide_eq_true h1) (of_decide_eq_true h2))
  ntrans x y z h1 h2 := by
    rw [ltOf_ordP] at *
    have h1 := of_decide_eq_false h1
    have h2 := of_decide_eq_false h2
    refine decide_eq_false fun h => ?_
    have a1 := cmp_ordP.anti y x
    have a2 := cmp_ordP.anti z y
    have b1 : ordP y x < 0 ∨ ordP x y = 0 := by omega
    have b2 : ordP z y < 0 ∨ ordP y z = 0 := by omega
    rcases b1 with b1 | b1
    · exact h2 (cmp_ordP.lt _ _ _ b1 h)
    exact h2 (cmp_ordP.el _ _ _ (cmp_ordP.sym b1) h)
theorem ordP_both (x y : Par) (h1 : ltOf ordP x y = false) (h2 : ltOf ordP y x = false) : x = y := by
  rw [ltOf_ordP] at *
  have h1 := of_decide_eq_false h1
  have h2 := of_decide_eq_false h2
  have a1 := cmp_ordP.anti y x
  exact ordP_zero.1 (by omega)
theorem sort_comp (ps : List Par) : compP (sortBy ordP ps) = sortR ps := by
  refine sort_same ?_ fun x => (List.mergeSort_perm _ _).mem_iff
  have h := List.pairwise_mergeSort (le := fun x y : Par => !(ltOf ordP) y x) (fun a b c h1 h2 => ?_) (fun a b => ?_) ps
  · refine h.imp fun {a b} hab => ?_
    rw [ltOf_ordP] at hab
    have := cmp_ordP.anti b a
    simp at hab
    omega
  · simp only [Bool.not_eq_true'] at h1 h2 ⊢
    exact swo_ordP.ntrans _ _ _ h2 h1
  rw [Bool.or_eq_true, Bool.not_eq_true', Bool.not_eq_true', ltOf_ordP, ltOf_ordP]
  by_cases h1 : ordP b a < 0
  · right
    refine decide_eq_false fun h2 => ?_
    have := cmp_ordP.anti a b
    omega
  left
  exact decide_eq_false h1
noncomputable section
open Classical
def sfR (p : Hp × Nat × List Par) (args : List AV) (h : Hp) : Prop := args = [.v (.c (.msl p.2.1 p.2.2.length)), .v (.c (.fn 84 []))] ∧ h = p.1 ∧ p.1[p.2.1]? = some (.tok p.2.2.length 5 (some (pc p.2.2)))
theorem sfR_inj {a b : Hp × Nat × List Par} {args : List AV} {h : Hp} (ha : sfR a args h) (hb : sfR b args h) : b = a := by
  obtain ⟨h1, h2, h3⟩ := ha
  obtain ⟨g1, g2, g3⟩ := hb
  rw [h1] at g1
  simp only [List.cons.injEq, and_true] at g1
  exact cmR_inj (args := [.v (.c (.msl a.2.1 a.2.2.length))]) (h := h) ⟨rfl, h2, h3⟩ ⟨by rw [g1], g2, g3⟩
def sfP_k : List AV → Hp → Option COut := kR sfR fun p => if p.2.2.length ≤ 1000000000 then some (.ret (.tup []) (p.1.set p.2.1 (.tok p.2.2.length 5 (some (pc (sortBy ordP p.2.2)))))) else none
theorem sfP_kok : ImpC Tryz.prog Gt 83 sfP_k := by
  intro args h out h0
  obtain ⟨⟨h', id, ps⟩, ⟨rfl, rfl, hid⟩, hg⟩ := kR_inv h0
  dsimp only at hid hg ⊢
  split at hg
  · rename_i hl
    cases hg
    refine fok_sort Tryz.sortPar (by decide) Tryz.isAgg79 Tryz.sizeOf79 dsc_ok Par.row (fun _ => rfl) (fun x d hd => ?_) ordP (fun x y => ?_) swo_ordP ordP_both ps (by omega) hid
    · simp [Par.row] at hd
      rcases hd with rfl | rfl | rfl | rfl | rfl <;> rfl
    have := mE_eq encPP_inj (g := fun p => some [DV.i (ordP p.1 p.2)]) (a := (x, y))
    exact this
  cases hg
def ssort_m : List PA → Option (List PA) := mE encPs fun p => if p.2.length ≤ 1000000 then some [.c (.sl false ((sortR p.2).map Par.row))] else none
theorem row_flat (ps : List Par) : ((ps.map Par.row).flatten.map C1.d) = pc ps := by rw [pc, List.flatMap_def]
theorem ssort_ok : PureC Tryz.prog Gt 44 ssort_m := by
  refine pure_of_awpS (X := ctxN Tryz.prog Gt [] [(82, clP_k), (83, sfP_k), (88, cmP_k)] [] none) Tryz.func44 rfl rfl (by kernel_rfl) (by kernel_rfl) (kok_n AllOk.nil (AllK.cons clP_kok (AllK.cons sfP_kok (AllK.cons cmP_kok AllK.nil))) AllN.nil) ?_
  intro args r h0
  obtain ⟨⟨f, ps⟩, rfl, h⟩ := mE_inv h0
  refine ⟨Nat.le_of_ble_eq_true rfl, ?_⟩
  split at h
  · rename_i hl
    dsimp only at hl h
    cases h
    have f1 : clP_k [.v (.c (.d (.sl f (ps.map Par.row))))] [] = some (.ret (.v (.c (.msl 0 ps.length))) [.tok ps.length 5 (some (pc ps))]) := by
      have := clA_ok (z := 5) (b := 56) (h := []) (f := f) (es := ps.map Par.row) (fun r hr => by obtain ⟨x, _, rfl⟩ := List.mem_map.1 hr; rfl) (by simp; omega) (by simp; omega)
      rw [row_flat, List.length_map] at this
      exact this
    have f2 : sfP_k [.v (.c (.msl 0 ps.length)), .v (.c (.fn 84 []))] [.tok ps.length 5 (some (pc ps))] = some (.ret (.tup []) [.tok ps.length 5 (some (pc (sortBy ordP ps)))]) := by
      have := kR_eq (R := sfR) (g := fun p => if p.2.2.length ≤ 1000000000 then some (.ret (.tup []) (p.1.set p.2.1 (.tok p.2.2.length 5 (some (pc (sortBy ordP p.2.2)))))) else none) (a := ([.tok ps.length 5 (some (pc ps))], 0, ps)) (args := [.v (.c (.msl 0 ps.length)), .v (.c (.fn 84 []))]) (fun b hb => by rw [sfR_inj (a := ([.tok ps.length 5 (some (pc ps))], 0, ps)) ⟨rfl, rfl, rfl⟩ hb]) ⟨rfl, rfl, rfl⟩
      exact this.trans (if_pos (by simp only []; omega))
    have hsl : (sortBy ordP ps).length = ps.length := (List.mergeSort_perm _ _).length_eq
    have f3 : cmP_k [.v (.c (.msl 0 ps.length))] [.tok ps.length 5 (some (pc (sortBy ordP ps)))] = some (.ret (.v (.c (.d (.sl false ((sortR ps).map Par.row))))) [.tok ps.length 5 none]) := by
      have := kR_eq (R := cmR) (g := fun p => if p.2.2.length ≤ 1000000000 then some (.ret (.v (.c (.d (.sl false ((compP p.2.2).map Par.row))))) (p.1.set p.2.1 (.tok p.2.2.length 5 none))) else none) (a := ([.tok (sortBy ordP ps).length 5 (some (pc (sortBy ordP ps)))], 0, sortBy ordP ps)) (args := [.v (.c (.msl 0 (sortBy ordP ps).length))]) (fun b hb => by rw [cmR_inj (a := ([.tok (sortBy ordP ps).length 5 (some (pc (sortBy ordP ps)))], 0, sortBy ordP ps)) ⟨rfl, rfl, rfl⟩ hb]) ⟨rfl, rfl, rfl⟩
      rw [if_pos (by simp only []; omega), sort_comp, hsl] at this
      exact this
    have hc := Nat.zero_add 0
    repeat' (first | simp only [hc, AS, Tryz.f44, encPs, NX, NPV, SX, f1, f2, f3, ZZ, simprocAttr, ↓reduceIte] | ((first | apply Za | apply Zb | apply Zc | apply Zd | apply Ze | apply Zf | apply Zg | apply Zh) <;> intro hc) | refine Zi ?_ | refine Zj ?_)
  cases h
end
end Go.Ab
namespace Go.Ab
open Go.RowKit Go.Proofs
abbrev SesO := Ses × Option Nat
def seenC (s : Ses) : Option Nat → C1
  | none => .d (.sl s.sf (s.seen.map rowI))
  | some i => .own i (s.seen.map rowI)
def scC (x : SesO) : List C1 := [.d (.str x.1.id), .d (.str x.1.zone), .d (.str x.1.plate), .d (.int .i64 x.1.fr), .d (.int .i64 x.1.til), .d (.int .i64 x.1.state), seenC x.1 x.2]
def sc (L : List SesO) : List C1 := L.flatMap scC
theorem sc_nil : sc [] = [] := rfl
theorem sc_cons {x : SesO} {L : List SesO} : sc (x :: L) = scC x ++ sc L := by simp [sc]
theorem sc_append {a b : List SesO} : sc (a ++ b) = sc a ++ sc b := by simp [sc]
theorem scC_len (x : SesO) : (scC x).length = 7 := rfl
theorem sc_len : ∀ {L : List SesO}, (sc L).length = L.length * 7
  | [] => rfl
  | p :: L => by rw [sc_cons, List.length_append, sc_len (L := L), scC_len]; simp; omega
theorem sc_drop : ∀ {k : Nat} {L : List SesO}, (sc L).drop (k * 7) = sc (L.drop k)
  | 0, L => by simp
  | k + 1, [] => by simp [sc_nil]
  | k + 1, p :: L => by
    rw [sc_cons, List.drop_append, List.drop_of_length_le (by rw [scC_len]; omega), List.nil_append, List.drop_succ_cons, ← sc_drop, scC_len]
    congr 1
    omega
theorem sc_split {L : List SesO} {k : Nat} {x : SesO} (h : L[k]? = some x) : sc L = sc (L.take k) ++ (scC x ++ sc (L.drop (k + 1))) := by
  have hk := lt_of_get h
  rw [List.getElem?_eq_getElem hk] at h
  cases h
  rw [← sc_cons, ← List.drop_eq_getElem_cons hk, ← sc_append, List.take_append_drop]
theorem sc_at {L : List SesO} {k : Nat} {x : SesO} (h : L[k]? = some x) : ((sc L).drop (k * 7)).take 7 = scC x := by
  have hk := lt_of_get h
  rw [List.getElem?_eq_getElem hk] at h
  cases h
  rw [sc_drop, List.drop_eq_getElem_cons hk, sc_cons, List.take_append, scC_len]
  simp [scC]
theorem sc_cell {L : List SesO} {k : Nat} {x : SesO} (h : L[k]? = some x) {j : Nat} (hj : j < 7) : (sc L)[k * 7 + j]? = (scC x)[j]? := by
  have hk := lt_of_get h
  rw [sc_split h, List.getElem?_append_right (by rw [sc_len, List.length_take, Nat.min_eq_left (by omega)]; omega), sc_len, List.length_take, Nat.min_eq_left (by omega), show k * 7 + j - k * 7 = j by omega,
    List.getElem?_append_left (by rw [scC_len]; exact hj)]
theorem sc_put {L : List SesO} {k : Nat} {x x' : SesO} (h : L[k]? = some x) {j : Nat} (hj : j < 7) {v : C1} (hs : (scC x).set j v = scC x') :
    (sc L).take (k * 7 + j) ++ v :: (sc L).drop (k * 7 + j + 1) = sc (L.set k x') := by
  have hk := lt_of_get h
  have hl : (sc (L.take k)).length = k * 7 := by rw [sc_len, List.length_take, Nat.min_eq_left (by omega)]
  have e1 : (sc L).set (k * 7 + j) v = sc (L.set k x') := by
    rw [sc_split h, List.set_append_right _ _ (by omega), hl, show k * 7 + j - k * 7 = j by omega, List.set_append_left _ _ (by rw [scC_len]; exact hj), hs]
    have h2 : (L.set k x')[k]? = some x' := by simp [hk]
    rw [sc_split h2]
    rw [List.take_set_of_le (Nat.le_refl _), List.drop_set_of_lt (by omega)]
  rw [← e1, List.set_eq_take_append_cons_drop, if_pos (by rw [sc_len]; omega)]
structure LiveS (h : Hp) (id : Nat) (L : List SesO) : Prop where
  row : h[id]? = some (.tok L.length 7 (some (sc L)))
  non : ∀ (k : Nat) (s : Ses), L[k]? = some (s, none) → s.sf = true ∧ s.seen = []
  own : ∀ (k : Nat) (s : Ses) (i : Nat), L[k]? = some (s, some i) → s.sf = false ∧ h[i]? = some (.tok s.seen.length 1 none)
  one : ∀ (k j : Nat) (s r : Ses) (i : Nat), L[k]? = some (s, some i) → L[j]? = some (r, some i) → k = j
theorem LiveS.nil {h : Hp} {id : Nat} (hid : h[id]? = some (.tok 0 7 (some []))) : LiveS h id [] :=
  ⟨hid, fun k s hk => by simp at hk, fun k s i hk => by simp at hk, fun k j s r i hk => by simp at hk⟩
theorem LiveS.ext {h g : Hp} {id : Nat} {L : List SesO} (hL : LiveS h id L) : LiveS (h ++ g) id L :=
  ⟨get_ext hL.row, hL.non, fun k s i hk => ⟨(hL.own k s i hk).1, get_ext (hL.own k s i hk).2⟩, hL.one⟩
theorem LiveS.lt {h : Hp} {id : Nat} {L : List SesO} (hL : LiveS h id L) : id < h.length := lt_of_get hL.row
theorem LiveS.ne {h : Hp} {id : Nat} {L : List SesO} (hL : LiveS h id L) {k i : Nat} {s : Ses} (hk : L[k]? = some (s, some i)) : i ≠ id := by
  rintro rfl
  have h1 := (hL.own k s i hk).2
  rw [hL.row] at h1
  simp at h1
theorem LiveS.put {h : Hp} {id : Nat} {L : List SesO} (hL : LiveS h id L) {k : Nat} {s s' : Ses} {o : Option Nat} (hk : L[k]? = some (s, o)) (h1 : s'.sf = s.sf) (h2 : s'.seen = s.seen) :
    LiveS (h.set id (.tok L.length 7 (some (sc (L.set k (s', o)))))) id (L.set k (s', o)) := by
  have hlt := lt_of_get hk
  have hg : ∀ (j : Nat) (r : Ses) (q : Option Nat), (L.set k (s', o))[j]? = some (r, q) → ∃ r0, L[j]? = some (r0, q) ∧ r.sf = r0.sf ∧ r.seen = r0.seen := fun j r q hj => by
    rw [List.getElem?_set] at hj
    split at hj
    · rename_i e
      subst e
      cases hj
      exact ⟨s, hk, h1, h2⟩
    exact ⟨r, hj, rfl, rfl⟩
  refine ⟨by simp [hL.lt], fun j r hj => ?_, fun j r i hj => ?_, fun a b r q i ha hb => ?_⟩
  · obtain ⟨r0, e1, e2, e3⟩ := hg j r _ hj
    rw [e2, e3]
    exact hL.non j r0 e1
  · obtain ⟨r0, e1, e2, e3⟩ := hg j r _ hj
    rw [e2, e3]
    refine ⟨(hL.own j r0 i e1).1, ?_⟩
    rw [List.getElem?_set_ne (Ne.symm (hL.ne e1))]
    exact (hL.own j r0 i e1).2
  obtain ⟨r0, e1, _⟩ := hg a r _ ha
  obtain ⟨q0, e2, _⟩ := hg b q _ hb
  exact hL.one a b r0 q0 i e1 e2
theorem LiveS.add {h : Hp} {id : Nat} {L : List SesO} (hL : LiveS h id L) {s : Ses} (h1 : s.sf = true) (h2 : s.seen = []) :
    LiveS (h.set id (.tok (L.length + 1) 7 (some (sc (L ++ [(s, none)]))))) id (L ++ [(s, none)]) := by
  have hg : ∀ (j : Nat) (r : Ses) (i : Nat), (L ++ [(s, none)])[j]? = some (r, some i) → L[j]? = some (r, some i) := fun j r i hj => by
    rw [List.getElem?_append] at hj
    split at hj
    · exact hj
    rename_i hjl
    cases hq : j - L.length with
    | zero => rw [hq] at hj; simp at hj
    | succ n => rw [hq] at hj; simp at hj
  refine ⟨by simp [hL.lt], fun j r hj => ?_, fun j r i hj => ?_, fun a b r q i ha hb => hL.one a b r q i (hg _ _ _ ha) (hg _ _ _ hb)⟩
  · rw [List.getElem?_append] at hj
    split at hj
    · exact hL.non j r hj
    cases hq : j - L.length with
    | zero => rw [hq] at hj; simp at hj; subst hj; exact ⟨h1, h2⟩
    | succ n => rw [hq] at hj; simp at hj
  have := hg j r i hj
  refine ⟨(hL.own j r i this).1, ?_⟩
  rw [List.getElem?_set_ne (Ne.symm (hL.ne this))]
  exact (hL.own j r i this).2
theorem LiveS.see0 {h : Hp} {id n : Nat} {L : List SesO} (hL : LiveS h id L) {k : Nat} {s s' : Ses} (hk : L[k]? = some (s, none)) (hn : h.length ≤ n) {g : Hp} (hg : ((h.set id (.tok L.length 7 (some (sc (L.set k (s', some n)))))) ++ g)[n]? = some (.tok s'.seen.length 1 none)) (h1 : s'.sf = false) :
    LiveS ((h.set id (.tok L.length 7 (some (sc (L.set k (s', some n)))))) ++ g) id (L.set k (s', some n)) := by
  have hlt := lt_of_get hk
  have hold : ∀ (j i : Nat) (r : Ses), L[j]? = some (r, some i) → i < n := fun j i r hj => by have := lt_of_get (hL.own j r i hj).2; omega
  have hq : ∀ (j : Nat) (r : Ses) (q : Option Nat), (L.set k (s', some n))[j]? = some (r, q) → (j = k ∧ r = s' ∧ q = some n) ∨ (j ≠ k ∧ L[j]? = some (r, q)) := fun j r q hj => by
    rw [List.getElem?_set] at hj
    split at hj
    · rename_i e
      subst e
      cases hj
      exact .inl ⟨rfl, rfl, rfl⟩
    rename_i e
    exact .inr ⟨fun x => e x.symm, hj⟩
  refine ⟨get_ext (by simp [hL.lt]), fun j r hj => ?_, fun j r i hj => ?_, fun a b r q i ha hb => ?_⟩
  · rcases hq j r _ hj with ⟨_, _, e⟩ | ⟨_, e⟩
    · cases e
    exact hL.non j r e
  · rcases hq j r _ hj with ⟨_, rfl, e⟩ | ⟨_, e⟩
    · cases e
      exact ⟨h1, hg⟩
    refine ⟨(hL.own j r i e).1, ?_⟩
    have e2 := (hL.own j r i e).2
    refine get_ext ?_
    rw [List.getElem?_set_ne (Ne.symm (hL.ne e))]
    exact e2
  rcases hq a r _ ha with ⟨rfl, _, e⟩ | ⟨ha1, e⟩ <;> rcases hq b q _ hb with ⟨rfl, _, f⟩ | ⟨hb1, f⟩
  · rfl
  · cases e
    have := hold _ _ _ f
    omega
  · cases f
    have := hold _ _ _ e
    omega
  exact hL.one a b r q i e f
theorem LiveS.see1 {h : Hp} {id i : Nat} {L : List SesO} (hL : LiveS h id L) {k : Nat} {s s' : Ses} (hk : L[k]? = some (s, some i)) (h1 : s'.sf = false) :
    LiveS ((h.set i (.tok s'.seen.length 1 none)).set id (.tok L.length 7 (some (sc (L.set k (s', some i)))))) id (L.set k (s', some i)) := by
  have hlt := lt_of_get hk
  have hil := lt_of_get (hL.own k s i hk).2
  have hq : ∀ (j : Nat) (r : Ses) (q : Option Nat), (L.set k (s', some i))[j]? = some (r, q) → (j = k ∧ r = s' ∧ q = some i) ∨ (j ≠ k ∧ L[j]? = some (r, q)) := fun j r q hj => by
    rw [List.getElem?_set] at hj
    split at hj
    · rename_i e
      subst e
      cases hj
      exact .inl ⟨rfl, rfl, rfl⟩
    rename_i e
    exact .inr ⟨fun x => e x.symm, hj⟩
  refine ⟨by simp [hL.lt], fun j r hj => ?_, fun j r q hj => ?_, fun a b r q n ha hb => ?_⟩
  · rcases hq j r _ hj with ⟨_, _, e⟩ | ⟨_, e⟩
    · cases e
    exact hL.non j r e
  · rcases hq j r _ hj with ⟨_, rfl, e⟩ | ⟨hne, e⟩
    · cases e
      refine ⟨h1, ?_⟩
      rw [List.getElem?_set_ne (Ne.symm (hL.ne hk))]
      simp [hil]
    refine ⟨(hL.own j r q e).1, ?_⟩
    have hqi : q ≠ i := by
      rintro rfl
      exact hne (hL.one j k r s q e hk)
    rw [List.getElem?_set_ne (Ne.symm (hL.ne e)), List.getElem?_set_ne (Ne.symm hqi)]
    exact (hL.own j r q e).2
  rcases hq a r _ ha with ⟨rfl, _, e⟩ | ⟨ha1, e⟩ <;> rcases hq b q _ hb with ⟨rfl, _, f⟩ | ⟨hb1, f⟩
  · rfl
  · cases e
    exact absurd (hL.one b _ q s _ f hk) hb1
  · cases f
    exact absurd (hL.one a _ r s _ e hk) ha1
  exact hL.one a b r q n e f
theorem LiveS.allD {h : Hp} {id : Nat} {L : List SesO} (hL : LiveS h id L) : allD (sc L) = some (L.flatMap fun x => x.1.row) := by
  have gen : ∀ (M : List SesO), (∀ x ∈ M, ∀ i, x.2 = some i → x.1.sf = false) → Go.Ab.allD (sc M) = some (M.flatMap fun x => x.1.row) := by
    intro M
    induction M with
    | nil => intro _; rfl
    | cons x M ih =>
      intro hM
      obtain ⟨⟨a, b, c, d, e, f, g, sn⟩, o⟩ := x
      rw [sc_cons, List.flatMap_cons]
      have hx := hM _ List.mem_cons_self
      have ih := ih (fun y hy => hM y (List.mem_cons_of_mem _ hy))
      cases o with
      | none => simp [scC, seenC, Go.Ab.allD, C1.toD, ih, Ses.row]
      | some i =>
        have := hx i rfl
        dsimp only at this
        subst this
        simp [scC, seenC, Go.Ab.allD, C1.toD, ih, Ses.row]
  refine gen L fun x hx i hi => ?_
  obtain ⟨k, hk⟩ := List.getElem?_of_mem hx
  obtain ⟨s, o⟩ := x
  dsimp only at hi
  subst hi
  exact (hL.own k s i hk).1
theorem chunk_ses : ∀ {L : List SesO}, chunk 7 L.length (L.flatMap fun x => x.1.row) = L.map fun x => x.1.row
  | [] => rfl
  | x :: L => by
    rw [List.length_cons, chunk, List.flatMap_cons, List.map_cons, ← chunk_ses]
    have hp : x.1.row.length = 7 := rfl
    rw [List.take_append, List.take_of_length_le (by omega), List.drop_append, List.drop_of_length_le (by omega), hp]
    simp
end Go.Ab
namespace Go.Ab
open Go.RowKit Go.Proofs
theorem lastI_snoc {α : Type} {c : α → Bool} {x : α} : ∀ {l : List α}, lastI c (l ++ [x]) = if c x = true then some l.length else lastI c l
  | [] => by simp [lastI]
  | y :: l => by
    rw [List.cons_append, lastI, lastI_snoc (l := l)]
    by_cases h : c x = true
    · simp [h]
    simp [h, lastI]
theorem lastI_take {α : Type} {c : α → Bool} {l : List α} {m : Nat} (h : m < l.length) : lastI c (l.take (m + 1)) = if c l[m] = true then some m else lastI c (l.take m) := by
  rw [List.take_succ_eq_append_getElem h, lastI_snoc, List.length_take, Nat.min_eq_left (by omega)]
abbrev Par.av (p : Par) : AV := .v (.agg (p.row.map .d))
abbrev Zon.av (z : Zon) : AV := .v (.agg (z.row.map .d))
abbrev ssOf (L : List SesO) : List Ses := L.map (·.1)
theorem scC_inj {x y : SesO} (h : scC x = scC y) (hx : ∀ i, x.2 = some i → x.1.sf = false) (hy : ∀ i, y.2 = some i → y.1.sf = false) : x = y := by
  obtain ⟨⟨a1, b1, c1, d1, e1, f1, g1, s1⟩, o1⟩ := x
  obtain ⟨⟨a2, b2, c2, d2, e2, f2, g2, s2⟩, o2⟩ := y
  simp only [scC, List.cons.injEq, C1.d.injEq, D.str.injEq, D.int.injEq, true_and, and_true] at h
  obtain ⟨h1, h2, h3, h4, h5, h6, h7⟩ := h
  cases o1 <;> cases o2 <;> simp [seenC] at h7
  · obtain ⟨h7, h8⟩ := h7
    have := mapI_inj.1 h8
    subst h1 h2 h3 h4 h5 h6 h7 this
    rfl
  rename_i i j
  obtain ⟨h7, h8⟩ := h7
  have := mapI_inj.1 h8
  have k1 := hx i rfl
  have k2 := hy j rfl
  dsimp only at k1 k2
  subst h1 h2 h3 h4 h5 h6 h7 this k1 k2
  rfl
theorem sc_inj : ∀ {L M : List SesO}, L.length = M.length → sc L = sc M → (∀ x ∈ L, ∀ i, x.2 = some i → x.1.sf = false) → (∀ x ∈ M, ∀ i, x.2 = some i → x.1.sf = false) → L = M
  | [], [], _, _, _, _ => rfl
  | [], _ :: _, h, _, _, _ => by simp at h
  | _ :: _, [], h, _, _, _ => by simp at h
  | x :: L, y :: M, hl, h, h1, h2 => by
    rw [sc_cons, sc_cons] at h
    have h3 := List.append_inj h rfl
    rw [scC_inj h3.1 (h1 x (by simp)) (h2 y (by simp)), sc_inj (by simpa using hl) h3.2 (fun z hz => h1 z (by simp [hz])) (fun z hz => h2 z (by simp [hz]))]
theorem LiveS.sf {h : Hp} {id : Nat} {L : List SesO} (hL : LiveS h id L) : ∀ x ∈ L, ∀ i, x.2 = some i → x.1.sf = false := fun x hx i hi => by
  obtain ⟨k, hk⟩ := List.getElem?_of_mem hx
  obtain ⟨s, o⟩ := x
  dsimp only at hi
  subst hi
  exact (hL.own k s i hk).1
theorem LiveS.inj {h : Hp} {id : Nat} {L M : List SesO} (hL : LiveS h id L) (hM : LiveS h id M) : L = M := by
  have h1 := hL.row
  rw [hM.row] at h1
  simp only [Option.some.injEq, Ob.tok.injEq] at h1
  exact sc_inj h1.1.symm h1.2.2.symm hL.sf hM.sf
structure RnA where
  h : Hp
  id : Nat
  L : List SesO
  p : Par
  z : Zon
  now : Bool
def rnR (a : RnA) (args : List AV) (h : Hp) : Prop := args = [.v (.c (.msl a.id a.L.length)), a.p.av, a.z.av, AV.b a.now] ∧ h = a.h ∧ LiveS a.h a.id a.L ∧ LowH a.h
theorem rnR_inj {a b : RnA} {args : List AV} {h : Hp} (ha : rnR a args h) (hb : rnR b args h) : b = a := by
  obtain ⟨a1, a2, a3, a4, a5, a6⟩ := a
  obtain ⟨b1, b2, b3, b4, b5, b6⟩ := b
  obtain ⟨h1, h2, h3, _⟩ := ha
  obtain ⟨g1, g2, g3, _⟩ := hb
  dsimp only at *
  subst h2 g2
  rw [h1] at g1
  simp only [List.cons.injEq, AV.v.injEq, V.c.injEq, C1.msl.injEq, V.agg.injEq, C1.d.injEq, D.bool.injEq, and_true] at g1
  obtain ⟨⟨rfl, g4⟩, g5, g6, rfl⟩ := g1
  rw [h3.inj g3]
  have e1 : a4.row = b4.row := map_inj (fun x y h => by cases h; rfl) g5
  have e2 : a5.row = b5.row := map_inj (fun x y h => by cases h; rfl) g6
  rw [Par.inj _ _ e1, Zon.inj _ _ e2]
def lasN : Option Nat → Int
  | some i => i
  | none => -1
noncomputable section
open Classical
def srun_k : List AV → Hp → Option COut := kR rnR fun a => if a.L.length ≤ 1000000000 then some (.ret (AV.i (lasN (lastI (curB a.p a.z a.now) (ssOf a.L)))) a.h) else none
theorem srun_kok : ImpC Tryz.prog Gt 90 srun_k := by
  intro args h out h0
  refine fok_of_awpSW (X := ctxN Tryz.prog Gt [(125, sover_m)] [] [] none (uL [48])) Tryz.func90 rfl rfl (by kernel_rfl) (by kernel_rfl) (kok_n (AllOk.cons sover_ok AllOk.nil) AllK.nil AllN.nil) ?_ ?_
  · obtain ⟨a, ⟨rfl, _⟩, _⟩ := kR_inv h0
    exact Nat.le_of_ble_eq_true rfl
  obtain ⟨⟨h', id, L, p, z, now⟩, ⟨rfl, rfl, hL, hlow⟩, hg⟩ := kR_inv h0
  dsimp only at hL hlow hg ⊢
  split at hg
  · rename_i hlen
    cases hg
    have hrow : ∀ r : Hp, (h ++ r)[id]? = some (.tok L.length 7 (some (sc L))) := fun r => get_ext hL.row
    have hw0 : IntKind.i64.wrap ((L.length : Int) - 1) = (L.length : Int) - 1 := wI (by omega) (by omega)
    obtain ⟨k1, z1, p1, t1, u1⟩ := p
    obtain ⟨zn, zhf, zhr, zsf, zst, zgr, zfr, zdm, zsy⟩ := z
    have hsl : (ssOf L).length = L.length := List.length_map _
    have hc := Nat.zero_add 0
    repeat' (first | simp only [hc, AS, Tryz.f90, NX, NPV, SX, HX, hrow, hw0, Par.row, Zon.row, List.map_cons, List.map_nil, ZZ, simprocAttr, ↓reduceIte] | ((first | apply Za | apply Zb | apply Zc | apply Zd | apply Ze | apply Zf | apply Zg | apply Zh) <;> intro hc) | refine Zi ?_ | refine Zj ?_)
    refine awpS_loop (σ := Nat) (fun m => m ≤ L.length ∧ lastI (curB ⟨k1, z1, p1, t1, u1⟩ ⟨zn, zhf, zhr, zsf, zst, zgr, zfr, zdm, zsy⟩ now) (ssOf L) = lastI (curB ⟨k1, z1, p1, t1, u1⟩ ⟨zn, zhf, zhr, zsf, zst, zgr, zfr, zdm, zsy⟩ now) ((ssOf L).take m))
      (fun m => ⟨[(9, AV.i ((m : Int) - 1)), (6, .v (.c (.ptr (h.length + 1) 0))), (5, .v (.c (.ptr h.length 0))), (0, .v (.c (.msl id L.length))), (3, AV.b now)], h ++ [.box [.d (.int .i64 k1), .d (.str z1), .d (.str p1), .d (.int .i64 t1), .d (.int .i64 u1)], .box [.d (.str zn), .d (.sl zhf (zhr.map Win.row)), .d (.sl zsf (zst.map Stf.row)), .d (.int .i64 zgr), .d (.int .i64 zfr), .d (.int .i64 zdm), .d (.int .i64 zsy)]]⟩)
      (fun m => m) L.length (Wk.sub' (by simp [subT, look]) rfl) ⟨Nat.le_refl _, by rw [List.take_of_length_le (by omega)]⟩ ?_
    rintro m ⟨hm, hout⟩
    have hcut : ∀ (t : List (Nat × AV)) (r : Hp) (v : Int), look t 8 = AV.i v → Wk h.length ⟨t, h ++ r⟩ ⟨[(8, AV.i v)], h⟩ := fun t r v hv => Wk.back hlow (Nat.le_refl _) (by simp [subT, hv]) (by simp [AV.low, V.low, C1.low])
    match m, hm, hout with
    | 0, hm, hout =>
      have hlt : ((0 : Int) ≤ ((0 : Nat) : Int) - 1) = False := eq_false (by omega)
      have hlt' : (((0 : Nat) : Int) - 1 ≥ 0) = False := eq_false (by omega)
      have hc := Nat.zero_add 0
      repeat' (first | simp only [hc, AS, NX, NPV, SX, HX, hlt, hlt', ZZ, simprocAttr, ↓reduceIte] | ((first | apply Za | apply Zb | apply Zc | apply Zd | apply Ze | apply Zf | apply Zg | apply Zh) <;> intro hc) | refine Zi ?_ | refine Zj ?_)
      exact ⟨_, hcut _ _ (-1) (by simp [look]), [.c (.d (.int .i64 (-1)))], by simp [resAllV, resOneV, S.get, look, AV.one], by simp [resVV, hout, lastI, lasN]⟩
    | m + 1, hm, hout =>
      have em : (((m + 1 : Nat) : Int)) - 1 = (m : Int) := by omega
      have hw := wI (n := (m : Int) - 1) (by omega) (by omega)
      have hlm : m < L.length := hm
      have hlt : ((m : Int) < (L.length : Int)) = True := eq_true (by omega)
      have hlt' : ((m : Int) ≥ 0) = True := eq_true (by omega)
      obtain ⟨⟨⟨id', zo, pl, fr, ti, st, sf, sn⟩, o⟩, hx⟩ : ∃ x, L[m]? = some x := ⟨L[m], List.getElem?_eq_getElem hlm⟩
      have d1 := sc_at hx
      have hle : (m * 7 + 7 ≤ (sc L).length) = True := eq_true (by rw [sc_len]; omega)
      have hsm : (ssOf L)[m]'(by omega) = ⟨id', zo, pl, fr, ti, st, sf, sn⟩ := by
        have : (ssOf L)[m]? = some ⟨id', zo, pl, fr, ti, st, sf, sn⟩ := by simp [hx]
        rw [List.getElem?_eq_getElem (by omega)] at this
        exact Option.some.inj this
      rw [lastI_take (by omega), hsm] at hout
      have hnext : curB ⟨k1, z1, p1, t1, u1⟩ ⟨zn, zhf, zhr, zsf, zst, zgr, zfr, zdm, zsy⟩ now ⟨id', zo, pl, fr, ti, st, sf, sn⟩ = false → lastI (curB ⟨k1, z1, p1, t1, u1⟩ ⟨zn, zhf, zhr, zsf, zst, zgr, zfr, zdm, zsy⟩ now) (ssOf L) = lastI (curB ⟨k1, z1, p1, t1, u1⟩ ⟨zn, zhf, zhr, zsf, zst, zgr, zfr, zdm, zsy⟩ now) ((ssOf L).take m) := fun h => by rw [hout, h]; simp
      have hhit : curB ⟨k1, z1, p1, t1, u1⟩ ⟨zn, zhf, zhr, zsf, zst, zgr, zfr, zdm, zsy⟩ now ⟨id', zo, pl, fr, ti, st, sf, sn⟩ = true → lastI (curB ⟨k1, z1, p1, t1, u1⟩ ⟨zn, zhf, zhr, zsf, zst, zgr, zfr, zdm, zsy⟩ now) (ssOf L) = some m := fun h => by rw [hout, h]; simp
      have f2 := @sover_at ⟨zn, zhf, zhr, zsf, zst, zgr, zfr, zdm, zsy⟩ ⟨id', zo, pl, fr, ti, st, sf, sn⟩ t1
      simp only [Zon.row, Ses.row] at f2
      have hcb : curB ⟨k1, z1, p1, t1, u1⟩ ⟨zn, zhf, zhr, zsf, zst, zgr, zfr, zdm, zsy⟩ now ⟨id', zo, pl, fr, ti, st, sf, sn⟩ = (decide (zo = z1 ∧ pl = p1 ∧ st = 1) && (!now || (decide (fr ≤ t1) && !overB ⟨zn, zhf, zhr, zsf, zst, zgr, zfr, zdm, zsy⟩ ⟨id', zo, pl, fr, ti, st, sf, sn⟩ t1))) := rfl
      generalize overB ⟨zn, zhf, zhr, zsf, zst, zgr, zfr, zdm, zsy⟩ ⟨id', zo, pl, fr, ti, st, sf, sn⟩ t1 = ov at *
      have hsn : ∃ v, seenC ⟨id', zo, pl, fr, ti, st, sf, sn⟩ o = v ∧ v.toD = some (.sl sf (sn.map rowI)) := by
        cases o with
        | none => exact ⟨_, rfl, rfl⟩
        | some i =>
          have := (hL.own m _ i hx).1
          dsimp only at this
          subst this
          exact ⟨_, rfl, rfl⟩
      obtain ⟨v, hv, hvd⟩ := hsn
      simp only [scC, hv] at d1
      have next := fun (he : curB ⟨k1, z1, p1, t1, u1⟩ ⟨zn, zhf, zhr, zsf, zst, zgr, zfr, zdm, zsy⟩ now ⟨id', zo, pl, fr, ti, st, sf, sn⟩ = false) => hnext he
      have hlow2 : LowH (h ++ [.box [.d (.int .i64 k1), .d (.str z1), .d (.str p1), .d (.int .i64 t1), .d (.int .i64 u1)], .box [.d (.str zn), .d (.sl zhf (zhr.map Win.row)), .d (.sl zsf (zst.map Stf.row)), .d (.int .i64 zgr), .d (.int .i64 zfr), .d (.int .i64 zdm), .d (.int .i64 zsy)]]) := LowH.app hlow (by simp [Ob.low, C1.low])
      by_cases c1 : zo = z1
      · have b1 : (zo == z1) = true := by simpa using c1
        by_cases c2 : pl = p1
        · have b2 : (pl == p1) = true := by simpa using c2
          by_cases c3 : st = 1
          · cases hnow : now
            · subst hnow
              have hc := Nat.zero_add 0
              repeat' (first | simp only [hc, AS, NX, NPV, SX, HX, em, hrow, hlt, hlt', nn, d1, hle, Int.toNat_natCast, b1, b2, c3, ZZ, simprocAttr, ↓reduceIte] | ((first | apply Za | apply Zb | apply Zc | apply Zd | apply Ze | apply Zf | apply Zg | apply Zh) <;> intro hc) | refine Zi ?_ | refine Zj ?_)
              exact ⟨_, hcut _ _ m (by simp [look]), [.c (.d (.int .i64 m))], by simp [resAllV, resOneV, S.get, look, AV.one], by rw [hhit (by rw [hcb]; simp [c1, c2, c3])]; rfl⟩
            subst hnow
            by_cases c4 : fr ≤ t1
            · have c4' : (fr ≤ t1) = True := eq_true c4
              cases ho : ov
              · subst ho
                have hc := Nat.zero_add 0
                repeat' (first | simp only [hc, AS, NX, NPV, SX, HX, em, hrow, hlt, hlt', nn, d1, hle, Int.toNat_natCast, b1, b2, c3, c4', hvd, c3 ▸ f2, ZZ, simprocAttr, ↓reduceIte] | ((first | apply Za | apply Zb | apply Zc | apply Zd | apply Ze | apply Zf | apply Zg | apply Zh) <;> intro hc) | refine Zi ?_ | refine Zj ?_)
                exact ⟨_, hcut _ _ m (by simp [look]), [.c (.d (.int .i64 m))], by simp [resAllV, resOneV, S.get, look, AV.one], by rw [hhit (by rw [hcb]; simp [c1, c2, c3, c4])]; rfl⟩
              subst ho
              have hc := Nat.zero_add 0
              repeat' (first | simp only [hc, AS, NX, NPV, SX, HX, em, hrow, hlt, hlt', nn, d1, hle, Int.toNat_natCast, b1, b2, c3, c4', hvd, c3 ▸ f2, hw, ZZ, simprocAttr, ↓reduceIte] | ((first | apply Za | apply Zb | apply Zc | apply Zd | apply Ze | apply Zf | apply Zg | apply Zh) <;> intro hc) | refine Zi ?_ | refine Zj ?_)
              exact lp_next m (Wk.back' hlow2 (by rw [happ]; rfl) (by simp) (by simp [subT, look]) (by simp [AV.low, V.low, C1.low]; have := hL.lt; omega)) ⟨by omega, hnext (by rw [hcb]; simp)⟩ (by omega)
            have c4' : (fr ≤ t1) = False := eq_false c4
            have hc := Nat.zero_add 0
            repeat' (first | simp only [hc, AS, NX, NPV, SX, HX, em, hrow, hlt, hlt', nn, d1, hle, Int.toNat_natCast, b1, b2, c3, c4', hw, ZZ, simprocAttr, ↓reduceIte] | ((first | apply Za | apply Zb | apply Zc | apply Zd | apply Ze | apply Zf | apply Zg | apply Zh) <;> intro hc) | refine Zi ?_ | refine Zj ?_)
            exact lp_next m (Wk.back' hlow2 (by rw [happ]; rfl) (by simp) (by simp [subT, look]) (by simp [AV.low, V.low, C1.low]; have := hL.lt; omega)) ⟨by omega, hnext (by rw [hcb]; simp [c4])⟩ (by omega)
          · skip
            have hc := Nat.zero_add 0
            repeat' (first | simp only [hc, AS, NX, NPV, SX, HX, em, hrow, hlt, hlt', nn, d1, hle, Int.toNat_natCast, b1, b2, c3, hw, ZZ, simprocAttr, ↓reduceIte] | ((first | apply Za | apply Zb | apply Zc | apply Zd | apply Ze | apply Zf | apply Zg | apply Zh) <;> intro hc) | refine Zi ?_ | refine Zj ?_)
            exact lp_next m (Wk.back' hlow2 (by rw [happ]; rfl) (by simp) (by simp [subT, look]) (by simp [AV.low, V.low, C1.low]; have := hL.lt; omega)) ⟨by omega, hnext (by rw [hcb]; simp [c3])⟩ (by omega)
        have b2 : (pl == p1) = false := by simpa using c2
        have hc := Nat.zero_add 0
        repeat' (first | simp only [hc, AS, NX, NPV, SX, HX, em, hrow, hlt, hlt', nn, d1, hle, Int.toNat_natCast, b1, b2, hw, ZZ, simprocAttr, ↓reduceIte] | ((first | apply Za | apply Zb | apply Zc | apply Zd | apply Ze | apply Zf | apply Zg | apply Zh) <;> intro hc) | refine Zi ?_ | refine Zj ?_)
        exact lp_next m (Wk.back' hlow2 (by rw [happ]; rfl) (by simp) (by simp [subT, look]) (by simp [AV.low, V.low, C1.low]; have := hL.lt; omega)) ⟨by omega, hnext (by rw [hcb]; simp [c2])⟩ (by omega)
      have b1 : (zo == z1) = false := by simpa using c1
      have hc := Nat.zero_add 0
      repeat' (first | simp only [hc, AS, NX, NPV, SX, HX, em, hrow, hlt, hlt', nn, d1, hle, Int.toNat_natCast, b1, hw, ZZ, simprocAttr, ↓reduceIte] | ((first | apply Za | apply Zb | apply Zc | apply Zd | apply Ze | apply Zf | apply Zg | apply Zh) <;> intro hc) | refine Zi ?_ | refine Zj ?_)
      exact lp_next m (Wk.back' hlow2 (by rw [happ]; rfl) (by simp) (by simp [subT, look]) (by simp [AV.low, V.low, C1.low]; have := hL.lt; omega)) ⟨by omega, hnext (by rw [hcb]; simp [c1])⟩ (by omega)
  cases hg
end
end Go.Ab
namespace Go.Ab
open Go.RowKit Go.Proofs
theorem LiveS.lowC {h : Hp} {id : Nat} {L : List SesO} (hL : LiveS h id L) : ((sc L).all (C1.low h.length)) = true := by
  rw [List.all_eq_true]
  intro c hc
  simp only [sc, List.mem_flatMap] at hc
  obtain ⟨⟨s, o⟩, hx, hc⟩ := hc
  obtain ⟨k, hk⟩ := List.getElem?_of_mem hx
  cases o with
  | none =>
    simp only [scC, seenC, List.mem_cons, List.not_mem_nil, or_false] at hc
    rcases hc with rfl | rfl | rfl | rfl | rfl | rfl | rfl <;> rfl
  | some i =>
    have := lt_of_get (hL.own k s i hk).2
    simp only [scC, seenC, List.mem_cons, List.not_mem_nil, or_false] at hc
    rcases hc with rfl | rfl | rfl | rfl | rfl | rfl | rfl <;> first | rfl | (simp [C1.low]; omega)
abbrev rowO (L : List SesO) : Ob := .tok L.length 7 (some (sc L))
theorem stP_ses {h : Hp} {id k : Nat} {L : List SesO} {x x' : SesO} (hx : L[k]? = some x) {j : Nat} (hj : j < 7) {v : C1} (hs : (scC x).set j v = scC x') :
    stP h id (k * 7 + j) L.length 7 (sc L) (some [v]) (some 1) = some (h.set id (rowO (L.set k x'))) := by
  have hk := lt_of_get hx
  rw [stP_ok (dx := [v]) (k := 1) (eq_true rfl) (eq_true (by rw [sc_len]; omega))]
  unfold setAt
  rw [rowO, List.length_set, ← sc_put hx hj hs]
  rfl
abbrev topsP : Ob := .box [.top, .top, .top, .top, .top]
abbrev topsZ : Ob := .box [.top, .top, .top, .top, .top, .top, .top]
def seenS (s : Ses) (t : Int) : Ses := { s with sf := false, seen := s.seen ++ [t] }
def seeO (h : Hp) (id n : Nat) (g : Hp) (L : List SesO) (p : Par) (z : Zon) : List SesO × Hp :=
  match lastI (curB p z false) (ssOf L) with
  | none => (L, h)
  | some k => match L[k]? with
    | none => (L, h)
    | some (s, o) =>
      if overB z s p.time = true then (L.set k ({ s with state := 3 }, o), h.set id (rowO (L.set k ({ s with state := 3 }, o))))
      else if s.fr ≤ p.time then (match o with
        | none => (L.set k (seenS s p.time, some n), h.set id (rowO (L.set k (seenS s p.time, some n))) ++ (g ++ [.tok 1 1 none]))
        | some i => (L.set k (seenS s p.time, some i), (h.set i (.tok (s.seen.length + 1) 1 none)).set id (rowO (L.set k (seenS s p.time, some i)))))
      else (L, h)
structure SeA where
  h : Hp
  id : Nat
  L : List SesO
  p : Par
  z : Zon
def seR (a : SeA) (args : List AV) (h : Hp) : Prop := args = [.v (.c (.msl a.id a.L.length)), a.p.av, a.z.av] ∧ h = a.h ∧ LiveS a.h a.id a.L ∧ LowH a.h
theorem seR_inj {a b : SeA} {args : List AV} {h : Hp} (ha : seR a args h) (hb : seR b args h) : b = a := by
  obtain ⟨a1, a2, a3, a4, a5⟩ := a
  obtain ⟨b1, b2, b3, b4, b5⟩ := b
  obtain ⟨h1, h2, h3, h4⟩ := ha
  obtain ⟨g1, g2, g3, g4⟩ := hb
  have := rnR_inj (a := ⟨a1, a2, a3, a4, a5, true⟩) (b := ⟨b1, b2, b3, b4, b5, true⟩) (args := args ++ [AV.b true]) (h := h) ⟨by rw [h1]; rfl, h2, h3, h4⟩ ⟨by rw [g1]; rfl, g2, g3, g4⟩
  cases this
  rfl
noncomputable section
open Classical
theorem srun_at {h : Hp} {id : Nat} {L : List SesO} {p : Par} {z : Zon} {now : Bool} (hL : LiveS h id L) (hh : LowH h) (hl : L.length ≤ 1000000000) :
    srun_k [.v (.c (.msl id L.length)), p.av, z.av, AV.b now] h = some (.ret (AV.i (lasN (lastI (curB p z now) (ssOf L)))) h) := by
  have := kR_eq (R := rnR) (g := fun a : RnA => if a.L.length ≤ 1000000000 then some (.ret (AV.i (lasN (lastI (curB a.p a.z a.now) (ssOf a.L)))) a.h) else none) (a := ⟨h, id, L, p, z, now⟩)
    (args := [.v (.c (.msl id L.length)), p.av, z.av, AV.b now]) (h := h) (fun b hb => by rw [rnR_inj (a := ⟨h, id, L, p, z, now⟩) ⟨rfl, rfl, hL, hh⟩ hb]) ⟨rfl, rfl, hL, hh⟩
  exact this.trans (if_pos hl)
def ssee_k : List AV → Hp → Option COut := kR seR fun a => if a.L.length ≤ 1000000000 ∧ ∀ x ∈ a.L, x.1.seen.length ≤ 1000000000 then some (.ret (.tup []) (seeO a.h a.id (a.h.length + 2) [topsP, topsZ] a.L a.p a.z).2) else none
theorem ssee_kok : ImpC Tryz.prog Gt 91 ssee_k := by
  intro args h out h0
  refine fok_of_awpSW (X := ctxN Tryz.prog Gt [(125, sover_m)] [(90, srun_k)] [] none (uL [48])) Tryz.func91 rfl rfl (by kernel_rfl) (by kernel_rfl) (kok_n (AllOk.cons sover_ok AllOk.nil) (AllK.cons srun_kok AllK.nil) AllN.nil) ?_ ?_
  · obtain ⟨a, ⟨rfl, _⟩, _⟩ := kR_inv h0
    exact Nat.le_of_ble_eq_true rfl
  obtain ⟨⟨h', id, L, p, z⟩, ⟨rfl, rfl, hL, hlow⟩, hg⟩ := kR_inv h0
  dsimp only at hL hlow hg ⊢
  split at hg
  · rename_i hlen
    obtain ⟨hlen, hsn⟩ := hlen
    cases hg
    have hidl := hL.lt
    have hrow : ∀ r : Hp, (h ++ r)[id]? = some (.tok L.length 7 (some (sc L))) := fun r => get_ext hL.row
    have hset : ∀ (r : Hp) (o : Ob), (h ++ r).set id o = h.set id o ++ r := fun r o => List.set_append_left _ _ hidl
    have hcut : ∀ (t : List (Nat × AV)) (r : Hp), Wk h.length ⟨t, h ++ r⟩ ⟨[], h⟩ := fun t r => Wk.back hlow (Nat.le_refl _) (by simp [subT]) rfl
    have f1 := srun_at (h := h ++ [.box (p.row.map .d), .box (z.row.map .d)]) (p := p) (z := z) (now := false) hL.ext (LowH.app hlow (by simp [Ob.low, Par.row, Zon.row, C1.low])) hlen
    have hS : seeO h id (h.length + 2) [topsP, topsZ] L p z = seeO h id (h.length + 2) [topsP, topsZ] L p z := rfl
    conv at hS => rhs; unfold seeO
    generalize hR : seeO h id (h.length + 2) [topsP, topsZ] L p z = R at *
    have hov := fun s => @sover_at z s p.time
    obtain ⟨k1, z1, p1, t1, u1⟩ := p
    cases hla : lastI (curB ⟨k1, z1, p1, t1, u1⟩ z false) (ssOf L) with
    | none =>
      rw [hla] at f1 hS
      obtain ⟨zn, zhf, zhr, zsf, zst, zgr, zfr, zdm, zsy⟩ := z
      simp only [Par.av, Zon.av, lasN, Par.row, Zon.row, List.map_cons, List.map_nil] at f1
      dsimp only at hS
      subst hS
      have hc := Nat.zero_add 0
      repeat' (first | simp only [hc, AS, Tryz.f91, NX, NPV, SX, HX, Par.row, Zon.row, List.map_cons, List.map_nil, f1, ZZ, simprocAttr, ↓reduceIte] | ((first | apply Za | apply Zb | apply Zc | apply Zd | apply Ze | apply Zf | apply Zg | apply Zh) <;> intro hc) | refine Zi ?_ | refine Zj ?_)
      exact ⟨_, hcut _ _, [], rfl, rfl⟩
    | some k =>
      rw [hla] at f1 hS
      obtain ⟨x, hx, hcur⟩ := lastI_some hla
      obtain ⟨⟨⟨id', zo, pl, fr, ti, st, sf, sn⟩, o⟩, hx⟩ : ∃ x, L[k]? = some x := by
        simp only [List.getElem?_map, Option.map_eq_some_iff] at hx
        obtain ⟨y, hy, _⟩ := hx
        exact ⟨y, hy⟩
      dsimp only at hS
      rw [hx] at hS
      dsimp only at hS
      have hkl := lt_of_get hx
      have hov := hov ⟨id', zo, pl, fr, ti, st, sf, sn⟩
      generalize overB z ⟨id', zo, pl, fr, ti, st, sf, sn⟩ t1 = ov at *
      obtain ⟨zn, zhf, zhr, zsf, zst, zgr, zfr, zdm, zsy⟩ := z
      simp only [Par.av, Zon.av, lasN, Par.row, Zon.row, Ses.row, List.map_cons, List.map_nil] at f1 hov
      have hlt : ((k : Int) < (L.length : Int)) = True := eq_true (by omega)
      have hlt0 : ((k : Int) < 0) = False := eq_false (by omega)
      have d1 := sc_at hx
      have hle : (k * 7 + 7 ≤ (sc L).length) = True := eq_true (by rw [sc_len]; omega)
      have hsn' : ∃ v, seenC ⟨id', zo, pl, fr, ti, st, sf, sn⟩ o = v ∧ v.toD = some (.sl sf (sn.map rowI)) := by
        cases o with
        | none => exact ⟨_, rfl, rfl⟩
        | some i =>
          have := (hL.own k _ i hx).1
          dsimp only at this
          subst this
          exact ⟨_, rfl, rfl⟩
      obtain ⟨v, hv, hvd⟩ := hsn'
      simp only [scC, hv] at d1
      cases ov with
      | true =>
        rw [if_pos rfl] at hS
        subst hS
        have hL' := hL.put hx (s' := ⟨id', zo, pl, fr, ti, 3, sf, sn⟩) rfl rfl
        have hlow' : LowH (h.set id (rowO (L.set k (⟨id', zo, pl, fr, ti, 3, sf, sn⟩, o)))) := LowH.set hlow (by have := hL'.lowC; rw [List.length_set] at this; exact this)
        have hput := fun h => stP_ses (h := h) (id := id) hx (j := 5) (by decide) (v := .d (.int .i64 3)) (x' := (⟨id', zo, pl, fr, ti, 3, sf, sn⟩, o)) rfl
        have hc := Nat.zero_add 0
        repeat' (first | simp only [hc, AS, Tryz.f91, NX, NPV, SX, HX, Par.row, Zon.row, List.map_cons, List.map_nil, f1, hlt, hlt0, nn, d1, hle, hrow, hset, hvd, hov, Int.toNat_natCast, hput, ZZ, simprocAttr, ↓reduceIte] | ((first | apply Za | apply Zb | apply Zc | apply Zd | apply Ze | apply Zf | apply Zg | apply Zh) <;> intro hc) | refine Zi ?_ | refine Zj ?_)
        exact ⟨_, Wk.back hlow' (by simp) (t' := []) (by simp [subT]) rfl, [], rfl, rfl⟩
      | false =>
        rw [if_neg (by decide)] at hS
        have hc3 := sc_cell hx (j := 3) (by decide)
        have hc6 := sc_cell hx (j := 6) (by decide)
        simp only [scC, hv, List.getElem?_cons_succ, List.getElem?_cons_zero] at hc3 hc6
        by_cases c4 : fr ≤ t1
        · have c4' : (fr ≤ t1) = True := eq_true c4
          rw [if_pos c4] at hS
          cases o with
          | none =>
            dsimp only at hS
            subst hS
            obtain ⟨e1, e2⟩ := hL.non k _ hx
            dsimp only at e1 e2
            subst e1 e2 hv
            have ap := fun h => @apSl_new h 1 8 [[.int .i64 t1]] (by simp [allLen]) (by simp) (by simp)
            have hput := fun h' => stP_ses (h := h') (id := id) hx (j := 6) (by decide) (v := .own (h.length + 2) [[.int .i64 t1]]) (x' := (seenS ⟨id', zo, pl, fr, ti, st, true, []⟩ t1, some (h.length + 2))) rfl
            simp only [seenC, List.map_nil] at hc6 d1 hov
            have w1 : ∀ (g : Hp) (a b c d e : C1), Wk h.length ⟨[], (h.set id (rowO (L.set k (seenS ⟨id', zo, pl, fr, ti, st, true, []⟩ t1, some (h.length + 2))))) ++ .box [a, b, c, d, e] :: g⟩ ⟨[], (h.set id (rowO (L.set k (seenS ⟨id', zo, pl, fr, ti, st, true, []⟩ t1, some (h.length + 2))))) ++ topsP :: g⟩ := fun g a b c d e => Wk.tops (id := h.length) (cs := [a, b, c, d, e]) (by simp) trivial rfl (by simp)
            have w2 : ∀ (g : Hp) (o : Ob) (a b c d e f e2 : C1), Wk h.length ⟨[], (h.set id (rowO (L.set k (seenS ⟨id', zo, pl, fr, ti, st, true, []⟩ t1, some (h.length + 2))))) ++ o :: .box [a, b, c, d, e, f, e2] :: g⟩ ⟨[], (h.set id (rowO (L.set k (seenS ⟨id', zo, pl, fr, ti, st, true, []⟩ t1, some (h.length + 2))))) ++ o :: topsZ :: g⟩ := fun g o a b c d e f e2 => Wk.tops (id := h.length + 1) (cs := [a, b, c, d, e, f, e2]) (by simp) trivial rfl (by simp)
            have hc := Nat.zero_add 0
            repeat' (first | simp only [hc, AS, Tryz.f91, NX, NPV, SX, HX, Par.row, Zon.row, List.map_cons, List.map_nil, f1, hlt, hlt0, nn, d1, hle, hrow, hset, hov, Int.toNat_natCast, hc3, hc6, c4', List.map_nil, hput, ap, ZZ, simprocAttr, ↓reduceIte] | ((first | apply Za | apply Zb | apply Zc | apply Zd | apply Ze | apply Zf | apply Zg | apply Zh) <;> intro hc) | refine Zi ?_ | refine Zj ?_)
            exact ⟨_, (Wk.sub (t' := []) (by simp [subT])).trans ((w1 _ _ _ _ _ _).trans (w2 _ _ _ _ _ _ _ _ _)), [], rfl, rfl⟩
          | some i =>
            dsimp only at hS
            subst hS
            obtain ⟨e1, e2⟩ := hL.own k _ i hx
            dsimp only at e1 e2
            subst e1 hv
            have hil := lt_of_get e2
            have hne := hL.ne hx
            have hsnl : sn.length ≤ 1000000000 := hsn _ (List.mem_of_getElem? hx)
            have hgi : ∀ r : Hp, (h ++ r)[i]? = some (.tok sn.length 1 none) := fun r => get_ext e2
            have hseti : ∀ (r : Hp) (o : Ob), (h ++ r).set i o = h.set i o ++ r := fun r o => List.set_append_left _ _ hil
            have hset2 : ∀ (r : Hp) (o o' : Ob), (h.set i o' ++ r).set id o = (h.set i o').set id o ++ r := fun r o o' => List.set_append_left _ _ (by simpa using hidl)
            have hrow2 : ∀ (r : Hp) (o : Ob), (h.set i o ++ r)[id]? = some (.tok L.length 7 (some (sc L))) := fun r o => get_ext (by rw [List.getElem?_set_ne hne]; exact hL.row)
            have ap : ∀ h : Hp, apTok h i 1 8 (sn.map rowI) [[.int .i64 t1]] (some (.tok sn.length 1 none)) = some (.v (.c (.own i (sn.map rowI ++ [[.int .i64 t1]]))), h.set i (.tok (sn.length + 1) 1 none)) := fun h => by
              rw [apTok_ok (eq_true (by simp)) (eq_true (by simp [allLen])) (eq_true (by simp; omega)) (eq_true (by simp; omega))]
              simp
            have hput := fun h' => stP_ses (h := h') (id := id) hx (j := 6) (by decide) (v := .own i (sn.map rowI ++ [[.int .i64 t1]])) (x' := (seenS ⟨id', zo, pl, fr, ti, st, false, sn⟩ t1, some i)) (by simp [scC, seenC, seenS, rowI])
            have hL' := hL.see1 hx (s' := seenS ⟨id', zo, pl, fr, ti, st, false, sn⟩ t1) rfl
            simp only [seenC] at hc6 d1 hov
            have hc := Nat.zero_add 0
            repeat' (first | simp only [hc, AS, Tryz.f91, NX, NPV, SX, HX, Par.row, Zon.row, List.map_cons, List.map_nil, f1, hlt, hlt0, nn, d1, hle, hrow, hset, hov, Int.toNat_natCast, hc3, hc6, c4', List.map_nil, hput, ap, hgi, hseti, hset2, hrow2, ZZ, simprocAttr, ↓reduceIte] | ((first | apply Za | apply Zb | apply Zc | apply Zd | apply Ze | apply Zf | apply Zg | apply Zh) <;> intro hc) | refine Zi ?_ | refine Zj ?_)
            have hlow' : LowH ((h.set i (.tok (sn.length + 1) 1 none)).set id (rowO (L.set k (seenS ⟨id', zo, pl, fr, ti, st, false, sn⟩ t1, some i)))) := LowH.set (LowH.set hlow rfl) (by have := hL'.lowC; rw [List.length_set, List.length_set] at this; rw [List.length_set]; exact this)
            exact ⟨_, Wk.back hlow' (by simp) (t' := []) (by simp [subT]) rfl, [], rfl, rfl⟩
        have c4' : (fr ≤ t1) = False := eq_false c4
        rw [if_neg c4] at hS
        subst hS
        have hc := Nat.zero_add 0
        repeat' (first | simp only [hc, AS, Tryz.f91, NX, NPV, SX, HX, Par.row, Zon.row, List.map_cons, List.map_nil, f1, hlt, hlt0, nn, d1, hle, hrow, hset, hvd, hov, Int.toNat_natCast, hc3, c4', ZZ, simprocAttr, ↓reduceIte] | ((first | apply Za | apply Zb | apply Zc | apply Zd | apply Ze | apply Zf | apply Zg | apply Zh) <;> intro hc) | refine Zi ?_ | refine Zj ?_)
        exact ⟨_, hcut _ _, [], rfl, rfl⟩
  cases hg
end
end Go.Ab
namespace Go.Ab
open Go.RowKit Go.Proofs
theorem seeO_app {h g g' g'' : Hp} {id n : Nat} {L : List SesO} {p : Par} {z : Zon} (hL : LiveS h id L) :
    (seeO (h ++ g) id n g' L p z).1 = (seeO h id n g'' L p z).1 ∧
      (((seeO (h ++ g) id n g' L p z).2 = (seeO h id n g'' L p z).2 ++ g ∧ (seeO h id n g'' L p z).2.length = h.length) ∨
       ∃ H, H.length = h.length ∧ (seeO (h ++ g) id n g' L p z).2 = H ++ (g ++ (g' ++ [.tok 1 1 none])) ∧ (seeO h id n g'' L p z).2 = H ++ (g'' ++ [.tok 1 1 none])) := by
  have hid := hL.lt
  unfold seeO
  split
  · exact ⟨rfl, .inl ⟨rfl, rfl⟩⟩
  rename_i k hk
  split
  · exact ⟨rfl, .inl ⟨rfl, rfl⟩⟩
  rename_i s o hx
  split
  · exact ⟨rfl, .inl ⟨List.set_append_left _ _ hid, by simp⟩⟩
  split
  · cases o with
    | none => exact ⟨rfl, .inr ⟨h.set id _, by simp, by rw [List.set_append_left _ _ hid, List.append_assoc], rfl⟩⟩
    | some i =>
      have hil := lt_of_get (hL.own k _ i hx).2
      exact ⟨rfl, .inl ⟨by dsimp only; rw [List.set_append_left _ _ hil, List.set_append_left _ _ (by simpa using hid)], by simp⟩⟩
  exact ⟨rfl, .inl ⟨rfl, rfl⟩⟩
theorem seeO_live {h g : Hp} {id : Nat} {L : List SesO} {p : Par} {z : Zon} (hL : LiveS h id L) (hh : LowH h) (hg : (g.all (Ob.low 0)) = true) :
    LiveS (seeO h id (h.length + g.length) g L p z).2 id (seeO h id (h.length + g.length) g L p z).1 ∧ LowH (seeO h id (h.length + g.length) g L p z).2 := by
  unfold seeO
  split
  · exact ⟨hL, hh⟩
  rename_i k hk
  split
  · exact ⟨hL, hh⟩
  rename_i s o hx
  split
  · have hL' := hL.put hx (s' := { s with state := 3 }) rfl rfl
    have e : rowO (L.set k ({ s with state := 3 }, o)) = .tok L.length 7 (some (sc (L.set k ({ s with state := 3 }, o)))) := by simp [rowO]
    refine ⟨by rw [e]; exact hL', LowH.set hh ?_⟩
    have := hL'.lowC
    rw [List.length_set] at this
    exact this
  split
  · cases o with
    | none =>
      obtain ⟨_, e2⟩ := hL.non k _ hx
      have e : rowO (L.set k (seenS s p.time, some (h.length + g.length))) = .tok L.length 7 (some (sc (L.set k (seenS s p.time, some (h.length + g.length))))) := by simp [rowO]
      have hL' := hL.see0 hx (s' := seenS s p.time) (n := h.length + g.length) (by omega) (g := g ++ [.tok 1 1 none]) (by
        rw [List.getElem?_append_right (by simp), List.length_set, Nat.add_sub_cancel_left, List.getElem?_append_right (Nat.le_refl _)]
        simp [seenS, e2]) rfl
      refine ⟨by dsimp only; rw [e]; exact hL', ?_⟩
      dsimp only
      rw [e]
      have hl := hL'.lowC
      unfold LowH
      rw [List.all_eq_true]
      intro x hx
      rcases List.mem_append.1 hx with hx | hx
      · rcases List.mem_or_eq_of_mem_set hx with h1 | rfl
        · exact Ob.low_mono (by simp) (List.all_eq_true.1 hh x h1)
        exact hl
      · rcases List.mem_append.1 hx with hx | hx
        · exact Ob.low_mono (Nat.zero_le _) (List.all_eq_true.1 hg x hx)
        · rw [List.mem_singleton.1 hx]; rfl
    | some i =>
      have e : rowO (L.set k (seenS s p.time, some i)) = .tok L.length 7 (some (sc (L.set k (seenS s p.time, some i)))) := by simp [rowO]
      have hL' := hL.see1 hx (s' := seenS s p.time) rfl
      have e3 : (seenS s p.time).seen.length = s.seen.length + 1 := by simp [seenS]
      rw [e3] at hL'
      refine ⟨by dsimp only; rw [e]; exact hL', ?_⟩
      dsimp only
      refine LowH.set (LowH.set hh rfl) ?_
      have := hL'.lowC
      rw [List.length_set, List.length_set] at this
      rw [List.length_set]
      exact this
  exact ⟨hL, hh⟩
theorem seeO_len {h : Hp} {id n : Nat} {g : Hp} {L : List SesO} {p : Par} {z : Zon} : (seeO h id n g L p z).1.length = L.length := by
  unfold seeO
  split
  · rfl
  split
  · rfl
  split
  · simp
  split
  · split <;> simp
  rfl
abbrev topsA : Hp := [topsP, topsZ, topsP, topsZ]
def apO (h : Hp) (id : Nat) (L : List SesO) (p : Par) (zs : List Zon) : List SesO × Int × Hp :=
  if errP zs p ≠ 0 then (L, errP zs p, h) else match findZ zs p.zone with
  | none => (L, 23, h)
  | some z =>
    if p.kind = 1 then (match lastI (curB p z true) (ssOf L) with
      | some _ => (L, 11, h)
      | none => (L ++ [(newS p, none)], 0, h.set id (rowO (L ++ [(newS p, none)]))))
    else if p.kind = 2 then (match lastI (curB p z true) (ssOf L) with
      | none => (L, 11, h)
      | some k => match L[k]? with
        | none => (L, 11, h)
        | some (s, o) => if p.til ≤ s.til then (L, 15, h) else if z.stay ≠ 0 ∧ s.fr < p.til - z.stay then (L, 3, h) else (L.set k ({ s with til := p.til }, o), 0, h.set id (rowO (L.set k ({ s with til := p.til }, o)))))
    else if p.kind = 3 then (match lastI (curB p z true) (ssOf L) with
      | none => (L, 11, h)
      | some k => match L[k]? with
        | none => (L, 11, h)
        | some (s, o) => (L.set k ({ s with state := 2, til := min s.til p.time }, o), 0, h.set id (rowO (L.set k ({ s with state := 2, til := min s.til p.time }, o)))))
    else if p.kind = 4 then ((seeO h id (h.length + 4) topsA L p z).1, 0, (seeO h id (h.length + 4) topsA L p z).2)
    else (L, 0, h)
structure ApA where
  h : Hp
  id : Nat
  L : List SesO
  p : Par
  f : Bool
  zs : List Zon
def apRl (a : ApA) (args : List AV) (h : Hp) : Prop := args = [.v (.c (.msl a.id a.L.length)), a.p.av, .v (.c (.d (.sl a.f (a.zs.map Zon.row))))] ∧ h = a.h ∧ LiveS a.h a.id a.L ∧ LowH a.h
theorem apRl_inj {a b : ApA} {args : List AV} {h : Hp} (ha : apRl a args h) (hb : apRl b args h) : b = a := by
  obtain ⟨a1, a2, a3, a4, a5, a6⟩ := a
  obtain ⟨b1, b2, b3, b4, b5, b6⟩ := b
  obtain ⟨h1, h2, h3, h4⟩ := ha
  obtain ⟨g1, g2, g3, g4⟩ := hb
  dsimp only at *
  subst h2 g2
  rw [h1] at g1
  simp only [List.cons.injEq, AV.v.injEq, V.c.injEq, C1.msl.injEq, V.agg.injEq, C1.d.injEq, D.sl.injEq, and_true] at g1
  obtain ⟨⟨rfl, g4⟩, g5, rfl, g7⟩ := g1
  rw [h3.inj g3]
  have e1 : a4.row = b4.row := map_inj (fun x y h => by cases h; rfl) g5
  rw [Par.inj _ _ e1, mapZn_inj.1 g7]
noncomputable section
open Classical
theorem ssee_at {h : Hp} {id : Nat} {L : List SesO} {p : Par} {z : Zon} (hL : LiveS h id L) (hh : LowH h) (hl : L.length ≤ 1000000000) (hs : ∀ x ∈ L, x.1.seen.length ≤ 1000000000) :
    ssee_k [.v (.c (.msl id L.length)), p.av, z.av] h = some (.ret (.tup []) (seeO h id (h.length + 2) [topsP, topsZ] L p z).2) := by
  have := kR_eq (R := seR) (g := fun a : SeA => if a.L.length ≤ 1000000000 ∧ ∀ x ∈ a.L, x.1.seen.length ≤ 1000000000 then some (.ret (.tup []) (seeO a.h a.id (a.h.length + 2) [topsP, topsZ] a.L a.p a.z).2) else none) (a := ⟨h, id, L, p, z⟩)
    (args := [.v (.c (.msl id L.length)), p.av, z.av]) (h := h) (fun b hb => by rw [seR_inj (a := ⟨h, id, L, p, z⟩) ⟨rfl, rfl, hL, hh⟩ hb]) ⟨rfl, rfl, hL, hh⟩
  exact this.trans (if_pos ⟨hl, hs⟩)
theorem scheck_at' {p : Par} {f : Bool} {l : List Zon} (h : zonesOk l) (hp : p.Ok) : scheck_m [.agg p.row, .c (.sl f (l.map Zon.row))] = some [.i (errP l p)] := by
  have := mE_eq encPZs_inj (g := fun p => if zonesOk p.2.2 ∧ p.1.Ok then some [.i (errP p.2.2 p.1)] else none) (a := (p, f, l))
  exact this.trans (if_pos ⟨h, hp⟩)
theorem skey_at' {p : Par} (hp : p.Ok) : skey_m [.agg p.row] = some [.c (.str (keyF p))] := by
  have := mE_eq encP_inj (g := fun p : Par => if p.Ok then some [.c (.str (keyF p))] else none) (a := p)
  exact this.trans (if_pos hp)
def manyOk (L : List SesO) : Prop := L.length ≤ 1000000000 ∧ ∀ x ∈ L, x.1.seen.length ≤ 1000000000
def sapply_k : List AV → Hp → Option COut := kR apRl fun a => if manyOk a.L ∧ a.p.Ok ∧ zonesOk a.zs then some (.ret (.tup [.c (.msl a.id (apO a.h a.id a.L a.p a.zs).1.length), .c (.d (.int .i64 (apO a.h a.id a.L a.p a.zs).2.1))]) (apO a.h a.id a.L a.p a.zs).2.2) else none
set_option maxHeartbeats 8000000 in
theorem sapply_kok : ImpC Tryz.prog Gt 45 sapply_k := by
  intro args h out h0
  refine fok_of_awpSW (X := ctxN Tryz.prog Gt [(46, scheck_m), (89, sof_m), (47, skey_m)] [(90, srun_k), (91, ssee_k)] [] none (uL [48])) Tryz.func45 rfl rfl (by kernel_rfl) (by kernel_rfl) (kok_n (AllOk.cons scheck_ok (AllOk.cons sof_ok (AllOk.cons skey_ok AllOk.nil))) (AllK.cons srun_kok (AllK.cons ssee_kok AllK.nil)) AllN.nil) ?_ ?_
  · obtain ⟨a, ⟨rfl, _⟩, _⟩ := kR_inv h0
    exact Nat.le_of_ble_eq_true rfl
  obtain ⟨⟨h', id, L, p, f, zs⟩, ⟨rfl, rfl, hL, hlow⟩, hg⟩ := kR_inv h0
  dsimp only at hL hlow hg ⊢
  split at hg
  · rename_i hlen
    obtain ⟨⟨hlen, hsn⟩, hp, hz⟩ := hlen
    cases hg
    have hidl := hL.lt
    have hrow : ∀ r : Hp, (h ++ r)[id]? = some (.tok L.length 7 (some (sc L))) := fun r => get_ext hL.row
    have hset : ∀ (r : Hp) (o : Ob), (h ++ r).set id o = h.set id o ++ r := fun r o => List.set_append_left _ _ hidl
    have hcut : ∀ (t : List (Nat × AV)) (r : Hp) (m n : Nat) (e : Int), look t 6 = .v (.c (.msl id m)) → look t 7 = AV.i e → Wk h.length ⟨t, h ++ r⟩ ⟨[(6, .v (.c (.msl id m))), (7, AV.i e)], h⟩ := fun t r m n e h6 h7 => Wk.back hlow (Nat.le_refl _) (by simp [subT, h6, h7]) (by simp [AV.low, V.low, C1.low, hidl])
    have hfin : ∀ (H : Hp), LowH H → H.length = h.length → ∀ (t : List (Nat × AV)) (r : Hp) (m : Nat) (e : Int), look t 6 = .v (.c (.msl id m)) → look t 7 = AV.i e → Wk h.length ⟨t, H ++ r⟩ ⟨[(6, .v (.c (.msl id m))), (7, AV.i e)], H⟩ := fun H hH hn t r m e h6 h7 => Wk.back hH (by omega) (by simp [subT, h6, h7]) (by simp [AV.low, V.low, C1.low]; omega)
    have f1 := scheck_at' (f := f) hz hp
    have f4 := skey_at' hp
    have hA : apO h id L p zs = apO h id L p zs := rfl
    conv at hA => rhs; unfold apO
    generalize hR : apO h id L p zs = R at *
    by_cases he : errP zs p = 0
    · have hd := err_dots he
      obtain ⟨_, _, z, hfz, hzc, hT, hist, hk1, hk6⟩ := hd
      have f2 := sof_at (p := p) (f := f) hz
      have hof : ofR Zon.cp zs p.zone = (z.cp, true) := by unfold ofR; rw [hfz]; simp [hzc]
      rw [hof] at f2
      rw [if_neg (by simpa using he), hfz] at hA
      dsimp only at hA
      have f3 := srun_at (h := h ++ [.box (p.row.map .d), .box (z.cp.row.map .d)]) (p := p) (z := z.cp) (now := true) hL.ext (LowH.app hlow (by simp [Ob.low, Par.row, Zon.row, C1.low])) hlen
      have f5 := ssee_at (h := h ++ [.box (p.row.map .d), .box (z.cp.row.map .d)]) (p := p) (z := z.cp) hL.ext (LowH.app hlow (by simp [Ob.low, Par.row, Zon.row, C1.low])) hlen hsn
      rw [show lastI (curB p z.cp true) (ssOf L) = lastI (curB p z true) (ssOf L) from rfl] at f3
      rw [he] at f1
      obtain ⟨hst1, hst2, _, _⟩ := err_stay hzc
      obtain ⟨k1, z1, p1, t1, u1⟩ := p
      obtain ⟨zn, zhf, zhr, zsf, zst, zgr, zfr, zdm, zsy⟩ := z
      simp only [Par.av, Zon.av, Zon.cp, Par.row, Zon.row, List.map_cons, List.map_nil] at f1 f2 f3 f4 f5
      dsimp only at hA hist hk1 hk6 hst1 hst2 f3
      have ht1 : 0 ≤ t1 ∧ t1 < 68719476736 := by simpa [isT] using hist
      by_cases c1 : k1 = 1
      · subst c1
        rw [if_pos rfl] at hA
        cases hla : lastI (curB ⟨1, z1, p1, t1, u1⟩ ⟨zn, zhf, zhr, zsf, zst, zgr, zfr, zdm, zsy⟩ true) (ssOf L) with
        | none =>
          rw [hla] at f3 hA
          dsimp only [lasN] at hA f3
          subst hA
          have hL' := hL.add (s := newS ⟨1, z1, p1, t1, u1⟩) rfl rfl
          have hsc : sc L ++ [.d (.str (keyF ⟨1, z1, p1, t1, u1⟩)), .d (.str z1), .d (.str p1), .d (.int .i64 t1), .d (.int .i64 u1), .d (.int .i64 1), .d (.sl true [])] = sc (L ++ [(newS ⟨1, z1, p1, t1, u1⟩, none)]) := by rw [sc_append]; rfl
          have hro : Ob.tok (L.length + 1) 7 (some (sc (L ++ [(newS ⟨1, z1, p1, t1, u1⟩, none)]))) = rowO (L ++ [(newS ⟨1, z1, p1, t1, u1⟩, none)]) := by simp [rowO]
          have hb1 : ((L.length + 1) * 96 ≤ 140737488355328) = True := eq_true (by omega)
          have hb2 : (L.length + 1 ≤ 4611686018427387904) = True := eq_true (by omega)
          generalize keyF ⟨1, z1, p1, t1, u1⟩ = key at *
          have hc := Nat.zero_add 0
          repeat' (first | simp only [hc, AS, Tryz.f45, NX, NPV, SX, HX, Par.row, Zon.row, List.map_cons, List.map_nil, f1, f2, f3, f4, hrow, hset, nn, Int.toNat_natCast, hb1, hb2, hsc, hro, ZZ, simprocAttr, ↓reduceIte] | ((first | apply Za | apply Zb | apply Zc | apply Zd | apply Ze | apply Zf | apply Zg | apply Zh) <;> intro hc) | refine Zi ?_ | refine Zj ?_)
          have hlow' : LowH (h.set id (rowO (L ++ [(newS ⟨1, z1, p1, t1, u1⟩, none)]))) := LowH.set hlow (by have := hL'.lowC; rw [List.length_set] at this; exact this)
          exact ⟨_, hfin _ hlow' (by simp) _ _ (L.length + 1) 0 (by simp [look]) (by simp [look]), [.c (.msl id (L.length + 1)), .c (.d (.int .i64 0))], by simp [resAllV, resOneV, S.get, look, AV.one], by simp [resVV]⟩
        | some k =>
          rw [hla] at f3 hA
          dsimp only [lasN] at hA f3
          subst hA
          have hge : ((k : Int) ≥ 0) = True := eq_true (by omega)
          have hc := Nat.zero_add 0
          repeat' (first | simp only [hc, AS, Tryz.f45, NX, NPV, SX, HX, Par.row, Zon.row, List.map_cons, List.map_nil, f1, f2, f3, f4, hrow, hset, nn, Int.toNat_natCast, hge, ZZ, simprocAttr, ↓reduceIte] | ((first | apply Za | apply Zb | apply Zc | apply Zd | apply Ze | apply Zf | apply Zg | apply Zh) <;> intro hc) | refine Zi ?_ | refine Zj ?_)
          exact ⟨_, hcut _ _ L.length 0 11 (by simp [look]) (by simp [look]), [.c (.msl id L.length), .c (.d (.int .i64 11))], by simp [resAllV, resOneV, S.get, look, AV.one], rfl⟩
      rw [if_neg c1] at hA
      by_cases c2 : k1 = 2
      · subst c2
        rw [if_pos rfl] at hA
        cases hla : lastI (curB ⟨2, z1, p1, t1, u1⟩ ⟨zn, zhf, zhr, zsf, zst, zgr, zfr, zdm, zsy⟩ true) (ssOf L) with
        | none =>
          rw [hla] at f3 hA
          dsimp only [lasN] at hA f3
          subst hA
          have hc := Nat.zero_add 0
          repeat' (first | simp only [hc, AS, Tryz.f45, NX, NPV, SX, HX, Par.row, Zon.row, List.map_cons, List.map_nil, f1, f2, f3, f4, hrow, hset, nn, Int.toNat_natCast, ZZ, simprocAttr, ↓reduceIte] | ((first | apply Za | apply Zb | apply Zc | apply Zd | apply Ze | apply Zf | apply Zg | apply Zh) <;> intro hc) | refine Zi ?_ | refine Zj ?_)
          exact ⟨_, hcut _ _ L.length 0 11 (by simp [look]) (by simp [look]), [.c (.msl id L.length), .c (.d (.int .i64 11))], by simp [resAllV, resOneV, S.get, look, AV.one], rfl⟩
        | some k =>
          rw [hla] at f3 hA
          obtain ⟨x, hx, hcur⟩ := lastI_some hla
          obtain ⟨⟨⟨id', zo, pl, fr, ti, st, sf, sn⟩, o⟩, hx⟩ : ∃ x, L[k]? = some x := by
            simp only [List.getElem?_map, Option.map_eq_some_iff] at hx
            obtain ⟨y, hy, _⟩ := hx
            exact ⟨y, hy⟩
          dsimp only [lasN] at hA f3
          rw [hx] at hA
          dsimp only at hA
          have hkl := lt_of_get hx
          have hlt : ((k : Int) < 0) = False := eq_false (by omega)
          have hlt2 : ((k : Int) < (L.length : Int)) = True := eq_true (by omega)
          have hc3 := sc_cell hx (j := 3) (by decide)
          have hc4 := sc_cell hx (j := 4) (by decide)
          simp only [scC, List.getElem?_cons_succ, List.getElem?_cons_zero] at hc3 hc4
          have hT2 : t1 < u1 ∧ u1 ≤ 68719476736 := by
            simp only [errT] at hT
            by_cases hq : u1 ≤ t1 ∨ 68719476736 < u1
            · simp [hq] at hT
            omega
          have hw := wI (n := u1 - zsy) (by omega) (by omega)
          by_cases d2 : u1 ≤ ti
          · rw [if_pos d2] at hA
            subst hA
            have d2' : (u1 ≤ ti) = True := eq_true d2
            have hc := Nat.zero_add 0
            repeat' (first | simp only [hc, AS, Tryz.f45, NX, NPV, SX, HX, Par.row, Zon.row, List.map_cons, List.map_nil, f1, f2, f3, f4, hrow, hset, nn, Int.toNat_natCast, hlt, hlt2, hc3, hc4, d2', ZZ, simprocAttr, ↓reduceIte] | ((first | apply Za | apply Zb | apply Zc | apply Zd | apply Ze | apply Zf | apply Zg | apply Zh) <;> intro hc) | refine Zi ?_ | refine Zj ?_)
            exact ⟨_, hcut _ _ L.length 0 15 (by simp [look]) (by simp [look]), [.c (.msl id L.length), .c (.d (.int .i64 15))], by simp [resAllV, resOneV, S.get, look, AV.one], rfl⟩
          rw [if_neg d2] at hA
          have d2' : (u1 ≤ ti) = False := eq_false d2
          have hL' := hL.put hx (s' := ⟨id', zo, pl, fr, u1, st, sf, sn⟩) rfl rfl
          have hlow' : LowH (h.set id (rowO (L.set k (⟨id', zo, pl, fr, u1, st, sf, sn⟩, o)))) := LowH.set hlow (by have := hL'.lowC; rw [List.length_set] at this; exact this)
          have hput := fun h' => stP_ses (h := h') (id := id) hx (j := 4) (by decide) (v := .d (.int .i64 u1)) (x' := (⟨id', zo, pl, fr, u1, st, sf, sn⟩, o)) rfl
          by_cases d3 : zsy = 0
          · rw [if_neg (by simp [d3])] at hA
            subst hA
            subst d3
            have d3' : ((0 : Int) > 0) = False := eq_false (by omega)
            have hc := Nat.zero_add 0
            repeat' (first | simp only [hc, AS, Tryz.f45, NX, NPV, SX, HX, Par.row, Zon.row, List.map_cons, List.map_nil, f1, f2, f3, f4, hrow, hset, nn, Int.toNat_natCast, hlt, hlt2, hc3, hc4, d2', d3', hput, ZZ, simprocAttr, ↓reduceIte] | ((first | apply Za | apply Zb | apply Zc | apply Zd | apply Ze | apply Zf | apply Zg | apply Zh) <;> intro hc) | refine Zi ?_ | refine Zj ?_)
            exact ⟨_, hfin _ hlow' (by simp) _ _ L.length 0 (by simp [look]) (by simp [look]), [.c (.msl id L.length), .c (.d (.int .i64 0))], by simp [resAllV, resOneV, S.get, look, AV.one], by simp [resVV]⟩
          have d3' : (zsy > 0) = True := eq_true (by omega)
          by_cases d4 : fr < u1 - zsy
          · rw [if_pos ⟨d3, d4⟩] at hA
            subst hA
            have d4' : (u1 - zsy > fr) = True := eq_true d4
            have hc := Nat.zero_add 0
            repeat' (first | simp only [hc, AS, Tryz.f45, NX, NPV, SX, HX, Par.row, Zon.row, List.map_cons, List.map_nil, f1, f2, f3, f4, hrow, hset, nn, Int.toNat_natCast, hlt, hlt2, hc3, hc4, d2', d3', d4', hw, ZZ, simprocAttr, ↓reduceIte] | ((first | apply Za | apply Zb | apply Zc | apply Zd | apply Ze | apply Zf | apply Zg | apply Zh) <;> intro hc) | refine Zi ?_ | refine Zj ?_)
            exact ⟨_, hcut _ _ L.length 0 3 (by simp [look]) (by simp [look]), [.c (.msl id L.length), .c (.d (.int .i64 3))], by simp [resAllV, resOneV, S.get, look, AV.one], rfl⟩
          rw [if_neg (by simp [d4])] at hA
          subst hA
          have d4' : (u1 - zsy > fr) = False := eq_false d4
          have hc := Nat.zero_add 0
          repeat' (first | simp only [hc, AS, Tryz.f45, NX, NPV, SX, HX, Par.row, Zon.row, List.map_cons, List.map_nil, f1, f2, f3, f4, hrow, hset, nn, Int.toNat_natCast, hlt, hlt2, hc3, hc4, d2', d3', d4', hw, hput, ZZ, simprocAttr, ↓reduceIte] | ((first | apply Za | apply Zb | apply Zc | apply Zd | apply Ze | apply Zf | apply Zg | apply Zh) <;> intro hc) | refine Zi ?_ | refine Zj ?_)
          exact ⟨_, hfin _ hlow' (by simp) _ _ L.length 0 (by simp [look]) (by simp [look]), [.c (.msl id L.length), .c (.d (.int .i64 0))], by simp [resAllV, resOneV, S.get, look, AV.one], by simp [resVV]⟩
      rw [if_neg c2] at hA
      by_cases c3 : k1 = 3
      · subst c3
        rw [if_pos rfl] at hA
        cases hla : lastI (curB ⟨3, z1, p1, t1, u1⟩ ⟨zn, zhf, zhr, zsf, zst, zgr, zfr, zdm, zsy⟩ true) (ssOf L) with
        | none =>
          rw [hla] at f3 hA
          dsimp only [lasN] at hA f3
          subst hA
          have hc := Nat.zero_add 0
          repeat' (first | simp only [hc, AS, Tryz.f45, NX, NPV, SX, HX, Par.row, Zon.row, List.map_cons, List.map_nil, f1, f2, f3, f4, hrow, hset, nn, Int.toNat_natCast, ZZ, simprocAttr, ↓reduceIte] | ((first | apply Za | apply Zb | apply Zc | apply Zd | apply Ze | apply Zf | apply Zg | apply Zh) <;> intro hc) | refine Zi ?_ | refine Zj ?_)
          exact ⟨_, hcut _ _ L.length 0 11 (by simp [look]) (by simp [look]), [.c (.msl id L.length), .c (.d (.int .i64 11))], by simp [resAllV, resOneV, S.get, look, AV.one], rfl⟩
        | some k =>
          rw [hla] at f3 hA
          obtain ⟨x, hx, hcur⟩ := lastI_some hla
          obtain ⟨⟨⟨id', zo, pl, fr, ti, st, sf, sn⟩, o⟩, hx⟩ : ∃ x, L[k]? = some x := by
            simp only [List.getElem?_map, Option.map_eq_some_iff] at hx
            obtain ⟨y, hy, _⟩ := hx
            exact ⟨y, hy⟩
          dsimp only [lasN] at hA f3
          rw [hx] at hA
          dsimp only at hA
          have hkl := lt_of_get hx
          have hlt : ((k : Int) < 0) = False := eq_false (by omega)
          have hlt2 : ((k : Int) < (L.length : Int)) = True := eq_true (by omega)
          have hmin : (if t1 < ti then t1 else ti) = min ti t1 := by rw [Int.min_def]; split <;> split <;> omega
          have hL' := hL.put hx (s' := ⟨id', zo, pl, fr, min ti t1, 2, sf, sn⟩) rfl rfl
          have hlow' : LowH (h.set id (rowO (L.set k (⟨id', zo, pl, fr, min ti t1, 2, sf, sn⟩, o)))) := LowH.set hlow (by have := hL'.lowC; rw [List.length_set] at this; exact this)
          have hput := fun h' => stP_ses (h := h') (id := id) hx (j := 5) (by decide) (v := .d (.int .i64 2)) (x' := (⟨id', zo, pl, fr, ti, 2, sf, sn⟩, o)) rfl
          have hx1 : (L.set k (⟨id', zo, pl, fr, ti, 2, sf, sn⟩, o))[k]? = some (⟨id', zo, pl, fr, ti, 2, sf, sn⟩, o) := by simp [hkl]
          have hc4 := sc_cell hx1 (j := 4) (by decide)
          simp only [scC, List.getElem?_cons_succ, List.getElem?_cons_zero] at hc4
          have hput2 : ∀ h', stP h' id (k * 7 + 4) L.length 7 (sc (L.set k (⟨id', zo, pl, fr, ti, 2, sf, sn⟩, o))) (some [.d (.int .i64 (min ti t1))]) (some 1) = some (h'.set id (rowO (L.set k (⟨id', zo, pl, fr, min ti t1, 2, sf, sn⟩, o)))) := fun h' => by
            have := stP_ses (h := h') (id := id) hx1 (j := 4) (by decide) (v := .d (.int .i64 (min ti t1))) (x' := (⟨id', zo, pl, fr, min ti t1, 2, sf, sn⟩, o)) rfl
            rwa [List.length_set, List.set_set] at this
          have hrow1 : ∀ r : Hp, (h.set id (rowO (L.set k (⟨id', zo, pl, fr, ti, 2, sf, sn⟩, o))) ++ r)[id]? = some (.tok L.length 7 (some (sc (L.set k (⟨id', zo, pl, fr, ti, 2, sf, sn⟩, o))))) := fun r => get_ext (by simp [hidl, rowO])
          have hb0 : ∀ (o a : Ob) (r : Hp), (h.set id o ++ a :: r)[h.length]? = some a := fun o a r => by have := @ha0 (h.set id o) r a; rwa [List.length_set] at this
          have hb1 : ∀ (o a b : Ob) (r : Hp), (h.set id o ++ a :: b :: r)[h.length + 1]? = some b := fun o a b r => by have := @ha1 (h.set id o) r a b; rwa [List.length_set] at this
          have hset1 : ∀ (r : Hp) (o1 o2 : Ob), (h.set id o1 ++ r).set id o2 = h.set id o2 ++ r := fun r o1 o2 => by rw [List.set_append_left _ _ (by simpa using hidl), List.set_set]
          subst hA
          have hc := Nat.zero_add 0
          repeat' (first | simp only [hc, AS, Tryz.f45, NX, NPV, SX, HX, Par.row, Zon.row, List.map_cons, List.map_nil, f1, f2, f3, f4, hrow, hset, nn, Int.toNat_natCast, hlt, hlt2, hc4, hput, hput2, hrow1, hset1, hmin, hb0, hb1, ZZ, simprocAttr, ↓reduceIte] | ((first | apply Za | apply Zb | apply Zc | apply Zd | apply Ze | apply Zf | apply Zg | apply Zh) <;> intro hc) | refine Zi ?_ | refine Zj ?_)
          exact ⟨_, hfin _ hlow' (by simp) _ _ L.length 0 (by simp [look]) (by simp [look]), [.c (.msl id L.length), .c (.d (.int .i64 0))], by simp [resAllV, resOneV, S.get, look, AV.one], by simp [resVV]⟩
      rw [if_neg c3] at hA
      by_cases c4 : k1 = 4
      · subst c4
        rw [if_pos rfl] at hA
        obtain ⟨hv1, hv2⟩ := seeO_live (g := topsA) (p := ⟨4, z1, p1, t1, u1⟩) (z := ⟨zn, zhf, zhr, zsf, zst, zgr, zfr, zdm, zsy⟩) hL hlow (by simp [Ob.low, C1.low])
        obtain ⟨e1, e2⟩ := seeO_app (h := h) (g := [.box [.d (.int .i64 4), .d (.str z1), .d (.str p1), .d (.int .i64 t1), .d (.int .i64 u1)], .box [.d (.str zn), .d (.sl zhr.isEmpty (zhr.map Win.row)), .d (.sl zst.isEmpty (zst.map Stf.row)), .d (.int .i64 zgr), .d (.int .i64 zfr), .d (.int .i64 zdm), .d (.int .i64 zsy)]])
          (g' := [topsP, topsZ]) (g'' := topsA) (n := h.length + 4) (p := ⟨4, z1, p1, t1, u1⟩) (z := ⟨zn, zhf, zhr, zsf, zst, zgr, zfr, zdm, zsy⟩) hL
        have en : (h ++ [Ob.box [.d (.int .i64 4), .d (.str z1), .d (.str p1), .d (.int .i64 t1), .d (.int .i64 u1)], Ob.box [.d (.str zn), .d (.sl zhr.isEmpty (zhr.map Win.row)), .d (.sl zst.isEmpty (zst.map Stf.row)), .d (.int .i64 zgr), .d (.int .i64 zfr), .d (.int .i64 zdm), .d (.int .i64 zsy)]]).length + 2 = h.length + 4 := by simp
        rw [en] at f5
        have hlen1 := seeO_len (h := h) (id := id) (n := h.length + 4) (g := topsA) (L := L) (p := ⟨4, z1, p1, t1, u1⟩) (z := ⟨zn, zhf, zhr, zsf, zst, zgr, zfr, zdm, zsy⟩)
        have hR4 : h.length + topsA.length = h.length + 4 := rfl
        rw [hR4] at hv1 hv2
        have f5 : ssee_k [.v (.c (.msl id L.length)), .v (.agg [.d (.int .i64 4), .d (.str z1), .d (.str p1), .d (.int .i64 t1), .d (.int .i64 u1)]), .v (.agg [.d (.str zn), .d (.sl zhr.isEmpty (zhr.map Win.row)), .d (.sl zst.isEmpty (zst.map Stf.row)), .d (.int .i64 zgr), .d (.int .i64 zfr), .d (.int .i64 zdm), .d (.int .i64 zsy)])] (h ++ [.box [.d (.int .i64 4), .d (.str z1), .d (.str p1), .d (.int .i64 t1), .d (.int .i64 u1)], .box [.d (.str zn), .d (.sl zhr.isEmpty (zhr.map Win.row)), .d (.sl zst.isEmpty (zst.map Stf.row)), .d (.int .i64 zgr), .d (.int .i64 zfr), .d (.int .i64 zdm), .d (.int .i64 zsy)]]) = some (.ret (.tup []) (seeO (h ++ [.box [.d (.int .i64 4), .d (.str z1), .d (.str p1), .d (.int .i64 t1), .d (.int .i64 u1)], .box [.d (.str zn), .d (.sl zhr.isEmpty (zhr.map Win.row)), .d (.sl zst.isEmpty (zst.map Stf.row)), .d (.int .i64 zgr), .d (.int .i64 zfr), .d (.int .i64 zdm), .d (.int .i64 zsy)]]) id (h.length + 4) [topsP, topsZ] L ⟨4, z1, p1, t1, u1⟩ ⟨zn, zhf, zhr, zsf, zst, zgr, zfr, zdm, zsy⟩).2) := f5
        subst hA
        dsimp only
        rw [hlen1]
        generalize seeO (h ++ [.box [.d (.int .i64 4), .d (.str z1), .d (.str p1), .d (.int .i64 t1), .d (.int .i64 u1)], .box [.d (.str zn), .d (.sl zhr.isEmpty (zhr.map Win.row)), .d (.sl zst.isEmpty (zst.map Stf.row)), .d (.int .i64 zgr), .d (.int .i64 zfr), .d (.int .i64 zdm), .d (.int .i64 zsy)]]) id (h.length + 4) [topsP, topsZ] L ⟨4, z1, p1, t1, u1⟩ ⟨zn, zhf, zhr, zsf, zst, zgr, zfr, zdm, zsy⟩ = RA at *
        generalize seeO h id (h.length + 4) topsA L ⟨4, z1, p1, t1, u1⟩ ⟨zn, zhf, zhr, zsf, zst, zgr, zfr, zdm, zsy⟩ = RB at *
        obtain ⟨LA, HA⟩ := RA
        obtain ⟨LB, HB⟩ := RB
        dsimp only at *
        rcases e2 with ⟨e2, e3⟩ | ⟨H, e3, e2, e4⟩
        · subst e2
          have hc := Nat.zero_add 0
          repeat' (first | simp only [hc, AS, Tryz.f45, NX, NPV, SX, HX, Par.row, Zon.row, List.map_cons, List.map_nil, f1, f2, f3, f4, hrow, hset, nn, Int.toNat_natCast, f5, ZZ, simprocAttr, ↓reduceIte] | ((first | apply Za | apply Zb | apply Zc | apply Zd | apply Ze | apply Zf | apply Zg | apply Zh) <;> intro hc) | refine Zi ?_ | refine Zj ?_)
          exact ⟨_, hfin _ hv2 e3 _ _ L.length 0 (by simp [look]) (by simp [look]), [.c (.msl id L.length), .c (.d (.int .i64 0))], by simp [resAllV, resOneV, S.get, look, AV.one], rfl⟩
        subst e2 e4
        have w1 : ∀ (t : List (Nat × AV)) (g : Hp) (a b c d e : C1), look t 6 = .v (.c (.msl id L.length)) → look t 7 = AV.i 0 → Wk h.length ⟨t, H ++ .box [a, b, c, d, e] :: g⟩ ⟨[(6, .v (.c (.msl id L.length))), (7, AV.i 0)], H ++ topsP :: g⟩ := fun t g a b c d e h6 h7 => Wk.tops (id := H.length) (cs := [a, b, c, d, e]) (by simp) (by simp [subT, h6, h7]) rfl (by simp)
        have w2 : ∀ (g : Hp) (o : Ob) (a b c d e f e2 : C1), Wk h.length ⟨[(6, .v (.c (.msl id L.length))), (7, AV.i 0)], H ++ o :: .box [a, b, c, d, e, f, e2] :: g⟩ ⟨[(6, .v (.c (.msl id L.length))), (7, AV.i 0)], H ++ o :: topsZ :: g⟩ := fun g o a b c d e f e2 => Wk.tops (id := H.length + 1) (cs := [a, b, c, d, e, f, e2]) (by simp) (by simp [subT, look]) rfl (by simp)
        have hc := Nat.zero_add 0
        repeat' (first | simp only [hc, AS, Tryz.f45, NX, NPV, SX, HX, Par.row, Zon.row, List.map_cons, List.map_nil, f1, f2, f3, f4, hrow, hset, nn, Int.toNat_natCast, f5, ZZ, simprocAttr, ↓reduceIte] | ((first | apply Za | apply Zb | apply Zc | apply Zd | apply Ze | apply Zf | apply Zg | apply Zh) <;> intro hc) | refine Zi ?_ | refine Zj ?_)
        exact ⟨_, (w1 _ _ _ _ _ _ _ (by simp [look]) (by simp [look])).trans (w2 _ _ _ _ _ _ _ _ _), [.c (.msl id L.length), .c (.d (.int .i64 0))], by simp [resAllV, resOneV, S.get, look, AV.one], rfl⟩
      rw [if_neg c4] at hA
      subst hA
      have hc := Nat.zero_add 0
      repeat' (first | simp only [hc, AS, Tryz.f45, NX, NPV, SX, HX, Par.row, Zon.row, List.map_cons, List.map_nil, f1, f2, f3, f4, hrow, hset, nn, Int.toNat_natCast, c1, c2, c3, c4, ZZ, simprocAttr, ↓reduceIte] | ((first | apply Za | apply Zb | apply Zc | apply Zd | apply Ze | apply Zf | apply Zg | apply Zh) <;> intro hc) | refine Zi ?_ | refine Zj ?_)
      exact ⟨_, hcut _ _ L.length 0 0 (by simp [look]) (by simp [look]), [.c (.msl id L.length), .c (.d (.int .i64 0))], by simp [resAllV, resOneV, S.get, look, AV.one], rfl⟩
    have he' : (errP zs p = 0) = False := eq_false he
    rw [if_pos (by simpa using he)] at hA
    generalize errP zs p = e at *
    subst hA
    obtain ⟨k1, z1, p1, t1, u1⟩ := p
    simp only [Par.row] at f1
    have hc := Nat.zero_add 0
    repeat' (first | simp only [hc, AS, Tryz.f45, NX, NPV, SX, HX, Par.row, Zon.row, List.map_cons, List.map_nil, f1, he', ZZ, simprocAttr, ↓reduceIte] | ((first | apply Za | apply Zb | apply Zc | apply Zd | apply Ze | apply Zf | apply Zg | apply Zh) <;> intro hc) | refine Zi ?_ | refine Zj ?_)
    exact ⟨_, hcut _ _ L.length 0 e (by simp [look]) (by simp [look]), [.c (.msl id L.length), .c (.d (.int .i64 e))], by simp [resAllV, resOneV, S.get, look, AV.one], rfl⟩
  cases hg
end
end Go.Ab
namespace Go.Ab
open Go.RowKit Go.Proofs
theorem ssOf_get {L : List SesO} {k : Nat} : (ssOf L)[k]? = (L[k]?).map (·.1) := List.getElem?_map
theorem ssOf_set {L : List SesO} {k : Nat} {x : SesO} : ssOf (L.set k x) = (ssOf L).set k x.1 := List.map_set
theorem set_self {α : Type} {l : List α} {k : Nat} {x : α} (h : l[k]? = some x) : l.set k x = l := by
  have hk := lt_of_get h
  rw [List.getElem?_eq_getElem hk] at h
  rw [← Option.some.inj h]
  exact List.set_getElem_self hk
inductive ApC (h : Hp) (id : Nat) (L : List SesO) (p : Par) : List SesO → Hp → Prop where
  | same : ApC h id L p L h
  | add : ApC h id L p (L ++ [(newS p, none)]) (h.set id (rowO (L ++ [(newS p, none)])))
  | put (k : Nat) (s s' : Ses) (o : Option Nat) (hk : L[k]? = some (s, o)) (h1 : s'.sf = s.sf) (h2 : s'.seen = s.seen) : ApC h id L p (L.set k (s', o)) (h.set id (rowO (L.set k (s', o))))
  | see0 (k n : Nat) (s : Ses) (g : Hp) (hn : n = h.length + g.length) (hg : (g.all (Ob.low 0)) = true) (hk : L[k]? = some (s, none)) : ApC h id L p (L.set k (seenS s p.time, some n)) (h.set id (rowO (L.set k (seenS s p.time, some n))) ++ (g ++ [.tok 1 1 none]))
  | see1 (k i : Nat) (s : Ses) (hk : L[k]? = some (s, some i)) : ApC h id L p (L.set k (seenS s p.time, some i)) ((h.set i (.tok (s.seen.length + 1) 1 none)).set id (rowO (L.set k (seenS s p.time, some i))))
theorem seeO_cases {h g : Hp} {id : Nat} {L : List SesO} {p : Par} {z : Zon} (hg : (g.all (Ob.low 0)) = true) : ApC h id L p (seeO h id (h.length + g.length) g L p z).1 (seeO h id (h.length + g.length) g L p z).2 := by
  unfold seeO
  split
  · exact .same
  rename_i k hk
  split
  · exact .same
  rename_i s o hx
  split
  · exact .put k s _ o hx rfl rfl
  split
  · cases o with
    | none => exact .see0 k _ s g rfl hg hx
    | some i => exact .see1 k i s hx
  exact .same
theorem apO_cases {h : Hp} {id : Nat} {L : List SesO} {p : Par} {zs : List Zon} : ApC h id L p (apO h id L p zs).1 (apO h id L p zs).2.2 := by
  unfold apO
  split
  · exact .same
  split
  · exact .same
  split
  · split
    · exact .same
    exact .add
  split
  · split
    · exact .same
    split
    · exact .same
    rename_i k _ _ s o hx
    split
    · exact .same
    split
    · exact .same
    exact .put k s _ o hx rfl rfl
  split
  · split
    · exact .same
    split
    · exact .same
    rename_i k _ _ s o hx
    exact .put k s _ o hx rfl rfl
  split
  · exact seeO_cases (g := topsA) (by simp [Ob.low, C1.low])
  exact .same
theorem ApC.live {h h' : Hp} {id : Nat} {L L' : List SesO} {p : Par} (c : ApC h id L p L' h') (hL : LiveS h id L) (hh : LowH h) : LiveS h' id L' ∧ LowH h' := by
  cases c with
  | same => exact ⟨hL, hh⟩
  | add =>
    have hL' := hL.add (s := newS p) rfl rfl
    have e : rowO (L ++ [(newS p, none)]) = .tok (L.length + 1) 7 (some (sc (L ++ [(newS p, none)]))) := by simp [rowO]
    refine ⟨by rw [e]; exact hL', LowH.set hh ?_⟩
    have := hL'.lowC
    rw [List.length_set] at this
    exact this
  | put k s s' o hk h1 h2 =>
    have hL' := hL.put hk h1 h2
    have e : rowO (L.set k (s', o)) = .tok L.length 7 (some (sc (L.set k (s', o)))) := by simp [rowO]
    refine ⟨by rw [e]; exact hL', LowH.set hh ?_⟩
    have := hL'.lowC
    rw [List.length_set] at this
    exact this
  | see0 k n s g hn hg hk =>
    subst hn
    obtain ⟨_, e2⟩ := hL.non k _ hk
    have e : rowO (L.set k (seenS s p.time, some (h.length + g.length))) = .tok L.length 7 (some (sc (L.set k (seenS s p.time, some (h.length + g.length))))) := by simp [rowO]
    have hL' := hL.see0 hk (s' := seenS s p.time) (n := h.length + g.length) (by omega) (g := g ++ [.tok 1 1 none]) (by
      rw [List.getElem?_append_right (by simp), List.length_set, Nat.add_sub_cancel_left, List.getElem?_append_right (Nat.le_refl _)]
      simp [seenS, e2]) rfl
    rw [e]
    refine ⟨hL', ?_⟩
    have hl := hL'.lowC
    unfold LowH
    rw [List.all_eq_true]
    intro x hx
    rcases List.mem_append.1 hx with hx | hx
    · rcases List.mem_or_eq_of_mem_set hx with h1 | rfl
      · exact Ob.low_mono (by simp) (List.all_eq_true.1 hh x h1)
      exact hl
    · rcases List.mem_append.1 hx with hx | hx
      · exact Ob.low_mono (Nat.zero_le _) (List.all_eq_true.1 hg x hx)
      · rw [List.mem_singleton.1 hx]; rfl
  | see1 k i s hk =>
    have e : rowO (L.set k (seenS s p.time, some i)) = .tok L.length 7 (some (sc (L.set k (seenS s p.time, some i)))) := by simp [rowO]
    have hL' := hL.see1 hk (s' := seenS s p.time) rfl
    have e3 : (seenS s p.time).seen.length = s.seen.length + 1 := by simp [seenS]
    rw [e3] at hL'
    rw [e]
    refine ⟨hL', LowH.set (LowH.set hh rfl) ?_⟩
    have := hL'.lowC
    rw [List.length_set, List.length_set] at this
    rw [List.length_set]
    exact this
theorem ApC.keep {h h' : Hp} {id : Nat} {L L' : List SesO} {p : Par} (c : ApC h id L p L' h') (hL : LiveS h id L) {j : Nat} {o : Ob} (hj : h[j]? = some o) (hji : j ≠ id) (ho : ∀ n, o ≠ .tok n 1 none) : h'[j]? = some o := by
  have hjl := lt_of_get hj
  cases c with
  | same => exact hj
  | add => rw [List.getElem?_set_ne (Ne.symm hji)]; exact hj
  | put k s s' o' hk h1 h2 => rw [List.getElem?_set_ne (Ne.symm hji)]; exact hj
  | see0 k n s g hn hg hk => exact get_ext (by rw [List.getElem?_set_ne (Ne.symm hji)]; exact hj)
  | see1 k i s hk =>
    have h1 := (hL.own k _ i hk).2
    have hne : i ≠ j := by
      rintro rfl
      rw [hj] at h1
      exact ho _ (Option.some.inj h1)
    rw [List.getElem?_set_ne (Ne.symm hji), List.getElem?_set_ne hne]
    exact hj
theorem ApC.many {h h' : Hp} {id : Nat} {L L' : List SesO} {p : Par} (c : ApC h id L p L' h') {N : Nat} (hN : L.length ≤ N ∧ ∀ x ∈ L, x.1.seen.length ≤ N) : L'.length ≤ N + 1 ∧ ∀ x ∈ L', x.1.seen.length ≤ N + 1 := by
  obtain ⟨h1, h2⟩ := hN
  have hset : ∀ (k : Nat) (y : SesO), y.1.seen.length ≤ N + 1 → (L.set k y).length ≤ N + 1 ∧ ∀ x ∈ L.set k y, x.1.seen.length ≤ N + 1 := fun k y hy => by
    refine ⟨by rw [List.length_set]; omega, fun x hx => ?_⟩
    rcases List.mem_or_eq_of_mem_set hx with h3 | rfl
    · have := h2 x h3; omega
    exact hy
  cases c with
  | same => exact ⟨by omega, fun x hx => by have := h2 x hx; omega⟩
  | add =>
    refine ⟨by simp; omega, fun x hx => ?_⟩
    rcases List.mem_append.1 hx with hx | hx
    · have := h2 x hx; omega
    · rw [List.mem_singleton.1 hx]; simp [newS]
  | put k s s' o hk e1 e2 =>
    refine hset k _ ?_
    have := h2 _ (List.mem_of_getElem? hk)
    dsimp only at this ⊢
    rw [e2]
    omega
  | see0 k n s g hn hg hk =>
    refine hset k _ ?_
    have := h2 _ (List.mem_of_getElem? hk)
    dsimp only at this ⊢
    simp [seenS]; omega
  | see1 k i s hk =>
    refine hset k _ ?_
    have := h2 _ (List.mem_of_getElem? hk)
    dsimp only at this ⊢
    simp [seenS]; omega
theorem apO_ss (h : Hp) (id : Nat) (L : List SesO) (p : Par) (zs : List Zon) : ssOf (apO h id L p zs).1 = (applyF zs (ssOf L) p).1 ∧ (apO h id L p zs).2.1 = (applyF zs (ssOf L) p).2 := by
  unfold apO applyF
  by_cases he : errP zs p ≠ 0
  · rw [if_pos he, if_pos he]; exact ⟨rfl, rfl⟩
  rw [if_neg he, if_neg he]
  cases hz : findZ zs p.zone with
  | none => exact ⟨rfl, rfl⟩
  | some z =>
    dsimp only
    by_cases c1 : p.kind = 1
    · rw [if_pos c1, if_pos c1]
      cases hl : lastI (curB p z true) (ssOf L) with
      | none => exact ⟨by simp, rfl⟩
      | some k => exact ⟨rfl, rfl⟩
    rw [if_neg c1, if_neg c1]
    by_cases c2 : p.kind = 2
    · rw [if_pos c2, if_pos c2]
      cases hl : lastI (curB p z true) (ssOf L) with
      | none => exact ⟨rfl, rfl⟩
      | some k =>
        dsimp only
        rw [ssOf_get]
        cases hx : L[k]? with
        | none => exact ⟨rfl, rfl⟩
        | some x =>
          obtain ⟨s, o⟩ := x
          simp only [Option.map_some]
          by_cases d1 : p.til ≤ s.til
          · rw [if_pos d1, if_pos d1]; exact ⟨rfl, rfl⟩
          rw [if_neg d1, if_neg d1]
          by_cases d2 : z.stay ≠ 0 ∧ s.fr < p.til - z.stay
          · rw [if_pos d2, if_pos d2]; exact ⟨rfl, rfl⟩
          rw [if_neg d2, if_neg d2]
          exact ⟨ssOf_set, rfl⟩
    rw [if_neg c2, if_neg c2]
    by_cases c3 : p.kind = 3
    · rw [if_pos c3, if_pos c3]
      cases hl : lastI (curB p z true) (ssOf L) with
      | none => exact ⟨rfl, rfl⟩
      | some k =>
        dsimp only
        rw [ssOf_get]
        cases hx : L[k]? with
        | none => exact ⟨rfl, rfl⟩
        | some x => exact ⟨ssOf_set, rfl⟩
    rw [if_neg c3, if_neg c3]
    by_cases c4 : p.kind = 4
    · rw [if_pos c4, if_pos c4]
      unfold seeO
      cases hl : lastI (curB p z false) (ssOf L) with
      | none => exact ⟨rfl, rfl⟩
      | some k =>
        dsimp only
        rw [ssOf_get]
        cases hx : L[k]? with
        | none => exact ⟨rfl, rfl⟩
        | some x =>
          obtain ⟨s, o⟩ := x
          have hsx : (ssOf L)[k]? = some s := by rw [ssOf_get, hx]; rfl
          simp only [Option.map_some, seeS]
          by_cases d1 : overB z s p.time = true
          · rw [if_pos d1, if_pos d1]; exact ⟨ssOf_set, trivial⟩
          rw [if_neg d1, if_neg d1]
          by_cases d2 : s.fr ≤ p.time
          · rw [if_pos d2, if_pos d2]
            cases o <;> exact ⟨ssOf_set, trivial⟩
          rw [if_neg d2, if_neg d2]
          exact ⟨(set_self hsx).symm, trivial⟩
    rw [if_neg c4, if_neg c4]
    exact ⟨rfl, rfl⟩
noncomputable section
open Classical
theorem sapply_at {h : Hp} {id : Nat} {L : List SesO} {p : Par} {f : Bool} {zs : List Zon} (hL : LiveS h id L) (hh : LowH h) (hm : manyOk L) (hp : p.Ok) (hz : zonesOk zs) :
    sapply_k [.v (.c (.msl id L.length)), p.av, .v (.c (.d (.sl f (zs.map Zon.row))))] h = some (.ret (.tup [.c (.msl id (apO h id L p zs).1.length), .c (.d (.int .i64 (apO h id L p zs).2.1))]) (apO h id L p zs).2.2) := by
  have := kR_eq (R := apRl) (g := fun a : ApA => if manyOk a.L ∧ a.p.Ok ∧ zonesOk a.zs then some (.ret (.tup [.c (.msl a.id (apO a.h a.id a.L a.p a.zs).1.length), .c (.d (.int .i64 (apO a.h a.id a.L a.p a.zs).2.1))]) (apO a.h a.id a.L a.p a.zs).2.2) else none) (a := ⟨h, id, L, p, f, zs⟩)
    (args := [.v (.c (.msl id L.length)), p.av, .v (.c (.d (.sl f (zs.map Zon.row))))]) (h := h) (fun b hb => by rw [apRl_inj (a := ⟨h, id, L, p, f, zs⟩) ⟨rfl, rfl, hL, hh⟩ hb]) ⟨rfl, rfl, hL, hh⟩
  exact this.trans (if_pos ⟨hm, hp, hz⟩)
end
end Go.Ab
namespace Go.Ab
open Go.RowKit Go.Proofs
theorem sortR_len (l : List Par) : (sortR l).length ≤ l.length := by
  have gen : ∀ (l m : List Par), (l.foldl insP m).length ≤ l.length + m.length := by
    intro l
    induction l with
    | nil => intro m; simp
    | cons x l ih =>
      intro m
      have h1 := ih (insP m x)
      have h2 := insP_len m x
      rw [List.foldl_cons, List.length_cons]
      omega
  have := gen l []
  simpa [sortR] using this
theorem LiveS.setO {h : Hp} {id j : Nat} {L : List SesO} (hL : LiveS h id L) {o o' : Ob} (hj : h[j]? = some o) (hji : j ≠ id) (ho : ∀ n, o ≠ .tok n 1 none) : LiveS (h.set j o') id L := by
  refine ⟨by rw [List.getElem?_set_ne hji]; exact hL.row, hL.non, fun k s i hk => ⟨(hL.own k s i hk).1, ?_⟩, hL.one⟩
  have h1 := (hL.own k s i hk).2
  have hne : j ≠ i := by
    rintro rfl
    rw [hj] at h1
    exact ho _ (Option.some.inj h1)
  rw [List.getElem?_set_ne hne]
  exact h1
def encPsZs (p : (Bool × List Par) × Bool × List Zon) : List PA := [.c (.sl p.1.1 (p.1.2.map Par.row)), .c (.sl p.2.1 (p.2.2.map Zon.row))]
theorem encPsZs_inj (a b : (Bool × List Par) × Bool × List Zon) (h : encPsZs a = encPsZs b) : a = b := by
  obtain ⟨⟨a1, a2⟩, a3, a4⟩ := a
  obtain ⟨⟨b1, b2⟩, b3, b4⟩ := b
  simp [encPsZs, mapP_inj, mapZn_inj] at h
  simp [h]
noncomputable section
open Classical
def sall_m : List PA → Option (List PA) := mE encPsZs fun p => if parsOk p.1.2 ∧ zonesOk p.2.2 then some [.c (.sl false ((allF p.2.2 p.1.2).1.map Ses.row)), .c (.sl false ((allF p.2.2 p.1.2).2.map Exc.row))] else none
theorem ssort_at {f : Bool} {l : List Par} (h : l.length ≤ 1000000) : ssort_m [.c (.sl f (l.map Par.row))] = some [.c (.sl false ((sortR l).map Par.row))] := by
  have := mE_eq encPs_inj (g := fun p => if p.2.length ≤ 1000000 then some [.c (.sl false ((sortR p.2).map Par.row))] else none) (a := (f, l))
  exact this.trans (if_pos h)
structure AlI (zs : List Zon) (sorted : List Par) (j : Nat) (h : Hp) (L : List SesO) (X : List Exc) : Prop where
  le : j ≤ sorted.length
  live : LiveS h 0 L
  low : LowH h
  exc : h[1]? = some (.tok X.length 2 none)
  many : L.length ≤ j ∧ ∀ x ∈ L, x.1.seen.length ≤ j
  xs : X.length ≤ j
  res : (ssOf L, X) = (sorted.take j).foldl (stepX zs) ([], [])
set_option maxHeartbeats 4000000 in
theorem sall_ok : PureC Tryz.prog Gt 14 sall_m := by
  refine pure_of_awpS (X := ctxN Tryz.prog Gt [(44, ssort_m), (46, scheck_m), (47, skey_m)] [(45, sapply_k)] [] none (uL [48])) Tryz.func14 rfl rfl (by kernel_rfl) (by kernel_rfl) (kok_n (AllOk.cons ssort_ok (AllOk.cons scheck_ok (AllOk.cons skey_ok AllOk.nil))) (AllK.cons sapply_kok AllK.nil) AllN.nil) ?_
  intro args r h0
  obtain ⟨⟨⟨f, ps⟩, fz, zs⟩, rfl, h⟩ := mE_inv h0
  refine ⟨Nat.le_of_ble_eq_true rfl, ?_⟩
  split at h
  · rename_i hl
    obtain ⟨⟨hl1, hl2⟩, hz⟩ := hl
    dsimp only at hl1 hl2 hz h
    cases h
    have hR : allF zs ps = (sortR ps).foldl (stepX zs) ([], []) := rfl
    generalize allF zs ps = R at *
    have f1 := ssort_at (f := f) hl1
    have hsl := sortR_len ps
    have hok : ∀ p ∈ sortR ps, p.Ok := fun p hp => hl2 p (mem_sortR.1 hp)
    generalize sortR ps = sorted at *
    have l1 := @lenPr sorted
    have hc := Nat.zero_add 0
    repeat' (first | simp only [hc, AS, Tryz.f14, encPsZs, NX, SX, f1, l1, ZZ, simprocAttr, ↓reduceIte] | ((first | apply Za | apply Zb | apply Zc | apply Zd | apply Ze | apply Zf | apply Zg | apply Zh) <;> intro hc) | refine Zi ?_ | refine Zj ?_)
    refine awpS_loop (σ := Nat × Hp × List SesO × List Exc) (fun s => AlI zs sorted s.1 s.2.1 s.2.2.1 s.2.2.2) (fun s => ⟨[(16, AV.i s.1), (15, AV.i sorted.length), (14, AV.d (.sl false (sorted.map Par.row))), (7, .v (.c (.own 1 (s.2.2.2.map Exc.row)))), (6, .v (.c (.msl 0 s.2.2.1.length))), (1, AV.d (.sl fz (zs.map Zon.row)))], s.2.1⟩) (fun s => sorted.length - s.1) (0, [.tok 0 7 (some []), .tok 0 2 none], [], [])
      ((Wk.msl 6 7 (by decide) (by simp [look])).trans ((Wk.own 7 2 (by decide) (by simp [look])).trans (Wk.sub' (by simp [subT, look]) rfl)))
      ⟨Nat.zero_le _, LiveS.nil rfl, rfl, rfl, ⟨Nat.le_refl _, by simp⟩, Nat.le_refl _, rfl⟩ ?_
    rintro ⟨j, h, L, X⟩ hI
    dsimp only at hI ⊢
    have hidl := hI.live.lt
    by_cases hjl : j < sorted.length
    · have hlt : ((j : Int) < (sorted.length : Int)) = True := eq_true (by omega)
      have hw := wI (n := (j : Int) + 1) (by omega) (by omega)
      have e1 := pr_at hjl
      have hpo := hok _ (List.getElem_mem hjl)
      have hnext := foldl_take (f := stepX zs) (b := ([], [])) hjl
      rw [← hI.res] at hnext
      generalize sorted[j] = p at *
      have hL1 : LiveS (h ++ [.box (p.row.map .d)]) 0 L := hI.live.ext
      have hlow1 : LowH (h ++ [.box (p.row.map .d)]) := LowH.app hI.low (by simp [Ob.low, Par.row, C1.low])
      have hcs := apO_cases (h := h ++ [.box (p.row.map .d)]) (id := 0) (L := L) (p := p) (zs := zs)
      have hss := apO_ss (h ++ [.box (p.row.map .d)]) 0 L p zs
      have f2 := sapply_at (f := fz) hL1 hlow1 ⟨by have := hI.many.1; omega, fun x hx => by have := hI.many.2 x hx; omega⟩ hpo hz
      generalize hA : apO (h ++ [.box (p.row.map .d)]) 0 L p zs = A at *
      obtain ⟨L', e, H⟩ := A
      dsimp only at hcs hss f2
      obtain ⟨hL', hlow'⟩ := hcs.live hL1 hlow1
      have hm' := hcs.many hI.many
      have hbox : H[h.length]? = some (.box (p.row.map .d)) := hcs.keep hL1 ha0 (by omega) (by simp)
      have hexc : H[1]? = some (.tok X.length 2 none) := hcs.keep hL1 (get_ext hI.exc) (by decide) (by simp)
      have f3 := scheck_at' (f := fz) hz hpo
      have f4 := skey_at' hpo
      have hst : stepX zs (ssOf L, X) p = (ssOf L', if e = 0 then X else X ++ [⟨keyF p, if errP zs p ≠ 0 then 3 else 4⟩]) := by
        unfold stepX
        rw [← hss.1, ← hss.2]
      rw [hst] at hnext
      obtain ⟨k1, z1, p1, t1, u1⟩ := p
      simp only [Par.av, Par.row, List.map_cons, List.map_nil] at f2 f3 f4 hbox
      have hxl : ((X.map Exc.row).length = X.length) = True := eq_true (by simp)
      have ap : ∀ (key : List UInt8) (w : Int), apTok H 1 2 24 (X.map Exc.row) [[.str key, .int .i64 w]] (some (.tok X.length 2 none)) = some (.v (.c (.own 1 ((X ++ [(⟨key, w⟩ : Exc)]).map Exc.row))), H.set 1 (.tok (X ++ [(⟨key, w⟩ : Exc)]).length 2 none)) := fun key w => by
        have := hI.xs
        rw [apTok_ok hxl (eq_true (by simp [allLen])) (eq_true (by simp; omega)) (eq_true (by simp; omega))]
        simp [Exc.row]
      by_cases c1 : e = 0
      · subst c1
        have hc := Nat.zero_add 0
        repeat' (first | simp only [hc, AS, NX, SX, HX, l1, hlt, nn, e1, f2, hw, Int.toNat_natCast, Par.row, ZZ, simprocAttr, ↓reduceIte] | ((first | apply Za | apply Zb | apply Zc | apply Zd | apply Ze | apply Zf | apply Zg | apply Zh) <;> intro hc) | refine Zi ?_ | refine Zj ?_)
        rw [if_pos rfl] at hnext
        exact lp_next (j + 1, H, L', X) (Wk.sub' (by simp [subT, look]) rfl) ⟨by omega, hL', hlow', hexc, hm', Nat.le_succ_of_le hI.xs, hnext.symm⟩ (by simp only []; omega)
      have c1' : (e = 0) = False := eq_false c1
      rw [if_neg c1] at hnext
      by_cases c2 : errP zs ⟨k1, z1, p1, t1, u1⟩ = 0
      · rw [c2] at f3
        rw [if_neg (by simpa using c2)] at hnext
        generalize keyF ⟨k1, z1, p1, t1, u1⟩ = key at *
        have hc := Nat.zero_add 0
        repeat' (first | simp only [hc, AS, NX, SX, HX, l1, hlt, nn, e1, f2, f3, f4, hw, Int.toNat_natCast, Par.row, c1', hbox, hexc, ap, ZZ, simprocAttr, ↓reduceIte] | ((first | apply Za | apply Zb | apply Zc | apply Zd | apply Ze | apply Zf | apply Zg | apply Zh) <;> intro hc) | refine Zi ?_ | refine Zj ?_)
        exact lp_next (j + 1, H.set 1 (.tok (X ++ [(⟨key, 4⟩ : Exc)]).length 2 none), L', X ++ [⟨key, 4⟩]) (Wk.sub' (by simp [subT, look]) rfl) ⟨by omega, hL'.setO hexc (by decide) (by simp), LowH.set hlow' rfl, by simp [lt_of_get hexc], hm', by have := hI.xs; simp; omega, hnext.symm⟩ (by simp only []; omega)
      have c2' : (errP zs ⟨k1, z1, p1, t1, u1⟩ = 0) = False := eq_false c2
      rw [if_pos (by simpa using c2)] at hnext
      generalize keyF ⟨k1, z1, p1, t1, u1⟩ = key at *
      generalize errP zs ⟨k1, z1, p1, t1, u1⟩ = er at *
      have hc := Nat.zero_add 0
      repeat' (first | simp only [hc, AS, NX, SX, HX, l1, hlt, nn, e1, f2, f3, f4, hw, Int.toNat_natCast, Par.row, c1', c2', hbox, hexc, ap, ZZ, simprocAttr, ↓reduceIte] | ((first | apply Za | apply Zb | apply Zc | apply Zd | apply Ze | apply Zf | apply Zg | apply Zh) <;> intro hc) | refine Zi ?_ | refine Zj ?_)
      exact lp_next (j + 1, H.set 1 (.tok (X ++ [(⟨key, 3⟩ : Exc)]).length 2 none), L', X ++ [⟨key, 3⟩]) (Wk.sub' (by simp [subT, look]) rfl) ⟨by omega, hL'.setO hexc (by decide) (by simp), LowH.set hlow' rfl, by simp [lt_of_get hexc], hm', by have := hI.xs; simp; omega, hnext.symm⟩ (by simp only []; omega)
    have hlt : ((j : Int) < (sorted.length : Int)) = False := eq_false (by omega)
    have hres := hI.res
    rw [List.take_of_length_le (by omega), ← hR] at hres
    have hfr := Wk.freezeC (n := 0) (t := [(7, .v (.c (.own 1 (X.map Exc.row)))), (6, .v (.c (.msl 0 L.length)))]) (h := h) 6 0 L.length 7 (sc L) _ (by simp [look]) hI.live.row hI.live.allD
    rw [chunk_ses] at hfr
    have hr1 : (L.map fun x => x.1.row) = R.1.map Ses.row := by rw [← hres]; simp
    have hr2 : X = R.2 := by rw [← hres]
    rw [hr1, hr2] at hfr
    subst hr2
    have hc := Nat.zero_add 0
    repeat' (first | simp only [hc, AS, NX, SX, l1, hlt, ZZ, simprocAttr, ↓reduceIte] | ((first | apply Za | apply Zb | apply Zc | apply Zd | apply Ze | apply Zf | apply Zg | apply Zh) <;> intro hc) | refine Zi ?_)
    refine blk_exit_wk ((Wk.sub' (by simp [subT, look]) rfl).trans hfr) ?_
    have hc := Nat.zero_add 0
    repeat' (first | simp only [hc, AS, NX, SX, ZZ, simprocAttr, ↓reduceIte] | ((first | apply Za | apply Zb | apply Zc | apply Zd | apply Ze | apply Zf | apply Zg | apply Zh) <;> intro hc) | refine Zi ?_ | refine Zj ?_)
  cases h
end
end Go.Ab
