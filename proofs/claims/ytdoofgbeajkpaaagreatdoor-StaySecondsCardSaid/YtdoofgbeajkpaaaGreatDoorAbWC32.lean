/-
  Texts of the layer and of the laws, put together: AbShS, AbSo4, AbU12, AbU13, AbU14, AbU15, AbU16, AbU17.
-/
import Derived.Shelf.SlLaysF0
import Derived.Test.YtdoofgbeajkpaaaGreatDoorProg
import Derived.Test.YtdoofgbeajkpaaaGreatDoorAbWC30
import Derived.Test.YtdoofgbeajkpaaaGreatDoorAbWC31
import Derived.Test.YtdoofgbeajkpaaaGreatDoorAbWC29
import Derived.Test.YtdoofgbeajkpaaaGreatDoorAbWC22
set_option linter.unusedSimpArgs false
set_option linter.unusedVariables false
set_option maxRecDepth 100000
namespace Go.Proofs
open Go.Shelf
def Tryz.sortPar_ren : Go.Shelf.Ren := ⟨fun | 6 => 83 | 15 => 122 | 14 => 121 | 28 => 145 | 29 => 146 | 20 => 137 | 21 => 138 | 22 => 139 | 23 => 140 | 24 => 141 | 25 => 142 | 26 => 143 | 27 => 144 | 46 => 155 | 47 => 156 | 48 => 157 | 49 => 158 | 50 => 159 | 57 => 171 | n => n, fun | 22 => 24 | 24 => 79 | 25 => 126 | 3 => 3 | 39 => 156 | 0 => 0 | 53 => 181 | 55 => 183 | 4 => 4 | 46 => 175 | 45 => 174 | 50 => 101 | 5 => 5 | 9 => 9 | 66 => 187 | 70 => 191 | 76 => 202 | 77 => 74 | n => n, fun | n => n⟩
theorem Tryz.sortPar : Go.Proofs.SlLaysF0.n6 Tryz.prog Tryz.sortPar_ren := {
  mixed := by kernel_rfl
  f6 := ⟨Tryz.f83.name, by decide, Tryz.func83.trans (congrArg some (by kernel_rfl))⟩
  f14 := ⟨Tryz.f121.name, by decide, Tryz.func121.trans (congrArg some (by kernel_rfl))⟩
  f15 := Tryz.func122.trans (congrArg some (by kernel_rfl))
  f20 := ⟨Tryz.f137.name, by decide, Tryz.func137.trans (congrArg some (by kernel_rfl))⟩
  f21 := ⟨Tryz.f138.name, by decide, Tryz.func138.trans (congrArg some (by kernel_rfl))⟩
  f22 := ⟨Tryz.f139.name, by decide, Tryz.func139.trans (congrArg some (by kernel_rfl))⟩
  f23 := ⟨Tryz.f140.name, by decide, Tryz.func140.trans (congrArg some (by kernel_rfl))⟩
  f24 := ⟨Tryz.f141.name, by decide, Tryz.func141.trans (congrArg some (by kernel_rfl))⟩
  f25 := ⟨Tryz.f142.name, by decide, Tryz.func142.trans (congrArg some (by kernel_rfl))⟩
  f26 := ⟨Tryz.f143.name, by decide, Tryz.func143.trans (congrArg some (by kernel_rfl))⟩
  f27 := ⟨Tryz.f144.name, by decide, Tryz.func144.trans (congrArg some (by kernel_rfl))⟩
  f28 := Tryz.func145.trans (congrArg some (by kernel_rfl))
  f29 := Tryz.func146.trans (congrArg some (by kernel_rfl))
  f46 := ⟨Tryz.f155.name, by decide, Tryz.func155.trans (congrArg some (by kernel_rfl))⟩
  f47 := Tryz.func156.trans (congrArg some (by kernel_rfl))
  f48 := Tryz.func157.trans (congrArg some (by kernel_rfl))
  f49 := ⟨Tryz.f158.name, by decide, Tryz.func158.trans (congrArg some (by kernel_rfl))⟩
  f50 := ⟨Tryz.f159.name, by decide, Tryz.func159.trans (congrArg some (by kernel_rfl))⟩
  f57 := ⟨Tryz.f171.name, by decide, Tryz.func171.trans (congrArg some (by kernel_rfl))⟩
  t0 := Tryz.underlying0
  a0 := Tryz.isAgg0
  z0 := Tryz.sizeOf0
  v0 := Tryz.zeroValue0
  t3 := Tryz.underlying3
  a3 := Tryz.isAgg3
  z3 := Tryz.sizeOf3
  v3 := Tryz.zeroValue3
  t4 := Tryz.underlying4
  a4 := Tryz.isAgg4
  z4 := Tryz.sizeOf4
  v4 := Tryz.zeroValue4
  t5 := Tryz.underlying5
  a5 := Tryz.isAgg5
  z5 := Tryz.sizeOf5
  v5 := Tryz.zeroValue5
  t9 := Tryz.underlying9
  a9 := Tryz.isAgg9
  z9 := Tryz.sizeOf9
  v9 := Tryz.zeroValue9
  t22 := Tryz.underlying24
  a22 := Tryz.isAgg24
  z22 := Tryz.sizeOf24
  v22 := Tryz.zeroValue24
  t25 := Tryz.underlying126
  a25 := Tryz.isAgg126
  z25 := Tryz.sizeOf126
  v25 := Tryz.zeroValue126
  t39 := Tryz.underlying156
  a39 := Tryz.isAgg156
  z39 := Tryz.sizeOf156
  v39 := Tryz.zeroValue156
  t45 := Tryz.underlying174
  a45 := Tryz.isAgg174
  z45 := Tryz.sizeOf174
  v45 := Tryz.zeroValue174
  t46 := Tryz.underlying175
  a46 := Tryz.isAgg175
  z46 := Tryz.sizeOf175
  v46 := Tryz.zeroValue175
  t50 := Tryz.underlying101
  a50 := Tryz.isAgg101
  z50 := Tryz.sizeOf101
  v50 := Tryz.zeroValue101
  t53 := Tryz.underlying181
  a53 := Tryz.isAgg181
  z53 := Tryz.sizeOf181
  v53 := Tryz.zeroValue181
  t55 := Tryz.underlying183
  a55 := Tryz.isAgg183
  z55 := Tryz.sizeOf183
  v55 := Tryz.zeroValue183
  t66 := Tryz.underlying187
  a66 := Tryz.isAgg187
  z66 := Tryz.sizeOf187
  v66 := Tryz.zeroValue187
  t70 := Tryz.underlying191
  a70 := Tryz.isAgg191
  z70 := Tryz.sizeOf191
  v70 := Tryz.zeroValue191
  t76 := Tryz.underlying202
  a76 := Tryz.isAgg202
  z76 := Tryz.sizeOf202
  v76 := Tryz.zeroValue202
  t77 := Tryz.underlying74
  a77 := Tryz.isAgg74
  z77 := Tryz.sizeOf74
  v77 := Tryz.zeroValue74 }
end Go.Proofs
namespace Go.Ab
open Go.RowKit Go.Proofs Go.Lib Go.Sort
instance : Inhabited Par := ⟨Par.nil⟩
theorem ltOf_ordP (x y : Par) : ltOf ordP x y = decide (ordP x y < 0) := rfl
theorem swo_ordP : SWO (ltOf ordP) where
  irrefl x := by
    rw [ltOf_ordP]
    exact decide_eq_false (ordP_irr x)
  trans x y z h1 h2 := by
    rw [ltOf_ordP] at *
    exact decide_eq_true (cmp_ordP.lt x y z (of_decide_eq_true h1) (of_decide_eq_true h2))
  ntrans x y z h1 h2 := by
    rw [ltOf_ordP] at *
    have h1 := of_decide_eq_false h1
    have h2 := of_decide_eq_false h2
    refine decide_eq_false fun h => ?_
    have a1 := cmp_ordP.anti y x
    have a2 := cmp_ordP.anti z y
    have b1 : ordP y x < 0 ∨ ordP x y = 0 := by omega
    have b2 : ordP z y < 0 ∨ ordP y z = 0 := by omega
    rcases b1 with b1 | b1
    · exact h2 (cmp_ordP.lt _ _ _ b1 h)
    exact h2 (cmp_ordP.el _ _ _ (cmp_ordP.sym b1) h)
theorem ordP_both (x y : Par) (h1 : ltOf ordP x y = false) (h2 : ltOf ordP y x = false) : x = y := by
  rw [ltOf_ordP] at *
  have h1 := of_decide_eq_false h1
  have h2 := of_decide_eq_false h2
  have a1 := cmp_ordP.anti y x
  exact ordP_zero.1 (by omega)
theorem sort_comp (ps : List Par) : compP (sortBy ordP ps) = sortR ps := by
  refine sort_same ?_ fun x => (List.mergeSort_perm _ _).mem_iff
  have h := List.pairwise_mergeSort (le := fun x y : Par => !(ltOf ordP) y x) (fun a b c h1 h2 => ?_) (fun a b => ?_) ps
  · refine h.imp fun {a b} hab => ?_
    rw [ltOf_ordP] at hab
    have := cmp_ordP.anti b a
    simp at hab
    omega
  · simp only [Bool.not_eq_true'] at h1 h2 ⊢
    exact swo_ordP.ntrans _ _ _ h2 h1
  rw [Bool.or_eq_true, Bool.not_eq_true', Bool.not_eq_true', ltOf_ordP, ltOf_ordP]
  by_cases h1 : ordP b a < 0
  · right
    refine decide_eq_false fun h2 => ?_
    have := cmp_ordP.anti a b
    omega
  left
  exact decide_eq_false h1
noncomputable section
open Classical
def sfR (p : Hp × Nat × List Par) (args : List AV) (h : Hp) : Prop := args = [.v (.c (.msl p.2.1 p.2.2.length)), .v (.c (.fn 84 []))] ∧ h = p.1 ∧ p.1[p.2.1]? = some (.tok p.2.2.length 5 (some (pc p.2.2)))
theorem sfR_inj {a b : Hp × Nat × List Par} {args : List AV} {h : Hp} (ha : sfR a args h) (hb : sfR b args h) : b = a := by
  obtain ⟨h1, h2, h3⟩ := ha
  obtain ⟨g1, g2, g3⟩ := hb
  rw [h1] at g1
  simp only [List.cons.injEq, and_true] at g1
  exact cmR_inj (args := [.v (.c (.msl a.2.1 a.2.2.length))]) (h := h) ⟨rfl, h2, h3⟩ ⟨by rw [g1], g2, g3⟩
def sfP_k : List AV → Hp → Option COut := kR sfR fun p => if p.2.2.length ≤ 1000000000 then some (.ret (.tup []) (p.1.set p.2.1 (.tok p.2.2.length 5 (some (pc (sortBy ordP p.2.2)))))) else none
theorem sfP_kok : ImpC Tryz.prog Gt 83 sfP_k := by
  intro args h out h0
  obtain ⟨⟨h', id, ps⟩, ⟨rfl, rfl, hid⟩, hg⟩ := kR_inv h0
  dsimp only at hid hg ⊢
  split at hg
  · rename_i hl
    cases hg
    refine fok_sort Tryz.sortPar (by decide) Tryz.isAgg79 Tryz.sizeOf79 dsc_ok Par.row (fun _ => rfl) (fun x d hd => ?_) ordP (fun x y => ?_) swo_ordP ordP_both ps (by omega) hid
    · simp [Par.row] at hd
      rcases hd with rfl | rfl | rfl | rfl | rfl <;> rfl
    have := mE_eq encPP_inj (g := fun p => some [DV.i (ordP p.1 p.2)]) (a := (x, y))
    exact this
  cases hg
def ssort_m : List PA → Option (List PA) := mE encPs fun p => if p.2.length ≤ 1000000 then some [.c (.sl false ((sortR p.2).map Par.row))] else none
theorem row_flat (ps : List Par) : ((ps.map Par.row).flatten.map C1.d) = pc ps := by rw [pc, List.flatMap_def]
theorem ssort_ok : PureC Tryz.prog Gt 44 ssort_m := by
  refine pure_of_awpS (X := ctxN Tryz.prog Gt [] [(82, clP_k), (83, sfP_k), (88, cmP_k)] [] none) Tryz.func44 rfl rfl (by kernel_rfl) (by kernel_rfl) (kok_n AllOk.nil (AllK.cons clP_kok (AllK.cons sfP_kok (AllK.cons cmP_kok AllK.nil))) AllN.nil) ?_
  intro args r h0
  obtain ⟨⟨f, ps⟩, rfl, h⟩ := mE_inv h0
  refine ⟨Nat.le_of_ble_eq_true rfl, ?_⟩
  split at h
  · rename_i hl
    dsimp only at hl h
    cases h
    have f1 : clP_k [.v (.c (.d (.sl f (ps.map Par.row))))] [] = some (.ret (.v (.c (.msl 0 ps.length))) [.tok ps.length 5 (some (pc ps))]) := by
      have := clA_ok (z := 5) (b := 56) (h := []) (f := f) (es := ps.map Par.row) (fun r hr => by obtain ⟨x, _, rfl⟩ := List.mem_map.1 hr; rfl) (by simp; omega) (by simp; omega)
      rw [row_flat, List.length_map] at this
      exact this
    have f2 : sfP_k [.v (.c (.msl 0 ps.length)), .v (.c (.fn 84 []))] [.tok ps.length 5 (some (pc ps))] = some (.ret (.tup []) [.tok ps.length 5 (some (pc (sortBy ordP ps)))]) := by
      have := kR_eq (R := sfR) (g := fun p => if p.2.2.length ≤ 1000000000 then some (.ret (.tup []) (p.1.set p.2.1 (.tok p.2.2.length 5 (some (pc (sortBy ordP p.2.2)))))) else none) (a := ([.tok ps.length 5 (some (pc ps))], 0, ps)) (args := [.v (.c (.msl 0 ps.length)), .v (.c (.fn 84 []))]) (fun b hb => by rw [sfR_inj (a := ([.tok ps.length 5 (some (pc ps))], 0, ps)) ⟨rfl, rfl, rfl⟩ hb]) ⟨rfl, rfl, rfl⟩
      exact this.trans (if_pos (by simp only []; omega))
    have hsl : (sortBy ordP ps).length = ps.length := (List.mergeSort_perm _ _).length_eq
    have f3 : cmP_k [.v (.c (.msl 0 ps.length))] [.tok ps.length 5 (some (pc (sortBy ordP ps)))] = some (.ret (.v (.c (.d (.sl false ((sortR ps).map Par.row))))) [.tok ps.length 5 none]) := by
      have := kR_eq (R := cmR) (g := fun p => if p.2.2.length ≤ 1000000000 then some (.ret (.v (.c (.d (.sl false ((compP p.2.2).map Par.row))))) (p.1.set p.2.1 (.tok p.2.2.length 5 none))) else none) (a := ([.tok (sortBy ordP ps).length 5 (some (pc (sortBy ordP ps)))], 0, sortBy ordP ps)) (args := [.v (.c (.msl 0 (sortBy ordP ps).length))]) (fun b hb => by rw [cmR_inj (a := ([.tok (sortBy ordP ps).length 5 (some (pc (sortBy ordP ps)))], 0, sortBy ordP ps)) ⟨rfl, rfl, rfl⟩ hb]) ⟨rfl, rfl, rfl⟩
      rw [if_pos (by simp only []; omega), sort_comp, hsl] at this
      exact this
    have hc := Nat.zero_add 0
    repeat' (first | simp only [hc, AS, Tryz.f44, encPs, NX, NPV, SX, f1, f2, f3, ZZ, simprocAttr, ↓reduceIte, ZF, ZE, ZN, ZI, ZB] | ((first | apply Za | apply Zb | apply Zc | apply Zd | apply Ze | apply Zf | apply Zg | apply Zh) <;> intro hc) | refine Zi ?_ | refine Zj ?_)
  cases h
end
end Go.Ab
namespace Go.Ab
open Go.RowKit Go.Proofs
abbrev SesO := Ses × Option Nat
def seenC (s : Ses) : Option Nat → C1
  | none => .d (.sl s.sf (s.seen.map rowI))
  | some i => .own i (s.seen.map rowI)
def scC (x : SesO) : List C1 := [.d (.str x.1.id), .d (.str x.1.zone), .d (.str x.1.plate), .d (.int .i64 x.1.fr), .d (.int .i64 x.1.til), .d (.int .i64 x.1.state), seenC x.1 x.2]
def sc (L : List SesO) : List C1 := L.flatMap scC
theorem sc_cons {x : SesO} {L : List SesO} : sc (x :: L) = scC x ++ sc L := by simp [sc]
structure LiveS (h : Hp) (id : Nat) (L : List SesO) : Prop where
  row : h[id]? = some (.tok L.length 7 (some (sc L)))
  non : ∀ (k : Nat) (s : Ses), L[k]? = some (s, none) → s.sf = true ∧ s.seen = []
  own : ∀ (k : Nat) (s : Ses) (i : Nat), L[k]? = some (s, some i) → s.sf = false ∧ h[i]? = some (.tok s.seen.length 1 none)
  one : ∀ (k j : Nat) (s r : Ses) (i : Nat), L[k]? = some (s, some i) → L[j]? = some (r, some i) → k = j
theorem LiveS.nil {h : Hp} {id : Nat} (hid : h[id]? = some (.tok 0 7 (some []))) : LiveS h id [] :=
  ⟨hid, fun k s hk => by simp at hk, fun k s i hk => by simp at hk, fun k j s r i hk => by simp at hk⟩
theorem LiveS.ext {h g : Hp} {id : Nat} {L : List SesO} (hL : LiveS h id L) : LiveS (h ++ g) id L :=
  ⟨get_ext hL.row, hL.non, fun k s i hk => ⟨(hL.own k s i hk).1, get_ext (hL.own k s i hk).2⟩, hL.one⟩
theorem LiveS.lt {h : Hp} {id : Nat} {L : List SesO} (hL : LiveS h id L) : id < h.length := lt_of_get hL.row
theorem LiveS.ne {h : Hp} {id : Nat} {L : List SesO} (hL : LiveS h id L) {k i : Nat} {s : Ses} (hk : L[k]? = some (s, some i)) : i ≠ id := by
  rintro rfl
  have h1 := (hL.own k s i hk).2
  rw [hL.row] at h1
  simp at h1
theorem LiveS.put {h : Hp} {id : Nat} {L : List SesO} (hL : LiveS h id L) {k : Nat} {s s' : Ses} {o : Option Nat} (hk : L[k]? = some (s, o)) (h1 : s'.sf = s.sf) (h2 : s'.seen = s.seen) :
    LiveS (h.set id (.tok L.length 7 (some (sc (L.set k (s', o)))))) id (L.set k (s', o)) := by
  have hlt := lt_of_get hk
  have hg : ∀ (j : Nat) (r : Ses) (q : Option Nat), (L.set k (s', o))[j]? = some (r, q) → ∃ r0, L[j]? = some (r0, q) ∧ r.sf = r0.sf ∧ r.seen = r0.seen := fun j r q hj => by
    rw [List.getElem?_set] at hj
    split at hj
    · rename_i e
      subst e
      cases hj
      exact ⟨s, hk, h1, h2⟩
    exact ⟨r, hj, rfl, rfl⟩
  refine ⟨by simp [hL.lt], fun j r hj => ?_, fun j r i hj => ?_, fun a b r q i ha hb => ?_⟩
  · obtain ⟨r0, e1, e2, e3⟩ := hg j r _ hj
    rw [e2, e3]
    exact hL.non j r0 e1
  · obtain ⟨r0, e1, e2, e3⟩ := hg j r _ hj
    rw [e2, e3]
    refine ⟨(hL.own j r0 i e1).1, ?_⟩
    rw [List.getElem?_set_ne (Ne.symm (hL.ne e1))]
    exact (hL.own j r0 i e1).2
  obtain ⟨r0, e1, _⟩ := hg a r _ ha
  obtain ⟨q0, e2, _⟩ := hg b q _ hb
  exact hL.one a b r0 q0 i e1 e2
theorem LiveS.add {h : Hp} {id : Nat} {L : List SesO} (hL : LiveS h id L) {s : Ses} (h1 : s.sf = true) (h2 : s.seen = []) :
    LiveS (h.set id (.tok (L.length + 1) 7 (some (sc (L ++ [(s, none)]))))) id (L ++ [(s, none)]) := by
  have hg : ∀ (j : Nat) (r : Ses) (i : Nat), (L ++ [(s, none)])[j]? = some (r, some i) → L[j]? = some (r, some i) := fun j r i hj => by
    rw [List.getElem?_append] at hj
    split at hj
    · exact hj
    rename_i hjl
    cases hq : j - L.length with
    | zero => rw [hq] at hj; simp at hj
    | succ n => rw [hq] at hj; simp at hj
  refine ⟨by simp [hL.lt], fun j r hj => ?_, fun j r i hj => ?_, fun a b r q i ha hb => hL.one a b r q i (hg _ _ _ ha) (hg _ _ _ hb)⟩
  · rw [List.getElem?_append] at hj
    split at hj
    · exact hL.non j r hj
    cases hq : j - L.length with
    | zero => rw [hq] at hj; simp at hj; subst hj; exact ⟨h1, h2⟩
    | succ n => rw [hq] at hj; simp at hj
  have := hg j r i hj
  refine ⟨(hL.own j r i this).1, ?_⟩
  rw [List.getElem?_set_ne (Ne.symm (hL.ne this))]
  exact (hL.own j r i this).2
theorem LiveS.see0 {h : Hp} {id n : Nat} {L : List SesO} (hL : LiveS h id L) {k : Nat} {s s' : Ses} (hk : L[k]? = some (s, none)) (hn : h.length ≤ n) {g : Hp} (hg : ((h.set id (.tok L.length 7 (some (sc (L.set k (s', some n)))))) ++ g)[n]? = some (.tok s'.seen.length 1 none)) (h1 : s'.sf = false) :
    LiveS ((h.set id (.tok L.length 7 (some (sc (L.set k (s', some n)))))) ++ g) id (L.set k (s', some n)) := by
  have hlt := lt_of_get hk
  have hold : ∀ (j i : Nat) (r : Ses), L[j]? = some (r, some i) → i < n := fun j i r hj => by have := lt_of_get (hL.own j r i hj).2; omega
  have hq : ∀ (j : Nat) (r : Ses) (q : Option Nat), (L.set k (s', some n))[j]? = some (r, q) → (j = k ∧ r = s' ∧ q = some n) ∨ (j ≠ k ∧ L[j]? = some (r, q)) := fun j r q hj => by
    rw [List.getElem?_set] at hj
    split at hj
    · rename_i e
      subst e
      cases hj
      exact .inl ⟨rfl, rfl, rfl⟩
    rename_i e
    exact .inr ⟨fun x => e x.symm, hj⟩
  refine ⟨get_ext (by simp [hL.lt]), fun j r hj => ?_, fun j r i hj => ?_, fun a b r q i ha hb => ?_⟩
  · rcases hq j r _ hj with ⟨_, _, e⟩ | ⟨_, e⟩
    · cases e
    exact hL.non j r e
  · rcases hq j r _ hj with ⟨_, rfl, e⟩ | ⟨_, e⟩
    · cases e
      exact ⟨h1, hg⟩
    refine ⟨(hL.own j r i e).1, ?_⟩
    have e2 := (hL.own j r i e).2
    refine get_ext ?_
    rw [List.getElem?_set_ne (Ne.symm (hL.ne e))]
    exact e2
  rcases hq a r _ ha with ⟨rfl, _, e⟩ | ⟨ha1, e⟩ <;> rcases hq b q _ hb with ⟨rfl, _, f⟩ | ⟨hb1, f⟩
  · rfl
  · cases e
    have := hold _ _ _ f
    omega
  · cases f
    have := hold _ _ _ e
    omega
  exact hL.one a b r q i e f
theorem LiveS.see1 {h : Hp} {id i : Nat} {L : List SesO} (hL : LiveS h id L) {k : Nat} {s s' : Ses} (hk : L[k]? = some (s, some i)) (h1 : s'.sf = false) :
    LiveS ((h.set i (.tok s'.seen.length 1 none)).set id (.tok L.length 7 (some (sc (L.set k (s', some i)))))) id (L.set k (s', some i)) := by
  have hlt := lt_of_get hk
  have hil := lt_of_get (hL.own k s i hk).2
  have hq : ∀ (j : Nat) (r : Ses) (q : Option Nat), (L.set k (s', some i))[j]? = some (r, q) → (j = k ∧ r = s' ∧ q = some i) ∨ (j ≠ k ∧ L[j]? = some (r, q)) := fun j r q hj => by
    rw [List.getElem?_set] at hj
    split at hj
    · rename_i e
      subst e
      cases hj
      exact .inl ⟨rfl, rfl, rfl⟩
    rename_i e
    exact .inr ⟨fun x => e x.symm, hj⟩
  refine ⟨by simp [hL.lt], fun j r hj => ?_, fun j r q hj => ?_, fun a b r q n ha hb => ?_⟩
  · rcases hq j r _ hj with ⟨_, _, e⟩ | ⟨_, e⟩
    · cases e
    exact hL.non j r e
  · rcases hq j r _ hj with ⟨_, rfl, e⟩ | ⟨hne, e⟩
    · cases e
      refine ⟨h1, ?_⟩
      rw [List.getElem?_set_ne (Ne.symm (hL.ne hk))]
      simp [hil]
    refine ⟨(hL.own j r q e).1, ?_⟩
    have hqi : q ≠ i := by
      rintro rfl
      exact hne (hL.one j k r s q e hk)
    rw [List.getElem?_set_ne (Ne.symm (hL.ne e)), List.getElem?_set_ne (Ne.symm hqi)]
    exact (hL.own j r q e).2
  rcases hq a r _ ha with ⟨rfl, _, e⟩ | ⟨ha1, e⟩ <;> rcases hq b q _ hb with ⟨rfl, _, f⟩ | ⟨hb1, f⟩
  · rfl
  · cases e
    exact absurd (hL.one b _ q s _ f hk) hb1
  · cases f
    exact absurd (hL.one a _ r s _ e hk) ha1
  exact hL.one a b r q n e f
theorem LiveS.allD {h : Hp} {id : Nat} {L : List SesO} (hL : LiveS h id L) : allD (sc L) = some (L.flatMap fun x => x.1.row) := by
  have gen : ∀ (M : List SesO), (∀ x ∈ M, ∀ i, x.2 = some i → x.1.sf = false) → Go.Ab.allD (sc M) = some (M.flatMap fun x => x.1.row) := by
    intro M
    induction M with
    | nil => intro _; rfl
    | cons x M ih =>
      intro hM
      obtain ⟨⟨a, b, c, d, e, f, g, sn⟩, o⟩ := x
      rw [sc_cons, List.flatMap_cons]
      have hx := hM _ List.mem_cons_self
      have ih := ih (fun y hy => hM y (List.mem_cons_of_mem _ hy))
      cases o with
      | none => simp [scC, seenC, Go.Ab.allD, C1.toD, ih, Ses.row]
      | some i =>
        have := hx i rfl
        dsimp only at this
        subst this
        simp [scC, seenC, Go.Ab.allD, C1.toD, ih, Ses.row]
  refine gen L fun x hx i hi => ?_
  obtain ⟨k, hk⟩ := List.getElem?_of_mem hx
  obtain ⟨s, o⟩ := x
  dsimp only at hi
  subst hi
  exact (hL.own k s i hk).1
end Go.Ab
namespace Go.Ab
open Go.RowKit Go.Proofs
abbrev Par.av (p : Par) : AV := .v (.agg (p.row.map .d))
abbrev Zon.av (z : Zon) : AV := .v (.agg (z.row.map .d))
abbrev ssOf (L : List SesO) : List Ses := L.map (·.1)
theorem scC_inj {x y : SesO} (h : scC x = scC y) (hx : ∀ i, x.2 = some i → x.1.sf = false) (hy : ∀ i, y.2 = some i → y.1.sf = false) : x = y := by
  obtain ⟨⟨a1, b1, c1, d1, e1, f1, g1, s1⟩, o1⟩ := x
  obtain ⟨⟨a2, b2, c2, d2, e2, f2, g2, s2⟩, o2⟩ := y
  simp only [scC, List.cons.injEq, C1.d.injEq, D.str.injEq, D.int.injEq, true_and, and_true] at h
  obtain ⟨h1, h2, h3, h4, h5, h6, h7⟩ := h
  cases o1 <;> cases o2 <;> simp [seenC] at h7
  · obtain ⟨h7, h8⟩ := h7
    have := mapI_inj.1 h8
    subst h1 h2 h3 h4 h5 h6 h7 this
    rfl
  rename_i i j
  obtain ⟨h7, h8⟩ := h7
  have := mapI_inj.1 h8
  have k1 := hx i rfl
  have k2 := hy j rfl
  dsimp only at k1 k2
  subst h1 h2 h3 h4 h5 h6 h7 this k1 k2
  rfl
theorem sc_inj : ∀ {L M : List SesO}, L.length = M.length → sc L = sc M → (∀ x ∈ L, ∀ i, x.2 = some i → x.1.sf = false) → (∀ x ∈ M, ∀ i, x.2 = some i → x.1.sf = false) → L = M
  | [], [], _, _, _, _ => rfl
  | [], _ :: _, h, _, _, _ => by simp at h
  | _ :: _, [], h, _, _, _ => by simp at h
  | x :: L, y :: M, hl, h, h1, h2 => by
    rw [sc_cons, sc_cons] at h
    have h3 := List.append_inj h rfl
    rw [scC_inj h3.1 (h1 x (by simp)) (h2 y (by simp)), sc_inj (by simpa using hl) h3.2 (fun z hz => h1 z (by simp [hz])) (fun z hz => h2 z (by simp [hz]))]
theorem LiveS.sf {h : Hp} {id : Nat} {L : List SesO} (hL : LiveS h id L) : ∀ x ∈ L, ∀ i, x.2 = some i → x.1.sf = false := fun x hx i hi => by
  obtain ⟨k, hk⟩ := List.getElem?_of_mem hx
  obtain ⟨s, o⟩ := x
  dsimp only at hi
  subst hi
  exact (hL.own k s i hk).1
theorem LiveS.inj {h : Hp} {id : Nat} {L M : List SesO} (hL : LiveS h id L) (hM : LiveS h id M) : L = M := by
  have h1 := hL.row
  rw [hM.row] at h1
  simp only [Option.some.injEq, Ob.tok.injEq] at h1
  exact sc_inj h1.1.symm h1.2.2.symm hL.sf hM.sf
structure RnA where
  h : Hp
  id : Nat
  L : List SesO
  p : Par
  z : Zon
  now : Bool
def lasN : Option Nat → Int
  | some i => i
  | none => -1
noncomputable section
open Classical
end
end Go.Ab
namespace Go.Ab
open Go.RowKit Go.Proofs
theorem LiveS.lowC {h : Hp} {id : Nat} {L : List SesO} (hL : LiveS h id L) : ((sc L).all (C1.low h.length)) = true := by
  rw [List.all_eq_true]
  intro c hc
  simp only [sc, List.mem_flatMap] at hc
  obtain ⟨⟨s, o⟩, hx, hc⟩ := hc
  obtain ⟨k, hk⟩ := List.getElem?_of_mem hx
  cases o with
  | none =>
    simp only [scC, seenC, List.mem_cons, List.not_mem_nil, or_false] at hc
    rcases hc with rfl | rfl | rfl | rfl | rfl | rfl | rfl <;> rfl
  | some i =>
    have := lt_of_get (hL.own k s i hk).2
    simp only [scC, seenC, List.mem_cons, List.not_mem_nil, or_false] at hc
    rcases hc with rfl | rfl | rfl | rfl | rfl | rfl | rfl <;> first | rfl | (simp [C1.low]; omega)
abbrev rowO (L : List SesO) : Ob := .tok L.length 7 (some (sc L))
def seenS (s : Ses) (t : Int) : Ses := { s with sf := false, seen := s.seen ++ [t] }
structure SeA where
  h : Hp
  id : Nat
  L : List SesO
  p : Par
  z : Zon
noncomputable section
open Classical
end
end Go.Ab
namespace Go.Ab
open Go.RowKit Go.Proofs
structure ApA where
  h : Hp
  id : Nat
  L : List SesO
  p : Par
  f : Bool
  zs : List Zon
noncomputable section
open Classical
end
end Go.Ab
namespace Go.Ab
open Go.RowKit Go.Proofs
inductive ApC (h : Hp) (id : Nat) (L : List SesO) (p : Par) : List SesO → Hp → Prop where
  | same : ApC h id L p L h
  | add : ApC h id L p (L ++ [(newS p, none)]) (h.set id (rowO (L ++ [(newS p, none)])))
  | put (k : Nat) (s s' : Ses) (o : Option Nat) (hk : L[k]? = some (s, o)) (h1 : s'.sf = s.sf) (h2 : s'.seen = s.seen) : ApC h id L p (L.set k (s', o)) (h.set id (rowO (L.set k (s', o))))
  | see0 (k n : Nat) (s : Ses) (g : Hp) (hn : n = h.length + g.length) (hg : (g.all (Ob.low 0)) = true) (hk : L[k]? = some (s, none)) : ApC h id L p (L.set k (seenS s p.time, some n)) (h.set id (rowO (L.set k (seenS s p.time, some n))) ++ (g ++ [.tok 1 1 none]))
  | see1 (k i : Nat) (s : Ses) (hk : L[k]? = some (s, some i)) : ApC h id L p (L.set k (seenS s p.time, some i)) ((h.set i (.tok (s.seen.length + 1) 1 none)).set id (rowO (L.set k (seenS s p.time, some i))))
theorem ApC.live {h h' : Hp} {id : Nat} {L L' : List SesO} {p : Par} (c : ApC h id L p L' h') (hL : LiveS h id L) (hh : LowH h) : LiveS h' id L' ∧ LowH h' := by
  cases c with
  | same => exact ⟨hL, hh⟩
  | add =>
    have hL' := hL.add (s := newS p) rfl rfl
    have e : rowO (L ++ [(newS p, none)]) = .tok (L.length + 1) 7 (some (sc (L ++ [(newS p, none)]))) := by simp [rowO]
    refine ⟨by rw [e]; exact hL', LowH.set hh ?_⟩
    have := hL'.lowC
    rw [List.length_set] at this
    exact this
  | put k s s' o hk h1 h2 =>
    have hL' := hL.put hk h1 h2
    have e : rowO (L.set k (s', o)) = .tok L.length 7 (some (sc (L.set k (s', o)))) := by simp [rowO]
    refine ⟨by rw [e]; exact hL', LowH.set hh ?_⟩
    have := hL'.lowC
    rw [List.length_set] at this
    exact this
  | see0 k n s g hn hg hk =>
    subst hn
    obtain ⟨_, e2⟩ := hL.non k _ hk
    have e : rowO (L.set k (seenS s p.time, some (h.length + g.length))) = .tok L.length 7 (some (sc (L.set k (seenS s p.time, some (h.length + g.length))))) := by simp [rowO]
    have hL' := hL.see0 hk (s' := seenS s p.time) (n := h.length + g.length) (by omega) (g := g ++ [.tok 1 1 none]) (by
      rw [List.getElem?_append_right (by simp), List.length_set, Nat.add_sub_cancel_left, List.getElem?_append_right (Nat.le_refl _)]
      simp [seenS, e2]) rfl
    rw [e]
    refine ⟨hL', ?_⟩
    have hl := hL'.lowC
    unfold LowH
    rw [List.all_eq_true]
    intro x hx
    rcases List.mem_append.1 hx with hx | hx
    · rcases List.mem_or_eq_of_mem_set hx with h1 | rfl
      · exact Ob.low_mono (by simp) (List.all_eq_true.1 hh x h1)
      exact hl
    · rcases List.mem_append.1 hx with hx | hx
      · exact Ob.low_mono (Nat.zero_le _) (List.all_eq_true.1 hg x hx)
      · rw [List.mem_singleton.1 hx]; rfl
  | see1 k i s hk =>
    have e : rowO (L.set k (seenS s p.time, some i)) = .tok L.length 7 (some (sc (L.set k (seenS s p.time, some i)))) := by simp [rowO]
    have hL' := hL.see1 hk (s' := seenS s p.time) rfl
    have e3 : (seenS s p.time).seen.length = s.seen.length + 1 := by simp [seenS]
    rw [e3] at hL'
    rw [e]
    refine ⟨hL', LowH.set (LowH.set hh rfl) ?_⟩
    have := hL'.lowC
    rw [List.length_set, List.length_set] at this
    rw [List.length_set]
    exact this
theorem ApC.keep {h h' : Hp} {id : Nat} {L L' : List SesO} {p : Par} (c : ApC h id L p L' h') (hL : LiveS h id L) {j : Nat} {o : Ob} (hj : h[j]? = some o) (hji : j ≠ id) (ho : ∀ n, o ≠ .tok n 1 none) : h'[j]? = some o := by
  have hjl := lt_of_get hj
  cases c with
  | same => exact hj
  | add => rw [List.getElem?_set_ne (Ne.symm hji)]; exact hj
  | put k s s' o' hk h1 h2 => rw [List.getElem?_set_ne (Ne.symm hji)]; exact hj
  | see0 k n s g hn hg hk => exact get_ext (by rw [List.getElem?_set_ne (Ne.symm hji)]; exact hj)
  | see1 k i s hk =>
    have h1 := (hL.own k _ i hk).2
    have hne : i ≠ j := by
      rintro rfl
      rw [hj] at h1
      exact ho _ (Option.some.inj h1)
    rw [List.getElem?_set_ne (Ne.symm hji), List.getElem?_set_ne hne]
    exact hj
theorem ApC.len {h h' : Hp} {id : Nat} {L L' : List SesO} {p : Par} (c : ApC h id L p L' h') : h.length ≤ h'.length := by
  cases c <;> simp
theorem ApC.many {h h' : Hp} {id : Nat} {L L' : List SesO} {p : Par} (c : ApC h id L p L' h') {N : Nat} (hN : L.length ≤ N ∧ ∀ x ∈ L, x.1.seen.length ≤ N) : L'.length ≤ N + 1 ∧ ∀ x ∈ L', x.1.seen.length ≤ N + 1 := by
  obtain ⟨h1, h2⟩ := hN
  have hset : ∀ (k : Nat) (y : SesO), y.1.seen.length ≤ N + 1 → (L.set k y).length ≤ N + 1 ∧ ∀ x ∈ L.set k y, x.1.seen.length ≤ N + 1 := fun k y hy => by
    refine ⟨by rw [List.length_set]; omega, fun x hx => ?_⟩
    rcases List.mem_or_eq_of_mem_set hx with h3 | rfl
    · have := h2 x h3; omega
    exact hy
  cases c with
  | same => exact ⟨by omega, fun x hx => by have := h2 x hx; omega⟩
  | add =>
    refine ⟨by simp; omega, fun x hx => ?_⟩
    rcases List.mem_append.1 hx with hx | hx
    · have := h2 x hx; omega
    · rw [List.mem_singleton.1 hx]; simp [newS]
  | put k s s' o hk e1 e2 =>
    refine hset k _ ?_
    have := h2 _ (List.mem_of_getElem? hk)
    dsimp only at this ⊢
    rw [e2]
    omega
  | see0 k n s g hn hg hk =>
    refine hset k _ ?_
    have := h2 _ (List.mem_of_getElem? hk)
    dsimp only at this ⊢
    simp [seenS]; omega
  | see1 k i s hk =>
    refine hset k _ ?_
    have := h2 _ (List.mem_of_getElem? hk)
    dsimp only at this ⊢
    simp [seenS]; omega
noncomputable section
open Classical
end
end Go.Ab
namespace Go.Ab
open Go.RowKit Go.Proofs
theorem sortR_len (l : List Par) : (sortR l).length ≤ l.length := by
  have gen : ∀ (l m : List Par), (l.foldl insP m).length ≤ l.length + m.length := by
    intro l
    induction l with
    | nil => intro m; simp
    | cons x l ih =>
      intro m
      have h1 := ih (insP m x)
      have h2 := insP_len m x
      rw [List.foldl_cons, List.length_cons]
      omega
  have := gen l []
  simpa [sortR] using this
noncomputable section
open Classical
structure AlI (zs : List Zon) (sorted : List Par) (j : Nat) (h : Hp) (L : List SesO) (X : List Exc) : Prop where
  le : j ≤ sorted.length
  live : LiveS h 0 L
  low : LowH h
  exc : h[1]? = some (.tok X.length 2 none)
  many : L.length ≤ j ∧ ∀ x ∈ L, x.1.seen.length ≤ j
  xs : X.length ≤ j
  res : (ssOf L, X) = (sorted.take j).foldl (stepX zs) ([], [])
end
end Go.Ab
