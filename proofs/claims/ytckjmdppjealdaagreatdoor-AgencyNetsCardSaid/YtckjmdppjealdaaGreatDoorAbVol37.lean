/-
  Texts of the layer and of the laws, put together: AbShR, AbA40. No law is stated here.
-/
import Derived.Shelf.SlLaysF0
import Derived.Test.YtckjmdppjealdaaGreatDoorProg
import Derived.Test.YtckjmdppjealdaaGreatDoorAbVol36
import Derived.Test.YtckjmdppjealdaaGreatDoorAbVol14
set_option linter.unusedSimpArgs false
set_option linter.unusedVariables false
set_option maxRecDepth 100000

/-
  The laying of slices.SortFunc at this program. Written by the kit's lay-plain.mjs (tools/sortlay.sh).
-/
namespace Go.Proofs
open Go.Shelf
def Tryz.sortRec_ren : Go.Shelf.Ren := ⟨fun | 6 => 44 | 15 => 78 | 14 => 77 | 28 => 114 | 29 => 115 | 20 => 106 | 21 => 107 | 22 => 108 | 23 => 109 | 24 => 110 | 25 => 111 | 26 => 112 | 27 => 113 | 46 => 142 | 47 => 143 | 48 => 144 | 49 => 145 | 50 => 146 | 57 => 162 | n => n, fun | 22 => 44 | 24 => 52 | 25 => 86 | 3 => 3 | 39 => 115 | 0 => 0 | 53 => 155 | 55 => 157 | 4 => 4 | 46 => 149 | 45 => 148 | 50 => 83 | 5 => 5 | 9 => 9 | 66 => 176 | 70 => 180 | 76 => 191 | 77 => 192 | n => n, fun | n => n⟩
theorem Tryz.sortRec : Go.Proofs.SlLaysF0.n6 Tryz.prog Tryz.sortRec_ren := {
  mixed := by kernel_rfl
  f6 := ⟨Tryz.f44.name, by decide, Tryz.func44.trans (congrArg some (by kernel_rfl))⟩
  f14 := ⟨Tryz.f77.name, by decide, Tryz.func77.trans (congrArg some (by kernel_rfl))⟩
  f15 := Tryz.func78.trans (congrArg some (by kernel_rfl))
  f20 := ⟨Tryz.f106.name, by decide, Tryz.func106.trans (congrArg some (by kernel_rfl))⟩
  f21 := ⟨Tryz.f107.name, by decide, Tryz.func107.trans (congrArg some (by kernel_rfl))⟩
  f22 := ⟨Tryz.f108.name, by decide, Tryz.func108.trans (congrArg some (by kernel_rfl))⟩
  f23 := ⟨Tryz.f109.name, by decide, Tryz.func109.trans (congrArg some (by kernel_rfl))⟩
  f24 := ⟨Tryz.f110.name, by decide, Tryz.func110.trans (congrArg some (by kernel_rfl))⟩
  f25 := ⟨Tryz.f111.name, by decide, Tryz.func111.trans (congrArg some (by kernel_rfl))⟩
  f26 := ⟨Tryz.f112.name, by decide, Tryz.func112.trans (congrArg some (by kernel_rfl))⟩
  f27 := ⟨Tryz.f113.name, by decide, Tryz.func113.trans (congrArg some (by kernel_rfl))⟩
  f28 := Tryz.func114.trans (congrArg some (by kernel_rfl))
  f29 := Tryz.func115.trans (congrArg some (by kernel_rfl))
  f46 := ⟨Tryz.f142.name, by decide, Tryz.func142.trans (congrArg some (by kernel_rfl))⟩
  f47 := Tryz.func143.trans (congrArg some (by kernel_rfl))
  f48 := Tryz.func144.trans (congrArg some (by kernel_rfl))
  f49 := ⟨Tryz.f145.name, by decide, Tryz.func145.trans (congrArg some (by kernel_rfl))⟩
  f50 := ⟨Tryz.f146.name, by decide, Tryz.func146.trans (congrArg some (by kernel_rfl))⟩
  f57 := ⟨Tryz.f162.name, by decide, Tryz.func162.trans (congrArg some (by kernel_rfl))⟩
  t0 := Tryz.underlying0
  a0 := Tryz.isAgg0
  z0 := Tryz.sizeOf0
  v0 := Tryz.zeroValue0
  t3 := Tryz.underlying3
  a3 := Tryz.isAgg3
  z3 := Tryz.sizeOf3
  v3 := Tryz.zeroValue3
  t4 := Tryz.underlying4
  a4 := Tryz.isAgg4
  z4 := Tryz.sizeOf4
  v4 := Tryz.zeroValue4
  t5 := Tryz.underlying5
  a5 := Tryz.isAgg5
  z5 := Tryz.sizeOf5
  v5 := Tryz.zeroValue5
  t9 := Tryz.underlying9
  a9 := Tryz.isAgg9
  z9 := Tryz.sizeOf9
  v9 := Tryz.zeroValue9
  t22 := Tryz.underlying44
  a22 := Tryz.isAgg44
  z22 := Tryz.sizeOf44
  v22 := Tryz.zeroValue44
  t25 := Tryz.underlying86
  a25 := Tryz.isAgg86
  z25 := Tryz.sizeOf86
  v25 := Tryz.zeroValue86
  t39 := Tryz.underlying115
  a39 := Tryz.isAgg115
  z39 := Tryz.sizeOf115
  v39 := Tryz.zeroValue115
  t45 := Tryz.underlying148
  a45 := Tryz.isAgg148
  z45 := Tryz.sizeOf148
  v45 := Tryz.zeroValue148
  t46 := Tryz.underlying149
  a46 := Tryz.isAgg149
  z46 := Tryz.sizeOf149
  v46 := Tryz.zeroValue149
  t50 := Tryz.underlying83
  a50 := Tryz.isAgg83
  z50 := Tryz.sizeOf83
  v50 := Tryz.zeroValue83
  t53 := Tryz.underlying155
  a53 := Tryz.isAgg155
  z53 := Tryz.sizeOf155
  v53 := Tryz.zeroValue155
  t55 := Tryz.underlying157
  a55 := Tryz.isAgg157
  z55 := Tryz.sizeOf157
  v55 := Tryz.zeroValue157
  t66 := Tryz.underlying176
  a66 := Tryz.isAgg176
  z66 := Tryz.sizeOf176
  v66 := Tryz.zeroValue176
  t70 := Tryz.underlying180
  a70 := Tryz.isAgg180
  z70 := Tryz.sizeOf180
  v70 := Tryz.zeroValue180
  t76 := Tryz.underlying191
  a76 := Tryz.isAgg191
  z76 := Tryz.sizeOf191
  v76 := Tryz.zeroValue191
  t77 := Tryz.underlying192
  a77 := Tryz.isAgg192
  z77 := Tryz.sizeOf192
  v77 := Tryz.zeroValue192 }
end Go.Proofs

/-
  Agency: records sorted by key.
-/
namespace Go.Ab
open Go.RowKit Go.Proofs Go.Lib Go.Sort

theorem swo_key {α : Type} (g : α → Rec) : SWO (ltOf fun x y => ordR (g x) (g y)) where
  irrefl x := decide_eq_false (ordS_irr _)
  trans x y z h1 h2 := decide_eq_true (cmp_ordS.lt _ _ _ (of_decide_eq_true h1) (of_decide_eq_true h2))
  ntrans x y z h1 h2 := by
    have h1 := of_decide_eq_false h1
    have h2 := of_decide_eq_false h2
    refine decide_eq_false fun h => ?_
    simp only [ordR] at h1 h2 h
    have a1 := cmp_ordS.anti (g y).key (g x).key
    have a2 := cmp_ordS.anti (g z).key (g y).key
    rcases (by omega : ordS (g y).key (g x).key < 0 ∨ ordS (g x).key (g y).key = 0) with b1 | b1
    · have h3 := cmp_ordS.lt _ _ _ b1 h
      exact h2 h3
    · exact h2 (cmp_ordS.el _ _ _ (cmp_ordS.sym b1) h)

/-- The records in the order of their keys. -/
def sortK (xs : List Rec) : List Rec := (sortBy (fun x y : {x // x ∈ xs} => ordR x.1 y.1) xs.attach).map (·.1)
theorem sortK_perm (xs : List Rec) : (sortK xs).Perm xs := by
  have h := (List.mergeSort_perm xs.attach (fun x y : {x // x ∈ xs} => !(ltOf fun x y : {x // x ∈ xs} => ordR x.1 y.1) y x)).map (·.1)
  rw [List.attach_map_subtype_val] at h
  exact h
theorem sortK_le (xs : List Rec) : (sortK xs).Pairwise (fun a b => ordS a.key b.key ≤ 0) := by
  unfold sortK
  rw [List.pairwise_map]
  have sw := swo_key (fun x : {x // x ∈ xs} => x.1)
  have h := List.pairwise_mergeSort (le := fun x y : {x // x ∈ xs} => !(ltOf fun x y : {x // x ∈ xs} => ordR x.1 y.1) y x) (fun a b c h1 h2 => ?_) (fun a b => ?_) xs.attach
  · refine h.imp fun {a b} hab => ?_
    simp only [Bool.not_eq_true'] at hab
    have h1 := of_decide_eq_false hab
    simp only [ordR] at h1
    have := cmp_ordS.anti b.1.key a.1.key
    omega
  · simp only [Bool.not_eq_true'] at h1 h2 ⊢
    exact sw.ntrans _ _ _ h2 h1
  · rw [Bool.or_eq_true, Bool.not_eq_true', Bool.not_eq_true']
    by_cases h1 : ordR b.1 a.1 < 0
    · right
      refine decide_eq_false fun h2 => ?_
      simp only [ordR] at h1 h2
      have := cmp_ordS.anti a.1.key b.1.key
      omega
    · left
      exact decide_eq_false h1
theorem net_sorted (l : List Rec) : sortK (netU l) = netR l :=
  net_same (fun x => (sortK_perm _).mem_iff) (((sortK_perm _).map Rec.key).nodup_iff.2 (netU_ok l).one) (sortK_le _)

theorem key_uniq : ∀ {l : List Rec} {x y : Rec}, (l.map Rec.key).Nodup → x ∈ l → y ∈ l → x.key = y.key → x = y
  | z :: l, x, y, hn, hx, hy, h => by
    rw [List.map_cons, List.nodup_cons] at hn
    rcases List.mem_cons.1 hx with e1 | hx1
    · rcases List.mem_cons.1 hy with e2 | hy1
      · rw [e1, e2]
      · rw [e1] at h
        exact absurd (h ▸ List.mem_map_of_mem hy1) hn.1
    · rcases List.mem_cons.1 hy with e2 | hy1
      · rw [e2] at h
        exact absurd (h ▸ List.mem_map_of_mem hx1) hn.1
      · exact key_uniq hn.2 hx1 hy1 h
abbrev rc (l : List Rec) : List C1 := (l.flatMap Rec.row).map .d
theorem rc_inj : ∀ {a b : List Rec}, rc a = rc b → a = b
  | [], [], _ => rfl
  | [], y :: k, h => by simp [rc, Rec.row] at h
  | x :: l, [], h => by simp [rc, Rec.row] at h
  | x :: l, y :: k, h => by
    simp only [rc, List.flatMap_cons, List.map_append] at h
    obtain ⟨h1, h2⟩ := List.append_inj h (by simp [Rec.row])
    have e : x.row = y.row := map_inj (fun a b h => by cases h; rfl) h1
    rw [Rec.inj _ _ e, rc_inj h2]

def srR (p : Hp × Nat × List Rec) (args : List AV) (h : Hp) : Prop := args = [.v (.c (.msl p.2.1 p.2.2.length)), .v (.c (.fn 45 []))] ∧ h = p.1 ∧ p.1[p.2.1]? = some (.tok p.2.2.length 5 (some (rc p.2.2)))
theorem srR_inj {a b : Hp × Nat × List Rec} {args : List AV} {h : Hp} (ha : srR a args h) (hb : srR b args h) : b = a := by
  obtain ⟨a1, a2, a3⟩ := a
  obtain ⟨b1, b2, b3⟩ := b
  obtain ⟨h1, h2, h3⟩ := ha
  obtain ⟨g1, g2, g3⟩ := hb
  dsimp only at *
  subst h2 g2
  rw [h1] at g1
  simp only [List.cons.injEq, AV.v.injEq, V.c.injEq, C1.msl.injEq, and_true] at g1
  obtain ⟨rfl, g4⟩ := g1
  rw [h3] at g3
  simp only [Option.some.injEq, Ob.tok.injEq] at g3
  rw [rc_inj g3.2.2]

noncomputable section
open Classical

def sfRec_k : List AV → Hp → Option COut := kR srR fun p => if p.2.2.length ≤ 1000000000 ∧ (p.2.2.map Rec.key).Nodup then some (.ret (.tup []) (p.1.set p.2.1 (.tok p.2.2.length 5 (some (rc (sortK p.2.2)))))) else none

theorem sfRec_kok : ImpC Tryz.prog Gt 44 sfRec_k := by
  intro args h out h0
  obtain ⟨⟨h', id, ps⟩, ⟨rfl, rfl, hid⟩, hg⟩ := kR_inv h0
  dsimp only at hid hg ⊢
  split at hg
  · rename_i hc
    obtain ⟨hl, hn⟩ := hc
    cases hg
    have hsim : ∀ (x : Rec), ∀ d ∈ x.row, simD d = true := fun x d hd => by
      simp [Rec.row] at hd
      rcases hd with rfl | rfl | rfl | rfl | rfl <;> rfl
    have hm : ∀ x y : Rec, dnet_m [.agg x.row, .agg y.row] = some [.c (.int .i64 (ordR x y))] := fun x y => mE_eq encR2_inj (g := fun p => some [DV.i (ordR p.1 p.2)]) (a := (x, y))
    cases ps with
    | nil =>
      have := fok_sort (G := Gt) Tryz.sortRec (k := 5) (by decide) Tryz.isAgg52 Tryz.sizeOf52 dnet_ok (α := Unit) (fun _ => (⟨0, [], 0, 0, 0⟩ : Rec).row) (fun _ => rfl) (fun x d hd => hsim _ d hd) (fun _ _ => ordR ⟨0, [], 0, 0, 0⟩ ⟨0, [], 0, 0, 0⟩) (fun x y => hm _ _) (swo_key (fun _ : Unit => (⟨0, [], 0, 0, 0⟩ : Rec))) (fun _ _ _ _ => rfl) [] (by decide) (id := id) (h := h) hid
      have hs : sortBy (fun _ _ : Unit => ordR ⟨0, [], 0, 0, 0⟩ ⟨0, [], 0, 0, 0⟩) [] = [] := by simp [sortBy]
      rw [hs] at this
      rw [show sortK [] = [] by simp [sortK, sortBy]]
      exact this
    | cons q qs =>
      haveI : Inhabited {x // x ∈ q :: qs} := ⟨⟨q, by simp⟩⟩
      have hf : ∀ l : List {x // x ∈ q :: qs}, (l.flatMap fun x => x.1.row) = (l.map (·.1)).flatMap Rec.row := fun l => by rw [List.flatMap_map]
      have := fok_sort (G := Gt) Tryz.sortRec (k := 5) (by decide) Tryz.isAgg52 Tryz.sizeOf52 dnet_ok (α := {x // x ∈ q :: qs}) (fun x => x.1.row) (fun _ => rfl) (fun x d hd => hsim _ d hd) (fun x y => ordR x.1 y.1) (fun x y => hm _ _) (swo_key (fun x : {x // x ∈ q :: qs} => x.1)) (fun x y h1 h2 => by
        have h1 := of_decide_eq_false h1
        have h2 := of_decide_eq_false h2
        simp only [ordR] at h1 h2
        have a1 := cmp_ordS.anti y.1.key x.1.key
        have hk : x.1.key = y.1.key := ordS_zero.1 (by omega)
        exact Subtype.ext (key_uniq hn x.2 y.2 hk)) (q :: qs).attach (by rw [List.length_attach]; omega) (id := id) (h := h) (by rw [List.length_attach, hf, List.attach_map_subtype_val]; exact hid)
      rw [List.length_attach, hf] at this
      exact this
  · cases hg

end
end Go.Ab
