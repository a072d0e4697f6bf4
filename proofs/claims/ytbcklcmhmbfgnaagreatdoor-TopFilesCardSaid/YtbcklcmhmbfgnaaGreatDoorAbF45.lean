/-
  Texts of the layer and of the laws, put together: AbShK, AbTF16, AbTF17.
-/
import Derived.Shelf.SlIter.Nil
import Derived.Shelf.SortM.Plain
import Derived.Shelf.SortM.SortNone
import Derived.Ground.GgzProg
import Derived.Ground.SlgmProg
import Derived.Test.YtbcklcmhmbfgnaaGreatDoorProg
import Derived.Test.YtbcklcmhmbfgnaaGreatDoorAbF14
import Derived.Test.YtbcklcmhmbfgnaaGreatDoorAbF15
import Derived.Test.YtbcklcmhmbfgnaaGreatDoorAbF13
import Derived.Test.YtbcklcmhmbfgnaaGreatDoorAbF12
import Derived.Test.YtbcklcmhmbfgnaaGreatDoorAbF41
import Derived.Test.YtbcklcmhmbfgnaaGreatDoorAbF39
set_option linter.unusedSimpArgs false
set_option linter.unusedVariables false
set_option maxRecDepth 100000
namespace Go.Proofs
open Go.Shelf
def Tryz.keys61_ren : Go.Shelf.Ren := ⟨fun | 7 => 61 | 10 => 79 | n => n, fun | 23 => 112 | 26 => 9 | 3 => 4 | 28 => 115 | 0 => 0 | 27 => 114 | 33 => 54 | 4 => 4 | n => n, fun | n => n⟩
theorem Tryz.keys61 : Go.Proofs.SlLaysZ.n7 Tryz.prog Tryz.keys61_ren := {
  mixed := by kernel_rfl
  f7 := ⟨Tryz.f61.name, by decide, Tryz.func61.trans (congrArg some (by kernel_rfl))⟩
  f10 := ⟨Tryz.f79.name, by decide, Tryz.func79.trans (congrArg some (by kernel_rfl))⟩
  t0 := Tryz.underlying0
  a0 := Tryz.isAgg0
  z0 := Tryz.sizeOf0
  v0 := Tryz.zeroValue0
  t4 := Tryz.underlying4
  a4 := Tryz.isAgg4
  z4 := Tryz.sizeOf4
  v4 := Tryz.zeroValue4
  t23 := Tryz.underlying112
  a23 := Tryz.isAgg112
  z23 := Tryz.sizeOf112
  v23 := Tryz.zeroValue112
  t26 := Tryz.underlying9
  a26 := Tryz.isAgg9
  z26 := Tryz.sizeOf9
  v26 := Tryz.zeroValue9
  t27 := Tryz.underlying114
  a27 := Tryz.isAgg114
  z27 := Tryz.sizeOf114
  v27 := Tryz.zeroValue114
  t28 := Tryz.underlying115
  a28 := Tryz.isAgg115
  z28 := Tryz.sizeOf115
  v28 := Tryz.zeroValue115
  t33 := Tryz.underlying54
  a33 := Tryz.isAgg54
  z33 := Tryz.sizeOf54
  v33 := Tryz.zeroValue54 }
def Tryz.sorted60_ren : Go.Shelf.Ren := ⟨fun | 6 => 60 | 8 => 77 | 9 => 78 | 11 => 97 | 13 => 99 | 12 => 98 | 23 => 123 | 24 => 102 | 14 => 114 | 15 => 115 | 16 => 116 | 17 => 117 | 18 => 118 | 19 => 119 | 20 => 120 | 21 => 121 | 22 => 122 | 25 => 139 | 26 => 140 | 27 => 141 | 28 => 142 | 29 => 143 | 30 => 144 | 31 => 149 | n => n, fun | 26 => 9 | 28 => 115 | 24 => 71 | 0 => 0 | 3 => 3 | 37 => 141 | 48 => 154 | 50 => 98 | 4 => 4 | 40 => 162 | 39 => 161 | 45 => 145 | 5 => 5 | 9 => 9 | 51 => 176 | 55 => 180 | 57 => 186 | 58 => 86 | 33 => 54 | n => n, fun | n => n⟩
theorem Tryz.sorted60 : Go.Proofs.SlLaysZ.n6 Tryz.prog Tryz.sorted60_ren := {
  mixed := by kernel_rfl
  f6 := ⟨Tryz.f60.name, by decide, Tryz.func60.trans (congrArg some (by kernel_rfl))⟩
  f8 := ⟨Tryz.f77.name, by decide, Tryz.func77.trans (congrArg some (by kernel_rfl))⟩
  f11 := ⟨Tryz.f97.name, by decide, Tryz.func97.trans (congrArg some (by kernel_rfl))⟩
  t0 := Tryz.underlying0
  a0 := Tryz.isAgg0
  z0 := Tryz.sizeOf0
  v0 := Tryz.zeroValue0
  t24 := Tryz.underlying71
  a24 := Tryz.isAgg71
  z24 := Tryz.sizeOf71
  v24 := Tryz.zeroValue71
  t26 := Tryz.underlying9
  a26 := Tryz.isAgg9
  z26 := Tryz.sizeOf9
  v26 := Tryz.zeroValue9
  t28 := Tryz.underlying115
  a28 := Tryz.isAgg115
  z28 := Tryz.sizeOf115
  v28 := Tryz.zeroValue115
  i26 := by kernel_rfl }
def Tryz.sort78_ren : Go.Shelf.Ren := ⟨fun | 6 => 78 | 8 => 99 | 9 => 98 | 19 => 123 | 20 => 102 | 21 => 114 | 22 => 115 | 23 => 116 | 24 => 117 | 25 => 118 | 26 => 119 | 27 => 120 | 28 => 121 | 29 => 122 | 36 => 139 | 31 => 140 | 32 => 141 | 37 => 142 | 38 => 143 | 39 => 144 | 41 => 149 | n => n, fun | 27 => 71 | 29 => 9 | 3 => 3 | 32 => 141 | 26 => 71 | 0 => 0 | 44 => 154 | 46 => 98 | 4 => 4 | 36 => 162 | 35 => 161 | 41 => 145 | 5 => 5 | 9 => 9 | 53 => 176 | 57 => 180 | 63 => 186 | 64 => 86 | n => n, fun | n => n⟩
theorem Tryz.sort78 : Go.Proofs.SlLaysM.n6 Tryz.prog Tryz.sort78_ren := {
  mixed := by kernel_rfl
  f6 := ⟨Tryz.f78.name, by decide, Tryz.func78.trans (congrArg some (by kernel_rfl))⟩
  f8 := Tryz.func99.trans (congrArg some (by kernel_rfl))
  f9 := ⟨Tryz.f98.name, by decide, Tryz.func98.trans (congrArg some (by kernel_rfl))⟩
  f19 := Tryz.func123.trans (congrArg some (by kernel_rfl))
  f20 := Tryz.func102.trans (congrArg some (by kernel_rfl))
  f21 := ⟨Tryz.f114.name, by decide, Tryz.func114.trans (congrArg some (by kernel_rfl))⟩
  f22 := ⟨Tryz.f115.name, by decide, Tryz.func115.trans (congrArg some (by kernel_rfl))⟩
  f23 := ⟨Tryz.f116.name, by decide, Tryz.func116.trans (congrArg some (by kernel_rfl))⟩
  f24 := ⟨Tryz.f117.name, by decide, Tryz.func117.trans (congrArg some (by kernel_rfl))⟩
  f25 := ⟨Tryz.f118.name, by decide, Tryz.func118.trans (congrArg some (by kernel_rfl))⟩
  f26 := ⟨Tryz.f119.name, by decide, Tryz.func119.trans (congrArg some (by kernel_rfl))⟩
  f27 := ⟨Tryz.f120.name, by decide, Tryz.func120.trans (congrArg some (by kernel_rfl))⟩
  f28 := ⟨Tryz.f121.name, by decide, Tryz.func121.trans (congrArg some (by kernel_rfl))⟩
  f29 := ⟨Tryz.f122.name, by decide, Tryz.func122.trans (congrArg some (by kernel_rfl))⟩
  f31 := Tryz.func140.trans (congrArg some (by kernel_rfl))
  f32 := Tryz.func141.trans (congrArg some (by kernel_rfl))
  f36 := ⟨Tryz.f139.name, by decide, Tryz.func139.trans (congrArg some (by kernel_rfl))⟩
  f37 := ⟨Tryz.f142.name, by decide, Tryz.func142.trans (congrArg some (by kernel_rfl))⟩
  f38 := ⟨Tryz.f143.name, by decide, Tryz.func143.trans (congrArg some (by kernel_rfl))⟩
  f39 := ⟨Tryz.f144.name, by decide, Tryz.func144.trans (congrArg some (by kernel_rfl))⟩
  f41 := ⟨Tryz.f149.name, by decide, Tryz.func149.trans (congrArg some (by kernel_rfl))⟩
  t0 := Tryz.underlying0
  a0 := Tryz.isAgg0
  z0 := Tryz.sizeOf0
  v0 := Tryz.zeroValue0
  t3 := Tryz.underlying3
  a3 := Tryz.isAgg3
  z3 := Tryz.sizeOf3
  v3 := Tryz.zeroValue3
  t4 := Tryz.underlying4
  a4 := Tryz.isAgg4
  z4 := Tryz.sizeOf4
  v4 := Tryz.zeroValue4
  t5 := Tryz.underlying5
  a5 := Tryz.isAgg5
  z5 := Tryz.sizeOf5
  v5 := Tryz.zeroValue5
  t9 := Tryz.underlying9
  a9 := Tryz.isAgg9
  z9 := Tryz.sizeOf9
  v9 := Tryz.zeroValue9
  t26 := Tryz.underlying71
  a26 := Tryz.isAgg71
  z26 := Tryz.sizeOf71
  v26 := Tryz.zeroValue71
  t27 := Tryz.underlying71
  a27 := Tryz.isAgg71
  z27 := Tryz.sizeOf71
  v27 := Tryz.zeroValue71
  t29 := Tryz.underlying9
  a29 := Tryz.isAgg9
  z29 := Tryz.sizeOf9
  v29 := Tryz.zeroValue9
  t32 := Tryz.underlying141
  a32 := Tryz.isAgg141
  z32 := Tryz.sizeOf141
  v32 := Tryz.zeroValue141
  t35 := Tryz.underlying161
  a35 := Tryz.isAgg161
  z35 := Tryz.sizeOf161
  v35 := Tryz.zeroValue161
  t36 := Tryz.underlying162
  a36 := Tryz.isAgg162
  z36 := Tryz.sizeOf162
  v36 := Tryz.zeroValue162
  t41 := Tryz.underlying145
  a41 := Tryz.isAgg145
  z41 := Tryz.sizeOf145
  v41 := Tryz.zeroValue145
  t44 := Tryz.underlying154
  a44 := Tryz.isAgg154
  z44 := Tryz.sizeOf154
  v44 := Tryz.zeroValue154
  t46 := Tryz.underlying98
  a46 := Tryz.isAgg98
  z46 := Tryz.sizeOf98
  v46 := Tryz.zeroValue98
  t53 := Tryz.underlying176
  a53 := Tryz.isAgg176
  z53 := Tryz.sizeOf176
  v53 := Tryz.zeroValue176
  t57 := Tryz.underlying180
  a57 := Tryz.isAgg180
  z57 := Tryz.sizeOf180
  v57 := Tryz.zeroValue180
  t63 := Tryz.underlying186
  a63 := Tryz.isAgg186
  z63 := Tryz.sizeOf186
  v63 := Tryz.zeroValue186
  t64 := Tryz.underlying86
  a64 := Tryz.isAgg86
  z64 := Tryz.sizeOf86
  v64 := Tryz.zeroValue86 }
end Go.Proofs
namespace Go.Ab
open Go.RowKit Go.Proofs
open Go.WideShapes (sorted_perm)
open Go.WideMaps (keyOf_string_mk)
def kstr : DV → List UInt8
  | .c (.str s) => s
  | _ => []
def keysL (es : MapA) : List (List UInt8) := es.map fun e => kstr e.2.1
def keysS (es : MapA) : List (List UInt8) := (keysL es).mergeSort leB
theorem keysS_len {es : MapA} : (keysS es).length = es.length := by
  unfold keysS keysL
  rw [List.length_mergeSort, List.length_map]
theorem kstr_of {k : DV} (h : isKeyA .string k = true) : k = .c (.str (kstr k)) := by
  cases k with
  | agg xs => simp [isKeyA] at h
  | c x => cases x <;> simp [isKeyA] at h <;> rfl
structure KsA where
  h : Hp
  bid : Nat
  mid : Nat
  es : MapA
  c : Nat
def ksRl (a : KsA) (args : List AV) (h : Hp) : Prop := args = [.v (.c (.fn 79 [(a.bid, 0)]))] ∧ h = a.h ∧ a.h[a.bid]? = some (.box [.mp a.mid]) ∧ a.h[a.mid]? = some (.map a.es a.c)
theorem ksRl_inj {a b : KsA} {args : List AV} {h : Hp} (ha : ksRl a args h) (hb : ksRl b args h) : b = a := by
  obtain ⟨a1, a2, a3, a4, a5⟩ := a
  obtain ⟨b1, b2, b3, b4, b5⟩ := b
  obtain ⟨h1, h2, h3, h4⟩ := ha
  obtain ⟨g1, g2, g3, g4⟩ := hb
  dsimp only at *
  subst h2 g2
  rw [h1] at g1
  simp only [List.cons.injEq, AV.v.injEq, V.c.injEq, C1.fn.injEq, Prod.mk.injEq, true_and, and_true] at g1
  subst g1
  rw [h3] at g3
  simp only [Option.some.injEq, Ob.box.injEq, List.cons.injEq, C1.mp.injEq, and_true] at g3
  subst g3
  rw [h4] at g4
  simp only [Option.some.injEq, Ob.map.injEq] at g4
  rw [g4.1, g4.2]
structure KsOk (a : KsA) : Prop where
  mw : MW .string a.es a.c
  len : a.es.length ≤ 1000000
  key : ∀ e ∈ a.es, (kstr e.2.1).length ≤ 1000000
theorem sorts_at (m : Nat) : AnyZ.SortsIn Tryz.prog Tryz.sorted60_ren Fence.wide m :=
  ⟨fun blk off cap ss W hH hblk hsz => callsIn_wide.2 (AnyM.slices_Sort_string Tryz.sort78 blk off cap ss W hH hblk hsz),
   fun p cap W => callsIn_wide.2 (AnyM.slices_Sort_string_none Tryz.sort78 p cap W)⟩
theorem sorted_keys (W : World) (bb b nn : Nat) (D0 : DataW Unit) (R : Value → Option (DataW Unit × List MemPlace)) (hB : bb < W.heap.size) (hc : W.cell? ⟨bb, 0, none⟩ = some (.map (some b))) (hown : W.ownsMap Tryz.prog 9 R b nn D0) (hmax : Maps.size D0 ≤ maxLen) (hbytes : Maps.size D0 * 16 ≤ 140737488355328) :
    Calls Tryz.prog 60 #[.func (.func 79) #[] #[.pointer (some ⟨bb, 0, none⟩)]] W fun e w' => ∃ (v : Value) (ss : List (List UInt8)), e = .returned v ∧ ss.Perm (strKeys D0) ∧
      w'.ownsRow W.heap.size 9 1 v ss.length ((ss.mergeSort (fun x y => decide (x ≤ y))).map encStr) ∧ (v = .slice none 0 0 ↔ ss = []) ∧ Below W.heap.size W w' := by
  have hseq : SeqGives Fence.wide 2 Tryz.prog 79 #[.pointer (some ⟨bb, 0, none⟩)] encStr (fun ss => ss.Perm (strKeys D0)) (Maps.size D0) W :=
    AnyZ.keys_gives (ρ := Tryz.keys61_ren) { Tryz.keys61 with } Fence.wide _ trivial rfl (by omega) bb b nn D0 W hB hc hown
  exact callsIn_wide.1 (AnyZ.sorted_in Tryz.sorted60 Fence.wide 5 trivial trivial trivial trivial rfl (by omega) (sorts_at _) (enters_of Tryz.func78 (by kernel_rfl) rfl) 79 #[.pointer (some ⟨bb, 0, none⟩)] trivial (enters_of Tryz.func79 (by kernel_rfl) rfl) _ _ hmax hbytes _ hseq)
theorem own_map {W : World} {F : Fz} {es : MapA} {c b : Nat} {ents : Array MapEntry} (hb : W.heap[b]? = some (.map ents c)) (hs : ents.size = es.length) (hr : ∀ (j : Nat) (p : Nat × DV × DV), es[j]? = some p → ∃ e, ents[j]? = some e ∧ e.born = p.1 ∧ p.2.1.rel W F e.key ∧ p.2.2.rel W F e.val)
    (hW : MW .string es c) (hl : es.length ≤ 1000000) (hk : ∀ e ∈ es, (kstr e.2.1).length ≤ 1000000) {P : Program} {kt : TypeId} (ht : P.underlying kt = some .string) :
    ∃ D0 : DataW Unit, W.ownsMap P kt (fun _ => some (.nil, [])) b es.length D0 ∧ Maps.size D0 = es.length ∧ (strKeys D0).Perm (keysL es) := by
  have hkey : ∀ (j : Nat) (p : Nat × DV × DV), es[j]? = some p → ∃ e, ents[j]? = some e ∧ e.born = p.1 ∧ e.key = .string ⟨(kstr p.2.1).toArray⟩ := fun j p hj => by
    obtain ⟨e, h1, h2, h3, _⟩ := hr j p hj
    have hp := kstr_of (hW.keys p (List.mem_of_getElem? hj))
    rw [hp] at h3
    obtain ⟨bs, h4, h5⟩ := rd_str (show Rd W F e.key (.str (kstr p.2.1)) from h3)
    refine ⟨e, h1, h2, ?_⟩
    rw [h4, ← h5]
  have hlist : ents.toList.map (fun e => (e.born, e.key)) = es.map fun p => (p.1, Value.string ⟨(kstr p.2.1).toArray⟩) := by
    refine List.ext_getElem? fun j => ?_
    rw [List.getElem?_map, List.getElem?_map]
    by_cases hj : j < es.length
    · obtain ⟨e, h1, h2, h3⟩ := hkey j es[j] (List.getElem?_eq_getElem hj)
      have : ents.toList[j]? = some e := by rw [Array.getElem?_toList]; exact h1
      rw [this, List.getElem?_eq_getElem hj]
      simp [h2, h3]
    rw [List.getElem?_eq_none (by simp; omega), List.getElem?_eq_none (by omega)]
    rfl
  have hborn : ents.toList.map (·.born) = es.map (·.1) := by
    have := congrArg (List.map Prod.fst) hlist
    rw [List.map_map, List.map_map] at this
    exact this
  have hkeys : ents.toList.map (·.key) = es.map fun p => Value.string ⟨(kstr p.2.1).toArray⟩ := by
    have := congrArg (List.map Prod.snd) hlist
    rw [List.map_map, List.map_map] at this
    exact this
  have hkd : ∀ x ∈ ents.toList, keyOf P kt x.key = some (.string (strOf ((Go.WideElems.rg P kt (fun _ => some ((.nil : DataW Unit), [])) x).1))) ∧ ∃ p ∈ es, x.key = .string ⟨(kstr p.2.1).toArray⟩ := fun x hx => by
    have hm : x.key ∈ es.map fun p => Value.string ⟨(kstr p.2.1).toArray⟩ := by rw [← hkeys]; exact List.mem_map_of_mem hx
    obtain ⟨p, hp, he⟩ := List.mem_map.1 hm
    have hko : keyOf P kt x.key = some (.string (kstr p.2.1)) := by
      rw [← he, keyOf_string_mk ht (by
        show (kstr p.2.1).toArray.size ≤ maxLen
        have := hk p hp
        simp
        unfold maxLen
        omega)]
    refine ⟨?_, p, hp, he.symm⟩
    rw [hko]
    simp only [Go.WideElems.rg, Go.WideElems.rd, hko, Option.bind_some, Option.map_some, Option.getD_some, strOf]
  refine ⟨.map ((ents.toList.map (Go.WideElems.rg P kt (fun _ => some (.nil, [])))).foldr DataW.insert []), ⟨ents, c, hb, ⟨?_, ⟨fun x hx => ?_, ?_, ?_⟩, fun x hx => ?_⟩, by omega, rfl⟩, ?_, ?_⟩
  · unfold maxLen; omega
  · have hm : x.born ∈ es.map (·.1) := by rw [← hborn]; exact List.mem_map_of_mem hx
    obtain ⟨p, hp, he⟩ := List.mem_map.1 hm
    rw [← he]
    exact hW.lt p hp
  · rw [hborn, List.Nodup, List.pairwise_map]
    exact hW.nd
  · rw [hkeys, List.Nodup, List.pairwise_map]
    refine hW.ks.imp_of_mem fun {p q} hp hq hne e => hne ?_
    rw [kstr_of (hW.keys p hp), kstr_of (hW.keys q hq)]
    simp only [Value.string.injEq, ByteArray.mk.injEq] at e
    rw [show kstr p.2.1 = kstr q.2.1 by simpa using e]
  · exact ⟨_, by simp only [Go.WideElems.rd, (hkd x hx).1, Option.bind_some, Option.map_some]; rfl⟩
  · show (List.foldr DataW.insert [] (ents.toList.map (Go.WideElems.rg P kt (fun _ => some ((.nil : DataW Unit), []))))).length = _
    rw [length_sorted, List.length_map, Array.length_toList, hs]
  show (((ents.toList.map (Go.WideElems.rg P kt (fun _ => some ((.nil : DataW Unit), [])))).foldr DataW.insert []).map fun p => strOf p.1).Perm _
  refine ((sorted_perm _).map _).trans ?_
  rw [List.map_map]
  have : ents.toList.map ((fun p : Lit × DataW Unit => strOf p.1) ∘ Go.WideElems.rg P kt (fun _ => some ((.nil : DataW Unit), []))) = keysL es := by
    have e1 : ents.toList.map ((fun p : Lit × DataW Unit => strOf p.1) ∘ Go.WideElems.rg P kt (fun _ => some ((.nil : DataW Unit), []))) = (ents.toList.map (·.key)).map fun k => match k with | .string s => s.data.toList | _ => [] := by
      rw [List.map_map]
      refine List.map_congr_left fun x hx => ?_
      obtain ⟨h1, p, hp, h2⟩ := hkd x hx
      rw [h2, keyOf_string_mk ht (by
        show (kstr p.2.1).toArray.size ≤ maxLen
        have := hk p hp
        simp
        unfold maxLen
        omega)] at h1
      simp only [Option.some.injEq, Lit.string.injEq] at h1
      simp only [Function.comp_apply, ← h1, h2]
    rw [e1, hkeys, List.map_map]
    unfold keysL
    refine List.map_congr_left fun p _ => ?_
    simp
  rw [this]
noncomputable section
open Classical
def xsorted_k : List AV → Hp → Option COut := kR ksRl fun a => if KsOk a then some (.ret (.v (.c (.d (.sl false ((keysS a.es).map rowS))))) a.h) else none
end
end Go.Ab
namespace Go.Ab
open Go.RowKit Go.Proofs
theorem Wk.backs2 {n : Nat} {t t' : List (Nat × AV)} {h : Hp} (g g' : Hp) (hh : LowH h) (hn : n ≤ h.length + g.length) (hs : subT t t') (hl : (t'.all fun p => p.2.low (h.length + g.length)) = true) (ho : (g.all (Ob.low (h.length + g.length))) = true) : Wk n ⟨t, h ++ (g ++ g')⟩ ⟨t', h ++ g⟩ :=
  Wk.back' (hh.app ho) happ.symm (by rw [List.length_append]; exact hn) hs (by rw [List.length_append]; exact hl)
def mapC : Nat → List Rec → MapA
  | _, [] => []
  | n, x :: r => (n, .c (.str x.key), .c (.int .i64 x.cents)) :: mapC (n + 1) r
theorem mapC_len : ∀ (n : Nat) (O : List Rec), (mapC n O).length = O.length
  | _, [] => rfl
  | n, y :: r => by rw [mapC, List.length_cons, mapC_len, List.length_cons]
theorem mapC_snoc : ∀ {n : Nat} {O : List Rec} {x : Rec}, mapC n (O ++ [x]) = mapC n O ++ [(n + O.length, .c (.str x.key), .c (.int .i64 x.cents))]
  | n, [], x => rfl
  | n, y :: r, x => by
    rw [List.cons_append, mapC, mapC_snoc, mapC, List.cons_append, List.length_cons]
    congr 4
    omega
theorem mapC_mem : ∀ {n : Nat} {O : List Rec} {e : Nat × DV × DV}, e ∈ mapC n O → n ≤ e.1 ∧ e.1 < n + O.length ∧ ∃ x ∈ O, e.2.1 = .c (.str x.key) ∧ e.2.2 = .c (.int .i64 x.cents)
  | n, [], e, h => by simp [mapC] at h
  | n, y :: r, e, h => by
    rw [mapC] at h
    rcases List.mem_cons.1 h with rfl | h
    · exact ⟨Nat.le_refl _, by simp, y, List.mem_cons_self, rfl, rfl⟩
    obtain ⟨h1, h2, x, hx, h3⟩ := mapC_mem h
    exact ⟨by omega, by rw [List.length_cons]; omega, x, List.mem_cons_of_mem _ hx, h3⟩
theorem mapC_keys {n : Nat} {O : List Rec} : KeysD .string (mapC n O) := fun e he => by
  obtain ⟨_, _, x, _, h, _⟩ := mapC_mem he
  rw [h]
  rfl
theorem mapC_mw : ∀ {n : Nat} {O : List Rec}, (O.map Rec.key).Nodup → MW .string (mapC n O) (n + O.length)
  | n, O, hn => by
    refine ⟨mapC_keys, fun e he => (mapC_mem he).2.1, ?_, ?_⟩
    · clear hn
      induction O generalizing n with
      | nil => exact List.Pairwise.nil
      | cons x r ih =>
        rw [mapC, List.pairwise_cons]
        refine ⟨fun e he => ?_, ih (n + 1)⟩
        have := (mapC_mem he).1
        dsimp only
        omega
    induction O generalizing n with
    | nil => exact List.Pairwise.nil
    | cons x r ih =>
      rw [List.map_cons, List.nodup_cons] at hn
      rw [mapC, List.pairwise_cons]
      refine ⟨fun e he => ?_, ih (n + 1) hn.2⟩
      obtain ⟨_, _, y, hy, h3, _⟩ := mapC_mem he
      rw [h3]
      intro h
      have hk : x.key = y.key := by simpa using h
      exact hn.1 (by rw [hk]; exact List.mem_map_of_mem hy)
theorem mapC_put {O : List Rec} {x : Rec} (hn : x.key ∉ O.map Rec.key) : putA (mapC 0 O) O.length (.c (.str x.key)) (.c (.int .i64 x.cents)) = .map (mapC 0 (O ++ [x])) (O.length + 1) := by
  have hf : findA (.c (.str x.key)) (mapC 0 O) = none := by
    cases h : findA (.c (.str x.key)) (mapC 0 O) with
    | none => rfl
    | some i =>
      obtain ⟨e, he, hk⟩ := findA_some rfl mapC_keys h
      obtain ⟨_, _, y, hy, h3, _⟩ := mapC_mem (List.mem_of_getElem? he)
      rw [h3] at hk
      have hk : y.key = x.key := by simpa using hk
      exact absurd (by rw [← hk]; exact List.mem_map_of_mem hy) hn
  unfold putA
  rw [hf, mapC_snoc]
  simp
theorem netR_one (l : List Rec) : ((netR l).map Rec.key).Nodup := by
  rw [← net_sorted]
  exact ((sortK_perm _).map Rec.key).nodup_iff.2 (netU_ok l).one
theorem netR_len (l : List Rec) : (netR l).length ≤ l.length := by
  rw [← net_sorted, (sortK_perm _).length_eq]
  have := netU_len l l.length (Nat.le_refl _)
  rwa [List.take_length] at this
structure AmA where
  h : Hp
  f : Bool
  l : List Rec
def amRl (a : AmA) (args : List AV) (h : Hp) : Prop := args = [.v (.c (.d (.sl a.f (a.l.map Rec.row))))] ∧ h = a.h
theorem amRl_inj {a b : AmA} {args : List AV} {h : Hp} (ha : amRl a args h) (hb : amRl b args h) : b = a := by
  obtain ⟨a1, a2, a3⟩ := a
  obtain ⟨b1, b2, b3⟩ := b
  obtain ⟨h1, h2⟩ := ha
  obtain ⟨g1, g2⟩ := hb
  dsimp only at *
  subst h2 g2
  rw [h1] at g1
  simp only [List.cons.injEq, AV.v.injEq, V.c.injEq, C1.d.injEq, D.sl.injEq, and_true] at g1
  obtain ⟨rfl, g2⟩ := g1
  rw [mapR_inj.1 g2]
def keysA (args : List AV) (h : Hp) : Option COut := match args with
  | [.v (.c (.mp id))] => some (.ret (.v (.c (.fn 79 [(h.length, 0)]))) (h ++ [.box [.mp id]]))
  | _ => none
noncomputable section
open Classical
def xamts_k : List AV → Hp → Option COut := kR amRl fun a => if LowH a.h ∧ a.l.length ≤ 1000000 then some (.ret (.v (.c (.mp a.h.length))) (a.h ++ [.map (mapC 0 (netR a.l)) (netR a.l).length])) else none
def xkeys_k : List AV → Hp → Option COut := keysA
theorem xsorted_kok : ImpC Tryz.prog Gt 60 xsorted_k := by
  intro args h out h0
  obtain ⟨⟨h', bid, mid, es, c⟩, ⟨rfl, rfl, hb, hm⟩, hg⟩ := kR_inv h0
  dsimp only at hb hm hg ⊢
  split at hg
  · rename_i hok
    obtain ⟨hW, hl, hk⟩ := hok
    dsimp only at hW hl hk
    cases hg
    refine fok_of_end (X := ctx Tryz.prog Gt []) Tryz.func60 rfl rfl fun A E vs hG hE hs hrel => ?_
    have h1 := hrel 0 _ rfl
    obtain ⟨us, hv, hul, hu⟩ := h1
    obtain ⟨bb, hat, hub⟩ := hu 0 (bid, 0) rfl
    obtain ⟨u, rfl⟩ := List.length_eq_one_iff.1 hul
    cases hub
    obtain ⟨bb2, vs2, T, g1, g2, g3, _⟩ := hE.ob bid _ hb
    rw [hat.2] at g1
    cases g1
    obtain ⟨u2, hu2, ⟨bm, hatm, rfl⟩, _⟩ := g3.2 0 _ rfl
    obtain ⟨bm2, ents, m1, m2, m3, _, m5⟩ := hE.ob mid _ hm
    rw [hatm.2] at m1
    cases m1
    obtain ⟨D0, d1, d2, d3⟩ := own_map m2 m3 m5 hW hl hk (kt := 9) (show Tryz.prog.underlying 9 = some .string by kernel_rfl)
    have hargs : vs = #[.func (.func 79) #[] #[.pointer (some ⟨bb, 0, none⟩)]] := by
      rw [one_arg hs, hv]
    have hcell : E.w.cell? ⟨bb, 0, none⟩ = some (.map (some bm)) := by
      rw [Array.getElem?_toList] at hu2
      simp only [World.cell?, g2, Option.isSome_none, Bool.false_eq_true, if_false]
      simpa using hu2
    rw [hargs]
    refine (sorted_keys E.w bb bm es.length D0 _ (Array.getElem?_eq_some_iff.1 g2).1 hcell d1 (by rw [d2]; unfold maxLen; omega) (by rw [d2]; omega)).mono ?_
    rintro e w' ⟨v, ss, rfl, hss, hrow, hnil, hbel⟩
    have hL : ss.mergeSort leB = keysS es := mergeSort_of_perm (hss.trans d3)
    have hsl : ss.length = (keysS es).length := by rw [← hL, List.length_mergeSort]
    have st := Stp.fz hE w' hbel.os hbel.tape hbel.output hbel.size hbel.block (fun hD => by rw [hG] at hD; cases hD)
    refine ⟨E.newFz w', h, rfl, st.evo hE, st.fz_ok hE, .inl ⟨v, _, rfl, rfl, ?_⟩⟩
    show Rd w' (E.newFz w').F v (.sl false ((keysS es).map rowS))
    obtain ⟨r1, r2⟩ := hrow
    rcases r2 with ⟨rfl, r3⟩ | ⟨g, cap, cur, rfl, r3, r4, r5, r6, r7, r8⟩
    · have : keysS es = [] := List.eq_nil_of_length_eq_zero (by omega)
      rw [this]
      exact .nil _ _
    have r8 : cur.toList.take (ss.length * 1) = (keysS es).map encStr := by rw [r8, ← hL]
    refine row_rd (z := 1) r4 (by rw [List.length_map]; exact hsl.symm) r5 (fun h => by cases h) (by omega) (fun e he => by obtain ⟨x, _, rfl⟩ := List.mem_map.1 he; rfl) (fun o ho => .inr ⟨r3, (Array.getElem?_eq_some_iff.1 r4).1⟩) (fun i j e y hi hj => ?_) (fun o ho u hu => ?_)
    · rw [List.getElem?_map, Option.map_eq_some_iff] at hi
      obtain ⟨x, hx, rfl⟩ := hi
      have hj0 : j = 0 := by have := lt_of_get hj; simp [rowS] at this; omega
      subst hj0
      cases hj
      have hil := lt_of_get hx
      have := congrArg (fun l => l[i]?) r8
      simp only [List.getElem?_map, hx, Option.map_some] at this
      rw [List.getElem?_take, if_pos (by omega)] at this
      refine ⟨encStr x, by simpa using this, str_rd x⟩
    have hol : o < (keysS es).length := by omega
    have := congrArg (fun l => l[o]?) r8
    simp only [List.getElem?_map, List.getElem?_eq_getElem hol, Option.map_some] at this
    rw [List.getElem?_take, if_pos ho] at this
    rw [Array.getElem?_toList, hu] at this
    cases this
    rfl
  cases hg
theorem xsorted_at {h : Hp} {bid mid c : Nat} {es : MapA} (hb : h[bid]? = some (.box [.mp mid])) (hm : h[mid]? = some (.map es c)) (hW : MW .string es c) (hl : es.length ≤ 1000000) (hk : ∀ e ∈ es, (kstr e.2.1).length ≤ 1000000) :
    xsorted_k [.v (.c (.fn 79 [(bid, 0)]))] h = some (.ret (.v (.c (.d (.sl false ((keysS es).map rowS))))) h) :=
  (kR_eq (R := ksRl) (g := fun a : KsA => if KsOk a then some (COut.ret (.v (.c (.d (.sl false ((keysS a.es).map rowS))))) a.h) else none) (a := ⟨h, bid, mid, es, c⟩) (fun b hb' => by rw [ksRl_inj (a := ⟨_, _, _, _, _⟩) ⟨rfl, rfl, hb, hm⟩ hb']) ⟨rfl, rfl, hb, hm⟩).trans (if_pos ⟨hW, hl, hk⟩)
theorem xkeys_kok : ImpC Tryz.prog Gt 61 xkeys_k := by
  intro args h out h0
  refine fok_of_awpSW (X := ctxN Tryz.prog Gt [] [] [] none) Tryz.func61 rfl rfl (by kernel_rfl) (by kernel_rfl) (kok_n AllOk.nil AllK.nil AllN.nil) ?_ ?_
  · unfold xkeys_k keysA at h0
    split at h0
    · exact Nat.le_of_ble_eq_true rfl
    cases h0
  unfold xkeys_k keysA at h0
  split at h0
  · cases h0
    rename_i id
    have hc := Nat.zero_add 0
    repeat' (first | simp only [hc, AS, Tryz.f61, NX, NPV, NW, SX, HX, ZZ, simprocAttr, ↓reduceIte] | ((first | apply Za | apply Zb | apply Zc | apply Zd | apply Ze | apply Zf | apply Zg | apply Zh) <;> intro hc) | refine Zi ?_ | refine Zj ?_)
    exact ⟨_, Wk.refl, [.c (.fn 79 [(h.length, 0)])], by simp [resAllV, resOneV, S.get, look, AV.one], by simp [resVV]⟩
  cases h0
theorem xkeys_at {h : Hp} {id : Nat} : xkeys_k [.v (.c (.mp id))] h = some (.ret (.v (.c (.fn 79 [(h.length, 0)]))) (h ++ [.box [.mp id]])) := rfl
theorem xamts_kok : ImpC Tryz.prog Gt 59 xamts_k := by
  intro args h out h0
  refine fok_of_awpSW (X := ctxN Tryz.prog Gt [(76, anet_m)] [] [] none) Tryz.func59 rfl rfl (by kernel_rfl) (by kernel_rfl) (kok_n (AllOk.cons anet_ok AllOk.nil) AllK.nil AllN.nil) ?_ ?_
  · obtain ⟨a, ⟨rfl, _⟩, _⟩ := kR_inv h0
    exact Nat.le_of_ble_eq_true rfl
  obtain ⟨⟨h', f, l⟩, ⟨rfl, rfl⟩, hg⟩ := kR_inv h0
  dsimp only at hg ⊢
  split at hg
  · rename_i hc
    obtain ⟨hh, hl⟩ := hc
    cases hg
    have f1 := anet_at (f := f) hl
    have hn1 := netR_one l
    have hnl := netR_len l
    generalize netR l = N at *
    have l1 := @lenRc N
    have hc := Nat.zero_add 0
    repeat' (first | simp only [hc, AS, Tryz.f59, NX, NPV, SX, HX, f1, l1, ZZ, simprocAttr, ↓reduceIte] | ((first | apply Za | apply Zb | apply Zc | apply Zd | apply Ze | apply Zf | apply Zg | apply Zh) <;> intro hc) | refine Zi ?_ | refine Zj ?_)
    refine awpS_loop (σ := Nat) (fun j => j ≤ N.length) (fun j => ⟨[(10, AV.i j), (9, AV.i N.length), (8, AV.d (.sl false (N.map Rec.row))), (3, .v (.c (.mp h.length)))], h ++ [.map (mapC 0 (N.take j)) j]⟩) (fun j => N.length - j) 0 (Wk.sub' (by simp [subT, look]) rfl) (Nat.zero_le _) ?_
    intro j hj
    by_cases hjl : j < N.length
    · have hlt : ((j : Int) < (N.length : Int)) = True := eq_true (by omega)
      have e1 := rc_at hjl
      have hw := wI (n := (j : Int) + 1) (by omega) (by omega)
      have hko : keysOk .string (.c (.str N[j].key)) (mapC 0 (N.take j)) = true := keysOk_of rfl mapC_keys
      have hpu := mapC_put (O := N.take j) (x := N[j]) (by
        have h1 := List.nodup_iff_pairwise_ne.1 hn1 |> List.pairwise_iff_getElem.1
        intro hm
        obtain ⟨y, hy, hk⟩ := List.mem_map.1 hm
        obtain ⟨i, hi, rfl⟩ := List.mem_take_iff_getElem.1 hy
        have := h1 i j (by simp; omega) (by simpa using hjl) (by omega)
        simp only [List.getElem_map] at this
        exact this hk)
      rw [← List.take_succ_eq_append_getElem hjl, List.length_take, Nat.min_eq_left (by omega)] at hpu
      generalize hM : mapC 0 (N.take (j + 1)) = M1 at *
      generalize mapC 0 (N.take j) = M0 at *
      generalize N[j] = x at *
      have hc := Nat.zero_add 0
      repeat' (first | simp only [hc, AS, NX, NPV, MP, SX, HX, l1, hlt, hw, nn, e1, hko, hpu, ZZ, simprocAttr, ↓reduceIte] | ((first | apply Za | apply Zb | apply Zc | apply Zd | apply Ze | apply Zf | apply Zg | apply Zh) <;> intro hc) | refine Zi ?_ | refine Zj ?_)
      refine lp_next (j + 1) ?_ (by omega) (by omega)
      rw [hM]
      exact Wk.backs2 [.map M1 (j + 1)] [_] hh (by simp) (by simp [subT, look]) (by simp [AV.low, V.low, C1.low]) rfl
    have hlt : ((j : Int) < (N.length : Int)) = False := eq_false (by omega)
    rw [List.take_of_length_le (by omega)]
    have hjj : j = N.length := by omega
    subst hjj
    have hc := Nat.zero_add 0
    repeat' (first | simp only [hc, AS, NX, NPV, SX, HX, l1, hlt, ZZ, simprocAttr, ↓reduceIte] | ((first | apply Za | apply Zb | apply Zc | apply Zd | apply Ze | apply Zf | apply Zg | apply Zh) <;> intro hc) | refine Zi ?_ | refine Zj ?_)
    exact ⟨_, Wk.refl, [.c (.mp h.length)], by simp [resAllV, resOneV, S.get, look, AV.one], by simp [resVV]⟩
  cases hg
theorem xamts_at {h : Hp} {f : Bool} {l : List Rec} (hh : LowH h) (hl : l.length ≤ 1000000) : xamts_k [.v (.c (.d (.sl f (l.map Rec.row))))] h = some (.ret (.v (.c (.mp h.length))) (h ++ [.map (mapC 0 (netR l)) (netR l).length])) :=
  (kR_eq (R := amRl) (g := fun a : AmA => if LowH a.h ∧ a.l.length ≤ 1000000 then some (COut.ret (.v (.c (.mp a.h.length))) (a.h ++ [Ob.map (mapC 0 (netR a.l)) (netR a.l).length])) else none) (a := ⟨h, f, l⟩) (fun b hb => by rw [amRl_inj (a := ⟨_, _, _⟩) ⟨rfl, rfl⟩ hb]) ⟨rfl, rfl⟩).trans (if_pos ⟨hh, hl⟩)
end
end Go.Ab
