/-
  Texts of the layer and of the laws, put together: AbS1, AbSh, AbBd.
-/
import Derived.Test.YtbcklcmhmbfgnaaGreatDoorAbF10
import Derived.Test.YtbcklcmhmbfgnaaGreatDoorAbF12
import Derived.Sort.Grow
import Derived.WalkSmall
import Derived.Lib.Split
import Derived.Shelf.Strings.Builder1
import Derived.Shelf.Strings.Builder2
import Derived.Shelf.Strings.OnBuilder
import Derived.Shelf.Small.Bits
import Derived.Shelf.Small.Strs
import Derived.Shelf.Strings.BuilderF
import Derived.Shelf.Strings.BuilderK
import Derived.Shelf.Utf8.RuneCount
import Derived.Shelf.Strings.Builder2Cap
import Derived.Shelf.Strconv.Itoa0
import Derived.Shelf.Strconv.Itoa1
import Derived.Shelf.LaysM
import Derived.Shelf.Strconv.Itoa2
import Derived.Shelf.Strconv.Itoa3
import Derived.Shelf.Strings.Search1
import Derived.Shelf.Strings.Search2
import Derived.Shelf.Strings.Search3
import Derived.Shelf.Strings.Cut
import Derived.Shelf.Strings.Count
import Derived.Shelf.Strings.Shaped
import Derived.Shelf.Sort.Plain
import Derived.Shelf.Strings.Prefix
import Derived.Shelf.Strings.Split
import Derived.Shelf.Strings.SplitShaped
import Derived.Shelf.Unicode.Decode
import Derived.Shelf.Strings.RuneCount
import Derived.Shelf.Strings.Explode
import Derived.Shelf.Unicode.DecodeSlow
import Derived.Shelf.Unicode.DecodeAny
import Derived.Shelf.Strings.BuilderCap
import Derived.Shelf.Slices.Turned
import Derived.Shelf.Slices.In.SortNone
import Derived.Test.YtbcklcmhmbfgnaaGreatDoorProg
import Derived.Test.YtbcklcmhmbfgnaaGreatDoorAbF11
import Derived.Test.YtbcklcmhmbfgnaaGreatDoorAbF13
set_option linter.unusedSimpArgs false
set_option linter.unusedVariables false
set_option maxRecDepth 100000
namespace Go.Ab
open Go.RowKit
theorem rd_str {w : World} {F : Fz} {v : Value} {s : List UInt8} (h : Rd w F v (.str s)) : ∃ b : ByteArray, v = .string b ∧ b.data.toList = s := by
  cases h
  exact ⟨_, rfl, rfl⟩
theorem rd_int {w : World} {F : Fz} {v : Value} {k : IntKind} {n : Int} (h : Rd w F v (.int k n)) : v = .int k n := by
  cases h; rfl
theorem str_rd {w : World} {F : Fz} (l : List UInt8) : Rd w F (.string ⟨l.toArray⟩) (.str l) := by
  have := Rd.str (w := w) (F := F) ⟨l.toArray⟩
  simpa using this
theorem two_args {vs : Array Value} (h : vs.size = 2) : vs = #[vs.getD 0 undef, vs.getD 1 undef] := by
  apply Array.ext
  · simpa using h
  intro i h1 h2
  match i, h2 with
  | 0, _ => simp [Array.getD, h]
  | 1, _ => simp [Array.getD, h]
theorem one_arg {vs : Array Value} (h : vs.size = 1) : vs = #[vs.getD 0 undef] := by
  apply Array.ext
  · simpa using h
  intro i h1 h2
  match i, h2 with
  | 0, _ => simp [Array.getD, h]
abbrev EntersA (P : Program) (f : FuncId) : Prop := ∀ (vs : Array Value) (w : World), (callFunc f vs).run P w = .ok (.enter f vs) w
section
variable {P : Program} {G : Gl} {f : FuncId}
theorem pure_ss_s (he : EntersA P f) (c : List UInt8 → List UInt8 → Bool) (g : List UInt8 → List UInt8 → List UInt8)
    (h : ∀ (s p : ByteArray) (w : World), c s.data.toList p.data.toList = true → Calls P f #[.string s, .string p] w fun e w' => e = .returned (.string ⟨(g s.data.toList p.data.toList).toArray⟩) ∧ w' = w) :
    PureC P G f (mss fun a b => if c a b = true then some [.c (.str (g a b))] else none) := by
  refine ⟨he, fun w F vs args r hlt hG hvs hrel hm => ?_⟩
  obtain ⟨a, b, rfl, hg⟩ := mss_inv hm
  split at hg
  · rename_i hc
    cases hg
    obtain ⟨s, h1, rfl⟩ := rd_str (hrel 0 _ rfl)
    obtain ⟨p, h2, rfl⟩ := rd_str (hrel 1 _ rfl)
    rw [two_args hvs, h1, h2]
    refine (h s p w hc).mono fun e w' ⟨he, hw⟩ => ?_
    subst hw
    exact ⟨_, he, str_rd _, Below.refl _ _, fun _ => Nat.le_refl _⟩
  cases hg
theorem below_grow (w : World) (n : Nat) (os : Array Obj) : Below w.heap.size w (Sort.grow (w.drewN n) os) :=
  ⟨rfl, rfl, rfl, by show w.heap.size ≤ (w.heap ++ os).size; rw [Array.size_append]; omega, fun _ hj => Sort.heap_grow_old (w.drewN n) os hj⟩
theorem pure_i_s (he : EntersA P f) (g : Int → List UInt8) (c : Int → Bool)
    (h : ∀ (n : Int) (w : World), G.inv w → c n = true → Calls P f #[.int .i64 n] w fun e w' => e = .returned (.string ⟨(g n).toArray⟩) ∧ Below w.heap.size w w') (hdr : G.dr = false := by rfl) :
    PureC P G f (m1 fun n => if c n = true then some [.c (.str (g n))] else none) := by
  refine ⟨he, fun w F vs args r hlt hG hvs hrel hm => ?_⟩
  obtain ⟨a, rfl, hg⟩ := m1_inv hm
  split at hg
  · rename_i hc
    cases hg
    have h2 := rd_int (hrel 0 _ rfl)
    rw [one_arg hvs, h2]
    refine (h a w hG.2 hc).mono fun e w' ⟨he, hw⟩ => ?_
    exact ⟨_, he, str_rd _, hw, fun h => by rw [hdr] at h; cases h⟩
  cases hg
theorem pure_split (he : EntersA P f) (c : List UInt8 → List UInt8 → Bool) (g : List UInt8 → List UInt8 → List (List UInt8))
    (h : ∀ (s p : ByteArray) (w : World), G.inv w → c s.data.toList p.data.toList = true → Calls P f #[.string s, .string p] w fun e w' =>
      ∃ (ps : List ByteArray) (T : TypeId), ps.map (·.data.toList) = g s.data.toList p.data.toList ∧ e = .returned (.slice (some ⟨w.heap.size, 0, none⟩) ps.length ps.length) ∧ w' = w.alloc (.cells (ps.map Value.string).toArray T)) :
    PureC P G f (mss fun a b => if c a b = true then some [.c (.sl true ((g a b).map rowS))] else none) := by
  refine ⟨he, fun w F vs args r hlt hG hvs hrel hm => ?_⟩
  obtain ⟨a, b, rfl, hg⟩ := mss_inv hm
  split at hg
  · rename_i hc
    cases hg
    obtain ⟨s, h1, rfl⟩ := rd_str (hrel 0 _ rfl)
    obtain ⟨p, h2, rfl⟩ := rd_str (hrel 1 _ rfl)
    rw [two_args hvs, h1, h2]
    refine (h s p w hG.2 hc).mono fun e w' ⟨ps, T, hps, he, hw⟩ => ?_
    subst hw
    have hb : (w.alloc (.cells (ps.map Value.string).toArray T)).heap[w.heap.size]? = some (.cells (ps.map Value.string).toArray T) := by
      show (w.heap.push _)[w.heap.size]? = _
      simp
    refine ⟨_, he, ?_, (Below.refl _ _).alloc (Nat.le_refl _) _, fun _ => Nat.le_refl _⟩
    have hcell : ∀ i x, ps[i]? = some x → (w.alloc (.cells (ps.map Value.string).toArray T)).cell? ⟨w.heap.size, i, none⟩ = some (.string x) := fun i x hx => by
      simp only [World.cell?, hb, Option.isSome_none, Bool.false_eq_true, if_false]
      simp [hx]
    show Rd _ _ _ (.sl true ((g s.data.toList p.data.toList).map rowS))
    rw [← hps]
    refine .sl w.heap.size 0 ps.length ps.length 1 true _ (fun i j => .string (ps.getD i ByteArray.empty)) (by simp) (Nat.le_refl _) (fun _ => rfl) (fun e he => ?_) (fun i j hi hj => .inr ⟨Nat.le_refl _, ?_⟩) (fun i j hi hj => ?_) (fun i j _ _ => rfl) (fun i j e y hi hj => ?_)
    · simp only [List.map_map, List.mem_map] at he
      obtain ⟨x, _, rfl⟩ := he
      rfl
    · show w.heap.size < (w.heap.push _).size
      simp
    · have : j = 0 := by omega
      subst this
      have hx : ps[i]? = some ps[i] := List.getElem?_eq_getElem hi
      have := hcell i _ hx
      simp [List.getD_eq_getElem?_getD, hx]
    simp only [List.map_map, List.getElem?_map, Option.map_eq_some_iff] at hi
    obtain ⟨x, hx, rfl⟩ := hi
    cases j with
    | zero =>
      simp [rowS] at hj
      subst hj
      rw [List.getD_eq_getElem?_getD, hx]
      exact .str x
    | succ j => simp [rowS] at hj
  cases hg
theorem pure_join (he : EntersA P f) (g : List (List UInt8) → List UInt8 → List UInt8) (c : List (List UInt8) → List UInt8 → Bool)
    (h0 : ∀ (a : Option Addr) (cap : Nat) (p : ByteArray) (w : World), c [] p.data.toList = true → Calls P f #[.slice a 0 cap, .string p] w fun e w' => e = .returned (.string ⟨(g [] p.data.toList).toArray⟩) ∧ Below w.heap.size w w')
    (h : ∀ (b o cap : Nat) (xs : List ByteArray) (p : ByteArray) (w : World), c (xs.map (·.data.toList)) p.data.toList = true → (∀ (j : Nat) x, xs[j]? = some x → w.cell? ⟨b, o + j, none⟩ = some (.string x)) → b < w.heap.size → xs.length ≤ cap →
      Calls P f #[.slice (some ⟨b, o, none⟩) xs.length cap, .string p] w fun e w' => e = .returned (.string ⟨(g (xs.map (·.data.toList)) p.data.toList).toArray⟩) ∧ Below w.heap.size w w') (hdr : G.dr = false := by rfl) :
    PureC P G f (mls fun l p => if c l p = true then some [.c (.str (g l p))] else none) := by
  refine ⟨he, fun w F vs args r hlt hG hvs hrel hm => ?_⟩
  obtain ⟨fl, l, b, rfl, hg⟩ := mls_inv hm
  split at hg
  · rename_i hc
    cases hg
    have hs : Rd w F (vs.getD 0 undef) (.sl fl (l.map rowS)) := hrel 0 _ rfl
    obtain ⟨p, h2, rfl⟩ := rd_str (hrel 1 _ rfl)
    rw [two_args hvs, h2]
    rcases sl_cases hs with ⟨base, h1, hl⟩ | ⟨bk, o, cap, size, vals, h1, hcap, hfull, hsize, hF, hcl, h1', hr⟩
    · have : l = [] := by simpa using hl
      subst this
      rw [h1]
      refine (h0 base 0 p w hc).mono fun e w' ⟨he, hw⟩ => ⟨_, he, str_rd _, hw, fun h => by rw [hdr] at h; cases h⟩
    rw [h1]
    by_cases hln : l = []
    · subst hln
      refine (h0 _ cap p w hc).mono fun e w' ⟨he, hw⟩ => ⟨_, he, str_rd _, hw, fun h => by rw [hdr] at h; cases h⟩
    simp only [List.length_map] at hcap hF hcl h1' hr ⊢
    have hpos : 0 < l.length := List.length_pos_iff.2 hln
    have hs1 : size = 1 := by
      rw [← hsize (rowS l[0]) (List.mem_map_of_mem (List.getElem_mem _))]; rfl
    subst hs1
    have hall : ∀ i, ∃ x : ByteArray, i < l.length → vals i 0 = .string x ∧ l[i]? = some x.data.toList := fun i => by
      by_cases hi : i < l.length
      · obtain ⟨x, h3, h4⟩ := rd_str (hr i 0 (rowS l[i]) (.str l[i]) (by simp [hi]) rfl)
        exact ⟨x, fun _ => ⟨h3, by rw [h4]; exact List.getElem?_eq_getElem hi⟩⟩
      exact ⟨ByteArray.empty, fun h => absurd h hi⟩
    obtain ⟨q, hq⟩ := Classical.axiomOfChoice hall
    let xs : List ByteArray := (List.range l.length).map q
    have hxl : xs.length = l.length := by simp [xs]
    have hxd : xs.map (·.data.toList) = l := by
      apply List.ext_getElem?
      intro i
      by_cases hi : i < l.length
      · have := (hq i hi).2
        rw [this]
        simp [xs, hi]
      rw [List.getElem?_eq_none (by simp [xs]; omega), List.getElem?_eq_none (by omega)]
    have hcells : ∀ (j : Nat) x, xs[j]? = some x → w.cell? ⟨bk, o + j, none⟩ = some (.string x) := fun j x hj => by
      have hjl := lt_of_get hj
      rw [hxl] at hjl
      have hx : x = q j := by simp [xs, hjl] at hj; exact hj.symm
      rw [hx, ← (hq j hjl).1]
      have := hcl j 0 hjl (by omega)
      simpa using this
    have hb : bk < w.heap.size := hlt _ _ (hF 0 0 hpos (by omega))
    have := h bk o cap xs p w (by rw [hxd]; exact hc) hcells hb (by omega)
    rw [hxl, hxd] at this
    exact this.mono fun e w' ⟨he, hw⟩ => ⟨_, he, str_rd _, hw, fun h => by rw [hdr] at h; cases h⟩
  cases hg
end
end Go.Ab
namespace Go.Proofs
open Go.Shelf
def Tryz.lays170_ren : Go.Shelf.Ren := ⟨fun | 170 => 29 | n => n, fun | 70 => 61 | 3 => 3 | 0 => 0 | 72 => 64 | 37 => 62 | 5 => 5 | n => n, fun | n => n⟩
theorem Tryz.lays170 : Go.Proofs.Lays.n170 Tryz.prog Tryz.lays170_ren := {
  mixed := by kernel_rfl
  f170 := Tryz.func29.trans (congrArg some (by kernel_rfl))
  t0 := Tryz.underlying0
  a0 := Tryz.isAgg0
  z0 := Tryz.sizeOf0
  v0 := Tryz.zeroValue0
  t3 := Tryz.underlying3
  a3 := Tryz.isAgg3
  z3 := Tryz.sizeOf3
  v3 := Tryz.zeroValue3
  t37 := Tryz.underlying62
  a37 := Tryz.isAgg62
  z37 := Tryz.sizeOf62
  v37 := Tryz.zeroValue62
  t70 := Tryz.underlying61
  a70 := Tryz.isAgg61
  z70 := Tryz.sizeOf61
  v70 := Tryz.zeroValue61
  t72 := Tryz.underlying64
  a72 := Tryz.isAgg64
  z72 := Tryz.sizeOf64
  v72 := Tryz.zeroValue64 }
def Tryz.lays156_ren : Go.Shelf.Ren := ⟨fun | 156 => 46 | 165 => 67 | 166 => 23 | 169 => 30 | 240 => 45 | 241 => 81 | 276 => 66 | 277 => 100 | n => n, fun | 31 => 71 | 9 => 9 | 3 => 3 | 4 => 4 | 0 => 0 | 20 => 20 | 72 => 64 | 76 => 67 | 70 => 61 | 37 => 62 | 75 => 66 | 127 => 101 | 164 => 124 | 5 => 5 | 80 => 75 | n => n, fun | n => n⟩
theorem Tryz.lays156 : Go.Proofs.Lays.n156 Tryz.prog Tryz.lays156_ren := {
  mixed := by kernel_rfl
  f156 := Tryz.func46.trans (congrArg some (by kernel_rfl))
  f165 := Tryz.func67.trans (congrArg some (by kernel_rfl))
  f166 := Tryz.func23.trans (congrArg some (by kernel_rfl))
  f169 := Tryz.func30.trans (congrArg some (by kernel_rfl))
  f240 := Tryz.func45.trans (congrArg some (by kernel_rfl))
  f241 := Tryz.func81.trans (congrArg some (by kernel_rfl))
  f276 := Tryz.func66.trans (congrArg some (by kernel_rfl))
  f277 := Tryz.func100.trans (congrArg some (by kernel_rfl))
  t0 := Tryz.underlying0
  a0 := Tryz.isAgg0
  z0 := Tryz.sizeOf0
  v0 := Tryz.zeroValue0
  t3 := Tryz.underlying3
  a3 := Tryz.isAgg3
  z3 := Tryz.sizeOf3
  v3 := Tryz.zeroValue3
  t4 := Tryz.underlying4
  a4 := Tryz.isAgg4
  z4 := Tryz.sizeOf4
  v4 := Tryz.zeroValue4
  t9 := Tryz.underlying9
  a9 := Tryz.isAgg9
  z9 := Tryz.sizeOf9
  v9 := Tryz.zeroValue9
  t20 := Tryz.underlying20
  a20 := Tryz.isAgg20
  z20 := Tryz.sizeOf20
  v20 := Tryz.zeroValue20
  t31 := Tryz.underlying71
  a31 := Tryz.isAgg71
  z31 := Tryz.sizeOf71
  v31 := Tryz.zeroValue71
  t37 := Tryz.underlying62
  a37 := Tryz.isAgg62
  z37 := Tryz.sizeOf62
  v37 := Tryz.zeroValue62
  t70 := Tryz.underlying61
  a70 := Tryz.isAgg61
  z70 := Tryz.sizeOf61
  v70 := Tryz.zeroValue61
  t72 := Tryz.underlying64
  a72 := Tryz.isAgg64
  z72 := Tryz.sizeOf64
  v72 := Tryz.zeroValue64
  t75 := Tryz.underlying66
  a75 := Tryz.isAgg66
  z75 := Tryz.sizeOf66
  v75 := Tryz.zeroValue66
  t76 := Tryz.underlying67
  a76 := Tryz.isAgg67
  z76 := Tryz.sizeOf67
  v76 := Tryz.zeroValue67
  t127 := Tryz.underlying101
  a127 := Tryz.isAgg101
  z127 := Tryz.sizeOf101
  v127 := Tryz.zeroValue101
  t164 := Tryz.underlying124
  a164 := Tryz.isAgg124
  z164 := Tryz.sizeOf124
  v164 := Tryz.zeroValue124 }
theorem Tryz.Builder_Extra_156 : Builder.Extra Tryz.prog Tryz.lays156_ren := {
  sizeBuilder := by kernel_rfl
  liesBuilder := by kernel_rfl
  t5 := Tryz.underlying5
  a5 := Tryz.isAgg5
  z5 := Tryz.sizeOf5
  v5 := Tryz.zeroValue5
  infoByte := by kernel_rfl
  cellsByte := by kernel_rfl
  sizeByte := by kernel_rfl
  neB5 := by decide }
def Tryz.lays106_ren : Go.Shelf.Ren := ⟨fun | 106 => 96 | 213 => 113 | 265 => 138 | n => n, fun | 9 => 9 | 3 => 3 | n => n, fun | n => n⟩
theorem Tryz.lays106 : Go.Proofs.Lays.n106 Tryz.prog Tryz.lays106_ren := {
  mixed := by kernel_rfl
  f106 := Tryz.func96.trans (congrArg some (by kernel_rfl))
  f213 := Tryz.func113.trans (congrArg some (by kernel_rfl))
  f265 := Tryz.func138.trans (congrArg some (by kernel_rfl))
  t3 := Tryz.underlying3
  a3 := Tryz.isAgg3
  z3 := Tryz.sizeOf3
  v3 := Tryz.zeroValue3
  t9 := Tryz.underlying9
  a9 := Tryz.isAgg9
  z9 := Tryz.sizeOf9
  v9 := Tryz.zeroValue9 }
open Go.RowKit in
theorem Tryz.strings_Compare (a b : ByteArray) (w : World) :
    Calls Tryz.prog 96 #[.string a, .string b] w fun e w' => e = .returned (.int .i64 (Lib.compareBytes a.data.toList b.data.toList)) ∧ w' = w := Any.strings_Compare Tryz.lays106 a b w
def Tryz.laysM246_ren : Go.Shelf.Ren := ⟨fun | 246 => 82 | 283 => 83 | 284 => 84 | 285 => 85 | 286 => 86 | 129 => 102 | 317 => 101 | 318 => 103 | 319 => 104 | 320 => 105 | 337 => 124 | 338 => 125 | n => n, fun | 2 => 2 | 3 => 3 | 9 => 9 | 4 => 4 | 171 => 134 | 0 => 0 | 53 => 98 | 37 => 62 | 5 => 5 | 173 => 137 | 212 => 153 | 51 => 154 | 20 => 20 | 213 => 155 | 46 => 141 | 232 => 182 | 233 => 183 | n => n, fun | 17 => 2 | 18 => 3 | 19 => 4 | n => n⟩
theorem Tryz.laysM246 : Go.Proofs.LaysM.n246 Tryz.prog Tryz.laysM246_ren := {
  mixed := by kernel_rfl
  f129 := Tryz.func102.trans (congrArg some (by kernel_rfl))
  f246 := Tryz.func82.trans (congrArg some (by kernel_rfl))
  f283 := Tryz.func83.trans (congrArg some (by kernel_rfl))
  f284 := Tryz.func84.trans (congrArg some (by kernel_rfl))
  f285 := Tryz.func85.trans (congrArg some (by kernel_rfl))
  f286 := Tryz.func86.trans (congrArg some (by kernel_rfl))
  f317 := Tryz.func101.trans (congrArg some (by kernel_rfl))
  f318 := Tryz.func103.trans (congrArg some (by kernel_rfl))
  f319 := Tryz.func104.trans (congrArg some (by kernel_rfl))
  f320 := Tryz.func105.trans (congrArg some (by kernel_rfl))
  f337 := Tryz.func124.trans (congrArg some (by kernel_rfl))
  f338 := Tryz.func125.trans (congrArg some (by kernel_rfl))
  t0 := Tryz.underlying0
  a0 := Tryz.isAgg0
  z0 := Tryz.sizeOf0
  v0 := Tryz.zeroValue0
  t2 := Tryz.underlying2
  a2 := Tryz.isAgg2
  z2 := Tryz.sizeOf2
  v2 := Tryz.zeroValue2
  t3 := Tryz.underlying3
  a3 := Tryz.isAgg3
  z3 := Tryz.sizeOf3
  v3 := Tryz.zeroValue3
  t4 := Tryz.underlying4
  a4 := Tryz.isAgg4
  z4 := Tryz.sizeOf4
  v4 := Tryz.zeroValue4
  t5 := Tryz.underlying5
  a5 := Tryz.isAgg5
  z5 := Tryz.sizeOf5
  v5 := Tryz.zeroValue5
  t9 := Tryz.underlying9
  a9 := Tryz.isAgg9
  z9 := Tryz.sizeOf9
  v9 := Tryz.zeroValue9
  t20 := Tryz.underlying20
  a20 := Tryz.isAgg20
  z20 := Tryz.sizeOf20
  v20 := Tryz.zeroValue20
  t37 := Tryz.underlying62
  a37 := Tryz.isAgg62
  z37 := Tryz.sizeOf62
  v37 := Tryz.zeroValue62
  t46 := Tryz.underlying141
  a46 := Tryz.isAgg141
  z46 := Tryz.sizeOf141
  v46 := Tryz.zeroValue141
  t51 := Tryz.underlying154
  a51 := Tryz.isAgg154
  z51 := Tryz.sizeOf154
  v51 := Tryz.zeroValue154
  t53 := Tryz.underlying98
  a53 := Tryz.isAgg98
  z53 := Tryz.sizeOf98
  v53 := Tryz.zeroValue98
  t171 := Tryz.underlying134
  a171 := Tryz.isAgg134
  z171 := Tryz.sizeOf134
  v171 := Tryz.zeroValue134
  t173 := Tryz.underlying137
  a173 := Tryz.isAgg137
  z173 := Tryz.sizeOf137
  v173 := Tryz.zeroValue137
  t212 := Tryz.underlying153
  a212 := Tryz.isAgg153
  z212 := Tryz.sizeOf153
  v212 := Tryz.zeroValue153
  t213 := Tryz.underlying155
  a213 := Tryz.isAgg155
  z213 := Tryz.sizeOf155
  t232 := Tryz.underlying182
  a232 := Tryz.isAgg182
  z232 := Tryz.sizeOf182
  v232 := Tryz.zeroValue182
  t233 := Tryz.underlying183
  a233 := Tryz.isAgg183
  z233 := Tryz.sizeOf183
  v233 := Tryz.zeroValue183
  g17 := by kernel_rfl
  g18 := by kernel_rfl
  g19 := by kernel_rfl
  i0 := by kernel_rfl
  i2 := by kernel_rfl
  i3 := by kernel_rfl
  i4 := by kernel_rfl
  i5 := by kernel_rfl
  i9 := by kernel_rfl
  i20 := by kernel_rfl
  i37 := by kernel_rfl
  i46 := by kernel_rfl
  i51 := by kernel_rfl
  i53 := by kernel_rfl
  i171 := by kernel_rfl
  i173 := by kernel_rfl
  i212 := by kernel_rfl
  i232 := by kernel_rfl
  i233 := by kernel_rfl
  m17 := by kernel_rfl
  m18 := by kernel_rfl
  m19 := by kernel_rfl }
def Tryz.laysM171_ren : Go.Shelf.Ren := ⟨fun | 171 => 47 | 243 => 68 | 246 => 82 | 283 => 83 | 284 => 84 | 285 => 85 | 286 => 86 | 129 => 102 | 317 => 101 | 318 => 103 | 319 => 104 | 320 => 105 | 337 => 124 | 338 => 125 | n => n, fun | 3 => 3 | 9 => 9 | 2 => 2 | 4 => 4 | 171 => 134 | 0 => 0 | 53 => 98 | 37 => 62 | 5 => 5 | 173 => 137 | 212 => 153 | 51 => 154 | 20 => 20 | 213 => 155 | 46 => 141 | 232 => 182 | 233 => 183 | n => n, fun | 17 => 2 | 18 => 3 | 19 => 4 | n => n⟩
theorem Tryz.laysM171 : Go.Proofs.LaysM.n171 Tryz.prog Tryz.laysM171_ren := {
  mixed := by kernel_rfl
  f129 := Tryz.func102.trans (congrArg some (by kernel_rfl))
  f171 := Tryz.func47.trans (congrArg some (by kernel_rfl))
  f243 := Tryz.func68.trans (congrArg some (by kernel_rfl))
  f246 := Tryz.func82.trans (congrArg some (by kernel_rfl))
  f283 := Tryz.func83.trans (congrArg some (by kernel_rfl))
  f284 := Tryz.func84.trans (congrArg some (by kernel_rfl))
  f285 := Tryz.func85.trans (congrArg some (by kernel_rfl))
  f286 := Tryz.func86.trans (congrArg some (by kernel_rfl))
  f317 := Tryz.func101.trans (congrArg some (by kernel_rfl))
  f318 := Tryz.func103.trans (congrArg some (by kernel_rfl))
  f319 := Tryz.func104.trans (congrArg some (by kernel_rfl))
  f320 := Tryz.func105.trans (congrArg some (by kernel_rfl))
  f337 := Tryz.func124.trans (congrArg some (by kernel_rfl))
  f338 := Tryz.func125.trans (congrArg some (by kernel_rfl))
  t0 := Tryz.underlying0
  a0 := Tryz.isAgg0
  z0 := Tryz.sizeOf0
  v0 := Tryz.zeroValue0
  t2 := Tryz.underlying2
  a2 := Tryz.isAgg2
  z2 := Tryz.sizeOf2
  v2 := Tryz.zeroValue2
  t3 := Tryz.underlying3
  a3 := Tryz.isAgg3
  z3 := Tryz.sizeOf3
  v3 := Tryz.zeroValue3
  t4 := Tryz.underlying4
  a4 := Tryz.isAgg4
  z4 := Tryz.sizeOf4
  v4 := Tryz.zeroValue4
  t5 := Tryz.underlying5
  a5 := Tryz.isAgg5
  z5 := Tryz.sizeOf5
  v5 := Tryz.zeroValue5
  t9 := Tryz.underlying9
  a9 := Tryz.isAgg9
  z9 := Tryz.sizeOf9
  v9 := Tryz.zeroValue9
  t20 := Tryz.underlying20
  a20 := Tryz.isAgg20
  z20 := Tryz.sizeOf20
  v20 := Tryz.zeroValue20
  t37 := Tryz.underlying62
  a37 := Tryz.isAgg62
  z37 := Tryz.sizeOf62
  v37 := Tryz.zeroValue62
  t46 := Tryz.underlying141
  a46 := Tryz.isAgg141
  z46 := Tryz.sizeOf141
  v46 := Tryz.zeroValue141
  t51 := Tryz.underlying154
  a51 := Tryz.isAgg154
  z51 := Tryz.sizeOf154
  v51 := Tryz.zeroValue154
  t53 := Tryz.underlying98
  a53 := Tryz.isAgg98
  z53 := Tryz.sizeOf98
  v53 := Tryz.zeroValue98
  t171 := Tryz.underlying134
  a171 := Tryz.isAgg134
  z171 := Tryz.sizeOf134
  v171 := Tryz.zeroValue134
  t173 := Tryz.underlying137
  a173 := Tryz.isAgg137
  z173 := Tryz.sizeOf137
  v173 := Tryz.zeroValue137
  t212 := Tryz.underlying153
  a212 := Tryz.isAgg153
  z212 := Tryz.sizeOf153
  v212 := Tryz.zeroValue153
  t213 := Tryz.underlying155
  a213 := Tryz.isAgg155
  z213 := Tryz.sizeOf155
  t232 := Tryz.underlying182
  a232 := Tryz.isAgg182
  z232 := Tryz.sizeOf182
  v232 := Tryz.zeroValue182
  t233 := Tryz.underlying183
  a233 := Tryz.isAgg183
  z233 := Tryz.sizeOf183
  v233 := Tryz.zeroValue183
  g17 := by kernel_rfl
  g18 := by kernel_rfl
  g19 := by kernel_rfl
  i0 := by kernel_rfl
  i2 := by kernel_rfl
  i3 := by kernel_rfl
  i4 := by kernel_rfl
  i5 := by kernel_rfl
  i9 := by kernel_rfl
  i20 := by kernel_rfl
  i37 := by kernel_rfl
  i46 := by kernel_rfl
  i51 := by kernel_rfl
  i53 := by kernel_rfl
  i171 := by kernel_rfl
  i173 := by kernel_rfl
  i212 := by kernel_rfl
  i232 := by kernel_rfl
  i233 := by kernel_rfl
  m17 := by kernel_rfl
  m18 := by kernel_rfl
  m19 := by kernel_rfl }
def Tryz.laysM145_ren : Go.Shelf.Ren := ⟨fun | 145 => 31 | 220 => 51 | 219 => 71 | 217 => 87 | 225 => 88 | 224 => 89 | 267 => 90 | 266 => 106 | 314 => 107 | n => n, fun | 9 => 9 | 4 => 4 | 59 => 79 | 3 => 3 | 5 => 5 | 46 => 141 | 146 => 156 | 51 => 154 | n => n, fun | 1 => 1 | n => n⟩
theorem Tryz.laysM145 : Go.Proofs.LaysM.n145 Tryz.prog Tryz.laysM145_ren := {
  mixed := by kernel_rfl
  f145 := Tryz.func31.trans (congrArg some (by kernel_rfl))
  f217 := Tryz.func87.trans (congrArg some (by kernel_rfl))
  f219 := Tryz.func71.trans (congrArg some (by kernel_rfl))
  f220 := Tryz.func51.trans (congrArg some (by kernel_rfl))
  f224 := Tryz.func89.trans (congrArg some (by kernel_rfl))
  f225 := Tryz.func88.trans (congrArg some (by kernel_rfl))
  f266 := Tryz.func106.trans (congrArg some (by kernel_rfl))
  f267 := Tryz.func90.trans (congrArg some (by kernel_rfl))
  f314 := Tryz.func107.trans (congrArg some (by kernel_rfl))
  t3 := Tryz.underlying3
  a3 := Tryz.isAgg3
  z3 := Tryz.sizeOf3
  v3 := Tryz.zeroValue3
  t4 := Tryz.underlying4
  a4 := Tryz.isAgg4
  z4 := Tryz.sizeOf4
  v4 := Tryz.zeroValue4
  t5 := Tryz.underlying5
  a5 := Tryz.isAgg5
  z5 := Tryz.sizeOf5
  v5 := Tryz.zeroValue5
  t9 := Tryz.underlying9
  a9 := Tryz.isAgg9
  z9 := Tryz.sizeOf9
  v9 := Tryz.zeroValue9
  t46 := Tryz.underlying141
  a46 := Tryz.isAgg141
  z46 := Tryz.sizeOf141
  v46 := Tryz.zeroValue141
  t51 := Tryz.underlying154
  a51 := Tryz.isAgg154
  z51 := Tryz.sizeOf154
  v51 := Tryz.zeroValue154
  t59 := Tryz.underlying79
  a59 := Tryz.isAgg79
  z59 := Tryz.sizeOf79
  v59 := Tryz.zeroValue79
  t146 := Tryz.underlying156
  a146 := Tryz.isAgg156
  z146 := Tryz.sizeOf156
  v146 := Tryz.zeroValue156
  g1 := by kernel_rfl
  i3 := by kernel_rfl
  i4 := by kernel_rfl
  i5 := by kernel_rfl
  i9 := by kernel_rfl
  i46 := by kernel_rfl
  i51 := by kernel_rfl
  i59 := by kernel_rfl
  i146 := by kernel_rfl
  m1 := by kernel_rfl
  s1_3 := fun w h => Go.Proofs.cell_of_shapedOpen_int (zero := #[.int .i64 0]) (t := 3) h (of_decide_eq_true (by kernel_rfl)) (by kernel_rfl) rfl (by kernel_rfl) (by kernel_rfl) Tryz.underlying3 }
def Tryz.lays101_ren : Go.Shelf.Ren := ⟨fun | 101 => 92 | 208 => 111 | 206 => 129 | n => n, fun | 9 => 9 | 4 => 4 | 3 => 3 | n => n, fun | n => n⟩
theorem Tryz.lays101 : Go.Proofs.Lays.n101 Tryz.prog Tryz.lays101_ren := {
  mixed := by kernel_rfl
  f101 := Tryz.func92.trans (congrArg some (by kernel_rfl))
  f206 := Tryz.func129.trans (congrArg some (by kernel_rfl))
  f208 := Tryz.func111.trans (congrArg some (by kernel_rfl))
  t3 := Tryz.underlying3
  a3 := Tryz.isAgg3
  z3 := Tryz.sizeOf3
  v3 := Tryz.zeroValue3
  t4 := Tryz.underlying4
  a4 := Tryz.isAgg4
  z4 := Tryz.sizeOf4
  v4 := Tryz.zeroValue4
  t9 := Tryz.underlying9
  a9 := Tryz.isAgg9
  z9 := Tryz.sizeOf9
  v9 := Tryz.zeroValue9 }
def Tryz.laysM146_ren : Go.Shelf.Ren := ⟨fun | 146 => 72 | 221 => 91 | 268 => 108 | 138 => 109 | 143 => 110 | 195 => 126 | 197 => 127 | 218 => 128 | 219 => 71 | 260 => 145 | 217 => 87 | 225 => 88 | 224 => 89 | 267 => 90 | 266 => 106 | 314 => 107 | n => n, fun | 9 => 9 | 31 => 71 | 3 => 3 | 4 => 4 | 0 => 0 | 105 => 169 | 21 => 21 | 5 => 5 | 46 => 141 | 119 => 188 | 139 => 191 | 138 => 190 | 146 => 156 | 51 => 154 | n => n, fun | 1 => 1 | 3 => 5 | 4 => 6 | n => n⟩
theorem Tryz.laysM146 : Go.Proofs.LaysM.n146 Tryz.prog Tryz.laysM146_ren := {
  mixed := by kernel_rfl
  f138 := Tryz.func109.trans (congrArg some (by kernel_rfl))
  f143 := Tryz.func110.trans (congrArg some (by kernel_rfl))
  f146 := Tryz.func72.trans (congrArg some (by kernel_rfl))
  f195 := Tryz.func126.trans (congrArg some (by kernel_rfl))
  f197 := Tryz.func127.trans (congrArg some (by kernel_rfl))
  f217 := Tryz.func87.trans (congrArg some (by kernel_rfl))
  f218 := Tryz.func128.trans (congrArg some (by kernel_rfl))
  f219 := Tryz.func71.trans (congrArg some (by kernel_rfl))
  f221 := Tryz.func91.trans (congrArg some (by kernel_rfl))
  f224 := Tryz.func89.trans (congrArg some (by kernel_rfl))
  f225 := Tryz.func88.trans (congrArg some (by kernel_rfl))
  f260 := Tryz.func145.trans (congrArg some (by kernel_rfl))
  f266 := Tryz.func106.trans (congrArg some (by kernel_rfl))
  f267 := Tryz.func90.trans (congrArg some (by kernel_rfl))
  f268 := Tryz.func108.trans (congrArg some (by kernel_rfl))
  f314 := Tryz.func107.trans (congrArg some (by kernel_rfl))
  t0 := Tryz.underlying0
  a0 := Tryz.isAgg0
  z0 := Tryz.sizeOf0
  v0 := Tryz.zeroValue0
  t3 := Tryz.underlying3
  a3 := Tryz.isAgg3
  z3 := Tryz.sizeOf3
  v3 := Tryz.zeroValue3
  t4 := Tryz.underlying4
  a4 := Tryz.isAgg4
  z4 := Tryz.sizeOf4
  v4 := Tryz.zeroValue4
  t5 := Tryz.underlying5
  a5 := Tryz.isAgg5
  z5 := Tryz.sizeOf5
  v5 := Tryz.zeroValue5
  t9 := Tryz.underlying9
  a9 := Tryz.isAgg9
  z9 := Tryz.sizeOf9
  v9 := Tryz.zeroValue9
  t21 := Tryz.underlying21
  a21 := Tryz.isAgg21
  z21 := Tryz.sizeOf21
  v21 := Tryz.zeroValue21
  t31 := Tryz.underlying71
  a31 := Tryz.isAgg71
  z31 := Tryz.sizeOf71
  v31 := Tryz.zeroValue71
  t46 := Tryz.underlying141
  a46 := Tryz.isAgg141
  z46 := Tryz.sizeOf141
  v46 := Tryz.zeroValue141
  t51 := Tryz.underlying154
  a51 := Tryz.isAgg154
  z51 := Tryz.sizeOf154
  v51 := Tryz.zeroValue154
  t105 := Tryz.underlying169
  a105 := Tryz.isAgg169
  z105 := Tryz.sizeOf169
  v105 := Tryz.zeroValue169
  t119 := Tryz.underlying188
  a119 := Tryz.isAgg188
  z119 := Tryz.sizeOf188
  t138 := Tryz.underlying190
  a138 := Tryz.isAgg190
  z138 := Tryz.sizeOf190
  v138 := Tryz.zeroValue190
  t139 := Tryz.underlying191
  a139 := Tryz.isAgg191
  z139 := Tryz.sizeOf191
  v139 := Tryz.zeroValue191
  t146 := Tryz.underlying156
  a146 := Tryz.isAgg156
  z146 := Tryz.sizeOf156
  v146 := Tryz.zeroValue156
  g1 := by kernel_rfl
  g3 := by kernel_rfl
  g4 := by kernel_rfl
  i0 := by kernel_rfl
  i3 := by kernel_rfl
  i4 := by kernel_rfl
  i5 := by kernel_rfl
  i9 := by kernel_rfl
  i21 := by kernel_rfl
  i31 := by kernel_rfl
  i46 := by kernel_rfl
  i51 := by kernel_rfl
  i105 := by kernel_rfl
  i138 := by kernel_rfl
  i139 := by kernel_rfl
  i146 := by kernel_rfl
  m1 := by kernel_rfl
  s1_3 := fun w h => Go.Proofs.cell_of_shapedOpen_int (zero := #[.int .i64 0]) (t := 3) h (of_decide_eq_true (by kernel_rfl)) (by kernel_rfl) rfl (by kernel_rfl) (by kernel_rfl) Tryz.underlying3
  m3 := by kernel_rfl
  m4 := by kernel_rfl }
end Go.Proofs
namespace Go.Ab
open Go.RowKit Go.Proofs Go.Lib
def Ob.isB : Ob → Bool
  | .bld _ _ _ true => true
  | _ => false
def soleB (h : Hp) (id : Nat) : Bool := h.zipIdx.all fun p => p.2 == id || !p.1.isB
def bGet (h : Hp) (id : Nat) : Option (List UInt8) := match h[id]? with
  | some (.bld T e l true) => if T = 64 ∧ e = 5 ∧ soleB h id = true then some l else none
  | _ => none
abbrev bOb (l : List UInt8) (on : Bool) : Ob := .bld 64 5 l on
def bwK (h : Hp) (id : Nat) (s : List UInt8) : Option (List UInt8) → Option COut
  | some l => if l.length + s.length ≤ 140737488355328 then some (.ret (.tup [.c (.d (.int .i64 s.length)), .c .nili]) (h.set id (bOb (l ++ s) true))) else none
  | none => none
def bWrite_k : List AV → Hp → Option COut := fun args h => match args with | [.v (.c (.ptr id 0)), .v (.c (.d (.str s)))] => bwK h id s (bGet h id) | _ => none
structure Poked (w w' : World) (b : Nat) (g : Option Nat) : Prop where
  os : w'.os = w.os
  tape : w'.tape = w.tape
  output : w'.output = w.output
  size : w.heap.size ≤ w'.heap.size
  block : ∀ k, k < w.heap.size → k ≠ b → some k ≠ g → w'.heap[k]? = w.heap[k]?
theorem check_walk (b : Nat) (p v : Value) (w : World) (hb : w.heap[b]? = some (.cells #[p, v] 64 (0, 0))) (hp : p = .pointer none ∨ p = .pointer (some ⟨b, 0, none⟩)) :
    Calls Tryz.prog 45 #[.pointer (some ⟨b, 0, none⟩)] w fun e w' => e = .returned (.tuple #[]) ∧ w'.heap[b]? = some (.cells #[.pointer (some ⟨b, 0, none⟩), v] 64 (0, 0)) ∧ Poked w w' b none ∧ w'.heap.size = w.heap.size := by
  have c0 : w.cell? ⟨b, 0, none⟩ = some p := by rw [Lib.cell_of_heap hb]; rfl
  rcases hp with rfl | rfl
  · refine (Any.Builder_copyCheck_fresh { Tryz.lays156 with } Tryz.Builder_Extra_156.toX72 b w c0 (by simp [World.shape?, hb]; rfl) (Lib.frozen_of_heap hb 0)).mono ?_
    rintro e w' ⟨rfl, rfl⟩
    refine ⟨rfl, by simp [World.setCell, Array.getElem?_modify, hb], ⟨rfl, rfl, rfl, by simp [World.setCell], fun k _ hk _ => ?_⟩, by simp [World.setCell]⟩
    exact Below.heap_setCell _ _ _ _ (fun e => hk (by simp [e]))
  refine (Any.Builder_copyCheck_used { Tryz.lays156 with } Tryz.Builder_Extra_156.toX72 b w c0).mono ?_
  rintro e w' ⟨rfl, rfl⟩
  exact ⟨rfl, hb, ⟨rfl, rfl, rfl, Nat.le_refl _, fun _ _ _ _ => rfl⟩, rfl⟩
theorem append_bytes {P : Program} {w : World} {t tx ty e : TypeId} {i : TypeInfo} (ht : P.underlying t = some (.slice e)) (hu : P.underlying tx = some .string) (hi : P.info? e = some i) (hz : i.zero = some (.int .u8 0)) (hs1 : i.size = 1) (hby : i.bytes = 1)
    {v : Value} {l : List UInt8} {s : ByteArray} (hown : w.ownsRow 0 e 1 v l.length (Lib.byteCells l)) (hlen : l.length + s.size ≤ 140737488355328) :
    ∃ v' w', (Builtin.append_ #[t, tx] ty #[v, .string s]).run P w = .ok v' w' ∧ w'.ownsRow 0 e 1 v' (l.length + s.size) (Lib.byteCells l ++ strCells s) ∧ w.grownBy w' v.ownBlock ∧ ∀ g, v'.ownBlock = some g → v.ownBlock = some g ∨ w.heap.size ≤ g := by
  obtain ⟨v', w', hr, h1, h2, h3⟩ := run_append_own_string (P := P) w 0 t tx ty e i ht hu hi hz hs1 hby v l.length _ hown s (by unfold maxLen; omega) hlen (Nat.zero_le _)
  refine ⟨v', w', hr, h1, h2, fun g hg => ?_⟩
  have hsrc : Src P i.size tx (.string s) s.size (Go.byteCells s) w := by rw [hs1]; exact Src.ofString w hu s
  have hgrow : ∀ base cap olds, v = .slice base l.length cap → cap < l.length + s.size → (Builtin.firstCells i.size l.length (.slice base l.length cap)).run P w.drew = .ok olds w.drew → w.heap.size ≤ g := by
    intro base cap olds hv hc ho
    subst hv
    have hrun := run_append_grow_src (P := P) w t tx ty e i _ ht hi hz base l.length cap olds.toList (by simpa using ho) (.string s) s.size _ hsrc hc (by omega) (growslice_fits hc (by rw [hby]; omega))
    rw [hr] at hrun
    cases hrun
    simp only [Value.ownBlock, Option.some.injEq] at hg
    omega
  rcases hown.2 with ⟨rfl, h0⟩ | ⟨k, cap, cur, rfl, _, hk, hnc, _, hcs, htk⟩
  · by_cases hs0 : s.size = 0
    · have := h3.2 ⟨rfl, hs0⟩
      subst this
      cases hg
    rw [h0] at hgrow
    exact .inr (hgrow none 0 #[] rfl (by omega) (by simp [Builtin.firstCells]))
  by_cases hroom : l.length + s.size ≤ cap
  · have hrun := run_append_room_src (P := P) w t tx ty e i ht hi k 0 l.length cap (.string s) s.size _ hsrc hroom
      (fun j hj => by
        rw [byteCells_length] at hj
        simp only [World.cell?, hk, Nat.zero_add, Option.isSome_none, Bool.false_eq_true, if_false]
        rw [Array.getElem?_eq_getElem (by rw [hs1]; omega)]
        rfl)
      (fun j hj => by simp [World.frozen?, hk])
    rw [hr] at hrun
    cases hrun
    exact .inl hg
  refine .inr (hgrow _ cap (cur.toList.take l.length).toArray rfl (by omega) ?_)
  have hc : ∀ (j : Nat) (u : Value), (cur.toList.take l.length)[j]? = some u → w.drew.cell? ((⟨k, 0, none⟩ : Addr).add j) = some u := fun j u hj => by
    rw [List.getElem?_take] at hj
    split at hj
    · rw [Addr.add_lit, Nat.zero_add]
      have hk' : w.drew.heap[k]? = some (.cells cur e (0, 0)) := hk
      simp only [World.cell?, hk']
      simpa using hj
    cases hj
  exact run_firstCells_some w.drew i.size l.length ⟨k, 0, none⟩ l.length cap _ (by simp [hs1]; omega) hc
theorem wpList_append_b {P : Program} {w w' : World} {ops : Array Oper} {rest : List Oper} {o : Oper} {a : Act} {Q : Exit → Act → World → Prop} (hgd : o.guard = none) (sl x : Operand) (t u : TypeId)
    (ho : o.op = .call { callee := .builtin .append, args := #[sl, x], argTypes := #[t, u] }) (v : Value) (s : ByteArray) (hs : a.eval sl = v) (hx : a.eval x = .string s) {v' : Value} (hr : (Builtin.append_ #[t, u] o.type #[v, .string s]).run P w = .ok v' w')
    (h : wpList P ops Q rest (a.put o.dst v') w') : wpList P ops Q (o :: rest) a w := by
  refine wpList_plain hgd fun K hK => ?_
  unfold Oper.wp execOp
  simp only [ho, resolve, invoke, builtin, Sem.run_bind, Sem.run_pure, Result.andThen_ok, List.map_toArray, List.map_cons, List.map_nil, hs, hx, hr]
  exact hK _ _ h
theorem ntmpsW : Tryz.f23.ntmps = 19 := rfl
set_option maxHeartbeats 2000000 in
set_option maxRecDepth 100000 in
theorem write_walk (b : Nat) (p v : Value) (l : List UInt8) (s : ByteArray) (w : World) (hb : w.heap[b]? = some (.cells #[p, v] 64 (0, 0))) (hp : p = .pointer none ∨ p = .pointer (some ⟨b, 0, none⟩))
    (hown : w.ownsRow 0 5 1 v l.length (Lib.byteCells l)) (hne : v.ownBlock ≠ some b) (hlen : l.length + s.size ≤ 140737488355328) :
    Calls Tryz.prog 23 #[.pointer (some ⟨b, 0, none⟩), .string s] w fun e w' => e = .returned (.tuple #[.int .i64 s.size, .nilIface]) ∧
      ∃ v', w'.heap[b]? = some (.cells #[.pointer (some ⟨b, 0, none⟩), v'] 64 (0, 0)) ∧ w'.ownsRow 0 5 1 v' (l.length + s.size) (Lib.byteCells l ++ strCells s) ∧
        v'.ownBlock ≠ some b ∧ (∀ g, v'.ownBlock = some g → v.ownBlock = some g ∨ w.heap.size ≤ g) ∧ Poked w w' b v.ownBlock := by
  obtain ⟨i0, hi, hz0, hz1, hz2⟩ := info_parts Tryz.Builder_Extra_156.infoByte
  have L := Tryz.lays156
  have mixed := L.mixed
  have t58 := Tryz.underlying64; have a58 := Tryz.isAgg64; have z58 := Tryz.sizeOf64; have v58 := Tryz.zeroValue64
  have t56 := Tryz.underlying61; have a56 := Tryz.isAgg61; have z56 := Tryz.sizeOf61; have v56 := Tryz.zeroValue61
  have t38 := Tryz.underlying62; have a38 := Tryz.isAgg62; have z38 := Tryz.sizeOf62; have v38 := Tryz.zeroValue62
  have t3 := Tryz.underlying3; have a3 := Tryz.isAgg3; have z3 := Tryz.sizeOf3; have v3 := Tryz.zeroValue3
  have t9 := Tryz.underlying9; have a9 := Tryz.isAgg9; have z9 := Tryz.sizeOf9; have v9 := Tryz.zeroValue9
  have e48 : ∀ args w, (callFunc 45 args).run Tryz.prog w = .ok (.enter 45 args) w := enters_of Tryz.func45 (by kernel_rfl) rfl
  go_enter Tryz.func23, ntmpsW
  go_wp2_with (go_at_fn 45; refine (check_walk b p v _ hb hp).mono ?_)
  rintro e w1 ⟨rfl, hb1, hpk, hsz⟩
  have c0 : w1.cell? ⟨b, 0, none⟩ = some (.pointer (some ⟨b, 0, none⟩)) := by rw [Lib.cell_of_heap hb1]; rfl
  have c1 : w1.cell? ⟨b, 1, none⟩ = some v := by rw [Lib.cell_of_heap hb1]; rfl
  have hown1 : w1.ownsRow 0 5 1 v l.length (Lib.byteCells l) := by
    refine ⟨hown.1, ?_⟩
    rcases hown.2 with h0 | ⟨g, cap, cur, rfl, q1, q2, q3⟩
    · exact .inl h0
    refine .inr ⟨g, cap, cur, rfl, q1, ?_, q3⟩
    rw [hpk.block g (Array.getElem?_eq_some_iff.1 q2).1 (fun e => hne (by simp [Value.ownBlock, e])) (by simp)]
    exact q2
  obtain ⟨v', w2, hrun, hown2, hgrow, hnew⟩ := append_bytes (P := Tryz.prog) (w := w1) (ty := 62) Tryz.underlying62 Tryz.underlying9 hi hz0 hz1 hz2 hown1 hlen
  have hlt : b < w1.heap.size := (Array.getElem?_eq_some_iff.1 hb1).1
  have hb2 : w2.heap[b]? = some (.cells #[.pointer (some ⟨b, 0, none⟩), v] 64 (0, 0)) := by
    rw [hgrow.block b hlt (fun e => hne e.symm)]
    exact hb1
  have d0 : w2.cell? ⟨b, 0, none⟩ = some (.pointer (some ⟨b, 0, none⟩)) := by rw [Lib.cell_of_heap hb2]; rfl
  have d1 : w2.cell? ⟨b, 1, none⟩ = some v := by rw [Lib.cell_of_heap hb2]; rfl
  have f1 : w2.frozen? ⟨b, 1, none⟩ = false := Lib.frozen_of_heap hb2 1
  have hne2 : v'.ownBlock ≠ some b := fun e => by
    rcases hnew b e with h | h
    · exact hne h
    omega
  obtain ⟨ao, n', cap, rfl⟩ : ∃ ao n' cap, v' = .slice ao n' cap := by
    rcases hown2.2 with ⟨hv, _⟩ | ⟨g, cap, cur, hv, _⟩
    · exact ⟨_, _, _, hv⟩
    exact ⟨_, _, _, hv⟩
  go_wp2_with (at_builtin; refine wpList_append_b rfl _ _ 62 9 rfl v s rfl rfl hrun ?_)
  go_wp2
  go_ret2
  refine ⟨rfl, _, ?_, ?_, hne2, fun g hg => ?_, ?_⟩
  · simp [World.setCell, Array.getElem?_modify, hb2]
  · exact hown2.kept (row := some b) ⟨rfl, rfl, rfl, by simp [World.setCell], fun k _ hk => Below.heap_setCell _ _ _ _ (fun e => hk (by simp [e]))⟩ (Or.inr hne2)
  · rcases hnew g hg with h | h
    · exact .inl h
    exact .inr (by omega)
  refine ⟨hgrow.os.trans hpk.os, hgrow.tape.trans hpk.tape, hgrow.output.trans hpk.output, ?_, fun k hk hkb hkg => ?_⟩
  · show w.heap.size ≤ (w2.setCell _ _).heap.size
    have := hgrow.size
    simp [World.setCell]
    omega
  rw [Below.heap_setCell _ _ _ _ (fun e => hkb (by simp [e]))]
  rw [hgrow.block k (by omega) hkg, hpk.block k hk hkb (by simp)]
def bsK (h : Hp) (id : Nat) : Option (List UInt8) → Option COut
  | some l => if l ≠ [] then some (.ret (.s l) (h.set id (bOb l false))) else none
  | none => none
def bString_k : List AV → Hp → Option COut := fun args h => match args with | [.v (.c (.ptr id 0))] => bsK h id (bGet h id) | _ => none
def blK (h : Hp) : Option (List UInt8) → Option COut
  | some l => some (.ret (.i l.length) h)
  | none => none
def bLen_k : List AV → Hp → Option COut := fun args h => match args with | [.v (.c (.ptr id 0))] => blK h (bGet h id) | _ => none
theorem ntmpsS : Tryz.f30.ntmps = 14 := rfl
set_option maxHeartbeats 2000000 in
set_option maxRecDepth 100000 in
theorem string_walk (b : Nat) (p v : Value) (l : List UInt8) (w : World) (hbk : w.heap[b]? = some (.cells #[p, v] 64 (0, 0))) (hown : w.ownsRow 0 5 1 v l.length (Lib.byteCells l)) (hne : v.ownBlock ≠ some b) (h0 : l ≠ []) :
    Calls Tryz.prog 30 #[.pointer (some ⟨b, 0, none⟩)] w fun e w' => e = .returned (.string ⟨l.toArray⟩) ∧ ∃ n, ∃ g, v.ownBlock = some g ∧ w' = (w.drewN n).freeze ⟨g, 0, none⟩ l.length := by
  have hl0 : l.length ≠ 0 := by simpa using h0
  obtain ⟨g, cap, cur, rfl, hbg, hg, hnc, hcm, hcs, htake⟩ : ∃ g cap cur, v = .slice (some ⟨g, 0, none⟩) l.length cap ∧ 0 ≤ g ∧ w.heap[g]? = some (.cells cur 5 (0, 0)) ∧ l.length ≤ cap ∧ cap ≤ maxLen ∧ cur.size = cap * 1 ∧ cur.toList.take (l.length * 1) = Lib.byteCells l := by
    rcases hown.2 with ⟨_, hz⟩ | ⟨g, cap, cur, hv, r⟩
    · exact absurd hz hl0
    exact ⟨g, cap, cur, hv, r⟩
  have c1 : w.drew.cell? ⟨b, 1, none⟩ = some (.slice (some ⟨g, 0, none⟩) l.length cap) := by
    have : w.drew.heap[b]? = some (.cells #[p, .slice (some ⟨g, 0, none⟩) l.length cap] 64 (0, 0)) := hbk
    rw [Lib.cell_of_heap this]; rfl
  have hSD : (Builtin.unsafeSliceData_ #[62] 101 #[.slice (some ⟨g, 0, none⟩) l.length cap]).run Tryz.prog w.drew = .ok (.pointer (some ⟨g, 0, none⟩)) w.drew :=
    Lib.run_unsafeSliceData_row _ _ _ _ _ _ (by omega)
  have hUS : (Builtin.unsafeString_ #[101, 3] 9 #[.pointer (some ⟨g, 0, none⟩), .int .i64 l.length]).run Tryz.prog w.drew = .ok (.string ⟨l.toArray⟩) (w.drew.freeze ⟨g, 0, none⟩ l.length) := by
    refine Lib.run_unsafeString_row w.drew 101 3 9 5 Tryz.underlying101 Tryz.Builder_Extra_156.cellsByte g cur.size (by have hg' : w.drew.heap[g]? = some (.cells cur 5 (0, 0)) := hg; simp [World.shape?, hg']) l h0 (by omega) (by unfold maxLen at hcm; omega) ?_
    intro j x hx
    have := hown.cells (g := g) rfl j (.int .u8 x.toNat) (by simp [Lib.byteCells, hx])
    exact this
  have L := Tryz.lays156
  have mixed := L.mixed
  have t58 := Tryz.underlying64; have a58 := Tryz.isAgg64; have z58 := Tryz.sizeOf64; have v58 := Tryz.zeroValue64
  have t56 := Tryz.underlying61; have a56 := Tryz.isAgg61; have z56 := Tryz.sizeOf61; have v56 := Tryz.zeroValue61
  have t38 := Tryz.underlying62; have a38 := Tryz.isAgg62; have z38 := Tryz.sizeOf62; have v38 := Tryz.zeroValue62
  have t82 := Tryz.underlying101; have a82 := Tryz.isAgg101; have z82 := Tryz.sizeOf101; have v82 := Tryz.zeroValue101
  have t3 := Tryz.underlying3; have a3 := Tryz.isAgg3; have z3 := Tryz.sizeOf3; have v3 := Tryz.zeroValue3
  have t9 := Tryz.underlying9; have a9 := Tryz.isAgg9; have z9 := Tryz.sizeOf9; have v9 := Tryz.zeroValue9
  have t5 := Tryz.underlying5; have a5 := Tryz.isAgg5; have z5 := Tryz.sizeOf5; have v5 := Tryz.zeroValue5
  go_enter Tryz.func30, ntmpsS
  go_wp2
  go_region
  all_goals (go_wp2; go_ret; exact ⟨rfl, 1, g, rfl, rfl⟩)
theorem bGet_inv {h : Hp} {id : Nat} {l : List UInt8} (hg : bGet h id = some l) : h[id]? = some (bOb l true) ∧ ∀ (j : Nat) (o : Ob), h[j]? = some o → j ≠ id → o.isB = false := by
  unfold bGet at hg
  split at hg
  · rename_i hid
    split at hg
    · rename_i hc
      cases hg
      obtain ⟨rfl, rfl, hs⟩ := hc
      refine ⟨hid, fun j o hj hji => ?_⟩
      unfold soleB at hs
      rw [List.all_eq_true] at hs
      have := hs (o, j) (List.mem_zipIdx_iff_getElem?.2 hj)
      simp only [Bool.or_eq_true, beq_iff_eq, Bool.not_eq_true'] at this
      rcases this with h1 | h1
      · exact absurd h1 hji
      exact h1
    cases hg
  cases hg
theorem bld_poke {A : Actn} {E : Env} {h : Hp} {id b : Nat} {o o' : Ob} {w' : World} {g : Option Nat} (hE : EnvOk A E h) (hid : h[id]? = some o) (hk : o.kind = 1) (hk' : o'.kind = 1) (hρ : E.ρ id = some b) (hf : ∀ x, ¬ E.F b x)
    (hg : ∀ k, g = some k → b < k ∧ (∀ x, ¬ E.F k x) ∧ ∀ j, j < h.length → E.ρ j ≠ some k) (pk : Poked E.w w' b g) (hsole : ∀ (j : Nat) (x : Ob), h[j]? = some x → j ≠ id → x.isB = false) (hdr : A.G.dr = true → E.w.drawn ≤ w'.drawn)
    (hob : Evo h.length E h { E with w := w' } (h.set id o') → o'.rel { E with w := w' } (h.set id o') id) :
    Evo h.length E h { E with w := w' } (h.set id o') ∧ EnvOk A { E with w := w' } (h.set id o') := by
  have hidl := lt_of_get hid
  have hblk : ∀ (k : Nat), k < E.w.heap.size → (∀ x, k = b → x) → (∀ x, g = some k → x) → w'.heap[k]? = E.w.heap[k]? := fun k hk h1 h2 => pk.block k hk (fun e => h1 False e) (fun e => h2 False e.symm)
  have hfz : ∀ k x, E.F k x → w'.heap[k]? = E.w.heap[k]? := fun k x hx => pk.block k (hE.lt k x hx) (fun e => hf x (e ▸ hx)) (fun e => (hg k e.symm).2.1 x hx)
  have hoth : ∀ j k, j < h.length → j ≠ id → E.ρ j = some k → w'.heap[k]? = E.w.heap[k]? := fun j k hj hji hb => pk.block k (hE.lt_len hj hb) (fun e => hji (hE.inj j id b hj hidl (e ▸ hb) hρ)) (fun e => (hg k e.symm).2.2 j hj hb)
  have ev : Evo h.length E h { E with w := w' } (h.set id o') := by
    refine ⟨fun _ _ h => h, fun k x hx => World.cell?_of_block (hfz k x hx), fun j hj x hx hxk => ⟨?_, rfl⟩, fun j hj m z c hm => ?_, by simp⟩
    · by_cases hji : j = id
      · subst hji
        rw [hid] at hx
        cases hx
        exact ⟨o', by simp [hidl], hk'.trans hk.symm⟩
      exact ⟨x, by rw [List.getElem?_set_ne (Ne.symm hji)]; exact hx, rfl⟩
    have hji : j ≠ id := by
      rintro rfl
      rw [hid] at hm
      cases hm
      cases hk
    refine ⟨m, c, by rw [List.getElem?_set_ne (Ne.symm hji)]; exact hm, Nat.le_refl _, fun _ => ⟨rfl, fun k vs T hb hv => ⟨vs, T, ?_, rfl⟩⟩⟩
    rw [hoth j k hj hji hb]
    exact hv
  refine ⟨ev, ?_⟩
  have hlen : (h.set id o').length = h.length := by simp
  have hbase := (hE.base id b hidl hρ).1
  refine ⟨?_, fun k x hx => Nat.lt_of_lt_of_le (hE.lt k x hx) pk.size, hE.old, hE.f0, fun i j k hi hj => hE.inj i j k (hlen ▸ hi) (hlen ▸ hj), fun i k hi hb => ?_, fun i x hx => ?_, fun gl xs hgl => (hE.glob gl xs hgl).evo ev, hE.ginv, fun hD => Nat.le_trans (hE.drw hD) (hdr hD)⟩
  · exact hE.below.trans ⟨pk.os, pk.tape, pk.output, pk.size, fun k hk => pk.block k (Nat.lt_of_lt_of_le hk hE.below.size) (fun e => by omega) (fun e => by have := (hg k e.symm).1; omega)⟩
  · obtain ⟨h1, h2⟩ := hE.base i k (hlen ▸ hi) hb
    exact ⟨h1, Nat.lt_of_lt_of_le h2 pk.size⟩
  by_cases hii : i = id
  · subst hii
    simp [hidl] at hx
    subst hx
    exact hob ev
  rw [List.getElem?_set_ne (Ne.symm hii)] at hx
  have hil := lt_of_get hx
  have hr := hE.ob i x hx
  cases x with
  | dead => exact hr
  | box cs =>
    obtain ⟨k, vs, T, hb, hv, hc, hf⟩ := hr
    exact ⟨k, vs, T, hb, (hoth i k hil hii hb).trans hv, hc.evo ev (Nat.le_refl _), hf⟩
  | tok n z c =>
    cases c with
    | none =>
      obtain ⟨hz, h0 | ⟨k, vs, T, hb, hv, hs, hf⟩⟩ := hr
      · exact ⟨hz, .inl h0⟩
      · exact ⟨hz, .inr ⟨k, vs, T, hb, (hoth i k hil hii hb).trans hv, hs, hf⟩⟩
    | some ds =>
      obtain ⟨hz, h0 | ⟨k, vs, T, hb, hv, hs, hc, hf⟩⟩ := hr
      · exact ⟨hz, .inl h0⟩
      · exact ⟨hz, .inr ⟨k, vs, T, hb, (hoth i k hil hii hb).trans hv, hs, hc.evo ev (Nat.le_refl _), hf⟩⟩
  | siter s pos =>
    obtain ⟨k, hb, hv⟩ := hr
    exact ⟨k, hb, (hoth i k hil hii hb).trans hv⟩
  | pin ob =>
    obtain ⟨k, hb, hv, hf⟩ := hr
    exact ⟨k, hb, (hoth i k hil hii hb).trans hv, hf⟩
  | map es clock =>
    obtain ⟨k, ents, hb, hv, hl, hf, hx⟩ := hr
    exact ⟨k, ents, hb, (hoth i k hil hii hb).trans hv, hl, hf, fun j p hj => let ⟨e, he, h1, h2, h3⟩ := hx j p hj; ⟨e, he, h1, h2.evo ev, h3.evo ev⟩⟩
  | bld T e l on =>
    obtain ⟨k, hb, hf, _⟩ := hr
    have hoff := hsole i _ hx hii
    cases on with
    | true => cases hoff
    | false => exact ⟨k, hb, hf, fun h => by cases h⟩
theorem bld_inv {A : Actn} {E : Env} {h : Hp} {id : Nat} {l : List UInt8} (hE : EnvOk A E h) (hid : h[id]? = some (bOb l true)) :
    ∃ b p v, E.ρ id = some b ∧ (∀ x, ¬ E.F b x) ∧ BldAt E h 64 5 l b p v := by
  obtain ⟨b, hρ, hf, hx⟩ := hE.ob id _ hid
  obtain ⟨p, v, hx⟩ := hx rfl
  exact ⟨b, p, v, hρ, hf, hx⟩
theorem ptr_inv {E : Env} {h : Hp} {id b : Nat} {u : Value} (hr : (AV.v (.c (.ptr id 0))).rel E h u) (hρ : E.ρ id = some b) : u = .pointer (some ⟨b, 0, none⟩) := by
  obtain ⟨b', ⟨_, hb'⟩, hv⟩ := hr
  rw [hρ] at hb'
  cases hb'
  exact hv
theorem bWrite_kok : ImpC Tryz.prog Gt 23 bWrite_k := by
  intro args h out h0
  unfold bWrite_k at h0
  split at h0
  · rename_i id s
    unfold bwK at h0
    split at h0
    · rename_i l hg
      split at h0
      · rename_i hlen
        cases h0
        obtain ⟨hid, hsole⟩ := bGet_inv hg
        refine fok_of_end (X := ctx Tryz.prog Gt []) Tryz.func23 rfl rfl fun A E vs hG hE hs hrel => ?_
        obtain ⟨b, p, v, hρ, hf, hb, hp, hown, hT, hgg⟩ := bld_inv hE hid
        have h1 := ptr_inv (hrel 0 _ rfl) hρ
        obtain ⟨s', h2, rfl⟩ := rd_str (hrel 1 _ rfl)
        rw [two_args (vs := vs) (by simpa using hs), h1, h2]
        have hsz : s'.size = s'.data.toList.length := Lib.size_eq _
        have hne : v.ownBlock ≠ some b := fun e => by have := (hgg b e).2.1; omega
        refine (write_walk b p v l s' E.w hb hp hown hne (by omega)).mono ?_
        rintro e w' ⟨rfl, v', hb', hown', hne', hnew, pk⟩
        have hg2 : ∀ k, v.ownBlock = some k → b < k ∧ (∀ x, ¬ E.F k x) ∧ ∀ j, j < h.length → E.ρ j ≠ some k := fun k hk => let ⟨_, q2, q3, q4⟩ := hgg k hk; ⟨q2, q3, q4⟩
        have hbl : b < E.w.heap.size := (Array.getElem?_eq_some_iff.1 hb).1
        have hob : ∀ k, v'.ownBlock = some k → k < w'.heap.size ∧ b < k ∧ (∀ x, ¬ E.F k x) ∧ ∀ j, j < (h.set id (bOb (l ++ s'.data.toList) true)).length → E.ρ j ≠ some k := fun k hk => by
          have hk2 := (hown'.lt k hk).2
          refine ⟨hk2, ?_, fun x hx => ?_, fun j hj => ?_⟩
          · rcases hnew k hk with h3 | h3
            · exact (hgg k h3).2.1
            omega
          · rcases hnew k hk with h3 | h3
            · exact (hgg k h3).2.2.1 x hx
            have := hE.lt k x hx; omega
          have hj' : j < h.length := by simpa using hj
          rcases hnew k hk with h3 | h3
          · exact (hgg k h3).2.2.2 j hj'
          intro he
          have := (hE.base j k hj' he).2
          omega
        have hown2 : w'.ownsRow 0 5 1 v' (l ++ s'.data.toList).length ((l ++ s'.data.toList).map fun x => Value.int .u8 x.toNat) := by
          have : (l ++ s'.data.toList).length = l.length + s'.size := by rw [List.length_append, hsz]
          rw [this, List.map_append]
          exact hown'
        obtain ⟨ev, hok⟩ := bld_poke (o' := bOb (l ++ s'.data.toList) true) hE hid rfl rfl hρ hf hg2 pk hsole (fun hD => by rw [hG] at hD; exact Bool.noConfusion (show false = true from hD)) (fun ev => ⟨b, hρ, hf, fun _ => ⟨_, v', hb', .inr rfl, hown2, hT, hob⟩⟩)
        exact ⟨_, _, rfl, ev, hok, .inl ⟨_, _, rfl, rfl, [_, _], rfl, rfl, fun j x hj => by
          match j with
          | 0 => simp at hj; subst hj; exact ⟨_, rfl, by rw [hsz]; exact .int _ _⟩
          | 1 => simp at hj; subst hj; exact ⟨_, rfl, rfl⟩
          | j + 2 => simp at hj⟩⟩
      cases h0
    cases h0
  cases h0
theorem frozen_blk {w : World} {g n k : Nat} (h : k ≠ g) : (w.freeze ⟨g, 0, none⟩ n).heap[k]? = w.heap[k]? := by
  unfold World.freeze
  split
  · rfl
  simp only [Array.getElem?_modify]
  rw [if_neg (fun e => h e.symm)]
theorem bString_kok : ImpC Tryz.prog Gt 30 bString_k := by
  intro args h out h0
  unfold bString_k at h0
  split at h0
  · rename_i id
    unfold bsK at h0
    split at h0
    · rename_i l hg
      split at h0
      · rename_i hne0
        cases h0
        obtain ⟨hid, hsole⟩ := bGet_inv hg
        refine fok_of_end (X := ctx Tryz.prog Gt []) Tryz.func30 rfl rfl fun A E vs hG hE hs hrel => ?_
        obtain ⟨b, p, v, hρ, hf, hb, hp, hown, hT, hgg⟩ := bld_inv hE hid
        have h1 := ptr_inv (hrel 0 _ rfl) hρ
        rw [one_arg (vs := vs) (by simpa using hs), h1]
        have hne : v.ownBlock ≠ some b := fun e => by have := (hgg b e).2.1; omega
        refine (string_walk b p v l E.w hb hown hne hne0).mono ?_
        rintro e w' ⟨rfl, n, g, hg1, rfl⟩
        have pk : Poked E.w ((E.w.drewN n).freeze ⟨g, 0, none⟩ l.length) b (some g) := by
          refine ⟨?_, ?_, ?_, ?_, fun k hk hkb hkg => ?_⟩
          · unfold World.freeze; split <;> rfl
          · unfold World.freeze; split <;> rfl
          · unfold World.freeze; split <;> rfl
          · unfold World.freeze; split <;> simp
          rw [frozen_blk (fun e => hkg (by rw [e]))]
          rfl
        obtain ⟨ev, hok⟩ := bld_poke (o' := bOb l false) (g := some g) hE hid rfl rfl hρ hf (fun k hk => by cases hk; exact let ⟨_, q2, q3, q4⟩ := hgg g hg1; ⟨q2, q3, q4⟩) pk hsole (fun hD => by rw [hG] at hD; exact Bool.noConfusion (show false = true from hD)) (fun ev => ⟨b, hρ, hf, fun h => by cases h⟩)
        exact ⟨_, _, rfl, ev, hok, .inl ⟨_, _, rfl, rfl, str_rd _⟩⟩
      cases h0
    cases h0
  cases h0
theorem bLen_kok : ImpC Tryz.prog Gt 29 bLen_k := by
  intro args h out h0
  unfold bLen_k at h0
  split at h0
  · rename_i id
    unfold blK at h0
    split at h0
    · rename_i l hg
      cases h0
      obtain ⟨hid, hsole⟩ := bGet_inv hg
      refine fok_of_end (X := ctx Tryz.prog Gt []) Tryz.func29 rfl rfl fun A E vs hG hE hs hrel => ?_
      obtain ⟨b, p, v, hρ, hf, hb, hp, hown, hT, hgg⟩ := bld_inv hE hid
      have h1 := ptr_inv (hrel 0 _ rfl) hρ
      rw [one_arg (vs := vs) (by simpa using hs), h1]
      have hne : v.ownBlock ≠ some b := fun e => by have := (hgg b e).2.1; omega
      have hib : Lib.IsBuilder 64 5 0 b (Lib.byteCells l) E.w := by
        rcases hp with rfl | rfl
        · exact .inl ⟨Nat.zero_le _, v, hb, by rw [Lib.byteCells_length]; exact hown, hne⟩
        exact .inr ⟨Nat.zero_le _, v, hb, by rw [Lib.byteCells_length]; exact hown, hne⟩
      refine (Any.Builder_Len { Tryz.lays170 with } 0 b (Lib.byteCells l) E.w hib).mono ?_
      rintro e w' ⟨rfl, rfl⟩
      exact ⟨E, h, rfl, Evo.refl (Nat.le_refl _), hE, .inl ⟨_, _, rfl, rfl, by rw [Lib.byteCells_length]; exact .int _ _⟩⟩
    cases h0
  cases h0
end Go.Ab
