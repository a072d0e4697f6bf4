/-
  Texts of the layer and of the laws, put together: AbSo5, AbShI, AbI1, AbI2.
-/
import Derived.Test.YtdoofgbeajkpaaaGreatDoorAbWP30
import Derived.Shelf.SlLaysF0
import Derived.Test.YtdoofgbeajkpaaaGreatDoorProg
import Derived.Test.YtdoofgbeajkpaaaGreatDoorAbWP19
set_option linter.unusedSimpArgs false
set_option linter.unusedVariables false
set_option maxRecDepth 100000
namespace Go.Ab
open Go.RowKit Go.Proofs Go.Shelf Go.Lib Go.Sort
def srtQ {α : Type} [Inhabited α] (cf : α → α → Int) (xs : List α) : List α := (pdq (ltOf cf) xs.toArray 0 xs.length (Lib.bitLen xs.length) true true).toList
theorem srtQ_ok {α : Type} [Inhabited α] (cf : α → α → Int) (hO : SWO (ltOf cf)) (xs : List α) : (srtQ cf xs).Perm xs ∧ (srtQ cf xs).Pairwise (fun a b => ¬ cf b a < 0) := by
  have h := pdq_sorts (ltOf cf) hO xs.toArray 0 xs.toArray.size (Lib.bitLen xs.toArray.size) true true (Nat.zero_le _) (Nat.le_refl _) (Or.inl rfl)
  have hs : xs.toArray.size = xs.length := by simp
  rw [hs] at h
  have e : srtQ cf xs = (pdq (ltOf cf) xs.toArray 0 xs.length (Lib.bitLen xs.length) true true).toList := rfl
  generalize pdq (ltOf cf) xs.toArray 0 xs.length (Lib.bitLen xs.length) true true = d' at *
  obtain ⟨⟨hsz, _, hperm⟩, hSo⟩ := h
  rw [e]
  have hsz : d'.size = xs.length := by simpa using hsz
  have e1 : d'.extract 0 xs.length = d' := by rw [← hsz]; exact Array.extract_size
  have e2 : xs.toArray.extract 0 xs.length = xs.toArray := by rw [← hs]; exact Array.extract_size
  rw [e1, e2] at hperm
  refine ⟨by simpa using hperm, ?_⟩
  rw [List.pairwise_iff_getElem]
  intro i j hi hj hij
  have hi' : i < d'.size := by simpa using hi
  have hj' : j < d'.size := by simpa using hj
  have := hSo i j (Nat.zero_le _) hij (by omega)
  rw [getElem!_pos d' j hj', getElem!_pos d' i hi'] at this
  simpa using of_decide_eq_false this
theorem fok_sortQ {P : Program} {ρ : Ren} (L : SlLaysF0.n6 P ρ) {k : Nat} (hk0 : 0 < k) (aE : ∀ w, (isAgg (ρ.t 24)).run P w = .ok true w) (zE : ∀ w, (Go.sizeOf (ρ.t 24)).run P w = .ok k w) {G : Gl} {g : FuncId} {m : List PA → Option (List PA)} (hp : PureC P Gd g m)
    {α : Type} [Inhabited α] (dec : α → List D) (hk : ∀ x, (dec x).length = k) (hs : ∀ x, ∀ d ∈ dec x, simD d = true) (cf : α → α → Int) (hm : ∀ x y, m [.agg (dec x), .agg (dec y)] = some [.c (.int .i64 (cf x y))])
    (hO : SWO (ltOf cf)) (xs : List α) (hsz : xs.length < 4611686018427387904) {id : Nat} {h : Hp} (hid : h[id]? = some (.tok xs.length k (some ((xs.flatMap dec).map .d)))) :
    FOk P G (ρ.f 6) [.v (.c (.msl id xs.length)), .v (.c (.fn g []))] h (.ret (.tup []) (h.set id (.tok xs.length k (some (((srtQ cf xs).flatMap dec).map .d))))) := by
  intro A E vs hG hE hvs hrel o a K Q hd
  have henter : (callFunc (ρ.f 6) vs).run P E.w = .ok (.enter (ρ.f 6) vs) E.w := L.f6.enters rfl vs E.w
  rw [henter, Oper.upon_enter]
  have hidl := lt_of_get hid
  have hperm : (srtQ cf xs).Perm xs := (srtQ_ok cf hO xs).1
  have hlen : (srtQ cf xs).length = xs.length := hperm.length_eq
  have h0 := hrel 0 _ rfl
  have h1 := hrel 1 _ rfl
  obtain ⟨vsc, hv1, hl1, _⟩ := h1
  have hvsc : vsc = [] := List.eq_nil_of_length_eq_zero (by simpa using hl1)
  subst hvsc
  obtain ⟨_, m', z', c', hid', _, ho⟩ := h0
  rw [hid] at hid'
  cases hid'
  have ho := ho rfl
  have hargs : vs = #[vs.getD 0 undef, vs.getD 1 undef] := by
    apply Array.ext
    · simpa using hvs
    intro i h2 h3
    have : i < 2 := by simpa using h3
    match i with
    | 0 => simp [Array.getD, show 0 < vs.size by omega]
    | 1 => simp [Array.getD, show 1 < vs.size by omega]
    | i + 2 => omega
  rw [hargs, hv1]
  unfold OwnRow at ho
  have hob := hE.ob id _ hid
  cases hρ : E.ρ id with
  | none =>
    rw [hρ] at ho
    obtain ⟨⟨base, hv0⟩, hn0⟩ := ho
    have hx : xs = [] := List.eq_nil_of_length_eq_zero hn0
    subst hx
    rw [hv0]
    refine (AnyF.slices_SortFunc_none L base 0 _ E.w).mono ?_
    rintro e w' ⟨rfl, rfl⟩
    have hset : h.set id (.tok ([] : List α).length k (some (((srtQ cf []).flatMap dec).map .d))) = h := by
      have : (srtQ cf ([] : List α)) = [] := List.eq_nil_of_length_eq_zero hlen
      rw [this]
      rw [List.getElem?_eq_getElem hidl] at hid
      rw [← Option.some.inj hid]
      exact List.set_getElem_self hidl
    have hd' : ∀ u E', Evo h.length E h E' (h.set id _) → EnvOk A E' (h.set id _) → AV.rel E' (h.set id _) u (.tup []) → K (a.put o.dst u) E'.w := hd
    rw [hset] at hd'
    exact hd' (.tuple #[]) E (Evo.refl (Nat.le_refl _)) hE ⟨[], rfl, rfl, fun j x hj => by simp at hj⟩
  | some b =>
    rw [hρ] at ho
    obtain ⟨cap, vs0, T, hv0, hnc, _, hb, hvsz⟩ := ho
    obtain ⟨_, ⟨h3, _⟩ | ⟨b', vs', T', h3, hb', hmz, hco, hnf⟩⟩ := hob
    · rw [hρ] at h3; cases h3
    rw [hρ] at h3
    cases h3
    rw [hb] at hb'
    cases hb'
    have hbl : b < E.w.heap.size := (Array.getElem?_eq_some_iff.1 hb).1
    have hH : HoldsK (fun x => (dec x).map encD) k E.w b 0 xs.toArray := by
      intro t ht
      rw [size_flatK] at ht
      have ht : t < xs.length * k := by simpa using ht
      obtain ⟨d, hd1, ⟨x, _, hdx⟩, hd3⟩ := flatK_at dec hk xs ht
      rw [hd3]
      obtain ⟨u, hu, hur, _⟩ := hco.2 t (.d d) (by rw [List.getElem?_map, hd1]; rfl)
      rw [List.getElem?_take, if_pos ht] at hu
      have hu : vs0[t]? = some u := by simpa using hu
      have hur : Rd E.w E.F u d := hur
      rw [encD_of (hs x d hdx) hur] at hu
      constructor
      · simp only [World.cell?, hb, Nat.zero_add]
        simpa using hu
      exact Lib.frozen_of_heap hb _
    rw [hv0]
    have hsz' : xs.toArray.size = xs.length := by simp
    rw [← hsz']
    refine (AnyQ.slices_SortFunc_eq L k aE zE (fun x => (dec x).map encD) (fun x => by simp [hk]) (fun x v hv => by
      obtain ⟨d, hd, rfl⟩ := List.mem_map.1 hv
      exact encD_one (hs x d hd)) cf hO g #[] b 0 cap xs.toArray E.w (hp.1) (cmpLays_of_pure hp dec hs cf hm k b 0 _ E.w) hH hbl (by simpa using hsz)).mono ?_
    rintro e w' ⟨rfl, n, os, rfl⟩
    rw [show pdq (ltOf cf) xs.toArray 0 xs.toArray.size (Lib.bitLen xs.toArray.size) true true = (srtQ cf xs).toArray by simp [srtQ]]
    have hd : Done A E h o a K Q (.val (.tup []) (h.set id (.tok xs.length k (some (((srtQ cf xs).flatMap dec).map .d))))) := hd
    have hyl : (srtQ cf xs).length = xs.length := hlen
    generalize (srtQ cf xs) = ys at hd hyl ⊢
    have hheap := sortHeap_at (fun x => (dec x).map encD) k E.w b n ys.toArray os hb
    have hoth : ∀ c, c < E.w.heap.size → c ≠ b → (sortWorldK (fun x => (dec x).map encD) k E.w b 0 n ys.toArray os).heap[c]? = E.w.heap[c]? := fun c hc hne => sortHeap _ k E.w b n ys.toArray os hc hne
    let E' : Env := { E with w := sortWorldK (fun x => (dec x).map encD) k E.w b 0 n ys.toArray os }
    have hrs : (putCells _root_.id 0 (flatK (fun x => (dec x).map encD) k ys.toArray) vs0).size = vs0.size := by simp [putCells]
    have hat : (h.set id (.tok xs.length k (some ((ys.flatMap dec).map .d))))[id]? = some (.tok xs.length k (some ((ys.flatMap dec).map .d))) := by simp [hidl]
    have hdrn : E.w.drawn ≤ (sortWorldK (fun x => (dec x).map encD) k E.w b 0 n ys.toArray os).drawn := by
      show E.w.drawn ≤ E.w.drawn + n
      omega
    have st : Stp A.G.dr E h id E' (h.set id (.tok xs.length k (some ((ys.flatMap dec).map .d)))) := {
      os := rfl
      tape := rfl
      output := rfl
      size := by
        show E.w.heap.size ≤ (sortWorldK (fun x => (dec x).map encD) k E.w b 0 n ys.toArray os).heap.size
        simp [sortWorldK, grow, putRowK, ahead]
      blk := fun c hc hne => hoth c hc (fun e => hne ⟨hidl, by rw [hρ, e]⟩)
      idle := Nat.le_of_lt hidl
      len := by simp
      len' := by simp; omega
      ρ := fun _ _ _ => rfl
      hh := fun j _ hji => by rw [List.getElem?_set_ne (Ne.symm hji)]
      F := fun _ _ h => h
      F' := fun c o h => .inl h
      same := fun c o hf => by
        by_cases hcb : c = b
        · subst hcb; exact absurd hf (hnf o)
        exact World.cell?_of_block (hoth c (hE.lt c o hf) hcb)
      at' := fun c _ hc => by
        have hc' : E.ρ id = some c := hc
        rw [hρ] at hc'
        cases hc'
        refine ⟨?_, .inr ⟨hidl, hρ⟩⟩
        exact (Array.getElem?_eq_some_iff.1 hheap).1
      drw := fun _ => hdrn
      keep := fun o ho => by
        rw [hid] at ho
        cases ho
        exact ⟨_, _, hat, Nat.le_refl _, fun _ => ⟨rfl, fun b2 vs2 T2 h2 h3 => by
          rw [hρ] at h2
          cases h2
          rw [hb] at h3
          cases h3
          exact ⟨_, T, hheap, hrs⟩⟩⟩ }
    have ev := st.evo hE
    refine hd (.tuple #[]) E' ev (st.ok hE fun o ho => ?_) ⟨[], rfl, rfl, fun j x hj => by simp at hj⟩
    have ho' : (h.set id (.tok xs.length k (some ((ys.flatMap dec).map .d))))[id]? = some o := ho
    rw [hat] at ho'
    cases ho'
    refine ⟨hk0, .inr ⟨b, _, T, hρ, hheap, by rw [hrs]; exact hmz, ?_, fun o hf => hnf o hf⟩⟩
    refine cells_d' (by rw [flat_len dec hk, hyl]; simp [putCells]; omega) fun t y hy => ?_
    have htl : t < ys.length * k := by have := lt_of_get hy; rw [flat_len dec hk] at this; exact this
    obtain ⟨d, hd1, ⟨x, _, hdx⟩, hd3⟩ := flatK_at dec hk ys htl
    rw [hy] at hd1
    cases hd1
    refine ⟨encD y, ?_, encD_rd (hs x y hdx)⟩
    rw [hyl] at htl
    rw [List.getElem?_take, if_pos htl]
    have htv : t < vs0.size := by omega
    simp only [putCells, Array.getElem?_toList, Array.getElem?_mapIdx, Array.getElem?_eq_getElem htv, Option.map_some]
    rw [if_pos ⟨Nat.zero_le _, by rw [size_flatK]; simp [hyl]; exact htl⟩]
    simp [hd3]
end Go.Ab
namespace Go.Proofs
open Go.Shelf
def Tryz.sortIv_ren : Go.Shelf.Ren := ⟨fun | 6 => 130 | 15 => 122 | 14 => 150 | 28 => 145 | 29 => 146 | 20 => 163 | 21 => 164 | 22 => 165 | 23 => 166 | 24 => 167 | 25 => 168 | 26 => 169 | 27 => 170 | 46 => 176 | 47 => 156 | 48 => 157 | 49 => 177 | 50 => 178 | 57 => 183 | n => n, fun | 22 => 53 | 24 => 35 | 25 => 168 | 3 => 3 | 39 => 156 | 0 => 0 | 53 => 181 | 55 => 183 | 4 => 4 | 46 => 175 | 45 => 174 | 50 => 101 | 5 => 5 | 9 => 9 | 66 => 187 | 70 => 191 | 76 => 202 | 77 => 74 | n => n, fun | n => n⟩
theorem Tryz.sortIv : Go.Proofs.SlLaysF0.n6 Tryz.prog Tryz.sortIv_ren := {
  mixed := by kernel_rfl
  f6 := ⟨Tryz.f130.name, by decide, Tryz.func130.trans (congrArg some (by kernel_rfl))⟩
  f14 := ⟨Tryz.f150.name, by decide, Tryz.func150.trans (congrArg some (by kernel_rfl))⟩
  f15 := Tryz.func122.trans (congrArg some (by kernel_rfl))
  f20 := ⟨Tryz.f163.name, by decide, Tryz.func163.trans (congrArg some (by kernel_rfl))⟩
  f21 := ⟨Tryz.f164.name, by decide, Tryz.func164.trans (congrArg some (by kernel_rfl))⟩
  f22 := ⟨Tryz.f165.name, by decide, Tryz.func165.trans (congrArg some (by kernel_rfl))⟩
  f23 := ⟨Tryz.f166.name, by decide, Tryz.func166.trans (congrArg some (by kernel_rfl))⟩
  f24 := ⟨Tryz.f167.name, by decide, Tryz.func167.trans (congrArg some (by kernel_rfl))⟩
  f25 := ⟨Tryz.f168.name, by decide, Tryz.func168.trans (congrArg some (by kernel_rfl))⟩
  f26 := ⟨Tryz.f169.name, by decide, Tryz.func169.trans (congrArg some (by kernel_rfl))⟩
  f27 := ⟨Tryz.f170.name, by decide, Tryz.func170.trans (congrArg some (by kernel_rfl))⟩
  f28 := Tryz.func145.trans (congrArg some (by kernel_rfl))
  f29 := Tryz.func146.trans (congrArg some (by kernel_rfl))
  f46 := ⟨Tryz.f176.name, by decide, Tryz.func176.trans (congrArg some (by kernel_rfl))⟩
  f47 := Tryz.func156.trans (congrArg some (by kernel_rfl))
  f48 := Tryz.func157.trans (congrArg some (by kernel_rfl))
  f49 := ⟨Tryz.f177.name, by decide, Tryz.func177.trans (congrArg some (by kernel_rfl))⟩
  f50 := ⟨Tryz.f178.name, by decide, Tryz.func178.trans (congrArg some (by kernel_rfl))⟩
  f57 := ⟨Tryz.f183.name, by decide, Tryz.func183.trans (congrArg some (by kernel_rfl))⟩
  t0 := Tryz.underlying0
  a0 := Tryz.isAgg0
  z0 := Tryz.sizeOf0
  v0 := Tryz.zeroValue0
  t3 := Tryz.underlying3
  a3 := Tryz.isAgg3
  z3 := Tryz.sizeOf3
  v3 := Tryz.zeroValue3
  t4 := Tryz.underlying4
  a4 := Tryz.isAgg4
  z4 := Tryz.sizeOf4
  v4 := Tryz.zeroValue4
  t5 := Tryz.underlying5
  a5 := Tryz.isAgg5
  z5 := Tryz.sizeOf5
  v5 := Tryz.zeroValue5
  t9 := Tryz.underlying9
  a9 := Tryz.isAgg9
  z9 := Tryz.sizeOf9
  v9 := Tryz.zeroValue9
  t22 := Tryz.underlying53
  a22 := Tryz.isAgg53
  z22 := Tryz.sizeOf53
  v22 := Tryz.zeroValue53
  t25 := Tryz.underlying168
  a25 := Tryz.isAgg168
  z25 := Tryz.sizeOf168
  v25 := Tryz.zeroValue168
  t39 := Tryz.underlying156
  a39 := Tryz.isAgg156
  z39 := Tryz.sizeOf156
  v39 := Tryz.zeroValue156
  t45 := Tryz.underlying174
  a45 := Tryz.isAgg174
  z45 := Tryz.sizeOf174
  v45 := Tryz.zeroValue174
  t46 := Tryz.underlying175
  a46 := Tryz.isAgg175
  z46 := Tryz.sizeOf175
  v46 := Tryz.zeroValue175
  t50 := Tryz.underlying101
  a50 := Tryz.isAgg101
  z50 := Tryz.sizeOf101
  v50 := Tryz.zeroValue101
  t53 := Tryz.underlying181
  a53 := Tryz.isAgg181
  z53 := Tryz.sizeOf181
  v53 := Tryz.zeroValue181
  t55 := Tryz.underlying183
  a55 := Tryz.isAgg183
  z55 := Tryz.sizeOf183
  v55 := Tryz.zeroValue183
  t66 := Tryz.underlying187
  a66 := Tryz.isAgg187
  z66 := Tryz.sizeOf187
  v66 := Tryz.zeroValue187
  t70 := Tryz.underlying191
  a70 := Tryz.isAgg191
  z70 := Tryz.sizeOf191
  v70 := Tryz.zeroValue191
  t76 := Tryz.underlying202
  a76 := Tryz.isAgg202
  z76 := Tryz.sizeOf202
  v76 := Tryz.zeroValue202
  t77 := Tryz.underlying74
  a77 := Tryz.isAgg74
  z77 := Tryz.sizeOf74
  v77 := Tryz.zeroValue74 }
end Go.Proofs
namespace Go.Ab
abbrev mxT : Int := 68719476736
def ivOk (i : Iv) : Bool := decide (0 ≤ i.1) && (decide (i.1 < i.2) && decide (i.2 ≤ mxT))
theorem ivOk_iff {i : Iv} : ivOk i = true ↔ 0 ≤ i.1 ∧ i.1 < i.2 ∧ i.2 ≤ mxT := by
  simp only [ivOk, Bool.and_eq_true, decide_eq_true_eq]
def inV (l : List Iv) (t : Int) : Prop := ∃ i ∈ l, i.1 ≤ t ∧ t < i.2
def hasV (l : List Iv) (t : Int) : Prop := ∃ i ∈ l, ivOk i = true ∧ i.1 ≤ t ∧ t < i.2
def NF (l : List Iv) : Prop := l.Pairwise (fun a b => a.2 < b.1) ∧ ∀ i ∈ l, i.1 < i.2
theorem inV_nil {t : Int} : ¬ inV [] t := fun ⟨_, h, _⟩ => by cases h
theorem inV_cons {x : Iv} {l : List Iv} {t : Int} : inV (x :: l) t ↔ (x.1 ≤ t ∧ t < x.2) ∨ inV l t := by
  constructor
  · rintro ⟨i, hi, h⟩
    rcases List.mem_cons.1 hi with rfl | hi
    · exact .inl h
    exact .inr ⟨i, hi, h⟩
  rintro (h | ⟨i, hi, h⟩)
  · exact ⟨x, List.mem_cons_self, h⟩
  exact ⟨i, List.mem_cons_of_mem _ hi, h⟩
theorem hasV_nil {t : Int} : ¬ hasV [] t := fun ⟨_, h, _⟩ => by cases h
theorem hasV_cons {x : Iv} {l : List Iv} {t : Int} : hasV (x :: l) t ↔ (ivOk x = true ∧ x.1 ≤ t ∧ t < x.2) ∨ hasV l t := by
  constructor
  · rintro ⟨i, hi, h⟩
    rcases List.mem_cons.1 hi with rfl | hi
    · exact .inl h
    exact .inr ⟨i, hi, h⟩
  rintro (h | ⟨i, hi, h⟩)
  · exact ⟨x, List.mem_cons_self, h⟩
  exact ⟨i, List.mem_cons_of_mem _ hi, h⟩
theorem hasV_append {a b : List Iv} {t : Int} : hasV (a ++ b) t ↔ hasV a t ∨ hasV b t := by
  constructor
  · rintro ⟨i, hi, h⟩
    rcases List.mem_append.1 hi with hi | hi
    · exact .inl ⟨i, hi, h⟩
    exact .inr ⟨i, hi, h⟩
  rintro (⟨i, hi, h⟩ | ⟨i, hi, h⟩)
  · exact ⟨i, List.mem_append.2 (.inl hi), h⟩
  exact ⟨i, List.mem_append.2 (.inr hi), h⟩
theorem hasV_filter {l : List Iv} {t : Int} : inV (l.filter ivOk) t ↔ hasV l t := by
  constructor
  · rintro ⟨i, hi, h⟩
    have := List.mem_filter.1 hi
    exact ⟨i, this.1, this.2, h⟩
  rintro ⟨i, hi, h1, h⟩
  exact ⟨i, List.mem_filter.2 ⟨hi, h1⟩, h⟩
theorem hasV_ok {l : List Iv} (h : ∀ i ∈ l, ivOk i = true) {t : Int} : hasV l t ↔ inV l t :=
  ⟨fun ⟨i, hi, _, h2⟩ => ⟨i, hi, h2⟩, fun ⟨i, hi, h2⟩ => ⟨i, hi, h i hi, h2⟩⟩
theorem NF.nil : NF [] := ⟨List.Pairwise.nil, fun _ h => by cases h⟩
theorem NF.tail {x : Iv} {l : List Iv} (h : NF (x :: l)) : NF l := ⟨(List.pairwise_cons.1 h.1).2, fun i hi => h.2 i (List.mem_cons_of_mem _ hi)⟩
theorem NF.behind {x : Iv} {l : List Iv} (h : NF (x :: l)) {t : Int} (ht : inV l t) : x.2 < t := by
  obtain ⟨i, hi, h1, _⟩ := ht
  have := (List.pairwise_cons.1 h.1).1 i hi
  omega
theorem NF.head {x : Iv} {l : List Iv} (h : NF (x :: l)) : x.1 < x.2 := h.2 x List.mem_cons_self
theorem NF.cons {x : Iv} {l : List Iv} (h : NF l) (hx : x.1 < x.2) (hl : ∀ k ∈ l, x.2 < k.1) : NF (x :: l) :=
  ⟨List.pairwise_cons.2 ⟨hl, h.1⟩, fun i hi => by
    rcases List.mem_cons.1 hi with rfl | hi
    · exact hx
    · exact h.2 i hi⟩
theorem nf_ext : ∀ {a b : List Iv}, NF a → NF b → (∀ t, inV a t ↔ inV b t) → a = b
  | [], [], _, _, _ => rfl
  | [], y :: b, _, hb, h => absurd ((h y.1).2 (inV_cons.2 (.inl ⟨Int.le_refl _, hb.head⟩))) inV_nil
  | x :: a, [], ha, _, h => absurd ((h x.1).1 (inV_cons.2 (.inl ⟨Int.le_refl _, ha.head⟩))) inV_nil
  | x :: a, y :: b, ha, hb, h => by
    have hx := ha.head
    have hy := hb.head
    have k1 : y.1 ≤ x.1 := by
      rcases inV_cons.1 ((h x.1).1 (inV_cons.2 (.inl ⟨Int.le_refl _, hx⟩))) with k | k
      · exact k.1
      have := hb.behind k; omega
    have k2 : x.1 ≤ y.1 := by
      rcases inV_cons.1 ((h y.1).2 (inV_cons.2 (.inl ⟨Int.le_refl _, hy⟩))) with k | k
      · exact k.1
      have := ha.behind k; omega
    have k3 : ¬ x.2 < y.2 := fun k => by
      rcases inV_cons.1 ((h x.2).2 (inV_cons.2 (.inl ⟨by omega, k⟩))) with k | k
      · omega
      have := ha.behind k; omega
    have k4 : ¬ y.2 < x.2 := fun k => by
      rcases inV_cons.1 ((h y.2).1 (inV_cons.2 (.inl ⟨by omega, k⟩))) with k | k
      · omega
      have := hb.behind k; omega
    have hxy : x = y := Prod.ext (by omega) (by omega)
    subst hxy
    have := nf_ext ha.tail hb.tail fun t => by
      constructor
      · intro k
        have h1 := ha.behind k
        rcases inV_cons.1 ((h t).1 (inV_cons.2 (.inr k))) with k' | k'
        · omega
        exact k'
      intro k
      have h1 := hb.behind k
      rcases inV_cons.1 ((h t).2 (inV_cons.2 (.inr k))) with k' | k'
      · omega
      exact k'
    rw [this]
def mkM : List Iv → Iv → List Iv
  | p :: r, i => if i.1 ≤ p.2 then (p.1, max p.2 i.2) :: r else i :: p :: r
  | [], i => [i]
def NFr (r : List Iv) : Prop := r.Pairwise (fun a b => b.2 < a.1) ∧ ∀ i ∈ r, i.1 < i.2
theorem NFr.nf {r : List Iv} (h : NFr r) : NF r.reverse := ⟨List.pairwise_reverse.2 h.1, fun i hi => h.2 i (List.mem_reverse.1 hi)⟩
theorem inV_reverse {r : List Iv} {t : Int} : inV r.reverse t ↔ inV r t :=
  ⟨fun ⟨i, hi, h⟩ => ⟨i, List.mem_reverse.1 hi, h⟩, fun ⟨i, hi, h⟩ => ⟨i, List.mem_reverse.2 hi, h⟩⟩
theorem mkM_ok {r : List Iv} {i : Iv} (h : NFr r) (hi : i.1 < i.2) (hb : ∀ p, r.head? = some p → p.1 ≤ i.1) :
    NFr (mkM r i) ∧ (∀ t, inV (mkM r i) t ↔ inV r t ∨ (i.1 ≤ t ∧ t < i.2)) ∧ ∀ p, (mkM r i).head? = some p → p.1 ≤ i.1 := by
  cases r with
  | nil =>
    refine ⟨⟨List.pairwise_singleton _ _, fun j hj => ?_⟩, fun t => ?_, fun p hp => ?_⟩
    · simp [mkM] at hj; subst hj; exact hi
    · simp only [mkM, inV_cons]
      constructor
      · rintro (h | h)
        · exact .inr h
        exact absurd h inV_nil
      rintro (h | h)
      · exact absurd h inV_nil
      exact .inl h
    · simp [mkM] at hp; subst hp; exact Int.le_refl _
  | cons p r =>
    have hpb := hb p rfl
    have hp := h.2 p List.mem_cons_self
    have hpw := List.pairwise_cons.1 h.1
    simp only [mkM]
    split
    · rename_i hle
      refine ⟨⟨List.pairwise_cons.2 ⟨hpw.1, hpw.2⟩, fun j hj => ?_⟩, fun t => ?_, fun q hq => ?_⟩
      · rcases List.mem_cons.1 hj with rfl | hj
        · show p.1 < max p.2 i.2
          omega
        exact h.2 j (List.mem_cons_of_mem _ hj)
      · simp only [inV_cons]
        constructor
        · rintro (⟨k1, k2⟩ | k)
          · by_cases ht : t < p.2
            · exact .inl (.inl ⟨k1, ht⟩)
            refine .inr ⟨by omega, ?_⟩
            have : t < max p.2 i.2 := k2
            omega
          exact .inl (.inr k)
        rintro ((⟨k1, k2⟩ | k) | ⟨k1, k2⟩)
        · refine .inl ⟨k1, ?_⟩
          show t < max p.2 i.2
          omega
        · exact .inr k
        refine .inl ⟨?_, ?_⟩
        · show p.1 ≤ t
          omega
        show t < max p.2 i.2
        omega
      cases hq
      exact hpb
    rename_i hle
    refine ⟨⟨List.pairwise_cons.2 ⟨fun j hj => ?_, h.1⟩, fun j hj => ?_⟩, fun t => ?_, fun q hq => ?_⟩
    · rcases List.mem_cons.1 hj with rfl | hj
      · omega
      have := hpw.1 j hj
      omega
    · rcases List.mem_cons.1 hj with rfl | hj
      · exact hi
      exact h.2 j hj
    · rw [inV_cons (x := i)]
      exact Or.comm
    cases hq
    exact Int.le_refl _
theorem foldM_ok : ∀ {q r : List Iv}, q.Pairwise (fun a b => a.1 ≤ b.1) → (∀ i ∈ q, i.1 < i.2) → NFr r → (∀ p, r.head? = some p → ∀ i ∈ q, p.1 ≤ i.1) →
    NFr (q.foldl mkM r) ∧ ∀ t, inV (q.foldl mkM r) t ↔ inV r t ∨ inV q t
  | [], r, _, _, hr, _ => ⟨hr, fun t => ⟨fun h => .inl h, fun h => h.elim id fun h => absurd h inV_nil⟩⟩
  | i :: q, r, hq, hv, hr, hb => by
    have hpw := List.pairwise_cons.1 hq
    obtain ⟨k1, k2, k3⟩ := mkM_ok hr (hv i List.mem_cons_self) (fun p hp => hb p hp i List.mem_cons_self)
    obtain ⟨k4, k5⟩ := foldM_ok hpw.2 (fun j hj => hv j (List.mem_cons_of_mem _ hj)) k1 (fun p hp j hj => Int.le_trans (k3 p hp) (hpw.1 j hj))
    refine ⟨k4, fun t => ?_⟩
    rw [List.foldl_cons, k5, k2, inV_cons]
    exact or_assoc
def insI (i : Iv) : List Iv → List Iv
  | [] => [i]
  | j :: l => if i.1 ≤ j.1 then i :: j :: l else j :: insI i l
def sortI : List Iv → List Iv
  | [] => []
  | i :: l => insI i (sortI l)
theorem insI_perm {i : Iv} : ∀ {l : List Iv}, (insI i l).Perm (i :: l)
  | [] => .refl _
  | j :: l => by
    rw [insI]
    split
    · exact .refl _
    exact (List.Perm.cons j insI_perm).trans (List.Perm.swap i j l)
theorem sortI_perm : ∀ {l : List Iv}, (sortI l).Perm l
  | [] => .refl _
  | i :: l => insI_perm.trans (List.Perm.cons i sortI_perm)
theorem insI_sorted {i : Iv} : ∀ {l : List Iv}, l.Pairwise (fun a b => a.1 ≤ b.1) → (insI i l).Pairwise (fun a b => a.1 ≤ b.1)
  | [], _ => List.pairwise_singleton _ _
  | j :: l, h => by
    have hp := List.pairwise_cons.1 h
    rw [insI]
    split
    · rename_i hle
      refine List.pairwise_cons.2 ⟨fun k hk => ?_, h⟩
      rcases List.mem_cons.1 hk with rfl | hk
      · exact hle
      exact Int.le_trans hle (hp.1 k hk)
    rename_i hle
    refine List.pairwise_cons.2 ⟨fun k hk => ?_, insI_sorted hp.2⟩
    rcases List.mem_cons.1 (insI_perm.mem_iff.1 hk) with rfl | hk
    · omega
    exact hp.1 k hk
theorem sortI_sorted : ∀ {l : List Iv}, (sortI l).Pairwise (fun a b => a.1 ≤ b.1)
  | [] => .nil
  | _ :: _ => insI_sorted sortI_sorted
def joinF (l : List Iv) : List Iv := ((sortI (l.filter ivOk)).foldl mkM []).reverse
theorem join_of {l q : List Iv} (hp : q.Perm (l.filter ivOk)) (hs : q.Pairwise (fun a b => a.1 ≤ b.1)) : NF (q.foldl mkM []).reverse ∧ ∀ t, inV (q.foldl mkM []).reverse t ↔ hasV l t := by
  obtain ⟨k1, k2⟩ := foldM_ok (q := q) (r := []) hs (fun i hi => (ivOk_iff.1 (List.mem_filter.1 (hp.mem_iff.1 hi)).2).2.1) ⟨.nil, fun _ h => by cases h⟩ (fun p hp => by cases hp)
  refine ⟨k1.nf, fun t => ?_⟩
  rw [inV_reverse, k2, ← hasV_filter]
  constructor
  · rintro (h | ⟨i, hi, h⟩)
    · exact absurd h inV_nil
    exact ⟨i, hp.mem_iff.1 hi, h⟩
  rintro ⟨i, hi, h⟩
  exact .inr ⟨i, hp.mem_iff.2 hi, h⟩
theorem joinF_nf {l : List Iv} : NF (joinF l) := (join_of sortI_perm sortI_sorted).1
theorem joinF_in {l : List Iv} {t : Int} : inV (joinF l) t ↔ hasV l t := (join_of sortI_perm sortI_sorted).2 t
theorem join_any {l q : List Iv} (hp : q.Perm (l.filter ivOk)) (hs : q.Pairwise (fun a b => a.1 ≤ b.1)) : (q.foldl mkM []).reverse = joinF l :=
  nf_ext (join_of hp hs).1 joinF_nf fun t => ((join_of hp hs).2 t).trans joinF_in.symm
theorem joinF_ok {l : List Iv} : ∀ i ∈ joinF l, ivOk i = true := fun i hi => by
  have h0 := joinF_nf.2 i hi
  have h1 : hasV l i.1 := joinF_in.1 ⟨i, hi, Int.le_refl _, h0⟩
  have h2 : hasV l (i.2 - 1) := joinF_in.1 ⟨i, hi, by omega, by omega⟩
  obtain ⟨j, _, hj, hj2⟩ := h1
  obtain ⟨k, _, hk, hk2⟩ := h2
  have hj := ivOk_iff.1 hj
  have hk := ivOk_iff.1 hk
  exact ivOk_iff.2 ⟨by omega, h0, by omega⟩
theorem joinF_has {l : List Iv} {t : Int} : hasV (joinF l) t ↔ hasV l t := (hasV_ok joinF_ok).trans joinF_in
def meetF : List Iv → List Iv → List Iv
  | x :: a, y :: b => if max x.1 y.1 < min x.2 y.2 then (max x.1 y.1, min x.2 y.2) :: (if x.2 < y.2 then meetF a (y :: b) else meetF (x :: a) b) else (if x.2 < y.2 then meetF a (y :: b) else meetF (x :: a) b)
  | _, _ => []
termination_by a b => a.length + b.length
theorem meetF_nil {b : List Iv} : meetF [] b = [] := by rw [meetF.eq_def]
theorem meetF_nil' : ∀ {a : List Iv}, meetF a [] = []
  | [] => meetF_nil
  | x :: a => by rw [meetF.eq_def]
theorem meetF_cons {x y : Iv} {a b : List Iv} : meetF (x :: a) (y :: b) = if max x.1 y.1 < min x.2 y.2 then (max x.1 y.1, min x.2 y.2) :: (if x.2 < y.2 then meetF a (y :: b) else meetF (x :: a) b) else (if x.2 < y.2 then meetF a (y :: b) else meetF (x :: a) b) := by rw [meetF.eq_def]
theorem meetF_in : ∀ {a b : List Iv}, NF a → NF b → ∀ t, inV (meetF a b) t ↔ inV a t ∧ inV b t
  | [], b, _, _, t => by rw [meetF_nil]; exact ⟨fun h => absurd h inV_nil, fun h => absurd h.1 inV_nil⟩
  | x :: a, [], _, _, t => by rw [meetF_nil']; exact ⟨fun h => absurd h inV_nil, fun h => absurd h.2 inV_nil⟩
  | x :: a, y :: b, ha, hb, t => by
    have hm : inV (if max x.1 y.1 < min x.2 y.2 then (max x.1 y.1, min x.2 y.2) :: (if x.2 < y.2 then meetF a (y :: b) else meetF (x :: a) b) else (if x.2 < y.2 then meetF a (y :: b) else meetF (x :: a) b)) t ↔
        ((x.1 ≤ t ∧ t < x.2) ∧ (y.1 ≤ t ∧ t < y.2)) ∨ inV (if x.2 < y.2 then meetF a (y :: b) else meetF (x :: a) b) t := by
      split
      · rw [inV_cons]
        refine or_congr_left ?_
        show (max x.1 y.1 ≤ t ∧ t < min x.2 y.2) ↔ _
        omega
      constructor
      · exact .inr
      rintro (h | h)
      · omega
      exact h
    rw [meetF_cons, hm, inV_cons, inV_cons]
    by_cases hxy : x.2 < y.2
    · rw [if_pos hxy, meetF_in ha.tail hb t, inV_cons]
      constructor
      · rintro (⟨h1, h2⟩ | ⟨h1, h2⟩)
        · exact ⟨.inl h1, .inl h2⟩
        exact ⟨.inr h1, h2⟩
      rintro ⟨h1 | h1, h2 | h2⟩
      · exact .inl ⟨h1, h2⟩
      · have := hb.behind h2
        omega
      · exact .inr ⟨h1, .inl h2⟩
      exact .inr ⟨h1, .inr h2⟩
    rw [if_neg hxy, meetF_in ha hb.tail t, inV_cons]
    constructor
    · rintro (⟨h1, h2⟩ | ⟨h1, h2⟩)
      · exact ⟨.inl h1, .inl h2⟩
      exact ⟨h1, .inr h2⟩
    rintro ⟨h1 | h1, h2 | h2⟩
    · exact .inl ⟨h1, h2⟩
    · exact .inr ⟨.inl h1, h2⟩
    · have := ha.behind h1
      omega
    exact .inr ⟨.inr h1, h2⟩
termination_by a b => a.length + b.length
theorem meetF_nf : ∀ {a b : List Iv}, NF a → NF b → NF (meetF a b)
  | [], b, _, _ => by rw [meetF_nil]; exact .nil
  | x :: a, [], _, _ => by rw [meetF_nil']; exact .nil
  | x :: a, y :: b, ha, hb => by
    have ih : NF (if x.2 < y.2 then meetF a (y :: b) else meetF (x :: a) b) := by
      split
      · exact meetF_nf ha.tail hb
      exact meetF_nf ha hb.tail
    rw [meetF_cons]
    split
    · rename_i hm
      refine ih.cons hm fun k hk => ?_
      show min x.2 y.2 < k.1
      have hk1 : inV (if x.2 < y.2 then meetF a (y :: b) else meetF (x :: a) b) k.1 := ⟨k, hk, Int.le_refl _, ih.2 k hk⟩
      split at hk1
      · have := ha.behind ((meetF_in ha.tail hb _).1 hk1).1
        omega
      have := hb.behind ((meetF_in ha hb.tail _).1 hk1).2
      omega
    exact ih
termination_by a b => a.length + b.length
def gapsF : Int → List Iv → List Iv
  | n, [] => [(n, mxT)]
  | n, i :: l => (n, i.1) :: gapsF i.2 l
theorem gaps_has : ∀ {l : List Iv} {n : Int}, NF l → (∀ i ∈ l, ivOk i = true) → 0 ≤ n → (∀ i ∈ l, n ≤ i.1) → n ≤ mxT → ∀ t, hasV (gapsF n l) t ↔ (n ≤ t ∧ t < mxT) ∧ ¬ inV l t
  | [], n, _, _, h0, _, hm, t => by
    rw [gapsF, hasV_cons, ivOk_iff]
    constructor
    · rintro (⟨_, h1, h2⟩ | h)
      · exact ⟨⟨h1, h2⟩, inV_nil⟩
      exact absurd h hasV_nil
    · rintro ⟨⟨h1, h2⟩, _⟩
      refine .inl ⟨⟨h0, ?_, Int.le_refl _⟩, h1, h2⟩
      show n < mxT
      omega
  | i :: l, n, hl, hok, h0, hn, hm, t => by
    have hi := ivOk_iff.1 (hok i List.mem_cons_self)
    have hni := hn i List.mem_cons_self
    have hpw := List.pairwise_cons.1 hl.1
    rw [gapsF, hasV_cons, gaps_has hl.tail (fun j hj => hok j (List.mem_cons_of_mem _ hj)) (by omega) (fun j hj => by have := hpw.1 j hj; omega) (by omega), inV_cons, ivOk_iff]
    constructor
    · rintro (⟨_, h1, h2⟩ | ⟨⟨h1, h2⟩, h3⟩)
      · have h1 : n ≤ t := h1
        have h2 : t < i.1 := h2
        refine ⟨⟨h1, by omega⟩, ?_⟩
        rintro (h | h)
        · omega
        have := hl.behind h
        omega
      refine ⟨⟨by omega, h2⟩, ?_⟩
      rintro (h | h)
      · omega
      exact h3 h
    rintro ⟨⟨h1, h2⟩, h3⟩
    by_cases ht : t < i.1
    · refine .inl ⟨⟨h0, ?_, ?_⟩, h1, ht⟩
      · show n < i.1
        omega
      show i.1 ≤ mxT
      omega
    refine .inr ⟨⟨?_, h2⟩, fun h => h3 (.inr h)⟩
    apply Int.not_lt.1
    intro h
    exact h3 (.inl ⟨by omega, h⟩)
def meetJ (a b : List Iv) : List Iv := meetF (joinF a) (joinF b)
def minusJ (a b : List Iv) : List Iv := meetJ a (gapsF 0 (joinF b))
theorem meetJ_nf {a b : List Iv} : NF (meetJ a b) := meetF_nf joinF_nf joinF_nf
theorem meetJ_in {a b : List Iv} {t : Int} : inV (meetJ a b) t ↔ hasV a t ∧ hasV b t := by
  rw [meetJ, meetF_in joinF_nf joinF_nf, joinF_in, joinF_in]
theorem hasV_range {a : List Iv} {t : Int} (h : hasV a t) : 0 ≤ t ∧ t < mxT := by
  obtain ⟨i, _, h1, h2⟩ := h
  have := ivOk_iff.1 h1
  omega
theorem minusJ_nf {a b : List Iv} : NF (minusJ a b) := meetJ_nf
theorem minusJ_in {a b : List Iv} {t : Int} : inV (minusJ a b) t ↔ hasV a t ∧ ¬ hasV b t := by
  rw [minusJ, meetJ_in, gaps_has joinF_nf joinF_ok (Int.le_refl _) (fun i hi => (ivOk_iff.1 (joinF_ok i hi)).1) (by decide), joinF_in]
  constructor
  · rintro ⟨h1, _, h2⟩
    exact ⟨h1, h2⟩
  rintro ⟨h1, h2⟩
  exact ⟨h1, hasV_range h1, h2⟩
theorem ok_of_range {l : List Iv} (h : NF l) (hr : ∀ t, inV l t → 0 ≤ t ∧ t < mxT) : ∀ i ∈ l, ivOk i = true := fun i hi => by
  have h0 := h.2 i hi
  have h1 := hr i.1 ⟨i, hi, Int.le_refl _, h0⟩
  have h2 := hr (i.2 - 1) ⟨i, hi, by omega, by omega⟩
  exact ivOk_iff.2 ⟨by omega, h0, by omega⟩
theorem meetJ_ok {a b : List Iv} : ∀ i ∈ meetJ a b, ivOk i = true := ok_of_range meetJ_nf fun _ h => hasV_range (meetJ_in.1 h).1
end Go.Ab
namespace Go.Ab
def pairs : List Int → List Iv
  | a :: b :: l => (a, b) :: pairs (b :: l)
  | _ => []
def hasW (l : List Iv) (t : Int) : Bool := l.any fun i => ivOk i && (decide (i.1 ≤ t) && decide (t < i.2))
theorem hasW_iff {l : List Iv} {t : Int} : hasW l t = true ↔ hasV l t := by
  simp only [hasW, List.any_eq_true, Bool.and_eq_true, decide_eq_true_eq, hasV]
end Go.Ab
