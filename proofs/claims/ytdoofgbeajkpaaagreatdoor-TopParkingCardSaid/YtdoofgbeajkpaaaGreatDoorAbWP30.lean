/-
  Texts of the layer and of the laws, put together: AbSo0, AbSo1, AbSo2.
-/
import Derived.Test.YtdoofgbeajkpaaaGreatDoorAbWP10
import Derived.Test.YtdoofgbeajkpaaaGreatDoorAbWP12
import Derived.Shelf.SlSortCmp.NoneTotal
import Derived.Test.YtdoofgbeajkpaaaGreatDoorAbWP29
set_option linter.unusedSimpArgs false
set_option linter.unusedVariables false
set_option maxRecDepth 100000
set_option linter.defProp false
namespace Go.Ab
open Go.Proofs
def Gd : Gl := { f := fun _ => none, inv := fun _ => True, stable := fun _ _ _ _ => trivial, dr := true }
theorem gd_sz {tab : Tab} {t : TypeId} : (ctx Tryz.prog Gd tab).size t = (ctx Tryz.prog Gt []).size t := rfl
theorem gd_ag {tab : Tab} {t : TypeId} : (ctx Tryz.prog Gd tab).isAgg t = (ctx Tryz.prog Gt []).isAgg t := rfl
theorem gd_zr {tab : Tab} {t : TypeId} : (ctx Tryz.prog Gd tab).zero t = (ctx Tryz.prog Gt []).zero t := rfl
theorem gd_fa {tab : Tab} {d : Option TypeDesc} {x : AV} {f : Nat} {h : Hp} : fldA (ctx Tryz.prog Gd tab) d x f h = fldA (ctx Tryz.prog Gt []) d x f h := rfl
def GX := Zk @gd_sz <| Zk @gd_ag <| Zk @gd_zr @gd_fa
end Go.Ab
namespace Go.Ab
open Go.RowKit Go.Proofs Go.Shelf Go.Lib Go.Sort
theorem grown_of {w w' : World} (h : Below w.heap.size w w') (hd : w.drawn ≤ w'.drawn) : ∃ q os', w' = grow (w.drewN q) os' := by
  refine ⟨w'.drawn - w.drawn, w'.heap.extract w.heap.size w'.heap.size, ?_⟩
  have hh : w'.heap = w.heap ++ w'.heap.extract w.heap.size w'.heap.size := by
    apply Array.ext_getElem?
    intro k
    have hs := h.size
    rw [Array.getElem?_append]
    by_cases hk : k < w.heap.size
    · rw [if_pos hk]; exact h.block k hk
    rw [if_neg hk, Array.getElem?_extract]
    by_cases hk2 : k < w'.heap.size
    · rw [if_pos (by omega)]; congr 1; omega
    rw [if_neg (by omega), Array.getElem?_eq_none (by omega)]
  have ho := h.os
  have ht := h.tape
  have hu := h.output
  obtain ⟨hp, tp, dr, os, out⟩ := w
  obtain ⟨hp', tp', dr', os', out'⟩ := w'
  simp only [grow, World.drewN] at *
  subst ho ht hu
  rw [← hh]
  congr 1
  omega
def simD : D → Bool
  | .bool _ => true
  | .int _ _ => true
  | .str _ => true
  | _ => false
def encD : D → Value
  | .bool b => .bool b
  | .int k n => .int k n
  | .str l => .string ⟨l.toArray⟩
  | _ => undef
theorem encD_of {w : World} {F : Fz} {v : Value} {d : D} (hs : simD d = true) (hr : Rd w F v d) : v = encD d := by
  cases hr <;> first | rfl | cases hs
theorem encD_rd {w : World} {F : Fz} {d : D} (hs : simD d = true) : Rd w F (encD d) d := by
  cases d with
  | bool b => exact .bool b
  | int k n => exact .int k n
  | str l => exact Rd.str' (by simp)
  | _ => cases hs
theorem encD_one {d : D} (hs : simD d = true) : (encD d).oneCell' = true := by
  cases d <;> first | rfl | cases hs
theorem cmpLays_of_pure {P : Program} {f : FuncId} {m : List PA → Option (List PA)} (hp : PureC P Gd f m) {α : Type} (dec : α → List D) (hs : ∀ x, ∀ d ∈ dec x, simD d = true) (cf : α → α → Int)
    (hm : ∀ x y, m [.agg (dec x), .agg (dec y)] = some [.c (.int .i64 (cf x y))]) (k blk off size : Nat) (w : World) [Inhabited α] : CmpLays P f #[] (fun x => (dec x).map encD) k cf blk off size w := by
  intro q os dk hdk x y
  have hrel : ∀ (w : World) (z : α), (DV.agg (dec z)).rel w (fun _ _ => False) (.agg ((dec z).map encD).toArray) := fun w z => by
    refine ⟨(dec z).map encD, rfl, by simp, fun j d hj => ⟨encD d, by rw [List.getElem?_map, hj]; rfl, encD_rd (hs z d (List.mem_of_getElem? hj))⟩⟩
  refine (hp.2 (sortWorldK (fun x => (dec x).map encD) k w blk off q dk os) (fun _ _ => False) _ [.agg (dec x), .agg (dec y)] _ (fun _ _ h => h.elim) ⟨fun g xs h => (by cases h), trivial⟩ (by simp) (fun j p hj => ?_) (hm x y)).mono ?_
  · match j with
    | 0 => cases hj; exact hrel _ _
    | 1 => cases hj; exact hrel _ _
    | j + 2 => simp at hj
  rintro e w' ⟨v, rfl, hv, hb, hd⟩
  have hv : Rd w' _ v (.int .i64 (cf x y)) := hv
  rw [int_inv hv]
  exact ⟨rfl, grown_of hb (hd rfl)⟩
theorem sortHeap {α : Type} [Inhabited α] (enc : α → List Value) (k : Nat) (w : World) (b n : Nat) (d : Array α) (os : Array Obj) {c : Nat} (hc : c < w.heap.size) (hne : c ≠ b) : (sortWorldK enc k w b 0 n d os).heap[c]? = w.heap[c]? := by
  simp only [sortWorldK, grow, putRowK, putRow, mapBlock, ahead]
  rw [Array.getElem?_append_left (by simpa [ahead] using hc), Array.getElem?_modify, if_neg (Ne.symm hne)]
  rfl
theorem sortHeap_at {α : Type} [Inhabited α] (enc : α → List Value) (k : Nat) (w : World) (b n : Nat) (d : Array α) (os : Array Obj) {vs : Array Value} {T : TypeId} {fr : Nat × Nat} (hb : w.heap[b]? = some (.cells vs T fr)) :
    (sortWorldK enc k w b 0 n d os).heap[b]? = some (.cells (putCells id 0 (flatK enc k d) vs) T fr) := by
  have hbl : b < w.heap.size := (Array.getElem?_eq_some_iff.1 hb).1
  simp only [sortWorldK, grow, putRowK, putRow, mapBlock, ahead]
  rw [Array.getElem?_append_left (by simpa [ahead] using hbl), Array.getElem?_modify, if_pos rfl]
  show Option.map _ w.heap[b]? = _
  rw [hb]
  rfl
theorem divmod_lt {k n t : Nat} (h : t < n * k) : t / k < n ∧ t % k < k := by
  have k0 : 0 < k := by rcases Nat.eq_zero_or_pos k with e | e; · subst e; simp at h
                        · exact e
  exact ⟨(Nat.div_lt_iff_lt_mul k0).2 h, Nat.mod_lt _ k0⟩
theorem flat_at {α : Type} {k : Nat} (dec : α → List D) (hk : ∀ x, (dec x).length = k) (xs : List α) {t : Nat} (ht : t < xs.length * k) :
    ∃ (h1 : t / k < xs.length), (xs.flatMap dec)[t]? = (dec xs[t / k])[t % k]? := by
  obtain ⟨h1, h2⟩ := divmod_lt ht
  refine ⟨h1, ?_⟩
  have hall : ∀ e ∈ xs.map dec, e.length = k := fun e he => by
    obtain ⟨x, _, rfl⟩ := List.mem_map.1 he
    exact hk x
  have := (flat_get (xs.map dec) hall).2 (t / k) (t % k) (dec xs[t / k]) (by rw [List.getElem?_map, List.getElem?_eq_getElem h1]; rfl) h2
  rw [Nat.div_add_mod'] at this
  rw [← this, List.flatMap_def]
theorem flat_len {α : Type} {k : Nat} (dec : α → List D) (hk : ∀ x, (dec x).length = k) (xs : List α) : (xs.flatMap dec).length = xs.length * k := by
  have hall : ∀ e ∈ xs.map dec, e.length = k := fun e he => by
    obtain ⟨x, _, rfl⟩ := List.mem_map.1 he
    exact hk x
  rw [List.flatMap_def, (flat_get (xs.map dec) hall).1, List.length_map]
theorem flatK_at {α : Type} [Inhabited α] {k : Nat} (dec : α → List D) (hk : ∀ x, (dec x).length = k) (xs : List α) {t : Nat} (ht : t < xs.length * k) :
    ∃ d, (xs.flatMap dec)[t]? = some d ∧ (∃ x ∈ xs, d ∈ dec x) ∧ (flatK (fun x => (dec x).map encD) k xs.toArray)[t]! = encD d := by
  obtain ⟨h1, h2⟩ := flat_at dec hk xs ht
  have h3 := (divmod_lt ht).2
  rw [get_flatK _ _ _ _ (by simpa using ht)]
  have hl : t % k < (dec xs[t / k]).length := by rw [hk]; exact h3
  refine ⟨(dec xs[t / k])[t % k], by rw [h2, List.getElem?_eq_getElem hl], ⟨_, List.getElem_mem h1, List.getElem_mem hl⟩, ?_⟩
  rw [getElem!_pos xs.toArray (t / k) (by simpa using h1), getElem!_pos _ (t % k) (by simpa using hl)]
  simp
abbrev sortBy {α : Type} (cf : α → α → Int) (xs : List α) : List α := xs.mergeSort fun x y => !(ltOf cf) y x
theorem fok_sort {P : Program} {ρ : Ren} (L : SlLaysF0.n6 P ρ) {k : Nat} (hk0 : 0 < k) (aE : ∀ w, (isAgg (ρ.t 24)).run P w = .ok true w) (zE : ∀ w, (Go.sizeOf (ρ.t 24)).run P w = .ok k w) {G : Gl} {g : FuncId} {m : List PA → Option (List PA)} (hp : PureC P Gd g m)
    {α : Type} [Inhabited α] (dec : α → List D) (hk : ∀ x, (dec x).length = k) (hs : ∀ x, ∀ d ∈ dec x, simD d = true) (cf : α → α → Int) (hm : ∀ x y, m [.agg (dec x), .agg (dec y)] = some [.c (.int .i64 (cf x y))])
    (hO : SWO (ltOf cf)) (hT : ∀ x y, (ltOf cf) x y = false → (ltOf cf) y x = false → x = y) (xs : List α) (hsz : xs.length < 4611686018427387904) {id : Nat} {h : Hp} (hid : h[id]? = some (.tok xs.length k (some ((xs.flatMap dec).map .d)))) :
    FOk P G (ρ.f 6) [.v (.c (.msl id xs.length)), .v (.c (.fn g []))] h (.ret (.tup []) (h.set id (.tok xs.length k (some (((sortBy cf xs).flatMap dec).map .d))))) := by
  intro A E vs hG hE hvs hrel o a K Q hd
  have henter : (callFunc (ρ.f 6) vs).run P E.w = .ok (.enter (ρ.f 6) vs) E.w := L.f6.enters rfl vs E.w
  rw [henter, Oper.upon_enter]
  have hidl := lt_of_get hid
  have hperm : (sortBy cf xs).Perm xs := List.mergeSort_perm _ _
  have hlen : (sortBy cf xs).length = xs.length := hperm.length_eq
  have h0 := hrel 0 _ rfl
  have h1 := hrel 1 _ rfl
  obtain ⟨vsc, hv1, hl1, _⟩ := h1
  have hvsc : vsc = [] := List.eq_nil_of_length_eq_zero (by simpa using hl1)
  subst hvsc
  obtain ⟨_, m', z', c', hid', _, ho⟩ := h0
  rw [hid] at hid'
  cases hid'
  have ho := ho rfl
  have hargs : vs = #[vs.getD 0 undef, vs.getD 1 undef] := by
    apply Array.ext
    · simpa using hvs
    intro i h2 h3
    have : i < 2 := by simpa using h3
    match i with
    | 0 => simp [Array.getD, show 0 < vs.size by omega]
    | 1 => simp [Array.getD, show 1 < vs.size by omega]
    | i + 2 => omega
  rw [hargs, hv1]
  unfold OwnRow at ho
  have hob := hE.ob id _ hid
  cases hρ : E.ρ id with
  | none =>
    rw [hρ] at ho
    obtain ⟨⟨base, hv0⟩, hn0⟩ := ho
    have hx : xs = [] := List.eq_nil_of_length_eq_zero hn0
    subst hx
    rw [hv0]
    refine (AnyF.slices_SortFunc_none L base 0 _ E.w).mono ?_
    rintro e w' ⟨rfl, rfl⟩
    have hset : h.set id (.tok ([] : List α).length k (some (((sortBy cf []).flatMap dec).map .d))) = h := by
      have : (sortBy cf ([] : List α)) = [] := by simp [sortBy]
      rw [this]
      rw [List.getElem?_eq_getElem hidl] at hid
      rw [← Option.some.inj hid]
      exact List.set_getElem_self hidl
    have hd' : ∀ u E', Evo h.length E h E' (h.set id _) → EnvOk A E' (h.set id _) → AV.rel E' (h.set id _) u (.tup []) → K (a.put o.dst u) E'.w := hd
    rw [hset] at hd'
    exact hd' (.tuple #[]) E (Evo.refl (Nat.le_refl _)) hE ⟨[], rfl, rfl, fun j x hj => by simp at hj⟩
  | some b =>
    rw [hρ] at ho
    obtain ⟨cap, vs0, T, hv0, hnc, _, hb, hvsz⟩ := ho
    obtain ⟨_, ⟨h3, _⟩ | ⟨b', vs', T', h3, hb', hmz, hco, hnf⟩⟩ := hob
    · rw [hρ] at h3; cases h3
    rw [hρ] at h3
    cases h3
    rw [hb] at hb'
    cases hb'
    have hbl : b < E.w.heap.size := (Array.getElem?_eq_some_iff.1 hb).1
    have hH : HoldsK (fun x => (dec x).map encD) k E.w b 0 xs.toArray := by
      intro t ht
      rw [size_flatK] at ht
      have ht : t < xs.length * k := by simpa using ht
      obtain ⟨d, hd1, ⟨x, _, hdx⟩, hd3⟩ := flatK_at dec hk xs ht
      rw [hd3]
      obtain ⟨u, hu, hur, _⟩ := hco.2 t (.d d) (by rw [List.getElem?_map, hd1]; rfl)
      rw [List.getElem?_take, if_pos ht] at hu
      have hu : vs0[t]? = some u := by simpa using hu
      have hur : Rd E.w E.F u d := hur
      rw [encD_of (hs x d hdx) hur] at hu
      constructor
      · simp only [World.cell?, hb, Nat.zero_add]
        simpa using hu
      exact Lib.frozen_of_heap hb _
    rw [hv0]
    have hsz' : xs.toArray.size = xs.length := by simp
    rw [← hsz']
    refine (AnyQ.slices_SortFunc_total L k aE zE (fun x => (dec x).map encD) (fun x => by simp [hk]) (fun x v hv => by
      obtain ⟨d, hd, rfl⟩ := List.mem_map.1 hv
      exact encD_one (hs x d hd)) cf hO g #[] b 0 cap xs.toArray E.w (hp.1) (cmpLays_of_pure hp dec hs cf hm k b 0 _ E.w) hH hbl (by simpa using hsz) hT).mono ?_
    rintro e w' ⟨rfl, n, os, rfl⟩
    simp only [List.toList_toArray]
    have hd : Done A E h o a K Q (.val (.tup []) (h.set id (.tok xs.length k (some (((xs.mergeSort fun x y => !(ltOf cf) y x).flatMap dec).map .d))))) := hd
    have hyl : (xs.mergeSort fun x y => !(ltOf cf) y x).length = xs.length := hlen
    generalize (xs.mergeSort fun x y => !(ltOf cf) y x) = ys at hd hyl ⊢
    have hheap := sortHeap_at (fun x => (dec x).map encD) k E.w b n ys.toArray os hb
    have hoth : ∀ c, c < E.w.heap.size → c ≠ b → (sortWorldK (fun x => (dec x).map encD) k E.w b 0 n ys.toArray os).heap[c]? = E.w.heap[c]? := fun c hc hne => sortHeap _ k E.w b n ys.toArray os hc hne
    let E' : Env := { E with w := sortWorldK (fun x => (dec x).map encD) k E.w b 0 n ys.toArray os }
    have hrs : (putCells _root_.id 0 (flatK (fun x => (dec x).map encD) k ys.toArray) vs0).size = vs0.size := by simp [putCells]
    have hat : (h.set id (.tok xs.length k (some ((ys.flatMap dec).map .d))))[id]? = some (.tok xs.length k (some ((ys.flatMap dec).map .d))) := by simp [hidl]
    have hdrn : E.w.drawn ≤ (sortWorldK (fun x => (dec x).map encD) k E.w b 0 n ys.toArray os).drawn := by
      show E.w.drawn ≤ E.w.drawn + n
      omega
    have st : Stp A.G.dr E h id E' (h.set id (.tok xs.length k (some ((ys.flatMap dec).map .d)))) := {
      os := rfl
      tape := rfl
      output := rfl
      size := by
        show E.w.heap.size ≤ (sortWorldK (fun x => (dec x).map encD) k E.w b 0 n ys.toArray os).heap.size
        simp [sortWorldK, grow, putRowK, ahead]
      blk := fun c hc hne => hoth c hc (fun e => hne ⟨hidl, by rw [hρ, e]⟩)
      idle := Nat.le_of_lt hidl
      len := by simp
      len' := by simp; omega
      ρ := fun _ _ _ => rfl
      hh := fun j _ hji => by rw [List.getElem?_set_ne (Ne.symm hji)]
      F := fun _ _ h => h
      F' := fun c o h => .inl h
      same := fun c o hf => by
        by_cases hcb : c = b
        · subst hcb; exact absurd hf (hnf o)
        exact World.cell?_of_block (hoth c (hE.lt c o hf) hcb)
      at' := fun c _ hc => by
        have hc' : E.ρ id = some c := hc
        rw [hρ] at hc'
        cases hc'
        refine ⟨?_, .inr ⟨hidl, hρ⟩⟩
        exact (Array.getElem?_eq_some_iff.1 hheap).1
      drw := fun _ => hdrn
      keep := fun o ho => by
        rw [hid] at ho
        cases ho
        exact ⟨_, _, hat, Nat.le_refl _, fun _ => ⟨rfl, fun b2 vs2 T2 h2 h3 => by
          rw [hρ] at h2
          cases h2
          rw [hb] at h3
          cases h3
          exact ⟨_, T, hheap, hrs⟩⟩⟩ }
    have ev := st.evo hE
    refine hd (.tuple #[]) E' ev (st.ok hE fun o ho => ?_) ⟨[], rfl, rfl, fun j x hj => by simp at hj⟩
    have ho' : (h.set id (.tok xs.length k (some ((ys.flatMap dec).map .d))))[id]? = some o := ho
    rw [hat] at ho'
    cases ho'
    refine ⟨hk0, .inr ⟨b, _, T, hρ, hheap, by rw [hrs]; exact hmz, ?_, fun o hf => hnf o hf⟩⟩
    refine cells_d' (by rw [flat_len dec hk, hyl]; simp [putCells]; omega) fun t y hy => ?_
    have htl : t < ys.length * k := by have := lt_of_get hy; rw [flat_len dec hk] at this; exact this
    obtain ⟨d, hd1, ⟨x, _, hdx⟩, hd3⟩ := flatK_at dec hk ys htl
    rw [hy] at hd1
    cases hd1
    refine ⟨encD y, ?_, encD_rd (hs x y hdx)⟩
    rw [hyl] at htl
    rw [List.getElem?_take, if_pos htl]
    have htv : t < vs0.size := by omega
    simp only [putCells, Array.getElem?_toList, Array.getElem?_mapIdx, Array.getElem?_eq_getElem htv, Option.map_some]
    rw [if_pos ⟨Nat.zero_le _, by rw [size_flatK]; simp [hyl]; exact htl⟩]
    simp [hd3]
end Go.Ab
namespace Go.Ab
open Go.RowKit Go.Proofs
theorem bytesLess_bef : ∀ a b : List UInt8, Op.bytesLess a b = befB a b
  | [], [] => rfl
  | [], _ :: _ => rfl
  | _ :: _, [] => rfl
  | a :: l, b :: k => by
    rw [Op.bytesLess, befB, bytesLess_bef l k]
    by_cases e : a = b
    · subst e
      simp
    rw [if_neg e]
    have : a.toNat ≠ b.toNat := fun x => e (UInt8.toNat_inj.1 x)
    by_cases h : a < b
    · have h2 : a.toNat < b.toNat := UInt8.lt_iff_toNat_lt.1 h
      simp [h, h2, e]
    have h2 : ¬ a.toNat < b.toNat := fun x => h (UInt8.lt_iff_toNat_lt.2 x)
    simp [h, h2, e]
theorem s_gtr' {a b : List UInt8} : strA .gtr a b = some (.bool (!(Op.bytesLess a b || a == b))) := rfl
noncomputable section
open Classical
def dnI_m : List PA → Option (List PA) := m1 fun _ => some [.b false]
def dnS_m : List PA → Option (List PA) := ms fun _ => some [.b false]
def dcI_m : List PA → Option (List PA) := m2 fun a b => some [.i (ordI a b)]
def dcS_m : List PA → Option (List PA) := mss fun a b => some [.i (ordS a b)]
def encBI (p : Bool × List Int) : List PA := [.c (.sl p.1 (p.2.map rowI))]
theorem encBI_inj (a b : Bool × List Int) (h : encBI a = encBI b) : a = b := by
  obtain ⟨a1, a2⟩ := a
  obtain ⟨b1, b2⟩ := b
  simpa [encBI, mapI_inj] using h
def dor_m : List PA → Option (List PA) := mE encBI fun p => if p.2.length ≤ 1000000 then some [.i (firstNz p.2)] else none
def dsc_m : List PA → Option (List PA) := mE encPP fun p => some [.i (ordP p.1 p.2)]
theorem dnI_ok : PureC Tryz.prog Gd 123 dnI_m := by
  refine pure_of_awp (X := ctx Tryz.prog Gd []) Tryz.func123 rfl rfl (by kernel_rfl) (by kernel_rfl) AllOk.nil.kok ?_
  intro args r h0
  obtain ⟨a, rfl, h⟩ := m1_inv h0
  refine ⟨Nat.le_of_ble_eq_true rfl, ?_⟩
  cases h
  have hc := Nat.zero_add 0
  repeat' (first | simp only [hc, Tryz.f123, GX, ZZ, simprocAttr, ↓reduceIte] | ((first | apply Za | apply Zb | apply Zc | apply Zd | apply Ze | apply Zf | apply Zg | apply Zh) <;> intro hc) | refine Zj ?_)
  all_goals simp [DV.b]
theorem dnS_ok : PureC Tryz.prog Gd 124 dnS_m := by
  refine pure_of_awp (X := ctx Tryz.prog Gd []) Tryz.func124 rfl rfl (by kernel_rfl) (by kernel_rfl) AllOk.nil.kok ?_
  intro args r h0
  obtain ⟨a, rfl, h⟩ := ms_inv h0
  refine ⟨Nat.le_of_ble_eq_true rfl, ?_⟩
  cases h
  have hc := Nat.zero_add 0
  repeat' (first | simp only [hc, Tryz.f124, GX, ZZ, simprocAttr, ↓reduceIte] | ((first | apply Za | apply Zb | apply Zc | apply Zd | apply Ze | apply Zf | apply Zg | apply Zh) <;> intro hc) | refine Zj ?_)
  all_goals simp [DV.b]
theorem dcI_ok : PureC Tryz.prog Gd 86 dcI_m := by
  refine pure_of_awp (X := ctx Tryz.prog Gd [(123, dnI_m)]) Tryz.func86 rfl rfl (by kernel_rfl) (by kernel_rfl) (AllOk.cons dnI_ok AllOk.nil).kok ?_
  intro args r h0
  obtain ⟨a, b, rfl, h⟩ := m2_inv h0
  refine ⟨Nat.le_of_ble_eq_true rfl, ?_⟩
  cases h
  have f1 : ∀ x, dnI_m [.c (.int .i64 x)] = some [.b false] := fun x => rfl
  have hc := Nat.zero_add 0
  repeat' (first | simp only [hc, Tryz.f86, f1, GX, ZZ, simprocAttr, ↓reduceIte] | ((first | apply Za | apply Zb | apply Zc | apply Zd | apply Ze | apply Zf | apply Zg | apply Zh) <;> intro hc) | refine Zj ?_)
  all_goals (simp_all [ordI, DV.i]; try omega)
theorem dcS_ok : PureC Tryz.prog Gd 87 dcS_m := by
  refine pure_of_awp (X := ctx Tryz.prog Gd [(124, dnS_m)]) Tryz.func87 rfl rfl (by kernel_rfl) (by kernel_rfl) (AllOk.cons dnS_ok AllOk.nil).kok ?_
  intro args r h0
  obtain ⟨a, b, rfl, h⟩ := mss_inv h0
  refine ⟨Nat.le_of_ble_eq_true rfl, ?_⟩
  cases h
  have f1 : ∀ x, dnS_m [.c (.str x)] = some [.b false] := fun x => rfl
  have hb := bytesLess_bef a b
  by_cases c1 : a = b
  · subst c1
    have c2 : Op.bytesLess a a = false := by rw [hb, befB_irr]
    have c3 : (a == a) = true := by simp
    have hc := Nat.zero_add 0
    repeat' (first | simp only [hc, Tryz.f87, f1, c2, c3, s_gtr', Bool.or_true, Bool.not_true, GX, ZZ, simprocAttr, ↓reduceIte] | ((first | apply Za | apply Zb | apply Zc | apply Zd | apply Ze | apply Zf | apply Zg | apply Zh) <;> intro hc) | refine Zj ?_)
    all_goals simp [ordS, DV.i]
  have c3 : (a == b) = false := by simpa using c1
  cases c2 : Op.bytesLess a b
  · have c4 : befB a b = false := by rw [← hb, c2]
    have hc := Nat.zero_add 0
    repeat' (first | simp only [hc, Tryz.f87, f1, c2, c3, s_gtr', Bool.or_false, Bool.not_false, GX, ZZ, simprocAttr, ↓reduceIte] | ((first | apply Za | apply Zb | apply Zc | apply Zd | apply Ze | apply Zf | apply Zg | apply Zh) <;> intro hc) | refine Zj ?_)
    all_goals simp [ordS, DV.i, c1, c4]
  have c4 : befB a b = true := by rw [← hb, c2]
  have hc := Nat.zero_add 0
  repeat' (first | simp only [hc, Tryz.f87, f1, c2, c3, GX, ZZ, simprocAttr, ↓reduceIte] | ((first | apply Za | apply Zb | apply Zc | apply Zd | apply Ze | apply Zf | apply Zg | apply Zh) <;> intro hc) | refine Zj ?_)
  all_goals simp [ordS, DV.i, c1, c4]
theorem dor_ok : PureC Tryz.prog Gd 85 dor_m := by
  refine pure_of_awp (X := ctx Tryz.prog Gd []) Tryz.func85 rfl rfl (by kernel_rfl) (by kernel_rfl) AllOk.nil.kok ?_
  intro args r h0
  obtain ⟨⟨f, xs⟩, rfl, h⟩ := mE_inv h0
  refine ⟨Nat.le_of_ble_eq_true rfl, ?_⟩
  split at h
  · rename_i hl
    dsimp only at hl h
    cases h
    have l1 : ((xs.map rowI).length : Int) = xs.length := by simp
    have hc := Nat.zero_add 0
    repeat' (first | simp only [hc, Tryz.f85, encBI, l1, GX, ZZ, simprocAttr, ↓reduceIte] | ((first | apply Za | apply Zb | apply Zc | apply Zd | apply Ze | apply Zf | apply Zg | apply Zh) <;> intro hc) | refine Zj ?_)
    refine awp_loop (σ := Nat) (fun j => j ≤ xs.length ∧ firstNz xs = firstNz (xs.drop j)) (fun j => ⟨[(8, AV.i j), (7, AV.i xs.length), (6, AV.d (.sl f (xs.map rowI))), (3, AV.i 0)], []⟩) (fun j => xs.length - j) 0 (Wk.sub' (by simp [subT, look]) rfl) (by simp) ?_
    rintro j ⟨hj, hout⟩
    by_cases hjl : j < xs.length
    · have hlt : ((j : Int) < (xs.length : Int)) = True := eq_true (by omega)
      have hw := wI (n := (j : Int) + 1) (by omega) (by omega)
      have e1 : (xs.map rowI)[j]? = some [.int .i64 xs[j]] := by simp [hjl, rowI]
      rw [List.drop_eq_getElem_cons hjl, firstNz] at hout
      generalize xs[j] = x at *
      by_cases c1 : x = 0
      · rw [if_neg (by simpa using c1)] at hout
        subst c1
        have hc := Nat.zero_add 0
        repeat' (first | simp only [hc, SX, l1, hlt, nn, hw, e1, GX, ZZ, simprocAttr, ↓reduceIte] | ((first | apply Za | apply Zb | apply Zc | apply Zd | apply Ze | apply Zf | apply Zg | apply Zh) <;> intro hc) | refine Zj ?_)
        exact lp_next (j + 1) (Wk.sub' (by simp [subT, look]) rfl) ⟨by omega, hout⟩ (by omega)
      rw [if_pos c1] at hout
      have hc := Nat.zero_add 0
      repeat' (first | simp only [hc, SX, l1, hlt, nn, e1, c1, GX, ZZ, simprocAttr, ↓reduceIte] | ((first | apply Za | apply Zb | apply Zc | apply Zd | apply Ze | apply Zf | apply Zg | apply Zh) <;> intro hc) | refine Zj ?_)
      all_goals simp [hout, DV.i]
    have hlt : ((j : Int) < (xs.length : Int)) = False := eq_false (by omega)
    rw [List.drop_of_length_le (by omega)] at hout
    have hc := Nat.zero_add 0
    repeat' (first | simp only [hc, SX, l1, hlt, GX, ZZ, simprocAttr, ↓reduceIte] | ((first | apply Za | apply Zb | apply Zc | apply Zd | apply Ze | apply Zf | apply Zg | apply Zh) <;> intro hc) | refine Zj ?_)
    all_goals simp [hout, firstNz, DV.i]
  cases h
theorem dor_at {l : List Int} {f : Bool} (h : l.length ≤ 1000000) : dor_m [.c (.sl f (l.map rowI))] = some [.i (firstNz l)] := by
  have := mE_eq encBI_inj (g := fun p => if p.2.length ≤ 1000000 then some [.i (firstNz p.2)] else none) (a := (f, l))
  exact this.trans (if_pos h)
theorem dsc_ok : PureC Tryz.prog Gd 84 dsc_m := by
  refine pure_of_awp (X := ctx Tryz.prog Gd [(86, dcI_m), (87, dcS_m), (85, dor_m)]) Tryz.func84 rfl rfl (by kernel_rfl) (by kernel_rfl) (AllOk.cons dcI_ok (AllOk.cons dcS_ok (AllOk.cons dor_ok AllOk.nil))).kok ?_
  intro args r h0
  obtain ⟨⟨⟨k1, z1, p1, t1, u1⟩, ⟨k2, z2, p2, t2, u2⟩⟩, rfl, h⟩ := mE_inv h0
  refine ⟨Nat.le_of_ble_eq_true rfl, ?_⟩
  dsimp only at h
  cases h
  have hR : ordP ⟨k1, z1, p1, t1, u1⟩ ⟨k2, z2, p2, t2, u2⟩ = firstNz [ordI t1 t2, ordI k1 k2, ordS z1 z2, ordS p1 p2, ordI u1 u2] := rfl
  have f1 : ∀ x y, dcI_m [.c (.int .i64 x), .c (.int .i64 y)] = some [.i (ordI x y)] := fun _ _ => rfl
  have f2 : ∀ x y, dcS_m [.c (.str x), .c (.str y)] = some [.i (ordS x y)] := fun _ _ => rfl
  rw [hR]
  have f3 : dor_m [.c (.sl true [[.int .i64 (ordI t1 t2)], [.int .i64 (ordI k1 k2)], [.int .i64 (ordS z1 z2)], [.int .i64 (ordS p1 p2)], [.int .i64 (ordI u1 u2)]])] = some [.i (firstNz [ordI t1 t2, ordI k1 k2, ordS z1 z2, ordS p1 p2, ordI u1 u2])] := dor_at (l := [ordI t1 t2, ordI k1 k2, ordS z1 z2, ordS p1 p2, ordI u1 u2]) (by simp)
  have hc := Nat.zero_add 0
  repeat' (first | simp only [hc, Tryz.f84, encPP, Par.row, SX, f1, f2, f3, GX, ZZ, simprocAttr, ↓reduceIte] | ((first | apply Za | apply Zb | apply Zc | apply Zd | apply Ze | apply Zf | apply Zg | apply Zh) <;> intro hc) | refine Zj ?_)
  all_goals simp [DV.i]
end
end Go.Ab
