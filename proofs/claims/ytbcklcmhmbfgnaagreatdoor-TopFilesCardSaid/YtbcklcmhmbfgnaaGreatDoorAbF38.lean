/-
  Texts of the layer and of the laws, put together: AbSo0, AbA39, AbSo1, AbShR, AbA40.
-/
import Derived.Test.YtbcklcmhmbfgnaaGreatDoorAbF10
import Derived.Test.YtbcklcmhmbfgnaaGreatDoorAbF12
import Derived.Test.YtbcklcmhmbfgnaaGreatDoorAbF37
import Derived.Test.YtbcklcmhmbfgnaaGreatDoorAbF14
import Derived.Test.YtbcklcmhmbfgnaaGreatDoorAbF16
import Derived.Shelf.SlSortCmp.NoneTotal
import Derived.Shelf.SlLaysF0
import Derived.Test.YtbcklcmhmbfgnaaGreatDoorProg
import Derived.Test.YtbcklcmhmbfgnaaGreatDoorAbF11
set_option linter.unusedSimpArgs false
set_option linter.unusedVariables false
set_option maxRecDepth 100000
set_option linter.defProp false
namespace Go.Ab
open Go.Proofs
def Gd : Gl := { f := fun _ => none, inv := fun _ => True, stable := fun _ _ _ _ => trivial, dr := true }
theorem gd_sz {tab : Tab} {t : TypeId} : (ctx Tryz.prog Gd tab).size t = (ctx Tryz.prog Gt []).size t := rfl
theorem gd_ag {tab : Tab} {t : TypeId} : (ctx Tryz.prog Gd tab).isAgg t = (ctx Tryz.prog Gt []).isAgg t := rfl
theorem gd_nf {tab : Tab} {t : TypeId} : (ctx Tryz.prog Gd tab).isIf t = (ctx Tryz.prog Gt []).isIf t := rfl
theorem gd_zr {tab : Tab} {t : TypeId} : (ctx Tryz.prog Gd tab).zero t = (ctx Tryz.prog Gt []).zero t := rfl
theorem gd_ap {tab : Tab} {t : TypeId} : (ctx Tryz.prog Gd tab).apz t = (ctx Tryz.prog Gt []).apz t := rfl
theorem gd_pl {tab : Tab} {t : TypeId} : (ctx Tryz.prog Gd tab).place t = (ctx Tryz.prog Gt []).place t := rfl
theorem gd_fa {tab : Tab} {d : Option TypeDesc} {x : AV} {f : Nat} {h : Hp} : fldA (ctx Tryz.prog Gd tab) d x f h = fldA (ctx Tryz.prog Gt []) d x f h := rfl
theorem gd_fd {tab : Tab} {d : Option TypeDesc} {x : AV} {f : Nat} {h : Hp} : fld (ctx Tryz.prog Gd tab) d x f h = fld (ctx Tryz.prog Gt []) d x f h := rfl
def GX := Zk @gd_sz <| Zk @gd_ag <| Zk @gd_nf <| Zk @gd_zr <| Zk @gd_ap <| Zk @gd_pl <| Zk @gd_fa @gd_fd
end Go.Ab
namespace Go.Ab
open Go.RowKit Go.Proofs
theorem cmpB_eq : ∀ a b : List UInt8, Lib.compareBytes a b = ordS a b
  | [], [] => by simp [Lib.compareBytes, ordS]
  | [], _ :: _ => by simp [Lib.compareBytes, ordS, befB]
  | _ :: _, [] => by simp [Lib.compareBytes, ordS, befB]
  | a :: l, b :: k => by
    have ih := cmpB_eq l k
    rw [Lib.compareBytes]
    unfold ordS at ih ⊢
    rw [befB]
    by_cases h : a = b
    · subst h
      rw [if_neg (UInt8.lt_irrefl a), if_neg (UInt8.lt_irrefl a), ih]
      simp only [List.cons.injEq, true_and, if_true]
    have hne : ¬ (a :: l = b :: k) := fun e => h (List.cons.inj e).1
    rw [if_neg hne, if_neg h]
    have hn : a.toNat ≠ b.toNat := fun e => h (UInt8.toNat_inj.1 e)
    by_cases hlt : a < b
    · rw [if_pos hlt, if_pos (decide_eq_true (UInt8.lt_iff_toNat_lt.1 hlt))]
    have hgt : b < a := UInt8.lt_iff_toNat_lt.2 (by have := mt UInt8.lt_iff_toNat_lt.2 hlt; omega)
    rw [if_neg hlt, if_pos hgt, if_neg (by simp; have := UInt8.lt_iff_toNat_lt.1 hgt; omega)]
def encR2 (p : Rec × Rec) : List PA := [.agg p.1.row, .agg p.2.row]
theorem encR2_inj (a b : Rec × Rec) (h : encR2 a = encR2 b) : a = b := by
  obtain ⟨a1, a2⟩ := a
  obtain ⟨b1, b2⟩ := b
  simp [encR2] at h
  simp [Rec.inj a1 b1 h.1, Rec.inj a2 b2 h.2]
def ordR (a b : Rec) : Int := ordS a.key b.key
noncomputable section
open Classical
def dscmp_m : List PA → Option (List PA) := mss fun a b => if (true : Bool) = true then some [.c (.int .i64 (ordS a b))] else none
def dnet_m : List PA → Option (List PA) := mE encR2 fun p => some [.i (ordR p.1 p.2)]
theorem dscmp_ok : PureC Tryz.prog Gd 96 dscmp_m := by
  refine ⟨fun vs w => enters_of Tryz.func96 (by kernel_rfl) rfl vs w, fun w F vs args r hlt hG hvs hrel hm => ?_⟩
  obtain ⟨a, b, rfl, hg⟩ := mss_inv hm
  rw [if_pos rfl] at hg
  cases hg
  obtain ⟨s, h1, rfl⟩ := rd_str (hrel 0 _ rfl)
  obtain ⟨p, h2, rfl⟩ := rd_str (hrel 1 _ rfl)
  rw [two_args hvs, h1, h2]
  refine (Tryz.strings_Compare s p w).mono fun e w' ⟨he, hw⟩ => ?_
  subst hw
  rw [cmpB_eq] at he
  exact ⟨_, he, .int _ _, Below.refl _ _, fun _ => Nat.le_refl _⟩
theorem dscmp_at {a b : List UInt8} : dscmp_m [.c (.str a), .c (.str b)] = some [.c (.int .i64 (ordS a b))] := by
  rw [dscmp_m, mss_eq]
  rfl
theorem dnet_ok : PureC Tryz.prog Gd 95 dnet_m := by
  refine pure_of_awp (X := ctx Tryz.prog Gd [(96, dscmp_m)]) Tryz.func95 rfl rfl (by kernel_rfl) (by kernel_rfl) (AllOk.cons dscmp_ok AllOk.nil).kok ?_
  intro args r h0
  obtain ⟨⟨a, b⟩, rfl, h⟩ := mE_inv h0
  refine ⟨Nat.le_of_ble_eq_true rfl, ?_⟩
  cases h
  have f1 := @dscmp_at a.key b.key
  simp only [ordR]
  generalize ordS a.key b.key = o at *
  have hc := Nat.zero_add 0
  repeat' (first | simp only [hc, Tryz.f95, encR2, Rec.row, GX, SX, f1, ZZ, simprocAttr, ↓reduceIte] | ((first | apply Za | apply Zb | apply Zc | apply Zd | apply Ze | apply Zf | apply Zg | apply Zh) <;> intro hc) | refine Zj ?_)
  all_goals simp [DV.i]
end
end Go.Ab
namespace Go.Ab
open Go.RowKit Go.Proofs Go.Shelf Go.Lib Go.Sort
theorem grown_of {w w' : World} (h : Below w.heap.size w w') (hd : w.drawn ≤ w'.drawn) : ∃ q os', w' = grow (w.drewN q) os' := by
  refine ⟨w'.drawn - w.drawn, w'.heap.extract w.heap.size w'.heap.size, ?_⟩
  have hh : w'.heap = w.heap ++ w'.heap.extract w.heap.size w'.heap.size := by
    apply Array.ext_getElem?
    intro k
    have hs := h.size
    rw [Array.getElem?_append]
    by_cases hk : k < w.heap.size
    · rw [if_pos hk]; exact h.block k hk
    rw [if_neg hk, Array.getElem?_extract]
    by_cases hk2 : k < w'.heap.size
    · rw [if_pos (by omega)]; congr 1; omega
    rw [if_neg (by omega), Array.getElem?_eq_none (by omega)]
  have ho := h.os
  have ht := h.tape
  have hu := h.output
  obtain ⟨hp, tp, dr, os, out⟩ := w
  obtain ⟨hp', tp', dr', os', out'⟩ := w'
  simp only [grow, World.drewN] at *
  subst ho ht hu
  rw [← hh]
  congr 1
  omega
def simD : D → Bool
  | .bool _ => true
  | .int _ _ => true
  | .str _ => true
  | _ => false
def encD : D → Value
  | .bool b => .bool b
  | .int k n => .int k n
  | .str l => .string ⟨l.toArray⟩
  | _ => undef
theorem encD_of {w : World} {F : Fz} {v : Value} {d : D} (hs : simD d = true) (hr : Rd w F v d) : v = encD d := by
  cases hr <;> first | rfl | cases hs
theorem encD_rd {w : World} {F : Fz} {d : D} (hs : simD d = true) : Rd w F (encD d) d := by
  cases d with
  | bool b => exact .bool b
  | int k n => exact .int k n
  | str l => exact Rd.str' (by simp)
  | _ => cases hs
theorem encD_one {d : D} (hs : simD d = true) : (encD d).oneCell' = true := by
  cases d <;> first | rfl | cases hs
theorem cmpLays_of_pure {P : Program} {f : FuncId} {m : List PA → Option (List PA)} (hp : PureC P Gd f m) {α : Type} (dec : α → List D) (hs : ∀ x, ∀ d ∈ dec x, simD d = true) (cf : α → α → Int)
    (hm : ∀ x y, m [.agg (dec x), .agg (dec y)] = some [.c (.int .i64 (cf x y))]) (k blk off size : Nat) (w : World) [Inhabited α] : CmpLays P f #[] (fun x => (dec x).map encD) k cf blk off size w := by
  intro q os dk hdk x y
  have hrel : ∀ (w : World) (z : α), (DV.agg (dec z)).rel w (fun _ _ => False) (.agg ((dec z).map encD).toArray) := fun w z => by
    refine ⟨(dec z).map encD, rfl, by simp, fun j d hj => ⟨encD d, by rw [List.getElem?_map, hj]; rfl, encD_rd (hs z d (List.mem_of_getElem? hj))⟩⟩
  refine (hp.2 (sortWorldK (fun x => (dec x).map encD) k w blk off q dk os) (fun _ _ => False) _ [.agg (dec x), .agg (dec y)] _ (fun _ _ h => h.elim) ⟨fun g xs h => (by cases h), trivial⟩ (by simp) (fun j p hj => ?_) (hm x y)).mono ?_
  · match j with
    | 0 => cases hj; exact hrel _ _
    | 1 => cases hj; exact hrel _ _
    | j + 2 => simp at hj
  rintro e w' ⟨v, rfl, hv, hb, hd⟩
  have hv : Rd w' _ v (.int .i64 (cf x y)) := hv
  rw [int_inv hv]
  exact ⟨rfl, grown_of hb (hd rfl)⟩
theorem sortHeap {α : Type} [Inhabited α] (enc : α → List Value) (k : Nat) (w : World) (b n : Nat) (d : Array α) (os : Array Obj) {c : Nat} (hc : c < w.heap.size) (hne : c ≠ b) : (sortWorldK enc k w b 0 n d os).heap[c]? = w.heap[c]? := by
  simp only [sortWorldK, grow, putRowK, putRow, mapBlock, ahead]
  rw [Array.getElem?_append_left (by simpa [ahead] using hc), Array.getElem?_modify, if_neg (Ne.symm hne)]
  rfl
theorem sortHeap_at {α : Type} [Inhabited α] (enc : α → List Value) (k : Nat) (w : World) (b n : Nat) (d : Array α) (os : Array Obj) {vs : Array Value} {T : TypeId} {fr : Nat × Nat} (hb : w.heap[b]? = some (.cells vs T fr)) :
    (sortWorldK enc k w b 0 n d os).heap[b]? = some (.cells (putCells id 0 (flatK enc k d) vs) T fr) := by
  have hbl : b < w.heap.size := (Array.getElem?_eq_some_iff.1 hb).1
  simp only [sortWorldK, grow, putRowK, putRow, mapBlock, ahead]
  rw [Array.getElem?_append_left (by simpa [ahead] using hbl), Array.getElem?_modify, if_pos rfl]
  show Option.map _ w.heap[b]? = _
  rw [hb]
  rfl
theorem divmod_lt {k n t : Nat} (h : t < n * k) : t / k < n ∧ t % k < k := by
  have k0 : 0 < k := by rcases Nat.eq_zero_or_pos k with e | e; · subst e; simp at h
                        · exact e
  exact ⟨(Nat.div_lt_iff_lt_mul k0).2 h, Nat.mod_lt _ k0⟩
theorem flat_at {α : Type} {k : Nat} (dec : α → List D) (hk : ∀ x, (dec x).length = k) (xs : List α) {t : Nat} (ht : t < xs.length * k) :
    ∃ (h1 : t / k < xs.length), (xs.flatMap dec)[t]? = (dec xs[t / k])[t % k]? := by
  obtain ⟨h1, h2⟩ := divmod_lt ht
  refine ⟨h1, ?_⟩
  have hall : ∀ e ∈ xs.map dec, e.length = k := fun e he => by
    obtain ⟨x, _, rfl⟩ := List.mem_map.1 he
    exact hk x
  have := (flat_get (xs.map dec) hall).2 (t / k) (t % k) (dec xs[t / k]) (by rw [List.getElem?_map, List.getElem?_eq_getElem h1]; rfl) h2
  rw [Nat.div_add_mod'] at this
  rw [← this, List.flatMap_def]
theorem flat_len {α : Type} {k : Nat} (dec : α → List D) (hk : ∀ x, (dec x).length = k) (xs : List α) : (xs.flatMap dec).length = xs.length * k := by
  have hall : ∀ e ∈ xs.map dec, e.length = k := fun e he => by
    obtain ⟨x, _, rfl⟩ := List.mem_map.1 he
    exact hk x
  rw [List.flatMap_def, (flat_get (xs.map dec) hall).1, List.length_map]
theorem flatK_at {α : Type} [Inhabited α] {k : Nat} (dec : α → List D) (hk : ∀ x, (dec x).length = k) (xs : List α) {t : Nat} (ht : t < xs.length * k) :
    ∃ d, (xs.flatMap dec)[t]? = some d ∧ (∃ x ∈ xs, d ∈ dec x) ∧ (flatK (fun x => (dec x).map encD) k xs.toArray)[t]! = encD d := by
  obtain ⟨h1, h2⟩ := flat_at dec hk xs ht
  have h3 := (divmod_lt ht).2
  rw [get_flatK _ _ _ _ (by simpa using ht)]
  have hl : t % k < (dec xs[t / k]).length := by rw [hk]; exact h3
  refine ⟨(dec xs[t / k])[t % k], by rw [h2, List.getElem?_eq_getElem hl], ⟨_, List.getElem_mem h1, List.getElem_mem hl⟩, ?_⟩
  rw [getElem!_pos xs.toArray (t / k) (by simpa using h1), getElem!_pos _ (t % k) (by simpa using hl)]
  simp
abbrev sortBy {α : Type} (cf : α → α → Int) (xs : List α) : List α := xs.mergeSort fun x y => !(ltOf cf) y x
theorem fok_sort {P : Program} {ρ : Ren} (L : SlLaysF0.n6 P ρ) {k : Nat} (hk0 : 0 < k) (aE : ∀ w, (isAgg (ρ.t 24)).run P w = .ok true w) (zE : ∀ w, (Go.sizeOf (ρ.t 24)).run P w = .ok k w) {G : Gl} {g : FuncId} {m : List PA → Option (List PA)} (hp : PureC P Gd g m)
    {α : Type} [Inhabited α] (dec : α → List D) (hk : ∀ x, (dec x).length = k) (hs : ∀ x, ∀ d ∈ dec x, simD d = true) (cf : α → α → Int) (hm : ∀ x y, m [.agg (dec x), .agg (dec y)] = some [.c (.int .i64 (cf x y))])
    (hO : SWO (ltOf cf)) (hT : ∀ x y, (ltOf cf) x y = false → (ltOf cf) y x = false → x = y) (xs : List α) (hsz : xs.length < 4611686018427387904) {id : Nat} {h : Hp} (hid : h[id]? = some (.tok xs.length k (some ((xs.flatMap dec).map .d)))) :
    FOk P G (ρ.f 6) [.v (.c (.msl id xs.length)), .v (.c (.fn g []))] h (.ret (.tup []) (h.set id (.tok xs.length k (some (((sortBy cf xs).flatMap dec).map .d))))) := by
  intro A E vs hG hE hvs hrel o a K Q hd
  have henter : (callFunc (ρ.f 6) vs).run P E.w = .ok (.enter (ρ.f 6) vs) E.w := L.f6.enters rfl vs E.w
  rw [henter, Oper.upon_enter]
  have hidl := lt_of_get hid
  have hperm : (sortBy cf xs).Perm xs := List.mergeSort_perm _ _
  have hlen : (sortBy cf xs).length = xs.length := hperm.length_eq
  have h0 := hrel 0 _ rfl
  have h1 := hrel 1 _ rfl
  obtain ⟨vsc, hv1, hl1, _⟩ := h1
  have hvsc : vsc = [] := List.eq_nil_of_length_eq_zero (by simpa using hl1)
  subst hvsc
  obtain ⟨_, m', z', c', hid', _, ho⟩ := h0
  rw [hid] at hid'
  cases hid'
  have ho := ho rfl
  have hargs : vs = #[vs.getD 0 undef, vs.getD 1 undef] := by
    apply Array.ext
    · simpa using hvs
    intro i h2 h3
    have : i < 2 := by simpa using h3
    match i with
    | 0 => simp [Array.getD, show 0 < vs.size by omega]
    | 1 => simp [Array.getD, show 1 < vs.size by omega]
    | i + 2 => omega
  rw [hargs, hv1]
  unfold OwnRow at ho
  have hob := hE.ob id _ hid
  cases hρ : E.ρ id with
  | none =>
    rw [hρ] at ho
    obtain ⟨⟨base, hv0⟩, hn0⟩ := ho
    have hx : xs = [] := List.eq_nil_of_length_eq_zero hn0
    subst hx
    rw [hv0]
    refine (AnyF.slices_SortFunc_none L base 0 _ E.w).mono ?_
    rintro e w' ⟨rfl, rfl⟩
    have hset : h.set id (.tok ([] : List α).length k (some (((sortBy cf []).flatMap dec).map .d))) = h := by
      have : (sortBy cf ([] : List α)) = [] := by simp [sortBy]
      rw [this]
      rw [List.getElem?_eq_getElem hidl] at hid
      rw [← Option.some.inj hid]
      exact List.set_getElem_self hidl
    have hd' : ∀ u E', Evo h.length E h E' (h.set id _) → EnvOk A E' (h.set id _) → AV.rel E' (h.set id _) u (.tup []) → K (a.put o.dst u) E'.w := hd
    rw [hset] at hd'
    exact hd' (.tuple #[]) E (Evo.refl (Nat.le_refl _)) hE ⟨[], rfl, rfl, fun j x hj => by simp at hj⟩
  | some b =>
    rw [hρ] at ho
    obtain ⟨cap, vs0, T, hv0, hnc, _, hb, hvsz⟩ := ho
    obtain ⟨_, ⟨h3, _⟩ | ⟨b', vs', T', h3, hb', hmz, hco, hnf⟩⟩ := hob
    · rw [hρ] at h3; cases h3
    rw [hρ] at h3
    cases h3
    rw [hb] at hb'
    cases hb'
    have hbl : b < E.w.heap.size := (Array.getElem?_eq_some_iff.1 hb).1
    have hH : HoldsK (fun x => (dec x).map encD) k E.w b 0 xs.toArray := by
      intro t ht
      rw [size_flatK] at ht
      have ht : t < xs.length * k := by simpa using ht
      obtain ⟨d, hd1, ⟨x, _, hdx⟩, hd3⟩ := flatK_at dec hk xs ht
      rw [hd3]
      obtain ⟨u, hu, hur, _⟩ := hco.2 t (.d d) (by rw [List.getElem?_map, hd1]; rfl)
      rw [List.getElem?_take, if_pos ht] at hu
      have hu : vs0[t]? = some u := by simpa using hu
      have hur : Rd E.w E.F u d := hur
      rw [encD_of (hs x d hdx) hur] at hu
      constructor
      · simp only [World.cell?, hb, Nat.zero_add]
        simpa using hu
      exact Lib.frozen_of_heap hb _
    rw [hv0]
    have hsz' : xs.toArray.size = xs.length := by simp
    rw [← hsz']
    refine (AnyQ.slices_SortFunc_total L k aE zE (fun x => (dec x).map encD) (fun x => by simp [hk]) (fun x v hv => by
      obtain ⟨d, hd, rfl⟩ := List.mem_map.1 hv
      exact encD_one (hs x d hd)) cf hO g #[] b 0 cap xs.toArray E.w (hp.1) (cmpLays_of_pure hp dec hs cf hm k b 0 _ E.w) hH hbl (by simpa using hsz) hT).mono ?_
    rintro e w' ⟨rfl, n, os, rfl⟩
    simp only [List.toList_toArray]
    have hd : Done A E h o a K Q (.val (.tup []) (h.set id (.tok xs.length k (some (((xs.mergeSort fun x y => !(ltOf cf) y x).flatMap dec).map .d))))) := hd
    have hyl : (xs.mergeSort fun x y => !(ltOf cf) y x).length = xs.length := hlen
    generalize (xs.mergeSort fun x y => !(ltOf cf) y x) = ys at hd hyl ⊢
    have hheap := sortHeap_at (fun x => (dec x).map encD) k E.w b n ys.toArray os hb
    have hoth : ∀ c, c < E.w.heap.size → c ≠ b → (sortWorldK (fun x => (dec x).map encD) k E.w b 0 n ys.toArray os).heap[c]? = E.w.heap[c]? := fun c hc hne => sortHeap _ k E.w b n ys.toArray os hc hne
    let E' : Env := { E with w := sortWorldK (fun x => (dec x).map encD) k E.w b 0 n ys.toArray os }
    have hrs : (putCells _root_.id 0 (flatK (fun x => (dec x).map encD) k ys.toArray) vs0).size = vs0.size := by simp [putCells]
    have hat : (h.set id (.tok xs.length k (some ((ys.flatMap dec).map .d))))[id]? = some (.tok xs.length k (some ((ys.flatMap dec).map .d))) := by simp [hidl]
    have hdrn : E.w.drawn ≤ (sortWorldK (fun x => (dec x).map encD) k E.w b 0 n ys.toArray os).drawn := by
      show E.w.drawn ≤ E.w.drawn + n
      omega
    have st : Stp A.G.dr E h id E' (h.set id (.tok xs.length k (some ((ys.flatMap dec).map .d)))) := {
      os := rfl
      tape := rfl
      output := rfl
      size := by
        show E.w.heap.size ≤ (sortWorldK (fun x => (dec x).map encD) k E.w b 0 n ys.toArray os).heap.size
        simp [sortWorldK, grow, putRowK, ahead]
      blk := fun c hc hne => hoth c hc (fun e => hne ⟨hidl, by rw [hρ, e]⟩)
      idle := Nat.le_of_lt hidl
      len := by simp
      len' := by simp; omega
      ρ := fun _ _ _ => rfl
      hh := fun j _ hji => by rw [List.getElem?_set_ne (Ne.symm hji)]
      F := fun _ _ h => h
      F' := fun c o h => .inl h
      same := fun c o hf => by
        by_cases hcb : c = b
        · subst hcb; exact absurd hf (hnf o)
        exact World.cell?_of_block (hoth c (hE.lt c o hf) hcb)
      at' := fun c _ hc => by
        have hc' : E.ρ id = some c := hc
        rw [hρ] at hc'
        cases hc'
        refine ⟨?_, .inr ⟨hidl, hρ⟩⟩
        exact (Array.getElem?_eq_some_iff.1 hheap).1
      drw := fun _ => hdrn
      keep := fun o ho => by
        rw [hid] at ho
        cases ho
        exact ⟨_, _, hat, Nat.le_refl _, fun _ => ⟨rfl, fun b2 vs2 T2 h2 h3 => by
          rw [hρ] at h2
          cases h2
          rw [hb] at h3
          cases h3
          exact ⟨_, T, hheap, hrs⟩⟩⟩ }
    have ev := st.evo hE
    refine hd (.tuple #[]) E' ev (st.ok hE fun o ho => ?_) ⟨[], rfl, rfl, fun j x hj => by simp at hj⟩
    have ho' : (h.set id (.tok xs.length k (some ((ys.flatMap dec).map .d))))[id]? = some o := ho
    rw [hat] at ho'
    cases ho'
    refine ⟨hk0, .inr ⟨b, _, T, hρ, hheap, by rw [hrs]; exact hmz, ?_, fun o hf => hnf o hf⟩⟩
    refine cells_d' (by rw [flat_len dec hk, hyl]; simp [putCells]; omega) fun t y hy => ?_
    have htl : t < ys.length * k := by have := lt_of_get hy; rw [flat_len dec hk] at this; exact this
    obtain ⟨d, hd1, ⟨x, _, hdx⟩, hd3⟩ := flatK_at dec hk ys htl
    rw [hy] at hd1
    cases hd1
    refine ⟨encD y, ?_, encD_rd (hs x y hdx)⟩
    rw [hyl] at htl
    rw [List.getElem?_take, if_pos htl]
    have htv : t < vs0.size := by omega
    simp only [putCells, Array.getElem?_toList, Array.getElem?_mapIdx, Array.getElem?_eq_getElem htv, Option.map_some]
    rw [if_pos ⟨Nat.zero_le _, by rw [size_flatK]; simp [hyl]; exact htl⟩]
    simp [hd3]
end Go.Ab
namespace Go.Proofs
open Go.Shelf
def Tryz.sortRec_ren : Go.Shelf.Ren := ⟨fun | 6 => 94 | 15 => 99 | 14 => 112 | 28 => 123 | 29 => 102 | 20 => 130 | 21 => 131 | 22 => 132 | 23 => 133 | 24 => 134 | 25 => 135 | 26 => 136 | 27 => 137 | 46 => 146 | 47 => 140 | 48 => 141 | 49 => 147 | 50 => 148 | 57 => 150 | n => n, fun | 22 => 26 | 24 => 52 | 25 => 147 | 3 => 3 | 39 => 141 | 0 => 0 | 53 => 154 | 55 => 98 | 4 => 4 | 46 => 162 | 45 => 161 | 50 => 145 | 5 => 5 | 9 => 9 | 66 => 176 | 70 => 180 | 76 => 186 | 77 => 86 | n => n, fun | n => n⟩
theorem Tryz.sortRec : Go.Proofs.SlLaysF0.n6 Tryz.prog Tryz.sortRec_ren := {
  mixed := by kernel_rfl
  f6 := ⟨Tryz.f94.name, by decide, Tryz.func94.trans (congrArg some (by kernel_rfl))⟩
  f14 := ⟨Tryz.f112.name, by decide, Tryz.func112.trans (congrArg some (by kernel_rfl))⟩
  f15 := Tryz.func99.trans (congrArg some (by kernel_rfl))
  f20 := ⟨Tryz.f130.name, by decide, Tryz.func130.trans (congrArg some (by kernel_rfl))⟩
  f21 := ⟨Tryz.f131.name, by decide, Tryz.func131.trans (congrArg some (by kernel_rfl))⟩
  f22 := ⟨Tryz.f132.name, by decide, Tryz.func132.trans (congrArg some (by kernel_rfl))⟩
  f23 := ⟨Tryz.f133.name, by decide, Tryz.func133.trans (congrArg some (by kernel_rfl))⟩
  f24 := ⟨Tryz.f134.name, by decide, Tryz.func134.trans (congrArg some (by kernel_rfl))⟩
  f25 := ⟨Tryz.f135.name, by decide, Tryz.func135.trans (congrArg some (by kernel_rfl))⟩
  f26 := ⟨Tryz.f136.name, by decide, Tryz.func136.trans (congrArg some (by kernel_rfl))⟩
  f27 := ⟨Tryz.f137.name, by decide, Tryz.func137.trans (congrArg some (by kernel_rfl))⟩
  f28 := Tryz.func123.trans (congrArg some (by kernel_rfl))
  f29 := Tryz.func102.trans (congrArg some (by kernel_rfl))
  f46 := ⟨Tryz.f146.name, by decide, Tryz.func146.trans (congrArg some (by kernel_rfl))⟩
  f47 := Tryz.func140.trans (congrArg some (by kernel_rfl))
  f48 := Tryz.func141.trans (congrArg some (by kernel_rfl))
  f49 := ⟨Tryz.f147.name, by decide, Tryz.func147.trans (congrArg some (by kernel_rfl))⟩
  f50 := ⟨Tryz.f148.name, by decide, Tryz.func148.trans (congrArg some (by kernel_rfl))⟩
  f57 := ⟨Tryz.f150.name, by decide, Tryz.func150.trans (congrArg some (by kernel_rfl))⟩
  t0 := Tryz.underlying0
  a0 := Tryz.isAgg0
  z0 := Tryz.sizeOf0
  v0 := Tryz.zeroValue0
  t3 := Tryz.underlying3
  a3 := Tryz.isAgg3
  z3 := Tryz.sizeOf3
  v3 := Tryz.zeroValue3
  t4 := Tryz.underlying4
  a4 := Tryz.isAgg4
  z4 := Tryz.sizeOf4
  v4 := Tryz.zeroValue4
  t5 := Tryz.underlying5
  a5 := Tryz.isAgg5
  z5 := Tryz.sizeOf5
  v5 := Tryz.zeroValue5
  t9 := Tryz.underlying9
  a9 := Tryz.isAgg9
  z9 := Tryz.sizeOf9
  v9 := Tryz.zeroValue9
  t22 := Tryz.underlying26
  a22 := Tryz.isAgg26
  z22 := Tryz.sizeOf26
  v22 := Tryz.zeroValue26
  t25 := Tryz.underlying147
  a25 := Tryz.isAgg147
  z25 := Tryz.sizeOf147
  v25 := Tryz.zeroValue147
  t39 := Tryz.underlying141
  a39 := Tryz.isAgg141
  z39 := Tryz.sizeOf141
  v39 := Tryz.zeroValue141
  t45 := Tryz.underlying161
  a45 := Tryz.isAgg161
  z45 := Tryz.sizeOf161
  v45 := Tryz.zeroValue161
  t46 := Tryz.underlying162
  a46 := Tryz.isAgg162
  z46 := Tryz.sizeOf162
  v46 := Tryz.zeroValue162
  t50 := Tryz.underlying145
  a50 := Tryz.isAgg145
  z50 := Tryz.sizeOf145
  v50 := Tryz.zeroValue145
  t53 := Tryz.underlying154
  a53 := Tryz.isAgg154
  z53 := Tryz.sizeOf154
  v53 := Tryz.zeroValue154
  t55 := Tryz.underlying98
  a55 := Tryz.isAgg98
  z55 := Tryz.sizeOf98
  v55 := Tryz.zeroValue98
  t66 := Tryz.underlying176
  a66 := Tryz.isAgg176
  z66 := Tryz.sizeOf176
  v66 := Tryz.zeroValue176
  t70 := Tryz.underlying180
  a70 := Tryz.isAgg180
  z70 := Tryz.sizeOf180
  v70 := Tryz.zeroValue180
  t76 := Tryz.underlying186
  a76 := Tryz.isAgg186
  z76 := Tryz.sizeOf186
  v76 := Tryz.zeroValue186
  t77 := Tryz.underlying86
  a77 := Tryz.isAgg86
  z77 := Tryz.sizeOf86
  v77 := Tryz.zeroValue86 }
end Go.Proofs
namespace Go.Ab
open Go.RowKit Go.Proofs Go.Lib Go.Sort
theorem swo_key {α : Type} (g : α → Rec) : SWO (ltOf fun x y => ordR (g x) (g y)) where
  irrefl x := decide_eq_false (ordS_irr _)
  trans x y z h1 h2 := decide_eq_true (cmp_ordS.lt _ _ _ (of_decide_eq_true h1) (of_decide_eq_true h2))
  ntrans x y z h1 h2 := by
    have h1 := of_decide_eq_false h1
    have h2 := of_decide_eq_false h2
    refine decide_eq_false fun h => ?_
    simp only [ordR] at h1 h2 h
    have a1 := cmp_ordS.anti (g y).key (g x).key
    have a2 := cmp_ordS.anti (g z).key (g y).key
    rcases (by omega : ordS (g y).key (g x).key < 0 ∨ ordS (g x).key (g y).key = 0) with b1 | b1
    · have h3 := cmp_ordS.lt _ _ _ b1 h
      exact h2 h3
    exact h2 (cmp_ordS.el _ _ _ (cmp_ordS.sym b1) h)
def sortK (xs : List Rec) : List Rec := (sortBy (fun x y : {x // x ∈ xs} => ordR x.1 y.1) xs.attach).map (·.1)
theorem sortK_perm (xs : List Rec) : (sortK xs).Perm xs := by
  have h := (List.mergeSort_perm xs.attach (fun x y : {x // x ∈ xs} => !(ltOf fun x y : {x // x ∈ xs} => ordR x.1 y.1) y x)).map (·.1)
  rw [List.attach_map_subtype_val] at h
  exact h
theorem sortK_le (xs : List Rec) : (sortK xs).Pairwise (fun a b => ordS a.key b.key ≤ 0) := by
  unfold sortK
  rw [List.pairwise_map]
  have sw := swo_key (fun x : {x // x ∈ xs} => x.1)
  have h := List.pairwise_mergeSort (le := fun x y : {x // x ∈ xs} => !(ltOf fun x y : {x // x ∈ xs} => ordR x.1 y.1) y x) (fun a b c h1 h2 => ?_) (fun a b => ?_) xs.attach
  · refine h.imp fun {a b} hab => ?_
    simp only [Bool.not_eq_true'] at hab
    have h1 := of_decide_eq_false hab
    simp only [ordR] at h1
    have := cmp_ordS.anti b.1.key a.1.key
    omega
  · simp only [Bool.not_eq_true'] at h1 h2 ⊢
    exact sw.ntrans _ _ _ h2 h1
  rw [Bool.or_eq_true, Bool.not_eq_true', Bool.not_eq_true']
  by_cases h1 : ordR b.1 a.1 < 0
  · right
    refine decide_eq_false fun h2 => ?_
    simp only [ordR] at h1 h2
    have := cmp_ordS.anti a.1.key b.1.key
    omega
  left
  exact decide_eq_false h1
theorem net_sorted (l : List Rec) : sortK (netU l) = netR l :=
  net_same (fun x => (sortK_perm _).mem_iff) (((sortK_perm _).map Rec.key).nodup_iff.2 (netU_ok l).one) (sortK_le _)
theorem key_uniq : ∀ {l : List Rec} {x y : Rec}, (l.map Rec.key).Nodup → x ∈ l → y ∈ l → x.key = y.key → x = y
  | z :: l, x, y, hn, hx, hy, h => by
    rw [List.map_cons, List.nodup_cons] at hn
    rcases List.mem_cons.1 hx with e1 | hx1
    · rcases List.mem_cons.1 hy with e2 | hy1
      · rw [e1, e2]
      rw [e1] at h
      exact absurd (h ▸ List.mem_map_of_mem hy1) hn.1
    rcases List.mem_cons.1 hy with e2 | hy1
    · rw [e2] at h
      exact absurd (h ▸ List.mem_map_of_mem hx1) hn.1
    exact key_uniq hn.2 hx1 hy1 h
abbrev rc (l : List Rec) : List C1 := (l.flatMap Rec.row).map .d
theorem rc_inj : ∀ {a b : List Rec}, rc a = rc b → a = b
  | [], [], _ => rfl
  | [], y :: k, h => by simp [rc, Rec.row] at h
  | x :: l, [], h => by simp [rc, Rec.row] at h
  | x :: l, y :: k, h => by
    simp only [rc, List.flatMap_cons, List.map_append] at h
    obtain ⟨h1, h2⟩ := List.append_inj h (by simp [Rec.row])
    have e : x.row = y.row := map_inj (fun a b h => by cases h; rfl) h1
    rw [Rec.inj _ _ e, rc_inj h2]
def srR (p : Hp × Nat × List Rec) (args : List AV) (h : Hp) : Prop := args = [.v (.c (.msl p.2.1 p.2.2.length)), .v (.c (.fn 95 []))] ∧ h = p.1 ∧ p.1[p.2.1]? = some (.tok p.2.2.length 5 (some (rc p.2.2)))
theorem srR_inj {a b : Hp × Nat × List Rec} {args : List AV} {h : Hp} (ha : srR a args h) (hb : srR b args h) : b = a := by
  obtain ⟨a1, a2, a3⟩ := a
  obtain ⟨b1, b2, b3⟩ := b
  obtain ⟨h1, h2, h3⟩ := ha
  obtain ⟨g1, g2, g3⟩ := hb
  dsimp only at *
  subst h2 g2
  rw [h1] at g1
  simp only [List.cons.injEq, AV.v.injEq, V.c.injEq, C1.msl.injEq, and_true] at g1
  obtain ⟨rfl, g4⟩ := g1
  rw [h3] at g3
  simp only [Option.some.injEq, Ob.tok.injEq] at g3
  rw [rc_inj g3.2.2]
noncomputable section
open Classical
def sfRec_k : List AV → Hp → Option COut := kR srR fun p => if p.2.2.length ≤ 1000000000 ∧ (p.2.2.map Rec.key).Nodup then some (.ret (.tup []) (p.1.set p.2.1 (.tok p.2.2.length 5 (some (rc (sortK p.2.2)))))) else none
theorem sfRec_kok : ImpC Tryz.prog Gt 94 sfRec_k := by
  intro args h out h0
  obtain ⟨⟨h', id, ps⟩, ⟨rfl, rfl, hid⟩, hg⟩ := kR_inv h0
  dsimp only at hid hg ⊢
  split at hg
  · rename_i hc
    obtain ⟨hl, hn⟩ := hc
    cases hg
    have hsim : ∀ (x : Rec), ∀ d ∈ x.row, simD d = true := fun x d hd => by
      simp [Rec.row] at hd
      rcases hd with rfl | rfl | rfl | rfl | rfl <;> rfl
    have hm : ∀ x y : Rec, dnet_m [.agg x.row, .agg y.row] = some [.c (.int .i64 (ordR x y))] := fun x y => mE_eq encR2_inj (g := fun p => some [DV.i (ordR p.1 p.2)]) (a := (x, y))
    cases ps with
    | nil =>
      have := fok_sort (G := Gt) Tryz.sortRec (k := 5) (by decide) Tryz.isAgg52 Tryz.sizeOf52 dnet_ok (α := Unit) (fun _ => (⟨0, [], 0, 0, 0⟩ : Rec).row) (fun _ => rfl) (fun x d hd => hsim _ d hd) (fun _ _ => ordR ⟨0, [], 0, 0, 0⟩ ⟨0, [], 0, 0, 0⟩) (fun x y => hm _ _) (swo_key (fun _ : Unit => (⟨0, [], 0, 0, 0⟩ : Rec))) (fun _ _ _ _ => rfl) [] (by decide) (id := id) (h := h) hid
      have hs : sortBy (fun _ _ : Unit => ordR ⟨0, [], 0, 0, 0⟩ ⟨0, [], 0, 0, 0⟩) [] = [] := by simp [sortBy]
      rw [hs] at this
      rw [show sortK [] = [] by simp [sortK, sortBy]]
      exact this
    | cons q qs =>
      haveI : Inhabited {x // x ∈ q :: qs} := ⟨⟨q, by simp⟩⟩
      have hf : ∀ l : List {x // x ∈ q :: qs}, (l.flatMap fun x => x.1.row) = (l.map (·.1)).flatMap Rec.row := fun l => by rw [List.flatMap_map]
      have := fok_sort (G := Gt) Tryz.sortRec (k := 5) (by decide) Tryz.isAgg52 Tryz.sizeOf52 dnet_ok (α := {x // x ∈ q :: qs}) (fun x => x.1.row) (fun _ => rfl) (fun x d hd => hsim _ d hd) (fun x y => ordR x.1 y.1) (fun x y => hm _ _) (swo_key (fun x : {x // x ∈ q :: qs} => x.1)) (fun x y h1 h2 => by
        have h1 := of_decide_eq_false h1
        have h2 := of_decide_eq_false h2
        simp only [ordR] at h1 h2
        have a1 := cmp_ordS.anti y.1.key x.1.key
        have hk : x.1.key = y.1.key := ordS_zero.1 (by omega)
        exact Subtype.ext (key_uniq hn x.2 y.2 hk)) (q :: qs).attach (by rw [List.length_attach]; omega) (id := id) (h := h) (by rw [List.length_attach, hf, List.attach_map_subtype_val]; exact hid)
      rw [List.length_attach, hf] at this
      exact this
  cases hg
end
end Go.Ab
