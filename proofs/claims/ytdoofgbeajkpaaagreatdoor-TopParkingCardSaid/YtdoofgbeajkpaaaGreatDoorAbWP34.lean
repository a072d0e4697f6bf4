/-
  Texts of the layer and of the laws, put together: AbI3, AbI4, AbJ1.
-/
import Derived.Test.YtdoofgbeajkpaaaGreatDoorAbWP33
import Derived.Test.YtdoofgbeajkpaaaGreatDoorAbWP20
import Derived.Test.YtdoofgbeajkpaaaGreatDoorAbWP23
import Derived.Test.YtdoofgbeajkpaaaGreatDoorAbWP25
import Derived.Test.YtdoofgbeajkpaaaGreatDoorAbWP30
import Derived.Test.YtdoofgbeajkpaaaGreatDoorAbWP28
import Derived.Test.YtdoofgbeajkpaaaGreatDoorAbWP22
set_option linter.unusedSimpArgs false
set_option linter.unusedVariables false
set_option maxRecDepth 100000
namespace Go.Ab
def daysErr (i : Iv) : Int := if ivOk i = false then 12 else if 366 < (i.2 - 1) / 86400 - i.1 / 86400 + 1 then 3 else 0
end Go.Ab
namespace Go.Ab
theorem NF.sorted : ∀ {l : List Iv}, NF l → l.Pairwise (fun a b => a.1 ≤ b.1)
  | [], _ => .nil
  | x :: l, h => List.pairwise_cons.2 ⟨fun y hy => by
      have h1 := (List.pairwise_cons.1 h.1).1 y hy
      have := h.head
      omega, NF.sorted h.tail⟩
structure Pmt where
  name : List UInt8
  zone : List UInt8
  pf : Bool
  plates : List (List UInt8)
  v : Iv
  hf : Bool
  hrs : List Win
  most : Int
def listB (p : Pmt) (s : List UInt8) : Bool := decide ((plF s).2 = 0) && p.plates.any (· == (plF s).1)
theorem ival_ok {i : Iv} : ivalB i.1 i.2 = ivOk i := by simp only [ivOk, ivalB, Bool.and_assoc]
theorem spans_e {w : Win} {i : Iv} : (spansOf w.d w.f w.t i.1 i.2).2 = daysErr i := by
  unfold spansOf daysErr
  rw [ival_ok]
  by_cases hv : ivOk i = true
  · have hf : ¬ ivOk i = false := by rw [hv]; exact Bool.noConfusion
    by_cases h : 366 ≤ (i.2 - 1) / 86400 - i.1 / 86400
    · simp only [hv, h, if_true, if_pos (show 366 < (i.2 - 1) / 86400 - i.1 / 86400 + 1 by omega)]
      rfl
    simp only [hv, h, if_true, if_false, if_neg (show ¬ 366 < (i.2 - 1) / 86400 - i.1 / 86400 + 1 by omega)]
    split <;> rfl
  have hf : ivOk i = false := by simpa using hv
  rw [if_neg hv, if_pos hf]
theorem spans_in {w : Win} {i : Iv} (h : daysErr i = 0) {t : Int} : hasV ((spansOf w.d w.f w.t i.1 i.2).1.getD []) t ↔ (i.1 ≤ t ∧ t < i.2) ∧ inB w.d w.f w.t t = true := by
  have hv : ivOk i = true := by
    unfold daysErr at h
    split at h
    · cases h
    rename_i h'; simpa using h'
  have hb := ivOk_iff.1 hv
  cases hO : (spansOf w.d w.f w.t i.1 i.2).1 with
  | none =>
    have := spans_none hO t (spans_e.trans h)
    simp only [Option.getD_none, this]
    constructor
    · exact fun h => absurd h hasV_nil
    · rintro ⟨_, h⟩
      cases h
  | some l =>
    obtain ⟨h1, h2⟩ := spans_cover hO t
    have hok : ∀ {k : List Iv} {e : Int}, chk i.1 i.2 e k → ∀ j ∈ k, ivOk j = true := fun {k} => by
      induction k with
      | nil => exact fun _ j hj => by cases hj
      | cons a k ih =>
        intro e hc j hj
        obtain ⟨c1, c2, c3, _, c5⟩ := hc
        rcases List.mem_cons.1 hj with rfl | hj
        · exact ivOk_iff.2 ⟨by omega, c1, by omega⟩
        exact ih c5 j hj
    simp only [Option.getD_some]
    rw [hasV_ok (hok h1)]
    have hB : hasB t l = true ↔ inV l t := by
      simp only [hasB, List.any_eq_true, Bool.and_eq_true, decide_eq_true_eq, inV]
    rw [← hB, h2]
    simp only [Bool.and_eq_true, decide_eq_true_eq]
    constructor
    · rintro ⟨⟨a, b⟩, c⟩
      exact ⟨⟨b, c⟩, a⟩
    rintro ⟨⟨b, c⟩, a⟩
    exact ⟨⟨a, b⟩, c⟩
end Go.Ab
namespace Go.Ab
open Go.RowKit Go.Proofs Go.Lib Go.Sort
theorem rwI_inj (a b : Iv) (h : rwI a = rwI b) : a = b := by
  obtain ⟨a1, a2⟩ := a
  obtain ⟨b1, b2⟩ := b
  simpa [rwI] using h
theorem mapIv_inj {l k : List Iv} : l.map rwI = k.map rwI ↔ l = k := ⟨map_inj rwI_inj, fun h => by rw [h]⟩
def encV1 (i : Iv) : List PA := [.agg (rwI i)]
theorem encV1_inj (a b : Iv) (h : encV1 a = encV1 b) : a = b := rwI_inj a b (by simpa [encV1] using h)
def encV2 (p : Iv × Iv) : List PA := [.agg (rwI p.1), .agg (rwI p.2)]
theorem encV2_inj (a b : Iv × Iv) (h : encV2 a = encV2 b) : a = b := by
  simp only [encV2, List.cons.injEq, DV.agg.injEq, and_true] at h
  exact Prod.ext (rwI_inj _ _ h.1) (rwI_inj _ _ h.2)
theorem swo_from {α : Type} (g : α → Iv) : SWO (ltOf fun x y => ordI (g x).1 (g y).1) where
  irrefl x := decide_eq_false (by simp only [ordI]; (repeat' split) <;> omega)
  trans x y z h1 h2 := by
    have h1 := of_decide_eq_true h1
    have h2 := of_decide_eq_true h2
    refine decide_eq_true ?_
    simp only [ordI] at h1 h2 ⊢
    (repeat' split at h1) <;> (repeat' split at h2) <;> (repeat' split) <;> omega
  ntrans x y z h1 h2 := by
    have h1 := of_decide_eq_false h1
    have h2 := of_decide_eq_false h2
    refine decide_eq_false ?_
    simp only [ordI] at h1 h2 ⊢
    (repeat' split at h1) <;> (repeat' split at h2) <;> (repeat' split) <;> omega
def srtI (xs : List Iv) : List Iv := srtQ (fun x y : Iv => ordI x.1 y.1) xs
theorem srtI_ok (xs : List Iv) : (srtI xs).Perm xs ∧ (srtI xs).Pairwise (fun a b => a.1 ≤ b.1) := by
  obtain ⟨h1, h2⟩ := srtQ_ok (fun x y : Iv => ordI x.1 y.1) (swo_from (fun x : Iv => x)) xs
  refine ⟨h1, h2.imp fun {a b} h => ?_⟩
  simp only [ordI] at h
  (repeat' split at h) <;> omega
theorem srtI_len (xs : List Iv) : (srtI xs).length = xs.length := (srtI_ok xs).1.length_eq
theorem srtI_join (l : List Iv) : ((srtI (l.filter ivOk)).foldl mkM []).reverse = joinF l := join_any (srtI_ok _).1 (srtI_ok _).2
noncomputable section
open Classical
def spv_m : List PA → Option (List PA) := mE encV1 fun i => some [.b (ivOk i)]
def djn_m : List PA → Option (List PA) := mE encV2 fun p => some [.i (ordI p.1.1 p.2.1)]
theorem spv_ok : PureC Tryz.prog Gt 59 spv_m := by
  refine pure_of_awp (X := ctx Tryz.prog Gt []) Tryz.func59 rfl rfl (by kernel_rfl) (by kernel_rfl) AllOk.nil.kok ?_
  intro args r h0
  obtain ⟨⟨a, b⟩, rfl, h⟩ := mE_inv h0
  refine ⟨Nat.le_of_ble_eq_true rfl, ?_⟩
  cases h
  have hc := Nat.zero_add 0
  repeat' (first | simp only [hc, Tryz.f59, encV1, rwI, SX, ZZ, simprocAttr, ↓reduceIte] | ((first | apply Za | apply Zb | apply Zc | apply Zd | apply Ze | apply Zf | apply Zg | apply Zh) <;> intro hc) | refine Zj ?_)
  all_goals (simp_all [ivOk, DV.b, mxT]; try omega)
theorem spv_at {i : Iv} : spv_m [.agg (rwI i)] = some [.b (ivOk i)] := mE_eq encV1_inj (g := fun i => some [DV.b (ivOk i)]) (a := i)
theorem djn_ok : PureC Tryz.prog Gd 131 djn_m := by
  refine pure_of_awp (X := ctx Tryz.prog Gd [(86, dcI_m)]) Tryz.func131 rfl rfl (by kernel_rfl) (by kernel_rfl) (AllOk.cons dcI_ok AllOk.nil).kok ?_
  intro args r h0
  obtain ⟨⟨⟨a, b⟩, c, d⟩, rfl, h⟩ := mE_inv h0
  refine ⟨Nat.le_of_ble_eq_true rfl, ?_⟩
  cases h
  have f1 : dcI_m [.c (.int .i64 a), .c (.int .i64 c)] = some [.i (ordI a c)] := rfl
  have hc := Nat.zero_add 0
  repeat' (first | simp only [hc, Tryz.f131, encV2, rwI, GX, f1, ZZ, simprocAttr, ↓reduceIte] | ((first | apply Za | apply Zb | apply Zc | apply Zd | apply Ze | apply Zf | apply Zg | apply Zh) <;> intro hc) | refine Zj ?_)
  all_goals simp [DV.i]
theorem icd_inj : ∀ {a b : List Iv}, icd a = icd b → a = b
  | [], [], _ => rfl
  | [], y :: k, h => by simp [icd, rowIC] at h
  | x :: l, [], h => by simp [icd, rowIC] at h
  | x :: l, y :: k, h => by
    simp only [icd, List.flatMap_cons] at h
    obtain ⟨h1, h2⟩ := List.append_inj h rfl
    simp only [rowIC, List.cons.injEq, C1.d.injEq, D.int.injEq, true_and, and_true] at h1
    have e : x = y := Prod.ext h1.1 h1.2
    rw [e, icd_inj h2]
theorem icd_dec (l : List Iv) : (l.flatMap rwI).map C1.d = icd l := icd_enc l
def siR (p : Hp × Nat × List Iv) (args : List AV) (h : Hp) : Prop := args = [.v (.c (.msl p.2.1 p.2.2.length)), .v (.c (.fn 131 []))] ∧ h = p.1 ∧ p.1[p.2.1]? = some (.tok p.2.2.length 2 (some (icd p.2.2)))
theorem siR_inj {a b : Hp × Nat × List Iv} {args : List AV} {h : Hp} (ha : siR a args h) (hb : siR b args h) : b = a := by
  obtain ⟨a1, a2, a3⟩ := a
  obtain ⟨b1, b2, b3⟩ := b
  obtain ⟨h1, h2, h3⟩ := ha
  obtain ⟨g1, g2, g3⟩ := hb
  dsimp only at *
  subst h2 g2
  rw [h1] at g1
  simp only [List.cons.injEq, AV.v.injEq, V.c.injEq, C1.msl.injEq, and_true] at g1
  obtain ⟨rfl, g4⟩ := g1
  rw [h3] at g3
  simp only [Option.some.injEq, Ob.tok.injEq] at g3
  rw [icd_inj g3.2.2]
def sfIv_k : List AV → Hp → Option COut := kR siR fun p => if p.2.2.length ≤ 1000000000 then some (.ret (.tup []) (p.1.set p.2.1 (.tok p.2.2.length 2 (some (icd (srtI p.2.2)))))) else none
theorem sfIv_kok : ImpC Tryz.prog Gt 130 sfIv_k := by
  intro args h out h0
  obtain ⟨⟨h', id, ps⟩, ⟨rfl, rfl, hid⟩, hg⟩ := kR_inv h0
  dsimp only at hid hg ⊢
  split at hg
  · rename_i hl
    cases hg
    have hsim : ∀ (x : Iv), ∀ d ∈ rwI x, simD d = true := fun x d hd => by
      simp [rwI] at hd
      rcases hd with rfl | rfl <;> rfl
    have hm : ∀ x y : Iv, djn_m [.agg (rwI x), .agg (rwI y)] = some [.c (.int .i64 (ordI x.1 y.1))] := fun x y => mE_eq encV2_inj (g := fun p => some [DV.i (ordI p.1.1 p.2.1)]) (a := (x, y))
    have := fok_sortQ (G := Gt) Tryz.sortIv (k := 2) (by decide) Tryz.isAgg35 Tryz.sizeOf35 djn_ok (α := Iv) rwI (fun _ => rfl) hsim (fun x y => ordI x.1 y.1) hm (swo_from (fun x : Iv => x)) ps (by omega) (id := id) (h := h) (by rw [hid, icd_dec])
    rw [icd_dec] at this
    exact this
  cases hg
theorem sfIv_at {h : Hp} {id : Nat} {L : List Iv} (hid : h[id]? = some (.tok L.length 2 (some (icd L)))) (hl : L.length ≤ 1000000000) :
    sfIv_k [.v (.c (.msl id L.length)), .v (.c (.fn 131 []))] h = some (.ret (.tup []) (h.set id (.tok L.length 2 (some (icd (srtI L)))))) := by
  have := kR_eq (R := siR) (g := fun p : Hp × Nat × List Iv => if p.2.2.length ≤ 1000000000 then some (COut.ret (.tup []) (p.1.set p.2.1 (.tok p.2.2.length 2 (some (icd (srtI p.2.2)))))) else none) (a := (h, id, L))
    (args := [.v (.c (.msl id L.length)), .v (.c (.fn 131 []))]) (h := h) (fun b hb => by rw [siR_inj (a := (h, id, L)) ⟨rfl, rfl, hid⟩ hb]) ⟨rfl, rfl, hid⟩
  exact this.trans (if_pos hl)
end
end Go.Ab
