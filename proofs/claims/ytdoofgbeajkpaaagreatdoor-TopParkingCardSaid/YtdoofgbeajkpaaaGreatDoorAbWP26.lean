/-
  Texts of the layer and of the laws, put together: AbU5, AbU6.
-/
import Derived.Test.YtdoofgbeajkpaaaGreatDoorAbWP25
import Derived.Test.YtdoofgbeajkpaaaGreatDoorAbWP22
set_option linter.unusedSimpArgs false
set_option linter.unusedVariables false
set_option maxRecDepth 100000
namespace Go.Ab
open Go.RowKit Go.Proofs
structure Par where
  kind : Int
  zone : List UInt8
  plate : List UInt8
  time : Int
  til : Int
def Par.row (p : Par) : List D := [.int .i64 p.kind, .str p.zone, .str p.plate, .int .i64 p.time, .int .i64 p.til]
theorem Par.inj (a b : Par) (h : a.row = b.row) : a = b := by cases a; cases b; simpa [Par.row] using h
theorem mapP_inj {l k : List Par} : l.map Par.row = k.map Par.row ↔ l = k := ⟨map_inj Par.inj, fun h => by rw [h]⟩
structure Ses where
  id : List UInt8
  zone : List UInt8
  plate : List UInt8
  fr : Int
  til : Int
  state : Int
  sf : Bool
  seen : List Int
def rowI (n : Int) : List D := [.int .i64 n]
theorem mapI_inj {l k : List Int} : l.map rowI = k.map rowI ↔ l = k := ⟨map_inj (fun a b h => by simpa [rowI] using h), fun h => by rw [h]⟩
def Ses.row (s : Ses) : List D := [.str s.id, .str s.zone, .str s.plate, .int .i64 s.fr, .int .i64 s.til, .int .i64 s.state, .sl s.sf (s.seen.map rowI)]
theorem Ses.inj (a b : Ses) (h : a.row = b.row) : a = b := by cases a; cases b; simpa [Ses.row, mapI_inj] using h
theorem mapS_inj {l k : List Ses} : l.map Ses.row = k.map Ses.row ↔ l = k := ⟨map_inj Ses.inj, fun h => by rw [h]⟩
def Zon.Ok (z : Zon) : Prop := z.hrs.length ≤ 1000000000 ∧ z.sts.length ≤ 1000000000
def Zon.cp (z : Zon) : Zon := { z with hf := z.hrs.isEmpty, sf := z.sts.isEmpty }
theorem Zon.cp_err (z : Zon) : z.cp.err = z.err := rfl
def encZsN (p : (Bool × List Zon) × List UInt8) : List PA := [.c (.sl p.1.1 (p.1.2.map Zon.row)), .c (.str p.2)]
theorem encZsN_inj (a b : (Bool × List Zon) × List UInt8) (h : encZsN a = encZsN b) : a = b := by
  obtain ⟨⟨a1, a2⟩, a3⟩ := a
  obtain ⟨⟨b1, b2⟩, b3⟩ := b
  simp [encZsN, mapZn_inj] at h
  simp [h]
def encPZs (p : Par × Bool × List Zon) : List PA := [.agg p.1.row, .c (.sl p.2.1 (p.2.2.map Zon.row))]
theorem encPZs_inj (a b : Par × Bool × List Zon) (h : encPZs a = encPZs b) : a = b := by
  obtain ⟨a1, a2, a3⟩ := a
  obtain ⟨b1, b2, b3⟩ := b
  simp [encPZs, mapZn_inj] at h
  simp [h, Par.inj a1 b1 h.1]
def encS (s : Ses) : List PA := [.agg s.row]
theorem encS_inj (a b : Ses) (h : encS a = encS b) : a = b := Ses.inj a b (by simpa [encS] using h)
def encZSi (p : (Zon × Ses) × Int) : List PA := [.agg p.1.1.row, .agg p.1.2.row, .c (.int .i64 p.2)]
theorem encZSi_inj (a b : (Zon × Ses) × Int) (h : encZSi a = encZSi b) : a = b := by
  obtain ⟨⟨a1, a2⟩, a3⟩ := a
  obtain ⟨⟨b1, b2⟩, b3⟩ := b
  simp [encZSi] at h
  simp [h, Zon.inj a1 b1 h.1, Ses.inj a2 b2 h.2.1]
def findZ (l : List Zon) (n : List UInt8) : Option Zon := l.find? (fun z => z.name == n)
def findR (cp : Zon → Zon) (l : List Zon) (n : List UInt8) : List PA := match findZ l n with
  | some z => [.agg (cp z).row, .b true]
  | none => [.agg Zon.nil.row, .b false]
def zonesOk (l : List Zon) : Prop := l.length ≤ 1000000000 ∧ ∀ z ∈ l, z.Ok
theorem findZ_take {l : List Zon} {n : List UInt8} {j : Nat} (hj : j < l.length) (h : findZ (l.take j) n = none) : (l[j].name = n → findZ l n = some l[j]) ∧ (l[j].name ≠ n → findZ (l.take (j + 1)) n = none) := by
  unfold findZ at *
  constructor
  · intro e
    conv => lhs; rw [← List.take_append_drop j l, List.drop_eq_getElem_cons hj]
    rw [List.find?_append, h, List.find?_cons]
    simp [e]
  intro e
  rw [List.take_succ_eq_append_getElem hj, List.find?_append, h]
  simp [e]
noncomputable section
open Classical
def zcopied_m : List PA → Option (List PA) := mE encZ fun z => if z.Ok then some [.agg z.cp.row] else none
def zfind_m : List PA → Option (List PA) := mE encZsN fun p => if zonesOk p.1.2 then some (findR Zon.cp p.1.2 p.2) else none
theorem zcopied_ok : PureC Tryz.prog Gt 49 zcopied_m := by
  refine pure_of_awp (X := ctx Tryz.prog Gt []) Tryz.func49 rfl rfl (by kernel_rfl) (by kernel_rfl) AllOk.nil.kok ?_
  intro args r h0
  obtain ⟨⟨name, hf, hrs, sf, sts, grace, free, dmax, stay⟩, rfl, h⟩ := mE_inv h0
  refine ⟨Nat.le_of_ble_eq_true rfl, ?_⟩
  split at h
  · rename_i hl
    obtain ⟨hl1, hl2⟩ := hl
    dsimp only at hl1 hl2 h
    cases h
    have pz : ∀ h, apSl h 3 24 [] [] = some (.d (.sl true []), h) := fun h => by
      rw [apSl_new (by simp [allLen]) (by simp) (by simp)]
      simp
    have p1 : hrs ≠ [] → ∀ h, apSl h 3 24 [] (hrs.map Win.row) = some (.v (.c (.own h.length (hrs.map Win.row))), h ++ [.tok hrs.length 3 none]) := by
      intro c h
      rw [apSl_new (by simp [allLen, Win.row]) (by simp; omega) (by simp; omega)]
      simp [c]
    have p2 : sts ≠ [] → ∀ h, apSl h 3 24 [] (sts.map Stf.row) = some (.v (.c (.own h.length (sts.map Stf.row))), h ++ [.tok sts.length 3 none]) := by
      intro c h
      rw [apSl_new (by simp [allLen, Stf.row]) (by simp; omega) (by simp; omega)]
      simp [c]
    by_cases c1 : hrs = []
    · subst c1
      by_cases c2 : sts = []
      · subst c2
        have hc := Nat.zero_add 0
        repeat' (first | simp only [hc, Tryz.f49, encZ, Zon.row, SX, pz, List.map_nil, ZZ, simprocAttr, ↓reduceIte] | ((first | apply Za | apply Zb | apply Zc | apply Zd | apply Ze | apply Zf | apply Zg | apply Zh) <;> intro hc) | refine Zj ?_)
        all_goals simp [Zon.cp, Zon.row]
      have p2 := p2 c2
      have hc := Nat.zero_add 0
      repeat' (first | simp only [hc, Tryz.f49, encZ, Zon.row, SX, pz, p2, List.map_nil, ZZ, simprocAttr, ↓reduceIte] | ((first | apply Za | apply Zb | apply Zc | apply Zd | apply Ze | apply Zf | apply Zg | apply Zh) <;> intro hc) | refine Zj ?_)
      all_goals simp [Zon.cp, Zon.row, c2]
    have p1 := p1 c1
    by_cases c2 : sts = []
    · subst c2
      have hc := Nat.zero_add 0
      repeat' (first | simp only [hc, Tryz.f49, encZ, Zon.row, SX, p1, pz, List.map_nil, ZZ, simprocAttr, ↓reduceIte] | ((first | apply Za | apply Zb | apply Zc | apply Zd | apply Ze | apply Zf | apply Zg | apply Zh) <;> intro hc) | refine Zj ?_)
      all_goals simp [Zon.cp, Zon.row, c1]
    have p2 := p2 c2
    have hc := Nat.zero_add 0
    repeat' (first | simp only [hc, Tryz.f49, encZ, Zon.row, SX, p1, p2, ZZ, simprocAttr, ↓reduceIte] | ((first | apply Za | apply Zb | apply Zc | apply Zd | apply Ze | apply Zf | apply Zg | apply Zh) <;> intro hc) | refine Zj ?_)
    all_goals simp [Zon.cp, Zon.row, c1, c2]
  cases h
end
end Go.Ab
namespace Go.Ab
open Go.RowKit Go.Proofs
theorem lenZn {l : List Zon} : ((l.map Zon.row).length : Int) = l.length := by simp
theorem zn_at {l : List Zon} {j : Nat} (h : j < l.length) : (l.map Zon.row)[j]? = some [.str l[j].name, .sl l[j].hf (l[j].hrs.map Win.row), .sl l[j].sf (l[j].sts.map Stf.row), .int .i64 l[j].grace, .int .i64 l[j].free, .int .i64 l[j].dmax, .int .i64 l[j].stay] := by simp [h, Zon.row]
theorem findZ_all {l : List Zon} {n : List UInt8} {j : Nat} (hj : ¬ j < l.length) (h : findZ (l.take j) n = none) : findZ l n = none := by rwa [List.take_of_length_le (by omega)] at h
theorem findZ_ok {l : List Zon} {n : List UInt8} (h : zonesOk l) {z : Zon} (hz : findZ l n = some z) : z.Ok := h.2 z (List.mem_of_find?_eq_some hz)
def ofR (cp : Zon → Zon) (l : List Zon) (n : List UInt8) : Zon × Bool := match findZ l n with
  | some z => (cp z, decide (z.err = 0))
  | none => (Zon.nil, false)
noncomputable section
open Classical
def sof_m : List PA → Option (List PA) := mE encPZs fun p => if zonesOk p.2.2 then some [.agg (ofR Zon.cp p.2.2 p.1.zone).1.row, .b (ofR Zon.cp p.2.2 p.1.zone).2] else none
theorem zcopied_at {z : Zon} (h : z.Ok) : zcopied_m [.agg z.row] = some [.agg z.cp.row] := by
  have := mE_eq encZ_inj (g := fun z => if z.Ok then some [.agg z.cp.row] else none) (a := z)
  exact this.trans (if_pos h)
theorem zcheck_at {z : Zon} (h : z.sts.length ≤ 9223372036854775807) : zcheck_m [.agg z.row] = some [.i z.err] := by
  have := mE_eq encZ_inj (g := fun z => if decide (z.sts.length ≤ 9223372036854775807) = true then some [.i z.err] else none) (a := z)
  exact this.trans (if_pos (by simpa using h))
theorem zrcheck_at {z : Zon} (h : z.sts.length ≤ 9223372036854775807) : zrcheck_m [.agg z.row] = some [.i z.err] := by
  have := mE_eq encZ_inj (g := fun z => if decide (z.sts.length ≤ 9223372036854775807) = true then some [.i z.err] else none) (a := z)
  exact this.trans (if_pos (by simpa using h))
theorem zfind_ok : PureC Tryz.prog Gt 16 zfind_m := by
  refine pure_of_awp (X := ctx Tryz.prog Gt [(49, zcopied_m)]) Tryz.func16 rfl rfl (by kernel_rfl) (by kernel_rfl) (AllOk.cons zcopied_ok AllOk.nil).kok ?_
  intro args r h0
  obtain ⟨⟨⟨f, l⟩, n⟩, rfl, h⟩ := mE_inv h0
  refine ⟨Nat.le_of_ble_eq_true rfl, ?_⟩
  split at h
  · rename_i hl
    dsimp only at hl h
    cases h
    have hlen := hl.1
    have l1 := @lenZn l
    have hc := Nat.zero_add 0
    repeat' (first | simp only [hc, Tryz.f16, encZsN, SX, l1, ZZ, simprocAttr, ↓reduceIte] | ((first | apply Za | apply Zb | apply Zc | apply Zd | apply Ze | apply Zf | apply Zg | apply Zh) <;> intro hc) | refine Zj ?_)
    refine awp_loop (σ := Nat) (fun j => j ≤ l.length ∧ findZ (l.take j) n = none) (fun j => ⟨[(10, AV.i j), (9, AV.i l.length), (8, AV.d (.sl f (l.map Zon.row))), (4, .v (.c (.ptr 0 0))), (1, AV.s n)], [.box [.d (.str []), .d (.sl true []), .d (.sl true []), .d (.int .i64 0), .d (.int .i64 0), .d (.int .i64 0), .d (.int .i64 0)]]⟩) (fun j => l.length - j) 0 (Wk.sub' (by simp [subT, look]) rfl) (by simp [findZ]) ?_
    rintro j ⟨hj, hout⟩
    by_cases hjl : j < l.length
    · have e1 := zn_at hjl
      have hlt : ((j : Int) < (l.length : Int)) = True := eq_true (by omega)
      have hw := wI (n := (j : Int) + 1) (by omega) (by omega)
      have f1 := zcopied_at (hl.2 _ (List.getElem_mem hjl))
      obtain ⟨h1, h2⟩ := findZ_take hjl hout
      simp only [Zon.row] at f1
      generalize l[j] = z at *
      by_cases c3 : z.name = n
      · have h3 : findR Zon.cp l n = [.agg z.cp.row, .b true] := by unfold findR; rw [h1 c3]
        rw [h3]
        have c3' : (z.name == n) = true := by simpa using c3
        have hc := Nat.zero_add 0
        repeat' (first | simp only [hc, SX, l1, e1, hlt, nn, c3', f1, ZZ, simprocAttr, ↓reduceIte] | ((first | apply Za | apply Zb | apply Zc | apply Zd | apply Ze | apply Zf | apply Zg | apply Zh) <;> intro hc) | refine Zj ?_)
        all_goals simp [Zon.row]
      have c3' : (z.name == n) = false := by simpa using c3
      have hc := Nat.zero_add 0
      repeat' (first | simp only [hc, SX, l1, e1, hlt, nn, hw, c3', ZZ, simprocAttr, ↓reduceIte] | ((first | apply Za | apply Zb | apply Zc | apply Zd | apply Ze | apply Zf | apply Zg | apply Zh) <;> intro hc) | refine Zj ?_)
      exact lp_next (j + 1) (Wk.cutk (k := 1) (by simp) (by simp) (by simp) (by simp [subT, look]) (by simp [AV.low, V.low, C1.low]) (by simp [Ob.low, C1.low])) ⟨by omega, h2 c3⟩ (by omega)
    have hlt : ((j : Int) < (l.length : Int)) = False := eq_false (by omega)
    have h3 : findR Zon.cp l n = [.agg Zon.nil.row, .b false] := by unfold findR; rw [findZ_all hjl hout]
    rw [h3]
    have hc := Nat.zero_add 0
    repeat' (first | simp only [hc, SX, l1, hlt, ZZ, simprocAttr, ↓reduceIte] | ((first | apply Za | apply Zb | apply Zc | apply Zd | apply Ze | apply Zf | apply Zg | apply Zh) <;> intro hc) | refine Zj ?_)
    all_goals simp [Zon.row, Zon.nil]
  cases h
theorem zfind_at {f : Bool} {l : List Zon} {n : List UInt8} (h : zonesOk l) : zfind_m [.c (.sl f (l.map Zon.row)), .c (.str n)] = some (findR Zon.cp l n) := by
  have := mE_eq encZsN_inj (g := fun p => if zonesOk p.1.2 then some (findR Zon.cp p.1.2 p.2) else none) (a := ((f, l), n))
  exact this.trans (if_pos h)
theorem sof_ok : PureC Tryz.prog Gt 89 sof_m := by
  refine pure_of_awp (X := ctx Tryz.prog Gt [(16, zfind_m), (65, zcheck_m)]) Tryz.func89 rfl rfl (by kernel_rfl) (by kernel_rfl) (AllOk.cons zfind_ok (AllOk.cons zcheck_ok AllOk.nil)).kok ?_
  intro args r h0
  obtain ⟨⟨⟨kind, zone, plate, time, til⟩, f, l⟩, rfl, h⟩ := mE_inv h0
  refine ⟨Nat.le_of_ble_eq_true rfl, ?_⟩
  split at h
  · rename_i hl
    dsimp only at hl h
    cases h
    have f1 := zfind_at (f := f) (n := zone) hl
    have hok := @findZ_ok l zone hl
    cases hf : findZ l zone with
    | some z =>
      simp only [findR, hf, Zon.row] at f1
      have f2 := zcheck_at (z := z.cp) (by have := (hok hf).2; simp only [Zon.cp]; omega)
      rw [Zon.cp_err] at f2
      simp only [Zon.row] at f2
      simp only [ofR, hf]
      by_cases c1 : z.err = 0
      · rw [c1] at f2 ⊢
        have hc := Nat.zero_add 0
        repeat' (first | simp only [hc, Tryz.f89, encPZs, Par.row, SX, f1, f2, ZZ, simprocAttr, ↓reduceIte] | ((first | apply Za | apply Zb | apply Zc | apply Zd | apply Ze | apply Zf | apply Zg | apply Zh) <;> intro hc) | refine Zj ?_)
        all_goals simp [Zon.row]
      · rw [decide_eq_false c1]
        have hc := Nat.zero_add 0
        repeat' (first | simp only [hc, Tryz.f89, encPZs, Par.row, SX, f1, f2, c1, ZZ, simprocAttr, ↓reduceIte] | ((first | apply Za | apply Zb | apply Zc | apply Zd | apply Ze | apply Zf | apply Zg | apply Zh) <;> intro hc) | refine Zj ?_)
        all_goals simp [Zon.row]
    | none =>
      simp only [findR, hf, Zon.row, Zon.nil] at f1
      simp only [ofR, hf]
      have hc := Nat.zero_add 0
      repeat' (first | simp only [hc, Tryz.f89, encPZs, Par.row, SX, f1, List.map_nil, ZZ, simprocAttr, ↓reduceIte] | ((first | apply Za | apply Zb | apply Zc | apply Zd | apply Ze | apply Zf | apply Zg | apply Zh) <;> intro hc) | refine Zj ?_)
      all_goals simp [Zon.row, Zon.nil]
  cases h
end
end Go.Ab
