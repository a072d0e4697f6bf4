/-
  Texts of the layer and of the laws, put together: AbU1, AbU2.
-/
import Derived.Test.YtdoofgbeajkpaaaGreatDoorAbWP18
import Derived.Test.YtdoofgbeajkpaaaGreatDoorAbWP17
import Derived.Test.YtdoofgbeajkpaaaGreatDoorAbWP16
import Derived.Test.YtdoofgbeajkpaaaGreatDoorAbWP11
import Derived.Test.YtdoofgbeajkpaaaGreatDoorAbWP10
set_option linter.unusedSimpArgs false
set_option linter.unusedVariables false
set_option maxRecDepth 100000
namespace Go.Ab
open Go.RowKit Go.Proofs
structure Win where
  d : Int
  f : Int
  t : Int
def Win.row (x : Win) : List D := [.int .i64 x.d, .int .i64 x.f, .int .i64 x.t]
theorem Win.inj (a b : Win) (h : a.row = b.row) : a = b := by cases a; cases b; simpa [Win.row] using h
theorem mapW_inj {l k : List Win} : l.map Win.row = k.map Win.row ↔ l = k := ⟨map_inj Win.inj, fun h => by rw [h]⟩
structure Stf where
  u : Int
  n : Int
  c : Int
def Stf.row (x : Stf) : List D := [.int .i64 x.u, .int .i64 x.n, .int .i64 x.c]
theorem Stf.inj (a b : Stf) (h : a.row = b.row) : a = b := by cases a; cases b; simpa [Stf.row] using h
theorem mapSt_inj {l k : List Stf} : l.map Stf.row = k.map Stf.row ↔ l = k := ⟨map_inj Stf.inj, fun h => by rw [h]⟩
structure Zon where
  name : List UInt8
  hf : Bool
  hrs : List Win
  sf : Bool
  sts : List Stf
  grace : Int
  free : Int
  dmax : Int
  stay : Int
def Zon.row (z : Zon) : List D := [.str z.name, .sl z.hf (z.hrs.map Win.row), .sl z.sf (z.sts.map Stf.row), .int .i64 z.grace, .int .i64 z.free, .int .i64 z.dmax, .int .i64 z.stay]
theorem Zon.inj (a b : Zon) (h : a.row = b.row) : a = b := by
  cases a; cases b
  simpa [Zon.row, mapW_inj, mapSt_inj, and_assoc] using h
theorem mapZn_inj {l k : List Zon} : l.map Zon.row = k.map Zon.row ↔ l = k := ⟨map_inj Zon.inj, fun h => by rw [h]⟩
def Zon.nil : Zon := ⟨[], true, [], true, [], 0, 0, 0, 0⟩
def encZ (z : Zon) : List PA := [.agg z.row]
theorem encZ_inj (a b : Zon) (h : encZ a = encZ b) : a = b := Zon.inj a b (by simpa [encZ] using h)
def encSts (p : Bool × List Stf) : List PA := [.c (.sl p.1 (p.2.map Stf.row))]
theorem encSts_inj (a b : Bool × List Stf) (h : encSts a = encSts b) : a = b := by
  obtain ⟨a1, a2⟩ := a
  obtain ⟨b1, b2⟩ := b
  simpa [encSts, mapSt_inj] using h
def encStI (p : (Bool × List Stf) × Int) : List PA := [.c (.sl p.1.1 (p.1.2.map Stf.row)), .c (.int .i64 p.2)]
theorem encStI_inj (a b : (Bool × List Stf) × Int) (h : encStI a = encStI b) : a = b := by
  obtain ⟨⟨a1, a2⟩, a3⟩ := a
  obtain ⟨⟨b1, b2⟩, b3⟩ := b
  simp [encStI, mapSt_inj] at h
  simp [h]
def btwB (n a b : Int) : Bool := decide (a ≤ n ∧ n ≤ b)
theorem btwB_iff {n a b : Int} : btwB n a b = true ↔ a ≤ n ∧ n ≤ b := by simp [btwB]
def Win.ok (w : Win) : Bool := validB w.d w.f w.t
def stF (q : Option Int) (s : Stf) (e : Bool) : Int :=
  if btwB s.n 1 68719476736 = false ∨ btwB s.c 0 2147483648 = false then 1
  else if e = true then (if s.u ≠ 0 then 12 else 0)
  else if btwB s.u 1 68719476736 = false then 12
  else match q with
    | some k => if s.u ≤ k then 15 else 0
    | none => 0
def stsG : Option Int → List Stf → Int
  | _, [] => 0
  | q, s :: r => if stF q s r.isEmpty ≠ 0 then stF q s r.isEmpty else stsG (some s.u) r
def stsF (l : List Stf) : Int := if 16 < l.length then 3 else if l.length = 0 then 1 else stsG none l
def Zon.err (z : Zon) : Int :=
  if nameB z.name = false then 6 else if 32 < z.hrs.length then 3 else if z.hrs.all Win.ok = false then 12 else if stsF z.sts ≠ 0 then stsF z.sts
  else if btwB z.grace 0 68719476736 = false ∨ btwB z.free 0 68719476736 = false ∨ btwB z.stay 0 68719476736 = false then 12
  else if btwB z.dmax 0 1125899906842624 = false then 13 else 0
def prevU (l : List Stf) (j : Nat) : Option Int := if j = 0 then none else (l[j - 1]?).map (·.u)
theorem stsG_drop {l : List Stf} {j : Nat} (h : j < l.length) : stsG (prevU l j) (l.drop j) = if stF (prevU l j) l[j] (decide (j + 1 = l.length)) ≠ 0 then stF (prevU l j) l[j] (decide (j + 1 = l.length)) else stsG (prevU l (j + 1)) (l.drop (j + 1)) := by
  have e : (l.drop (j + 1)).isEmpty = decide (j + 1 = l.length) := by
    rw [Bool.eq_iff_iff, List.isEmpty_iff, List.drop_eq_nil_iff, decide_eq_true_iff]; omega
  have e2 : prevU l (j + 1) = some l[j].u := by simp [prevU, h]
  rw [List.drop_eq_getElem_cons h, stsG, e, e2]
noncomputable section
open Classical
def zwithin_m : List PA → Option (List PA) := m3 fun n a b => some [.b (btwB n a b)]
def zvalid_m : List PA → Option (List PA) := mw fun a b c => some [.b (validB a b c)]
def zrwin_m : List PA → Option (List PA) := mw fun a b c => some [.b (validB a b c)]
def zsteps_m : List PA → Option (List PA) := mE encSts fun p => if decide (p.2.length ≤ 9223372036854775807) = true then some [.i (stsF p.2)] else none
def zrstep_m : List PA → Option (List PA) := mE encStI fun p => if decide (p.1.2.length ≤ 16 ∧ 0 ≤ p.2) = true then (match p.1.2[p.2.toNat]? with | some s => some [.i (stF (prevU p.1.2 p.2.toNat) s (decide (p.2.toNat + 1 = p.1.2.length)))] | none => none) else none
def zrname_m : List PA → Option (List PA) := ms fun s => some [.b (nameB s)]
theorem zwithin_ok : PureC Tryz.prog Gt 50 zwithin_m := by
  refine pure_of_awp (X := ctx Tryz.prog Gt []) Tryz.func50 rfl rfl (by kernel_rfl) (by kernel_rfl) AllOk.nil.kok ?_
  intro args r h0
  obtain ⟨n, a, b, rfl, h⟩ := m3_inv h0
  refine ⟨Nat.le_of_ble_eq_true rfl, ?_⟩
  cases h
  have hc := Nat.zero_add 0
  repeat' (first | simp only [hc, Tryz.f50, ZZ, simprocAttr, ↓reduceIte] | ((first | apply Za | apply Zb | apply Zc | apply Zd | apply Ze | apply Zf | apply Zg | apply Zh) <;> intro hc) | refine Zj ?_)
  all_goals (simp_all [btwB, DV.b]; try omega)
theorem zwithin_at {n a b : Int} : zwithin_m [.c (.int .i64 n), .c (.int .i64 a), .c (.int .i64 b)] = some [.b (btwB n a b)] := rfl
theorem zvalid_ok : PureC Tryz.prog Gt 96 zvalid_m := by
  refine pure_of_awp (X := ctx Tryz.prog Gt [(50, zwithin_m)]) Tryz.func96 rfl rfl (by kernel_rfl) (by kernel_rfl) (AllOk.cons zwithin_ok AllOk.nil).kok ?_
  intro args r h0
  obtain ⟨a, b, c, rfl, h⟩ := mw_inv h0
  refine ⟨Nat.le_of_ble_eq_true rfl, ?_⟩
  cases h
  have e := @btwB_iff a 1 127
  cases hd : btwB a 1 127
  all_goals
    rw [hd] at e
    have hc := Nat.zero_add 0
    repeat' (first | simp only [hc, Tryz.f96, zwithin_at, hd, ZZ, simprocAttr, ↓reduceIte] | ((first | apply Za | apply Zb | apply Zc | apply Zd | apply Ze | apply Zf | apply Zg | apply Zh) <;> intro hc) | refine Zj ?_)
  all_goals (simp_all [validB, DV.b]; try omega)
theorem zrwin_ok : PureC Tryz.prog Gt 79 zrwin_m := by
  refine pure_of_awp (X := ctx Tryz.prog Gt []) Tryz.func79 rfl rfl (by kernel_rfl) (by kernel_rfl) AllOk.nil.kok ?_
  intro args r h0
  obtain ⟨a, b, c, rfl, h⟩ := mw_inv h0
  refine ⟨Nat.le_of_ble_eq_true rfl, ?_⟩
  cases h
  have hc := Nat.zero_add 0
  repeat' (first | simp only [hc, Tryz.f79, ZZ, simprocAttr, ↓reduceIte] | ((first | apply Za | apply Zb | apply Zc | apply Zd | apply Ze | apply Zf | apply Zg | apply Zh) <;> intro hc) | refine Zj ?_)
  all_goals (simp_all [validB, DV.b]; try omega)
theorem zvalid_at {a b c : Int} : zvalid_m [.agg [.int .i64 a, .int .i64 b, .int .i64 c]] = some [.b (validB a b c)] := rfl
theorem zrwin_at {a b c : Int} : zrwin_m [.agg [.int .i64 a, .int .i64 b, .int .i64 c]] = some [.b (validB a b c)] := rfl
theorem zrname_ok : PureC Tryz.prog Gt 76 zrname_m := by
  refine pure_of_awp (X := ctx Tryz.prog Gt []) Tryz.func76 rfl rfl (by kernel_rfl) (by kernel_rfl) AllOk.nil.kok ?_
  intro args r h0
  obtain ⟨s, rfl, h⟩ := ms_inv h0
  refine ⟨Nat.le_of_ble_eq_true rfl, ?_⟩
  cases h
  by_cases hl1 : (s.length : Int) < 1
  · have : nameB s = false := by simp [nameB]; omega
    have hc := Nat.zero_add 0
    repeat' (first | simp only [hc, Tryz.f76, SX, hl1, ZZ, simprocAttr, ↓reduceIte] | ((first | apply Za | apply Zb | apply Zc | apply Zd | apply Ze | apply Zf | apply Zg | apply Zh) <;> intro hc) | refine Zj ?_)
    all_goals simp [this, DV.b]
  by_cases hl2 : (12 : Int) < s.length
  · have : nameB s = false := by simp [nameB]; omega
    have hc := Nat.zero_add 0
    repeat' (first | simp only [hc, Tryz.f76, SX, hl1, hl2, ZZ, simprocAttr, ↓reduceIte] | ((first | apply Za | apply Zb | apply Zc | apply Zd | apply Ze | apply Zf | apply Zg | apply Zh) <;> intro hc) | refine Zj ?_)
    all_goals simp [this, DV.b]
  have hn : nameB s = nmAll true s := by
    unfold nameB
    rw [show decide (1 ≤ s.length) = true by simp; omega, show decide (s.length ≤ 12) = true by simp; omega]; rfl
  obtain ⟨c0, hz⟩ : ∃ c, s[0]? = some c := by
    cases s with
    | nil => simp at hl1
    | cons c r => exact ⟨c, rfl⟩
  have hno0 : ¬ okN 0 c0.toNat → nameB s = false := fun h => by
    rw [hn, show s = c0 :: s.drop 1 from by have := drop_of hz; simpa using this]
    exact nm_no (j := 0) h
  by_cases k1 : (c0.toNat : Int) < 97
  · have := hno0 (by unfold okN; omega)
    have hc := Nat.zero_add 0
    repeat' (first | simp only [hc, Tryz.f76, SX, hl1, hl2, hz, k1, ZZ, simprocAttr, ↓reduceIte] | ((first | apply Za | apply Zb | apply Zc | apply Zd | apply Ze | apply Zf | apply Zg | apply Zh) <;> intro hc) | refine Zj ?_)
    all_goals simp [this, DV.b]
  by_cases k2 : (122 : Int) < c0.toNat
  · have := hno0 (by unfold okN; omega)
    have hc := Nat.zero_add 0
    repeat' (first | simp only [hc, Tryz.f76, SX, hl1, hl2, hz, k1, k2, ZZ, simprocAttr, ↓reduceIte] | ((first | apply Za | apply Zb | apply Zc | apply Zd | apply Ze | apply Zf | apply Zg | apply Zh) <;> intro hc) | refine Zj ?_)
    all_goals simp [this, DV.b]
  have hc := Nat.zero_add 0
  repeat' (first | simp only [hc, Tryz.f76, SX, hl1, hl2, hz, k1, k2, ZZ, simprocAttr, ↓reduceIte] | ((first | apply Za | apply Zb | apply Zc | apply Zd | apply Ze | apply Zf | apply Zg | apply Zh) <;> intro hc) | refine Zj ?_)
  refine awp_loop (σ := Nat) (fun j => j ≤ s.length ∧ nameB s = nmAll (decide (j = 0)) (s.drop j)) (fun j => ⟨[(3, AV.i j), (0, AV.s s)], []⟩) (fun j => s.length - j) 0 (Wk.sub' (by simp [subT, look]) rfl) (by simp [hn]) ?_
  rintro j ⟨hj, hout⟩
  by_cases hjl : j < s.length
  · have e1 : s[j]? = some s[j] := by simp [hjl]
    have hlt : ((j : Int) < (s.length : Int)) = True := by simp; omega
    have hw := wI (n := (j : Int) + 1) (by omega) (by omega)
    have hj0 : j = 0 → s[j] = c0 := by
      rintro rfl
      rw [e1] at hz
      exact Option.some.inj hz
    generalize s[j] = c at *
    rw [drop_of e1] at hout
    have hno : ¬ okN j c.toNat → nameB s = false := fun h => by rw [hout, nm_no h]
    have hok : okN j c.toNat → nameB s = nmAll (decide (j + 1 = 0)) (s.drop (j + 1)) := fun h => by rw [hout, nm_ok h, decide_eq_false (by omega)]
    have hj0' : j = 0 → c.toNat = c0.toNat := fun h => by rw [hj0 h]
    have hc := Nat.zero_add 0
    repeat' (first | simp only [hc, SX, e1, hlt, nn, hw, ZZ, simprocAttr, ↓reduceIte] | ((first | apply Za | apply Zb | apply Zc | apply Zd | apply Ze | apply Zf | apply Zg | apply Zh) <;> intro hc) | refine Zj ?_)
    all_goals first
      | (exfalso; omega)
      | (have h := hno (by unfold okN; omega); simp [h, DV.b]; done)
      | exact lp_next (j + 1) (Wk.sub' (by simp [subT, look]) rfl) ⟨by omega, hok (by unfold okN; omega)⟩ (by omega)
  have hlt : ((j : Int) < (s.length : Int)) = False := by simp; omega
  rw [List.drop_of_length_le (by omega)] at hout
  have hc := Nat.zero_add 0
  repeat' (first | simp only [hc, SX, hlt, ZZ, simprocAttr, ↓reduceIte] | ((first | apply Za | apply Zb | apply Zc | apply Zd | apply Ze | apply Zf | apply Zg | apply Zh) <;> intro hc) | refine Zj ?_)
  simp [hout, nmAll, DV.b]
end
end Go.Ab
namespace Go.Ab
open Go.RowKit Go.Proofs
theorem lenSt {l : List Stf} : ((l.map Stf.row).length : Int) = l.length := by simp
theorem lenWn {l : List Win} : ((l.map Win.row).length : Int) = l.length := by simp
theorem st_at {l : List Stf} {j : Nat} (h : j < l.length) : (l.map Stf.row)[j]? = some [.int .i64 l[j].u, .int .i64 l[j].n, .int .i64 l[j].c] := by simp [h, Stf.row]
theorem wn_at {l : List Win} {j : Nat} (h : j < l.length) : (l.map Win.row)[j]? = some [.int .i64 l[j].d, .int .i64 l[j].f, .int .i64 l[j].t] := by simp [h, Win.row]
noncomputable section
open Classical
theorem zsteps_ok : PureC Tryz.prog Gt 112 zsteps_m := by
  refine pure_of_awp (X := ctx Tryz.prog Gt [(50, zwithin_m)]) Tryz.func112 rfl rfl (by kernel_rfl) (by kernel_rfl) (AllOk.cons zwithin_ok AllOk.nil).kok ?_
  intro args r h0
  obtain ⟨⟨f, l⟩, rfl, h⟩ := mE_inv h0
  refine ⟨Nat.le_of_ble_eq_true rfl, ?_⟩
  split at h
  · rename_i hl
    have hl := of_decide_eq_true hl
    dsimp only at hl h
    cases h
    have l1 := @lenSt l
    by_cases c1 : 16 < l.length
    · have c1' : (16 : Int) < l.length := by omega
      have hc := Nat.zero_add 0
      repeat' (first | simp only [hc, Tryz.f112, encSts, SX, l1, c1', ZZ, simprocAttr, ↓reduceIte] | ((first | apply Za | apply Zb | apply Zc | apply Zd | apply Ze | apply Zf | apply Zg | apply Zh) <;> intro hc) | refine Zj ?_)
      all_goals simp [stsF, c1, DV.i]
    have c1' : ¬ (16 : Int) < l.length := by omega
    by_cases c2 : l.length = 0
    · have c2' : (l.length : Int) = 0 := by omega
      have hc := Nat.zero_add 0
      repeat' (first | simp only [hc, Tryz.f112, encSts, SX, l1, c1', c2', ZZ, simprocAttr, ↓reduceIte] | ((first | apply Za | apply Zb | apply Zc | apply Zd | apply Ze | apply Zf | apply Zg | apply Zh) <;> intro hc) | refine Zj ?_)
      all_goals simp [stsF, c2, DV.i]
    have c2' : ¬ (l.length : Int) = 0 := by omega
    have hR : stsF l = stsG none l := by unfold stsF; rw [if_neg c1, if_neg c2]
    rw [hR]
    generalize hRR : stsG none l = R at *
    have hc := Nat.zero_add 0
    repeat' (first | simp only [hc, Tryz.f112, encSts, SX, l1, c1', c2', ZZ, simprocAttr, ↓reduceIte] | ((first | apply Za | apply Zb | apply Zc | apply Zd | apply Ze | apply Zf | apply Zg | apply Zh) <;> intro hc) | refine Zj ?_)
    refine awp_loop (σ := Nat) (fun j => j ≤ l.length ∧ R = stsG (prevU l j) (l.drop j)) (fun j => ⟨[(16, AV.i j), (15, AV.i l.length), (14, AV.d (.sl f (l.map Stf.row))), (0, AV.d (.sl f (l.map Stf.row)))], []⟩) (fun j => l.length - j) 0 (Wk.sub' (by simp [subT, look]) rfl) (by simp [prevU, hRR]) ?_
    rintro j ⟨hj, hout⟩
    by_cases hjl : j < l.length
    · have e1 := st_at hjl
      have hlt : ((j : Int) < (l.length : Int)) = True := eq_true (by omega)
      have hw := wI (n := (j : Int) + 1) (by omega) (by omega)
      have hw2 := wI (n := (l.length : Int) - 1) (by omega) (by omega)
      have hw3 := wI (n := (j : Int) - 1) (by omega) (by omega)
      have hlast : ((j : Int) = (l.length : Int) - 1) ↔ (j + 1 = l.length) := by omega
      rw [stsG_drop hjl] at hout
      have hk : ∀ i, i + 1 = j → ∃ y : Stf, l[i]? = some y ∧ prevU l j = some y.u ∧ (l.map Stf.row)[i]? = some [.int .i64 y.u, .int .i64 y.n, .int .i64 y.c] := by
        intro i hi
        subst hi
        have hi' : i < l.length := by omega
        exact ⟨l[i], by simp [hi'], by simp [prevU, hi'], st_at hi'⟩
      have h0 : j = 0 → prevU l j = none := by rintro rfl; rfl
      generalize l[j] = x at *
      generalize hla : decide (j + 1 = l.length) = la at *
      have hlast : ((j : Int) = (l.length : Int) - 1) ↔ la = true := by rw [hlast, ← hla, decide_eq_true_iff]
      generalize hR2 : stsG (prevU l (j + 1)) (l.drop (j + 1)) = R2 at *
      have hst : ∀ q, stF q x la = if btwB x.n 1 68719476736 = false ∨ btwB x.c 0 2147483648 = false then 1
  else if la = true then (if x.u ≠ 0 then 12 else 0)
  else if btwB x.u 1 68719476736 = false then 12
  else match q with
    | some k => if x.u ≤ k then 15 else 0
    | none => 0 := fun q => rfl
      rw [hst] at hout
      generalize ha : btwB x.n 1 68719476736 = a at *
      generalize hb : btwB x.c 0 2147483648 = b at *
      generalize hd : btwB x.u 1 68719476736 = d at *
      have hlast2 : (((j : Int) = (l.length : Int) - 1) = (la = true)) := propext hlast
      by_cases hj0 : j = 0
      · have hp := h0 hj0
        rw [hp] at hout
        dsimp only at hout
        have hz : ((0 : Int) < (j : Int)) = False := eq_false (by omega)
        have hc := Nat.zero_add 0
        repeat' (first | simp only [hc, SX, l1, e1, hlt, nn, hw, hw2, hlast2, zwithin_at, ha, hb, hd, hz, ZZ, simprocAttr, ↓reduceIte] | ((first | apply Za | apply Zb | apply Zc | apply Zd | apply Ze | apply Zf | apply Zg | apply Zh) <;> intro hc) | refine Zj ?_)
        all_goals first
          | exact lp_next (j + 1) (Wk.cutk (k := 0) (by simp) (by simp) (by simp) (by simp [subT, look]) (by simp [AV.low, V.low, C1.low]) (by simp [Ob.low, C1.low])) ⟨by omega, by rw [hR2, hout]; clear hout hR2 hlast hla; simp_all⟩ (by omega)
          | (simp_all [DV.i]; done)
      obtain ⟨i, rfl⟩ : ∃ i, j = i + 1 := ⟨j - 1, by omega⟩
      obtain ⟨y, hy1, hy2, hy3⟩ := hk i rfl
      rw [hy2] at hout
      dsimp only at hout
      have hz : ((0 : Int) < ((i + 1 : Nat) : Int)) = True := eq_true (by omega)
      have hw4 : (((i + 1 : Nat) : Int) - 1) = (i : Int) := by omega
      have hw5 := wI (n := (i : Int)) (by omega) (by omega)
      have hc := Nat.zero_add 0
      repeat' (first | simp only [hc, SX, l1, e1, hlt, nn, hw, hw2, hlast2, zwithin_at, ha, hb, hd, hz, hw4, hw5, hy3, ZZ, simprocAttr, ↓reduceIte] | ((first | apply Za | apply Zb | apply Zc | apply Zd | apply Ze | apply Zf | apply Zg | apply Zh) <;> intro hc) | refine Zj ?_)
      all_goals first
        | exact lp_next (i + 1 + 1) (Wk.cutk (k := 0) (by simp) (by simp) (by simp) (by simp [subT, look]) (by simp [AV.low, V.low, C1.low]) (by simp [Ob.low, C1.low])) ⟨by omega, by rw [hR2, hout]; clear hout hR2 hlast hla; simp_all⟩ (by omega)
        | (simp_all [DV.i]; done)
    · have hlt : ((j : Int) < (l.length : Int)) = False := eq_false (by omega)
      rw [List.drop_of_length_le (by omega)] at hout
      have hR0 : R = 0 := by rw [hout]; cases prevU l j <;> rfl
      have hc := Nat.zero_add 0
      repeat' (first | simp only [hc, SX, l1, hlt, ZZ, simprocAttr, ↓reduceIte] | ((first | apply Za | apply Zb | apply Zc | apply Zd | apply Ze | apply Zf | apply Zg | apply Zh) <;> intro hc) | refine Zj ?_)
      all_goals simp [hR0, DV.i]
  cases h
theorem zsteps_at {f : Bool} {l : List Stf} (h : l.length ≤ 9223372036854775807) : zsteps_m [.c (.sl f (l.map Stf.row))] = some [.i (stsF l)] := by
  have := mE_eq encSts_inj (g := fun p => if decide (p.2.length ≤ 9223372036854775807) = true then some [.i (stsF p.2)] else none) (a := (f, l))
  rw [show zsteps_m = mE encSts _ from rfl]
  simp only [encSts] at this
  rw [this, if_pos (by simpa using h)]
theorem zrstep_ok : PureC Tryz.prog Gt 113 zrstep_m := by
  refine pure_of_awp (X := ctx Tryz.prog Gt []) Tryz.func113 rfl rfl (by kernel_rfl) (by kernel_rfl) AllOk.nil.kok ?_
  intro args r h0
  obtain ⟨⟨⟨f, l⟩, j⟩, rfl, h⟩ := mE_inv h0
  refine ⟨Nat.le_of_ble_eq_true rfl, ?_⟩
  split at h
  · rename_i hl
    have hl := of_decide_eq_true hl
    dsimp only at hl h
    obtain ⟨hl, hj⟩ := hl
    obtain ⟨j, rfl⟩ := Int.eq_ofNat_of_zero_le hj
    rw [show (↑j : Int).toNat = j from rfl] at h
    by_cases hjl : j < l.length
    · have hx : l[j]? = some l[j] := by simp [hjl]
      rw [hx] at h
      dsimp only at h
      cases h
      have l1 := @lenSt l
      have e1 := st_at hjl
      have hw2 := wI (n := (l.length : Int) - 1) (by omega) (by omega)
      have hlast : ((j : Int) = (l.length : Int) - 1) ↔ (j + 1 = l.length) := by omega
      have hk : ∀ i, i + 1 = j → ∃ y : Stf, prevU l j = some y.u ∧ (l.map Stf.row)[i]? = some [.int .i64 y.u, .int .i64 y.n, .int .i64 y.c] := by
        intro i hi
        subst hi
        have hi' : i < l.length := by omega
        exact ⟨l[i], by simp [prevU, hi'], st_at hi'⟩
      have h00 : j = 0 → prevU l j = none := by rintro rfl; rfl
      generalize l[j] = x at *
      generalize hla : decide (j + 1 = l.length) = la at *
      have hlast : ((j : Int) = (l.length : Int) - 1) ↔ la = true := by rw [hlast, ← hla, decide_eq_true_iff]
      have hlast2 : (((j : Int) = (l.length : Int) - 1) = (la = true)) := propext hlast
      have hst : ∀ q, stF q x la = if btwB x.n 1 68719476736 = false ∨ btwB x.c 0 2147483648 = false then 1
  else if la = true then (if x.u ≠ 0 then 12 else 0)
  else if btwB x.u 1 68719476736 = false then 12
  else match q with
    | some k => if x.u ≤ k then 15 else 0
    | none => 0 := fun q => rfl
      by_cases hj0 : j = 0
      · have hp := h00 hj0
        have hz : ((0 : Int) < (j : Int)) = False := eq_false (by omega)
        rw [hp, hst]
        dsimp only
        have hc := Nat.zero_add 0
        repeat' (first | simp only [hc, Tryz.f113, encStI, SX, l1, e1, nn, hw2, hlast2, hz, ZZ, simprocAttr, ↓reduceIte] | ((first | apply Za | apply Zb | apply Zc | apply Zd | apply Ze | apply Zf | apply Zg | apply Zh) <;> intro hc) | refine Zj ?_)
        all_goals (simp_all [DV.i, btwB]; try omega)
      obtain ⟨i, rfl⟩ : ∃ i, j = i + 1 := ⟨j - 1, by omega⟩
      obtain ⟨y, hy2, hy3⟩ := hk i rfl
      have hz : ((0 : Int) < ((i + 1 : Nat) : Int)) = True := eq_true (by omega)
      have hw4 : (((i + 1 : Nat) : Int) - 1) = (i : Int) := by omega
      have hw5 := wI (n := (i : Int)) (by omega) (by omega)
      rw [hy2, hst]
      dsimp only
      have hc := Nat.zero_add 0
      repeat' (first | simp only [hc, Tryz.f113, encStI, SX, l1, e1, nn, hw2, hlast2, hz, hw4, hw5, hy3, ZZ, simprocAttr, ↓reduceIte] | ((first | apply Za | apply Zb | apply Zc | apply Zd | apply Ze | apply Zf | apply Zg | apply Zh) <;> intro hc) | refine Zj ?_)
      all_goals (simp_all [DV.i, btwB]; try omega)
    · rw [List.getElem?_eq_none (by omega)] at h
      cases h
  cases h
end
end Go.Ab
