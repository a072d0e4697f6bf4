/-
  Texts of the layer and of the laws, put together: AbJ16, AbJ17.
-/
import Derived.Test.YtdoofgbeajkpaaaGreatDoorAbWP34
import Derived.Test.YtdoofgbeajkpaaaGreatDoorAbWP28
import Derived.Test.YtdoofgbeajkpaaaGreatDoorAbWP35
set_option linter.unusedSimpArgs false
set_option linter.unusedVariables false
set_option maxRecDepth 100000
namespace Go.Ab
open Go.RowKit Go.Proofs
structure Sty where
  id : List UInt8
  zone : List UInt8
  plate : List UInt8
  v : Iv
def Sty.row (s : Sty) : List D := [.str s.id, .str s.zone, .str s.plate, .int .i64 s.v.1, .int .i64 s.v.2]
theorem Sty.inj (a b : Sty) (h : a.row = b.row) : a = b := by
  obtain ⟨a1, a2, a3, a4, a5⟩ := a
  obtain ⟨b1, b2, b3, b4, b5⟩ := b
  simpa [Sty.row, and_assoc] using h
def Sty.ev (s : Sty) : Par := ⟨5, s.zone, s.plate, s.v.1, 0⟩
def Sty.Ok (s : Sty) : Prop := inI s.v.1 = true ∧ inI s.v.2 = true ∧ s.zone.length ≤ 1000000000 ∧ s.plate.length ≤ 1000000000
theorem Sty.Ok.ev {s : Sty} (h : s.Ok) : s.ev.Ok := ⟨rfl, h.1, rfl, h.2.2.1, h.2.2.2⟩
def chkF (zs : List Zon) (s : Sty) : Int := match findZ zs s.zone with
  | none => 23
  | some z => if z.err ≠ 0 then 23 else if plateB s.plate = false then 19 else if ivOk s.v = false then 12 else if s.id = keyF s.ev then 0 else 6
def encSy (s : Sty) : List PA := [.agg s.row]
theorem encSy_inj (a b : Sty) (h : encSy a = encSy b) : a = b := Sty.inj a b (by simpa [encSy] using h)
def encSyZ (p : Sty × (Bool × List Zon)) : List PA := [.agg p.1.row, .c (.sl p.2.1 (p.2.2.map Zon.row))]
theorem encSyZ_inj (a b : Sty × (Bool × List Zon)) (h : encSyZ a = encSyZ b) : a = b := by
  obtain ⟨a1, a2, a3⟩ := a
  obtain ⟨b1, b2, b3⟩ := b
  simp only [encSyZ, List.cons.injEq, DV.agg.injEq, DV.c.injEq, D.sl.injEq, and_true] at h
  rw [Sty.inj _ _ h.1, h.2.1, mapZn_inj.1 h.2.2]
theorem ival_iv {a b : Int} : ivalB a b = ivOk (a, b) := by
  rw [Bool.eq_iff_iff, ivOk_iff]
  simp only [ivalB, mxT, Bool.and_eq_true, decide_eq_true_eq]
  omega
noncomputable section
open Classical
def stid_m : List PA → Option (List PA) := mE encSy fun s => if s.Ok then some [.c (.str (keyF s.ev))] else none
def stchk_m : List PA → Option (List PA) := mE encSyZ fun p => if p.1.Ok ∧ zonesOk p.2.2 then some [.i (chkF p.2.2 p.1)] else none
theorem stid_ok : PureC Tryz.prog Gt 31 stid_m := by
  refine pure_of_awpS (X := ctx Tryz.prog Gt [(47, skey_m)]) Tryz.func31 rfl rfl (by kernel_rfl) (by kernel_rfl) (AllOk.cons skey_ok AllOk.nil).kok ?_
  intro args r h0
  obtain ⟨⟨id, zn, pl, a, b⟩, rfl, h⟩ := mE_inv h0
  refine ⟨Nat.le_of_ble_eq_true rfl, ?_⟩
  split at h
  · rename_i hok
    cases h
    have f1 : skey_m [.agg _] = _ := (mE_eq encP_inj (g := fun p : Par => if p.Ok then some [.c (.str (keyF p))] else none) (a := Sty.ev ⟨id, zn, pl, a, b⟩)).trans (if_pos hok.ev)
    simp only [Sty.ev, Par.row] at f1 ⊢
    have hc := Nat.zero_add 0
    repeat' (first | simp only [hc, AS, Tryz.f31, encSy, Sty.row, SX, f1, ZZ, simprocAttr, ↓reduceIte] | ((first | apply Za | apply Zb | apply Zc | apply Zd | apply Ze | apply Zf | apply Zg | apply Zh) <;> intro hc) | refine Zi ?_ | refine Zj ?_)
  cases h
theorem stid_at {s : Sty} (h : s.Ok) : stid_m [.agg s.row] = some [.c (.str (keyF s.ev))] := by
  have := mE_eq encSy_inj (g := fun s : Sty => if s.Ok then some [DV.c (.str (keyF s.ev))] else none) (a := s)
  exact this.trans (if_pos h)
set_option maxHeartbeats 2000000 in
theorem stchk_ok : PureC Tryz.prog Gt 29 stchk_m := by
  refine pure_of_awpS (X := ctx Tryz.prog Gt [(16, zfind_m), (65, zcheck_m), (66, pnorm_m), (59, spv_m), (31, stid_m)]) Tryz.func29 rfl rfl (by kernel_rfl) (by kernel_rfl) (AllOk.cons zfind_ok (AllOk.cons zcheck_ok (AllOk.cons pnorm_ok (AllOk.cons spv_ok (AllOk.cons stid_ok AllOk.nil))))).kok ?_
  intro args r h0
  obtain ⟨⟨⟨id, zn, pl, a, b⟩, f, zs⟩, rfl, h⟩ := mE_inv h0
  refine ⟨Nat.le_of_ble_eq_true rfl, ?_⟩
  split at h
  · rename_i hok
    obtain ⟨hok, hzs⟩ := hok
    dsimp only at hok hzs h
    simp only [Option.some.injEq] at h
    have f1 := @zfind_at f zs zn hzs
    have f4 := stid_at hok
    have f3 := pnorm_at hok.2.2.2
    have hok' := hok
    simp only [Sty.row, Sty.ev] at f4 f3
    have hpl : plateB pl = decide ((plF pl).2 = 0 ∧ (plF pl).1 = pl) := rfl
    have hR : chkF zs ⟨id, zn, pl, a, b⟩ = match findZ zs zn with
      | none => 23
      | some z => if z.err ≠ 0 then 23 else if plateB pl = false then 19 else if ivOk (a, b) = false then 12 else if id = keyF ⟨5, zn, pl, a, 0⟩ then 0 else 6 := rfl
    have fv := @spv_at (a, b)
    simp only [rwI] at fv
    have hzm : ∀ z, findZ zs zn = some z → z.Ok := fun z hz => hzs.2 z (List.mem_of_find?_eq_some hz)
    generalize chkF _ _ = R at *
    generalize (plF pl).1 = q1 at *
    generalize (plF pl).2 = q2 at *
    generalize ivOk (a, b) = v at *
    generalize keyF _ = K at *
    cases hf : findZ zs zn with
    | none =>
      rw [hf] at hR
      dsimp only at hR
      subst hR
      simp only [findR, hf, Zon.row, Zon.nil, List.map_nil] at f1
      have hc := Nat.zero_add 0
      repeat' (first | simp only [hc, AS, Tryz.f29, encSyZ, Sty.row, SX, f1, ZZ, simprocAttr, ↓reduceIte] | ((first | apply Za | apply Zb | apply Zc | apply Zd | apply Ze | apply Zf | apply Zg | apply Zh) <;> intro hc) | refine Zi ?_ | refine Zj ?_)
      rw [← h]
    | some z =>
      have hzo := hzm z hf
      rw [hf] at hR
      dsimp only at hR
      have f2 := @zcheck_at (Zon.cp z) (by exact Nat.le_trans hzo.2 (by decide))
      rw [Zon.cp_err] at f2
      simp only [findR, hf, Zon.row, Zon.cp] at f1 f2
      generalize z.err = e at *
      by_cases c1 : e = 0
      · subst c1
        rw [if_neg (by simp)] at hR
        by_cases c2 : q2 = 0
        · subst c2
          by_cases c3 : q1 = pl
          · subst c3
            have c3' : (q1 == q1) = true := by simp
            rw [if_neg (by rw [hpl]; simp)] at hR
            cases v
            · rw [if_pos rfl] at hR
              subst hR
              have hc := Nat.zero_add 0
              repeat' (first | simp only [hc, AS, Tryz.f29, encSyZ, Sty.row, SX, f1, f2, f3, fv, c3', bne, ZZ, simprocAttr, ↓reduceIte] | ((first | apply Za | apply Zb | apply Zc | apply Zd | apply Ze | apply Zf | apply Zg | apply Zh) <;> intro hc) | refine Zi ?_ | refine Zj ?_)
              rw [← h]
            rw [if_neg (by decide)] at hR
            by_cases c4 : id = K
            · have c4' : (id == K) = true := by simpa using c4
              rw [if_pos c4] at hR
              subst hR
              have hc := Nat.zero_add 0
              repeat' (first | simp only [hc, AS, Tryz.f29, encSyZ, Sty.row, SX, f1, f2, f3, f4, fv, c3', c4', bne, ZZ, simprocAttr, ↓reduceIte] | ((first | apply Za | apply Zb | apply Zc | apply Zd | apply Ze | apply Zf | apply Zg | apply Zh) <;> intro hc) | refine Zi ?_ | refine Zj ?_)
              rw [← h]
            have c4' : (id == K) = false := by simpa using c4
            rw [if_neg c4] at hR
            subst hR
            have hc := Nat.zero_add 0
            repeat' (first | simp only [hc, AS, Tryz.f29, encSyZ, Sty.row, SX, f1, f2, f3, f4, fv, c3', c4', bne, ZZ, simprocAttr, ↓reduceIte] | ((first | apply Za | apply Zb | apply Zc | apply Zd | apply Ze | apply Zf | apply Zg | apply Zh) <;> intro hc) | refine Zi ?_ | refine Zj ?_)
            rw [← h]
          have c3' : (q1 == pl) = false := by simpa using c3
          rw [if_pos (by rw [hpl]; simp [c3])] at hR
          subst hR
          have hc := Nat.zero_add 0
          repeat' (first | simp only [hc, AS, Tryz.f29, encSyZ, Sty.row, SX, f1, f2, f3, c3', bne, ZZ, simprocAttr, ↓reduceIte] | ((first | apply Za | apply Zb | apply Zc | apply Zd | apply Ze | apply Zf | apply Zg | apply Zh) <;> intro hc) | refine Zi ?_ | refine Zj ?_)
          rw [← h]
        have c2' := eq_false c2
        rw [if_pos (by rw [hpl]; simp [c2])] at hR
        subst hR
        have hc := Nat.zero_add 0
        repeat' (first | simp only [hc, AS, Tryz.f29, encSyZ, Sty.row, SX, f1, f2, f3, c2', bne, ZZ, simprocAttr, ↓reduceIte] | ((first | apply Za | apply Zb | apply Zc | apply Zd | apply Ze | apply Zf | apply Zg | apply Zh) <;> intro hc) | refine Zi ?_ | refine Zj ?_)
        rw [← h]
      have c1' := eq_false c1
      rw [if_pos c1] at hR
      subst hR
      have hc := Nat.zero_add 0
      repeat' (first | simp only [hc, AS, Tryz.f29, encSyZ, Sty.row, SX, f1, f2, c1', bne, ZZ, simprocAttr, ↓reduceIte] | ((first | apply Za | apply Zb | apply Zc | apply Zd | apply Ze | apply Zf | apply Zg | apply Zh) <;> intro hc) | refine Zi ?_ | refine Zj ?_)
      rw [← h]
  cases h
theorem stchk_at {s : Sty} {f : Bool} {l : List Zon} (h : s.Ok) (hl : zonesOk l) : stchk_m [.agg s.row, .c (.sl f (l.map Zon.row))] = some [.i (chkF l s)] := by
  have := mE_eq encSyZ_inj (g := fun p => if p.1.Ok ∧ zonesOk p.2.2 then some [DV.i (chkF p.2.2 p.1)] else none) (a := (s, f, l))
  exact this.trans (if_pos ⟨h, hl⟩)
end
end Go.Ab
namespace Go.Ab
open Go.RowKit Go.Proofs
theorem lenSy {l : List Sty} : ((l.map Sty.row).length : Int) = l.length := by simp
theorem sy_at {l : List Sty} {j : Nat} (h : j < l.length) : (l.map Sty.row)[j]? = some [.str l[j].id, .str l[j].zone, .str l[j].plate, .int .i64 l[j].v.1, .int .i64 l[j].v.2] := by simp [h, Sty.row]
noncomputable section
open Classical
end
end Go.Ab
