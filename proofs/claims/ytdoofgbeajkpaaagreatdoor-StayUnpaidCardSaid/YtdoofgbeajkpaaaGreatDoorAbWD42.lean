/-
  Texts of the layer and of the laws, put together: AbJ16, AbJ17, AbJ18.
-/
import Derived.Test.YtdoofgbeajkpaaaGreatDoorAbWD34
import Derived.Test.YtdoofgbeajkpaaaGreatDoorAbWD28
import Derived.Test.YtdoofgbeajkpaaaGreatDoorAbWD35
set_option linter.unusedSimpArgs false
set_option linter.unusedVariables false
set_option maxRecDepth 100000
namespace Go.Ab
open Go.RowKit Go.Proofs
structure Sty where
  id : List UInt8
  zone : List UInt8
  plate : List UInt8
  v : Iv
def Sty.row (s : Sty) : List D := [.str s.id, .str s.zone, .str s.plate, .int .i64 s.v.1, .int .i64 s.v.2]
theorem Sty.inj (a b : Sty) (h : a.row = b.row) : a = b := by
  obtain ⟨a1, a2, a3, a4, a5⟩ := a
  obtain ⟨b1, b2, b3, b4, b5⟩ := b
  simpa [Sty.row, and_assoc] using h
theorem mapSy_inj {l k : List Sty} : l.map Sty.row = k.map Sty.row ↔ l = k := ⟨map_inj Sty.inj, fun h => by rw [h]⟩
def Sty.ev (s : Sty) : Par := ⟨5, s.zone, s.plate, s.v.1, 0⟩
def Sty.Ok (s : Sty) : Prop := inI s.v.1 = true ∧ inI s.v.2 = true ∧ s.zone.length ≤ 1000000000 ∧ s.plate.length ≤ 1000000000
theorem Sty.Ok.ev {s : Sty} (h : s.Ok) : s.ev.Ok := ⟨rfl, h.1, rfl, h.2.2.1, h.2.2.2⟩
def chkF (zs : List Zon) (s : Sty) : Int := match findZ zs s.zone with
  | none => 23
  | some z => if z.err ≠ 0 then 23 else if plateB s.plate = false then 19 else if ivOk s.v = false then 12 else if s.id = keyF s.ev then 0 else 6
def encSy (s : Sty) : List PA := [.agg s.row]
theorem encSy_inj (a b : Sty) (h : encSy a = encSy b) : a = b := Sty.inj a b (by simpa [encSy] using h)
def encSyZ (p : Sty × (Bool × List Zon)) : List PA := [.agg p.1.row, .c (.sl p.2.1 (p.2.2.map Zon.row))]
theorem encSyZ_inj (a b : Sty × (Bool × List Zon)) (h : encSyZ a = encSyZ b) : a = b := by
  obtain ⟨a1, a2, a3⟩ := a
  obtain ⟨b1, b2, b3⟩ := b
  simp only [encSyZ, List.cons.injEq, DV.agg.injEq, DV.c.injEq, D.sl.injEq, and_true] at h
  rw [Sty.inj _ _ h.1, h.2.1, mapZn_inj.1 h.2.2]
def encSy2 (p : Sty × Sty) : List PA := [.agg p.1.row, .agg p.2.row]
theorem encSy2_inj (a b : Sty × Sty) (h : encSy2 a = encSy2 b) : a = b := by
  simp only [encSy2, List.cons.injEq, DV.agg.injEq, and_true] at h
  exact Prod.ext (Sty.inj _ _ h.1) (Sty.inj _ _ h.2)
def Sty.same (a b : Sty) : Bool := decide (a.id = b.id) && decide (a.zone = b.zone) && decide (a.plate = b.plate) && decide (a.v.1 = b.v.1) && decide (a.v.2 = b.v.2)
theorem ival_iv {a b : Int} : ivalB a b = ivOk (a, b) := by
  rw [Bool.eq_iff_iff, ivOk_iff]
  simp only [ivalB, mxT, Bool.and_eq_true, decide_eq_true_eq]
  omega
noncomputable section
open Classical
def stid_m : List PA → Option (List PA) := mE encSy fun s => if s.Ok then some [.c (.str (keyF s.ev))] else none
def r0id_m : List PA → Option (List PA) := mE encSy fun s => if s.Ok then some [.c (.str (keyF s.ev))] else none
def stchk_m : List PA → Option (List PA) := mE encSyZ fun p => if p.1.Ok ∧ zonesOk p.2.2 then some [.i (chkF p.2.2 p.1)] else none
def r0chk_m : List PA → Option (List PA) := mE encSyZ fun p => if p.1.Ok ∧ zonesOk p.2.2 then some [.i (chkF p.2.2 p.1)] else none
def r0ss_m : List PA → Option (List PA) := mE encSy2 fun p => some [.b (p.1.same p.2)]
theorem stid_ok : PureC Tryz.prog Gt 31 stid_m := by
  refine pure_of_awpS (X := ctx Tryz.prog Gt [(47, skey_m)]) Tryz.func31 rfl rfl (by kernel_rfl) (by kernel_rfl) (AllOk.cons skey_ok AllOk.nil).kok ?_
  intro args r h0
  obtain ⟨⟨id, zn, pl, a, b⟩, rfl, h⟩ := mE_inv h0
  refine ⟨Nat.le_of_ble_eq_true rfl, ?_⟩
  split at h
  · rename_i hok
    cases h
    have f1 : skey_m [.agg _] = _ := (mE_eq encP_inj (g := fun p : Par => if p.Ok then some [.c (.str (keyF p))] else none) (a := Sty.ev ⟨id, zn, pl, a, b⟩)).trans (if_pos hok.ev)
    simp only [Sty.ev, Par.row] at f1 ⊢
    have hc := Nat.zero_add 0
    repeat' (first | simp only [hc, AS, Tryz.f31, encSy, Sty.row, SX, f1, ZZ, simprocAttr, ↓reduceIte] | refine Zi ?_ )
  cases h
theorem r0id_ok : PureC Tryz.prog Gt 32 r0id_m := by
  refine pure_of_awpS (X := ctx Tryz.prog Gt [(62, r7key_m)]) Tryz.func32 rfl rfl (by kernel_rfl) (by kernel_rfl) (AllOk.cons r7key_ok AllOk.nil).kok ?_
  intro args r h0
  obtain ⟨⟨id, zn, pl, a, b⟩, rfl, h⟩ := mE_inv h0
  refine ⟨Nat.le_of_ble_eq_true rfl, ?_⟩
  split at h
  · rename_i hok
    cases h
    have f1 : r7key_m [.agg _] = _ := (mE_eq encP_inj (g := fun p : Par => if p.Ok then some [.c (.str (keyF p))] else none) (a := Sty.ev ⟨id, zn, pl, a, b⟩)).trans (if_pos hok.ev)
    simp only [Sty.ev, Par.row] at f1 ⊢
    have hc := Nat.zero_add 0
    repeat' (first | simp only [hc, AS, Tryz.f32, encSy, Sty.row, SX, f1, ZZ, simprocAttr, ↓reduceIte] | refine Zi ?_ )
  cases h
theorem stid_at {s : Sty} (h : s.Ok) : stid_m [.agg s.row] = some [.c (.str (keyF s.ev))] := by
  have := mE_eq encSy_inj (g := fun s : Sty => if s.Ok then some [DV.c (.str (keyF s.ev))] else none) (a := s)
  exact this.trans (if_pos h)
theorem r0id_at {s : Sty} (h : s.Ok) : r0id_m [.agg s.row] = some [.c (.str (keyF s.ev))] := by
  have := mE_eq encSy_inj (g := fun s : Sty => if s.Ok then some [DV.c (.str (keyF s.ev))] else none) (a := s)
  exact this.trans (if_pos h)
set_option maxHeartbeats 2000000 in
theorem stchk_ok : PureC Tryz.prog Gt 29 stchk_m := by
  refine pure_of_awpS (X := ctx Tryz.prog Gt [(16, zfind_m), (65, zcheck_m), (66, pnorm_m), (59, spv_m), (31, stid_m)]) Tryz.func29 rfl rfl (by kernel_rfl) (by kernel_rfl) (AllOk.cons zfind_ok (AllOk.cons zcheck_ok (AllOk.cons pnorm_ok (AllOk.cons spv_ok (AllOk.cons stid_ok AllOk.nil))))).kok ?_
  intro args r h0
  obtain ⟨⟨⟨id, zn, pl, a, b⟩, f, zs⟩, rfl, h⟩ := mE_inv h0
  refine ⟨Nat.le_of_ble_eq_true rfl, ?_⟩
  split at h
  · rename_i hok
    obtain ⟨hok, hzs⟩ := hok
    dsimp only at hok hzs h
    simp only [Option.some.injEq] at h
    have f1 := @zfind_at f zs zn hzs
    have f4 := stid_at hok
    have f3 := pnorm_at hok.2.2.2
    have hok' := hok
    simp only [Sty.row, Sty.ev] at f4 f3
    have hpl : plateB pl = decide ((plF pl).2 = 0 ∧ (plF pl).1 = pl) := rfl
    have hR : chkF zs ⟨id, zn, pl, a, b⟩ = match findZ zs zn with
      | none => 23
      | some z => if z.err ≠ 0 then 23 else if plateB pl = false then 19 else if ivOk (a, b) = false then 12 else if id = keyF ⟨5, zn, pl, a, 0⟩ then 0 else 6 := rfl
    have fv := @spv_at (a, b)
    simp only [rwI] at fv
    have hzm : ∀ z, findZ zs zn = some z → z.Ok := fun z hz => hzs.2 z (List.mem_of_find?_eq_some hz)
    generalize chkF _ _ = R at *
    generalize (plF pl).1 = q1 at *
    generalize (plF pl).2 = q2 at *
    generalize ivOk (a, b) = v at *
    generalize keyF _ = K at *
    cases hf : findZ zs zn with
    | none =>
      rw [hf] at hR
      dsimp only at hR
      subst hR
      simp only [findR, hf, Zon.row, Zon.nil, List.map_nil] at f1
      have hc := Nat.zero_add 0
      repeat' (first | simp only [hc, AS, Tryz.f29, encSyZ, Sty.row, SX, f1, ZZ, simprocAttr, ↓reduceIte] | refine Zi ?_ )
      rw [← h]
    | some z =>
      have hzo := hzm z hf
      rw [hf] at hR
      dsimp only at hR
      have f2 := @zcheck_at (Zon.cp z) (by exact Nat.le_trans hzo.2 (by decide))
      rw [Zon.cp_err] at f2
      simp only [findR, hf, Zon.row, Zon.cp] at f1 f2
      generalize z.err = e at *
      by_cases c1 : e = 0
      · subst c1
        rw [if_neg (by simp)] at hR
        by_cases c2 : q2 = 0
        · subst c2
          by_cases c3 : q1 = pl
          · subst c3
            have c3' : (q1 == q1) = true := by simp
            rw [if_neg (by rw [hpl]; simp)] at hR
            cases v
            · rw [if_pos rfl] at hR
              subst hR
              have hc := Nat.zero_add 0
              repeat' (first | simp only [hc, AS, Tryz.f29, encSyZ, Sty.row, SX, f1, f2, f3, fv, c3', bne, ZZ, simprocAttr, ↓reduceIte] | refine Zi ?_ )
              rw [← h]
            rw [if_neg (by decide)] at hR
            by_cases c4 : id = K
            · have c4' : (id == K) = true := by simpa using c4
              rw [if_pos c4] at hR
              subst hR
              have hc := Nat.zero_add 0
              repeat' (first | simp only [hc, AS, Tryz.f29, encSyZ, Sty.row, SX, f1, f2, f3, f4, fv, c3', c4', bne, ZZ, simprocAttr, ↓reduceIte] | refine Zi ?_ )
              rw [← h]
            have c4' : (id == K) = false := by simpa using c4
            rw [if_neg c4] at hR
            subst hR
            have hc := Nat.zero_add 0
            repeat' (first | simp only [hc, AS, Tryz.f29, encSyZ, Sty.row, SX, f1, f2, f3, f4, fv, c3', c4', bne, ZZ, simprocAttr, ↓reduceIte] | refine Zi ?_ )
            rw [← h]
          have c3' : (q1 == pl) = false := by simpa using c3
          rw [if_pos (by rw [hpl]; simp [c3])] at hR
          subst hR
          have hc := Nat.zero_add 0
          repeat' (first | simp only [hc, AS, Tryz.f29, encSyZ, Sty.row, SX, f1, f2, f3, c3', bne, ZZ, simprocAttr, ↓reduceIte] | refine Zi ?_ )
          rw [← h]
        have c2' := eq_false c2
        rw [if_pos (by rw [hpl]; simp [c2])] at hR
        subst hR
        have hc := Nat.zero_add 0
        repeat' (first | simp only [hc, AS, Tryz.f29, encSyZ, Sty.row, SX, f1, f2, f3, c2', bne, ZZ, simprocAttr, ↓reduceIte] | refine Zi ?_ )
        rw [← h]
      have c1' := eq_false c1
      rw [if_pos c1] at hR
      subst hR
      have hc := Nat.zero_add 0
      repeat' (first | simp only [hc, AS, Tryz.f29, encSyZ, Sty.row, SX, f1, f2, c1', bne, ZZ, simprocAttr, ↓reduceIte] | refine Zi ?_ )
      rw [← h]
  cases h
set_option maxHeartbeats 2000000 in
theorem r0chk_ok : PureC Tryz.prog Gt 30 r0chk_m := by
  refine pure_of_awpS (X := ctx Tryz.prog Gt [(67, zrfind_m), (68, zrcheck_m), (69, rpnorm_m), (70, rival_m), (32, r0id_m)]) Tryz.func30 rfl rfl (by kernel_rfl) (by kernel_rfl) (AllOk.cons zrfind_ok (AllOk.cons zrcheck_ok (AllOk.cons rpnorm_ok (AllOk.cons rival_ok (AllOk.cons r0id_ok AllOk.nil))))).kok ?_
  intro args r h0
  obtain ⟨⟨⟨id, zn, pl, a, b⟩, f, zs⟩, rfl, h⟩ := mE_inv h0
  refine ⟨Nat.le_of_ble_eq_true rfl, ?_⟩
  split at h
  · rename_i hok
    obtain ⟨hok, hzs⟩ := hok
    dsimp only at hok hzs h
    simp only [Option.some.injEq] at h
    have f1 := @zrfind_at f zs zn hzs
    have f4 := r0id_at hok
    have f3 := rpnorm_at hok.2.2.2
    have hok' := hok
    simp only [Sty.row, Sty.ev] at f4 f3
    have hpl : plateB pl = decide ((plF pl).2 = 0 ∧ (plF pl).1 = pl) := rfl
    have hR : chkF zs ⟨id, zn, pl, a, b⟩ = match findZ zs zn with
      | none => 23
      | some z => if z.err ≠ 0 then 23 else if plateB pl = false then 19 else if ivOk (a, b) = false then 12 else if id = keyF ⟨5, zn, pl, a, 0⟩ then 0 else 6 := rfl
    have fv := (@rival_at a b).trans (congrArg (fun x => some [DV.b x]) ival_iv)
    have hzm : ∀ z, findZ zs zn = some z → z.Ok := fun z hz => hzs.2 z (List.mem_of_find?_eq_some hz)
    generalize chkF _ _ = R at *
    generalize (plF pl).1 = q1 at *
    generalize (plF pl).2 = q2 at *
    generalize ivOk (a, b) = v at *
    generalize keyF _ = K at *
    cases hf : findZ zs zn with
    | none =>
      rw [hf] at hR
      dsimp only at hR
      subst hR
      simp only [findR, hf, Zon.row, Zon.nil, List.map_nil] at f1
      have hc := Nat.zero_add 0
      repeat' (first | simp only [hc, AS, Tryz.f30, encSyZ, Sty.row, SX, f1, ZZ, simprocAttr, ↓reduceIte] | refine Zi ?_ )
      rw [← h]
    | some z =>
      have hzo := hzm z hf
      rw [hf] at hR
      dsimp only at hR
      have f2 := @zrcheck_at z (by exact Nat.le_trans hzo.2 (by decide))
      simp only [findR, hf, Zon.row, _root_.id] at f1 f2
      generalize z.err = e at *
      by_cases c1 : e = 0
      · subst c1
        rw [if_neg (by simp)] at hR
        by_cases c2 : q2 = 0
        · subst c2
          by_cases c3 : q1 = pl
          · subst c3
            have c3' : (q1 == q1) = true := by simp
            rw [if_neg (by rw [hpl]; simp)] at hR
            cases v
            · rw [if_pos rfl] at hR
              subst hR
              have hc := Nat.zero_add 0
              repeat' (first | simp only [hc, AS, Tryz.f30, encSyZ, Sty.row, SX, f1, f2, f3, fv, c3', bne, ZZ, simprocAttr, ↓reduceIte] | refine Zi ?_ )
              rw [← h]
            rw [if_neg (by decide)] at hR
            by_cases c4 : id = K
            · have c4' : (id == K) = true := by simpa using c4
              rw [if_pos c4] at hR
              subst hR
              have hc := Nat.zero_add 0
              repeat' (first | simp only [hc, AS, Tryz.f30, encSyZ, Sty.row, SX, f1, f2, f3, f4, fv, c3', c4', bne, ZZ, simprocAttr, ↓reduceIte] | refine Zi ?_ )
              rw [← h]
            have c4' : (id == K) = false := by simpa using c4
            rw [if_neg c4] at hR
            subst hR
            have hc := Nat.zero_add 0
            repeat' (first | simp only [hc, AS, Tryz.f30, encSyZ, Sty.row, SX, f1, f2, f3, f4, fv, c3', c4', bne, ZZ, simprocAttr, ↓reduceIte] | refine Zi ?_ )
            rw [← h]
          have c3' : (q1 == pl) = false := by simpa using c3
          rw [if_pos (by rw [hpl]; simp [c3])] at hR
          subst hR
          have hc := Nat.zero_add 0
          repeat' (first | simp only [hc, AS, Tryz.f30, encSyZ, Sty.row, SX, f1, f2, f3, c3', bne, ZZ, simprocAttr, ↓reduceIte] | refine Zi ?_ )
          rw [← h]
        have c2' := eq_false c2
        rw [if_pos (by rw [hpl]; simp [c2])] at hR
        subst hR
        have hc := Nat.zero_add 0
        repeat' (first | simp only [hc, AS, Tryz.f30, encSyZ, Sty.row, SX, f1, f2, f3, c2', bne, ZZ, simprocAttr, ↓reduceIte] | refine Zi ?_ )
        rw [← h]
      have c1' := eq_false c1
      rw [if_pos c1] at hR
      subst hR
      have hc := Nat.zero_add 0
      repeat' (first | simp only [hc, AS, Tryz.f30, encSyZ, Sty.row, SX, f1, f2, c1', bne, ZZ, simprocAttr, ↓reduceIte] | refine Zi ?_ )
      rw [← h]
  cases h
theorem stchk_at {s : Sty} {f : Bool} {l : List Zon} (h : s.Ok) (hl : zonesOk l) : stchk_m [.agg s.row, .c (.sl f (l.map Zon.row))] = some [.i (chkF l s)] := by
  have := mE_eq encSyZ_inj (g := fun p => if p.1.Ok ∧ zonesOk p.2.2 then some [DV.i (chkF p.2.2 p.1)] else none) (a := (s, f, l))
  exact this.trans (if_pos ⟨h, hl⟩)
theorem r0chk_at {s : Sty} {f : Bool} {l : List Zon} (h : s.Ok) (hl : zonesOk l) : r0chk_m [.agg s.row, .c (.sl f (l.map Zon.row))] = some [.i (chkF l s)] := by
  have := mE_eq encSyZ_inj (g := fun p => if p.1.Ok ∧ zonesOk p.2.2 then some [DV.i (chkF p.2.2 p.1)] else none) (a := (s, f, l))
  exact this.trans (if_pos ⟨h, hl⟩)
end
end Go.Ab
namespace Go.Ab
open Go.RowKit Go.Proofs
theorem lenSy {l : List Sty} : ((l.map Sty.row).length : Int) = l.length := by simp
theorem sy_at {l : List Sty} {j : Nat} (h : j < l.length) : (l.map Sty.row)[j]? = some [.str l[j].id, .str l[j].zone, .str l[j].plate, .int .i64 l[j].v.1, .int .i64 l[j].v.2] := by simp [h, Sty.row]
def sySame (a b : Sty) : Bool := decide (a.id = b.id ∧ a.zone = b.zone ∧ a.plate = b.plate ∧ a.v.1 = b.v.1 ∧ a.v.2 = b.v.2)
theorem sySame_eq {a b : Sty} : a.same b = sySame a b := by
  unfold Sty.same sySame
  rw [Bool.eq_iff_iff]
  simp only [Bool.and_eq_true, decide_eq_true_eq]
  exact ⟨fun ⟨⟨⟨⟨h1, h2⟩, h3⟩, h4⟩, h5⟩ => ⟨h1, h2, h3, h4, h5⟩, fun ⟨h1, h2, h3, h4, h5⟩ => ⟨⟨⟨⟨h1, h2⟩, h3⟩, h4⟩, h5⟩⟩
def encSys2 (p : (Bool × List Sty) × (Bool × List Sty)) : List PA := [.c (.sl p.1.1 (p.1.2.map Sty.row)), .c (.sl p.2.1 (p.2.2.map Sty.row))]
theorem encSys2_inj (a b : (Bool × List Sty) × (Bool × List Sty)) (h : encSys2 a = encSys2 b) : a = b := by
  obtain ⟨⟨a1, a2⟩, a3, a4⟩ := a
  obtain ⟨⟨b1, b2⟩, b3, b4⟩ := b
  simp only [encSys2, List.cons.injEq, DV.c.injEq, D.sl.injEq, and_true] at h
  rw [h.1.1, mapSy_inj.1 h.1.2, h.2.1, mapSy_inj.1 h.2.2]
def encSysT (p : (Bool × List Sty) × (List UInt8 × Int)) : List PA := [.c (.sl p.1.1 (p.1.2.map Sty.row)), .c (.str p.2.1), .c (.int .i64 p.2.2)]
theorem encSysT_inj (a b : (Bool × List Sty) × (List UInt8 × Int)) (h : encSysT a = encSysT b) : a = b := by
  obtain ⟨⟨a1, a2⟩, a3, a4⟩ := a
  obtain ⟨⟨b1, b2⟩, b3, b4⟩ := b
  simp only [encSysT, List.cons.injEq, DV.c.injEq, D.sl.injEq, D.str.injEq, D.int.injEq, and_true, true_and] at h
  rw [h.1.1, mapSy_inj.1 h.1.2, h.2.1, h.2.2]
def encSysN (p : (Bool × List Sty) × List UInt8) : List PA := [.c (.sl p.1.1 (p.1.2.map Sty.row)), .c (.str p.2)]
theorem encSysN_inj (a b : (Bool × List Sty) × List UInt8) (h : encSysN a = encSysN b) : a = b := by
  obtain ⟨⟨a1, a2⟩, a3⟩ := a
  obtain ⟨⟨b1, b2⟩, b3⟩ := b
  simp only [encSysN, List.cons.injEq, DV.c.injEq, D.sl.injEq, D.str.injEq, and_true] at h
  rw [h.1.1, mapSy_inj.1 h.1.2, h.2]
def inZ (n : List UInt8) (t : Int) (s : Sty) : Bool := decide (s.zone = n) && hasOne s.v t
def presF (l : List Sty) (n : List UInt8) (t : Int) : Nat := (l.filter (inZ n t)).length
theorem presF_take {l : List Sty} {n : List UInt8} {t : Int} {k : Nat} (h : k < l.length) : presF (l.take (k + 1)) n t = presF (l.take k) n t + (if inZ n t l[k] = true then 1 else 0) := by
  unfold presF
  rw [List.take_succ_eq_append_getElem h, List.filter_append, List.length_append]
  by_cases hc : inZ n t l[k] = true <;> simp [hc]
theorem presF_le {l : List Sty} {n : List UInt8} {t : Int} : presF l n t ≤ l.length := List.length_filter_le _ _
noncomputable section
open Classical
def r0sss_m : List PA → Option (List PA) := mE encSys2 fun p => if decide (p.1.2.length ≤ 1000000000) = true then some [.b (sameL sySame p.1.2 p.2.2)] else none
def stpres_m : List PA → Option (List PA) := mE encSysT fun p => if decide (p.1.2.length ≤ 1000000000) = true then some [.i (presF p.1.2 p.2.1 p.2.2)] else none
set_option maxHeartbeats 1000000 in
theorem r0ss_ok : PureC Tryz.prog Gt 64 r0ss_m := by
  refine pure_of_awpS (X := ctx Tryz.prog Gt []) Tryz.func64 rfl rfl (by kernel_rfl) (by kernel_rfl) AllOk.nil.kok ?_
  intro args r h0
  obtain ⟨⟨⟨i1, z1, p1, f1, t1⟩, ⟨i2, z2, p2, f2, t2⟩⟩, rfl, h⟩ := mE_inv h0
  refine ⟨Nat.le_of_ble_eq_true rfl, ?_⟩
  simp only [Option.some.injEq] at h
  rw [sySame_eq] at h
  unfold sySame at h
  dsimp only at h
  by_cases c1 : i1 = i2
  rotate_left
  · have c1' : (i1 == i2) = false := by simpa using c1
    rw [decide_eq_false (by simp [c1])] at h
    have hc := Nat.zero_add 0
    repeat' (first | simp only [hc, AS, Tryz.f64, encSy2, Sty.row, SX, bne, c1', ZZ, simprocAttr, ↓reduceIte] | refine Zi ?_ )
    rw [← h]
  have c1' : (i1 == i2) = true := by simpa using c1
  by_cases c2 : z1 = z2
  rotate_left
  · have c2' : (z1 == z2) = false := by simpa using c2
    rw [decide_eq_false (by simp [c2])] at h
    have hc := Nat.zero_add 0
    repeat' (first | simp only [hc, AS, Tryz.f64, encSy2, Sty.row, SX, bne, c1', c2', ZZ, simprocAttr, ↓reduceIte] | refine Zi ?_ )
    rw [← h]
  have c2' : (z1 == z2) = true := by simpa using c2
  by_cases c3 : p1 = p2
  rotate_left
  · have c3' : (p1 == p2) = false := by simpa using c3
    rw [decide_eq_false (by simp [c3])] at h
    have hc := Nat.zero_add 0
    repeat' (first | simp only [hc, AS, Tryz.f64, encSy2, Sty.row, SX, bne, c1', c2', c3', ZZ, simprocAttr, ↓reduceIte] | refine Zi ?_ )
    rw [← h]
  have c3' : (p1 == p2) = true := by simpa using c3
  by_cases c4 : f1 = f2
  rotate_left
  · rw [decide_eq_false (by simp [c4])] at h
    have hc := Nat.zero_add 0
    repeat' (first | simp only [hc, AS, Tryz.f64, encSy2, Sty.row, SX, bne, c1', c2', c3', c4, ZZ, simprocAttr, ↓reduceIte] | refine Zi ?_ )
    rw [← h]
  by_cases c5 : t1 = t2
  rotate_left
  · rw [decide_eq_false (by simp [c5])] at h
    have hc := Nat.zero_add 0
    repeat' (first | simp only [hc, AS, Tryz.f64, encSy2, Sty.row, SX, bne, c1', c2', c3', c4, c5, ZZ, simprocAttr, ↓reduceIte] | refine Zi ?_ )
    rw [← h]
  rw [decide_eq_true ⟨c1, c2, c3, c4, c5⟩] at h
  have hc := Nat.zero_add 0
  repeat' (first | simp only [hc, AS, Tryz.f64, encSy2, Sty.row, SX, bne, c1', c2', c3', c4, c5, ZZ, simprocAttr, ↓reduceIte] | refine Zi ?_ )
  rw [← h]
theorem r0ss_at {a b : Sty} : r0ss_m [.agg a.row, .agg b.row] = some [.b (sySame a b)] := by
  have := mE_eq encSy2_inj (g := fun p => some [DV.b (p.1.same p.2)]) (a := (a, b))
  rw [sySame_eq] at this
  exact this
set_option maxHeartbeats 1000000 in
theorem r0sss_ok : PureC Tryz.prog Gt 25 r0sss_m := by
  refine pure_of_awp (X := ctx Tryz.prog Gt [(64, r0ss_m)]) Tryz.func25 rfl rfl (by kernel_rfl) (by kernel_rfl) (AllOk.cons r0ss_ok AllOk.nil).kok ?_
  intro args r h0
  obtain ⟨⟨⟨f, l⟩, g, k⟩, rfl, h⟩ := mE_inv h0
  refine ⟨Nat.le_of_ble_eq_true rfl, ?_⟩
  split at h
  · rename_i hl
    have a1 := of_decide_eq_true hl
    dsimp only at a1 h
    cases h
    have l1 := @lenSy l
    have l2 := @lenSy k
    by_cases c1 : l.length ≠ k.length
    · have c1' : ¬ ((l.length : Int) = (k.length : Int)) := by omega
      rw [sameL_len c1]
      have hc := Nat.zero_add 0
      repeat' (first | simp only [hc, Tryz.f25, encSys2, SX, l1, l2, c1', ZZ, simprocAttr, ↓reduceIte] )
      all_goals simp [DV.b]
    have c1 : l.length = k.length := by simpa using c1
    have c1' : ((l.length : Int) = (k.length : Int)) := by omega
    generalize hR : sameL sySame l k = R at *
    have hc := Nat.zero_add 0
    repeat' (first | simp only [hc, Tryz.f25, encSys2, SX, l1, l2, c1', ZZ, simprocAttr, ↓reduceIte] )
    refine awp_loop (σ := Nat) (fun j => j ≤ l.length ∧ R = sameL sySame (l.drop j) (k.drop j)) (fun j => ⟨[(5, AV.i j), (0, AV.d (.sl f (l.map Sty.row))), (1, AV.d (.sl g (k.map Sty.row)))], []⟩) (fun j => l.length - j) 0 (Wk.sub' (by simp [subT, look]) rfl) (by simp [hR]) ?_
    rintro j ⟨hj, hout⟩
    by_cases hjl : j < l.length
    · have hjk : j < k.length := by omega
      have hlt : ((j : Int) < (l.length : Int)) = True := eq_true (by omega)
      have hlt' : ((j : Int) < (k.length : Int)) = True := eq_true (by omega)
      have hw := wI (n := (j : Int) + 1) (by omega) (by omega)
      have e1 := sy_at hjl
      have e2 := sy_at hjk
      rw [sameL_drop hjl hjk] at hout
      have f1 := @r0ss_at l[j] k[j]
      simp only [Sty.row] at f1
      generalize sySame l[j] k[j] = o at *
      generalize l[j] = x at *
      generalize k[j] = y at *
      cases o
      · rw [Bool.false_and] at hout
        have hc := Nat.zero_add 0
        repeat' (first | simp only [hc, SX, l1, l2, hlt, hlt', nn, e1, e2, f1, ZZ, simprocAttr, ↓reduceIte] )
        all_goals simp [hout, DV.b]
      rw [Bool.true_and] at hout
      have hc := Nat.zero_add 0
      repeat' (first | simp only [hc, SX, l1, l2, hlt, hlt', nn, hw, e1, e2, f1, ZZ, simprocAttr, ↓reduceIte] )
      exact lp_next (j + 1) (Wk.sub' (by simp [subT, look]) rfl) ⟨by omega, hout⟩ (by omega)
    have hlt : ((j : Int) < (l.length : Int)) = False := eq_false (by omega)
    have hlt' : ((j : Int) < (k.length : Int)) = False := eq_false (by omega)
    rw [sameL_end hjl (by omega)] at hout
    have hc := Nat.zero_add 0
    repeat' (first | simp only [hc, SX, l1, l2, c1', hlt, hlt', ZZ, simprocAttr, ↓reduceIte] | refine Zj ?_)
    all_goals simp [hout, DV.b]
  cases h
set_option maxHeartbeats 1000000 in
theorem stpres_ok : PureC Tryz.prog Gt 37 stpres_m := by
  refine pure_of_awpS (X := ctx Tryz.prog Gt [(21, shas_m)]) Tryz.func37 rfl rfl (by kernel_rfl) (by kernel_rfl) (AllOk.cons shas_ok AllOk.nil).kok ?_
  intro args r h0
  obtain ⟨⟨⟨f, l⟩, n, t⟩, rfl, h⟩ := mE_inv h0
  refine ⟨Nat.le_of_ble_eq_true rfl, ?_⟩
  split at h
  · rename_i hl
    have hl := of_decide_eq_true hl
    dsimp only at hl h
    simp only [Option.some.injEq] at h
    have l1 := @lenSy l
    have hc := Nat.zero_add 0
    repeat' (first | simp only [hc, AS, Tryz.f37, encSysT, SX, l1, ZZ, simprocAttr, ↓reduceIte] | refine Zi ?_ )
    refine awpS_loop (σ := Nat) (fun k => k ≤ l.length)
      (fun k => ⟨[(12, AV.i k), (11, AV.i l.length), (10, AV.d (.sl f (l.map Sty.row))), (7, AV.i (presF (l.take k) n t)), (1, AV.d (.str n)), (2, AV.i t)], []⟩)
      (fun k => l.length - k) 0 (Wk.sub' (by simp [subT, look, presF]) rfl) (Nat.zero_le _) ?_
    intro k hk
    have hp := @presF_le (l.take k) n t
    rw [List.length_take] at hp
    by_cases hkl : k < l.length
    · have e1 := sy_at hkl
      have c1 : ((k : Int) < (l.length : Int)) = True := eq_true (by omega)
      have w1 := wI (n := (k : Int) + 1) (by omega) (by omega)
      have hs := @presF_take l n t k hkl
      have w2 := wI (n := (presF (l.take k) n t : Int) + 1) (by omega) (by omega)
      have f1 := @shas_at true [l[k].v] t (by simp)
      have hz : inZ n t l[k] = (decide (l[k].zone = n) && hasOne l[k].v t) := rfl
      have hw : hasW [l[k].v] t = hasOne l[k].v t := by rw [hasW_any]; simp
      rw [hw] at f1
      simp only [List.map_cons, List.map_nil, rwI] at f1
      rw [hz] at hs
      generalize hP : presF (l.take k) n t = P at *
      generalize hasOne l[k].v t = o at *
      generalize l[k] = x at *
      obtain ⟨x1, x2, x3, x4, x5⟩ := x
      dsimp only at e1 f1 hs
      by_cases c2 : x2 = n
      · have c2' : (x2 == n) = true := by simpa using c2
        rw [decide_eq_true c2, Bool.true_and] at hs
        cases o
        · skip
          have hc := Nat.zero_add 0
          repeat' (first | simp only [hc, AS, SX, l1, e1, c1, nn, w1, w2, c2', f1, ZZ, simprocAttr, ↓reduceIte] | refine Zi ?_ )
          refine lp_next (k + 1) ?_ (by omega) (by omega)
          rw [hs, if_neg (by decide)]
          exact Wk.cutk (k := 0) (by simp) (by simp) (by simp) (by simp [subT, look]) (by simp [AV.low, V.low, C1.low]) (by simp [Ob.low, C1.low])
        · skip
          have hc := Nat.zero_add 0
          repeat' (first | simp only [hc, AS, SX, l1, e1, c1, nn, w1, w2, c2', f1, ZZ, simprocAttr, ↓reduceIte] | refine Zi ?_ )
          refine lp_next (k + 1) ?_ (by omega) (by omega)
          rw [hs, if_pos rfl]
          exact Wk.cutk (k := 0) (by simp) (by simp) (by simp) (by simp [subT, look]) (by simp [AV.low, V.low, C1.low]) (by simp [Ob.low, C1.low])
      have c2' : (x2 == n) = false := by simpa using c2
      rw [decide_eq_false c2, Bool.false_and] at hs
      have hc := Nat.zero_add 0
      repeat' (first | simp only [hc, AS, SX, l1, e1, c1, nn, w1, c2', ZZ, simprocAttr, ↓reduceIte] | refine Zi ?_ )
      refine lp_next (k + 1) ?_ (by omega) (by omega)
      rw [hs, if_neg (by decide)]
      exact Wk.cutk (k := 0) (by simp) (by simp) (by simp) (by simp [subT, look]) (by simp [AV.low, V.low, C1.low]) (by simp [Ob.low, C1.low])
    have c1 : ((k : Int) < (l.length : Int)) = False := eq_false (by omega)
    rw [List.take_of_length_le (by omega)]
    have hc := Nat.zero_add 0
    repeat' (first | simp only [hc, AS, SX, l1, c1, ZZ, simprocAttr, ↓reduceIte] | refine Zi ?_ | refine Zj ?_)
    rw [← h]
  cases h
end
end Go.Ab
namespace Go.Ab
open Go.RowKit Go.Proofs
def pkS (l : List Sty) (n : List UInt8) (p : Int × Int) (s : Sty) : Int × Int :=
  if s.zone = n ∧ ivOk s.v = true then (if p.1 < (presF l n s.v.1 : Int) ∨ ((presF l n s.v.1 : Int) = p.1 ∧ s.v.1 < p.2) then ((presF l n s.v.1 : Int), s.v.1) else p) else p
def pkF (l : List Sty) (n : List UInt8) : Int × Int := l.foldl (pkS l n) (0, 0)
noncomputable section
open Classical
theorem stpres_at {f : Bool} {l : List Sty} {n : List UInt8} {t : Int} (h : l.length ≤ 1000000000) : stpres_m [.c (.sl f (l.map Sty.row)), .c (.str n), .c (.int .i64 t)] = some [.i (presF l n t)] := by
  have := mE_eq encSysT_inj (g := fun p => if decide (p.1.2.length ≤ 1000000000) = true then some [DV.i (presF p.1.2 p.2.1 p.2.2)] else none) (a := ((f, l), n, t))
  exact this.trans (if_pos (decide_eq_true h))
def stpeak_m : List PA → Option (List PA) := mE encSysN fun p => if decide (p.1.2.length ≤ 1000000000) = true then some [.i (pkF p.1.2 p.2).1, .i (pkF p.1.2 p.2).2] else none
set_option maxHeartbeats 1000000 in
theorem stpeak_ok : PureC Tryz.prog Gt 35 stpeak_m := by
  refine pure_of_awpS (X := ctx Tryz.prog Gt [(37, stpres_m), (59, spv_m)]) Tryz.func35 rfl rfl (by kernel_rfl) (by kernel_rfl) (AllOk.cons stpres_ok (AllOk.cons spv_ok AllOk.nil)).kok ?_
  intro args r h0
  obtain ⟨⟨⟨f, l⟩, n⟩, rfl, h⟩ := mE_inv h0
  refine ⟨Nat.le_of_ble_eq_true rfl, ?_⟩
  split at h
  · rename_i hl
    have hl := of_decide_eq_true hl
    dsimp only at hl h
    simp only [Option.some.injEq] at h
    have l1 := @lenSy l
    have hc := Nat.zero_add 0
    repeat' (first | simp only [hc, AS, Tryz.f35, encSysN, SX, l1, ZZ, simprocAttr, ↓reduceIte] | refine Zi ?_ )
    refine awpS_loop (σ := Nat) (fun k => k ≤ l.length)
      (fun k => ⟨[(14, AV.i k), (13, AV.i l.length), (12, AV.d (.sl f (l.map Sty.row))), (0, AV.d (.sl f (l.map Sty.row))), (6, AV.i ((l.take k).foldl (pkS l n) (0, 0)).1), (7, AV.i ((l.take k).foldl (pkS l n) (0, 0)).2), (1, AV.d (.str n))], []⟩)
      (fun k => l.length - k) 0 (Wk.sub' (by simp [subT, look]) rfl) (Nat.zero_le _) ?_
    intro k hk
    by_cases hkl : k < l.length
    · have e1 := sy_at hkl
      have c1 : ((k : Int) < (l.length : Int)) = True := eq_true (by omega)
      have w1 := wI (n := (k : Int) + 1) (by omega) (by omega)
      have hs : (l.take (k + 1)).foldl (pkS l n) (0, 0) = pkS l n ((l.take k).foldl (pkS l n) (0, 0)) l[k] := foldl_take hkl
      have f1 := @spv_at l[k].v
      have f2 := @stpres_at f l n l[k].v.1 hl
      have hq : pkS l n ((l.take k).foldl (pkS l n) (0, 0)) l[k] = if l[k].zone = n ∧ ivOk l[k].v = true then (if ((l.take k).foldl (pkS l n) (0, 0)).1 < (presF l n l[k].v.1 : Int) ∨ ((presF l n l[k].v.1 : Int) = ((l.take k).foldl (pkS l n) (0, 0)).1 ∧ l[k].v.1 < ((l.take k).foldl (pkS l n) (0, 0)).2) then ((presF l n l[k].v.1 : Int), l[k].v.1) else (l.take k).foldl (pkS l n) (0, 0)) else (l.take k).foldl (pkS l n) (0, 0) := rfl
      rw [hq] at hs
      clear hq
      generalize hP : (presF l n l[k].v.1 : Int) = P at *
      generalize (l.take k).foldl (pkS l n) (0, 0) = q at *
      generalize ivOk l[k].v = o at *
      generalize l[k] = x at *
      obtain ⟨x1, x2, x3, x4, x5⟩ := x
      obtain ⟨q1, q2⟩ := q
      simp only [rwI] at f1
      dsimp only at e1 f1 f2 hs
      by_cases c2 : x2 = n
      · have c2' : (x2 == n) = true := by simpa using c2
        cases o
        · rw [if_neg (by simp)] at hs
          have hc := Nat.zero_add 0
          repeat' (first | simp only [hc, AS, SX, l1, e1, c1, nn, w1, c2', f1, bne, ZZ, simprocAttr, ↓reduceIte] | refine Zi ?_ | refine Zj ?_)
          refine lp_next (k + 1) ?_ (by omega) (by omega)
          rw [hs]
          exact Wk.cutk (k := 0) (by simp) (by simp) (by simp) (by simp [subT, look]) (by simp [AV.low, V.low, C1.low]) (by simp [Ob.low, C1.low])
        rw [if_pos ⟨c2, rfl⟩] at hs
        by_cases c3 : q1 < P
        · have c3' : (P > q1) = True := eq_true c3
          rw [if_pos (.inl c3)] at hs
          have hc := Nat.zero_add 0
          repeat' (first | simp only [hc, AS, SX, l1, e1, c1, nn, w1, c2', f1, f2, c3', bne, ZZ, simprocAttr, ↓reduceIte] | refine Zi ?_ )
          refine lp_next (k + 1) ?_ (by omega) (by omega)
          rw [hs]
          exact Wk.cutk (k := 0) (by simp) (by simp) (by simp) (by simp [subT, look]) (by simp [AV.low, V.low, C1.low]) (by simp [Ob.low, C1.low])
        have c3' : (P > q1) = False := eq_false c3
        by_cases c4 : P = q1
        · have c4' := eq_true c4
          by_cases c5 : x4 < q2
          · have c5' := eq_true c5
            rw [if_pos (.inr ⟨c4, c5⟩)] at hs
            have hc := Nat.zero_add 0
            repeat' (first | simp only [hc, AS, SX, l1, e1, c1, nn, w1, c2', f1, f2, c3', c4', c5', bne, ZZ, simprocAttr, ↓reduceIte] | refine Zi ?_ )
            refine lp_next (k + 1) ?_ (by omega) (by omega)
            rw [hs]
            exact Wk.cutk (k := 0) (by simp) (by simp) (by simp) (by simp [subT, look]) (by simp [AV.low, V.low, C1.low]) (by simp [Ob.low, C1.low])
          have c5' := eq_false c5
          rw [if_neg (by omega)] at hs
          have hc := Nat.zero_add 0
          repeat' (first | simp only [hc, AS, SX, l1, e1, c1, nn, w1, c2', f1, f2, c3', c4', c5', bne, ZZ, simprocAttr, ↓reduceIte] | refine Zi ?_ )
          refine lp_next (k + 1) ?_ (by omega) (by omega)
          rw [hs]
          exact Wk.cutk (k := 0) (by simp) (by simp) (by simp) (by simp [subT, look]) (by simp [AV.low, V.low, C1.low]) (by simp [Ob.low, C1.low])
        have c4' := eq_false c4
        rw [if_neg (by omega)] at hs
        have hc := Nat.zero_add 0
        repeat' (first | simp only [hc, AS, SX, l1, e1, c1, nn, w1, c2', f1, f2, c3', c4', bne, ZZ, simprocAttr, ↓reduceIte] | refine Zi ?_ )
        refine lp_next (k + 1) ?_ (by omega) (by omega)
        rw [hs]
        exact Wk.cutk (k := 0) (by simp) (by simp) (by simp) (by simp [subT, look]) (by simp [AV.low, V.low, C1.low]) (by simp [Ob.low, C1.low])
      have c2' : (x2 == n) = false := by simpa using c2
      rw [if_neg (by simp [c2])] at hs
      have hc := Nat.zero_add 0
      repeat' (first | simp only [hc, AS, SX, l1, e1, c1, nn, w1, c2', bne, ZZ, simprocAttr, ↓reduceIte] | refine Zi ?_ | refine Zj ?_)
      refine lp_next (k + 1) ?_ (by omega) (by omega)
      rw [hs]
      exact Wk.cutk (k := 0) (by simp) (by simp) (by simp) (by simp [subT, look]) (by simp [AV.low, V.low, C1.low]) (by simp [Ob.low, C1.low])
    have c1 : ((k : Int) < (l.length : Int)) = False := eq_false (by omega)
    rw [List.take_of_length_le (by omega), show l.foldl (pkS l n) (0, 0) = pkF l n from rfl]
    have hc := Nat.zero_add 0
    repeat' (first | simp only [hc, AS, SX, l1, c1, ZZ, simprocAttr, ↓reduceIte] | refine Zi ?_ | refine Zj ?_)
    rw [← h]
  cases h
end
end Go.Ab
