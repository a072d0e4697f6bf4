/-
  Texts of the layer and of the laws, put together: AbU7.
-/
import Derived.Test.YtdoofgbeajkpaaaGreatDoorAbWP26
import Derived.Test.YtdoofgbeajkpaaaGreatDoorAbWP21
set_option linter.unusedSimpArgs false
set_option linter.unusedVariables false
set_option maxRecDepth 100000
namespace Go.Ab
open Go.RowKit Go.Proofs
def Par.Ok (p : Par) : Prop := inI p.kind = true ∧ inI p.time = true ∧ inI p.til = true ∧ p.zone.length ≤ 1000000000 ∧ p.plate.length ≤ 1000000000
def plateB (s : List UInt8) : Bool := decide ((plF s).2 = 0 ∧ (plF s).1 = s)
def errT (z : Zon) (p : Par) : Int :=
  if p.kind = 1 ∨ p.kind = 2 then (if p.til ≤ p.time ∨ 68719476736 < p.til then 12 else if p.kind = 1 ∧ z.stay ≠ 0 ∧ z.stay < p.til - p.time then 3 else 0)
  else if p.til ≠ 0 then 12 else 0
def errP (l : List Zon) (p : Par) : Int :=
  if p.kind < 1 ∨ 6 < p.kind then 1 else match findZ l p.zone with
    | none => 23
    | some z => if z.err ≠ 0 then 23 else if plateB p.plate = false then 19 else if isT p.time = false then 12 else errT z p
def keyF (p : Par) : List UInt8 := Lib.itoa p.kind ++ [46] ++ p.zone ++ [46] ++ p.plate ++ [46] ++ Lib.itoa p.time ++ [46] ++ Lib.itoa p.til
def encP (p : Par) : List PA := [.agg p.row]
theorem encP_inj (a b : Par) (h : encP a = encP b) : a = b := Par.inj a b (by simpa [encP] using h)
theorem dec_leU : ∀ (k u : Nat), u < 10 ^ k → 0 < k → (Lib.decDigits u).length ≤ k
  | 0, u, _, h => by omega
  | k + 1, u, hu, _ => by
    by_cases hs : u < 10
    · rw [dec_small hs]; simp
    rw [dec_big hs, List.length_append, List.length_singleton]
    have hk : 0 < k := by
      rcases Nat.eq_zero_or_pos k with rfl | h
      · simp at hu; omega
      exact h
    have := dec_leU k (u / 10) (by rw [Nat.pow_succ] at hu; omega) hk
    omega
theorem p20U : (10 : Nat) ^ 20 = 100000000000000000000 := by decide
theorem itoa_leU {n : Int} (h : inI n = true) : (Lib.itoa n).length ≤ 30 := by
  have h := inI_iff.1 h
  rw [itoa_spec]
  split
  · have := dec_leU 20 n.natAbs (by rw [p20U]; omega) (by omega)
    simp only [List.length_cons]; omega
  have := dec_leU 20 n.toNat (by rw [p20U]; omega) (by omega)
  omega
theorem err_stay {z : Zon} (h : z.err = 0) : 0 ≤ z.stay ∧ z.stay ≤ 68719476736 ∧ 0 ≤ z.grace ∧ z.grace ≤ 68719476736 := by
  rw [Zon.err_eq] at h
  split at h
  · omega
  split at h
  · omega
  split at h
  · omega
  split at h
  · contradiction
  unfold Zon.tl at h
  split at h
  · omega
  rename_i h1
  simp only [not_or, Bool.not_eq_false, btwB_iff] at h1
  omega
noncomputable section
open Classical
def scheck_m : List PA → Option (List PA) := mE encPZs fun p => if zonesOk p.2.2 ∧ p.1.Ok then some [.i (errP p.2.2 p.1)] else none
def skey_m : List PA → Option (List PA) := mE encP fun p => if p.Ok then some [.c (.str (keyF p))] else none
def sist_m : List PA → Option (List PA) := m1 fun t => some [.b (isT t)]
theorem sist_ok : PureC Tryz.prog Gt 92 sist_m := by
  refine pure_of_awp (X := ctx Tryz.prog Gt []) Tryz.func92 rfl rfl (by kernel_rfl) (by kernel_rfl) AllOk.nil.kok ?_
  intro args r h0
  obtain ⟨y, rfl, h⟩ := m1_inv h0
  refine ⟨Nat.le_of_ble_eq_true rfl, ?_⟩
  cases h
  have hc := Nat.zero_add 0
  repeat' (first | simp only [hc, Tryz.f92, ZZ, simprocAttr, ↓reduceIte] | ((first | apply Za | apply Zb | apply Zc | apply Zd | apply Ze | apply Zf | apply Zg | apply Zh) <;> intro hc) | refine Zj ?_)
  all_goals (simp_all [isT, DV.b]; try omega)
theorem sist_at {t : Int} : sist_m [.c (.int .i64 t)] = some [.b (isT t)] := rfl
theorem ristime_at {t : Int} : risTime_m [.c (.int .i64 t)] = some [.b (isT t)] := rfl
theorem tfmt_at {n : Int} (h : inI n = true) : tfmt_m [.c (.int .i64 n)] = some [.c (.str (Lib.itoa n))] := by rw [tfmt_m, m1_eq]; exact if_pos h
theorem pnorm_at {s : List UInt8} (h : s.length ≤ 1000000000) : pnorm_m [.c (.str s)] = some [.c (.str (plF s).1), .i (plF s).2] := by rw [pnorm_m, ms_eq]; exact if_pos (by simpa using h)
theorem sof_at {p : Par} {f : Bool} {l : List Zon} (h : zonesOk l) : sof_m [.agg p.row, .c (.sl f (l.map Zon.row))] = some [.agg (ofR Zon.cp l p.zone).1.row, .b (ofR Zon.cp l p.zone).2] := by
  have := mE_eq encPZs_inj (g := fun p => if zonesOk p.2.2 then some [.agg (ofR Zon.cp p.2.2 p.1.zone).1.row, .b (ofR Zon.cp p.2.2 p.1.zone).2] else none) (a := (p, f, l))
  exact this.trans (if_pos h)
theorem scheck_ok : PureC Tryz.prog Gt 46 scheck_m := by
  refine pure_of_awp (X := ctx Tryz.prog Gt [(89, sof_m), (66, pnorm_m), (92, sist_m)]) Tryz.func46 rfl rfl (by kernel_rfl) (by kernel_rfl) (AllOk.cons sof_ok (AllOk.cons pnorm_ok (AllOk.cons sist_ok AllOk.nil))).kok ?_
  intro args r h0
  obtain ⟨⟨⟨kind, zone, plate, time, til⟩, f, l⟩, rfl, h⟩ := mE_inv h0
  refine ⟨Nat.le_of_ble_eq_true rfl, ?_⟩
  split at h
  · rename_i hl
    obtain ⟨hl, k1, k2, k3, k4, k5⟩ := hl
    dsimp only at hl h k1 k2 k3 k4 k5
    cases h
    have k1 := inI_iff.1 k1
    have k2 := inI_iff.1 k2
    have k3 := inI_iff.1 k3
    have f1 := sof_at (p := ⟨kind, zone, plate, time, til⟩) (f := f) hl
    have f2 := pnorm_at k5
    have hR : errP l ⟨kind, zone, plate, time, til⟩ = if kind < 1 ∨ 6 < kind then 1 else match findZ l zone with
      | none => 23
      | some z => if z.err ≠ 0 then 23 else if plateB plate = false then 19 else if isT time = false then 12 else if kind = 1 ∨ kind = 2 then (if til ≤ time ∨ 68719476736 < til then 12 else if kind = 1 ∧ z.stay ≠ 0 ∧ z.stay < til - time then 3 else 0)
  else if til ≠ 0 then 12 else 0 := rfl
    have hpl : plateB plate = decide ((plF plate).2 = 0 ∧ (plF plate).1 = plate) := rfl
    generalize errP _ _ = R at *
    generalize (plF plate).1 = q1 at *
    generalize (plF plate).2 = q2 at *
    by_cases c1 : kind < 1
    · rw [if_pos (.inl c1)] at hR
      have hc := Nat.zero_add 0
      repeat' (first | simp only [hc, Tryz.f46, encPZs, Par.row, SX, c1, ZZ, simprocAttr, ↓reduceIte] | ((first | apply Za | apply Zb | apply Zc | apply Zd | apply Ze | apply Zf | apply Zg | apply Zh) <;> intro hc) | refine Zj ?_)
      all_goals simp [hR, DV.i]
    by_cases c2 : 6 < kind
    · rw [if_pos (.inr c2)] at hR
      have hc := Nat.zero_add 0
      repeat' (first | simp only [hc, Tryz.f46, encPZs, Par.row, SX, c1, c2, ZZ, simprocAttr, ↓reduceIte] | ((first | apply Za | apply Zb | apply Zc | apply Zd | apply Ze | apply Zf | apply Zg | apply Zh) <;> intro hc) | refine Zj ?_)
      all_goals simp [hR, DV.i]
    rw [if_neg (by omega)] at hR
    cases hf : findZ l zone with
    | none =>
      simp only [ofR, hf, Zon.row, Zon.nil, Par.row] at f1 hR
      have hc := Nat.zero_add 0
      repeat' (first | simp only [hc, Tryz.f46, encPZs, Par.row, SX, c1, c2, f1, List.map_nil, ZZ, simprocAttr, ↓reduceIte] | ((first | apply Za | apply Zb | apply Zc | apply Zd | apply Ze | apply Zf | apply Zg | apply Zh) <;> intro hc) | refine Zj ?_)
      all_goals simp [hR, DV.i]
    | some z =>
      simp only [ofR, hf] at f1 hR
      have hst := @err_stay z
      by_cases c3 : z.err ≠ 0
      · rw [if_pos c3] at hR
        rw [decide_eq_false c3] at f1
        simp only [Zon.row, Zon.cp, Par.row, Zon.nil, Bool.false_eq_true, if_false] at f1
        have hc := Nat.zero_add 0
        repeat' (first | simp only [hc, Tryz.f46, encPZs, Par.row, SX, c1, c2, f1, List.map_nil, ZZ, simprocAttr, ↓reduceIte] | ((first | apply Za | apply Zb | apply Zc | apply Zd | apply Ze | apply Zf | apply Zg | apply Zh) <;> intro hc) | refine Zj ?_)
        all_goals simp [hR, DV.i]
      rw [if_neg c3] at hR
      have c3 : z.err = 0 := by simpa using c3
      rw [decide_eq_true c3] at f1
      simp only [Zon.row, Zon.cp, Par.row, if_true] at f1
      have hst := hst c3
      by_cases c4 : q2 ≠ 0
      · rw [if_pos (by rw [hpl]; simp [c4])] at hR
        have hc := Nat.zero_add 0
        repeat' (first | simp only [hc, Tryz.f46, encPZs, Par.row, SX, c1, c2, f1, f2, c4, ZZ, simprocAttr, ↓reduceIte] | ((first | apply Za | apply Zb | apply Zc | apply Zd | apply Ze | apply Zf | apply Zg | apply Zh) <;> intro hc) | refine Zj ?_)
        all_goals simp [hR, DV.i]
      have c4 : q2 = 0 := by simpa using c4
      subst c4
      by_cases c5 : q1 ≠ plate
      · rw [if_pos (by rw [hpl]; simp [c5])] at hR
        have c5' : (q1 == plate) = false := by simpa using c5
        have hc := Nat.zero_add 0
        repeat' (first | simp only [hc, Tryz.f46, encPZs, Par.row, SX, c1, c2, f1, f2, c5', bne, ZZ, simprocAttr, ↓reduceIte] | ((first | apply Za | apply Zb | apply Zc | apply Zd | apply Ze | apply Zf | apply Zg | apply Zh) <;> intro hc) | refine Zj ?_)
        all_goals simp [hR, DV.i]
      have c5 : q1 = plate := by simpa using c5
      subst c5
      rw [if_neg (by rw [hpl]; simp)] at hR
      have c5' : (q1 == q1) = true := by simp
      by_cases c6 : isT time = false
      · rw [if_pos c6] at hR
        have hc := Nat.zero_add 0
        repeat' (first | simp only [hc, Tryz.f46, encPZs, Par.row, SX, c1, c2, f1, f2, c5', bne, sist_at, c6, ZZ, simprocAttr, ↓reduceIte] | ((first | apply Za | apply Zb | apply Zc | apply Zd | apply Ze | apply Zf | apply Zg | apply Zh) <;> intro hc) | refine Zj ?_)
        all_goals simp [hR, DV.i]
      have c6 : isT time = true := by simpa using c6
      rw [if_neg (by simp [c6])] at hR
      have c7 : 0 ≤ time ∧ time < 68719476736 := by simpa [isT] using c6
      have hw : til ≤ 68719476736 → time < til → IntKind.i64.wrap (til - time) = til - time := fun a b => wI (by omega) (by omega)
      generalize z.stay = stay at *
      by_cases d1 : kind = 1
      · subst d1
        by_cases d3 : til ≤ time
        · have hR : R = 12 := by rw [hR]; simp [d3]
          have hc := Nat.zero_add 0
          repeat' (first | simp only [hc, Tryz.f46, encPZs, Par.row, SX, c1, c2, f1, f2, c5', bne, sist_at, c6, d3, ZZ, simprocAttr, ↓reduceIte] | ((first | apply Za | apply Zb | apply Zc | apply Zd | apply Ze | apply Zf | apply Zg | apply Zh) <;> intro hc) | refine Zj ?_)
          all_goals simp [hR, DV.i]
        by_cases d4 : 68719476736 < til
        · have hR : R = 12 := by rw [hR]; simp [d4]
          have hc := Nat.zero_add 0
          repeat' (first | simp only [hc, Tryz.f46, encPZs, Par.row, SX, c1, c2, f1, f2, c5', bne, sist_at, c6, d3, d4, ZZ, simprocAttr, ↓reduceIte] | ((first | apply Za | apply Zb | apply Zc | apply Zd | apply Ze | apply Zf | apply Zg | apply Zh) <;> intro hc) | refine Zj ?_)
          all_goals simp [hR, DV.i]
        have hw := hw (by omega) (by omega)
        have hR : R = if stay ≠ 0 ∧ stay < til - time then 3 else 0 := by rw [hR]; simp [d3, d4]
        have hc := Nat.zero_add 0
        repeat' (first | simp only [hc, Tryz.f46, encPZs, Par.row, SX, c1, c2, f1, f2, c5', bne, sist_at, c6, d3, d4, hw, ZZ, simprocAttr, ↓reduceIte] | ((first | apply Za | apply Zb | apply Zc | apply Zd | apply Ze | apply Zf | apply Zg | apply Zh) <;> intro hc) | refine Zj ?_)
        all_goals (rw [hR]; split <;> first | rfl | (exfalso; omega))
      by_cases d2 : kind = 2
      · subst d2
        by_cases d3 : til ≤ time
        · have hR : R = 12 := by rw [hR]; simp [d3]
          have hc := Nat.zero_add 0
          repeat' (first | simp only [hc, Tryz.f46, encPZs, Par.row, SX, c1, c2, f1, f2, c5', bne, sist_at, c6, d3, ZZ, simprocAttr, ↓reduceIte] | ((first | apply Za | apply Zb | apply Zc | apply Zd | apply Ze | apply Zf | apply Zg | apply Zh) <;> intro hc) | refine Zj ?_)
          all_goals simp [hR, DV.i]
        by_cases d4 : 68719476736 < til
        · have hR : R = 12 := by rw [hR]; simp [d4]
          have hc := Nat.zero_add 0
          repeat' (first | simp only [hc, Tryz.f46, encPZs, Par.row, SX, c1, c2, f1, f2, c5', bne, sist_at, c6, d3, d4, ZZ, simprocAttr, ↓reduceIte] | ((first | apply Za | apply Zb | apply Zc | apply Zd | apply Ze | apply Zf | apply Zg | apply Zh) <;> intro hc) | refine Zj ?_)
          all_goals simp [hR, DV.i]
        have hR : R = 0 := by rw [hR]; simp [d3, d4]
        have hc := Nat.zero_add 0
        repeat' (first | simp only [hc, Tryz.f46, encPZs, Par.row, SX, c1, c2, f1, f2, c5', bne, sist_at, c6, d3, d4, ZZ, simprocAttr, ↓reduceIte] | ((first | apply Za | apply Zb | apply Zc | apply Zd | apply Ze | apply Zf | apply Zg | apply Zh) <;> intro hc) | refine Zj ?_)
        all_goals simp [hR, DV.i]
      have hR : R = if til ≠ 0 then 12 else 0 := by rw [hR]; simp [d1, d2]
      have hc := Nat.zero_add 0
      repeat' (first | simp only [hc, Tryz.f46, encPZs, Par.row, SX, c1, c2, f1, f2, c5', bne, sist_at, c6, d1, d2, ZZ, simprocAttr, ↓reduceIte] | ((first | apply Za | apply Zb | apply Zc | apply Zd | apply Ze | apply Zf | apply Zg | apply Zh) <;> intro hc) | refine Zj ?_)
      all_goals (rw [hR]; split <;> first | rfl | (exfalso; omega))
  cases h
theorem join5 (a b c d e : List UInt8) : Lib.join [a, b, c, d, e] [46] = a ++ [46] ++ b ++ [46] ++ c ++ [46] ++ d ++ [46] ++ e := by
  simp [Lib.join_cons, Lib.joinTail]
theorem skey_ok : PureC Tryz.prog Gt 47 skey_m := by
  refine pure_of_awp (X := ctx Tryz.prog Gt [(94, tfmt_m), (93, join_m)]) Tryz.func47 rfl rfl (by kernel_rfl) (by kernel_rfl) (AllOk.cons tfmt_ok (AllOk.cons join_ok AllOk.nil)).kok ?_
  intro args r h0
  obtain ⟨⟨kind, zone, plate, time, til⟩, rfl, h⟩ := mE_inv h0
  refine ⟨Nat.le_of_ble_eq_true rfl, ?_⟩
  split at h
  · rename_i hl
    obtain ⟨k1, k2, k3, k4, k5⟩ := hl
    dsimp only at h k1 k2 k3 k4 k5
    cases h
    have f1 := tfmt_at k1
    have f2 := tfmt_at k2
    have f3 := tfmt_at k3
    have b1 := itoa_leU k1
    have b2 := itoa_leU k2
    have b3 := itoa_leU k3
    have hk : keyF ⟨kind, zone, plate, time, til⟩ = Lib.itoa kind ++ [46] ++ zone ++ [46] ++ plate ++ [46] ++ Lib.itoa time ++ [46] ++ Lib.itoa til := rfl
    rw [hk]
    generalize Lib.itoa kind = a at *
    generalize Lib.itoa time = b at *
    generalize Lib.itoa til = c at *
    have f4 : join_m [.c (.sl true ([a, zone, plate, b, c].map rowS)), .c (.str [46])] = some [.c (.str (a ++ [46] ++ zone ++ [46] ++ plate ++ [46] ++ b ++ [46] ++ c))] := by
      rw [join_m, mls_eq, join5, if_pos (by simp only [List.length_append, List.length_cons, List.length_nil, decide_eq_true_eq]; omega)]
    simp only [List.map_cons, List.map_nil, rowS] at f4
    have hc := Nat.zero_add 0
    repeat' (first | simp only [hc, Tryz.f47, encP, Par.row, SX, f1, f2, f3, f4, ZZ, simprocAttr, ↓reduceIte] | ((first | apply Za | apply Zb | apply Zc | apply Zd | apply Ze | apply Zf | apply Zg | apply Zh) <;> intro hc) | refine Zj ?_)
    all_goals simp
  cases h
end
end Go.Ab
