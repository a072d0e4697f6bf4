/-
  Texts of the layer and of the laws, put together: AbJ7, AbJ8.
-/
import Derived.Test.YtdoofgbeajkpaaaGreatDoorAbWD36
import Derived.Test.YtdoofgbeajkpaaaGreatDoorAbWD34
set_option linter.unusedSimpArgs false
set_option linter.unusedVariables false
set_option maxRecDepth 100000
namespace Go.Ab
open Go.RowKit Go.Proofs
def encWt (p : (Bool × List Win) × Int) : List PA := [.c (.sl p.1.1 (p.1.2.map Win.row)), .c (.int .i64 p.2)]
theorem encWt_inj (a b : (Bool × List Win) × Int) (h : encWt a = encWt b) : a = b := by
  obtain ⟨⟨a1, a2⟩, a3⟩ := a
  obtain ⟨⟨b1, b2⟩, b3⟩ := b
  simp only [encWt, List.cons.injEq, DV.c.injEq, D.sl.injEq, D.int.injEq, and_true, true_and] at h
  rw [h.1.1, mapW_inj.1 h.1.2, h.2]
theorem anyW_take {l : List Win} {d x : Int} {i : Nat} (hi : i < l.length) (h : (l.take i).any (winM · d x) = false) :
    (winM l[i] d x = true → hrsM l d x = true) ∧ (winM l[i] d x = false → (l.take (i + 1)).any (winM · d x) = false) :=
  ⟨fun hx => List.any_eq_true.2 ⟨l[i], List.getElem_mem hi, hx⟩, fun hx => by
    rw [List.take_succ_eq_append_getElem hi, List.any_append, h]
    simp [hx]⟩
noncomputable section
open Classical
def r6on_m : List PA → Option (List PA) := mwi fun a _ _ d => if 0 ≤ d then some [.b (setB a (d.tmod 7).toNat)] else none
def r6hrs_m : List PA → Option (List PA) := mE encWt fun p => if decide (p.1.2.length ≤ 1000000000 ∧ 0 ≤ p.2 ∧ p.2 ≤ 1099511627776) = true then some [.b (hrsB p.1.2 p.2)] else none
def r6span_m : List PA → Option (List PA) := mE encV1 fun i => some [.b (ivOk i)]
def r6days_m : List PA → Option (List PA) := mE encV1 fun i => some [.i (daysErr i)]
theorem r6on_ok : PureC Tryz.prog Gt 151 r6on_m := by
  refine pure_of_awpS (X := ctx Tryz.prog Gt []) Tryz.func151 rfl rfl (by kernel_rfl) (by kernel_rfl) AllOk.nil.kok ?_
  intro args r h0
  obtain ⟨a, b, c, d, rfl, h⟩ := mwi_inv h0
  refine ⟨Nat.le_of_ble_eq_true rfl, ?_⟩
  split at h
  · rename_i hd
    simp only [Option.some.injEq] at h
    have h7 : d.tmod 7 = d % 7 := Int.tmod_eq_emod_of_nonneg hd
    have hk : 0 ≤ d.tmod 7 ∧ d.tmod 7 < 7 := by omega
    have hc := Nat.zero_add 0
    repeat' (first | simp only [hc, AS, Tryz.f151, SX, ZZ, simprocAttr, ↓reduceIte] | refine Zi ?_ )
    refine awpS_loop (σ := Int × Nat) (fun p => (p.2 : Int) ≤ d.tmod 7 ∧ setB p.1 ((d.tmod 7).toNat - p.2) = setB a (d.tmod 7).toNat)
      (fun p => ⟨[(6, AV.i p.2), (5, AV.i p.1), (1, AV.i d)], [.box [.d (.int .i64 a), .d (.int .i64 b), .d (.int .i64 c)]]⟩) (fun p => (d.tmod 7).toNat - p.2) (a, 0) (Wk.sub' (by simp [subT, look]) rfl) (by simp; omega) ?_
    rintro ⟨d', i⟩ ⟨hi, hs⟩
    dsimp only at hi hs ⊢
    by_cases hil : (i : Int) < d.tmod 7
    · have c1 := eq_true hil
      have hw := wI (n := (i : Int) + 1) (by omega) (by omega)
      have hc := Nat.zero_add 0
      repeat' (first | simp only [hc, AS, SX, c1, hw, ZZ, simprocAttr, ↓reduceIte] | refine Zi ?_ )
      refine lp_next (W (d'.tdiv 2), i + 1) (Wk.sub' (by simp [subT, look]) rfl) ⟨by dsimp only; omega, ?_⟩ (by dsimp only; omega)
      rw [← hs, show (d.tmod 7).toNat - i = ((d.tmod 7).toNat - (i + 1)) + 1 by omega]
      rfl
    have c1 := eq_false hil
    rw [show (d.tmod 7).toNat - i = 0 by omega] at hs
    have hc := Nat.zero_add 0
    repeat' (first | simp only [hc, AS, SX, c1, ZZ, simprocAttr, ↓reduceIte] | refine Zi ?_ | refine Zj ?_)
    rw [← h, ← hs]
    simp [setB, DV.b]
  cases h
theorem r6on_at {a b c d : Int} (h : 0 ≤ d) : r6on_m [.agg [.int .i64 a, .int .i64 b, .int .i64 c], .c (.int .i64 d)] = some [.b (setB a (d % 7).toNat)] := by
  rw [r6on_m, mwi_eq, if_pos h, Int.tmod_eq_emod_of_nonneg h]
theorem r6hrs_ok : PureC Tryz.prog Gt 132 r6hrs_m := by
  refine pure_of_awpS (X := ctx Tryz.prog Gt [(79, zrwin_m), (151, r6on_m)]) Tryz.func132 rfl rfl (by kernel_rfl) (by kernel_rfl) (AllOk.cons zrwin_ok (AllOk.cons r6on_ok AllOk.nil)).kok ?_
  intro args r h0
  obtain ⟨⟨⟨f, l⟩, t⟩, rfl, h⟩ := mE_inv h0
  refine ⟨Nat.le_of_ble_eq_true rfl, ?_⟩
  split at h
  · rename_i hl
    have hl := of_decide_eq_true hl
    obtain ⟨hl, ht, ht2⟩ := hl
    dsimp only at hl ht h
    simp only [Option.some.injEq] at h
    have l1 := @lenWn l
    cases hnil : l with
    | nil =>
      subst hnil
      have hc := Nat.zero_add 0
      repeat' (first | simp only [hc, AS, Tryz.f132, encWt, SX, List.map_nil, List.length_nil, ZZ, simprocAttr, ↓reduceIte] | refine Zi ?_ )
      rw [← h]
      rfl
    | cons w0 l0 =>
      rw [← hnil]
      have c0 : ((l.length : Int) = 0) = False := eq_false (by rw [hnil]; simp; omega)
      have hB : hrsB l t = inHrs l t := by rw [hnil]; rfl
      clear hnil
      rw [hB] at h
      unfold inHrs at h
      have e1 : t.tdiv 86400 = t / 86400 := Int.tdiv_eq_ediv_of_nonneg ht
      have e2 : t.tmod 86400 = t % 86400 := Int.tmod_eq_emod_of_nonneg ht
      have e3 : (t % 86400).tdiv 60 = t % 86400 / 60 := Int.tdiv_eq_ediv_of_nonneg (by omega)
      have w3 := wI (n := t % 86400 / 60) (by omega) (by omega)
      have w1 := wI (n := t / 86400) (by omega) (by omega)
      have h0d : 0 ≤ t / 86400 := by omega
      generalize hdd : t / 86400 = dd at *
      generalize hmm : t % 86400 / 60 = mm at *
      have hc := Nat.zero_add 0
      repeat' (first | simp only [hc, AS, Tryz.f132, encWt, SX, l1, c0, ZZ, simprocAttr, ↓reduceIte] | refine Zi ?_ )
      refine awpS_loop (σ := Nat) (fun i => i ≤ l.length ∧ (l.take i).any (winM · dd mm) = false)
        (fun i => ⟨[(5, AV.i i), (0, AV.d (.sl f (l.map Win.row))), (1, AV.i t)], []⟩)
        (fun i => l.length - i) 0 (Wk.sub' (by simp [subT, look]) rfl) ⟨Nat.zero_le _, rfl⟩ ?_
      rintro i ⟨hi, hn⟩
      by_cases hil : i < l.length
      · have d1 := wn_at hil
        have c1 : ((i : Int) < (l.length : Int)) = True := eq_true (by omega)
        have w2 := wI (n := (i : Int) + 1) (by omega) (by omega)
        obtain ⟨g1, g2⟩ := anyW_take hil hn
        generalize l[i] = x at *
        obtain ⟨a, b, c⟩ := x
        dsimp only at d1
        have f1 : zrwin_m [.agg [.int .i64 a, .int .i64 b, .int .i64 c]] = some [.b (validB a b c)] := rfl
        have f2 := @r6on_at a b c dd h0d
        have hwm : winM ⟨a, b, c⟩ dd mm = (validB a b c && (setB a (dd % 7).toNat && (decide (b ≤ mm) && decide (mm < c)))) := rfl
        rw [hwm] at g1 g2
        generalize validB a b c = v at *
        generalize setB a (dd % 7).toNat = o at *
        cases v
        · skip
          have hc := Nat.zero_add 0
          repeat' (first | simp only [hc, AS, SX, l1, d1, c1, nn, w2, f1, ZZ, simprocAttr, ↓reduceIte] | refine Zi ?_ )
          exact lp_next (i + 1) (Wk.sub' (by simp [subT, look]) rfl) ⟨by omega, g2 rfl⟩ (by omega)
        cases o
        · skip
          have hc := Nat.zero_add 0
          repeat' (first | simp only [hc, AS, SX, l1, d1, c1, nn, w2, f1, f2, e1, hdd, w1, ZZ, simprocAttr, ↓reduceIte] | refine Zi ?_ )
          exact lp_next (i + 1) (Wk.sub' (by simp [subT, look]) rfl) ⟨by omega, g2 rfl⟩ (by omega)
        by_cases c3 : b ≤ mm
        · have c3' : (mm ≥ b) = True := eq_true c3
          by_cases c4 : mm < c
          · have c4' := eq_true c4
            rw [g1 (by simp [c3, c4])] at h
            have hc := Nat.zero_add 0
            repeat' (first | simp only [hc, AS, SX, l1, d1, c1, nn, w2, f1, f2, e1, hdd, w1, e2, e3, hmm, w3, c3', c4', ZZ, simprocAttr, ↓reduceIte] | refine Zi ?_ )
            rw [← h]
          have c4' := eq_false c4
          have hc := Nat.zero_add 0
          repeat' (first | simp only [hc, AS, SX, l1, d1, c1, nn, w2, f1, f2, e1, hdd, w1, e2, e3, hmm, w3, c3', c4', ZZ, simprocAttr, ↓reduceIte] | refine Zi ?_ )
          exact lp_next (i + 1) (Wk.sub' (by simp [subT, look]) rfl) ⟨by omega, g2 (by simp [c4])⟩ (by omega)
        have c3' : (mm ≥ b) = False := eq_false c3
        have hc := Nat.zero_add 0
        repeat' (first | simp only [hc, AS, SX, l1, d1, c1, nn, w2, f1, f2, e1, hdd, w1, e2, e3, hmm, w3, c3', ZZ, simprocAttr, ↓reduceIte] | refine Zi ?_ )
        exact lp_next (i + 1) (Wk.sub' (by simp [subT, look]) rfl) ⟨by omega, g2 (by simp [c3])⟩ (by omega)
      have c1 : ((i : Int) < (l.length : Int)) = False := eq_false (by omega)
      rw [List.take_of_length_le (by omega : l.length ≤ i)] at hn
      have hn : hrsM l dd mm = false := hn
      rw [hn] at h
      have hc := Nat.zero_add 0
      repeat' (first | simp only [hc, AS, SX, l1, c1, ZZ, simprocAttr, ↓reduceIte] | refine Zi ?_ | refine Zj ?_)
      rw [← h]
  cases h
theorem r6hrs_at {f : Bool} {l : List Win} {t : Int} (h : l.length ≤ 1000000000) (h1 : 0 ≤ t) (h2 : t ≤ 1099511627776) : r6hrs_m [.c (.sl f (l.map Win.row)), .c (.int .i64 t)] = some [.b (hrsB l t)] := by
  have := mE_eq encWt_inj (g := fun p => if decide (p.1.2.length ≤ 1000000000 ∧ 0 ≤ p.2 ∧ p.2 ≤ 1099511627776) = true then some [DV.b (hrsB p.1.2 p.2)] else none) (a := ((f, l), t))
  exact this.trans (if_pos (decide_eq_true ⟨h, h1, h2⟩))
theorem r6span_ok : PureC Tryz.prog Gt 78 r6span_m := by
  refine pure_of_awp (X := ctx Tryz.prog Gt []) Tryz.func78 rfl rfl (by kernel_rfl) (by kernel_rfl) AllOk.nil.kok ?_
  intro args r h0
  obtain ⟨⟨a, b⟩, rfl, h⟩ := mE_inv h0
  refine ⟨Nat.le_of_ble_eq_true rfl, ?_⟩
  cases h
  have hc := Nat.zero_add 0
  repeat' (first | simp only [hc, Tryz.f78, encV1, rwI, SX, ZZ, simprocAttr, ↓reduceIte] | (apply Zb <;> intro hc) )
  all_goals (simp_all [ivOk, DV.b, mxT]; try omega)
theorem r6span_at {i : Iv} : r6span_m [.agg (rwI i)] = some [.b (ivOk i)] := mE_eq encV1_inj (g := fun i => some [DV.b (ivOk i)]) (a := i)
theorem r6days_ok : PureC Tryz.prog Gt 114 r6days_m := by
  refine pure_of_awpS (X := ctx Tryz.prog Gt [(78, r6span_m)]) Tryz.func114 rfl rfl (by kernel_rfl) (by kernel_rfl) (AllOk.cons r6span_ok AllOk.nil).kok ?_
  intro args r h0
  obtain ⟨⟨a, b⟩, rfl, h⟩ := mE_inv h0
  refine ⟨Nat.le_of_ble_eq_true rfl, ?_⟩
  simp only [Option.some.injEq] at h
  have f1 := @r6span_at (a, b)
  simp only [rwI] at f1
  unfold daysErr at h
  dsimp only at h
  cases hv : ivOk (a, b)
  · rw [hv] at f1
    rw [if_pos hv] at h
    have hc := Nat.zero_add 0
    repeat' (first | simp only [hc, AS, Tryz.f114, encV1, rwI, SX, f1, ZZ, simprocAttr, ↓reduceIte] | refine Zi ?_ )
    rw [← h]
  have hb := ivOk_iff.1 hv
  dsimp only [mxT] at hb
  rw [hv] at f1
  rw [if_neg (by rw [hv]; decide)] at h
  have e1 : a.tdiv 86400 = a / 86400 := Int.tdiv_eq_ediv_of_nonneg (by omega)
  have e2 : (b - 1).tdiv 86400 = (b - 1) / 86400 := Int.tdiv_eq_ediv_of_nonneg (by omega)
  have w1 := wI (n := a / 86400) (by omega) (by omega)
  have w2 := wI (n := b - 1) (by omega) (by omega)
  have w3 := wI (n := (b - 1) / 86400) (by omega) (by omega)
  have w4 := wI (n := (b - 1) / 86400 - a / 86400) (by omega) (by omega)
  have w5 := wI (n := (b - 1) / 86400 - a / 86400 + 1) (by omega) (by omega)
  by_cases c1 : 366 < (b - 1) / 86400 - a / 86400 + 1
  · have c1' : ((b - 1) / 86400 - a / 86400 + 1 > 366) = True := eq_true c1
    rw [if_pos c1] at h
    have hc := Nat.zero_add 0
    repeat' (first | simp only [hc, AS, Tryz.f114, encV1, rwI, SX, f1, e1, e2, w1, w2, w3, w4, w5, c1', ZZ, simprocAttr, ↓reduceIte] | refine Zi ?_ )
    rw [← h]
  have c1' : ((b - 1) / 86400 - a / 86400 + 1 > 366) = False := eq_false c1
  rw [if_neg c1] at h
  have hc := Nat.zero_add 0
  repeat' (first | simp only [hc, AS, Tryz.f114, encV1, rwI, SX, f1, e1, e2, w1, w2, w3, w4, w5, c1', ZZ, simprocAttr, ↓reduceIte] | refine Zi ?_ )
  rw [← h]
theorem r6days_at {i : Iv} : r6days_m [.agg (rwI i)] = some [.i (daysErr i)] := mE_eq encV1_inj (g := fun i => some [DV.i (daysErr i)]) (a := i)
end
end Go.Ab
namespace Go.Ab
open Go.RowKit Go.Proofs
def encWV (p : (Bool × List Win) × Iv) : List PA := [.c (.sl p.1.1 (p.1.2.map Win.row)), .agg (rwI p.2)]
theorem encWV_inj (a b : (Bool × List Win) × Iv) (h : encWV a = encWV b) : a = b := by
  obtain ⟨⟨a1, a2⟩, a3⟩ := a
  obtain ⟨⟨b1, b2⟩, b3⟩ := b
  simp only [encWV, List.cons.injEq, DV.c.injEq, DV.agg.injEq, D.sl.injEq, and_true, true_and] at h
  rw [h.1.1, mapW_inj.1 h.1.2, rwI_inj _ _ h.2]
def encZV (p : Zon × Iv) : List PA := [.agg p.1.row, .agg (rwI p.2)]
theorem encZV_inj (a b : Zon × Iv) (h : encZV a = encZV b) : a = b := by
  simp only [encZV, List.cons.injEq, DV.agg.injEq, and_true] at h
  exact Prod.ext (Zon.inj _ _ h.1) (rwI_inj _ _ h.2)
def cutK (hs : List Win) (k : Nat) (m : Int) : Bool := decide (m = 0) || (hs.take k).any fun w => decide (w.f = m) || decide (w.t = m)
theorem cutK_succ {hs : List Win} {k : Nat} {m : Int} (h : k < hs.length) : cutK hs (k + 1) m = (cutK hs k m || (decide (hs[k].f = m) || decide (hs[k].t = m))) := by
  unfold cutK
  rw [List.take_succ_eq_append_getElem h, List.any_append, Bool.or_assoc]
  simp
theorem pairs_at : ∀ {p : List Int} {i : Nat} (h : i + 1 < p.length), (p[i]'(by omega), p[i + 1]) ∈ pairs p
  | [], i, h => by simp at h
  | [a], i, h => by simp at h
  | a :: b :: p, 0, h => by rw [pairs]; exact List.mem_cons_self
  | a :: b :: p, i + 1, h => by rw [pairs]; exact List.mem_cons_of_mem _ (pairs_at (p := b :: p) (i := i) (by simpa using h))
theorem box2_low {k : Nat} {a b : Int} : Ob.low k (.box [.d (.int .i64 a), .d (.int .i64 b)]) = true := rfl
noncomputable section
open Classical
def r6with_m : List PA → Option (List PA) := mE encWV fun p => if p.1.2.length ≤ 1000000 ∧ ivOk p.2 = true ∧ nDays p.2 ≤ 400 then some [.c (.sl false ((withF p.1.2 p.2).map rwI))] else none
def r6enf_m : List PA → Option (List PA) := mE encZV fun p => if p.1.hrs.length ≤ 1000000 then some [.c (if daysErr p.2 = 0 then .sl false ((withF p.1.hrs p.2).map rwI) else .sl true []), .i (daysErr p.2)] else none
set_option maxHeartbeats 2000000 in
theorem r6with_ok : PureC Tryz.prog Gt 115 r6with_m := by
  refine pure_of_awpSW (X := ctxN Tryz.prog Gt [(132, r6hrs_m)] [] [] none) Tryz.func115 rfl rfl (by kernel_rfl) (by kernel_rfl) (kok_n (AllOk.cons r6hrs_ok AllOk.nil) AllK.nil AllN.nil) ?_
  intro args r h0
  obtain ⟨⟨⟨f, hs⟩, lo, hi⟩, rfl, h⟩ := mE_inv h0
  refine ⟨Nat.le_of_ble_eq_true rfl, ?_⟩
  split at h
  · rename_i hl
    obtain ⟨hl, hv, hnd⟩ := hl
    dsimp only at hl h
    simp only [Option.some.injEq] at h
    have hb := ivOk_iff.1 hv
    dsimp only [mxT] at hb
    have l1 := @lenWn hs
    by_cases hnil : hs = []
    · subst hnil
      have hc := Nat.zero_add 0
      repeat' (first | simp only [hc, AS, Tryz.f115, encWV, rwI, NX, NPV, SX, List.map_nil, List.length_nil, ZZ, simprocAttr, ↓reduceIte] | refine Zi ?_ )
      rw [← h]
      exact ⟨_, Wk.ofFull 4 true [[.int .i64 lo, .int .i64 hi]] (by simp [look]), rfl⟩
    have hpos : 0 < hs.length := List.length_pos_iff.2 hnil
    have c0 : ((hs.length : Int) = 0) = False := eq_false (by omega)
    have hB : ∀ t, hrsB hs t = inHrs hs t := fun t => by
      cases hs with
      | nil => exact absurd rfl hnil
      | cons w l => rfl
    rw [withF, if_neg hnil] at h
    dsimp only at h
    have e1 : lo.tdiv 86400 = lo / 86400 := Int.tdiv_eq_ediv_of_nonneg (by omega)
    have e2 : (hi - 1).tdiv 86400 = (hi - 1) / 86400 := Int.tdiv_eq_ediv_of_nonneg (by omega)
    have w1 := wI (n := lo / 86400) (by omega) (by omega)
    have w2 := wI (n := hi - 1) (by omega) (by omega)
    have w3 := wI (n := (hi - 1) / 86400) (by omega) (by omega)
    have hN : (nDays (lo, hi) : Int) = (hi - 1) / 86400 - lo / 86400 + 1 := by rw [nDays]; dsimp only; omega
    generalize hla : (hi - 1) / 86400 = la at *
    generalize hfi : lo / 86400 = fi at *
    have hbd : 0 ≤ fi ∧ fi ≤ la ∧ la ≤ 795365 := by omega
    generalize nDays (lo, hi) = N at *
    have hc := Nat.zero_add 0
    repeat' (first | simp only [hc, AS, Tryz.f115, encWV, rwI, NX, NPV, SX, l1, c0, e1, w1, ZZ, simprocAttr, ↓reduceIte] | refine Zi ?_ )
    refine awpS_loop (σ := Nat × List Iv) (fun p => p.1 ≤ N ∧ p.2.length + 1441 * p.1 ≤ 1441 * N ∧ withR hs lo hi p.1 (la + 1 - p.1) p.2 = withR hs lo hi N fi [])
      (fun p => ⟨[(6, AV.i (la + 1 - p.1)), (5, .v (.c (.msl 1 p.2.reverse.length))), (3, .v (.c (.ptr 0 0))), (0, AV.d (.sl f (hs.map Win.row)))], [.box [.d (.int .i64 lo), .d (.int .i64 hi)], .tok p.2.reverse.length 2 (some (icd p.2.reverse))]⟩)
      (fun p => p.1) (N, []) ((Wk.msl 5 2 (by decide) (by simp [look])).trans (Wk.sub' (by simp [subT, look]; omega) rfl)) ⟨Nat.le_refl _, by simp, by rw [show la + 1 - (N : Int) = fi by omega]⟩ ?_
    rintro ⟨n, r⟩ ⟨g1, g2, g3⟩
    dsimp only at g1 g2 g3 ⊢
    cases n with
    | zero =>
      have c1 : (la + 1 - 0 ≤ la) = False := eq_false (by omega)
      have g3 : r = withR hs lo hi N fi [] := g3
      rw [← g3] at h
      have hc := Nat.zero_add 0
      repeat' (first | simp only [hc, AS, NX, NPV, SX, HX, e2, hla, w2, w3, c1, ZZ, simprocAttr, ↓reduceIte] | refine Zi ?_ | refine Zj ?_)
      rw [← h]
      have hfr := Wk.freezeC (n := 0) (t := [(4, .v (.c (.msl 1 r.reverse.length)))]) (h := [.box [.d (.int .i64 lo), .d (.int .i64 hi)], .tok r.reverse.length 2 (some (icd r.reverse))]) 4 1 r.reverse.length 2 (icd r.reverse) _ (by simp [look]) rfl (icd_allD _)
      rw [chunk_enc] at hfr
      exact ⟨_, (Wk.sub' (by simp [subT, look]) rfl).trans hfr, rfl⟩
    | succ n =>
      rw [withR] at g3
      have hd : la + 1 - ((n + 1 : Nat) : Int) = la - n := by omega
      rw [hd] at g3 ⊢
      rw [show la - (n : Int) + 1 = la + 1 - n by omega] at g3
      have hdb : 0 ≤ la - (n : Int) := by omega
      have hdl : la - (n : Int) ≤ la := by omega
      have c1 : (la - (n : Int) ≤ la) = True := eq_true hdl
      have hdn : la - (n : Int) + 1 = la + 1 - n := by omega
      generalize hdd : la - (n : Int) = d at *
      have hc := Nat.zero_add 0
      repeat' (first | simp only [hc, AS, NX, NPV, SX, HX, e2, hla, w2, w3, c1, ZZ, simprocAttr, ↓reduceIte] | refine Zi ?_ )
      -- the minutes of the day
      refine awpS_loop (σ := Nat) (fun m => m ≤ 1440)
        (fun m => ⟨[(8, AV.i m), (7, .v (.c (.own 2 ((cutsN hs m).map rowI)))), (6, AV.i d), (5, .v (.c (.msl 1 r.reverse.length))), (3, .v (.c (.ptr 0 0))), (0, AV.d (.sl f (hs.map Win.row)))], [.box [.d (.int .i64 lo), .d (.int .i64 hi)], .tok r.reverse.length 2 (some (icd r.reverse)), .tok (cutsN hs m).length 1 none]⟩)
        (fun m => 1440 - m) 0 ((Wk.own 7 1 (by decide) (by simp [look])).trans (Wk.sub' (by simp [subT, look, cutsN]) rfl)) (Nat.zero_le _) ?_
      intro m hm
      have ap : ∀ (h : Hp) (O : List Int) (u : Int), O.length ≤ 1440 → apTok h 2 1 8 (O.map rowI) [[.int .i64 u]] (some (.tok O.length 1 none)) = some (.v (.c (.own 2 ((O ++ [u]).map rowI))), h.set 2 (.tok (O ++ [u]).length 1 none)) := fun h O u hO => by
        rw [apTok_ok (eq_true (by simp)) (eq_true (by simp [allLen])) (eq_true (by simp; omega)) (eq_true (by simp; omega))]
        simp [rowI]
      by_cases hml : m < 1440
      · have c2 : ((m : Int) < 1440) = True := eq_true (by omega)
        have w4 := wI (n := (m : Int) + 1) (by omega) (by omega)
        have hcn : cutsN hs (m + 1) = cutsN hs m ++ if cutB hs m = true then [(m : Int)] else [] := rfl
        have a1 := fun h => ap h (cutsN hs m) m (Nat.le_trans cutsN_len (by omega))
        generalize cutsN hs m = O at *
        have hc := Nat.zero_add 0
        repeat' (first | simp only [hc, AS, NX, NPV, SX, HX, c2, ZZ, simprocAttr, ↓reduceIte] | refine Zi ?_ )
        refine awpS_loop (σ := Nat) (fun k => k ≤ hs.length)
          (fun k => ⟨[(10, AV.i k), (9, AV.b (cutK hs k m)), (8, AV.i m), (7, .v (.c (.own 2 (O.map rowI)))), (6, AV.i d), (5, .v (.c (.msl 1 r.reverse.length))), (3, .v (.c (.ptr 0 0))), (0, AV.d (.sl f (hs.map Win.row)))], [.box [.d (.int .i64 lo), .d (.int .i64 hi)], .tok r.reverse.length 2 (some (icd r.reverse)), .tok O.length 1 none]⟩)
          (fun k => hs.length - k) 0 (Wk.sub' (by simp [subT, look, cutK]) rfl) (Nat.zero_le _) ?_
        intro k hk
        by_cases hkl : k < hs.length
        · have d1 := wn_at hkl
          have c3 : ((k : Int) < (hs.length : Int)) = True := eq_true (by omega)
          have w5 := wI (n := (k : Int) + 1) (by omega) (by omega)
          have hck := @cutK_succ hs k m hkl
          generalize hs[k] = x at *
          obtain ⟨x1, x2, x3⟩ := x
          dsimp only at d1 hck
          cases hK : cutK hs k m
          · rw [hK, Bool.false_or] at hck
            by_cases c4 : x2 = (m : Int)
            · have c4' := eq_true c4
              have hc := Nat.zero_add 0
              repeat' (first | simp only [hc, AS, NX, NPV, SX, HX, l1, d1, c3, nn, w5, c4', ZZ, simprocAttr, ↓reduceIte] | refine Zi ?_ )
              refine lp_next (k + 1) ?_ (by omega) (by omega)
              rw [hck]
              exact Wk.sub' (by simp [subT, look, c4]) rfl
            have c4' := eq_false c4
            by_cases c5 : x3 = (m : Int)
            · have c5' := eq_true c5
              have hc := Nat.zero_add 0
              repeat' (first | simp only [hc, AS, NX, NPV, SX, HX, l1, d1, c3, nn, w5, c4', c5', ZZ, simprocAttr, ↓reduceIte] | refine Zi ?_ )
              refine lp_next (k + 1) ?_ (by omega) (by omega)
              rw [hck]
              exact Wk.sub' (by simp [subT, look, c5]) rfl
            have c5' := eq_false c5
            have hc := Nat.zero_add 0
            repeat' (first | simp only [hc, AS, NX, NPV, SX, HX, l1, d1, c3, nn, w5, c4', c5', ZZ, simprocAttr, ↓reduceIte] | refine Zi ?_ )
            refine lp_next (k + 1) ?_ (by omega) (by omega)
            rw [hck]
            exact Wk.sub' (by simp [subT, look, c4, c5]) rfl
          rw [hK, Bool.true_or] at hck
          have hc := Nat.zero_add 0
          repeat' (first | simp only [hc, AS, NX, NPV, SX, HX, l1, d1, c3, nn, w5, ZZ, simprocAttr, ↓reduceIte] | refine Zi ?_ )
          refine lp_next (k + 1) ?_ (by omega) (by omega)
          rw [hck]
          exact Wk.sub' (by simp [subT, look]) rfl
        have c3 : ((k : Int) < (hs.length : Int)) = False := eq_false (by omega)
        have hKm : cutK hs k m = cutB hs m := by rw [cutK, List.take_of_length_le (by omega), cutB]
        rw [hKm]
        cases hcb : cutB hs m
        · rw [hcb, if_neg (by decide), List.append_nil] at hcn
          have hc := Nat.zero_add 0
          repeat' (first | simp only [hc, AS, NX, NPV, SX, HX, l1, c3, w4, ZZ, simprocAttr, ↓reduceIte] | refine Zi ?_ | refine Zj ?_)
          refine lp_next (m + 1) ?_ (by omega) (by omega)
          rw [hcn]
          exact Wk.sub' (by simp [subT, look]) rfl
        rw [hcb, if_pos rfl] at hcn
        have hc := Nat.zero_add 0
        repeat' (first | simp only [hc, AS, NX, NPV, SX, HX, l1, c3, w4, a1, ZZ, simprocAttr, ↓reduceIte] | refine Zi ?_ | refine Zj ?_)
        refine lp_next (m + 1) ?_ (by omega) (by omega)
        rw [hcn]
        exact Wk.sub' (by simp [subT, look]) rfl
      have c2 : ((m : Int) < 1440) = False := eq_false (by omega)
      have hm0 : m = 1440 := by omega
      subst hm0
      have hC : cutsN hs 1440 ++ [1440] = cutsF hs := rfl
      have a1 := fun h => ap h (cutsN hs 1440) 1440 (Nat.le_trans cutsN_len (by omega))
      rw [hC] at a1
      have hCl := @cutsF_len hs
      have hdw : dayW hs lo hi d r = (pairs (cutsF hs)).foldl (gW hs lo hi d) r := rfl
      rw [hdw] at g3
      have hbx : ∀ x y, (x, y) ∈ pairs (cutsF hs) → 0 ≤ x ∧ x < y ∧ y ≤ 1440 := fun x y hxy => by
        have h1 := cutsF_bd (pairs_mem hxy).1
        have h2 := cutsF_bd (pairs_mem hxy).2
        have h3 := (pairs_asc (@cutsF_asc hs)).2 _ hxy
        dsimp only at *
        omega
      generalize cutsF hs = C at *
      have l2 := @lenIn C
      have hc := Nat.zero_add 0
      repeat' (first | simp only [hc, AS, NX, NPV, SX, HX, c2, a1, ZZ, simprocAttr, ↓reduceIte] | refine Zi ?_ | refine Zj ?_)
      -- the pieces of the day
      refine awpS_loop (σ := Nat × List Iv) (fun p => p.1 ≤ C.length ∧ p.2.length ≤ r.length + p.1 ∧ (pairs (C.drop p.1)).foldl (gW hs lo hi d) p.2 = (pairs C).foldl (gW hs lo hi d) r)
        (fun p => ⟨[(11, AV.i p.1), (7, .v (.c (.own 2 (C.map rowI)))), (6, AV.i d), (5, .v (.c (.msl 1 p.2.reverse.length))), (3, .v (.c (.ptr 0 0))), (0, AV.d (.sl f (hs.map Win.row)))], [.box [.d (.int .i64 lo), .d (.int .i64 hi)], .tok p.2.reverse.length 2 (some (icd p.2.reverse)), .tok C.length 1 none]⟩)
        (fun p => C.length - p.1) (0, r) (Wk.sub' (by simp [subT, look]) (by simp)) ⟨Nat.zero_le _, by simp, rfl⟩ ?_
      rintro ⟨c, q⟩ ⟨k1, k2, k3⟩
      dsimp only at k1 k2 k3 ⊢
      have w5 := wI (n := (c : Int) + 1) (by omega) (by omega)
      by_cases hcl : c + 1 < C.length
      · have c3 : ((c : Int) + 1 < (C.length : Int)) = True := eq_true (by omega)
        have nn1 : ((0 : Int) ≤ (c : Int) + 1) = True := eq_true (by omega)
        have hN1 : ((c : Int) + 1).toNat = c + 1 := by omega
        have i1 := in_at (show c < C.length by omega)
        have i2 := in_at hcl
        have hxy := hbx _ _ (pairs_at hcl)
        rw [pairs_drop hcl, List.foldl_cons] at k3
        have next : ∀ q', q'.length ≤ r.length + (c + 1) → (pairs (C.drop (c + 1))).foldl (gW hs lo hi d) q' = (pairs C).foldl (gW hs lo hi d) r →
            c + 1 ≤ C.length ∧ q'.length ≤ r.length + (c + 1) ∧ (pairs (C.drop (c + 1))).foldl (gW hs lo hi d) q' = (pairs C).foldl (gW hs lo hi d) r := fun _ h1 h2 => ⟨by omega, h1, h2⟩
        generalize C[c] = x at *
        generalize C[c + 1] = y at *
        obtain ⟨x0, xy, y1⟩ := hxy
        have v1 := wI (n := 86400 * d) (by omega) (by omega)
        have v2 := wI (n := 60 * x) (by omega) (by omega)
        have v3 := wI (n := 86400 * d + 60 * x) (by omega) (by omega)
        have v4 := wI (n := 60 * y) (by omega) (by omega)
        have v5 := wI (n := 86400 * d + 60 * y) (by omega) (by omega)
        have f1 := @r6hrs_at f hs (86400 * d + 60 * x) (by omega) (by omega) (by omega)
        rw [hB, inHrs, show (86400 * d + 60 * x) / 86400 = d by omega, show (86400 * d + 60 * x) % 86400 / 60 = x by omega] at f1
        have hg : gW hs lo hi d q (x, y) = if hrsM hs d x = true ∧ lo < 86400 * d + 60 * y ∧ 86400 * d + 60 * x < hi then mkS q (max (86400 * d + 60 * x) lo, min (86400 * d + 60 * y) hi) else q := rfl
        have huv : 86400 * d + 60 * x < 86400 * d + 60 * y := by omega
        generalize hu : 86400 * d + 60 * x = u at *
        generalize hv' : 86400 * d + 60 * y = v at *
        cases hH : hrsM hs d x
        · rw [hH] at f1
          rw [hg, if_neg (by rw [hH]; exact fun h => Bool.false_ne_true h.1)] at k3
          have hc := Nat.zero_add 0
          repeat' (first | simp only [hc, AS, NX, NPV, SX, HX, l2, i1, i2, c3, nn, nn1, hN1, w5, v1, v2, v3, v4, v5, hu, hv', f1, ZZ, simprocAttr, ↓reduceIte] | refine Zi ?_ | refine Zj ?_)
          exact lp_next (c + 1, q) (Wk.sub' (by simp [subT, look]) rfl) (next q (by omega) k3) (by dsimp only; omega)
        rw [hH] at f1
        by_cases b1 : v ≤ lo
        · have b1' := eq_true b1
          rw [hg, if_neg (by omega)] at k3
          have hc := Nat.zero_add 0
          repeat' (first | simp only [hc, AS, NX, NPV, SX, HX, l2, i1, i2, c3, nn, nn1, hN1, w5, v1, v2, v3, v4, v5, hu, hv', f1, b1', ZZ, simprocAttr, ↓reduceIte] | refine Zi ?_ | refine Zj ?_)
          exact lp_next (c + 1, q) (Wk.sub' (by simp [subT, look]) rfl) (next q (by omega) k3) (by dsimp only; omega)
        have b1' := eq_false b1
        by_cases b2 : hi ≤ u
        · have b2' : (u ≥ hi) = True := eq_true b2
          rw [hg, if_neg (by omega)] at k3
          have hc := Nat.zero_add 0
          repeat' (first | simp only [hc, AS, NX, NPV, SX, HX, l2, i1, i2, c3, nn, nn1, hN1, w5, v1, v2, v3, v4, v5, hu, hv', f1, b1', b2', ZZ, simprocAttr, ↓reduceIte] | refine Zi ?_ | refine Zj ?_)
          exact lp_next (c + 1, q) (Wk.sub' (by simp [subT, look]) rfl) (next q (by omega) k3) (by dsimp only; omega)
        have b2' : (u ≥ hi) = False := eq_false b2
        rw [hg, if_pos ⟨hH, by omega, by omega⟩] at k3
        have hX : (u < lo ∧ max u lo = lo) ∨ (¬ u < lo ∧ max u lo = u) := by omega
        have hY : (v > hi ∧ min v hi = hi) ∨ (¬ v > hi ∧ min v hi = v) := by omega
        have hml := @mkS_len q (max u lo, min v hi)
        rcases hX with ⟨hx, ex⟩ | ⟨hx, ex⟩ <;> rcases hY with ⟨hy, ey⟩ | ⟨hy, ey⟩
        all_goals
          rw [ex, ey] at k3 hml
          have hx' := hx
          have hy' := hy
          cases q with
          | nil =>
            have hc := Nat.zero_add 0
            repeat' (first | simp only [hc, AS, NX, NPV, SX, HX, l2, i1, i2, c3, nn, nn1, hN1, w5, v1, v2, v3, v4, v5, hu, hv', f1, b1', b2', hx', hy', Int.toNat_natCast, List.reverse_nil, List.length_nil, ZZ, simprocAttr, ↓reduceIte] | refine Zi ?_ )
            exact lp_next (c + 1, mkS [] _) (Wk.sub' (by simp [subT, look, mkS]) (by simp [rowIC, mkS])) (next _ (by simp [mkS]; omega) k3) (by dsimp only; omega)
          | cons p q =>
            obtain ⟨p1, p2⟩ := p
            have hO : ((p1, p2) :: q).reverse = q.reverse ++ [(p1, p2)] := List.reverse_cons
            have hOl : (q.reverse ++ [(p1, p2)]).length = q.length + 1 := by simp
            rw [hO]
            have hql : q.length + 1 ≤ r.length + c := k2
            have hyy : (q.reverse ++ [(p1, p2)])[q.length]? = some (p1, p2) := by simp
            have q2 : IntKind.i64.wrap (((q.reverse ++ [(p1, p2)]).length : Int) - 1) = (q.length : Int) := by
              rw [wI (by omega) (by omega)]; omega
            have q1 : (((q.reverse ++ [(p1, p2)]).length : Int) > 0) = True := eq_true (by omega)
            have q3 : ((q.length : Int) < ((q.reverse ++ [(p1, p2)]).length : Int)) = True := eq_true (by omega)
            have q5 : (icd (q.reverse ++ [(p1, p2)]))[q.length * 2 + 1]? = some (.d (.int .i64 p2)) := fm_cell rowIC_len hyy (by decide)
            have q7 : ∀ h z, stP h 1 (q.length * 2 + 1) (q.reverse ++ [(p1, p2)]).length 2 (icd (q.reverse ++ [(p1, p2)])) (some [.d (.int .i64 z)]) (some 1) = some (h.set 1 (.tok (q.reverse ++ [(p1, p2)]).length 2 (some (icd (q.reverse ++ [(p1, z)]))))) := fun h z => by
              rw [stP_fm (x' := (p1, z)) rowIC_len hyy (by decide) rfl]
              simp
            have hb1 : (((q.reverse ++ [(p1, p2)]).length + 1) * 16 ≤ 140737488355328) = True := eq_true (by omega)
            have hb2 : ((q.reverse ++ [(p1, p2)]).length + 1 ≤ 4611686018427387904) = True := eq_true (by omega)
            have hsn : ∀ a b, icd (q.reverse ++ [(p1, p2)]) ++ [.d (.int .i64 a), .d (.int .i64 b)] = icd (q.reverse ++ [(p1, p2)] ++ [(a, b)]) := fun a b => (icd_snoc (x := (a, b))).symm
            by_cases hm : p2 = max u lo
            · rw [ex] at hm
              have hm' := eq_true hm
              simp only [mkS, hm', if_true] at k3
              have hc := Nat.zero_add 0
              repeat' (first | simp only [hc, AS, NX, NPV, SX, HX, l2, i1, i2, c3, nn, nn1, hN1, w5, v1, v2, v3, v4, v5, hu, hv', f1, b1', b2', hx', hy', Int.toNat_natCast, q1, q2, q3, q5, q7, hm', ZZ, simprocAttr, ↓reduceIte] | refine Zi ?_ )
              exact lp_next (c + 1, (p1, _) :: q) (Wk.sub' (by simp [subT, look]) (by simp)) (next _ (by simp; omega) k3) (by dsimp only; omega)
            rw [ex] at hm
            have hm' := eq_false hm
            simp only [mkS, hm', if_false] at k3
            have hc := Nat.zero_add 0
            repeat' (first | simp only [hc, AS, NX, NPV, SX, HX, l2, i1, i2, c3, nn, nn1, hN1, w5, v1, v2, v3, v4, v5, hu, hv', f1, b1', b2', hx', hy', Int.toNat_natCast, q1, q2, q3, q5, hm', hb1, hb2, hsn, ZZ, simprocAttr, ↓reduceIte] | refine Zi ?_ )
            exact lp_next (c + 1, _ :: (p1, p2) :: q) (Wk.sub' (by simp [subT, look]) (by simp)) (next _ (by simp; omega) k3) (by dsimp only; omega)
      have c3 : ((c : Int) + 1 < (C.length : Int)) = False := eq_false (by omega)
      rw [pairs_short (by rw [List.length_drop]; omega)] at k3
      have k3 : q = (pairs C).foldl (gW hs lo hi d) r := k3
      rw [← k3] at g3
      have w6 := wI (n := la + 1 - (n : Int)) (by omega) (by omega)
      have hc := Nat.zero_add 0
      repeat' (first | simp only [hc, AS, NX, NPV, SX, HX, l2, c3, w5, w6, hdn, ZZ, simprocAttr, ↓reduceIte] | refine Zi ?_ | refine Zj ?_)
      refine lp_next (n, q) ?_ ⟨by omega, by dsimp only; omega, g3⟩ (by dsimp only; omega)
      exact Wk.cutk (k := 2) (by decide) (by simp) (by simp) (by simp [subT, look]) (by simp [AV.low, V.low, C1.low]) (by simp only [List.all_cons, List.all_nil, tokI_low, box2_low, Bool.and_self])
  cases h
theorem r6with_at {f : Bool} {hs : List Win} {i : Iv} (h1 : hs.length ≤ 1000000) (h2 : ivOk i = true) (h3 : nDays i ≤ 400) : r6with_m [.c (.sl f (hs.map Win.row)), .agg (rwI i)] = some [.c (.sl false ((withF hs i).map rwI))] := by
  have := mE_eq encWV_inj (g := fun p => if p.1.2.length ≤ 1000000 ∧ ivOk p.2 = true ∧ nDays p.2 ≤ 400 then some [DV.c (.sl false ((withF p.1.2 p.2).map rwI))] else none) (a := ((f, hs), i))
  exact this.trans (if_pos ⟨h1, h2, h3⟩)
theorem days_ok {i : Iv} (h : daysErr i = 0) : ivOk i = true ∧ nDays i ≤ 366 := by
  unfold daysErr at h
  split at h
  · cases h
  rename_i hv
  split at h
  · cases h
  exact ⟨by simpa using hv, by rw [nDays]; omega⟩
theorem r6enf_ok : PureC Tryz.prog Gt 71 r6enf_m := by
  refine pure_of_awpS (X := ctx Tryz.prog Gt [(114, r6days_m), (115, r6with_m)]) Tryz.func71 rfl rfl (by kernel_rfl) (by kernel_rfl) (AllOk.cons r6days_ok (AllOk.cons r6with_ok AllOk.nil)).kok ?_
  intro args r h0
  obtain ⟨⟨z, i⟩, rfl, h⟩ := mE_inv h0
  refine ⟨Nat.le_of_ble_eq_true rfl, ?_⟩
  split at h
  · rename_i hl
    dsimp only at hl h
    simp only [Option.some.injEq] at h
    have f1 := @r6days_at i
    have f2 := fun h : daysErr i = 0 => @r6with_at z.hf z.hrs i hl (days_ok h).1 (Nat.le_trans (days_ok h).2 (by decide))
    generalize daysErr i = e at *
    obtain ⟨name, hf, hrs, sf, sts, grace, free, dmax, stay⟩ := z
    obtain ⟨a, b⟩ := i
    simp only [rwI] at f1 f2
    by_cases he : e = 0
    · have he' := eq_true he
      have f2 := f2 he
      rw [if_pos he] at h
      have hc := Nat.zero_add 0
      repeat' (first | simp only [hc, AS, Tryz.f71, encZV, Zon.row, rwI, SX, f1, f2, he', ZZ, simprocAttr, ↓reduceIte] | refine Zi ?_ )
      rw [← h]
      simp [he, DV.i]
    have he' := eq_false he
    rw [if_neg he] at h
    have hc := Nat.zero_add 0
    repeat' (first | simp only [hc, AS, Tryz.f71, encZV, Zon.row, rwI, SX, f1, he', ZZ, simprocAttr, ↓reduceIte] | refine Zi ?_ )
    rw [← h]
  cases h
theorem r6enf_at {z : Zon} {i : Iv} (h : z.hrs.length ≤ 1000000) : r6enf_m [.agg z.row, .agg (rwI i)] = some [.c (if daysErr i = 0 then .sl false ((withF z.hrs i).map rwI) else .sl true []), .i (daysErr i)] := by
  have := mE_eq encZV_inj (g := fun p => if p.1.hrs.length ≤ 1000000 then some [DV.c (if daysErr p.2 = 0 then .sl false ((withF p.1.hrs p.2).map rwI) else .sl true []), .i (daysErr p.2)] else none) (a := (z, i))
  exact this.trans (if_pos h)
end
end Go.Ab
