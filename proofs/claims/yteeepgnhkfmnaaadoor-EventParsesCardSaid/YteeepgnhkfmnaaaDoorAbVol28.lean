/-
  Texts of the layer and of the laws, put together: AbF3, AbF4. No law is stated here.
-/
import Derived.Test.YteeepgnhkfmnaaaDoorAbVol27
import Derived.Test.YteeepgnhkfmnaaaDoorAbVol15
set_option linter.unusedSimpArgs false
set_option linter.unusedVariables false
set_option maxRecDepth 100000

/-
  event.numbers, event.strings, event.join: fields, as pairs of pointers. Printed by tools/genf3.py.
-/
namespace Go.Ab
open Go.RowKit Go.Proofs

def numRow (p : Nat × Nat) : List C1 := [.ptr p.1 p.2, .nilp]
def txtRow (p : Nat × Nat) : List C1 := [.nilp, .ptr p.1 p.2]

theorem flat_low {row : Nat × Nat → List C1} {m : Nat} (hr : ∀ p, p.1 < m → ((row p).all (C1.low m)) = true) : ∀ (l : List (Nat × Nat)), (∀ p ∈ l, p.1 < m) → ((l.flatMap row).all (C1.low m)) = true
  | [], _ => rfl
  | p :: l, h => by
    rw [List.flatMap_cons, List.all_append, hr p (h p List.mem_cons_self), flat_low hr l fun q hq => h q (List.mem_cons_of_mem _ hq)]
    rfl

noncomputable section
open Classical

/-- A list of pointers, made into fields. -/
def psK (row : Nat × Nat → List C1) (args : List AV) (h : Hp) : Option COut := match args with
  | [.v (.c (.psl ps))] => if ps.length ≤ 1000 ∧ (ps.all fun p => decide (p.1 < h.length)) = true ∧ LowH h then some (.ret (.v (.c (.msl h.length ps.length))) (h ++ [.tok ps.length 2 (some (ps.flatMap row))])) else none
  | _ => none
theorem psK_inv {row : Nat × Nat → List C1} {args : List AV} {h : Hp} {out : COut} (hm : psK row args h = some out) : ∃ ps, args = [.v (.c (.psl ps))] ∧ ps.length ≤ 1000 ∧ (ps.all fun p => decide (p.1 < h.length)) = true ∧ LowH h ∧ out = .ret (.v (.c (.msl h.length ps.length))) (h ++ [.tok ps.length 2 (some (ps.flatMap row))]) := by
  unfold psK at hm
  split at hm
  · rename_i ps
    split at hm
    · rename_i hc
      cases hm
      exact ⟨ps, rfl, hc.1, hc.2.1, hc.2.2, rfl⟩
    · cases hm
  · cases hm

def enums_k : List AV → Hp → Option COut := psK numRow

theorem enums_kok : ImpC Tryd.prog Gt 50 enums_k := by
  intro args h out h0
  refine fok_of_awpSW (X := ctxN Tryd.prog Gt [] [] [] none (uL [63])) Tryd.func50 rfl rfl (by kernel_rfl) (by kernel_rfl) (kok_n AllOk.nil AllK.nil AllN.nil) ?_ ?_
  · obtain ⟨ps, rfl, _⟩ := psK_inv h0
    exact Nat.le_of_ble_eq_true rfl
  obtain ⟨ps, rfl, hlen, hlow, hh, rfl⟩ := psK_inv h0
  have hlow1 : ∀ p ∈ ps, p.1 < h.length := fun p hp => by rw [List.all_eq_true] at hlow; exact of_decide_eq_true (hlow p hp)
  have hlow2 : (ps.all fun p => decide (p.1 < h.length + 1)) = true := by
    rw [List.all_eq_true]
    intro p hp
    have := hlow1 p hp
    simp
    omega
  have hc := Nat.zero_add 0
  repeat' (first | simp only [hc, AS, Tryd.f50, NX, NPV, SX, HX, AB, PL, RG, LP, TY, simprocAttr, ↓reduceIte, forall_const, eq_self, ne_eq, Option.some.injEq, beq_self_eq_true] | ((first | apply fin_ndec | apply fin_dec | apply cnd_ndec | apply cnd_dec' | apply fin_nsplit | apply fin_split | apply cnd_nsplit | apply cnd_split) <;> intro hc) | refine seqS_id ?_ | refine blk_exit_id ?_)
  refine awpS_loop (σ := Nat) (fun j => j ≤ ps.length) (fun j => ⟨[(8, AV.i j), (7, AV.i ps.length), (6, .v (.c (.psl ps))), (3, .v (.c (.msl h.length j)))], h ++ [.tok j 2 (some ((ps.take j).flatMap numRow))]⟩) (fun j => ps.length - j) 0 ((Wk.msl 3 2 (by decide) (by simp [look])).trans (Wk.sub' (by simp [subT, look]) rfl)) (Nat.zero_le _) ?_
  intro j hj
  by_cases hjl : j < ps.length
  · have hlt : ((j : Int) < (ps.length : Int)) = True := eq_true (by omega)
    have hw := wI (n := (j : Int) + 1) (by omega) (by omega)
    have e1 : ps[j]? = some ps[j] := by simp [hjl]
    have hnx : (ps.take (j + 1)).flatMap numRow = (ps.take j).flatMap numRow ++ numRow ps[j] := by rw [List.take_succ_eq_append_getElem hjl, List.flatMap_append]; simp
    have hO := flat_low (row := numRow) (m := h.length + 1) (fun p hp => by simp [numRow, C1.low, hp]) (ps.take (j + 1)) (fun p hp => by have := hlow1 p (List.mem_of_mem_take hp); omega)
    rw [hnx] at hO
    generalize ps[j] = p at *
    generalize (ps.take j).flatMap numRow = O at *
    have hb1 : ((j + 1) * 16 ≤ 140737488355328) = True := eq_true (by omega)
    have hb2 : (j + 1 ≤ 4611686018427387904) = True := eq_true (by omega)
    have hc := Nat.zero_add 0
    repeat' (first | simp only [hc, AS, NX, NPV, SX, HX, hlt, nn, hw, e1, hb1, hb2, Int.toNat_natCast, List.getElem?_map, List.getElem?_drop, Nat.add_zero, AB, PL, RG, LP, TY, simprocAttr, ↓reduceIte, forall_const, eq_self, ne_eq, Option.some.injEq, beq_self_eq_true] | ((first | apply fin_ndec | apply fin_dec | apply cnd_ndec | apply cnd_dec' | apply fin_nsplit | apply fin_split | apply cnd_nsplit | apply cnd_split) <;> intro hc) | refine seqS_id ?_ | refine blk_exit_id ?_)
    refine lp_next (j + 1) ?_ (by omega) (by omega)
    rw [hnx]
    refine Wk.back' (h' := h ++ [.tok (j + 1) 2 (some (O ++ numRow p))]) (g := [.tok 1 2 (some (numRow p))]) (LowH.app hh (by simp only [List.all_cons, List.all_nil, Bool.and_true]; exact hO)) ?_ ?_ ?_ ?_
    · simp [numRow]
    · simp
    · simp [subT, look]
    · rw [List.length_append]
      simp only [List.all_cons, List.all_nil, AV.low, V.low, C1.low, List.length_cons, List.length_nil, Nat.zero_add, hlow2]
      simp
  · have hlt : ((j : Int) < (ps.length : Int)) = False := eq_false (by omega)
    rw [List.take_of_length_le (by omega)]
    have hc := Nat.zero_add 0
    repeat' (first | simp only [hc, AS, NX, NPV, SX, HX, hlt, AB, PL, RG, LP, TY, simprocAttr, ↓reduceIte, forall_const, eq_self, ne_eq, Option.some.injEq, beq_self_eq_true] | ((first | apply fin_ndec | apply fin_dec | apply cnd_ndec | apply cnd_dec' | apply fin_nsplit | apply fin_split | apply cnd_nsplit | apply cnd_split) <;> intro hc) | refine seqS_id ?_ | refine blk_exit_id ?_)
    have : j = ps.length := by omega
    subst this
    exact ⟨_, Wk.refl, [.c (.msl h.length ps.length)], by simp [resAllV, resOneV, S.get, look, AV.one], by simp [resVV]⟩


def estrs_k : List AV → Hp → Option COut := psK txtRow

theorem estrs_kok : ImpC Tryd.prog Gt 49 estrs_k := by
  intro args h out h0
  refine fok_of_awpSW (X := ctxN Tryd.prog Gt [] [] [] none (uL [63])) Tryd.func49 rfl rfl (by kernel_rfl) (by kernel_rfl) (kok_n AllOk.nil AllK.nil AllN.nil) ?_ ?_
  · obtain ⟨ps, rfl, _⟩ := psK_inv h0
    exact Nat.le_of_ble_eq_true rfl
  obtain ⟨ps, rfl, hlen, hlow, hh, rfl⟩ := psK_inv h0
  have hlow1 : ∀ p ∈ ps, p.1 < h.length := fun p hp => by rw [List.all_eq_true] at hlow; exact of_decide_eq_true (hlow p hp)
  have hlow2 : (ps.all fun p => decide (p.1 < h.length + 1)) = true := by
    rw [List.all_eq_true]
    intro p hp
    have := hlow1 p hp
    simp
    omega
  have hc := Nat.zero_add 0
  repeat' (first | simp only [hc, AS, Tryd.f49, NX, NPV, SX, HX, AB, PL, RG, LP, TY, simprocAttr, ↓reduceIte, forall_const, eq_self, ne_eq, Option.some.injEq, beq_self_eq_true] | ((first | apply fin_ndec | apply fin_dec | apply cnd_ndec | apply cnd_dec' | apply fin_nsplit | apply fin_split | apply cnd_nsplit | apply cnd_split) <;> intro hc) | refine seqS_id ?_ | refine blk_exit_id ?_)
  refine awpS_loop (σ := Nat) (fun j => j ≤ ps.length) (fun j => ⟨[(8, AV.i j), (7, AV.i ps.length), (6, .v (.c (.psl ps))), (3, .v (.c (.msl h.length j)))], h ++ [.tok j 2 (some ((ps.take j).flatMap txtRow))]⟩) (fun j => ps.length - j) 0 ((Wk.msl 3 2 (by decide) (by simp [look])).trans (Wk.sub' (by simp [subT, look]) rfl)) (Nat.zero_le _) ?_
  intro j hj
  by_cases hjl : j < ps.length
  · have hlt : ((j : Int) < (ps.length : Int)) = True := eq_true (by omega)
    have hw := wI (n := (j : Int) + 1) (by omega) (by omega)
    have e1 : ps[j]? = some ps[j] := by simp [hjl]
    have hnx : (ps.take (j + 1)).flatMap txtRow = (ps.take j).flatMap txtRow ++ txtRow ps[j] := by rw [List.take_succ_eq_append_getElem hjl, List.flatMap_append]; simp
    have hO := flat_low (row := txtRow) (m := h.length + 1) (fun p hp => by simp [txtRow, C1.low, hp]) (ps.take (j + 1)) (fun p hp => by have := hlow1 p (List.mem_of_mem_take hp); omega)
    rw [hnx] at hO
    generalize ps[j] = p at *
    generalize (ps.take j).flatMap txtRow = O at *
    have hb1 : ((j + 1) * 16 ≤ 140737488355328) = True := eq_true (by omega)
    have hb2 : (j + 1 ≤ 4611686018427387904) = True := eq_true (by omega)
    have hc := Nat.zero_add 0
    repeat' (first | simp only [hc, AS, NX, NPV, SX, HX, hlt, nn, hw, e1, hb1, hb2, Int.toNat_natCast, List.getElem?_map, List.getElem?_drop, Nat.add_zero, AB, PL, RG, LP, TY, simprocAttr, ↓reduceIte, forall_const, eq_self, ne_eq, Option.some.injEq, beq_self_eq_true] | ((first | apply fin_ndec | apply fin_dec | apply cnd_ndec | apply cnd_dec' | apply fin_nsplit | apply fin_split | apply cnd_nsplit | apply cnd_split) <;> intro hc) | refine seqS_id ?_ | refine blk_exit_id ?_)
    refine lp_next (j + 1) ?_ (by omega) (by omega)
    rw [hnx]
    refine Wk.back' (h' := h ++ [.tok (j + 1) 2 (some (O ++ txtRow p))]) (g := [.tok 1 2 (some (txtRow p))]) (LowH.app hh (by simp only [List.all_cons, List.all_nil, Bool.and_true]; exact hO)) ?_ ?_ ?_ ?_
    · simp [txtRow]
    · simp
    · simp [subT, look]
    · rw [List.length_append]
      simp only [List.all_cons, List.all_nil, AV.low, V.low, C1.low, List.length_cons, List.length_nil, Nat.zero_add, hlow2]
      simp
  · have hlt : ((j : Int) < (ps.length : Int)) = False := eq_false (by omega)
    rw [List.take_of_length_le (by omega)]
    have hc := Nat.zero_add 0
    repeat' (first | simp only [hc, AS, NX, NPV, SX, HX, hlt, AB, PL, RG, LP, TY, simprocAttr, ↓reduceIte, forall_const, eq_self, ne_eq, Option.some.injEq, beq_self_eq_true] | ((first | apply fin_ndec | apply fin_dec | apply cnd_ndec | apply cnd_dec' | apply fin_nsplit | apply fin_split | apply cnd_nsplit | apply cnd_split) <;> intro hc) | refine seqS_id ?_ | refine blk_exit_id ?_)
    have : j = ps.length := by omega
    subst this
    exact ⟨_, Wk.refl, [.c (.msl h.length ps.length)], by simp [resAllV, resOneV, S.get, look, AV.one], by simp [resVV]⟩


/-- The cells of several slices of fields, one behind the other. -/
def gath (h : Hp) : List C1 → Option (List C1)
  | [] => some []
  | .msl i m :: r => match h[i]? with
    | some (.tok m' 2 (some c)) => if m' = m ∧ c.length = m * 2 ∧ m ≤ 1000 ∧ (c.all (C1.low h.length)) = true then (gath h r).map (c ++ ·) else none
    | _ => none
  | _ => none
theorem gath_step {h : Hp} : ∀ {cs out : List C1} {j : Nat}, gath h cs = some out → j < cs.length → ∃ i m c o, cs[j]? = some (.msl i m) ∧ h[i]? = some (.tok m 2 (some c)) ∧ c.length = m * 2 ∧ m ≤ 1000 ∧ (c.all (C1.low h.length)) = true ∧ gath h (cs.take j) = some o ∧ gath h (cs.take (j + 1)) = some (o ++ c)
  | [], _, j, _, hj => by simp at hj
  | x :: cs, out, j, hg, hj => by
    cases x <;> simp only [gath] at hg <;> try (cases hg; done)
    rename_i i m
    split at hg
    · rename_i m' c hi
      split at hg
      · rename_i hc
        obtain ⟨rfl, h1, h2, h3⟩ := hc
        simp only [Option.map_eq_some_iff] at hg
        obtain ⟨o', ho', rfl⟩ := hg
        cases j with
        | zero => exact ⟨i, m', c, [], rfl, hi, h1, h2, h3, rfl, by simp [gath, hi, h1, h2, h3]⟩
        | succ j =>
          obtain ⟨i2, m2, c2, o2, a1, a2, a3, a4, a5, a6, a7⟩ := gath_step (j := j) ho' (by simpa using hj)
          refine ⟨i2, m2, c2, c ++ o2, by simpa using a1, a2, a3, a4, a5, ?_, ?_⟩
          · simp [gath, hi, h1, h2, a6]
            simpa using h3
          · simp [gath, hi, h1, h2, a7]
            simpa using h3
      · cases hg
    · cases hg
theorem gath_low {h : Hp} : ∀ {cs out : List C1}, gath h cs = some out → (out.all (C1.low h.length)) = true
  | [], out, hg => by
    simp only [gath, Option.some.injEq] at hg
    subst hg
    rfl
  | x :: cs, out, hg => by
    cases x <;> simp only [gath] at hg <;> try (cases hg; done)
    split at hg
    · split at hg
      · rename_i hc
        obtain ⟨_, _, _, h3⟩ := hc
        simp only [Option.map_eq_some_iff] at hg
        obtain ⟨o', ho', rfl⟩ := hg
        rw [List.all_append, h3, gath_low ho']
        rfl
      · cases hg
    · cases hg
theorem gath_len {h : Hp} : ∀ {cs out : List C1}, gath h cs = some out → ∃ k, out.length = k * 2 ∧ k ≤ 1000 * cs.length
  | [], out, hg => by
    simp only [gath, Option.some.injEq] at hg
    subst hg
    exact ⟨0, rfl, Nat.le_refl _⟩
  | x :: cs, out, hg => by
    cases x <;> simp only [gath] at hg <;> try (cases hg; done)
    split at hg
    · split at hg
      · rename_i hc
        obtain ⟨rfl, h1, h2, _⟩ := hc
        simp only [Option.map_eq_some_iff] at hg
        obtain ⟨o', ho', rfl⟩ := hg
        obtain ⟨k, hk1, hk2⟩ := gath_len ho'
        exact ⟨_ + k, by rw [List.length_append, h1, hk1, Nat.add_mul], by rw [List.length_cons]; omega⟩
      · cases hg
    · cases hg

def joinK (args : List AV) (h : Hp) : Option COut := match args with
  | [.v (.c (.msl id n))] => match h[id]? with
    | some (.tok n' 1 (some cs)) => if n' = n ∧ cs.length = n ∧ n ≤ 1000 ∧ LowH h then (gath h cs).map fun out => .ret (.v (.c (.msl h.length (out.length / 2)))) (h ++ [.tok (out.length / 2) 2 (some out)]) else none
    | _ => none
  | _ => none
theorem joinK_inv {args : List AV} {h : Hp} {o : COut} (hm : joinK args h = some o) : ∃ id n cs out, args = [.v (.c (.msl id n))] ∧ h[id]? = some (.tok n 1 (some cs)) ∧ cs.length = n ∧ n ≤ 1000 ∧ LowH h ∧ gath h cs = some out ∧ o = .ret (.v (.c (.msl h.length (out.length / 2)))) (h ++ [.tok (out.length / 2) 2 (some out)]) := by
  unfold joinK at hm
  split at hm
  · split at hm
    · rename_i id n _ n' cs hid
      split at hm
      · rename_i hc
        obtain ⟨rfl, h1, h2, h3⟩ := hc
        simp only [Option.map_eq_some_iff] at hm
        obtain ⟨out, ho, rfl⟩ := hm
        exact ⟨id, n', cs, out, rfl, hid, h1, h2, h3, ho, rfl⟩
      · cases hm
    · cases hm
  · cases hm

def ejoin_k : List AV → Hp → Option COut := joinK
theorem ejoin_kok : ImpC Tryd.prog Gt 48 ejoin_k := by
  intro args h out h0
  refine fok_of_awpSW (X := ctxN Tryd.prog Gt [] [] [] none (uL [63])) Tryd.func48 rfl rfl (by kernel_rfl) (by kernel_rfl) (kok_n AllOk.nil AllK.nil AllN.nil) ?_ ?_
  · obtain ⟨id, n, cs, out, rfl, _⟩ := joinK_inv h0
    exact Nat.le_of_ble_eq_true rfl
  obtain ⟨id, n, cs, out, rfl, hid, hcl, hn, hh, hg, rfl⟩ := joinK_inv h0
  have hidl := lt_of_get hid
  have hrow : ∀ r : Hp, (h ++ r)[id]? = some (.tok n 1 (some cs)) := fun r => get_ext hid
  have hc := Nat.zero_add 0
  repeat' (first | simp only [hc, AS, Tryd.f48, NX, NPV, SX, HX, hid, AB, PL, RG, LP, TY, simprocAttr, ↓reduceIte, forall_const, eq_self, ne_eq, Option.some.injEq, beq_self_eq_true] | ((first | apply fin_ndec | apply fin_dec | apply cnd_ndec | apply cnd_dec' | apply fin_nsplit | apply fin_split | apply cnd_nsplit | apply cnd_split) <;> intro hc) | refine seqS_id ?_ | refine blk_exit_id ?_)
  refine awpS_loop (σ := Nat × List C1) (fun p => p.1 ≤ n ∧ gath h (cs.take p.1) = some p.2) (fun p => ⟨[(8, AV.i p.1), (7, AV.i n), (6, .v (.c (.msl id n))), (3, .v (.c (.msl h.length (p.2.length / 2))))], h ++ [.tok (p.2.length / 2) 2 (some p.2)]⟩) (fun p => n - p.1) (0, []) ((Wk.msl 3 2 (by decide) (by simp [look])).trans (Wk.sub' (by simp [subT, look]) rfl)) ⟨Nat.zero_le _, rfl⟩ ?_
  rintro ⟨j, O⟩ ⟨hj, hO⟩
  dsimp only at hj hO ⊢
  by_cases hjl : j < n
  · have hlt : ((j : Int) < (n : Int)) = True := eq_true (by omega)
    have hw := wI (n := (j : Int) + 1) (by omega) (by omega)
    obtain ⟨i, m, c, o, a1, a2, a3, a4, a5, a6, a7⟩ := gath_step hg (by omega : j < cs.length)
    rw [a6] at hO
    cases hO
    have hrow2 : ∀ r : Hp, (h ++ r)[i]? = some (.tok m 2 (some c)) := fun r => get_ext a2
    obtain ⟨k, hk1, hk2⟩ := gath_len a6
    rw [List.length_take, Nat.min_eq_left (by omega)] at hk2
    have hk : O.length / 2 = k := by omega
    have hk3 : (O ++ c).length / 2 = k + m := by rw [List.length_append]; omega
    have hol := gath_low a7
    rw [hk]
    have hb1 : ((k + m) * 16 ≤ 140737488355328) = True := eq_true (by omega)
    have hb2 : (k + m ≤ 4611686018427387904) = True := eq_true (by omega)
    have hc := Nat.zero_add 0
    repeat' (first | simp only [hc, AS, NX, NPV, SX, HX, hlt, nn, hw, hrow, hrow2, a1, a3, hb1, hb2, Int.toNat_natCast, Nat.mul_one, AB, PL, RG, LP, TY, simprocAttr, ↓reduceIte, forall_const, eq_self, ne_eq, Option.some.injEq, beq_self_eq_true] | ((first | apply fin_ndec | apply fin_dec | apply cnd_ndec | apply cnd_dec' | apply fin_nsplit | apply fin_split | apply cnd_nsplit | apply cnd_split) <;> intro hc) | refine seqS_id ?_ | refine blk_exit_id ?_)
    refine lp_next (j + 1, O ++ c) ?_ ⟨by dsimp only; omega, a7⟩ (by dsimp only; omega)
    dsimp only
    rw [hk3]
    exact Wk.sub' (by simp [subT, look]) rfl
  · have hlt : ((j : Int) < (n : Int)) = False := eq_false (by omega)
    have hc := Nat.zero_add 0
    repeat' (first | simp only [hc, AS, NX, NPV, SX, HX, hlt, AB, PL, RG, LP, TY, simprocAttr, ↓reduceIte, forall_const, eq_self, ne_eq, Option.some.injEq, beq_self_eq_true] | ((first | apply fin_ndec | apply fin_dec | apply cnd_ndec | apply cnd_dec' | apply fin_nsplit | apply fin_split | apply cnd_nsplit | apply cnd_split) <;> intro hc) | refine seqS_id ?_ | refine blk_exit_id ?_)
    have : j = n := by omega
    subst this
    rw [List.take_of_length_le (by omega), hg] at hO
    cases hO
    exact ⟨_, Wk.refl, [.c (.msl h.length (out.length / 2))], by simp [resAllV, resOneV, S.get, look, AV.one], by simp [resVV]⟩

end
end Go.Ab

/-
  event.fields.
-/
namespace Go.Ab
open Go.RowKit Go.Proofs

/-- A field of the event that lies in object id. -/
def frow (id : Nat) (p : Fld) : List C1 := if p.1 = true then [.nilp, .ptr id p.2] else [.ptr id p.2, .nilp]
def frows (id : Nat) (l : List Fld) : List C1 := l.flatMap (frow id)

noncomputable section
open Classical

theorem cs_msl {i n : Nat} : AV.cs (.v (.c (.msl i n))) = some [.msl i n] := rfl
theorem enums_at {ps : List (Nat × Nat)} {h : Hp} (h1 : ps.length ≤ 1000) (h2 : ∀ p ∈ ps, p.1 < h.length) (h3 : LowH h) : enums_k [.v (.c (.psl ps))] h = some (.ret (.v (.c (.msl h.length ps.length))) (h ++ [.tok ps.length 2 (some (ps.flatMap numRow))])) :=
  if_pos ⟨h1, by rw [List.all_eq_true]; exact fun p hp => decide_eq_true (h2 p hp), h3⟩
theorem estrs_at {ps : List (Nat × Nat)} {h : Hp} (h1 : ps.length ≤ 1000) (h2 : ∀ p ∈ ps, p.1 < h.length) (h3 : LowH h) : estrs_k [.v (.c (.psl ps))] h = some (.ret (.v (.c (.msl h.length ps.length))) (h ++ [.tok ps.length 2 (some (ps.flatMap txtRow))])) :=
  if_pos ⟨h1, by rw [List.all_eq_true]; exact fun p hp => decide_eq_true (h2 p hp), h3⟩
theorem ejoin_at {id n : Nat} {h : Hp} {cs out : List C1} (h1 : h[id]? = some (.tok n 1 (some cs))) (h2 : cs.length = n) (h3 : n ≤ 1000) (h4 : LowH h) (h5 : gath h cs = some out) {k : Nat} (hk : out.length = k * 2) : ejoin_k [.v (.c (.msl id n))] h = some (.ret (.v (.c (.msl h.length k))) (h ++ [.tok k 2 (some out)])) := by
  have e : ejoin_k [.v (.c (.msl id n))] h = joinK [.v (.c (.msl id n))] h := rfl
  rw [e]
  simp only [joinK, h1]
  rw [if_pos ⟨trivial, h2, h3, h4⟩, h5, Option.map_some, hk, Nat.mul_div_cancel _ (by decide)]

def fldsK (args : List AV) (h : Hp) : Option COut := match args with
  | [.v (.c (.ptr id 0))] => match h[id]? with
    | some (.box (.d (.int .i64 k) :: cs)) => if cs.length = 15 ∧ LowH h ∧ NoB h then
        some (if kindB k = true then .ret (.tup [.c (.d (.str (wrdK k))), .c (.msl h.length (fldK k).length)]) (h ++ [.tok (fldK k).length 2 (some (frows id (fldK k)))]) else .ret (.tup [.c (.d (.str [])), .c (.d (.sl true []))]) h)
      else none
    | _ => none
  | _ => none
theorem fldsK_inv {args : List AV} {h : Hp} {out : COut} (hm : fldsK args h = some out) : ∃ id k cs, args = [.v (.c (.ptr id 0))] ∧ h[id]? = some (.box (.d (.int .i64 k) :: cs)) ∧ cs.length = 15 ∧ LowH h ∧ NoB h ∧
    out = if kindB k = true then .ret (.tup [.c (.d (.str (wrdK k))), .c (.msl h.length (fldK k).length)]) (h ++ [.tok (fldK k).length 2 (some (frows id (fldK k)))]) else .ret (.tup [.c (.d (.str [])), .c (.d (.sl true []))]) h := by
  unfold fldsK at hm
  split at hm
  · split at hm
    · rename_i id _ k cs hid
      split at hm
      · rename_i hc
        obtain ⟨h1, h2, h3⟩ := hc
        cases hm
        exact ⟨id, k, cs, rfl, hid, h1, h2, h3, rfl⟩
      · cases hm
    · cases hm
  · cases hm

def efields_k : List AV → Hp → Option COut := fldsK

set_option maxHeartbeats 1000000 in
theorem efields_kok : ImpC Tryd.prog Gt 25 efields_k := by
  intro args h out h0
  refine fok_of_awpSW (X := ctxN Tryd.prog Gt [] [(50, enums_k), (49, estrs_k), (48, ejoin_k)] [] none (uL [56])) Tryd.func25 rfl rfl (by kernel_rfl) (by kernel_rfl) (kok_n AllOk.nil (AllK.cons enums_kok (AllK.cons estrs_kok (AllK.cons ejoin_kok AllK.nil))) AllN.nil) ?_ ?_
  · obtain ⟨id, k, cs, rfl, _⟩ := fldsK_inv h0
    exact Nat.le_of_ble_eq_true rfl
  obtain ⟨id, k, cs, rfl, hid, hcl, hh, hb, rfl⟩ := fldsK_inv h0
  have hidl := lt_of_get hid
  have hx : ∀ n, (decide (id < h.length + n)) = true := fun n => decide_eq_true (by omega)
  have hx0 : (decide (id < h.length)) = true := decide_eq_true (by omega)
  by_cases hk : kindB k = true
  · rw [if_pos hk]
    rcases kind_cases hk with rfl | rfl | rfl | rfl | rfl
    · have f1 := estrs_at (ps := [(id, 1)]) (h := h) (by simp) (by simp; omega) hh
      have l1 : LowH (h ++ [.tok 1 2 (some [.nilp, .ptr id 1])]) := LowH.app hh (by simp [Ob.low, C1.low]; omega)
      have f2 := enums_at (ps := [(id, 2), (id, 3)]) (h := h ++ [.tok 1 2 (some [.nilp, .ptr id 1])]) (by simp) (by simp; omega) l1
      have l2 : LowH (h ++ [.tok 1 2 (some [.nilp, .ptr id 1]), .tok 2 2 (some [.ptr id 2, .nilp, .ptr id 3, .nilp])]) := LowH.app hh (by simp [Ob.low, C1.low]; omega)
      have f3 := estrs_at (ps := [(id, 4), (id, 5)]) (h := h ++ [.tok 1 2 (some [.nilp, .ptr id 1]), .tok 2 2 (some [.ptr id 2, .nilp, .ptr id 3, .nilp])]) (by simp) (by simp; omega) l2
      have l3 : LowH (h ++ [.tok 1 2 (some [.nilp, .ptr id 1]), .tok 2 2 (some [.ptr id 2, .nilp, .ptr id 3, .nilp]), .tok 2 2 (some [.nilp, .ptr id 4, .nilp, .ptr id 5])]) := LowH.app hh (by simp [Ob.low, C1.low]; omega)
      have f4 := enums_at (ps := [(id, 6), (id, 7)]) (h := h ++ [.tok 1 2 (some [.nilp, .ptr id 1]), .tok 2 2 (some [.ptr id 2, .nilp, .ptr id 3, .nilp]), .tok 2 2 (some [.nilp, .ptr id 4, .nilp, .ptr id 5])]) (by simp) (by simp; omega) l3
      have l4 : LowH (h ++ [.tok 1 2 (some [.nilp, .ptr id 1]), .tok 2 2 (some [.ptr id 2, .nilp, .ptr id 3, .nilp]), .tok 2 2 (some [.nilp, .ptr id 4, .nilp, .ptr id 5]), .tok 2 2 (some [.ptr id 6, .nilp, .ptr id 7, .nilp]), .tok 4 1 (some [.msl h.length 1, .msl (h.length + 1) 2, .msl (h.length + 2) 2, .msl (h.length + 3) 2])]) := LowH.app hh (by simp [Ob.low, C1.low]; omega)
      have f5 := ejoin_at (id := h.length + 4) (n := 4) (k := 7) (out := [.nilp, .ptr id 1, .ptr id 2, .nilp, .ptr id 3, .nilp, .nilp, .ptr id 4, .nilp, .ptr id 5, .ptr id 6, .nilp, .ptr id 7, .nilp]) ha4 rfl (by decide) l4 (by simp [gath, ha0, ha1, ha2, ha3, C1.low]; omega) rfl
      simp only [List.length_append, List.length_cons, List.length_nil, Nat.zero_add, List.append_assoc, List.cons_append, List.nil_append, List.flatMap_cons, List.flatMap_nil, numRow, txtRow, Nat.reduceAdd] at f1 f2 f3 f4 f5
      have hc := Nat.zero_add 0
      repeat' (first | simp only [hc, AS, Tryd.f25, NX, NPV, SX, HX, hid, cs_msl, f1, f2, f3, f4, f5, AB, PL, RG, LP, TY, simprocAttr, ↓reduceIte, forall_const, eq_self, ne_eq, Option.some.injEq, beq_self_eq_true] | ((first | apply fin_ndec | apply fin_dec | apply cnd_ndec | apply cnd_dec' | apply fin_nsplit | apply fin_split | apply cnd_nsplit | apply cnd_split) <;> intro hc) | refine seqS_id ?_ | refine blk_exit_id ?_)
      exact ⟨_, Wk.moveE (h := h) (g := [.tok 1 2 (some [.nilp, .ptr id 1]), .tok 2 2 (some [.ptr id 2, .nilp, .ptr id 3, .nilp]), .tok 2 2 (some [.nilp, .ptr id 4, .nilp, .ptr id 5]), .tok 2 2 (some [.ptr id 6, .nilp, .ptr id 7, .nilp]), .tok 4 1 (some [.msl h.length 1, .msl (h.length + 1) 2, .msl (h.length + 2) 2, .msl (h.length + 3) 2])]) 3 rfl (Nat.le_refl _) (by simp [look]) (ts := [(2, .v (.c (.d (.str (wrdK 1)))))]) (by simp [subT, look, wrdK]) rfl hh hb (by simp [C1.low]; omega), [.c (.d (.str (wrdK 1))), .c (.msl h.length 7)], by simp [resAllV, resOneV, S.get, look, AV.one], by simp [resVV, fldK, frows, frow]⟩
    · have f1 := enums_at (ps := [(id, 8)]) (h := h) (by simp) (by simp; omega) hh
      have l1 : LowH (h ++ [.tok 1 2 (some [.ptr id 8, .nilp])]) := LowH.app hh (by simp [Ob.low, C1.low]; omega)
      have f2 := estrs_at (ps := [(id, 9), (id, 10)]) (h := h ++ [.tok 1 2 (some [.ptr id 8, .nilp])]) (by simp) (by simp; omega) l1
      have l2 : LowH (h ++ [.tok 1 2 (some [.ptr id 8, .nilp]), .tok 2 2 (some [.nilp, .ptr id 9, .nilp, .ptr id 10])]) := LowH.app hh (by simp [Ob.low, C1.low]; omega)
      have f3 := enums_at (ps := [(id, 11), (id, 12)]) (h := h ++ [.tok 1 2 (some [.ptr id 8, .nilp]), .tok 2 2 (some [.nilp, .ptr id 9, .nilp, .ptr id 10])]) (by simp) (by simp; omega) l2
      have l3 : LowH (h ++ [.tok 1 2 (some [.ptr id 8, .nilp]), .tok 2 2 (some [.nilp, .ptr id 9, .nilp, .ptr id 10]), .tok 2 2 (some [.ptr id 11, .nilp, .ptr id 12, .nilp]), .tok 3 1 (some [.msl h.length 1, .msl (h.length + 1) 2, .msl (h.length + 2) 2])]) := LowH.app hh (by simp [Ob.low, C1.low]; omega)
      have f4 := ejoin_at (id := h.length + 3) (n := 3) (k := 5) (out := [.ptr id 8, .nilp, .nilp, .ptr id 9, .nilp, .ptr id 10, .ptr id 11, .nilp, .ptr id 12, .nilp]) ha3 rfl (by decide) l3 (by simp [gath, ha0, ha1, ha2, C1.low]; omega) rfl
      simp only [List.length_append, List.length_cons, List.length_nil, Nat.zero_add, List.append_assoc, List.cons_append, List.nil_append, List.flatMap_cons, List.flatMap_nil, numRow, txtRow, Nat.reduceAdd] at f1 f2 f3 f4
      have hc := Nat.zero_add 0
      repeat' (first | simp only [hc, AS, Tryd.f25, NX, NPV, SX, HX, hid, cs_msl, f1, f2, f3, f4, AB, PL, RG, LP, TY, simprocAttr, ↓reduceIte, forall_const, eq_self, ne_eq, Option.some.injEq, beq_self_eq_true] | ((first | apply fin_ndec | apply fin_dec | apply cnd_ndec | apply cnd_dec' | apply fin_nsplit | apply fin_split | apply cnd_nsplit | apply cnd_split) <;> intro hc) | refine seqS_id ?_ | refine blk_exit_id ?_)
      exact ⟨_, Wk.moveE (h := h) (g := [.tok 1 2 (some [.ptr id 8, .nilp]), .tok 2 2 (some [.nilp, .ptr id 9, .nilp, .ptr id 10]), .tok 2 2 (some [.ptr id 11, .nilp, .ptr id 12, .nilp]), .tok 3 1 (some [.msl h.length 1, .msl (h.length + 1) 2, .msl (h.length + 2) 2])]) 3 rfl (Nat.le_refl _) (by simp [look]) (ts := [(2, .v (.c (.d (.str (wrdK 2)))))]) (by simp [subT, look, wrdK]) rfl hh hb (by simp [C1.low]; omega), [.c (.d (.str (wrdK 2))), .c (.msl h.length 5)], by simp [resAllV, resOneV, S.get, look, AV.one], by simp [resVV, fldK, frows, frow]⟩
    · have f1 := enums_at (ps := [(id, 13)]) (h := h) (by simp) (by simp; omega) hh
      simp only [List.length_cons, List.length_nil, Nat.zero_add, List.flatMap_cons, List.flatMap_nil, numRow, List.cons_append, List.nil_append] at f1
      have hc := Nat.zero_add 0
      repeat' (first | simp only [hc, AS, Tryd.f25, NX, NPV, SX, HX, hid, cs_msl, f1, AB, PL, RG, LP, TY, simprocAttr, ↓reduceIte, forall_const, eq_self, ne_eq, Option.some.injEq, beq_self_eq_true] | ((first | apply fin_ndec | apply fin_dec | apply cnd_ndec | apply cnd_dec' | apply fin_nsplit | apply fin_split | apply cnd_nsplit | apply cnd_split) <;> intro hc) | refine seqS_id ?_ | refine blk_exit_id ?_)
      exact ⟨_, Wk.refl, [.c (.d (.str (wrdK 3))), .c (.msl h.length 1)], by simp [resAllV, resOneV, S.get, look, AV.one, wrdK], by simp [resVV, fldK, frows, frow]⟩
    · have f1 := estrs_at (ps := [(id, 14)]) (h := h) (by simp) (by simp; omega) hh
      have l1 : LowH (h ++ [.tok 1 2 (some [.nilp, .ptr id 14])]) := LowH.app hh (by simp [Ob.low, C1.low]; omega)
      have f2 := enums_at (ps := [(id, 15)]) (h := h ++ [.tok 1 2 (some [.nilp, .ptr id 14])]) (by simp) (by simp; omega) l1
      have l2 : LowH (h ++ [.tok 1 2 (some [.nilp, .ptr id 14]), .tok 1 2 (some [.ptr id 15, .nilp]), .tok 2 1 (some [.msl h.length 1, .msl (h.length + 1) 1])]) := LowH.app hh (by simp [Ob.low, C1.low]; omega)
      have f3 := ejoin_at (id := h.length + 2) (n := 2) (k := 2) (out := [.nilp, .ptr id 14, .ptr id 15, .nilp]) ha2 rfl (by decide) l2 (by simp [gath, ha0, ha1, C1.low]; omega) rfl
      simp only [List.length_append, List.length_cons, List.length_nil, Nat.zero_add, List.append_assoc, List.cons_append, List.nil_append, List.flatMap_cons, List.flatMap_nil, numRow, txtRow, Nat.reduceAdd] at f1 f2 f3
      have hc := Nat.zero_add 0
      repeat' (first | simp only [hc, AS, Tryd.f25, NX, NPV, SX, HX, hid, cs_msl, f1, f2, f3, AB, PL, RG, LP, TY, simprocAttr, ↓reduceIte, forall_const, eq_self, ne_eq, Option.some.injEq, beq_self_eq_true] | ((first | apply fin_ndec | apply fin_dec | apply cnd_ndec | apply cnd_dec' | apply fin_nsplit | apply fin_split | apply cnd_nsplit | apply cnd_split) <;> intro hc) | refine seqS_id ?_ | refine blk_exit_id ?_)
      exact ⟨_, Wk.moveE (h := h) (g := [.tok 1 2 (some [.nilp, .ptr id 14]), .tok 1 2 (some [.ptr id 15, .nilp]), .tok 2 1 (some [.msl h.length 1, .msl (h.length + 1) 1])]) 3 rfl (Nat.le_refl _) (by simp [look]) (ts := [(2, .v (.c (.d (.str (wrdK 4)))))]) (by simp [subT, look, wrdK]) rfl hh hb (by simp [C1.low]; omega), [.c (.d (.str (wrdK 4))), .c (.msl h.length 2)], by simp [resAllV, resOneV, S.get, look, AV.one], by simp [resVV, fldK, frows, frow]⟩
    · have f1 := enums_at (ps := [(id, 13)]) (h := h) (by simp) (by simp; omega) hh
      simp only [List.length_cons, List.length_nil, Nat.zero_add, List.flatMap_cons, List.flatMap_nil, numRow, List.cons_append, List.nil_append] at f1
      have hc := Nat.zero_add 0
      repeat' (first | simp only [hc, AS, Tryd.f25, NX, NPV, SX, HX, hid, cs_msl, f1, AB, PL, RG, LP, TY, simprocAttr, ↓reduceIte, forall_const, eq_self, ne_eq, Option.some.injEq, beq_self_eq_true] | ((first | apply fin_ndec | apply fin_dec | apply cnd_ndec | apply cnd_dec' | apply fin_nsplit | apply fin_split | apply cnd_nsplit | apply cnd_split) <;> intro hc) | refine seqS_id ?_ | refine blk_exit_id ?_)
      exact ⟨_, Wk.refl, [.c (.d (.str (wrdK 5))), .c (.msl h.length 1)], by simp [resAllV, resOneV, S.get, look, AV.one, wrdK], by simp [resVV, fldK, frows, frow]⟩
  · rw [if_neg hk]
    have k1 : (k = 1) = False := eq_false fun e => hk (by subst e; rfl)
    have k2 : (k = 2) = False := eq_false fun e => hk (by subst e; rfl)
    have k3 : (k = 3) = False := eq_false fun e => hk (by subst e; rfl)
    have k4 : (k = 4) = False := eq_false fun e => hk (by subst e; rfl)
    have k5 : (k = 5) = False := eq_false fun e => hk (by subst e; rfl)
    have hc := Nat.zero_add 0
    repeat' (first | simp only [hc, AS, Tryd.f25, NX, NPV, SX, HX, hid, k1, k2, k3, k4, k5, AB, PL, RG, LP, TY, simprocAttr, ↓reduceIte, forall_const, eq_self, ne_eq, Option.some.injEq, beq_self_eq_true] | ((first | apply fin_ndec | apply fin_dec | apply cnd_ndec | apply cnd_dec' | apply fin_nsplit | apply fin_split | apply cnd_nsplit | apply cnd_split) <;> intro hc) | refine seqS_id ?_ | refine blk_exit_id ?_)
    exact ⟨_, Wk.refl, [.c (.d (.str [])), .c (.d (.sl true []))], by simp [resAllV, resOneV, S.get, look, AV.one], by simp [resVV]⟩

end
end Go.Ab
