/-
  Texts of the layer and of the laws, put together: AbU22. No law is stated here.
-/
import Derived.Test.YtckjmdppjealdaaGreatDoorAbVol43
set_option linter.unusedSimpArgs false
set_option linter.unusedVariables false
set_option maxRecDepth 100000

/-
  Sessions, the reference's reading: copied.
-/
namespace Go.Ab
open Go.RowKit Go.Proofs

/-- A session's copy, whose variable lies at k; what was seen of it behind that. -/
def rcp1 (k : Nat) (s : Ses) : SesO := if s.seen = [] then ({ s with sf := true }, none) else ({ s with sf := false }, some (k + 1))
def rcpo (k : Nat) (s : Ses) : Hp := if s.seen = [] then [.box (scC (rcp1 k s)), .tok 1 7 (some (scC (rcp1 k s)))] else [.box (scC (rcp1 k s)), .tok s.seen.length 1 none, .tok 1 7 (some (scC (rcp1 k s)))]
def rcpT : Nat → List Ses → Hp
  | _, [] => []
  | k, s :: r => rcpo k s ++ rcpT (k + (rcpo k s).length) r
def rcpL : Nat → List Ses → List SesO
  | _, [] => []
  | k, s :: r => rcp1 k s :: rcpL (k + (rcpo k s).length) r
theorem rcpL_len : ∀ (k : Nat) (l : List Ses), (rcpL k l).length = l.length
  | _, [] => rfl
  | k, s :: r => by rw [rcpL, List.length_cons, List.length_cons, rcpL_len]
theorem rcpT_snoc : ∀ {k : Nat} {l : List Ses} {s : Ses}, rcpT k (l ++ [s]) = rcpT k l ++ rcpo (k + (rcpT k l).length) s
  | k, [], s => by simp [rcpT]
  | k, x :: l, s => by
    rw [List.cons_append, rcpT, rcpT_snoc, rcpT, List.append_assoc, List.length_append, Nat.add_assoc]
theorem rcpL_snoc : ∀ {k : Nat} {l : List Ses} {s : Ses}, rcpL k (l ++ [s]) = rcpL k l ++ [rcp1 (k + (rcpT k l).length) s]
  | k, [], s => by simp [rcpL, rcpT]
  | k, x :: l, s => by
    rw [List.cons_append, rcpL, rcpL_snoc, rcpL, List.cons_append, rcpT, List.length_append, Nat.add_assoc]
theorem rcp1_ss {k : Nat} {s : Ses} : (rcp1 k s).1 = cpS s := by
  obtain ⟨a, b, c, d, e, f, g, sn⟩ := s
  unfold rcp1 cpS
  cases sn <;> simp
theorem rcpL_ss : ∀ {k : Nat} {l : List Ses}, ssOf (rcpL k l) = l.map cpS
  | _, [] => rfl
  | k, s :: r => by
    show (rcp1 k s).1 :: ssOf (rcpL _ r) = cpS s :: r.map cpS
    rw [rcp1_ss, rcpL_ss]
theorem rcpo_pos {k : Nat} {s : Ses} : 2 ≤ (rcpo k s).length := by unfold rcpo; split <;> simp
theorem rcpL_own : ∀ {k : Nat} {l : List Ses} {j : Nat} {s : Ses} {i : Nat}, (rcpL k l)[j]? = some (s, some i) → k < i ∧ s.sf = false ∧ (rcpT k l)[i - k]? = some (.tok s.seen.length 1 none)
  | k, [], j, s, i, h => by simp [rcpL] at h
  | k, x :: r, 0, s, i, h => by
    rw [rcpL, List.getElem?_cons_zero] at h
    unfold rcp1 at h
    split at h
    · cases h
    · rename_i hx
      cases h
      refine ⟨by omega, rfl, ?_⟩
      rw [show k + 1 - k = 1 by omega, rcpT, rcpo, if_neg hx]
      rfl
  | k, x :: r, j + 1, s, i, h => by
    rw [rcpL, List.getElem?_cons_succ] at h
    obtain ⟨h1, h2, h3⟩ := rcpL_own h
    refine ⟨by omega, h2, ?_⟩
    rw [rcpT, List.getElem?_append_right (by omega), show i - k - (rcpo k x).length = i - (k + (rcpo k x).length) by omega]
    exact h3
theorem rcpL_one : ∀ {k : Nat} {l : List Ses} {j q : Nat} {s r : Ses} {i : Nat}, (rcpL k l)[j]? = some (s, some i) → (rcpL k l)[q]? = some (r, some i) → j = q
  | k, [], j, _, _, _, _, h, _ => by simp [rcpL] at h
  | k, x :: l, 0, 0, _, _, _, _, _ => rfl
  | k, x :: l, 0, q + 1, s, r, i, h, g => by
    rw [rcpL, List.getElem?_cons_zero] at h
    rw [rcpL, List.getElem?_cons_succ] at g
    have h1 := (rcpL_own g).1
    have h2 := @rcpo_pos k x
    unfold rcp1 at h
    split at h
    · cases h
    · cases h
      omega
  | k, x :: l, j + 1, 0, s, r, i, g, h => by
    rw [rcpL, List.getElem?_cons_zero] at h
    rw [rcpL, List.getElem?_cons_succ] at g
    have h1 := (rcpL_own g).1
    have h2 := @rcpo_pos k x
    unfold rcp1 at h
    split at h
    · cases h
    · cases h
      omega
  | k, x :: l, j + 1, q + 1, s, r, i, h, g => by
    rw [rcpL, List.getElem?_cons_succ] at h g
    rw [rcpL_one h g]
theorem rcpL_non : ∀ {k : Nat} {l : List Ses} {j : Nat} {s : Ses}, (rcpL k l)[j]? = some (s, none) → s.sf = true ∧ s.seen = []
  | k, [], j, s, h => by simp [rcpL] at h
  | k, x :: r, 0, s, h => by
    rw [rcpL, List.getElem?_cons_zero] at h
    unfold rcp1 at h
    split at h
    · rename_i hx
      cases h
      exact ⟨rfl, hx⟩
    · cases h
  | k, x :: r, j + 1, s, h => by
    rw [rcpL, List.getElem?_cons_succ] at h
    exact rcpL_non h
/-- The heap behind copied. -/
abbrev rcpH (h : Hp) (l : List Ses) : Hp := h ++ .tok l.length 7 (some (sc (rcpL (h.length + 1) l))) :: rcpT (h.length + 1) l
theorem rcpL_live {h : Hp} {l : List Ses} : LiveS (rcpH h l) h.length (rcpL (h.length + 1) l) := by
  refine ⟨by rw [rcpL_len]; exact ha0, fun k s hk => rcpL_non hk, fun k s i hk => ?_, fun k j s r i hk hj => rcpL_one hk hj⟩
  obtain ⟨h1, h2, h3⟩ := rcpL_own hk
  refine ⟨h2, ?_⟩
  rw [List.getElem?_append_right (by omega), show i - h.length = (i - (h.length + 1)) + 1 by omega, List.getElem?_cons_succ]
  exact h3
theorem rcpo_low {k : Nat} {s : Ses} : ((rcpo k s).all (Ob.low (k + (rcpo k s).length))) = true := by
  unfold rcpo rcp1
  split <;> simp [Ob.low, scC, seenC, C1.low]
theorem rcpT_low : ∀ (k : Nat) (l : List Ses), ((rcpT k l).all (Ob.low (k + (rcpT k l).length))) = true
  | k, [] => rfl
  | k, s :: r => by
    rw [rcpT, List.all_append, Bool.and_eq_true]
    constructor
    · rw [List.all_eq_true]
      intro x hx
      exact Ob.low_mono (by simp) (List.all_eq_true.1 (rcpo_low (k := k) (s := s)) x hx)
    · have := rcpT_low (k + (rcpo k s).length) r
      rw [List.length_append, ← Nat.add_assoc]
      exact this
theorem rcpL_low {h : Hp} {l : List Ses} (hh : LowH h) : LowH (rcpH h l) := by
  have hl := (rcpL_live (h := h) (l := l)).lowC
  unfold LowH
  rw [List.all_eq_true]
  intro x hx
  rcases List.mem_append.1 hx with hx | hx
  · exact Ob.low_mono (by simp) (List.all_eq_true.1 hh x hx)
  · rcases List.mem_cons.1 hx with rfl | hx
    · exact hl
    · exact Ob.low_mono (by simp; omega) (List.all_eq_true.1 (rcpT_low (h.length + 1) l) x hx)

noncomputable section
open Classical

def rcopied_k : List AV → Hp → Option COut := kR cpRl fun a => if a.l.length ≤ 1000000000 ∧ ∀ s ∈ a.l, s.seen.length ≤ 1000000000 then some (.ret (.v (.c (.msl a.h.length a.l.length))) (rcpH a.h a.l)) else none

set_option maxHeartbeats 2000000 in
theorem rcopied_kok : ImpC Tryz.prog Gt 37 rcopied_k := by
  intro args h out h0
  refine fok_of_awpSW (X := ctxN Tryz.prog Gt [] [] [] none (uL [60])) Tryz.func37 rfl rfl (by kernel_rfl) (by kernel_rfl) (kok_n AllOk.nil AllK.nil AllN.nil) ?_ ?_
  · obtain ⟨a, ⟨rfl, _⟩, _⟩ := kR_inv h0
    exact Nat.le_of_ble_eq_true rfl
  obtain ⟨⟨h', f, l⟩, ⟨rfl, rfl⟩, hg⟩ := kR_inv h0
  dsimp only at hg ⊢
  split at hg
  · rename_i hc
    obtain ⟨hlen, hsn⟩ := hc
    cases hg
    have l1 := @lenSs l
    have hc := Nat.zero_add 0
    repeat' (first | simp only [hc, AS, Tryz.f37, NX, NPV, SX, HX, l1, AB, PL, RG, LP, TY, simprocAttr, ↓reduceIte, forall_const, eq_self, ne_eq, Option.some.injEq, beq_self_eq_true] | ((first | apply fin_ndec | apply fin_dec | apply cnd_ndec | apply cnd_dec' | apply fin_nsplit | apply fin_split | apply cnd_nsplit | apply cnd_split) <;> intro hc) | refine seqS_id ?_ | refine blk_exit_id ?_)
    refine awpS_loop (σ := Nat) (fun j => j ≤ l.length) (fun j => ⟨[(4, AV.i j), (3, .v (.c (.msl h.length j))), (0, AV.d (.sl f (l.map Ses.row)))], h ++ .tok j 7 (some (sc (rcpL (h.length + 1) (l.take j)))) :: rcpT (h.length + 1) (l.take j)⟩) (fun j => l.length - j) 0 ((Wk.msl 3 7 (by decide) (by simp [look])).trans (Wk.sub' (by simp [subT, look]) (by simp [rcpL, rcpT, sc_nil]))) (Nat.zero_le _) ?_
    intro j hj
    by_cases hjl : j < l.length
    · have hlt : ((j : Int) < (l.length : Int)) = True := eq_true (by omega)
      have hw := wI (n := (j : Int) + 1) (by omega) (by omega)
      have hll : (rcpL (h.length + 1) (l.take j)).length = j := by rw [rcpL_len, List.length_take, Nat.min_eq_left (by omega)]
      have hnL : rcpL (h.length + 1) (l.take (j + 1)) = rcpL (h.length + 1) (l.take j) ++ [rcp1 (h.length + 1 + (rcpT (h.length + 1) (l.take j)).length) l[j]] := by rw [List.take_succ_eq_append_getElem hjl, rcpL_snoc]
      have hnT : rcpT (h.length + 1) (l.take (j + 1)) = rcpT (h.length + 1) (l.take j) ++ rcpo (h.length + 1 + (rcpT (h.length + 1) (l.take j)).length) l[j] := by rw [List.take_succ_eq_append_getElem hjl, rcpT_snoc]
      have hsl := hsn _ (List.getElem_mem hjl)
      have e1 := ss_at hjl
      generalize rcpL (h.length + 1) (l.take j) = L at *
      generalize rcpT (h.length + 1) (l.take j) = T at *
      have hHl : (h ++ .tok j 7 (some (sc L)) :: T).length = h.length + 1 + T.length := by simp; omega
      have hrow : ∀ r : Hp, ((h ++ .tok j 7 (some (sc L)) :: T) ++ r)[h.length]? = some (.tok j 7 (some (sc L))) := fun r => get_ext ha0
      have hset : ∀ (r : Hp) (o : Ob), ((h ++ .tok j 7 (some (sc L)) :: T) ++ r).set h.length o = (h ++ o :: T) ++ r := fun r o => by simp
      have hb1 : ((j + 1) * 96 ≤ 140737488355328) = True := eq_true (by omega)
      have hb2 : (j + 1 ≤ 4611686018427387904) = True := eq_true (by omega)
      generalize l[j] = s at *
      obtain ⟨id, zo, pl, fr, ti, st, sf, sn⟩ := s
      dsimp only at e1 hsl
      have hal : allLen 1 (sn.map rowI) := fun r hr => by obtain ⟨x, _, rfl⟩ := List.mem_map.1 hr; rfl
      have ap : ∀ h, apSl h 1 8 [] (sn.map rowI) = some (if sn = [] then .d (.sl true []) else .v (.c (.own h.length (sn.map rowI))), if sn = [] then h else h ++ [.tok sn.length 1 none]) := fun h => by
        rw [apSl_new hal (by simp; omega) (by simp; omega)]
        by_cases c0 : sn = [] <;> simp [c0]
      by_cases c0 : sn = []
      · subst c0
        simp only [rcp1, rcpo, if_true] at hnL hnT
        simp only [if_true, List.map_nil, List.length_nil] at ap
        generalize hH0 : h ++ .tok j 7 (some (sc L)) :: T = H at *
        have hc := Nat.zero_add 0
        repeat' (first | simp only [hc, AS, NX, NPV, SX, HX, l1, hlt, hw, nn, Int.toNat_natCast, e1, ap, hrow, hset, hb1, hb2, AB, PL, RG, LP, TY, simprocAttr, ↓reduceIte, forall_const, eq_self, ne_eq, Option.some.injEq, beq_self_eq_true] | ((first | apply fin_ndec | apply fin_dec | apply cnd_ndec | apply cnd_dec' | apply fin_nsplit | apply fin_split | apply cnd_nsplit | apply cnd_split) <;> intro hc) | refine seqS_id ?_ | refine blk_exit_id ?_)
        exact lp_next (j + 1) (Wk.sub' (by simp [subT, look]) (by rw [hnL, hnT]; simp [sc_append, sc_cons, sc_nil, scC, seenC])) (by omega) (by omega)
      · simp only [rcp1, rcpo, if_neg c0] at hnL hnT
        simp only [if_neg c0] at ap
        generalize hH0 : h ++ .tok j 7 (some (sc L)) :: T = H at *
        have hc := Nat.zero_add 0
        repeat' (first | simp only [hc, AS, NX, NPV, SX, HX, l1, hlt, hw, nn, Int.toNat_natCast, e1, ap, hrow, hset, hb1, hb2, AB, PL, RG, LP, TY, simprocAttr, ↓reduceIte, forall_const, eq_self, ne_eq, Option.some.injEq, beq_self_eq_true] | ((first | apply fin_ndec | apply fin_dec | apply cnd_ndec | apply cnd_dec' | apply fin_nsplit | apply fin_split | apply cnd_nsplit | apply cnd_split) <;> intro hc) | refine seqS_id ?_ | refine blk_exit_id ?_)
        exact lp_next (j + 1) (Wk.sub' (by simp [subT, look]) (by rw [hnL, hnT, hHl]; simp [sc_append, sc_cons, sc_nil, scC, seenC])) (by omega) (by omega)
    · have hlt : ((l.length : Int) < (l.length : Int)) = False := eq_false (by omega)
      have hje : j = l.length := by omega
      rw [List.take_of_length_le (by omega), hje]
      have hc := Nat.zero_add 0
      repeat' (first | simp only [hc, AS, NX, NPV, SX, HX, hlt, l1, AB, PL, RG, LP, TY, simprocAttr, ↓reduceIte, forall_const, eq_self, ne_eq, Option.some.injEq, beq_self_eq_true] | ((first | apply fin_ndec | apply fin_dec | apply cnd_ndec | apply cnd_dec' | apply fin_nsplit | apply fin_split | apply cnd_nsplit | apply cnd_split) <;> intro hc) | refine seqS_id ?_ | refine blk_exit_id ?_)
      exact ⟨_, Wk.refl, [.c (.msl h.length l.length)], by simp [resAllV, resOneV, S.get, look, AV.one], by simp [resVV]⟩
  · cases hg

end
end Go.Ab
