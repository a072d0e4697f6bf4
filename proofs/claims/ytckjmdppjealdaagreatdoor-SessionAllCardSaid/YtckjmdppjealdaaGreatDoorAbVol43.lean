/-
  Texts of the layer and of the laws, put together: AbU20, AbU21. No law is stated here.
-/
import Derived.Test.YtckjmdppjealdaaGreatDoorAbVol42
set_option linter.unusedSimpArgs false
set_option linter.unusedVariables false
set_option maxRecDepth 100000

/-
  Sessions, the reference's reading: the same up to the marks of room; the last one of a list as a loop finds it.
-/
namespace Go.Ab
open Go.RowKit Go.Proofs

def clF (s : Ses) : Ses := { s with sf := false }
theorem same_cl (s : Ses) : Ses.same s (clF s) = true := by simp [Ses.same, clF, sameL_refl intEq_refl]
theorem sameL_cl : ∀ l : List Ses, sameL Ses.same l (l.map clF) = true
  | [] => rfl
  | s :: l => by rw [List.map_cons, sameL, same_cl, sameL_cl l]; rfl
theorem lastI_map {α β : Type} {c : β → Bool} {f : α → β} : ∀ l : List α, lastI c (l.map f) = lastI (fun a => c (f a)) l
  | [] => rfl
  | x :: l => by rw [List.map_cons, lastI, lastI, lastI_map l]
theorem map_set_cl {l : List Ses} {i : Nat} {s : Ses} : (l.set i s).map clF = (l.map clF).set i (clF s) := List.map_set
theorem clF_clF (l : List Ses) : (l.map clF).map clF = l.map clF := by rw [List.map_map]; rfl
/-- What an event does to sessions does not look at the marks. -/
theorem applyF_cl (zs : List Zon) (l : List Ses) (p : Par) : (applyF zs (l.map clF) p).2 = (applyF zs l p).2 ∧ (applyF zs (l.map clF) p).1.map clF = (applyF zs l p).1.map clF := by
  have hl : ∀ z now, lastI (curB p z now) (l.map clF) = lastI (curB p z now) l := fun z now => lastI_map (c := curB p z now) (f := clF) l
  have hg : ∀ i, (l.map clF)[i]? = (l[i]?).map clF := fun i => by rw [List.getElem?_map]
  unfold applyF
  split
  · exact ⟨rfl, clF_clF l⟩
  · cases hz : findZ zs p.zone with
    | none => exact ⟨rfl, clF_clF l⟩
    | some z =>
      dsimp only
      split
      · rw [hl]
        cases lastI (curB p z true) l with
        | some i => exact ⟨rfl, clF_clF l⟩
        | none => exact ⟨rfl, by rw [List.map_append, List.map_append, clF_clF]⟩
      split
      · rw [hl]
        cases lastI (curB p z true) l with
        | none => exact ⟨rfl, clF_clF l⟩
        | some i =>
          dsimp only
          rw [hg]
          cases l[i]? with
          | none => exact ⟨rfl, clF_clF l⟩
          | some s =>
            dsimp only [Option.map_some, clF]
            split
            · exact ⟨rfl, clF_clF l⟩
            split
            · exact ⟨rfl, clF_clF l⟩
            · refine ⟨rfl, ?_⟩
              rw [map_set_cl, map_set_cl, clF_clF]
              rfl
      split
      · rw [hl]
        cases lastI (curB p z true) l with
        | none => exact ⟨rfl, clF_clF l⟩
        | some i =>
          dsimp only
          rw [hg]
          cases l[i]? with
          | none => exact ⟨rfl, clF_clF l⟩
          | some s =>
            refine ⟨rfl, ?_⟩
            dsimp only [Option.map_some]
            rw [map_set_cl, map_set_cl, clF_clF]
            rfl
      split
      · rw [hl]
        cases lastI (curB p z false) l with
        | none => exact ⟨rfl, clF_clF l⟩
        | some i =>
          dsimp only
          rw [hg]
          cases l[i]? with
          | none => exact ⟨rfl, clF_clF l⟩
          | some s =>
            refine ⟨rfl, ?_⟩
            dsimp only [Option.map_some]
            rw [map_set_cl, map_set_cl, clF_clF]
            congr 1
            unfold seeS
            rw [show overB z (clF s) p.time = overB z s p.time from rfl]
            split
            · rfl
            · by_cases hf : s.fr ≤ p.time
              · simp [clF, hf]
              · simp [clF, hf]
      · exact ⟨rfl, clF_clF l⟩
theorem applyF_err {zs : List Zon} {l : List Ses} {p : Par} (h : (applyF zs l p).2 ≠ 0) : (applyF zs l p).1 = l := by
  have he := applyF_eff zs l p
  generalize applyF zs l p = r at *
  obtain ⟨l', c⟩ := r
  cases he with
  | err e he => rfl
  | _ => exact absurd rfl h

/-- All the reference's steps. -/
def rstepX (zs : List Zon) (a : List Ses × List Exc) (p : Par) : List Ses × List Exc :=
  if (applyF zs (a.1.map cpS) p).2 = 0 then ((applyF zs (a.1.map cpS) p).1, a.2) else (a.1, a.2 ++ [⟨keyF p, if errP zs p ≠ 0 then 3 else 4⟩])
def rAll (zs : List Zon) (ps : List Par) : List Ses × List Exc := (sortR ps).foldl (rstepX zs) ([], [])
theorem cl_cp (l : List Ses) : (l.map cpS).map clF = l.map clF := by rw [List.map_map]; rfl
theorem rall_go (zs : List Zon) : ∀ (ps : List Par) (a b : List Ses) (x : List Exc), a.map clF = b.map clF → (ps.foldl (rstepX zs) (a, x)).1.map clF = (ps.foldl (stepX zs) (b, x)).1.map clF ∧ (ps.foldl (rstepX zs) (a, x)).2 = (ps.foldl (stepX zs) (b, x)).2
  | [], a, b, x, h => ⟨h, rfl⟩
  | p :: ps, a, b, x, h => by
    rw [List.foldl_cons, List.foldl_cons]
    have h1 := applyF_cl zs (a.map cpS) p
    have h2 := applyF_cl zs b p
    rw [cl_cp, h] at h1
    have e1 : (applyF zs (a.map cpS) p).2 = (applyF zs b p).2 := h1.1.symm.trans h2.1
    have e2 : (applyF zs (a.map cpS) p).1.map clF = (applyF zs b p).1.map clF := h1.2.symm.trans h2.2
    unfold rstepX stepX
    dsimp only
    rw [e1]
    by_cases hc : (applyF zs b p).2 = 0
    · rw [if_pos hc, if_pos hc]
      exact rall_go zs ps _ _ x e2
    · rw [if_neg hc, if_neg hc, applyF_err hc]
      exact rall_go zs ps a b _ h
theorem same_clF (a b : Ses) : Ses.same a b = Ses.same (clF a) (clF b) := rfl
theorem sameL_clF : ∀ l k : List Ses, sameL Ses.same l k = sameL Ses.same (l.map clF) (k.map clF)
  | [], [] => rfl
  | [], _ :: _ => rfl
  | _ :: _, [] => rfl
  | a :: l, b :: k => by rw [List.map_cons, List.map_cons, sameL, sameL, same_clF, sameL_clF l k]
theorem rall_same (zs : List Zon) (ps : List Par) : sameL Ses.same (allF zs ps).1 (rAll zs ps).1 = true ∧ (rAll zs ps).2 = (allF zs ps).2 := by
  obtain ⟨h1, h2⟩ := rall_go zs (sortR ps) [] [] [] rfl
  refine ⟨?_, h2⟩
  rw [sameL_clF]
  have h1 : (rAll zs ps).1.map clF = (allF zs ps).1.map clF := h1
  rw [h1]
  exact sameL_refl Ses.same_refl _
def atI : Option Nat → Int
  | none => -1
  | some i => i

end Go.Ab

/-
  Sessions, the reference's reading: a session of the event's, the current one.
-/
namespace Go.Ab
open Go.RowKit Go.Proofs

def encSP (p : Ses × Par) : List PA := [.agg p.1.row, .agg p.2.row]
theorem encSP_inj (a b : Ses × Par) (h : encSP a = encSP b) : a = b := by
  obtain ⟨a1, a2⟩ := a
  obtain ⟨b1, b2⟩ := b
  simp [encSP] at h
  simp [Ses.inj a1 b1 h.1, Par.inj a2 b2 h.2]
def encSPZ (p : (Bool × List Ses) × Par × Zon) : List PA := [.c (.sl p.1.1 (p.1.2.map Ses.row)), .agg p.2.1.row, .agg p.2.2.row]
theorem encSPZ_inj (a b : (Bool × List Ses) × Par × Zon) (h : encSPZ a = encSPZ b) : a = b := by
  obtain ⟨⟨a1, a2⟩, a3, a4⟩ := a
  obtain ⟨⟨b1, b2⟩, b3, b4⟩ := b
  simp [encSPZ, mapS_inj] at h
  simp [h.1, Par.inj a3 b3 h.2.1, Zon.inj a4 b4 h.2.2]
def mineB (s : Ses) (p : Par) : Bool := decide (s.zone = p.zone ∧ s.plate = p.plate ∧ s.state = 1)
theorem cur_mine (p : Par) (z : Zon) (s : Ses) : curB p z false s = mineB s p := by simp [curB, mineB]
theorem cur_now (p : Par) (z : Zon) (s : Ses) : curB p z true s = (mineB s p && (decide (s.fr ≤ p.time) && !overB z s p.time)) := by simp [curB, mineB]

noncomputable section
open Classical

def rmine_m : List PA → Option (List PA) := mE encSP fun q => some [.b (mineB q.1 q.2)]
def rcur_m : List PA → Option (List PA) := mE encSPZ fun q => if decide (q.1.2.length ≤ 1000000000) = true then some [.i (atI (lastI (curB q.2.1 q.2.2 true) q.1.2))] else none

theorem rmine_ok : PureC Tryz.prog Gt 75 rmine_m := by
  refine pure_of_awp (X := ctx Tryz.prog Gt []) Tryz.func75 rfl rfl (by kernel_rfl) (by kernel_rfl) AllOk.nil.kok ?_
  intro args r h0
  obtain ⟨⟨⟨id, zone, plate, fr, til, state, ef, seen⟩, ⟨k1, z1, p1, t1, u1⟩⟩, rfl, h⟩ := mE_inv h0
  refine ⟨Nat.le_of_ble_eq_true rfl, ?_⟩
  cases h
  simp only [mineB]
  by_cases c1 : zone = z1
  · have b1 : (zone == z1) = true := beq_iff_eq.2 c1
    by_cases c2 : plate = p1
    · have b2 : (plate == p1) = true := beq_iff_eq.2 c2
      by_cases c3 : state = 1
      · skip
        have hc := Nat.zero_add 0
        repeat' (first | simp only [hc, Tryz.f75, encSP, Ses.row, Par.row, SX, b1, b2, c3, AB, PL, RG, LP, TY, simprocAttr, ↓reduceIte, forall_const, eq_self, ne_eq, Option.some.injEq, beq_self_eq_true] | ((first | apply fin_ndec | apply fin_dec | apply cnd_ndec | apply cnd_dec' | apply fin_nsplit | apply fin_split | apply cnd_nsplit | apply cnd_split) <;> intro hc) | refine blk_exit_id ?_)
        all_goals simp [DV.b, c1, c2]
      · skip
        have hc := Nat.zero_add 0
        repeat' (first | simp only [hc, Tryz.f75, encSP, Ses.row, Par.row, SX, b1, b2, c3, AB, PL, RG, LP, TY, simprocAttr, ↓reduceIte, forall_const, eq_self, ne_eq, Option.some.injEq, beq_self_eq_true] | ((first | apply fin_ndec | apply fin_dec | apply cnd_ndec | apply cnd_dec' | apply fin_nsplit | apply fin_split | apply cnd_nsplit | apply cnd_split) <;> intro hc) | refine blk_exit_id ?_)
        all_goals simp [DV.b, c3]
    · have b2 : (plate == p1) = false := beq_eq_false_iff_ne.2 c2
      have hc := Nat.zero_add 0
      repeat' (first | simp only [hc, Tryz.f75, encSP, Ses.row, Par.row, SX, b1, b2, AB, PL, RG, LP, TY, simprocAttr, ↓reduceIte, forall_const, eq_self, ne_eq, Option.some.injEq, beq_self_eq_true] | ((first | apply fin_ndec | apply fin_dec | apply cnd_ndec | apply cnd_dec' | apply fin_nsplit | apply fin_split | apply cnd_nsplit | apply cnd_split) <;> intro hc) | refine blk_exit_id ?_)
      all_goals simp [DV.b, c2]
  · have b1 : (zone == z1) = false := beq_eq_false_iff_ne.2 c1
    have hc := Nat.zero_add 0
    repeat' (first | simp only [hc, Tryz.f75, encSP, Ses.row, Par.row, SX, b1, AB, PL, RG, LP, TY, simprocAttr, ↓reduceIte, forall_const, eq_self, ne_eq, Option.some.injEq, beq_self_eq_true] | ((first | apply fin_ndec | apply fin_dec | apply cnd_ndec | apply cnd_dec' | apply fin_nsplit | apply fin_split | apply cnd_nsplit | apply cnd_split) <;> intro hc) | refine blk_exit_id ?_)
    all_goals simp [DV.b, c1]
theorem rmine_at {s : Ses} {p : Par} : rmine_m [.agg s.row, .agg p.row] = some [.b (mineB s p)] := mE_eq encSP_inj (g := fun q => some [.b (mineB q.1 q.2)]) (a := (s, p))

theorem rcur_ok : PureC Tryz.prog Gt 36 rcur_m := by
  refine pure_of_awp (X := ctx Tryz.prog Gt [(75, rmine_m)]) Tryz.func36 rfl rfl (by kernel_rfl) (by kernel_rfl) (AllOk.cons rmine_ok AllOk.nil).kok ?_
  intro args r h0
  obtain ⟨⟨⟨f, l⟩, p, z⟩, rfl, h⟩ := mE_inv h0
  refine ⟨Nat.le_of_ble_eq_true rfl, ?_⟩
  split at h
  · rename_i hl
    have hl := of_decide_eq_true hl
    dsimp only at hl h
    cases h
    have l1 := @lenSs l
    have hcur := cur_now p z
    generalize hC : curB p z true = C at *
    obtain ⟨k1, z1, p1, t1, u1⟩ := p
    obtain ⟨zn, zhf, zhr, zsf, zst, zgr, zfr, zdm, zsy⟩ := z
    simp only [overB] at hcur
    generalize hW : IntKind.i64.wrap (t1 - zgr) = W at *
    have hc := Nat.zero_add 0
    repeat' (first | simp only [hc, Tryz.f36, encSPZ, Par.row, Zon.row, SX, l1, AB, PL, RG, LP, TY, simprocAttr, ↓reduceIte, forall_const, eq_self, ne_eq, Option.some.injEq, beq_self_eq_true] | ((first | apply fin_ndec | apply fin_dec | apply cnd_ndec | apply cnd_dec' | apply fin_nsplit | apply fin_split | apply cnd_nsplit | apply cnd_split) <;> intro hc) | refine blk_exit_id ?_)
    refine awp_loop (σ := Nat) (fun j => j ≤ l.length) (fun j => ⟨[(8, AV.i j), (7, AV.i (atI (lastI C (l.take j)))), (5, .v (.c (.ptr 1 0))), (4, .v (.c (.ptr 0 0))), (0, AV.d (.sl f (l.map Ses.row)))], [.box [.d (.int .i64 k1), .d (.str z1), .d (.str p1), .d (.int .i64 t1), .d (.int .i64 u1)], .box [.d (.str zn), .d (.sl zhf (zhr.map Win.row)), .d (.sl zsf (zst.map Stf.row)), .d (.int .i64 zgr), .d (.int .i64 zfr), .d (.int .i64 zdm), .d (.int .i64 zsy)]]⟩) (fun j => l.length - j) 0 (Wk.sub' (by simp [subT, look, lastI, atI]) rfl) (by simp) ?_
    intro j hj
    by_cases hjl : j < l.length
    · have hlt : ((j : Int) < (l.length : Int)) = True := eq_true (by omega)
      have hw := wI (n := (j : Int) + 1) (by omega) (by omega)
      have e1 := ss_at hjl
      have hnx := lastI_take (c := C) hjl
      have f1 := @rmine_at l[j] ⟨k1, z1, p1, t1, u1⟩
      have hcj := hcur l[j]
      generalize mineB l[j] ⟨k1, z1, p1, t1, u1⟩ = o at *
      generalize l[j] = s at *
      simp only [Ses.row, Par.row] at f1
      generalize lastI C (l.take j) = I at *
      cases o
      · rw [hcj, if_neg (by simp)] at hnx
        have hc := Nat.zero_add 0
        repeat' (first | simp only [hc, SX, l1, hlt, nn, e1, f1, hW, hw, AB, PL, RG, LP, TY, simprocAttr, ↓reduceIte, forall_const, eq_self, ne_eq, Option.some.injEq, beq_self_eq_true] | ((first | apply fin_ndec | apply fin_dec | apply cnd_ndec | apply cnd_dec' | apply fin_nsplit | apply fin_split | apply cnd_nsplit | apply cnd_split) <;> intro hc) | refine blk_exit_id ?_)
        exact lp_next (j + 1) (Wk.sub' (by simp [subT, look, hnx]) rfl) (by omega) (by omega)
      by_cases c2 : s.fr ≤ t1
      · by_cases c3 : W < s.til
        · have hov : decide (s.til ≤ W) = false := decide_eq_false (by omega)
          rw [hcj, if_pos (by simp [c2, hov])] at hnx
          have hc := Nat.zero_add 0
          repeat' (first | simp only [hc, SX, l1, hlt, nn, e1, f1, hW, hw, c2, c3, AB, PL, RG, LP, TY, simprocAttr, ↓reduceIte, forall_const, eq_self, ne_eq, Option.some.injEq, beq_self_eq_true] | ((first | apply fin_ndec | apply fin_dec | apply cnd_ndec | apply cnd_dec' | apply fin_nsplit | apply fin_split | apply cnd_nsplit | apply cnd_split) <;> intro hc) | refine blk_exit_id ?_)
          exact lp_next (j + 1) (Wk.sub' (by simp [subT, look, hnx, atI]) rfl) (by omega) (by omega)
        · have hov : decide (s.til ≤ W) = true := decide_eq_true (by omega)
          rw [hcj, if_neg (by simp [hov])] at hnx
          have hc := Nat.zero_add 0
          repeat' (first | simp only [hc, SX, l1, hlt, nn, e1, f1, hW, hw, c2, c3, AB, PL, RG, LP, TY, simprocAttr, ↓reduceIte, forall_const, eq_self, ne_eq, Option.some.injEq, beq_self_eq_true] | ((first | apply fin_ndec | apply fin_dec | apply cnd_ndec | apply cnd_dec' | apply fin_nsplit | apply fin_split | apply cnd_nsplit | apply cnd_split) <;> intro hc) | refine blk_exit_id ?_)
          exact lp_next (j + 1) (Wk.sub' (by simp [subT, look, hnx]) rfl) (by omega) (by omega)
      · rw [hcj, if_neg (by simp [c2])] at hnx
        have hc := Nat.zero_add 0
        repeat' (first | simp only [hc, SX, l1, hlt, nn, e1, f1, hW, hw, c2, AB, PL, RG, LP, TY, simprocAttr, ↓reduceIte, forall_const, eq_self, ne_eq, Option.some.injEq, beq_self_eq_true] | ((first | apply fin_ndec | apply fin_dec | apply cnd_ndec | apply cnd_dec' | apply fin_nsplit | apply fin_split | apply cnd_nsplit | apply cnd_split) <;> intro hc) | refine blk_exit_id ?_)
        exact lp_next (j + 1) (Wk.sub' (by simp [subT, look, hnx]) rfl) (by omega) (by omega)
    · have hlt : ((j : Int) < (l.length : Int)) = False := eq_false (by omega)
      rw [List.take_of_length_le (by omega)]
      have hc := Nat.zero_add 0
      repeat' (first | simp only [hc, SX, l1, hlt, AB, PL, RG, LP, TY, simprocAttr, ↓reduceIte, forall_const, eq_self, ne_eq, Option.some.injEq, beq_self_eq_true] | ((first | apply fin_ndec | apply fin_dec | apply cnd_ndec | apply cnd_dec' | apply fin_nsplit | apply fin_split | apply cnd_nsplit | apply cnd_split) <;> intro hc) | refine blk_exit_id ?_)
  · cases h
theorem rcur_at {f : Bool} {l : List Ses} {p : Par} {z : Zon} (h : l.length ≤ 1000000000) : rcur_m [.c (.sl f (l.map Ses.row)), .agg p.row, .agg z.row] = some [.i (atI (lastI (curB p z true) l))] := by
  have := mE_eq encSPZ_inj (g := fun q => if decide (q.1.2.length ≤ 1000000000) = true then some [DV.i (atI (lastI (curB q.2.1 q.2.2 true) q.1.2))] else none) (a := ((f, l), p, z))
  exact this.trans (if_pos (decide_eq_true h))

end
end Go.Ab
