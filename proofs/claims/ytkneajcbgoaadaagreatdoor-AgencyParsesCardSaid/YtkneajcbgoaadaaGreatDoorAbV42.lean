/-
  Texts of the layer and of the laws, put together: AbA34. No law is stated here.
-/
import Derived.Test.YtkneajcbgoaadaaGreatDoorAbV41
set_option linter.unusedSimpArgs false
set_option linter.unusedVariables false
set_option maxRecDepth 100000

/-
  Agencies' files: the reference's Parse.
-/
namespace Go.Ab
open Go.RowKit Go.Proofs

def prR (sh : Bool) (N : Nat) : Nat → Rdr → List (List UInt8) → Fil × Int × Int
  | _, x, [] => if x.fin = true then (x.fil, 0, 0) else (zFil, (N : Int) + 1, 7)
  | i, x, ln :: r => if r = [] ∧ sh = true then (zFil, (i : Int) + 1, 7) else if (nxF x i ln).err ≠ 0 then (zFil, (i : Int) + 1, (nxF x i ln).err) else prR sh N (i + 1) (nxS x (nxF x i ln)) r
def parseR (s : List UInt8) : Fil × Int × Int := if 65536 < s.length then (zFil, 0, 4) else prR (decide (s.getLast? ≠ some 10)) ((linesF s).1.getD []).length 0 rd0 ((linesF s).1.getD [])

theorem nxF_same {x : Rdr} {i e : Int} {s : List UInt8} (h : nxF x i s = .same e) : e ≠ 0 := by
  unfold nxF at h
  split at h
  · rename_i he
    cases h
    exact he
  · unfold nxL at h
    split at h
    · cases h; decide
    · split at h
      · cases h
      · split at h <;> cases h
theorem nxF_file {x : Rdr} {i e : Int} {s : List UInt8} {f : Fil} (h : nxF x i s = .file f e) : i = 0 ∧ f.recs = [] ∧ f.rf = true := by
  unfold nxF at h
  split at h
  · cases h
  · unfold nxL at h
    split at h
    · cases h
    · split at h
      · rename_i h0
        cases h
        exact ⟨h0, firR_nil _⟩
      · split at h <;> cases h
theorem midR_len2 {n : Int} {l : List (List UInt8)} (h : (midR n l).2 = 0) : n ≤ 1024 ∧ rightF (midR n l).1 = 0 := by
  have hC : ∀ x, (midC n x).2 = 0 → n ≤ 1024 ∧ rightF (midC n x).1 = 0 := fun x hx => by
    unfold midC at hx ⊢
    split at hx
    · cases hx
    · rename_i hn
      rw [if_neg hn]
      exact ⟨by omega, hx⟩
  unfold midR at h ⊢
  split at h
  · split at h
    · cases h
    · rename_i h1
      rw [if_neg h1]
      split at h
      · cases h
      · split at h
        · rename_i h2
          rw [if_pos h2]
          split at h
          · cases h
          · exact hC _ h
        · rename_i h2
          rw [if_neg h2]
          split at h
          · rename_i h3; exact absurd h h3
          · rename_i h3
            rw [if_neg h3]
            exact hC _ h
  · cases h
theorem nxF_rec {x : Rdr} {i : Int} {s : List UInt8} {r : Rec} (h : nxF x i s = .rcd r 0) : x.rs.length + 1 ≤ 1024 ∧ i ≠ 0 ∧ rightF r = 0 := by
  unfold nxF at h
  split at h
  · cases h
  · unfold nxL at h
    split at h
    · cases h
    · split at h
      · cases h
      · rename_i h0
        split at h
        · cases h
        · simp only [NxO.rcd.injEq] at h
          have := midR_len2 h.2
          rw [h.1] at this
          exact ⟨by omega, h0, this.2⟩

/-- Behind the first record the boxes in between are forgotten. -/
theorem wk_first {n : Nat} {t t' : List (Nat × AV)} {o0 o1 o2 o6 o7 : Ob} {c3 c4 c5 : List C1} {h' : Hp} (hn : n ≤ 7) (hs : subT t t') (ht : subT t' t') (hl : (t'.all fun p => p.2.low 7) = true)
    (h0 : o0.low 7 = true) (h1 : o1.low 7 = true) (h2 : o2.low 7 = true) (h6 : o6.low 7 = true) (hh : h' = [o0, o1, o2, .box (c3.map fun _ => .top), .box (c4.map fun _ => .top), .box (c5.map fun _ => .top), o6]) :
    Wk n ⟨t, [o0, o1, o2, .box c3, .box c4, .box c5, o6, o7]⟩ ⟨t', h'⟩ := by
  subst hh
  have htop : ∀ c : List C1, (c.map fun _ => C1.top).all (C1.low 7) = true := fun c => by
    rw [List.all_eq_true]
    intro x hx
    obtain ⟨_, _, rfl⟩ := List.mem_map.1 hx
    rfl
  refine Wk.trans (Wk.tops (id := 3) rfl hs rfl rfl) (Wk.trans (Wk.tops (id := 4) rfl ht rfl rfl) (Wk.trans (Wk.tops (id := 5) rfl ht rfl rfl) (Wk.cutk (k := 7) hn (by simp) (by simp) ht hl ?_)))
  simp only [List.all_cons, List.all_nil, h0, h1, h2, h6, Bool.and_true, Bool.true_and, show ∀ c : List C1, Ob.low 7 (.box (c.map fun _ => C1.top)) = true from htop]
/-- The same where the copy's box lies ahead of them. -/
theorem wk_first2 {n : Nat} {t t' : List (Nat × AV)} {o0 o1 o2 o7 : Ob} {c3 c4 c5 c6 : List C1} {h' : Hp} (hs : subT t t') (ht : subT t' t')
    (hh : h' = [o0, o1, o2, .box (c3.map fun _ => .top), .box (c4.map fun _ => .top), .box (c5.map fun _ => .top), .box (c6.map fun _ => .top), o7]) :
    Wk n ⟨t, [o0, o1, o2, .box c3, .box c4, .box c5, .box c6, o7]⟩ ⟨t', h'⟩ := by
  subst hh
  exact Wk.trans (Wk.tops (id := 3) rfl hs rfl rfl) (Wk.trans (Wk.tops (id := 4) rfl ht rfl rfl) (Wk.trans (Wk.tops (id := 5) rfl ht rfl rfl) (Wk.tops (id := 6) rfl ht rfl rfl)))
abbrev zP : List C1 := [.d (.str []), .d (.str []), .d (.int .i64 0), .d (.sl true []), .d (.bool false)]

noncomputable section
open Classical

theorem rnext_at {x : Rdr} {k : Nat} {i : Int} {s : List UInt8} {G : Hp} (h1 : x.rs.length ≤ 1024) (h2 : x.beg = false) (h3 : i = 0 → x.rs = []) (hk : k = 6 ∨ (k = 7 ∧ x.rs ≠ [])) (hG : okG G) :
    rnext_k [.v (.agg (pce x (rcX k x.rs))), AV.i i, AV.s s] (hq k x ++ G) = some (.ret (.tup [.agg (nxP k x G (nxF x i s)), .c (.d (.int .i64 (nxF x i s).err))]) (nxH k x G (nxF x i s))) := by
  have ha : nxR ⟨x, k, i, s, G⟩ [.v (.agg (pce x (rcX k x.rs))), AV.i i, AV.s s] (hq k x ++ G) := ⟨rfl, rfl, h2, hk, hG⟩
  rw [rnext_k, kR_eq (a := (⟨x, k, i, s, G⟩ : NxA)) (fun b hb => by rw [nxR_inj ha hb]) ha, if_pos (show _ ∧ _ from ⟨h1, h3⟩)]

def rparse_m : List PA → Option (List PA) := ms fun s => if decide (s.length ≤ 4294967280) = true then some [.agg (parseR s).1.row, .i (parseR s).2.1, .i (parseR s).2.2] else none

set_option maxHeartbeats 2000000 in
theorem rparse_ok : PureC Tryz.prog Gt 5 rparse_m := by
  refine pure_of_awpS (X := ctxN Tryz.prog Gt [(10, rlines_m)] [(11, rnext_k)] [] none (uL []) (uL [11])) Tryz.func5 rfl rfl (by kernel_rfl) (by kernel_rfl) (kok_n (AllOk.cons rlines_ok AllOk.nil) (AllK.cons rnext_kok AllK.nil) AllN.nil) ?_
  intro args r h0
  obtain ⟨s, rfl, h⟩ := ms_inv h0
  refine ⟨Nat.le_of_ble_eq_true rfl, ?_⟩
  split at h
  · rename_i hlen
    have hlen := of_decide_eq_true hlen
    cases h
    have hP : parseR s = if 65536 < s.length then (zFil, 0, 4) else prR (decide (s.getLast? ≠ some 10)) ((linesF s).1.getD []).length 0 rd0 ((linesF s).1.getD []) := rfl
    have f1 : rlines_m [.c (.str s)] = some [.c (slL s), .c (.int .i64 (linesF s).2)] := rfl
    generalize parseR s = R at *
    by_cases hbig : 65536 < s.length
    · rw [if_pos hbig] at hP
      rw [show slL s = .sl true [] by unfold slL; rw [if_pos hbig], show (linesF s).2 = 4 by unfold linesF; rw [if_pos hbig]] at f1
      subst hP
      rw [zFil_row]
      have hc := Nat.zero_add 0
      repeat' (first | simp only [hc, AS, Tryz.f5, NX, SX, f1, AB, PL, RG, LP, TY, simprocAttr, ↓reduceIte, forall_const, eq_self, ne_eq, Option.some.injEq, beq_self_eq_true] | ((first | apply fin_ndec | apply fin_dec | apply cnd_ndec | apply cnd_dec' | apply fin_nsplit | apply fin_split | apply cnd_nsplit | apply cnd_split) <;> intro hc) | refine seqS_id ?_ | refine blk_exit_id ?_)
      all_goals rfl
    rw [if_neg hbig] at hP
    have hK : ((linesF s).1.getD []).length ≤ s.length + 1 ∧ (s = [] → (linesF s).1.getD [] = []) := by
      unfold linesF
      rw [if_neg hbig]
      split
      · exact ⟨by simp, fun _ => rfl⟩
      · rename_i hs
        have h1 := spl_len 10 (Lib.trimSuffix s [10])
        have h2 := trim_le s
        exact ⟨by simp only [Option.getD_some]; omega, fun h => absurd h hs⟩
    rw [show slL s = .sl false (((linesF s).1.getD []).map rowS) by unfold slL; rw [if_neg hbig], show (linesF s).2 = 0 by unfold linesF; rw [if_neg hbig]; split <;> rfl] at f1
    generalize (linesF s).1.getD [] = K at *
    obtain ⟨hKl, hKs⟩ := hK
    have l1 := @lenS K
    have hc := Nat.zero_add 0
    repeat' (first | simp only [hc, AS, Tryz.f5, NX, SX, f1, AB, PL, RG, LP, TY, simprocAttr, ↓reduceIte, forall_const, eq_self, ne_eq, Option.some.injEq, beq_self_eq_true] | ((first | apply fin_ndec | apply fin_dec | apply cnd_ndec | apply cnd_dec' | apply fin_nsplit | apply fin_split | apply cnd_nsplit | apply cnd_split) <;> intro hc) | refine seqS_id ?_ | refine blk_exit_id ?_)
    refine awpS_loop (σ := Nat × Rdr × Nat) (fun a => a.1 ≤ K.length ∧ a.2.1.rs.length ≤ 1024 ∧ a.2.1.beg = false ∧ ((a.1 : Int) = 0 → a.2.1.rs = []) ∧ (a.2.2 = 6 ∨ (a.2.2 = 7 ∧ a.2.1.rs ≠ [])) ∧ R = prR (decide (s.getLast? ≠ some 10)) K.length a.1 a.2.1 (K.drop a.1)) (fun a => ⟨[(9, AV.i a.1), (8, .v (.c (.ptr 2 0))), (6, AV.d (.sl false (K.map rowS))), (5, .v (.c (.ptr 1 0))), (2, .v (.c (.ptr 0 0))), (0, AV.s s)], hq a.2.2 a.2.1⟩) (fun a => K.length - a.1) (0, rd0, 6) (Wk.sub' (by simp [subT, look]) rfl) ⟨Nat.zero_le _, Nat.zero_le _, rfl, fun _ => rfl, .inl rfl, hP⟩ ?_
    rintro ⟨j, x, k⟩ ⟨hj, hx1, hx2, hx3, hk, hR⟩
    dsimp only at hj hx1 hx2 hx3 hk hR ⊢
    by_cases hjl : j < K.length
    · have hlt : ((j : Int) < (K.length : Int)) = True := eq_true (by omega)
      have hw := wI (n := (j : Int) + 1) (by omega) (by omega)
      have hs : s ≠ [] := fun h => by rw [hKs h] at hjl; simp at hjl
      have hsp := List.length_pos_iff.2 hs
      obtain ⟨c, hcl⟩ : ∃ c, s[s.length - 1]? = some c := ⟨s[s.length - 1]'(by omega), List.getElem?_eq_getElem (by omega)⟩
      have hlast : s.getLast? = some c := by rw [List.getLast?_eq_getElem?]; exact hcl
      have wl : IntKind.i64.wrap ((s.length : Int) - 1) = ((s.length - 1 : Nat) : Int) := by rw [wI (by omega) (by omega)]; omega
      have eln : (K.map rowS)[j]? = some [.str K[j]] := by simp [hjl, rowS]
      rw [List.drop_eq_getElem_cons hjl, hlast] at hR
      generalize K[j] = ln at *
      by_cases hsh : j + 1 = K.length ∧ c ≠ 10
      · obtain ⟨hs1, hs2⟩ := hsh
        have b1 : ((j : Int) + 1 = (K.length : Int)) = True := eq_true (by omega)
        have b2 : ((c.toNat : Int) = 10) = False := eq_false fun h => hs2 (UInt8.toNat_inj.1 (show c.toNat = (10 : UInt8).toNat by show c.toNat = 10; omega))
        have hR : R = (zFil, (j : Int) + 1, 7) := by
          rw [hR, prR, if_pos ⟨List.drop_eq_nil_of_le (by omega), decide_eq_true (by simpa using hs2)⟩]
        subst hR
        rw [zFil_row]
        obtain ⟨T, hT⟩ : ∃ T, hq k x = .box zF :: .box zF :: T := by
          unfold hq
          split <;> exact ⟨_, rfl⟩
        rw [hT]
        have hc := Nat.zero_add 0
        repeat' (first | simp only [hc, AS, NX, SX, l1, hlt, hw, wl, nn, hcl, b1, b2, AB, PL, RG, LP, TY, simprocAttr, ↓reduceIte, forall_const, eq_self, ne_eq, Option.some.injEq, beq_self_eq_true] | ((first | apply fin_ndec | apply fin_dec | apply cnd_ndec | apply cnd_dec' | apply fin_nsplit | apply fin_split | apply cnd_nsplit | apply cnd_split) <;> intro hc) | refine seqS_id ?_ | refine blk_exit_id ?_)
        all_goals rfl
      have hR : R = if (nxF x j ln).err ≠ 0 then (zFil, (j : Int) + 1, (nxF x j ln).err) else prR (decide (some c ≠ some 10)) K.length (j + 1) (nxS x (nxF x j ln)) (K.drop (j + 1)) := by
        rw [hR, prR, if_neg]
        rintro ⟨h1, h2⟩
        have h2 := of_decide_eq_true h2
        have h1 := List.drop_eq_nil_iff.1 h1
        exact hsh ⟨by omega, fun h => h2 (by rw [h])⟩
      have bb : (((j : Int) + 1 = (K.length : Int)) = False ∧ True) ∨ (((j : Int) + 1 = (K.length : Int)) = True ∧ ((c.toNat : Int) = 10) = True) := by
        by_cases h : j + 1 = K.length
        · right
          refine ⟨eq_true (by omega), eq_true ?_⟩
          have : c = 10 := Classical.byContradiction fun hc => hsh ⟨h, hc⟩
          rw [this]; rfl
        · left
          exact ⟨eq_false (by omega), trivial⟩
      have fN := rnext_at (x := x) (k := k) (i := (j : Int)) (s := ln) (G := []) hx1 hx2 hx3 hk trivial
      have fM := rnext_at (x := x) (k := k) (i := (j : Int)) (s := ln) (G := [.box zP]) hx1 hx2 hx3 hk trivial
      rw [List.append_nil] at fN
      rw [← hlast] at hR
      obtain ⟨fr, dst, seq, rs, beg, fin⟩ := x
      dsimp only at hx1 hx2 hx3 hk
      subst hx2
      by_cases hr0 : rs = []
      · obtain rfl : k = 6 := by
          rcases hk with hk | ⟨_, hk⟩
          · exact hk
          · exact absurd hr0 hk
        subst hr0
        rw [show hq 6 ⟨fr, dst, seq, [], false, fin⟩ = [.box zF, .box zF, .box [.d (.str fr), .d (.str dst), .d (.int .i64 seq), .d (.sl true []), .d (.bool fin)]] from rfl]
        rcases bb with ⟨b1, b2⟩ | ⟨b1, b2⟩
        all_goals
          have hc := Nat.zero_add 0
          repeat' (first | simp only [hc, AS, NX, SX, l1, hlt, hw, wl, nn, hcl, eln, b1, b2, AB, PL, RG, LP, TY, simprocAttr, ↓reduceIte, forall_const, eq_self, ne_eq, Option.some.injEq, beq_self_eq_true] | ((first | apply fin_ndec | apply fin_dec | apply cnd_ndec | apply cnd_dec' | apply fin_nsplit | apply fin_split | apply cnd_nsplit | apply cnd_split) <;> intro hc) | refine seqS_id ?_ | refine blk_exit_id ?_)
          refine awp_two [0, 1, 2, 3, 4, 5] 6 [7, 8, 9, 10, 11, 12] 10 [6, 7, 8, 9, 11, 12] rfl (by kernel_rfl) ?_
          have hc := Nat.zero_add 0
          repeat' (first | simp only [hc, AS, TW, NX, SX, l1, hlt, hw, wl, nn, hcl, eln, b1, b2, AB, PL, RG, LP, TY, simprocAttr, ↓reduceIte, forall_const, eq_self, ne_eq, Option.some.injEq, beq_self_eq_true] | ((first | apply fin_ndec | apply fin_dec | apply cnd_ndec | apply cnd_dec' | apply fin_nsplit | apply fin_split | apply cnd_nsplit | apply cnd_split) <;> intro hc) | refine seqS_id ?_ | refine blk_exit_id ?_)
          refine ⟨?_, ?_⟩
          · cases ho : nxF ⟨fr, dst, seq, [], false, fin⟩ j ln with
            | same e =>
              rw [ho] at fN hR
              simp only [nxP, nxS, nxH, nxB, NxO.err, nxK, rcX, hq, pce, if_true, List.map_cons, List.map_nil, List.nil_append, List.cons_append, List.append_nil, List.length_nil, List.length_cons, Nat.zero_add, Nat.add_zero, Nat.reduceAdd] at fN
              have he := nxF_same ho
              rw [show (NxO.same e).err = e from rfl, if_pos he] at hR
              subst hR
              rw [zFil_row]
              have hc := Nat.zero_add 0
              repeat' (first | simp only [hc, AS, TW, NX, SX, l1, hlt, hw, wl, nn, hcl, eln, fN, b1, b2, he, AB, PL, RG, LP, TY, simprocAttr, ↓reduceIte, forall_const, eq_self, ne_eq, Option.some.injEq, beq_self_eq_true] | ((first | apply fin_ndec | apply fin_dec | apply cnd_ndec | apply cnd_dec' | apply fin_nsplit | apply fin_split | apply cnd_nsplit | apply cnd_split) <;> intro hc) | refine seqS_id ?_ | refine blk_exit_id ?_)
              all_goals rfl
            | file f e =>
              rw [ho] at fN hR
              obtain ⟨hi0, g1, g2⟩ := nxF_file ho
              obtain ⟨y1, y2, y3, y4, y5⟩ := f
              dsimp only at g1 g2
              subst g1 g2
              simp only [nxP, nxS, nxH, nxB, NxO.err, nxK, rcX, hq, pce, if_true, List.map_cons, List.map_nil, List.nil_append, List.cons_append, List.append_nil, List.length_nil, List.length_cons, Nat.zero_add, Nat.add_zero, Nat.reduceAdd, Rdr.withF, Fil.row] at fN
              rw [show (NxO.file ⟨y1, y2, y3, true, []⟩ e).err = e from rfl] at hR
              by_cases he : e ≠ 0
              · rw [if_pos he] at hR
                subst hR
                rw [zFil_row]
                have hc := Nat.zero_add 0
                repeat' (first | simp only [hc, AS, TW, NX, SX, l1, hlt, hw, wl, nn, hcl, eln, fN, b1, b2, he, AB, PL, RG, LP, TY, simprocAttr, ↓reduceIte, forall_const, eq_self, ne_eq, Option.some.injEq, beq_self_eq_true] | ((first | apply fin_ndec | apply fin_dec | apply cnd_ndec | apply cnd_dec' | apply fin_nsplit | apply fin_split | apply cnd_nsplit | apply cnd_split) <;> intro hc) | refine seqS_id ?_ | refine blk_exit_id ?_)
                all_goals rfl
              · have he : e = 0 := Classical.not_not.1 he
                subst he
                rw [if_neg (by simp)] at hR
                have hc := Nat.zero_add 0
                repeat' (first | simp only [hc, AS, TW, NX, SX, l1, hlt, hw, wl, nn, hcl, eln, fN, b1, b2, AB, PL, RG, LP, TY, simprocAttr, ↓reduceIte, forall_const, eq_self, ne_eq, Option.some.injEq, beq_self_eq_true] | ((first | apply fin_ndec | apply fin_dec | apply cnd_ndec | apply cnd_dec' | apply fin_nsplit | apply fin_split | apply cnd_nsplit | apply cnd_split) <;> intro hc) | refine seqS_id ?_ | refine blk_exit_id ?_)
                exact lp_next (j + 1, ⟨y1, y2, y3, [], false, fin⟩, 6) (Wk.cutk (k := 3) (by simp) (by simp) (by simp [hq, pce]) (by simp [subT, look]) (by simp [AV.low, V.low, C1.low]) (by simp [hq, pce, Ob.low, C1.low])) ⟨by omega, Nat.zero_le _, rfl, fun _ => rfl, .inl rfl, hR⟩ (by omega)
            | last e =>
              rw [ho] at fN hR
              simp only [nxP, nxS, nxH, nxB, NxO.err, nxK, rcX, hq, pce, if_true, List.map_cons, List.map_nil, List.nil_append, List.cons_append, List.append_nil, List.length_nil, List.length_cons, Nat.zero_add, Nat.add_zero, Nat.reduceAdd] at fN
              rw [show (NxO.last e).err = e from rfl] at hR
              by_cases he : e ≠ 0
              · rw [if_pos he] at hR
                subst hR
                rw [zFil_row]
                have hc := Nat.zero_add 0
                repeat' (first | simp only [hc, AS, TW, NX, SX, l1, hlt, hw, wl, nn, hcl, eln, fN, b1, b2, he, AB, PL, RG, LP, TY, simprocAttr, ↓reduceIte, forall_const, eq_self, ne_eq, Option.some.injEq, beq_self_eq_true] | ((first | apply fin_ndec | apply fin_dec | apply cnd_ndec | apply cnd_dec' | apply fin_nsplit | apply fin_split | apply cnd_nsplit | apply cnd_split) <;> intro hc) | refine seqS_id ?_ | refine blk_exit_id ?_)
                all_goals rfl
              · have he : e = 0 := Classical.not_not.1 he
                subst he
                rw [if_neg (by simp)] at hR
                have hc := Nat.zero_add 0
                repeat' (first | simp only [hc, AS, TW, NX, SX, l1, hlt, hw, wl, nn, hcl, eln, fN, b1, b2, AB, PL, RG, LP, TY, simprocAttr, ↓reduceIte, forall_const, eq_self, ne_eq, Option.some.injEq, beq_self_eq_true] | ((first | apply fin_ndec | apply fin_dec | apply cnd_ndec | apply cnd_dec' | apply fin_nsplit | apply fin_split | apply cnd_nsplit | apply cnd_split) <;> intro hc) | refine seqS_id ?_ | refine blk_exit_id ?_)
                exact lp_next (j + 1, ⟨fr, dst, seq, [], false, true⟩, 6) (Wk.cutk (k := 3) (by simp) (by simp) (by simp [hq, pce]) (by simp [subT, look]) (by simp [AV.low, V.low, C1.low]) (by simp [hq, pce, Ob.low, C1.low])) ⟨by omega, Nat.zero_le _, rfl, fun _ => rfl, .inl rfl, hR⟩ (by omega)
            | rcd r e =>
              rw [ho] at fN hR
              obtain ⟨x1, x2, x3, x4, x5⟩ := r
              simp only [nxP, nxS, nxH, nxB, NxO.err, nxK, rcX, hq, pce, if_true, List.map_cons, List.map_nil, List.nil_append, List.cons_append, List.append_nil, List.length_nil, List.length_cons, Nat.zero_add, Nat.add_zero, Nat.reduceAdd, Rec.row, List.cons_ne_nil, if_false] at fN
              rw [show (NxO.rcd ⟨x1, x2, x3, x4, x5⟩ e).err = e from rfl] at hR
              by_cases he : e ≠ 0
              · rw [if_pos he] at hR
                subst hR
                rw [zFil_row]
                have hc := Nat.zero_add 0
                repeat' (first | simp only [hc, AS, TW, NX, SX, l1, hlt, hw, wl, nn, hcl, eln, fN, b1, b2, he, AB, PL, RG, LP, TY, simprocAttr, ↓reduceIte, forall_const, eq_self, ne_eq, Option.some.injEq, beq_self_eq_true] | ((first | apply fin_ndec | apply fin_dec | apply cnd_ndec | apply cnd_dec' | apply fin_nsplit | apply fin_split | apply cnd_nsplit | apply cnd_split) <;> intro hc) | refine seqS_id ?_ | refine blk_exit_id ?_)
                all_goals rfl
              · have he : e = 0 := Classical.not_not.1 he
                subst he
                rw [if_neg (by simp)] at hR
                have hc := Nat.zero_add 0
                repeat' (first | simp only [hc, AS, TW, NX, SX, l1, hlt, hw, wl, nn, hcl, eln, fN, b1, b2, AB, PL, RG, LP, TY, simprocAttr, ↓reduceIte, forall_const, eq_self, ne_eq, Option.some.injEq, beq_self_eq_true] | ((first | apply fin_ndec | apply fin_dec | apply cnd_ndec | apply cnd_dec' | apply fin_nsplit | apply fin_split | apply cnd_nsplit | apply cnd_split) <;> intro hc) | refine seqS_id ?_ | refine blk_exit_id ?_)
                exact lp_next (j + 1, ⟨fr, dst, seq, [⟨x1, x2, x3, x4, x5⟩], false, fin⟩, 6) (wk_first (by simp) (by simp [subT, look]) (by simp [subT, look]) (by simp [AV.low, V.low, C1.low]) rfl rfl rfl rfl (by simp [hq, pce, Rec.row, List.replicate])) ⟨by omega, by show 1 ≤ 1024; decide, rfl, fun h => by omega, .inl rfl, hR⟩ (by omega)
          · cases ho : nxF ⟨fr, dst, seq, [], false, fin⟩ j ln with
            | same e =>
              rw [ho] at fM hR
              simp only [nxP, nxS, nxH, nxB, NxO.err, nxK, rcX, hq, pce, if_true, List.map_cons, List.map_nil, List.nil_append, List.cons_append, List.append_nil, List.length_nil, List.length_cons, Nat.zero_add, Nat.add_zero, Nat.reduceAdd] at fM
              have he := nxF_same ho
              rw [show (NxO.same e).err = e from rfl, if_pos he] at hR
              subst hR
              rw [zFil_row]
              have hc := Nat.zero_add 0
              repeat' (first | simp only [hc, AS, TW, NX, SX, l1, hlt, hw, wl, nn, hcl, eln, fM, b1, b2, he, AB, PL, RG, LP, TY, simprocAttr, ↓reduceIte, forall_const, eq_self, ne_eq, Option.some.injEq, beq_self_eq_true] | ((first | apply fin_ndec | apply fin_dec | apply cnd_ndec | apply cnd_dec' | apply fin_nsplit | apply fin_split | apply cnd_nsplit | apply cnd_split) <;> intro hc) | refine seqS_id ?_ | refine blk_exit_id ?_)
              all_goals rfl
            | file f e =>
              rw [ho] at fM hR
              obtain ⟨hi0, g1, g2⟩ := nxF_file ho
              obtain ⟨y1, y2, y3, y4, y5⟩ := f
              dsimp only at g1 g2
              subst g1 g2
              simp only [nxP, nxS, nxH, nxB, NxO.err, nxK, rcX, hq, pce, if_true, List.map_cons, List.map_nil, List.nil_append, List.cons_append, List.append_nil, List.length_nil, List.length_cons, Nat.zero_add, Nat.add_zero, Nat.reduceAdd, Rdr.withF, Fil.row] at fM
              rw [show (NxO.file ⟨y1, y2, y3, true, []⟩ e).err = e from rfl] at hR
              by_cases he : e ≠ 0
              · rw [if_pos he] at hR
                subst hR
                rw [zFil_row]
                have hc := Nat.zero_add 0
                repeat' (first | simp only [hc, AS, TW, NX, SX, l1, hlt, hw, wl, nn, hcl, eln, fM, b1, b2, he, AB, PL, RG, LP, TY, simprocAttr, ↓reduceIte, forall_const, eq_self, ne_eq, Option.some.injEq, beq_self_eq_true] | ((first | apply fin_ndec | apply fin_dec | apply cnd_ndec | apply cnd_dec' | apply fin_nsplit | apply fin_split | apply cnd_nsplit | apply cnd_split) <;> intro hc) | refine seqS_id ?_ | refine blk_exit_id ?_)
                all_goals rfl
              · have he : e = 0 := Classical.not_not.1 he
                subst he
                rw [if_neg (by simp)] at hR
                have hc := Nat.zero_add 0
                repeat' (first | simp only [hc, AS, TW, NX, SX, l1, hlt, hw, wl, nn, hcl, eln, fM, b1, b2, AB, PL, RG, LP, TY, simprocAttr, ↓reduceIte, forall_const, eq_self, ne_eq, Option.some.injEq, beq_self_eq_true] | ((first | apply fin_ndec | apply fin_dec | apply cnd_ndec | apply cnd_dec' | apply fin_nsplit | apply fin_split | apply cnd_nsplit | apply cnd_split) <;> intro hc) | refine seqS_id ?_ | refine blk_exit_id ?_)
                exact lp_next (j + 1, ⟨y1, y2, y3, [], false, fin⟩, 6) (Wk.cutk (k := 3) (by simp) (by simp) (by simp [hq, pce]) (by simp [subT, look]) (by simp [AV.low, V.low, C1.low]) (by simp [hq, pce, Ob.low, C1.low])) ⟨by omega, Nat.zero_le _, rfl, fun _ => rfl, .inl rfl, hR⟩ (by omega)
            | last e =>
              rw [ho] at fM hR
              simp only [nxP, nxS, nxH, nxB, NxO.err, nxK, rcX, hq, pce, if_true, List.map_cons, List.map_nil, List.nil_append, List.cons_append, List.append_nil, List.length_nil, List.length_cons, Nat.zero_add, Nat.add_zero, Nat.reduceAdd] at fM
              rw [show (NxO.last e).err = e from rfl] at hR
              by_cases he : e ≠ 0
              · rw [if_pos he] at hR
                subst hR
                rw [zFil_row]
                have hc := Nat.zero_add 0
                repeat' (first | simp only [hc, AS, TW, NX, SX, l1, hlt, hw, wl, nn, hcl, eln, fM, b1, b2, he, AB, PL, RG, LP, TY, simprocAttr, ↓reduceIte, forall_const, eq_self, ne_eq, Option.some.injEq, beq_self_eq_true] | ((first | apply fin_ndec | apply fin_dec | apply cnd_ndec | apply cnd_dec' | apply fin_nsplit | apply fin_split | apply cnd_nsplit | apply cnd_split) <;> intro hc) | refine seqS_id ?_ | refine blk_exit_id ?_)
                all_goals rfl
              · have he : e = 0 := Classical.not_not.1 he
                subst he
                rw [if_neg (by simp)] at hR
                have hc := Nat.zero_add 0
                repeat' (first | simp only [hc, AS, TW, NX, SX, l1, hlt, hw, wl, nn, hcl, eln, fM, b1, b2, AB, PL, RG, LP, TY, simprocAttr, ↓reduceIte, forall_const, eq_self, ne_eq, Option.some.injEq, beq_self_eq_true] | ((first | apply fin_ndec | apply fin_dec | apply cnd_ndec | apply cnd_dec' | apply fin_nsplit | apply fin_split | apply cnd_nsplit | apply cnd_split) <;> intro hc) | refine seqS_id ?_ | refine blk_exit_id ?_)
                exact lp_next (j + 1, ⟨fr, dst, seq, [], false, true⟩, 6) (Wk.cutk (k := 3) (by simp) (by simp) (by simp [hq, pce]) (by simp [subT, look]) (by simp [AV.low, V.low, C1.low]) (by simp [hq, pce, Ob.low, C1.low])) ⟨by omega, Nat.zero_le _, rfl, fun _ => rfl, .inl rfl, hR⟩ (by omega)
            | rcd r e =>
              rw [ho] at fM hR
              obtain ⟨x1, x2, x3, x4, x5⟩ := r
              simp only [nxP, nxS, nxH, nxB, NxO.err, nxK, rcX, hq, pce, if_true, List.map_cons, List.map_nil, List.nil_append, List.cons_append, List.append_nil, List.length_nil, List.length_cons, Nat.zero_add, Nat.add_zero, Nat.reduceAdd, Rec.row, List.cons_ne_nil, if_false] at fM
              rw [show (NxO.rcd ⟨x1, x2, x3, x4, x5⟩ e).err = e from rfl] at hR
              by_cases he : e ≠ 0
              · rw [if_pos he] at hR
                subst hR
                rw [zFil_row]
                have hc := Nat.zero_add 0
                repeat' (first | simp only [hc, AS, TW, NX, SX, l1, hlt, hw, wl, nn, hcl, eln, fM, b1, b2, he, AB, PL, RG, LP, TY, simprocAttr, ↓reduceIte, forall_const, eq_self, ne_eq, Option.some.injEq, beq_self_eq_true] | ((first | apply fin_ndec | apply fin_dec | apply cnd_ndec | apply cnd_dec' | apply fin_nsplit | apply fin_split | apply cnd_nsplit | apply cnd_split) <;> intro hc) | refine seqS_id ?_ | refine blk_exit_id ?_)
                all_goals rfl
              · have he : e = 0 := Classical.not_not.1 he
                subst he
                rw [if_neg (by simp)] at hR
                have hc := Nat.zero_add 0
                repeat' (first | simp only [hc, AS, TW, NX, SX, l1, hlt, hw, wl, nn, hcl, eln, fM, b1, b2, AB, PL, RG, LP, TY, simprocAttr, ↓reduceIte, forall_const, eq_self, ne_eq, Option.some.injEq, beq_self_eq_true] | ((first | apply fin_ndec | apply fin_dec | apply cnd_ndec | apply cnd_dec' | apply fin_nsplit | apply fin_split | apply cnd_nsplit | apply cnd_split) <;> intro hc) | refine seqS_id ?_ | refine blk_exit_id ?_)
                exact lp_next (j + 1, ⟨fr, dst, seq, [⟨x1, x2, x3, x4, x5⟩], false, fin⟩, 7) (wk_first2 (by simp [subT, look]) (by simp [subT, look]) (by simp [hq, pce, Rec.row, List.replicate])) ⟨by omega, by show 1 ≤ 1024; decide, rfl, fun h => by omega, .inr ⟨rfl, by simp⟩, hR⟩ (by omega)
      · have hk : k = 6 ∨ k = 7 := by
          rcases hk with hk | ⟨hk, _⟩
          · exact .inl hk
          · exact .inr hk
        rcases hk with rfl | rfl
        · have hqx : hq 6 ⟨fr, dst, seq, rs, false, fin⟩ = [.box zF, .box zF, .box [.d (.str fr), .d (.str dst), .d (.int .i64 seq), .own 6 (rs.map Rec.row), .d (.bool fin)], .box tops5, .box tops5, .box tops5, .tok rs.length 5 none] := by rw [hq, if_neg hr0]; rfl
          have rcx : rcX 6 rs = .own 6 (rs.map Rec.row) := by rw [rcX, if_neg hr0]
          have rcy : ∀ r, rcX 6 (rs ++ [r]) = .own 6 (rs.map Rec.row ++ [r.row]) := fun r => by unfold rcX; rw [if_neg (by simp)]; simp
          have nkx : ∀ G, nxK 6 ⟨fr, dst, seq, rs, false, fin⟩ G = 6 := fun G => by rw [nxK, if_neg hr0]
          rw [hqx]
          rcases bb with ⟨b1, b2⟩ | ⟨b1, b2⟩
          all_goals
            have hc := Nat.zero_add 0
            repeat' (first | simp only [hc, AS, NX, SX, l1, hlt, hw, wl, nn, hcl, eln, b1, b2, AB, PL, RG, LP, TY, simprocAttr, ↓reduceIte, forall_const, eq_self, ne_eq, Option.some.injEq, beq_self_eq_true] | ((first | apply fin_ndec | apply fin_dec | apply cnd_ndec | apply cnd_dec' | apply fin_nsplit | apply fin_split | apply cnd_nsplit | apply cnd_split) <;> intro hc) | refine seqS_id ?_ | refine blk_exit_id ?_)
            refine awp_two [0, 1, 2, 3, 4, 5] 6 [7, 8, 9, 10, 11, 12] 10 [6, 7, 8, 9, 11, 12] rfl (by kernel_rfl) ?_
            have hc := Nat.zero_add 0
            repeat' (first | simp only [hc, AS, TW, NX, SX, l1, hlt, hw, wl, nn, hcl, eln, b1, b2, AB, PL, RG, LP, TY, simprocAttr, ↓reduceIte, forall_const, eq_self, ne_eq, Option.some.injEq, beq_self_eq_true] | ((first | apply fin_ndec | apply fin_dec | apply cnd_ndec | apply cnd_dec' | apply fin_nsplit | apply fin_split | apply cnd_nsplit | apply cnd_split) <;> intro hc) | refine seqS_id ?_ | refine blk_exit_id ?_)
            refine ⟨?_, ?_⟩
            · cases ho : nxF ⟨fr, dst, seq, rs, false, fin⟩ j ln with
              | same e =>
                rw [ho] at fN hR
                simp only [nxP, nxS, nxH, nxB, NxO.err, nkx, rcx, rcy, hqx, pce, List.map_cons, List.map_nil, List.nil_append, List.cons_append, List.append_nil, hr0, if_false, List.set_cons_succ, List.set_cons_zero] at fN
                have he := nxF_same ho
                rw [show (NxO.same e).err = e from rfl, if_pos he] at hR
                subst hR
                rw [zFil_row]
                have hc := Nat.zero_add 0
                repeat' (first | simp only [hc, AS, TW, NX, SX, l1, hlt, hw, wl, nn, hcl, eln, fN, b1, b2, he, AB, PL, RG, LP, TY, simprocAttr, ↓reduceIte, forall_const, eq_self, ne_eq, Option.some.injEq, beq_self_eq_true] | ((first | apply fin_ndec | apply fin_dec | apply cnd_ndec | apply cnd_dec' | apply fin_nsplit | apply fin_split | apply cnd_nsplit | apply cnd_split) <;> intro hc) | refine seqS_id ?_ | refine blk_exit_id ?_)
                all_goals rfl
              | file f e =>
                exact absurd (hx3 (nxF_file ho).1) hr0
              | last e =>
                rw [ho] at fN hR
                simp only [nxP, nxS, nxH, nxB, NxO.err, nkx, rcx, rcy, hqx, pce, List.map_cons, List.map_nil, List.nil_append, List.cons_append, List.append_nil, hr0, if_false, List.set_cons_succ, List.set_cons_zero] at fN
                rw [show (NxO.last e).err = e from rfl] at hR
                by_cases he : e ≠ 0
                · rw [if_pos he] at hR
                  subst hR
                  rw [zFil_row]
                  have hc := Nat.zero_add 0
                  repeat' (first | simp only [hc, AS, TW, NX, SX, l1, hlt, hw, wl, nn, hcl, eln, fN, b1, b2, he, AB, PL, RG, LP, TY, simprocAttr, ↓reduceIte, forall_const, eq_self, ne_eq, Option.some.injEq, beq_self_eq_true] | ((first | apply fin_ndec | apply fin_dec | apply cnd_ndec | apply cnd_dec' | apply fin_nsplit | apply fin_split | apply cnd_nsplit | apply cnd_split) <;> intro hc) | refine seqS_id ?_ | refine blk_exit_id ?_)
                  all_goals rfl
                · have he : e = 0 := Classical.not_not.1 he
                  subst he
                  rw [if_neg (by simp)] at hR
                  have hq' : hq 6 ⟨fr, dst, seq, rs, false, true⟩ = [.box zF, .box zF, .box [.d (.str fr), .d (.str dst), .d (.int .i64 seq), .own 6 (rs.map Rec.row), .d (.bool true)], .box tops5, .box tops5, .box tops5, .tok rs.length 5 none] := by rw [hq, if_neg hr0]; rfl
                  have hc := Nat.zero_add 0
                  repeat' (first | simp only [hc, AS, TW, NX, SX, l1, hlt, hw, wl, nn, hcl, eln, fN, b1, b2, AB, PL, RG, LP, TY, simprocAttr, ↓reduceIte, forall_const, eq_self, ne_eq, Option.some.injEq, beq_self_eq_true] | ((first | apply fin_ndec | apply fin_dec | apply cnd_ndec | apply cnd_dec' | apply fin_nsplit | apply fin_split | apply cnd_nsplit | apply cnd_split) <;> intro hc) | refine seqS_id ?_ | refine blk_exit_id ?_)
                  exact lp_next (j + 1, ⟨fr, dst, seq, rs, false, true⟩, 6) (Wk.cutk (k := 7) (by simp) (by simp) (by dsimp only; rw [hq']; simp [Rec.row]) (by simp [subT, look]) (by simp [AV.low, V.low, C1.low]) (by dsimp only; rw [hq']; simp [Ob.low, C1.low])) ⟨by omega, hx1, rfl, fun h => by omega, .inl rfl, hR⟩ (by omega)
              | rcd r e =>
                rw [ho] at fN hR
                obtain ⟨x1, x2, x3, x4, x5⟩ := r
                simp only [nxP, nxS, nxH, nxB, NxO.err, nkx, rcx, rcy, hqx, pce, List.map_cons, List.map_nil, List.nil_append, List.cons_append, List.append_nil, hr0, if_false, List.set_cons_succ, List.set_cons_zero, Rec.row] at fN
                rw [show (NxO.rcd ⟨x1, x2, x3, x4, x5⟩ e).err = e from rfl] at hR
                by_cases he : e ≠ 0
                · rw [if_pos he] at hR
                  subst hR
                  rw [zFil_row]
                  have hc := Nat.zero_add 0
                  repeat' (first | simp only [hc, AS, TW, NX, SX, l1, hlt, hw, wl, nn, hcl, eln, fN, b1, b2, he, AB, PL, RG, LP, TY, simprocAttr, ↓reduceIte, forall_const, eq_self, ne_eq, Option.some.injEq, beq_self_eq_true] | ((first | apply fin_ndec | apply fin_dec | apply cnd_ndec | apply cnd_dec' | apply fin_nsplit | apply fin_split | apply cnd_nsplit | apply cnd_split) <;> intro hc) | refine seqS_id ?_ | refine blk_exit_id ?_)
                  all_goals rfl
                · have he : e = 0 := Classical.not_not.1 he
                  subst he
                  rw [if_neg (by simp)] at hR
                  have hq' : hq 6 ⟨fr, dst, seq, rs ++ [⟨x1, x2, x3, x4, x5⟩], false, fin⟩ = [.box zF, .box zF, .box [.d (.str fr), .d (.str dst), .d (.int .i64 seq), .own 6 (rs.map Rec.row ++ [[.int .i64 x1, .str x2, .int .i64 x3, .int .i64 x4, .int .i64 x5]]), .d (.bool fin)], .box tops5, .box tops5, .box tops5, .tok (rs.length + 1) 5 none] := by rw [hq, if_neg (by simp)]; simp [pce, Rec.row, List.replicate]
                  obtain ⟨hrl, _⟩ := nxF_rec ho
                  dsimp only at hrl
                  have hc := Nat.zero_add 0
                  repeat' (first | simp only [hc, AS, TW, NX, SX, l1, hlt, hw, wl, nn, hcl, eln, fN, b1, b2, AB, PL, RG, LP, TY, simprocAttr, ↓reduceIte, forall_const, eq_self, ne_eq, Option.some.injEq, beq_self_eq_true] | ((first | apply fin_ndec | apply fin_dec | apply cnd_ndec | apply cnd_dec' | apply fin_nsplit | apply fin_split | apply cnd_nsplit | apply cnd_split) <;> intro hc) | refine seqS_id ?_ | refine blk_exit_id ?_)
                  exact lp_next (j + 1, ⟨fr, dst, seq, rs ++ [(⟨x1, x2, x3, x4, x5⟩ : Rec)], false, fin⟩, 6) (Wk.cutk (k := 7) (by simp) (by simp) (by dsimp only; rw [hq']; simp [Rec.row]) (by simp [subT, look]) (by simp [AV.low, V.low, C1.low]) (by dsimp only; rw [hq']; simp [Ob.low, C1.low])) ⟨by omega, by simp; omega, rfl, fun h => by omega, .inl rfl, hR⟩ (by omega)
            · cases ho : nxF ⟨fr, dst, seq, rs, false, fin⟩ j ln with
              | same e =>
                rw [ho] at fM hR
                simp only [nxP, nxS, nxH, nxB, NxO.err, nkx, rcx, rcy, hqx, pce, List.map_cons, List.map_nil, List.nil_append, List.cons_append, List.append_nil, hr0, if_false, List.set_cons_succ, List.set_cons_zero] at fM
                have he := nxF_same ho
                rw [show (NxO.same e).err = e from rfl, if_pos he] at hR
                subst hR
                rw [zFil_row]
                have hc := Nat.zero_add 0
                repeat' (first | simp only [hc, AS, TW, NX, SX, l1, hlt, hw, wl, nn, hcl, eln, fM, b1, b2, he, AB, PL, RG, LP, TY, simprocAttr, ↓reduceIte, forall_const, eq_self, ne_eq, Option.some.injEq, beq_self_eq_true] | ((first | apply fin_ndec | apply fin_dec | apply cnd_ndec | apply cnd_dec' | apply fin_nsplit | apply fin_split | apply cnd_nsplit | apply cnd_split) <;> intro hc) | refine seqS_id ?_ | refine blk_exit_id ?_)
                all_goals rfl
              | file f e =>
                exact absurd (hx3 (nxF_file ho).1) hr0
              | last e =>
                rw [ho] at fM hR
                simp only [nxP, nxS, nxH, nxB, NxO.err, nkx, rcx, rcy, hqx, pce, List.map_cons, List.map_nil, List.nil_append, List.cons_append, List.append_nil, hr0, if_false, List.set_cons_succ, List.set_cons_zero] at fM
                rw [show (NxO.last e).err = e from rfl] at hR
                by_cases he : e ≠ 0
                · rw [if_pos he] at hR
                  subst hR
                  rw [zFil_row]
                  have hc := Nat.zero_add 0
                  repeat' (first | simp only [hc, AS, TW, NX, SX, l1, hlt, hw, wl, nn, hcl, eln, fM, b1, b2, he, AB, PL, RG, LP, TY, simprocAttr, ↓reduceIte, forall_const, eq_self, ne_eq, Option.some.injEq, beq_self_eq_true] | ((first | apply fin_ndec | apply fin_dec | apply cnd_ndec | apply cnd_dec' | apply fin_nsplit | apply fin_split | apply cnd_nsplit | apply cnd_split) <;> intro hc) | refine seqS_id ?_ | refine blk_exit_id ?_)
                  all_goals rfl
                · have he : e = 0 := Classical.not_not.1 he
                  subst he
                  rw [if_neg (by simp)] at hR
                  have hq' : hq 6 ⟨fr, dst, seq, rs, false, true⟩ = [.box zF, .box zF, .box [.d (.str fr), .d (.str dst), .d (.int .i64 seq), .own 6 (rs.map Rec.row), .d (.bool true)], .box tops5, .box tops5, .box tops5, .tok rs.length 5 none] := by rw [hq, if_neg hr0]; rfl
                  have hc := Nat.zero_add 0
                  repeat' (first | simp only [hc, AS, TW, NX, SX, l1, hlt, hw, wl, nn, hcl, eln, fM, b1, b2, AB, PL, RG, LP, TY, simprocAttr, ↓reduceIte, forall_const, eq_self, ne_eq, Option.some.injEq, beq_self_eq_true] | ((first | apply fin_ndec | apply fin_dec | apply cnd_ndec | apply cnd_dec' | apply fin_nsplit | apply fin_split | apply cnd_nsplit | apply cnd_split) <;> intro hc) | refine seqS_id ?_ | refine blk_exit_id ?_)
                  exact lp_next (j + 1, ⟨fr, dst, seq, rs, false, true⟩, 6) (Wk.cutk (k := 7) (by simp) (by simp) (by dsimp only; rw [hq']; simp [Rec.row]) (by simp [subT, look]) (by simp [AV.low, V.low, C1.low]) (by dsimp only; rw [hq']; simp [Ob.low, C1.low])) ⟨by omega, hx1, rfl, fun h => by omega, .inl rfl, hR⟩ (by omega)
              | rcd r e =>
                rw [ho] at fM hR
                obtain ⟨x1, x2, x3, x4, x5⟩ := r
                simp only [nxP, nxS, nxH, nxB, NxO.err, nkx, rcx, rcy, hqx, pce, List.map_cons, List.map_nil, List.nil_append, List.cons_append, List.append_nil, hr0, if_false, List.set_cons_succ, List.set_cons_zero, Rec.row] at fM
                rw [show (NxO.rcd ⟨x1, x2, x3, x4, x5⟩ e).err = e from rfl] at hR
                by_cases he : e ≠ 0
                · rw [if_pos he] at hR
                  subst hR
                  rw [zFil_row]
                  have hc := Nat.zero_add 0
                  repeat' (first | simp only [hc, AS, TW, NX, SX, l1, hlt, hw, wl, nn, hcl, eln, fM, b1, b2, he, AB, PL, RG, LP, TY, simprocAttr, ↓reduceIte, forall_const, eq_self, ne_eq, Option.some.injEq, beq_self_eq_true] | ((first | apply fin_ndec | apply fin_dec | apply cnd_ndec | apply cnd_dec' | apply fin_nsplit | apply fin_split | apply cnd_nsplit | apply cnd_split) <;> intro hc) | refine seqS_id ?_ | refine blk_exit_id ?_)
                  all_goals rfl
                · have he : e = 0 := Classical.not_not.1 he
                  subst he
                  rw [if_neg (by simp)] at hR
                  have hq' : hq 6 ⟨fr, dst, seq, rs ++ [⟨x1, x2, x3, x4, x5⟩], false, fin⟩ = [.box zF, .box zF, .box [.d (.str fr), .d (.str dst), .d (.int .i64 seq), .own 6 (rs.map Rec.row ++ [[.int .i64 x1, .str x2, .int .i64 x3, .int .i64 x4, .int .i64 x5]]), .d (.bool fin)], .box tops5, .box tops5, .box tops5, .tok (rs.length + 1) 5 none] := by rw [hq, if_neg (by simp)]; simp [pce, Rec.row, List.replicate]
                  obtain ⟨hrl, _⟩ := nxF_rec ho
                  dsimp only at hrl
                  have hc := Nat.zero_add 0
                  repeat' (first | simp only [hc, AS, TW, NX, SX, l1, hlt, hw, wl, nn, hcl, eln, fM, b1, b2, AB, PL, RG, LP, TY, simprocAttr, ↓reduceIte, forall_const, eq_self, ne_eq, Option.some.injEq, beq_self_eq_true] | ((first | apply fin_ndec | apply fin_dec | apply cnd_ndec | apply cnd_dec' | apply fin_nsplit | apply fin_split | apply cnd_nsplit | apply cnd_split) <;> intro hc) | refine seqS_id ?_ | refine blk_exit_id ?_)
                  exact lp_next (j + 1, ⟨fr, dst, seq, rs ++ [(⟨x1, x2, x3, x4, x5⟩ : Rec)], false, fin⟩, 6) (Wk.cutk (k := 7) (by simp) (by simp) (by dsimp only; rw [hq']; simp [Rec.row]) (by simp [subT, look]) (by simp [AV.low, V.low, C1.low]) (by dsimp only; rw [hq']; simp [Ob.low, C1.low])) ⟨by omega, by simp; omega, rfl, fun h => by omega, .inl rfl, hR⟩ (by omega)
        · have hqx : hq 7 ⟨fr, dst, seq, rs, false, fin⟩ = [.box zF, .box zF, .box [.d (.str fr), .d (.str dst), .d (.int .i64 seq), .own 7 (rs.map Rec.row), .d (.bool fin)], .box tops5, .box tops5, .box tops5, .box tops5, .tok rs.length 5 none] := by rw [hq, if_neg hr0]; rfl
          have rcx : rcX 7 rs = .own 7 (rs.map Rec.row) := by rw [rcX, if_neg hr0]
          have rcy : ∀ r, rcX 7 (rs ++ [r]) = .own 7 (rs.map Rec.row ++ [r.row]) := fun r => by unfold rcX; rw [if_neg (by simp)]; simp
          have nkx : ∀ G, nxK 7 ⟨fr, dst, seq, rs, false, fin⟩ G = 7 := fun G => by rw [nxK, if_neg hr0]
          rw [hqx]
          rcases bb with ⟨b1, b2⟩ | ⟨b1, b2⟩
          all_goals
            have hc := Nat.zero_add 0
            repeat' (first | simp only [hc, AS, NX, SX, l1, hlt, hw, wl, nn, hcl, eln, b1, b2, AB, PL, RG, LP, TY, simprocAttr, ↓reduceIte, forall_const, eq_self, ne_eq, Option.some.injEq, beq_self_eq_true] | ((first | apply fin_ndec | apply fin_dec | apply cnd_ndec | apply cnd_dec' | apply fin_nsplit | apply fin_split | apply cnd_nsplit | apply cnd_split) <;> intro hc) | refine seqS_id ?_ | refine blk_exit_id ?_)
            refine awp_two [0, 1, 2, 3, 4, 5] 6 [7, 8, 9, 10, 11, 12] 10 [6, 7, 8, 9, 11, 12] rfl (by kernel_rfl) ?_
            have hc := Nat.zero_add 0
            repeat' (first | simp only [hc, AS, TW, NX, SX, l1, hlt, hw, wl, nn, hcl, eln, b1, b2, AB, PL, RG, LP, TY, simprocAttr, ↓reduceIte, forall_const, eq_self, ne_eq, Option.some.injEq, beq_self_eq_true] | ((first | apply fin_ndec | apply fin_dec | apply cnd_ndec | apply cnd_dec' | apply fin_nsplit | apply fin_split | apply cnd_nsplit | apply cnd_split) <;> intro hc) | refine seqS_id ?_ | refine blk_exit_id ?_)
            refine ⟨?_, ?_⟩
            · cases ho : nxF ⟨fr, dst, seq, rs, false, fin⟩ j ln with
              | same e =>
                rw [ho] at fN hR
                simp only [nxP, nxS, nxH, nxB, NxO.err, nkx, rcx, rcy, hqx, pce, List.map_cons, List.map_nil, List.nil_append, List.cons_append, List.append_nil, hr0, if_false, List.set_cons_succ, List.set_cons_zero] at fN
                have he := nxF_same ho
                rw [show (NxO.same e).err = e from rfl, if_pos he] at hR
                subst hR
                rw [zFil_row]
                have hc := Nat.zero_add 0
                repeat' (first | simp only [hc, AS, TW, NX, SX, l1, hlt, hw, wl, nn, hcl, eln, fN, b1, b2, he, AB, PL, RG, LP, TY, simprocAttr, ↓reduceIte, forall_const, eq_self, ne_eq, Option.some.injEq, beq_self_eq_true] | ((first | apply fin_ndec | apply fin_dec | apply cnd_ndec | apply cnd_dec' | apply fin_nsplit | apply fin_split | apply cnd_nsplit | apply cnd_split) <;> intro hc) | refine seqS_id ?_ | refine blk_exit_id ?_)
                all_goals rfl
              | file f e =>
                exact absurd (hx3 (nxF_file ho).1) hr0
              | last e =>
                rw [ho] at fN hR
                simp only [nxP, nxS, nxH, nxB, NxO.err, nkx, rcx, rcy, hqx, pce, List.map_cons, List.map_nil, List.nil_append, List.cons_append, List.append_nil, hr0, if_false, List.set_cons_succ, List.set_cons_zero] at fN
                rw [show (NxO.last e).err = e from rfl] at hR
                by_cases he : e ≠ 0
                · rw [if_pos he] at hR
                  subst hR
                  rw [zFil_row]
                  have hc := Nat.zero_add 0
                  repeat' (first | simp only [hc, AS, TW, NX, SX, l1, hlt, hw, wl, nn, hcl, eln, fN, b1, b2, he, AB, PL, RG, LP, TY, simprocAttr, ↓reduceIte, forall_const, eq_self, ne_eq, Option.some.injEq, beq_self_eq_true] | ((first | apply fin_ndec | apply fin_dec | apply cnd_ndec | apply cnd_dec' | apply fin_nsplit | apply fin_split | apply cnd_nsplit | apply cnd_split) <;> intro hc) | refine seqS_id ?_ | refine blk_exit_id ?_)
                  all_goals rfl
                · have he : e = 0 := Classical.not_not.1 he
                  subst he
                  rw [if_neg (by simp)] at hR
                  have hq' : hq 7 ⟨fr, dst, seq, rs, false, true⟩ = [.box zF, .box zF, .box [.d (.str fr), .d (.str dst), .d (.int .i64 seq), .own 7 (rs.map Rec.row), .d (.bool true)], .box tops5, .box tops5, .box tops5, .box tops5, .tok rs.length 5 none] := by rw [hq, if_neg hr0]; rfl
                  have hc := Nat.zero_add 0
                  repeat' (first | simp only [hc, AS, TW, NX, SX, l1, hlt, hw, wl, nn, hcl, eln, fN, b1, b2, AB, PL, RG, LP, TY, simprocAttr, ↓reduceIte, forall_const, eq_self, ne_eq, Option.some.injEq, beq_self_eq_true] | ((first | apply fin_ndec | apply fin_dec | apply cnd_ndec | apply cnd_dec' | apply fin_nsplit | apply fin_split | apply cnd_nsplit | apply cnd_split) <;> intro hc) | refine seqS_id ?_ | refine blk_exit_id ?_)
                  exact lp_next (j + 1, ⟨fr, dst, seq, rs, false, true⟩, 7) (Wk.cutk (k := 8) (by simp) (by simp) (by dsimp only; rw [hq']; simp [Rec.row]) (by simp [subT, look]) (by simp [AV.low, V.low, C1.low]) (by dsimp only; rw [hq']; simp [Ob.low, C1.low])) ⟨by omega, hx1, rfl, fun h => by omega, .inr ⟨rfl, hr0⟩, hR⟩ (by omega)
              | rcd r e =>
                rw [ho] at fN hR
                obtain ⟨x1, x2, x3, x4, x5⟩ := r
                simp only [nxP, nxS, nxH, nxB, NxO.err, nkx, rcx, rcy, hqx, pce, List.map_cons, List.map_nil, List.nil_append, List.cons_append, List.append_nil, hr0, if_false, List.set_cons_succ, List.set_cons_zero, Rec.row] at fN
                rw [show (NxO.rcd ⟨x1, x2, x3, x4, x5⟩ e).err = e from rfl] at hR
                by_cases he : e ≠ 0
                · rw [if_pos he] at hR
                  subst hR
                  rw [zFil_row]
                  have hc := Nat.zero_add 0
                  repeat' (first | simp only [hc, AS, TW, NX, SX, l1, hlt, hw, wl, nn, hcl, eln, fN, b1, b2, he, AB, PL, RG, LP, TY, simprocAttr, ↓reduceIte, forall_const, eq_self, ne_eq, Option.some.injEq, beq_self_eq_true] | ((first | apply fin_ndec | apply fin_dec | apply cnd_ndec | apply cnd_dec' | apply fin_nsplit | apply fin_split | apply cnd_nsplit | apply cnd_split) <;> intro hc) | refine seqS_id ?_ | refine blk_exit_id ?_)
                  all_goals rfl
                · have he : e = 0 := Classical.not_not.1 he
                  subst he
                  rw [if_neg (by simp)] at hR
                  have hq' : hq 7 ⟨fr, dst, seq, rs ++ [⟨x1, x2, x3, x4, x5⟩], false, fin⟩ = [.box zF, .box zF, .box [.d (.str fr), .d (.str dst), .d (.int .i64 seq), .own 7 (rs.map Rec.row ++ [[.int .i64 x1, .str x2, .int .i64 x3, .int .i64 x4, .int .i64 x5]]), .d (.bool fin)], .box tops5, .box tops5, .box tops5, .box tops5, .tok (rs.length + 1) 5 none] := by rw [hq, if_neg (by simp)]; simp [pce, Rec.row, List.replicate]
                  obtain ⟨hrl, _⟩ := nxF_rec ho
                  dsimp only at hrl
                  have hc := Nat.zero_add 0
                  repeat' (first | simp only [hc, AS, TW, NX, SX, l1, hlt, hw, wl, nn, hcl, eln, fN, b1, b2, AB, PL, RG, LP, TY, simprocAttr, ↓reduceIte, forall_const, eq_self, ne_eq, Option.some.injEq, beq_self_eq_true] | ((first | apply fin_ndec | apply fin_dec | apply cnd_ndec | apply cnd_dec' | apply fin_nsplit | apply fin_split | apply cnd_nsplit | apply cnd_split) <;> intro hc) | refine seqS_id ?_ | refine blk_exit_id ?_)
                  exact lp_next (j + 1, ⟨fr, dst, seq, rs ++ [(⟨x1, x2, x3, x4, x5⟩ : Rec)], false, fin⟩, 7) (Wk.cutk (k := 8) (by simp) (by simp) (by dsimp only; rw [hq']; simp [Rec.row]) (by simp [subT, look]) (by simp [AV.low, V.low, C1.low]) (by dsimp only; rw [hq']; simp [Ob.low, C1.low])) ⟨by omega, by simp; omega, rfl, fun h => by omega, .inr ⟨rfl, by simp⟩, hR⟩ (by omega)
            · cases ho : nxF ⟨fr, dst, seq, rs, false, fin⟩ j ln with
              | same e =>
                rw [ho] at fM hR
                simp only [nxP, nxS, nxH, nxB, NxO.err, nkx, rcx, rcy, hqx, pce, List.map_cons, List.map_nil, List.nil_append, List.cons_append, List.append_nil, hr0, if_false, List.set_cons_succ, List.set_cons_zero] at fM
                have he := nxF_same ho
                rw [show (NxO.same e).err = e from rfl, if_pos he] at hR
                subst hR
                rw [zFil_row]
                have hc := Nat.zero_add 0
                repeat' (first | simp only [hc, AS, TW, NX, SX, l1, hlt, hw, wl, nn, hcl, eln, fM, b1, b2, he, AB, PL, RG, LP, TY, simprocAttr, ↓reduceIte, forall_const, eq_self, ne_eq, Option.some.injEq, beq_self_eq_true] | ((first | apply fin_ndec | apply fin_dec | apply cnd_ndec | apply cnd_dec' | apply fin_nsplit | apply fin_split | apply cnd_nsplit | apply cnd_split) <;> intro hc) | refine seqS_id ?_ | refine blk_exit_id ?_)
                all_goals rfl
              | file f e =>
                exact absurd (hx3 (nxF_file ho).1) hr0
              | last e =>
                rw [ho] at fM hR
                simp only [nxP, nxS, nxH, nxB, NxO.err, nkx, rcx, rcy, hqx, pce, List.map_cons, List.map_nil, List.nil_append, List.cons_append, List.append_nil, hr0, if_false, List.set_cons_succ, List.set_cons_zero] at fM
                rw [show (NxO.last e).err = e from rfl] at hR
                by_cases he : e ≠ 0
                · rw [if_pos he] at hR
                  subst hR
                  rw [zFil_row]
                  have hc := Nat.zero_add 0
                  repeat' (first | simp only [hc, AS, TW, NX, SX, l1, hlt, hw, wl, nn, hcl, eln, fM, b1, b2, he, AB, PL, RG, LP, TY, simprocAttr, ↓reduceIte, forall_const, eq_self, ne_eq, Option.some.injEq, beq_self_eq_true] | ((first | apply fin_ndec | apply fin_dec | apply cnd_ndec | apply cnd_dec' | apply fin_nsplit | apply fin_split | apply cnd_nsplit | apply cnd_split) <;> intro hc) | refine seqS_id ?_ | refine blk_exit_id ?_)
                  all_goals rfl
                · have he : e = 0 := Classical.not_not.1 he
                  subst he
                  rw [if_neg (by simp)] at hR
                  have hq' : hq 7 ⟨fr, dst, seq, rs, false, true⟩ = [.box zF, .box zF, .box [.d (.str fr), .d (.str dst), .d (.int .i64 seq), .own 7 (rs.map Rec.row), .d (.bool true)], .box tops5, .box tops5, .box tops5, .box tops5, .tok rs.length 5 none] := by rw [hq, if_neg hr0]; rfl
                  have hc := Nat.zero_add 0
                  repeat' (first | simp only [hc, AS, TW, NX, SX, l1, hlt, hw, wl, nn, hcl, eln, fM, b1, b2, AB, PL, RG, LP, TY, simprocAttr, ↓reduceIte, forall_const, eq_self, ne_eq, Option.some.injEq, beq_self_eq_true] | ((first | apply fin_ndec | apply fin_dec | apply cnd_ndec | apply cnd_dec' | apply fin_nsplit | apply fin_split | apply cnd_nsplit | apply cnd_split) <;> intro hc) | refine seqS_id ?_ | refine blk_exit_id ?_)
                  exact lp_next (j + 1, ⟨fr, dst, seq, rs, false, true⟩, 7) (Wk.cutk (k := 8) (by simp) (by simp) (by dsimp only; rw [hq']; simp [Rec.row]) (by simp [subT, look]) (by simp [AV.low, V.low, C1.low]) (by dsimp only; rw [hq']; simp [Ob.low, C1.low])) ⟨by omega, hx1, rfl, fun h => by omega, .inr ⟨rfl, hr0⟩, hR⟩ (by omega)
              | rcd r e =>
                rw [ho] at fM hR
                obtain ⟨x1, x2, x3, x4, x5⟩ := r
                simp only [nxP, nxS, nxH, nxB, NxO.err, nkx, rcx, rcy, hqx, pce, List.map_cons, List.map_nil, List.nil_append, List.cons_append, List.append_nil, hr0, if_false, List.set_cons_succ, List.set_cons_zero, Rec.row] at fM
                rw [show (NxO.rcd ⟨x1, x2, x3, x4, x5⟩ e).err = e from rfl] at hR
                by_cases he : e ≠ 0
                · rw [if_pos he] at hR
                  subst hR
                  rw [zFil_row]
                  have hc := Nat.zero_add 0
                  repeat' (first | simp only [hc, AS, TW, NX, SX, l1, hlt, hw, wl, nn, hcl, eln, fM, b1, b2, he, AB, PL, RG, LP, TY, simprocAttr, ↓reduceIte, forall_const, eq_self, ne_eq, Option.some.injEq, beq_self_eq_true] | ((first | apply fin_ndec | apply fin_dec | apply cnd_ndec | apply cnd_dec' | apply fin_nsplit | apply fin_split | apply cnd_nsplit | apply cnd_split) <;> intro hc) | refine seqS_id ?_ | refine blk_exit_id ?_)
                  all_goals rfl
                · have he : e = 0 := Classical.not_not.1 he
                  subst he
                  rw [if_neg (by simp)] at hR
                  have hq' : hq 7 ⟨fr, dst, seq, rs ++ [⟨x1, x2, x3, x4, x5⟩], false, fin⟩ = [.box zF, .box zF, .box [.d (.str fr), .d (.str dst), .d (.int .i64 seq), .own 7 (rs.map Rec.row ++ [[.int .i64 x1, .str x2, .int .i64 x3, .int .i64 x4, .int .i64 x5]]), .d (.bool fin)], .box tops5, .box tops5, .box tops5, .box tops5, .tok (rs.length + 1) 5 none] := by rw [hq, if_neg (by simp)]; simp [pce, Rec.row, List.replicate]
                  obtain ⟨hrl, _⟩ := nxF_rec ho
                  dsimp only at hrl
                  have hc := Nat.zero_add 0
                  repeat' (first | simp only [hc, AS, TW, NX, SX, l1, hlt, hw, wl, nn, hcl, eln, fM, b1, b2, AB, PL, RG, LP, TY, simprocAttr, ↓reduceIte, forall_const, eq_self, ne_eq, Option.some.injEq, beq_self_eq_true] | ((first | apply fin_ndec | apply fin_dec | apply cnd_ndec | apply cnd_dec' | apply fin_nsplit | apply fin_split | apply cnd_nsplit | apply cnd_split) <;> intro hc) | refine seqS_id ?_ | refine blk_exit_id ?_)
                  exact lp_next (j + 1, ⟨fr, dst, seq, rs ++ [(⟨x1, x2, x3, x4, x5⟩ : Rec)], false, fin⟩, 7) (Wk.cutk (k := 8) (by simp) (by simp) (by dsimp only; rw [hq']; simp [Rec.row]) (by simp [subT, look]) (by simp [AV.low, V.low, C1.low]) (by dsimp only; rw [hq']; simp [Ob.low, C1.low])) ⟨by omega, by simp; omega, rfl, fun h => by omega, .inr ⟨rfl, by simp⟩, hR⟩ (by omega)
    · have hlt : ((j : Int) < (K.length : Int)) = False := eq_false (by omega)
      have hw := wI (n := (K.length : Int) + 1) (by omega) (by omega)
      rw [List.drop_eq_nil_of_le (by omega), prR] at hR
      obtain ⟨fr, dst, seq, rs, beg, fin⟩ := x
      dsimp only at hR
      dsimp only at hk
      by_cases hr0 : rs = []
      · subst hr0
        rw [show hq k ⟨fr, dst, seq, [], beg, fin⟩ = [.box zF, .box zF, .box [.d (.str fr), .d (.str dst), .d (.int .i64 seq), .d (.sl true []), .d (.bool fin)]] from rfl]
        cases fin with
        | true =>
          rw [if_pos rfl] at hR
          subst hR
          have hc := Nat.zero_add 0
          repeat' (first | simp only [hc, AS, NX, SX, l1, hlt, AB, PL, RG, LP, TY, simprocAttr, ↓reduceIte, forall_const, eq_self, ne_eq, Option.some.injEq, beq_self_eq_true] | ((first | apply fin_ndec | apply fin_dec | apply cnd_ndec | apply cnd_dec' | apply fin_nsplit | apply fin_split | apply cnd_nsplit | apply cnd_split) <;> intro hc) | refine seqS_id ?_ | refine blk_exit_id ?_)
          all_goals rfl
        | false =>
          rw [if_neg (by simp)] at hR
          subst hR
          have hc := Nat.zero_add 0
          repeat' (first | simp only [hc, AS, NX, SX, l1, hlt, hw, AB, PL, RG, LP, TY, simprocAttr, ↓reduceIte, forall_const, eq_self, ne_eq, Option.some.injEq, beq_self_eq_true] | ((first | apply fin_ndec | apply fin_dec | apply cnd_ndec | apply cnd_dec' | apply fin_nsplit | apply fin_split | apply cnd_nsplit | apply cnd_split) <;> intro hc) | refine seqS_id ?_ | refine blk_exit_id ?_)
          all_goals rfl
      · rw [show hq k ⟨fr, dst, seq, rs, beg, fin⟩ = .box zF :: .box zF :: .box [.d (.str fr), .d (.str dst), .d (.int .i64 seq), .own k (rs.map Rec.row), .d (.bool fin)] :: (List.replicate (k - 3) (.box tops5) ++ [.tok rs.length 5 none]) by rw [hq, if_neg hr0]; rfl]
        generalize (List.replicate (k - 3) (.box tops5) ++ [.tok rs.length 5 none] : Hp) = T at *
        cases fin with
        | true =>
          rw [if_pos rfl, Rdr.fil, decide_eq_false hr0] at hR
          subst hR
          have hc := Nat.zero_add 0
          repeat' (first | simp only [hc, AS, NX, SX, l1, hlt, AB, PL, RG, LP, TY, simprocAttr, ↓reduceIte, forall_const, eq_self, ne_eq, Option.some.injEq, beq_self_eq_true] | ((first | apply fin_ndec | apply fin_dec | apply cnd_ndec | apply cnd_dec' | apply fin_nsplit | apply fin_split | apply cnd_nsplit | apply cnd_split) <;> intro hc) | refine seqS_id ?_ | refine blk_exit_id ?_)
          all_goals rfl
        | false =>
          rw [if_neg (by simp)] at hR
          subst hR
          have hc := Nat.zero_add 0
          repeat' (first | simp only [hc, AS, NX, SX, l1, hlt, hw, AB, PL, RG, LP, TY, simprocAttr, ↓reduceIte, forall_const, eq_self, ne_eq, Option.some.injEq, beq_self_eq_true] | ((first | apply fin_ndec | apply fin_dec | apply cnd_ndec | apply cnd_dec' | apply fin_nsplit | apply fin_split | apply cnd_nsplit | apply cnd_split) <;> intro hc) | refine seqS_id ?_ | refine blk_exit_id ?_)
          all_goals rfl
  · cases h

end
end Go.Ab
