/-
  Texts of the layer and of the laws, put together: AbA5, AbA6.
-/
import Derived.Test.YtbcklcmhmbfgnaaGreatDoorAbF25
import Derived.Test.YtbcklcmhmbfgnaaGreatDoorAbF15
set_option linter.unusedSimpArgs false
set_option linter.unusedVariables false
set_option maxRecDepth 100000
set_option linter.defProp false
namespace Go.Ab
open Go.RowKit Go.Proofs
noncomputable section
open Classical
theorem bad_all : ∀ {l : List Rec}, firstBad l = 0 → ∀ x ∈ l, rightF x = 0
  | [], _, x, hx => by cases hx
  | y :: l, h, x, hx => by
    unfold firstBad at h
    split at h
    · rename_i hy; exact absurd h hy
    rename_i hy
    rcases List.mem_cons.1 hx with rfl | hx
    · simpa using hy
    exact bad_all h x hx
theorem sumF_ok {l : List Int} (h : (sumF l).2 = 0) : afit (sumF l).1 = true := by
  unfold sumF at h ⊢
  split at h
  · cases h
  split at h
  · split at h
    · rename_i h1 h2 h3
      rw [if_neg h1, if_pos h2, if_pos h3]
      exact h3
    cases h
  cases h
theorem check_ok {f : Fil} (h : checkF f = 0) : headF f = 0 ∧ f.recs.length ≤ 1024 ∧ (∀ x ∈ f.recs, rightF x = 0) ∧ (totF f.recs).2 = 0 ∧ afit (totF f.recs).1 = true := by
  unfold checkF at h
  split at h
  · rename_i h1; exact absurd h h1
  split at h
  · cases h
  split at h
  · rename_i h1; exact absurd h h1
  rename_i h1 h2 h3
  exact ⟨by simpa using h1, by omega, bad_all (by simpa using h3), h, sumF_ok h⟩
theorem name_len {s : List UInt8} (h : nameB s = true) : s.length ≤ 12 := by
  unfold nameB at h
  simp only [Bool.and_eq_true, decide_eq_true_eq] at h
  omega
theorem head_ok {f : Fil} (h : headF f = 0) : nameB f.fr = true ∧ nameB f.dst = true ∧ f.fr ≠ f.dst ∧ 1 ≤ f.seq ∧ f.seq ≤ 2147483648 := by
  unfold headF at h
  split at h
  · cases h
  split at h
  · cases h
  split at h
  · cases h
  rename_i h1 h2 h3
  simp only [not_or, Bool.not_eq_false] at h1
  exact ⟨h1.1, h1.2, h2, by omega, by omega⟩
theorem headLn_ok {f : Fil} (h : headF f = 0) : ∀ p ∈ [[102, 105, 108, 101], f.fr, f.dst, Lib.itoa f.seq], p.length ≤ 256 := by
  obtain ⟨h1, h2, _, h3, h4⟩ := head_ok h
  have a := name_len h1
  have b := name_len h2
  have c := itoa_le (n := f.seq) (inI_iff.2 (by omega))
  exact ale4 (by simp) (by omega) (by omega) (by omega)
theorem endLn_ok {l : List Rec} (h1 : l.length ≤ 1024) (h2 : afit (totF l).1 = true) : ∀ p ∈ [[101, 110, 100], Lib.itoa l.length, showF (totF l).1], p.length ≤ 256 := by
  have a := itoa_le (n := (l.length : Int)) (inI_iff.2 (by omega))
  have h3 := afit_iff.1 h2
  have b := show_le (n := (totF l).1) (inI_iff.2 (by omega))
  exact ale3 (by simp) (by omega) (by omega)
theorem flr_le : ∀ (l : List Rec), (∀ x ∈ l, rightF x = 0) → (l.flatMap recLine).length ≤ 1029 * l.length
  | [], _ => by simp
  | x :: l, h => by
    have := flr_le l (fun y hy => h y (List.mem_cons_of_mem _ hy))
    have hx := (aln_le (rec_pieces (h x List.mem_cons_self)) (by simp)).1
    have hr : recLine x = lineF [wordF x.kind, x.key, Lib.itoa x.time, lastF x] := rfl
    rw [← hr] at hx
    simp only [List.flatMap_cons, List.length_append, List.length_cons, Nat.mul_add, Nat.mul_one]
    omega
theorem takeF {α β : Type} {l : List α} {j : Nat} (h : j < l.length) (f : α → List β) : (l.take (j + 1)).flatMap f = (l.take j).flatMap f ++ f l[j] := by
  rw [List.take_succ_eq_append_getElem h, List.flatMap_append]; simp
def aprint_m : List PA → Option (List PA) := mE encF fun f => if f.Ok then some [.s (printF f).1, .i (printF f).2] else none
theorem bWrite_at {id : Nat} {s : List UInt8} {h : Hp} : bWrite_k [.v (.c (.ptr id 0)), .v (.c (.d (.str s)))] h = bwK h id s (bGet h id) := rfl
theorem bLen_at {id : Nat} {h : Hp} : bLen_k [.v (.c (.ptr id 0))] h = blK h (bGet h id) := rfl
theorem bString_at {id : Nat} {h : Hp} : bString_k [.v (.c (.ptr id 0))] h = bsK h id (bGet h id) := rfl
theorem blK_ok {h : Hp} {l : List UInt8} : blK h (some l) = some (.ret (.i l.length) h) := rfl
theorem bsK_ok {h : Hp} {id : Nat} {l : List UInt8} (h1 : (l = []) = False) : bsK h id (some l) = some (.ret (.s l) (h.set id (bOb l false))) := by
  simp only [bsK, ne_eq, h1, not_false_eq_true, if_true]
theorem bGet2 {cs : List C1} {l : List UInt8} : bGet [.box cs, .bld 64 5 l true] 1 = some l := by simp [bGet, soleB, Ob.isB]
theorem bGet3 {cs ds : List C1} {l : List UInt8} : bGet [.box cs, .bld 64 5 l true, .box ds] 1 = some l := by simp [bGet, soleB, Ob.isB]
theorem new_b : newA (some (64, 5)) 64 [.nilp, .d (.sl true [])] = .bld 64 5 [] true := rfl
theorem new_d {B : Option (TypeId × TypeId)} {e : TypeId} {x : D} {r : List C1} : newA B e (.d x :: r) = .box (.d x :: r) := by
  cases B with
  | none => rfl
  | some p => cases p; rfl
theorem bwK_at {h : Hp} {id : Nat} {s l r : List UInt8} (h1 : l.length + s.length ≤ 140737488355328) (hr : l ++ s = r) : bwK h id s (some l) = some (.ret (.tup [.c (.d (.int .i64 s.length)), .c .nili]) (h.set id (.bld 64 5 r true))) := by
  subst hr
  simp only [bwK, if_pos h1]
def BL := Zk @bWrite_at <| Zk @bLen_at <| Zk @bString_at <| Zk @blK_ok <| Zk @bsK_ok <| Zk @bGet2 <| Zk @bGet3 <| Zk @new_b @new_d
theorem aprint_ok : PureC Tryz.prog Gt 9 aprint_m := by
  refine pure_of_awpS (X := ctxN Tryz.prog Gt [(17, acheck_m), (25, tfmt_m), (24, tjoin_m), (26, aline_m), (27, atotal_m), (28, mshow_m)] [(23, bWrite_k), (29, bLen_k), (30, bString_k)] [] (some (64, 5))) Tryz.func9 rfl rfl (by kernel_rfl) (by kernel_rfl) (kok_n (AllOk.cons acheck_ok (AllOk.cons tfmt_ok (AllOk.cons tjoin_ok (AllOk.cons aline_ok (AllOk.cons atotal_ok (AllOk.cons mshow_ok AllOk.nil)))))) (AllK.cons bWrite_kok (AllK.cons bLen_kok (AllK.cons bString_kok AllK.nil))) AllN.nil) ?_
  intro args r h0
  obtain ⟨f, rfl, h⟩ := mE_inv h0
  refine ⟨Nat.le_of_ble_eq_true rfl, ?_⟩
  split at h
  · rename_i hok
    cases h
    have f1 := acheck_at hok
    have hP : printF f = if checkF f ≠ 0 then ([], checkF f) else if 65536 < (textF f).length then ([], 4) else (textF f, 0) := rfl
    by_cases c1 : checkF f = 0
    · obtain ⟨g1, g2, g3, g4, g5⟩ := check_ok c1
      obtain ⟨_, _, _, n1, n2⟩ := head_ok g1
      rw [if_neg (by simpa using c1)] at hP
      rw [c1] at f1
      have f2 := tfmt_at (n := f.seq) (inI_iff.2 (by omega))
      have f3 := tjoin_at (f := true) (headLn_ok g1) (by simp)
      simp only [List.map_cons, List.map_nil, rowS] at f3
      have hl1 := aln_le (headLn_ok g1) (by simp)
      have f4 := atotal_at (f := f) g2
      have a5 := afit_iff.1 g5
      have f5 := mshow_at (n := (totF f.recs).1) (inI_iff.2 (by omega))
      have f6 := tfmt_at (n := (f.recs.length : Int)) (inI_iff.2 (by omega))
      have f7 := tjoin_at (f := true) (endLn_ok g2 g5) (by simp)
      simp only [List.map_cons, List.map_nil, rowS] at f7
      have hl2 := aln_le (endLn_ok g2 g5) (by simp)
      have hH : headLn f = Lib.join [[102, 105, 108, 101], f.fr, f.dst, Lib.itoa f.seq] [32] ++ [10] := rfl
      have hE : endLn f.recs = Lib.join [[101, 110, 100], Lib.itoa f.recs.length, showF (totF f.recs).1] [32] ++ [10] := rfl
      have hT : textF f = headLn f ++ f.recs.flatMap recLine ++ endLn f.recs := rfl
      have hfl := fun j => flr_le (f.recs.take j) (fun x hx => g3 x (List.mem_of_mem_take hx))
      generalize printF f = R at *
      generalize textF f = T at *
      generalize headLn f = Hd at *
      generalize endLn f.recs = En at *
      generalize Lib.join [[102, 105, 108, 101], f.fr, f.dst, Lib.itoa f.seq] [32] = q1 at *
      generalize Lib.join [[101, 110, 100], Lib.itoa f.recs.length, showF (totF f.recs).1] [32] = q2 at *
      generalize showF (totF f.recs).1 = sh at *
      generalize Lib.itoa f.recs.length = le at *
      generalize (totF f.recs).1 = tt at *
      generalize (totF f.recs).2 = te at *
      obtain ⟨a, b, n, rf, l⟩ := f
      dsimp only at *
      simp only [Fil.row] at f1 f4
      have l1 := @lenR l
      have k1 : (q1.length + 1 ≤ 4611686018427387904) = True := eq_true (by omega)
      have k2 : (q2.length + 1 ≤ 4611686018427387904) = True := eq_true (by omega)
      have k3 := fun h : Hp => bwK_at (h := h) (id := 1) (s := q1 ++ [10]) (l := []) (r := Hd) (by simp; omega) (by rw [hH]; rfl)
      have hHl : Hd.length ≤ 1029 := by rw [hH]; simp; omega
      have hc := Nat.zero_add 0
      repeat' (first | simp only [hc, AS, Tryz.f9, encF, Fil.row, SX, NX, BL, l1, f1, f2, f3, k1, k3, ZZ, simprocAttr, ↓reduceIte] | ((first | apply Za | apply Zb | apply Zc | apply Zd | apply Ze | apply Zf | apply Zg | apply Zh) <;> intro hc) | refine Zi ?_ | refine Zj ?_)
      refine awpS_loop (σ := Nat) (fun j => j ≤ l.length) (fun j => ⟨[(29, AV.i j), (28, AV.i l.length), (27, AV.d (.sl rf (l.map Rec.row))), (5, .v (.c (.ptr 1 0))), (1, .v (.c (.ptr 0 0)))], [.box [.d (.str a), .d (.str b), .d (.int .i64 n), .d (.sl rf (l.map Rec.row))], .bld 64 5 (Hd ++ (l.take j).flatMap recLine) true]⟩) (fun j => l.length - j) 0 (Wk.sub' (by simp [subT, look]) (by simp)) (by simp) ?_
      intro j hj
      have hfj := hfl j
      rw [List.length_take] at hfj
      by_cases hjl : j < l.length
      · have e1 := row_at hjl
        have hlt : ((j : Int) < (l.length : Int)) = True := eq_true (by omega)
        have hw := wI (n := (j : Int) + 1) (by omega) (by omega)
        have f8 := aline_at (g3 _ (List.getElem_mem hjl))
        have hx := (aln_le (rec_pieces (g3 _ (List.getElem_mem hjl))) (by simp)).1
        have hstep := takeF hjl recLine
        have hr : recLine l[j] = lineF [wordF l[j].kind, l[j].key, Lib.itoa l[j].time, lastF l[j]] := rfl
        rw [← hr] at hx
        simp only [Rec.row] at f8
        clear hr
        generalize recLine l[j] = rl at *
        generalize l[j] = x at *
        generalize hq : Hd ++ (l.take j).flatMap recLine = Q at *
        have hQ : Q.length ≤ 1029 + 1029 * 1024 := by
          rw [← hq, List.length_append]
          have : 1029 * min j l.length ≤ 1029 * 1024 := Nat.mul_le_mul_left _ (by omega)
          omega
        have k4 := fun h : Hp => bwK_at (h := h) (id := 1) (s := rl) (l := Q) (by omega) rfl
        have hc := Nat.zero_add 0
        repeat' (first | simp only [hc, AS, SX, NX, BL, l1, e1, hlt, nn, hw, f8, k4, ZZ, simprocAttr, ↓reduceIte] | ((first | apply Za | apply Zb | apply Zc | apply Zd | apply Ze | apply Zf | apply Zg | apply Zh) <;> intro hc) | refine Zi ?_ | refine Zj ?_)
        exact lp_next (j + 1) (Wk.cutk (k := 2) (by simp) (by simp) (by simp [hstep, ← hq]) (by simp [subT, look]) (by simp [AV.low, V.low, C1.low]) (by simp [Ob.low, C1.low])) (by omega) (by omega)
      have hlt : ((j : Int) < (l.length : Int)) = False := eq_false (by omega)
      rw [List.take_of_length_le (by omega)]
      have hfj := hfl l.length
      rw [List.take_length] at hfj
      have hmul : 1029 * l.length ≤ 1029 * 1024 := Nat.mul_le_mul_left _ g2
      generalize hq : Hd ++ l.flatMap recLine = Q at *
      have hQ : Q.length ≤ 1029 + 1029 * 1024 := by rw [← hq, List.length_append]; omega
      have e2 : Q ++ (q2 ++ [10]) = T := by rw [hT, hE]
      have k4 := fun h : Hp => bwK_at (h := h) (id := 1) (s := q2 ++ [10]) (l := Q) (r := T) (by simp; omega) e2
      have l2 : (T.length : Int) = (T.length : Int) := rfl
      have hne : (T = []) = False := eq_false (by rw [← e2]; simp)
      by_cases c2 : 65536 < T.length
      · have c2' : (65536 : Int) < T.length := by omega
        rw [if_pos c2] at hP
        have hc := Nat.zero_add 0
        repeat' (first | simp only [hc, AS, SX, NX, BL, l1, hlt, f4, f5, f6, f7, k2, k4, c2', ZZ, simprocAttr, ↓reduceIte] | ((first | apply Za | apply Zb | apply Zc | apply Zd | apply Ze | apply Zf | apply Zg | apply Zh) <;> intro hc) | refine Zi ?_ | refine Zj ?_)
        all_goals simp [hP, DV.i]
      have c2' : ¬ ((65536 : Int) < T.length) := by omega
      rw [if_neg c2] at hP
      have hc := Nat.zero_add 0
      repeat' (first | simp only [hc, AS, SX, NX, BL, l1, hlt, f4, f5, f6, f7, k2, k4, c2', hne, ZZ, simprocAttr, ↓reduceIte] | ((first | apply Za | apply Zb | apply Zc | apply Zd | apply Ze | apply Zf | apply Zg | apply Zh) <;> intro hc) | refine Zi ?_ | refine Zj ?_)
      all_goals simp [hP, DV.i]
    rw [if_pos c1] at hP
    generalize printF f = R at *
    generalize checkF f = ce at *
    obtain ⟨a, b, n, rf, l⟩ := f
    simp only [Fil.row] at f1
    have hc := Nat.zero_add 0
    repeat' (first | simp only [hc, AS, Tryz.f9, encF, Fil.row, SX, NX, BL, f1, c1, ZZ, simprocAttr, ↓reduceIte] | ((first | apply Za | apply Zb | apply Zc | apply Zd | apply Ze | apply Zf | apply Zg | apply Zh) <;> intro hc) | refine Zi ?_ | refine Zj ?_)
    all_goals simp [hP, DV.i]
  cases h
end
end Go.Ab
namespace Go.Ab
open Go.RowKit Go.Proofs
noncomputable section
open Classical
theorem aprint_at {f : Fil} (h : f.Ok) : aprint_m [.agg f.row] = some [.s (printF f).1, .i (printF f).2] := by
  rw [aprint_m, show ([.agg f.row] : List PA) = encF f from rfl, mE_eq encF_inj, if_pos h]
def encRR (p : (Bool × List Rec) × (Bool × List Rec)) : List PA := [.c (.sl p.1.1 (p.1.2.map Rec.row)), .c (.sl p.2.1 (p.2.2.map Rec.row))]
theorem encRR_inj (a b : (Bool × List Rec) × (Bool × List Rec)) (h : encRR a = encRR b) : a = b := by
  obtain ⟨⟨a1, a2⟩, a3, a4⟩ := a
  obtain ⟨⟨b1, b2⟩, b3, b4⟩ := b
  simp [encRR, mapR_inj] at h
  simp [h]
def encFF (p : Fil × Fil) : List PA := [.agg p.1.row, .agg p.2.row]
theorem encFF_inj (a b : Fil × Fil) (h : encFF a = encFF b) : a = b := by
  obtain ⟨a1, a2⟩ := a
  obtain ⟨b1, b2⟩ := b
  simp only [encFF, List.cons.injEq, DV.agg.injEq, and_true] at h
  rw [Fil.inj _ _ h.1, Fil.inj _ _ h.2]
def sameF (a b : Fil) : Bool := decide (a.fr = b.fr ∧ a.dst = b.dst ∧ a.seq = b.seq ∧ a.recs = b.recs)
def rsamer_m : List PA → Option (List PA) := mE encRR fun p => if decide (p.1.2.length ≤ 1000000000) = true then some [.b (decide (p.1.2 = p.2.2))] else none
def rsame_m : List PA → Option (List PA) := mE encFF fun p => if decide (p.1.recs.length ≤ 1000000000) = true then some [.b (sameF p.1 p.2)] else none
theorem recs_eq {a b : Rec} : ((a.kind == b.kind) && ((a.key == b.key) && ((a.time == b.time) && ((a.cents == b.cents) && ((a.why == b.why) && true))))) = decide (a = b) := by
  obtain ⟨a1, a2, a3, a4, a5⟩ := a
  obtain ⟨b1, b2, b3, b4, b5⟩ := b
  rw [Bool.eq_iff_iff]
  simp
theorem rsamer_ok : PureC Tryz.prog Gt 33 rsamer_m := by
  refine pure_of_awp (X := ctx Tryz.prog Gt []) Tryz.func33 rfl rfl (by kernel_rfl) (by kernel_rfl) AllOk.nil.kok ?_
  intro args r h0
  obtain ⟨⟨⟨f1, l⟩, f2, k⟩, rfl, h⟩ := mE_inv h0
  refine ⟨Nat.le_of_ble_eq_true rfl, ?_⟩
  split at h
  · rename_i hl
    have hl := of_decide_eq_true hl
    dsimp only at hl h
    cases h
    have l1 := @lenR l
    have l2 := @lenR k
    by_cases hlk : l.length = k.length
    · have hlk' : ((l.length : Int) = (k.length : Int)) := by omega
      have hc := Nat.zero_add 0
      repeat' (first | simp only [hc, Tryz.f33, encRR, SX, NW, l1, l2, hlk', ZZ, simprocAttr, ↓reduceIte] | ((first | apply Za | apply Zb | apply Zc | apply Zd | apply Ze | apply Zf | apply Zg | apply Zh) <;> intro hc) | refine Zj ?_)
      rw [← hlk'] at l2
      refine awp_loop (σ := Nat) (fun j => j ≤ l.length ∧ l.take j = k.take j) (fun j => ⟨[(5, AV.i j), (0, AV.d (.sl f1 (l.map Rec.row))), (1, AV.d (.sl f2 (k.map Rec.row)))], []⟩) (fun j => l.length - j) 0 (Wk.sub' (by simp [subT, look]) rfl) (by simp) ?_
      rintro j ⟨hj, hall⟩
      by_cases hjl : j < l.length
      · have hjk : j < k.length := by omega
        have e1 := row_at hjl
        have e2 := row_at hjk
        have hlt : ((j : Int) < (l.length : Int)) = True := eq_true (by omega)
        have hw := wI (n := (j : Int) + 1) (by omega) (by omega)
        have hne : l[j] ≠ k[j] → l ≠ k := fun h e => h (by subst e; rfl)
        have hnx : l[j] = k[j] → l.take (j + 1) = k.take (j + 1) := fun h => by
          rw [List.take_succ_eq_append_getElem hjl, List.take_succ_eq_append_getElem hjk, hall, h]
        have hq := @recs_eq l[j] k[j]
        generalize l[j] = x at *
        generalize k[j] = y at *
        by_cases hxy : x = y
        · rw [decide_eq_true hxy] at hq
          have hc := Nat.zero_add 0
          repeat' (first | simp only [hc, SX, NW, l1, l2, e1, e2, hlt, nn, hw, hq, ZZ, simprocAttr, ↓reduceIte] | ((first | apply Za | apply Zb | apply Zc | apply Zd | apply Ze | apply Zf | apply Zg | apply Zh) <;> intro hc) | refine Zj ?_)
          exact lp_next (j + 1) (Wk.sub' (by simp [subT, look]) rfl) ⟨by omega, hnx hxy⟩ (by omega)
        rw [decide_eq_false hxy] at hq
        have hn := hne hxy
        have hc := Nat.zero_add 0
        repeat' (first | simp only [hc, SX, NW, l1, l2, e1, e2, hlt, nn, hw, hq, ZZ, simprocAttr, ↓reduceIte] | ((first | apply Za | apply Zb | apply Zc | apply Zd | apply Ze | apply Zf | apply Zg | apply Zh) <;> intro hc) | refine Zj ?_)
        all_goals simp [hn, DV.b]
      have hlt : ((j : Int) < (l.length : Int)) = False := eq_false (by omega)
      rw [List.take_of_length_le (by omega), List.take_of_length_le (by omega)] at hall
      have hc := Nat.zero_add 0
      repeat' (first | simp only [hc, SX, NW, l1, l2, hlt, ZZ, simprocAttr, ↓reduceIte] | ((first | apply Za | apply Zb | apply Zc | apply Zd | apply Ze | apply Zf | apply Zg | apply Zh) <;> intro hc) | refine Zj ?_)
      all_goals simp [hall, DV.b]
    have hlk' : ((l.length : Int) = (k.length : Int)) = False := eq_false (by omega)
    have hn : l ≠ k := fun e => hlk (by rw [e])
    have hc := Nat.zero_add 0
    repeat' (first | simp only [hc, Tryz.f33, encRR, SX, NW, l1, l2, hlk', ZZ, simprocAttr, ↓reduceIte] | ((first | apply Za | apply Zb | apply Zc | apply Zd | apply Ze | apply Zf | apply Zg | apply Zh) <;> intro hc) | refine Zj ?_)
    all_goals simp [hn, DV.b]
  cases h
theorem rsamer_at {f1 f2 : Bool} {l k : List Rec} (h : l.length ≤ 1000000000) : rsamer_m [.c (.sl f1 (l.map Rec.row)), .c (.sl f2 (k.map Rec.row))] = some [.b (decide (l = k))] := by
  rw [rsamer_m, show ([.c (.sl f1 (l.map Rec.row)), .c (.sl f2 (k.map Rec.row))] : List PA) = encRR ((f1, l), f2, k) from rfl, mE_eq encRR_inj, if_pos (decide_eq_true h)]
theorem rsame_ok : PureC Tryz.prog Gt 11 rsame_m := by
  refine pure_of_awp (X := ctx Tryz.prog Gt [(33, rsamer_m)]) Tryz.func11 rfl rfl (by kernel_rfl) (by kernel_rfl) (AllOk.cons rsamer_ok AllOk.nil).kok ?_
  intro args r h0
  obtain ⟨⟨⟨a1, b1, n1, r1, l⟩, a2, b2, n2, r2, k⟩, rfl, h⟩ := mE_inv h0
  refine ⟨Nat.le_of_ble_eq_true rfl, ?_⟩
  split at h
  · rename_i hl
    have hl := of_decide_eq_true hl
    dsimp only at hl h
    cases h
    have f1 := rsamer_at (f1 := r1) (f2 := r2) (k := k) hl
    unfold sameF
    dsimp only
    by_cases c1 : a1 = a2
    · have c1' : (a1 == a2) = true := by simp [c1]
      by_cases c2 : b1 = b2
      · have c2' : (b1 == b2) = true := by simp [c2]
        by_cases c3 : n1 = n2
        · by_cases c4 : l = k
          · rw [decide_eq_true c4] at f1
            have hc := Nat.zero_add 0
            repeat' (first | simp only [hc, Tryz.f11, encFF, Fil.row, SX, f1, c1', c2', c3, ZZ, simprocAttr, ↓reduceIte] | ((first | apply Za | apply Zb | apply Zc | apply Zd | apply Ze | apply Zf | apply Zg | apply Zh) <;> intro hc) | refine Zj ?_)
            all_goals simp [c1, c2, c3, c4, DV.b]
          rw [decide_eq_false c4] at f1
          have hc := Nat.zero_add 0
          repeat' (first | simp only [hc, Tryz.f11, encFF, Fil.row, SX, f1, c1', c2', c3, ZZ, simprocAttr, ↓reduceIte] | ((first | apply Za | apply Zb | apply Zc | apply Zd | apply Ze | apply Zf | apply Zg | apply Zh) <;> intro hc) | refine Zj ?_)
          all_goals simp [c1, c2, c3, c4, DV.b]
        · skip
          have hc := Nat.zero_add 0
          repeat' (first | simp only [hc, Tryz.f11, encFF, Fil.row, SX, f1, c1', c2', c3, ZZ, simprocAttr, ↓reduceIte] | ((first | apply Za | apply Zb | apply Zc | apply Zd | apply Ze | apply Zf | apply Zg | apply Zh) <;> intro hc) | refine Zj ?_)
          all_goals simp [c1, c2, c3, DV.b]
      have c2' : (b1 == b2) = false := by simp [c2]
      have hc := Nat.zero_add 0
      repeat' (first | simp only [hc, Tryz.f11, encFF, Fil.row, SX, f1, c1', c2', ZZ, simprocAttr, ↓reduceIte] | ((first | apply Za | apply Zb | apply Zc | apply Zd | apply Ze | apply Zf | apply Zg | apply Zh) <;> intro hc) | refine Zj ?_)
      all_goals simp [c1, c2, DV.b]
    have c1' : (a1 == a2) = false := by simp [c1]
    have hc := Nat.zero_add 0
    repeat' (first | simp only [hc, Tryz.f11, encFF, Fil.row, SX, f1, c1', ZZ, simprocAttr, ↓reduceIte] | ((first | apply Za | apply Zb | apply Zc | apply Zd | apply Ze | apply Zf | apply Zg | apply Zh) <;> intro hc) | refine Zj ?_)
    all_goals simp [c1, DV.b]
  cases h
theorem rsame_at {a b : Fil} (h : a.recs.length ≤ 1000000000) : rsame_m [.agg a.row, .agg b.row] = some [.b (sameF a b)] := by
  rw [rsame_m, show ([.agg a.row, .agg b.row] : List PA) = encFF (a, b) from rfl, mE_eq encFF_inj, if_pos (decide_eq_true h)]
end
end Go.Ab
