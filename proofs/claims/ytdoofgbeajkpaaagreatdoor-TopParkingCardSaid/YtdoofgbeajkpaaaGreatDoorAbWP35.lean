/-
  Texts of the layer and of the laws, put together: AbJ2, AbJ3, AbJ4.
-/
import Derived.Test.YtdoofgbeajkpaaaGreatDoorAbWP34
import Derived.Test.YtdoofgbeajkpaaaGreatDoorAbWP32
set_option linter.unusedSimpArgs false
set_option linter.unusedVariables false
set_option maxRecDepth 100000
namespace Go.Ab
open Go.RowKit Go.Proofs
def rowLs (q : Bool × List Iv) : List D := [.sl q.1 (q.2.map rwI)]
theorem rowLs_inj (a b : Bool × List Iv) (h : rowLs a = rowLs b) : a = b := by
  obtain ⟨a1, a2⟩ := a
  obtain ⟨b1, b2⟩ := b
  simp only [rowLs, List.cons.injEq, D.sl.injEq, and_true] at h
  rw [h.1, mapIv_inj.1 h.2]
theorem lenLs {ls : List (Bool × List Iv)} : ((ls.map rowLs).length : Int) = ls.length := by simp
theorem lenIv {l : List Iv} : ((l.map rwI).length : Int) = l.length := by simp
theorem iv_at {l : List Iv} {j : Nat} (h : j < l.length) : (l.map rwI)[j]? = some [.int .i64 l[j].1, .int .i64 l[j].2] := by simp [h, rwI]
def encLs (p : Bool × List (Bool × List Iv)) : List PA := [.c (.sl p.1 (p.2.map rowLs))]
theorem encLs_inj (a b : Bool × List (Bool × List Iv)) (h : encLs a = encLs b) : a = b := by
  obtain ⟨a1, a2⟩ := a
  obtain ⟨b1, b2⟩ := b
  simp only [encLs, List.cons.injEq, DV.c.injEq, D.sl.injEq, and_true] at h
  rw [h.1, map_inj rowLs_inj h.2]
def catL (ls : List (Bool × List Iv)) : List Iv := ls.flatMap (·.2)
def accL (ls : List (Bool × List Iv)) (j : Nat) : List Iv := (catL (ls.take j)).filter ivOk
theorem catL_take {ls : List (Bool × List Iv)} {j : Nat} (h : j < ls.length) : catL (ls.take (j + 1)) = catL (ls.take j) ++ ls[j].2 := by
  rw [List.take_succ_eq_append_getElem h, catL, List.flatMap_append]
  simp [catL]
theorem catL_le (ls : List (Bool × List Iv)) (j : Nat) : (catL (ls.take j)).length ≤ (catL ls).length := by
  conv => rhs; rw [← List.take_append_drop j ls, catL, List.flatMap_append, List.length_append]
  exact Nat.le_add_right _ _
theorem take_filter {l : List Iv} {i : Nat} (h : i < l.length) : (l.take (i + 1)).filter ivOk = (l.take i).filter ivOk ++ if ivOk l[i] = true then [l[i]] else [] := by
  rw [List.take_succ_eq_append_getElem h, List.filter_append]
  congr 1
  simp [List.filter_cons]
theorem mkM_len {r : List Iv} {i : Iv} : (mkM r i).length ≤ r.length + 1 := by
  cases r with
  | nil => simp [mkM]
  | cons p r => simp only [mkM]; split <;> simp
theorem foldM_len : ∀ {q r : List Iv}, (q.foldl mkM r).length ≤ r.length + q.length
  | [], r => by simp
  | i :: q, r => by
    have h1 := @foldM_len q (mkM r i)
    have h2 := @mkM_len r i
    rw [List.foldl_cons, List.length_cons]
    omega
theorem icd_low {n : Nat} : ∀ {l : List Iv}, (icd l).all (C1.low n) = true
  | [] => rfl
  | x :: l => by
    rw [icd, List.flatMap_cons, List.all_append, Bool.and_eq_true]
    exact ⟨rfl, icd_low⟩
theorem tokI_low {n m k : Nat} {l : List Iv} : Ob.low k (.tok n m (some (icd l))) = true := icd_low
noncomputable section
open Classical
def sjoin_m : List PA → Option (List PA) := mE encLs fun p => if (catL p.2).length ≤ 1000000 ∧ p.2.length ≤ 1000000 then some [.c (.sl false ((joinF (catL p.2)).map rwI))] else none
set_option maxHeartbeats 1000000 in
theorem sjoin_ok : PureC Tryz.prog Gt 105 sjoin_m := by
  refine pure_of_awpSW (X := ctxN Tryz.prog Gt [(59, spv_m)] [(130, sfIv_k)] [] none) Tryz.func105 rfl rfl (by kernel_rfl) (by kernel_rfl) (kok_n (AllOk.cons spv_ok AllOk.nil) (AllK.cons sfIv_kok AllK.nil) AllN.nil) ?_
  intro args r h0
  obtain ⟨⟨f, ls⟩, rfl, h⟩ := mE_inv h0
  refine ⟨Nat.le_of_ble_eq_true rfl, ?_⟩
  split at h
  · rename_i hl
    dsimp only at hl h
    obtain ⟨hl, hls⟩ := hl
    simp only [Option.some.injEq] at h
    have l1 := @lenLs ls
    have hc := Nat.zero_add 0
    repeat' (first | simp only [hc, AS, Tryz.f105, encLs, NX, NPV, SX, l1, ZZ, simprocAttr, ↓reduceIte] | ((first | apply Za | apply Zb | apply Zc | apply Zd | apply Ze | apply Zf | apply Zg | apply Zh) <;> intro hc) | refine Zi ?_ | refine Zj ?_)
    refine awpS_loop (σ := Nat) (fun j => j ≤ ls.length) (fun j => ⟨[(14, AV.i j), (13, AV.i ls.length), (12, AV.d (.sl f (ls.map rowLs))), (3, .v (.c (.msl 0 (accL ls j).length)))], [.tok (accL ls j).length 2 (some (icd (accL ls j)))]⟩) (fun j => ls.length - j) 0 ((Wk.msl 3 2 (by decide) (by simp [look])).trans (Wk.sub' (by simp [subT, look, accL, catL]) rfl)) (Nat.zero_le _) ?_
    intro j hj
    have hA0 : (accL ls j).length ≤ 1000000 := Nat.le_trans (List.length_filter_le _ _) (Nat.le_trans (catL_le ls j) hl)
    by_cases hjl : j < ls.length
    · have e1 : (ls.map rowLs)[j]? = some [.sl ls[j].1 (ls[j].2.map rwI)] := by simp [hjl, rowLs]
      have hlt : ((j : Int) < (ls.length : Int)) = True := eq_true (by omega)
      have hc1 := catL_take hjl
      have hc2 := catL_le ls (j + 1)
      have hAn : accL ls (j + 1) = accL ls j ++ ls[j].2.filter ivOk := by rw [accL, hc1, List.filter_append, accL]
      have hlen : (accL ls j).length + ls[j].2.length ≤ 1000000 := by
        have : (accL ls j).length ≤ (catL (ls.take j)).length := List.length_filter_le _ _
        rw [hc1, List.length_append] at hc2
        omega
      have hw := wI (n := (j : Int) + 1) (by omega) (by omega)
      generalize accL ls j = A at *
      generalize ls[j] = q at *
      obtain ⟨g, l⟩ := q
      dsimp only at *
      have l2 := @lenIv l
      have hc := Nat.zero_add 0
      repeat' (first | simp only [hc, AS, NX, NPV, SX, l1, l2, e1, hlt, nn, ZZ, simprocAttr, ↓reduceIte] | ((first | apply Za | apply Zb | apply Zc | apply Zd | apply Ze | apply Zf | apply Zg | apply Zh) <;> intro hc) | refine Zi ?_ | refine Zj ?_)
      refine awpS_loop (σ := Nat) (fun i => i ≤ l.length) (fun i => ⟨[(20, AV.i i), (19, AV.i l.length), (18, AV.d (.sl g (l.map rwI))), (14, AV.i j), (13, AV.i ls.length), (12, AV.d (.sl f (ls.map rowLs))), (3, .v (.c (.msl 0 (A ++ (l.take i).filter ivOk).length)))], [.tok (A ++ (l.take i).filter ivOk).length 2 (some (icd (A ++ (l.take i).filter ivOk)))]⟩) (fun i => l.length - i) 0 (Wk.sub' (by simp [subT, look]) (by simp)) (Nat.zero_le _) ?_
      intro i hi
      by_cases hil : i < l.length
      · have e2 := iv_at hil
        have hlt2 : ((i : Int) < (l.length : Int)) = True := eq_true (by omega)
        have hw2 := wI (n := (i : Int) + 1) (by omega) (by omega)
        have hnx := take_filter hil
        have hBl : (A ++ (l.take i).filter ivOk).length ≤ 1000000 := by
          have : ((l.take i).filter ivOk).length ≤ l.length := Nat.le_trans (List.length_filter_le _ _) (by simp; omega)
          rw [List.length_append]
          omega
        have hB' : A ++ (l.take (i + 1)).filter ivOk = A ++ (l.take i).filter ivOk ++ if ivOk l[i] = true then [l[i]] else [] := by rw [hnx, List.append_assoc]
        generalize A ++ (l.take i).filter ivOk = B at *
        generalize l[i] = x at *
        obtain ⟨a, b⟩ := x
        have f1 := @spv_at (a, b)
        simp only [rwI] at f1
        by_cases hv : ivOk (a, b) = true
        · have hb1 : ((B.length + 1) * 16 ≤ 140737488355328) = True := eq_true (by omega)
          have hb2 : (B.length + 1 ≤ 4611686018427387904) = True := eq_true (by omega)
          have hsn : icd B ++ [.d (.int .i64 a), .d (.int .i64 b)] = icd (B ++ [(a, b)]) := (icd_snoc (l := B) (x := (a, b))).symm
          rw [hv] at f1
          rw [if_pos hv] at hB'
          have hc := Nat.zero_add 0
          repeat' (first | simp only [hc, AS, NX, NPV, SX, HX, l2, hlt2, nn, e2, hw2, f1, hb1, hb2, hsn, ZZ, simprocAttr, ↓reduceIte] | ((first | apply Za | apply Zb | apply Zc | apply Zd | apply Ze | apply Zf | apply Zg | apply Zh) <;> intro hc) | refine Zi ?_ | refine Zj ?_)
          refine lp_next (i + 1) ?_ (by omega) (by omega)
          rw [hB']
          exact Wk.cutk (k := 1) (by decide) (by simp) (by simp) (by simp [subT, look]) (by simp [AV.low, V.low, C1.low]) (by simp only [List.all_cons, List.all_nil, tokI_low, Bool.and_self])
        have hv' : ivOk (a, b) = false := by simpa using hv
        rw [hv'] at f1
        rw [if_neg hv, List.append_nil] at hB'
        have hc := Nat.zero_add 0
        repeat' (first | simp only [hc, AS, NX, NPV, SX, HX, l2, hlt2, nn, e2, hw2, f1, ZZ, simprocAttr, ↓reduceIte] | ((first | apply Za | apply Zb | apply Zc | apply Zd | apply Ze | apply Zf | apply Zg | apply Zh) <;> intro hc) | refine Zi ?_ | refine Zj ?_)
        refine lp_next (i + 1) ?_ (by omega) (by omega)
        rw [hB']
        exact Wk.cutk (k := 1) (by decide) (by simp) (by simp) (by simp [subT, look]) (by simp [AV.low, V.low, C1.low]) (by simp only [List.all_cons, List.all_nil, tokI_low, Bool.and_self])
      have hlt2 : ((i : Int) < (l.length : Int)) = False := eq_false (by omega)
      have hc := Nat.zero_add 0
      repeat' (first | simp only [hc, AS, NX, NPV, SX, HX, l2, hlt2, nn, hw, ZZ, simprocAttr, ↓reduceIte] | ((first | apply Za | apply Zb | apply Zc | apply Zd | apply Ze | apply Zf | apply Zg | apply Zh) <;> intro hc) | refine Zi ?_ | refine Zj ?_)
      refine lp_next (j + 1) ?_ (by omega) (by omega)
      rw [List.take_of_length_le (by omega : l.length ≤ i), hAn]
      exact Wk.sub' (by simp [subT, look]) rfl
    have hlt : ((j : Int) < (ls.length : Int)) = False := eq_false (by omega)
    have hA : accL ls j = (catL ls).filter ivOk := by rw [show j = ls.length by omega, accL, List.take_length]
    rw [hA] at hA0 ⊢
    have hJ := srtI_join (catL ls)
    generalize joinF (catL ls) = J at *
    clear hA
    generalize (catL ls).filter ivOk = A at *
    have f1 := sfIv_at (h := [.tok A.length 2 (some (icd A))]) (id := 0) (L := A) rfl (by omega)
    have hql := srtI_len A
    generalize srtI A = q at *
    have hc := Nat.zero_add 0
    repeat' (first | simp only [hc, AS, NX, NPV, SX, HX, l1, hlt, f1, ZZ, simprocAttr, ↓reduceIte] | ((first | apply Za | apply Zb | apply Zc | apply Zd | apply Ze | apply Zf | apply Zg | apply Zh) <;> intro hc) | refine Zi ?_ | refine Zj ?_)
    refine awpS_loop (σ := Nat) (fun k => k ≤ q.length) (fun k => ⟨[(36, AV.i k), (35, AV.i A.length), (34, .v (.c (.msl 0 A.length))), (8, .v (.c (.msl 1 ((q.take k).foldl mkM []).reverse.length)))], [.tok A.length 2 (some (icd q)), .tok ((q.take k).foldl mkM []).reverse.length 2 (some (icd ((q.take k).foldl mkM []).reverse))]⟩) (fun k => q.length - k) 0 ((Wk.msl 8 2 (by decide) (by simp [look])).trans (Wk.sub' (by simp [subT, look]) (by simp))) (Nat.zero_le _) ?_
    intro k hk
    have hrl : ((q.take k).foldl mkM []).length ≤ k := by
      have := @foldM_len (q.take k) []
      simp only [List.length_take, List.length_nil] at this
      omega
    by_cases hkl : k < q.length
    · have hx : q[k]? = some q[k] := List.getElem?_eq_getElem hkl
      have hstep : (q.take (k + 1)).foldl mkM [] = mkM ((q.take k).foldl mkM []) q[k] := foldl_take hkl
      have hlt2 : ((k : Int) < (A.length : Int)) = True := eq_true (by omega)
      have hw2 := wI (n := (k : Int) + 1) (by omega) (by omega)
      have hle : (k * 2 + 2 ≤ (icd q).length) = True := eq_true (by rw [icd_len]; omega)
      generalize q[k] = x at *
      generalize (q.take k).foldl mkM [] = r at *
      obtain ⟨a, b⟩ := x
      have d1 : ((icd q).drop (k * 2)).take 2 = [.d (.int .i64 a), .d (.int .i64 b)] := fm_at rowIC_len hx
      cases r with
      | nil =>
        have hc := Nat.zero_add 0
        repeat' (first | simp only [hc, AS, NX, NPV, SX, HX, hlt2, nn, d1, hle, hw2, Int.toNat_natCast, List.reverse_nil, List.length_nil, ZZ, simprocAttr, ↓reduceIte] | ((first | apply Za | apply Zb | apply Zc | apply Zd | apply Ze | apply Zf | apply Zg | apply Zh) <;> intro hc) | refine Zi ?_ | refine Zj ?_)
        refine lp_next (k + 1) ?_ (by omega) (by omega)
        rw [hstep]
        exact Wk.cutk (k := 2) (by decide) (by simp) (by simp [mkM, rowIC]) (by simp [subT, look, mkM]) (by simp [AV.low, V.low, C1.low]) (by simp only [List.all_cons, List.all_nil, tokI_low, Bool.and_self])
      | cons p r =>
        obtain ⟨c, e⟩ := p
        have hO : ((c, e) :: r).reverse = r.reverse ++ [(c, e)] := List.reverse_cons
        have hOl : (r.reverse ++ [(c, e)]).length = r.length + 1 := by simp
        rw [hO]
        have hrl : r.length + 1 ≤ k := hrl
        have hy : (r.reverse ++ [(c, e)])[r.length]? = some (c, e) := by simp
        have q1 : ((0 : Int) < ((r.reverse ++ [(c, e)]).length : Int)) = True := eq_true (by omega)
        have q2 : IntKind.i64.wrap (((r.reverse ++ [(c, e)]).length : Int) - 1) = (r.length : Int) := by
          rw [wI (by omega) (by omega)]; omega
        have q3 : ((r.length : Int) < ((r.reverse ++ [(c, e)]).length : Int)) = True := eq_true (by omega)
        have q5 : (icd (r.reverse ++ [(c, e)]))[r.length * 2 + 1]? = some (.d (.int .i64 e)) := fm_cell rowIC_len hy (by decide)
        by_cases hab : a ≤ e
        · have q7 : ∀ h z, stP h 1 (r.length * 2 + 1) (r.reverse ++ [(c, e)]).length 2 (icd (r.reverse ++ [(c, e)])) (some [.d (.int .i64 z)]) (some 1) = some (h.set 1 (.tok (r.reverse ++ [(c, e)]).length 2 (some (icd (r.reverse ++ [(c, z)]))))) := fun h z => by
            rw [stP_fm (x' := (c, z)) rowIC_len hy (by decide) rfl]
            simp
          have hmx : (if b > e then b else e) = max e b := by split <;> omega
          have hm : mkM ((c, e) :: r) (a, b) = (c, max e b) :: r := if_pos hab
          rw [hm] at hstep
          have hab' := eq_true hab
          have hc := Nat.zero_add 0
          repeat' (first | simp only [hc, AS, NX, NPV, SX, HX, hlt2, nn, d1, hle, hw2, Int.toNat_natCast, q1, q2, q3, q5, q7, hab', hmx, ZZ, simprocAttr, ↓reduceIte] | ((first | apply Za | apply Zb | apply Zc | apply Zd | apply Ze | apply Zf | apply Zg | apply Zh) <;> intro hc) | refine Zi ?_ | refine Zj ?_)
          refine lp_next (k + 1) ?_ (by omega) (by omega)
          rw [hstep, List.reverse_cons]
          exact Wk.cutk (k := 2) (by decide) (by simp) (by simp) (by simp [subT, look]) (by simp [AV.low, V.low, C1.low]) (by simp only [List.all_cons, List.all_nil, tokI_low, Bool.and_self])
        have hab' := eq_false hab
        have hm : mkM ((c, e) :: r) (a, b) = (a, b) :: (c, e) :: r := if_neg hab
        rw [hm] at hstep
        have hb1 : (((r.reverse ++ [(c, e)]).length + 1) * 16 ≤ 140737488355328) = True := eq_true (by omega)
        have hb2 : ((r.reverse ++ [(c, e)]).length + 1 ≤ 4611686018427387904) = True := eq_true (by omega)
        have hsn : icd (r.reverse ++ [(c, e)]) ++ [.d (.int .i64 a), .d (.int .i64 b)] = icd (r.reverse ++ [(c, e)] ++ [(a, b)]) := (icd_snoc (x := (a, b))).symm
        have hc := Nat.zero_add 0
        repeat' (first | simp only [hc, AS, NX, NPV, SX, HX, hlt2, nn, d1, hle, hw2, Int.toNat_natCast, q1, q2, q3, q5, hab', hb1, hb2, hsn, ZZ, simprocAttr, ↓reduceIte] | ((first | apply Za | apply Zb | apply Zc | apply Zd | apply Ze | apply Zf | apply Zg | apply Zh) <;> intro hc) | refine Zi ?_ | refine Zj ?_)
        refine lp_next (k + 1) ?_ (by omega) (by omega)
        rw [hstep, List.reverse_cons, hO]
        exact Wk.cutk (k := 2) (by decide) (by simp) (by simp) (by simp [subT, look]) (by simp [AV.low, V.low, C1.low]) (by simp only [List.all_cons, List.all_nil, tokI_low, Bool.and_self])
    have hlt2 : ((k : Int) < (A.length : Int)) = False := eq_false (by omega)
    rw [List.take_of_length_le (by omega : q.length ≤ k), hJ]
    have hc := Nat.zero_add 0
    repeat' (first | simp only [hc, AS, NX, NPV, SX, HX, hlt2, ZZ, simprocAttr, ↓reduceIte] | ((first | apply Za | apply Zb | apply Zc | apply Zd | apply Ze | apply Zf | apply Zg | apply Zh) <;> intro hc) | refine Zi ?_ | refine Zj ?_)
    rw [← h]
    have hfr := Wk.freezeC (n := 0) (t := [(2, .v (.c (.msl 1 J.length)))]) (h := [.tok A.length 2 (some (icd q)), .tok J.length 2 (some (icd J))]) 2 1 J.length 2 (icd J) _ (by simp [look]) rfl (icd_allD _)
    rw [chunk_enc] at hfr
    exact ⟨_, (Wk.sub' (by simp [subT, look]) rfl).trans hfr, rfl⟩
  cases h
theorem sjoin_at {f : Bool} {ls : List (Bool × List Iv)} (h1 : (catL ls).length ≤ 1000000) (h2 : ls.length ≤ 1000000) : sjoin_m [.c (.sl f (ls.map rowLs))] = some [.c (.sl false ((joinF (catL ls)).map rwI))] := by
  have := mE_eq encLs_inj (g := fun p => if (catL p.2).length ≤ 1000000 ∧ p.2.length ≤ 1000000 then some [DV.c (.sl false ((joinF (catL p.2)).map rwI))] else none) (a := (f, ls))
  exact this.trans (if_pos ⟨h1, h2⟩)
end
end Go.Ab
namespace Go.Ab
open Go.RowKit Go.Proofs
def encVV (p : (Bool × List Iv) × (Bool × List Iv)) : List PA := [.c (.sl p.1.1 (p.1.2.map rwI)), .c (.sl p.2.1 (p.2.2.map rwI))]
theorem encVV_inj (a b : (Bool × List Iv) × (Bool × List Iv)) (h : encVV a = encVV b) : a = b := by
  obtain ⟨⟨a1, a2⟩, a3, a4⟩ := a
  obtain ⟨⟨b1, b2⟩, b3, b4⟩ := b
  simp only [encVV, List.cons.injEq, DV.c.injEq, D.sl.injEq, and_true] at h
  obtain ⟨⟨h1, h2⟩, h3, h4⟩ := h
  rw [h1, mapIv_inj.1 h2, h3, mapIv_inj.1 h4]
def twoV (p : (Bool × List Iv) × (Bool × List Iv)) : Prop := p.1.2.length ≤ 400000 ∧ p.2.2.length ≤ 400000
theorem joinF_len {l : List Iv} : (joinF l).length ≤ l.length := by
  have h1 := @foldM_len (sortI (l.filter ivOk)) []
  have h2 : (sortI (l.filter ivOk)).length = (l.filter ivOk).length := sortI_perm.length_eq
  have h3 := List.length_filter_le ivOk l
  rw [joinF, List.length_reverse]
  simp only [List.length_nil] at h1
  omega
theorem gapsF_len : ∀ {l : List Iv} {n : Int}, (gapsF n l).length = l.length + 1
  | [], _ => rfl
  | i :: l, n => by rw [gapsF, List.length_cons, gapsF_len, List.length_cons]
theorem meetF_len : ∀ {a b : List Iv}, (meetF a b).length ≤ a.length + b.length
  | [], b => by rw [meetF_nil]; simp
  | x :: a, [] => by rw [meetF_nil']; simp
  | x :: a, y :: b => by
    rw [meetF_cons]
    have h1 := @meetF_len a (y :: b)
    have h2 := @meetF_len (x :: a) b
    simp only [List.length_cons] at h1 h2 ⊢
    split <;> split <;> (try simp only [List.length_cons]) <;> omega
termination_by a b => a.length + b.length
theorem drop_cons {α : Type} {l : List α} {i : Nat} (h : i < l.length) : l.drop i = l[i] :: l.drop (i + 1) := List.drop_eq_getElem_cons h
noncomputable section
open Classical
def sunion_m : List PA → Option (List PA) := mE encVV fun p => if twoV p then some [.c (.sl false ((joinF (p.1.2 ++ p.2.2)).map rwI))] else none
def smeet_m : List PA → Option (List PA) := mE encVV fun p => if p.1.2.length ≤ 1000000 ∧ p.2.2.length ≤ 1000000 then some [.c (.sl false ((meetJ p.1.2 p.2.2).map rwI))] else none
def sminus_m : List PA → Option (List PA) := mE encVV fun p => if twoV p then some [.c (.sl false ((minusJ p.1.2 p.2.2).map rwI))] else none
theorem sjoin_one {f : Bool} {a : List Iv} (h : a.length ≤ 1000000) : sjoin_m [.c (.sl true [[.sl f (a.map rwI)]])] = some [.c (.sl false ((joinF a).map rwI))] := by
  have := sjoin_at (f := true) (ls := [(f, a)]) (by simpa [catL] using h) (by simp)
  simpa [rowLs, catL] using this
theorem sjoin_two {f g : Bool} {a b : List Iv} (h : a.length + b.length ≤ 1000000) : sjoin_m [.c (.sl true [[.sl f (a.map rwI)], [.sl g (b.map rwI)]])] = some [.c (.sl false ((joinF (a ++ b)).map rwI))] := by
  have := sjoin_at (f := true) (ls := [(f, a), (g, b)]) (by simpa [catL] using h) (by simp)
  simpa [rowLs, catL] using this
theorem sunion_ok : PureC Tryz.prog Gt 103 sunion_m := by
  refine pure_of_awpS (X := ctxN Tryz.prog Gt [(105, sjoin_m)] [] [] none) Tryz.func103 rfl rfl (by kernel_rfl) (by kernel_rfl) (kok_n (AllOk.cons sjoin_ok AllOk.nil) AllK.nil AllN.nil) ?_
  intro args r h0
  obtain ⟨⟨⟨f, a⟩, g, b⟩, rfl, h⟩ := mE_inv h0
  refine ⟨Nat.le_of_ble_eq_true rfl, ?_⟩
  split at h
  · rename_i hl
    obtain ⟨h1, h2⟩ := hl
    dsimp only at h1 h2 h
    cases h
    have f1 := @sjoin_two f g a b (by omega)
    have hc := Nat.zero_add 0
    repeat' (first | simp only [hc, AS, Tryz.f103, encVV, NX, NPV, SX, f1, ZZ, simprocAttr, ↓reduceIte] | ((first | apply Za | apply Zb | apply Zc | apply Zd | apply Ze | apply Zf | apply Zg | apply Zh) <;> intro hc) | refine Zi ?_ | refine Zj ?_)
    all_goals rfl
  cases h
theorem sunion_at {f g : Bool} {a b : List Iv} (h1 : a.length ≤ 400000) (h2 : b.length ≤ 400000) : sunion_m [.c (.sl f (a.map rwI)), .c (.sl g (b.map rwI))] = some [.c (.sl false ((joinF (a ++ b)).map rwI))] := by
  have := mE_eq encVV_inj (g := fun p => if twoV p then some [DV.c (.sl false ((joinF (p.1.2 ++ p.2.2)).map rwI))] else none) (a := ((f, a), g, b))
  exact this.trans (if_pos ⟨h1, h2⟩)
set_option maxHeartbeats 1000000 in
theorem smeet_ok : PureC Tryz.prog Gt 106 smeet_m := by
  refine pure_of_awpSW (X := ctxN Tryz.prog Gt [(105, sjoin_m)] [] [] none) Tryz.func106 rfl rfl (by kernel_rfl) (by kernel_rfl) (kok_n (AllOk.cons sjoin_ok AllOk.nil) AllK.nil AllN.nil) ?_
  intro args r h0
  obtain ⟨⟨⟨f, a⟩, g, b⟩, rfl, h⟩ := mE_inv h0
  refine ⟨Nat.le_of_ble_eq_true rfl, ?_⟩
  split at h
  · rename_i hl
    obtain ⟨h1, h2⟩ := hl
    dsimp only at h1 h2 h
    simp only [Option.some.injEq, meetJ] at h
    have f1 := @sjoin_one f a h1
    have f2 := @sjoin_one g b h2
    have j1 := @joinF_len a
    have j2 := @joinF_len b
    generalize joinF a = X at *
    generalize joinF b = Y at *
    have l1 := @lenIv X
    have l2 := @lenIv Y
    have hc := Nat.zero_add 0
    repeat' (first | simp only [hc, AS, Tryz.f106, encVV, NX, NPV, SX, f1, f2, ZZ, simprocAttr, ↓reduceIte] | ((first | apply Za | apply Zb | apply Zc | apply Zd | apply Ze | apply Zf | apply Zg | apply Zh) <;> intro hc) | refine Zi ?_ | refine Zj ?_)
    refine awpS_loop (σ := Nat × Nat × List Iv) (fun p => p.1 ≤ X.length ∧ p.2.1 ≤ Y.length ∧ p.2.2.length ≤ p.1 + p.2.1 ∧ p.2.2 ++ meetF (X.drop p.1) (Y.drop p.2.1) = meetF X Y)
      (fun p => ⟨[(8, AV.i p.1), (9, AV.i p.2.1), (5, AV.d (.sl false (X.map rwI))), (6, AV.d (.sl false (Y.map rwI))), (7, .v (.c (.msl 0 p.2.2.length)))], [.tok p.2.2.length 2 (some (icd p.2.2))]⟩)
      (fun p => X.length - p.1 + (Y.length - p.2.1)) (0, 0, []) ((Wk.msl 7 2 (by decide) (by simp [look])).trans (Wk.sub' (by simp [subT, look]) rfl)) ⟨Nat.zero_le _, Nat.zero_le _, by simp, rfl⟩ ?_
    rintro ⟨i, k, O⟩ ⟨g1, g2, g3, g4⟩
    dsimp only at g1 g2 g3 g4 ⊢
    by_cases hi : i < X.length
    · by_cases hk : k < Y.length
      · have e1 := iv_at hi
        have e2 := iv_at hk
        have c1 : ((i : Int) < (X.length : Int)) = True := eq_true (by omega)
        have c2 : ((k : Int) < (Y.length : Int)) = True := eq_true (by omega)
        have w1 := wI (n := (i : Int) + 1) (by omega) (by omega)
        have w2 := wI (n := (k : Int) + 1) (by omega) (by omega)
        rw [drop_cons hi, drop_cons hk, meetF_cons, ← drop_cons hi, ← drop_cons hk] at g4
        generalize X[i] = x at *
        generalize Y[k] = y at *
        obtain ⟨x1, x2⟩ := x
        obtain ⟨y1, y2⟩ := y
        dsimp only at e1 e2 g4
        have m1 : (if y1 > x1 then y1 else x1) = max x1 y1 := by split <;> omega
        have m2 : (if y2 < x2 then y2 else x2) = min x2 y2 := by split <;> omega
        generalize max x1 y1 = u at *
        generalize min x2 y2 = v at *
        have hb1 : ((O.length + 1) * 16 ≤ 140737488355328) = True := eq_true (by omega)
        have hb2 : (O.length + 1 ≤ 4611686018427387904) = True := eq_true (by omega)
        have hsn : icd O ++ [.d (.int .i64 u), .d (.int .i64 v)] = icd (O ++ [(u, v)]) := (icd_snoc (l := O) (x := (u, v))).symm
        by_cases c3 : u < v
        · have c3' := eq_true c3
          rw [if_pos c3] at g4
          by_cases c4 : x2 < y2
          · have c4' := eq_true c4
            rw [if_pos c4] at g4
            have hc := Nat.zero_add 0
            repeat' (first | simp only [hc, AS, NX, NPV, SX, HX, l1, l2, e1, e2, c1, c2, nn, w1, w2, m1, m2, hb1, hb2, hsn, c3', c4', ZZ, simprocAttr, ↓reduceIte] | ((first | apply Za | apply Zb | apply Zc | apply Zd | apply Ze | apply Zf | apply Zg | apply Zh) <;> intro hc) | refine Zi ?_ | refine Zj ?_)
            refine lp_next (i + 1, k, O ++ [(u, v)]) ?_ ⟨by first | omega | (dsimp only; omega), by first | omega | (dsimp only; omega), by simp; omega, by rw [List.append_assoc]; exact g4⟩ (by dsimp only; omega)
            exact Wk.cutk (k := 1) (by decide) (by simp) (by simp) (by simp [subT, look]) (by simp [AV.low, V.low, C1.low]) (by simp only [List.all_cons, List.all_nil, tokI_low, Bool.and_self])
          have c4' := eq_false c4
          rw [if_neg c4] at g4
          have hc := Nat.zero_add 0
          repeat' (first | simp only [hc, AS, NX, NPV, SX, HX, l1, l2, e1, e2, c1, c2, nn, w1, w2, m1, m2, hb1, hb2, hsn, c3', c4', ZZ, simprocAttr, ↓reduceIte] | ((first | apply Za | apply Zb | apply Zc | apply Zd | apply Ze | apply Zf | apply Zg | apply Zh) <;> intro hc) | refine Zi ?_ | refine Zj ?_)
          refine lp_next (i, k + 1, O ++ [(u, v)]) ?_ ⟨by first | omega | (dsimp only; omega), by first | omega | (dsimp only; omega), by simp; omega, by rw [List.append_assoc]; exact g4⟩ (by dsimp only; omega)
          exact Wk.cutk (k := 1) (by decide) (by simp) (by simp) (by simp [subT, look]) (by simp [AV.low, V.low, C1.low]) (by simp only [List.all_cons, List.all_nil, tokI_low, Bool.and_self])
        have c3' := eq_false c3
        rw [if_neg c3] at g4
        by_cases c4 : x2 < y2
        · have c4' := eq_true c4
          rw [if_pos c4] at g4
          have hc := Nat.zero_add 0
          repeat' (first | simp only [hc, AS, NX, NPV, SX, HX, l1, l2, e1, e2, c1, c2, nn, w1, w2, m1, m2, c3', c4', ZZ, simprocAttr, ↓reduceIte] | ((first | apply Za | apply Zb | apply Zc | apply Zd | apply Ze | apply Zf | apply Zg | apply Zh) <;> intro hc) | refine Zi ?_ | refine Zj ?_)
          refine lp_next (i + 1, k, O) ?_ ⟨by first | omega | (dsimp only; omega), by first | omega | (dsimp only; omega), by dsimp only; omega, g4⟩ (by dsimp only; omega)
          exact Wk.cutk (k := 1) (by decide) (by simp) (by simp) (by simp [subT, look]) (by simp [AV.low, V.low, C1.low]) (by simp only [List.all_cons, List.all_nil, tokI_low, Bool.and_self])
        have c4' := eq_false c4
        rw [if_neg c4] at g4
        have hc := Nat.zero_add 0
        repeat' (first | simp only [hc, AS, NX, NPV, SX, HX, l1, l2, e1, e2, c1, c2, nn, w1, w2, m1, m2, c3', c4', ZZ, simprocAttr, ↓reduceIte] | ((first | apply Za | apply Zb | apply Zc | apply Zd | apply Ze | apply Zf | apply Zg | apply Zh) <;> intro hc) | refine Zi ?_ | refine Zj ?_)
        refine lp_next (i, k + 1, O) ?_ ⟨by first | omega | (dsimp only; omega), by first | omega | (dsimp only; omega), by dsimp only; omega, g4⟩ (by dsimp only; omega)
        exact Wk.cutk (k := 1) (by decide) (by simp) (by simp) (by simp [subT, look]) (by simp [AV.low, V.low, C1.low]) (by simp only [List.all_cons, List.all_nil, tokI_low, Bool.and_self])
      have c1 : ((i : Int) < (X.length : Int)) = True := eq_true (by omega)
      have c2 : ((k : Int) < (Y.length : Int)) = False := eq_false (by omega)
      rw [List.drop_of_length_le (by omega : Y.length ≤ k), meetF_nil', List.append_nil] at g4
      rw [← g4] at h
      have hc := Nat.zero_add 0
      repeat' (first | simp only [hc, AS, NX, NPV, SX, HX, l1, l2, c1, c2, ZZ, simprocAttr, ↓reduceIte] | ((first | apply Za | apply Zb | apply Zc | apply Zd | apply Ze | apply Zf | apply Zg | apply Zh) <;> intro hc) | refine Zi ?_ | refine Zj ?_)
      rw [← h]
      have hfr := Wk.freezeC (n := 0) (t := [(4, .v (.c (.msl 0 O.length)))]) (h := [.tok O.length 2 (some (icd O))]) 4 0 O.length 2 (icd O) _ (by simp [look]) rfl (icd_allD _)
      rw [chunk_enc] at hfr
      exact ⟨_, (Wk.sub' (by simp [subT, look]) rfl).trans hfr, rfl⟩
    have c1 : ((i : Int) < (X.length : Int)) = False := eq_false (by omega)
    rw [List.drop_of_length_le (by omega : X.length ≤ i), meetF_nil, List.append_nil] at g4
    rw [← g4] at h
    have hc := Nat.zero_add 0
    repeat' (first | simp only [hc, AS, NX, NPV, SX, HX, l1, l2, c1, ZZ, simprocAttr, ↓reduceIte] | ((first | apply Za | apply Zb | apply Zc | apply Zd | apply Ze | apply Zf | apply Zg | apply Zh) <;> intro hc) | refine Zi ?_ | refine Zj ?_)
    rw [← h]
    have hfr := Wk.freezeC (n := 0) (t := [(4, .v (.c (.msl 0 O.length)))]) (h := [.tok O.length 2 (some (icd O))]) 4 0 O.length 2 (icd O) _ (by simp [look]) rfl (icd_allD _)
    rw [chunk_enc] at hfr
    exact ⟨_, (Wk.sub' (by simp [subT, look]) rfl).trans hfr, rfl⟩
  cases h
theorem smeet_at {f g : Bool} {a b : List Iv} (h1 : a.length ≤ 1000000) (h2 : b.length ≤ 1000000) : smeet_m [.c (.sl f (a.map rwI)), .c (.sl g (b.map rwI))] = some [.c (.sl false ((meetJ a b).map rwI))] := by
  have := mE_eq encVV_inj (g := fun p => if p.1.2.length ≤ 1000000 ∧ p.2.2.length ≤ 1000000 then some [DV.c (.sl false ((meetJ p.1.2 p.2.2).map rwI))] else none) (a := ((f, a), g, b))
  exact this.trans (if_pos ⟨h1, h2⟩)
set_option maxHeartbeats 1000000 in
theorem sminus_ok : PureC Tryz.prog Gt 56 sminus_m := by
  refine pure_of_awpS (X := ctxN Tryz.prog Gt [(105, sjoin_m), (106, smeet_m)] [] [] none) Tryz.func56 rfl rfl (by kernel_rfl) (by kernel_rfl) (kok_n (AllOk.cons sjoin_ok (AllOk.cons smeet_ok AllOk.nil)) AllK.nil AllN.nil) ?_
  intro args r h0
  obtain ⟨⟨⟨f, a⟩, g, b⟩, rfl, h⟩ := mE_inv h0
  refine ⟨Nat.le_of_ble_eq_true rfl, ?_⟩
  split at h
  · rename_i hl
    obtain ⟨h1, h2⟩ := hl
    dsimp only at h1 h2 h
    simp only [Option.some.injEq, minusJ] at h
    have f1 := @sjoin_one g b (by omega)
    have j1 := @joinF_len b
    generalize joinF b = X at *
    have l1 := @lenIv X
    have hc := Nat.zero_add 0
    repeat' (first | simp only [hc, AS, Tryz.f56, encVV, NX, NPV, SX, f1, l1, ZZ, simprocAttr, ↓reduceIte] | ((first | apply Za | apply Zb | apply Zc | apply Zd | apply Ze | apply Zf | apply Zg | apply Zh) <;> intro hc) | refine Zi ?_ | refine Zj ?_)
    refine awpS_loop (σ := Nat × List Iv × Int) (fun p => p.1 ≤ X.length ∧ p.2.1.length = p.1 ∧ p.2.1 ++ gapsF p.2.2 (X.drop p.1) = gapsF 0 X)
      (fun p => ⟨[(13, AV.i p.1), (12, AV.i X.length), (11, AV.d (.sl false (X.map rwI))), (6, .v (.c (.own 0 (p.2.1.map rwI)))), (5, AV.i p.2.2), (0, AV.d (.sl f (a.map rwI)))], [.tok p.2.1.length 2 none]⟩)
      (fun p => X.length - p.1) (0, [], 0) ((Wk.own 6 2 (by decide) (by simp [look])).trans (Wk.sub' (by simp [subT, look]) rfl)) ⟨Nat.zero_le _, rfl, rfl⟩ ?_
    rintro ⟨i, O, n⟩ ⟨g1, g2, g3⟩
    dsimp only at g1 g2 g3 ⊢
    have hxl : ((O.map rwI).length = O.length) = True := eq_true (by simp)
    have ap : ∀ (h : Hp) (u v : Int), apTok h 0 2 16 (O.map rwI) [[.int .i64 u, .int .i64 v]] (some (.tok O.length 2 none)) = some (.v (.c (.own 0 ((O ++ [((u, v) : Iv)]).map rwI))), h.set 0 (.tok (O ++ [((u, v) : Iv)]).length 2 none)) := fun h u v => by
      rw [apTok_ok hxl (eq_true (by simp [allLen])) (eq_true (by simp; omega)) (eq_true (by simp; omega))]
      simp [rwI]
    by_cases hi : i < X.length
    · have e1 := iv_at hi
      have c1 : ((i : Int) < (X.length : Int)) = True := eq_true (by omega)
      have w1 := wI (n := (i : Int) + 1) (by omega) (by omega)
      rw [drop_cons hi, gapsF] at g3
      generalize X[i] = x at *
      obtain ⟨x1, x2⟩ := x
      dsimp only at e1 g3
      have hc := Nat.zero_add 0
      repeat' (first | simp only [hc, AS, NX, NPV, SX, HX, l1, e1, c1, nn, w1, ap, ZZ, simprocAttr, ↓reduceIte] | ((first | apply Za | apply Zb | apply Zc | apply Zd | apply Ze | apply Zf | apply Zg | apply Zh) <;> intro hc) | refine Zi ?_ | refine Zj ?_)
      refine lp_next (i + 1, O ++ [(n, x1)], x2) ?_ ⟨by omega, by simp; omega, by rw [List.append_assoc]; exact g3⟩ (by dsimp only; omega)
      exact Wk.cutk (k := 1) (by decide) (by simp) (by simp) (by simp [subT, look]) (by simp [AV.low, V.low, C1.low]) (by simp [Ob.low])
    have c1 : ((i : Int) < (X.length : Int)) = False := eq_false (by omega)
    rw [List.drop_of_length_le (by omega : X.length ≤ i), gapsF] at g3
    have f2 := @smeet_at f false a (O ++ [(n, 68719476736)]) (by omega) (by simp; omega)
    rw [show O ++ [(n, (68719476736 : Int))] = gapsF 0 X from g3] at f2
    rw [show O ++ [(n, mxT)] = O ++ [(n, (68719476736 : Int))] from rfl] at g3
    have hc := Nat.zero_add 0
    repeat' (first | simp only [hc, AS, NX, NPV, SX, HX, l1, c1, ap, g3, f2, ZZ, simprocAttr, ↓reduceIte] | ((first | apply Za | apply Zb | apply Zc | apply Zd | apply Ze | apply Zf | apply Zg | apply Zh) <;> intro hc) | refine Zi ?_ | refine Zj ?_)
    rw [← h]
  cases h
theorem sminus_at {f g : Bool} {a b : List Iv} (h1 : a.length ≤ 400000) (h2 : b.length ≤ 400000) : sminus_m [.c (.sl f (a.map rwI)), .c (.sl g (b.map rwI))] = some [.c (.sl false ((minusJ a b).map rwI))] := by
  have := mE_eq encVV_inj (g := fun p => if twoV p then some [DV.c (.sl false ((minusJ p.1.2 p.2.2).map rwI))] else none) (a := ((f, a), g, b))
  exact this.trans (if_pos ⟨h1, h2⟩)
end
end Go.Ab
namespace Go.Ab
open Go.RowKit Go.Proofs
def hasOne (i : Iv) (t : Int) : Bool := ivOk i && (decide (i.1 ≤ t) && decide (t < i.2))
theorem cl_cap {X : Ctx} {h : Hp} {f : FuncId} {p : Nat × Nat} {caps : List (Nat × Nat)} {args : List AV} : clR X h (.v (.c (.fn f (p :: caps)))) args = clM X h f (args ++ .v (.c (.ptr p.1 p.2)) :: caps.map fun p => .v (.c (.ptr p.1 p.2))) (X.M f) := by
  simp only [clR, List.map_cons]
  cases X.M f <;> rfl
def h1R (p : Iv × Int) (args : List AV) (h : Hp) : Prop := args = [.v (.agg [.d (.int .i64 p.1.1), .d (.int .i64 p.1.2)]), .v (.c (.ptr 0 0))] ∧ h = [.box [.d (.int .i64 p.2)]]
theorem h1R_inj {a b : Iv × Int} {args : List AV} {h : Hp} (ha : h1R a args h) (hb : h1R b args h) : b = a := by
  obtain ⟨⟨a1, a2⟩, a3⟩ := a
  obtain ⟨⟨b1, b2⟩, b3⟩ := b
  obtain ⟨h1, h2⟩ := ha
  obtain ⟨g1, g2⟩ := hb
  rw [h1] at g1
  rw [h2] at g2
  simp only [List.cons.injEq, AV.v.injEq, V.agg.injEq, C1.d.injEq, D.int.injEq, and_true, true_and, Ob.box.injEq] at g1 g2
  rw [g1.1, g1.2, g2]
def ixR (p : (Bool × List Iv) × Int) (args : List AV) (h : Hp) : Prop := args = [.v (.c (.d (.sl p.1.1 (p.1.2.map rwI)))), .v (.c (.fn 58 [(0, 0)]))] ∧ h = [.box [.d (.int .i64 p.2)]]
theorem ixR_inj {a b : (Bool × List Iv) × Int} {args : List AV} {h : Hp} (ha : ixR a args h) (hb : ixR b args h) : b = a := by
  obtain ⟨⟨a1, a2⟩, a3⟩ := a
  obtain ⟨⟨b1, b2⟩, b3⟩ := b
  obtain ⟨h1, h2⟩ := ha
  obtain ⟨g1, g2⟩ := hb
  rw [h1] at g1
  rw [h2] at g2
  simp only [List.cons.injEq, AV.v.injEq, V.c.injEq, C1.d.injEq, D.sl.injEq, D.int.injEq, and_true, true_and, Ob.box.injEq] at g1 g2
  rw [g1.1, mapIv_inj.1 g1.2, g2]
def encVt (p : (Bool × List Iv) × Int) : List PA := [.c (.sl p.1.1 (p.1.2.map rwI)), .c (.int .i64 p.2)]
theorem encVt_inj (a b : (Bool × List Iv) × Int) (h : encVt a = encVt b) : a = b := by
  obtain ⟨⟨a1, a2⟩, a3⟩ := a
  obtain ⟨⟨b1, b2⟩, b3⟩ := b
  simp only [encVt, List.cons.injEq, DV.c.injEq, D.sl.injEq, D.int.injEq, and_true, true_and] at h
  rw [h.1.1, mapIv_inj.1 h.1.2, h.2]
theorem find_take {l : List Iv} {t : Int} {i : Nat} (hi : i < l.length) (h : (l.take i).any (hasOne · t) = false) :
    (hasOne l[i] t = true → l.findIdx? (hasOne · t) = some i) ∧ (hasOne l[i] t = false → (l.take (i + 1)).any (hasOne · t) = false) := by
  constructor
  · intro hx
    rw [List.findIdx?_eq_some_iff_getElem]
    refine ⟨hi, hx, fun j hj => ?_⟩
    have h1 : l[j] ∈ l.take i := List.mem_take_iff_getElem.2 ⟨j, by omega, rfl⟩
    intro h2
    have : (l.take i).any (hasOne · t) = true := List.any_eq_true.2 ⟨l[j], h1, h2⟩
    rw [h] at this
    cases this
  intro hx
  rw [List.take_succ_eq_append_getElem hi, List.any_append, h]
  simp [hx]
theorem find_none {l : List Iv} {t : Int} (h : l.any (hasOne · t) = false) : l.findIdx? (hasOne · t) = none := by
  rw [List.findIdx?_eq_none_iff]
  intro x hx
  have := List.any_eq_false.1 h x hx
  simpa using this
noncomputable section
open Classical
def kh1_k : List AV → Hp → Option COut := kR h1R fun p => some (.ret (AV.b (hasOne p.1 p.2)) [.box [.d (.int .i64 p.2)]])
def kix_k : List AV → Hp → Option COut := kR ixR fun p => if p.1.2.length ≤ 1000000000 then some (.ret (AV.i (lasN (p.1.2.findIdx? (hasOne · p.2)))) [.box [.d (.int .i64 p.2)]]) else none
def kcf_k : List AV → Hp → Option COut := kR ixR fun p => if p.1.2.length ≤ 1000000000 then some (.ret (AV.b (p.1.2.any (hasOne · p.2))) [.box [.d (.int .i64 p.2)]]) else none
def shas_m : List PA → Option (List PA) := mE encVt fun p => if decide (p.1.2.length ≤ 1000000000) = true then some [.b (hasW p.1.2 p.2)] else none
theorem kh1_kok : ImpC Tryz.prog Gt 58 kh1_k := by
  intro args h out h0
  refine fok_of_awpSW (X := ctxN Tryz.prog Gt [(59, spv_m)] [] [] none) Tryz.func58 rfl rfl (by kernel_rfl) (by kernel_rfl) (kok_n (AllOk.cons spv_ok AllOk.nil) AllK.nil AllN.nil) ?_ ?_
  · obtain ⟨a, ⟨rfl, _⟩, _⟩ := kR_inv h0
    exact Nat.le_of_ble_eq_true rfl
  obtain ⟨⟨⟨a, b⟩, t⟩, ⟨rfl, rfl⟩, hg⟩ := kR_inv h0
  dsimp only at hg
  cases hg
  have f1 := @spv_at (a, b)
  simp only [rwI] at f1
  have hcut : ∀ (t' : List (Nat × AV)) (r : Hp) (v : Bool), look t' 3 = AV.b v → Wk 1 ⟨t', .box [.d (.int .i64 t)] :: r⟩ ⟨[(3, AV.b v)], [.box [.d (.int .i64 t)]]⟩ := fun t' r v hv =>
    Wk.cutk (k := 1) (by decide) (by simp) (by simp) (by simp [subT, hv]) (by simp [AV.low, V.low, C1.low]) (by simp [Ob.low, C1.low])
  unfold hasOne
  dsimp only
  cases hv : ivOk (a, b)
  · rw [hv] at f1
    have hc := Nat.zero_add 0
    repeat' (first | simp only [hc, AS, Tryz.f58, NX, NPV, SX, HX, f1, ZZ, simprocAttr, ↓reduceIte] | ((first | apply Za | apply Zb | apply Zc | apply Zd | apply Ze | apply Zf | apply Zg | apply Zh) <;> intro hc) | refine Zi ?_ | refine Zj ?_)
    exact ⟨_, hcut _ _ false (by simp [look]), [.c (.d (.bool false))], by simp [resAllV, resOneV, S.get, look, AV.one], by simp [resVV]⟩
  rw [hv] at f1
  by_cases c1 : a ≤ t
  · have c1' := eq_true c1
    by_cases c2 : t < b
    · have c2' := eq_true c2
      have hc := Nat.zero_add 0
      repeat' (first | simp only [hc, AS, Tryz.f58, NX, NPV, SX, HX, f1, c1', c2', ZZ, simprocAttr, ↓reduceIte] | ((first | apply Za | apply Zb | apply Zc | apply Zd | apply Ze | apply Zf | apply Zg | apply Zh) <;> intro hc) | refine Zi ?_ | refine Zj ?_)
      exact ⟨_, hcut _ _ true (by simp [look]), [.c (.d (.bool true))], by simp [resAllV, resOneV, S.get, look, AV.one], by simp [resVV]⟩
    have c2' := eq_false c2
    have hc := Nat.zero_add 0
    repeat' (first | simp only [hc, AS, Tryz.f58, NX, NPV, SX, HX, f1, c1', c2', ZZ, simprocAttr, ↓reduceIte] | ((first | apply Za | apply Zb | apply Zc | apply Zd | apply Ze | apply Zf | apply Zg | apply Zh) <;> intro hc) | refine Zi ?_ | refine Zj ?_)
    exact ⟨_, hcut _ _ false (by simp [look]), [.c (.d (.bool false))], by simp [resAllV, resOneV, S.get, look, AV.one], by simp [resVV]⟩
  have c1' := eq_false c1
  have hc := Nat.zero_add 0
  repeat' (first | simp only [hc, AS, Tryz.f58, NX, NPV, SX, HX, f1, c1', ZZ, simprocAttr, ↓reduceIte] | ((first | apply Za | apply Zb | apply Zc | apply Zd | apply Ze | apply Zf | apply Zg | apply Zh) <;> intro hc) | refine Zi ?_ | refine Zj ?_)
  exact ⟨_, hcut _ _ false (by simp [look]), [.c (.d (.bool false))], by simp [resAllV, resOneV, S.get, look, AV.one], by simp [resVV]⟩
theorem kh1_at {a b t : Int} : kh1_k [.v (.agg [.d (.int .i64 a), .d (.int .i64 b)]), .v (.c (.ptr 0 0))] [.box [.d (.int .i64 t)]] = some (.ret (AV.b (hasOne (a, b) t)) [.box [.d (.int .i64 t)]]) :=
  kR_eq (R := h1R) (g := fun p => some (.ret (AV.b (hasOne p.1 p.2)) [.box [.d (.int .i64 p.2)]])) (a := ((a, b), t)) (fun b hb => by rw [h1R_inj (a := ((_, _), _)) ⟨rfl, rfl⟩ hb]) ⟨rfl, rfl⟩
theorem kix_kok : ImpC Tryz.prog Gt 107 kix_k := by
  intro args h out h0
  refine fok_of_awpSW (X := ctxN Tryz.prog Gt [] [(58, kh1_k)] [] none) Tryz.func107 rfl rfl (by kernel_rfl) (by kernel_rfl) (kok_n AllOk.nil (AllK.cons kh1_kok AllK.nil) AllN.nil) ?_ ?_
  · obtain ⟨a, ⟨rfl, _⟩, _⟩ := kR_inv h0
    exact Nat.le_of_ble_eq_true rfl
  obtain ⟨⟨⟨f, l⟩, t⟩, ⟨rfl, rfl⟩, hg⟩ := kR_inv h0
  dsimp only at hg
  split at hg
  · rename_i hl
    cases hg
    have l1 := @lenIv l
    have hc := Nat.zero_add 0
    repeat' (first | simp only [hc, AS, Tryz.f107, NX, NPV, SX, HX, l1, ZZ, simprocAttr, ↓reduceIte] | ((first | apply Za | apply Zb | apply Zc | apply Zd | apply Ze | apply Zf | apply Zg | apply Zh) <;> intro hc) | refine Zi ?_ | refine Zj ?_)
    refine awpS_loop (σ := Nat) (fun i => i ≤ l.length ∧ (l.take i).any (hasOne · t) = false)
      (fun i => ⟨[(8, AV.i i), (7, AV.i l.length), (0, .v (.c (.d (.sl f (l.map rwI))))), (1, .v (.c (.fn 58 [(0, 0)])))], [.box [.d (.int .i64 t)]]⟩)
      (fun i => l.length - i) 0 (Wk.sub' (by simp [subT, look]) rfl) ⟨Nat.zero_le _, rfl⟩ ?_
    rintro i ⟨hi, hn⟩
    by_cases hil : i < l.length
    · have e1 := iv_at hil
      have c1 : ((i : Int) < (l.length : Int)) = True := eq_true (by omega)
      have w1 := wI (n := (i : Int) + 1) (by omega) (by omega)
      obtain ⟨g1, g2⟩ := find_take hil hn
      generalize l[i] = x at *
      obtain ⟨a, b⟩ := x
      dsimp only at e1
      have f1 := @kh1_at a b t
      cases hv : hasOne (a, b) t
      · rw [hv] at f1
        have hc := Nat.zero_add 0
        repeat' (first | simp only [hc, AS, NX, NPV, SX, HX, l1, e1, c1, nn, w1, f1, cl_cap, List.map_nil, List.cons_append, List.nil_append, ZZ, simprocAttr, ↓reduceIte] | ((first | apply Za | apply Zb | apply Zc | apply Zd | apply Ze | apply Zf | apply Zg | apply Zh) <;> intro hc) | refine Zi ?_ | refine Zj ?_)
        exact lp_next (i + 1) (Wk.sub' (by simp [subT, look]) rfl) ⟨by omega, g2 hv⟩ (by omega)
      rw [hv] at f1
      have hc := Nat.zero_add 0
      repeat' (first | simp only [hc, AS, NX, NPV, SX, HX, l1, e1, c1, nn, w1, f1, cl_cap, List.map_nil, List.cons_append, List.nil_append, ZZ, simprocAttr, ↓reduceIte] | ((first | apply Za | apply Zb | apply Zc | apply Zd | apply Ze | apply Zf | apply Zg | apply Zh) <;> intro hc) | refine Zi ?_ | refine Zj ?_)
      exact ⟨_, Wk.sub' (t' := [(4, AV.i i)]) (by simp [subT, look]) rfl, [.c (.d (.int .i64 i))], by simp [resAllV, resOneV, S.get, look, AV.one], by simp [resVV, g1 hv, lasN]⟩
    have c1 : ((i : Int) < (l.length : Int)) = False := eq_false (by omega)
    rw [List.take_of_length_le (by omega : l.length ≤ i)] at hn
    have hc := Nat.zero_add 0
    repeat' (first | simp only [hc, AS, NX, NPV, SX, HX, l1, c1, ZZ, simprocAttr, ↓reduceIte] | ((first | apply Za | apply Zb | apply Zc | apply Zd | apply Ze | apply Zf | apply Zg | apply Zh) <;> intro hc) | refine Zi ?_ | refine Zj ?_)
    exact ⟨_, Wk.sub' (t' := [(4, AV.i (-1))]) (by simp [subT, look]) rfl, [.c (.d (.int .i64 (-1)))], by simp [resAllV, resOneV, S.get, look, AV.one], by simp [resVV, find_none hn, lasN]⟩
  cases hg
theorem kix_at {f : Bool} {l : List Iv} {t : Int} (h : l.length ≤ 1000000000) : kix_k [.v (.c (.d (.sl f (l.map rwI)))), .v (.c (.fn 58 [(0, 0)]))] [.box [.d (.int .i64 t)]] = some (.ret (AV.i (lasN (l.findIdx? (hasOne · t)))) [.box [.d (.int .i64 t)]]) :=
  (kR_eq (R := ixR) (g := fun p => if p.1.2.length ≤ 1000000000 then some (.ret (AV.i (lasN (p.1.2.findIdx? (hasOne · p.2)))) [.box [.d (.int .i64 p.2)]]) else none) (a := ((f, l), t)) (fun b hb => by rw [ixR_inj (a := ((_, _), _)) ⟨rfl, rfl⟩ hb]) ⟨rfl, rfl⟩).trans (if_pos h)
theorem kcf_kok : ImpC Tryz.prog Gt 57 kcf_k := by
  intro args h out h0
  refine fok_of_awpSW (X := ctxN Tryz.prog Gt [] [(107, kix_k)] [] none) Tryz.func57 rfl rfl (by kernel_rfl) (by kernel_rfl) (kok_n AllOk.nil (AllK.cons kix_kok AllK.nil) AllN.nil) ?_ ?_
  · obtain ⟨a, ⟨rfl, _⟩, _⟩ := kR_inv h0
    exact Nat.le_of_ble_eq_true rfl
  obtain ⟨⟨⟨f, l⟩, t⟩, ⟨rfl, rfl⟩, hg⟩ := kR_inv h0
  dsimp only at hg
  split at hg
  · rename_i hl
    cases hg
    have f1 := @kix_at f l t hl
    have hany : l.any (hasOne · t) = (l.findIdx? (hasOne · t)).isSome := by
      rw [List.findIdx?_isSome]
    rw [hany]
    generalize l.findIdx? (hasOne · t) = o at *
    cases o with
    | none =>
      simp only [lasN] at f1
      have hc := Nat.zero_add 0
      repeat' (first | simp only [hc, AS, Tryz.f57, NX, NPV, SX, HX, f1, ZZ, simprocAttr, ↓reduceIte] | ((first | apply Za | apply Zb | apply Zc | apply Zd | apply Ze | apply Zf | apply Zg | apply Zh) <;> intro hc) | refine Zi ?_ | refine Zj ?_)
      exact ⟨_, Wk.sub' (t' := [(4, AV.b false)]) (by simp [subT, look]) rfl, [.c (.d (.bool false))], by simp [resAllV, resOneV, S.get, look, AV.one], by simp [resVV]⟩
    | some i =>
      simp only [lasN] at f1
      have c1 : ((i : Int) ≥ 0) = True := eq_true (by omega)
      have hc := Nat.zero_add 0
      repeat' (first | simp only [hc, AS, Tryz.f57, NX, NPV, SX, HX, f1, c1, ZZ, simprocAttr, ↓reduceIte] | ((first | apply Za | apply Zb | apply Zc | apply Zd | apply Ze | apply Zf | apply Zg | apply Zh) <;> intro hc) | refine Zi ?_ | refine Zj ?_)
      exact ⟨_, Wk.sub' (t' := [(4, AV.b true)]) (by simp [subT, look]) rfl, [.c (.d (.bool true))], by simp [resAllV, resOneV, S.get, look, AV.one], by simp [resVV]⟩
  cases hg
theorem kcf_at {f : Bool} {l : List Iv} {t : Int} (h : l.length ≤ 1000000000) : kcf_k [.v (.c (.d (.sl f (l.map rwI)))), .v (.c (.fn 58 [(0, 0)]))] [.box [.d (.int .i64 t)]] = some (.ret (AV.b (hasW l t)) [.box [.d (.int .i64 t)]]) :=
  (kR_eq (R := ixR) (g := fun p => if p.1.2.length ≤ 1000000000 then some (.ret (AV.b (p.1.2.any (hasOne · p.2))) [.box [.d (.int .i64 p.2)]]) else none) (a := ((f, l), t)) (fun b hb => by rw [ixR_inj (a := ((_, _), _)) ⟨rfl, rfl⟩ hb]) ⟨rfl, rfl⟩).trans (if_pos h)
theorem shas_ok : PureC Tryz.prog Gt 21 shas_m := by
  refine pure_of_awpS (X := ctxN Tryz.prog Gt [] [(57, kcf_k)] [] none) Tryz.func21 rfl rfl (by kernel_rfl) (by kernel_rfl) (kok_n AllOk.nil (AllK.cons kcf_kok AllK.nil) AllN.nil) ?_
  intro args r h0
  obtain ⟨⟨⟨f, l⟩, t⟩, rfl, h⟩ := mE_inv h0
  refine ⟨Nat.le_of_ble_eq_true rfl, ?_⟩
  split at h
  · rename_i hl
    cases h
    have f1 := @kcf_at f l t (of_decide_eq_true hl)
    dsimp only
    generalize hasW l t = R at *
    have hc := Nat.zero_add 0
    repeat' (first | simp only [hc, AS, Tryz.f21, encVt, NX, NPV, SX, NW, f1, ZZ, simprocAttr, ↓reduceIte] | ((first | apply Za | apply Zb | apply Zc | apply Zd | apply Ze | apply Zf | apply Zg | apply Zh) <;> intro hc) | refine Zi ?_ | refine Zj ?_)
    all_goals simp [DV.b]
  cases h
theorem shas_at {f : Bool} {l : List Iv} {t : Int} (h : l.length ≤ 1000000000) : shas_m [.c (.sl f (l.map rwI)), .c (.int .i64 t)] = some [.b (hasW l t)] := by
  have := mE_eq encVt_inj (g := fun p => if decide (p.1.2.length ≤ 1000000000) = true then some [DV.b (hasW p.1.2 p.2)] else none) (a := ((f, l), t))
  exact this.trans (if_pos (decide_eq_true h))
end
end Go.Ab
