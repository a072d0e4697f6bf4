/-
  Texts of the layer and of the laws, put together: AbA7, AbA8.
-/
import Derived.Test.YtbcklcmhmbfgnaaGreatDoorAbF26
set_option linter.unusedSimpArgs false
set_option linter.unusedVariables false
set_option maxRecDepth 100000
set_option linter.defProp false
namespace Go.Ab
open Go.RowKit Go.Proofs
def afterF (n : Int) (x : Rec) : Int := if x.kind = 1 ∨ x.kind = 2 then IntKind.i64.wrap (n + x.cents) else if x.kind = 4 then IntKind.i64.wrap (n - x.cents) else if x.kind = 3 then 0 else n
def amtF (key : List UInt8) : Int → List Rec → Int
  | n, [] => n
  | n, x :: r => amtF key (if x.key = key then afterF n x else n) r
def encNR (p : Int × Rec) : List PA := [.c (.int .i64 p.1), .agg p.2.row]
theorem encNR_inj (a b : Int × Rec) (h : encNR a = encNR b) : a = b := by
  obtain ⟨a1, a2⟩ := a
  obtain ⟨b1, b2⟩ := b
  simp only [encNR, List.cons.injEq, DV.agg.injEq, DV.c.injEq, D.int.injEq, and_true, true_and] at h
  rw [h.1, Rec.inj _ _ h.2]
noncomputable section
open Classical
def aafter_m : List PA → Option (List PA) := mE encNR fun p => some [.i (afterF p.1 p.2)]
def aamt_m : List PA → Option (List PA) := mE encRK fun p => if decide (p.1.2.length ≤ 9223372036854775807) = true then some [.i (amtF p.2 0 p.1.2)] else none
theorem aafter_ok : PureC Tryz.prog Gt 38 aafter_m := by
  refine pure_of_awp (X := ctx Tryz.prog Gt []) Tryz.func38 rfl rfl (by kernel_rfl) (by kernel_rfl) AllOk.nil.kok ?_
  intro args r h0
  obtain ⟨⟨n, x⟩, rfl, h⟩ := mE_inv h0
  refine ⟨Nat.le_of_ble_eq_true rfl, ?_⟩
  cases h
  by_cases c1 : x.kind = 1
  · have hr : afterF n x = IntKind.i64.wrap (n + x.cents) := if_pos (.inl c1)
    generalize afterF n x = R at *
    have hc := Nat.zero_add 0
    repeat' (first | simp only [hc, Tryz.f38, encNR, Rec.row, SX, c1, ZZ, simprocAttr, ↓reduceIte] | ((first | apply Za | apply Zb | apply Zc | apply Zd | apply Ze | apply Zf | apply Zg | apply Zh) <;> intro hc) | refine Zj ?_)
    all_goals simp [hr, DV.i]
  by_cases c2 : x.kind = 2
  · have hr : afterF n x = IntKind.i64.wrap (n + x.cents) := if_pos (.inr c2)
    generalize afterF n x = R at *
    have hc := Nat.zero_add 0
    repeat' (first | simp only [hc, Tryz.f38, encNR, Rec.row, SX, c1, c2, ZZ, simprocAttr, ↓reduceIte] | ((first | apply Za | apply Zb | apply Zc | apply Zd | apply Ze | apply Zf | apply Zg | apply Zh) <;> intro hc) | refine Zj ?_)
    all_goals simp [hr, DV.i]
  by_cases c3 : x.kind = 4
  · have hr : afterF n x = IntKind.i64.wrap (n - x.cents) := by unfold afterF; rw [if_neg (by omega), if_pos c3]
    generalize afterF n x = R at *
    have hc := Nat.zero_add 0
    repeat' (first | simp only [hc, Tryz.f38, encNR, Rec.row, SX, c1, c2, c3, ZZ, simprocAttr, ↓reduceIte] | ((first | apply Za | apply Zb | apply Zc | apply Zd | apply Ze | apply Zf | apply Zg | apply Zh) <;> intro hc) | refine Zj ?_)
    all_goals simp [hr, DV.i]
  by_cases c4 : x.kind = 3
  · have hr : afterF n x = 0 := by unfold afterF; rw [if_neg (by omega), if_neg c3, if_pos c4]
    generalize afterF n x = R at *
    have hc := Nat.zero_add 0
    repeat' (first | simp only [hc, Tryz.f38, encNR, Rec.row, SX, c1, c2, c3, c4, ZZ, simprocAttr, ↓reduceIte] | ((first | apply Za | apply Zb | apply Zc | apply Zd | apply Ze | apply Zf | apply Zg | apply Zh) <;> intro hc) | refine Zj ?_)
    all_goals simp [hr, DV.i]
  have hr : afterF n x = n := by unfold afterF; rw [if_neg (by omega), if_neg c3, if_neg c4]
  generalize afterF n x = R at *
  have hc := Nat.zero_add 0
  repeat' (first | simp only [hc, Tryz.f38, encNR, Rec.row, SX, c1, c2, c3, c4, ZZ, simprocAttr, ↓reduceIte] | ((first | apply Za | apply Zb | apply Zc | apply Zd | apply Ze | apply Zf | apply Zg | apply Zh) <;> intro hc) | refine Zj ?_)
  all_goals simp [hr, DV.i]
theorem aafter_at {n : Int} {x : Rec} : aafter_m [.c (.int .i64 n), .agg x.row] = some [.i (afterF n x)] := by
  rw [aafter_m, show ([.c (.int .i64 n), .agg x.row] : List PA) = encNR (n, x) from rfl, mE_eq encNR_inj]
theorem amt_take {key : List UInt8} : ∀ {l : List Rec} {j : Nat} (h : j < l.length) (n : Int), amtF key n (l.take (j + 1)) = (if l[j].key = key then afterF (amtF key n (l.take j)) l[j] else amtF key n (l.take j))
  | x :: l, 0, _, n => by simp [amtF]
  | x :: l, j + 1, h, n => by
    simp only [List.take_succ_cons, amtF, List.getElem_cons_succ]
    exact amt_take (by simpa using h) _
theorem aamt_ok : PureC Tryz.prog Gt 15 aamt_m := by
  refine pure_of_awp (X := ctx Tryz.prog Gt [(38, aafter_m)]) Tryz.func15 rfl rfl (by kernel_rfl) (by kernel_rfl) (AllOk.cons aafter_ok AllOk.nil).kok ?_
  intro args r h0
  obtain ⟨⟨⟨f, l⟩, key⟩, rfl, h⟩ := mE_inv h0
  refine ⟨Nat.le_of_ble_eq_true rfl, ?_⟩
  split at h
  · rename_i hl
    have hl := of_decide_eq_true hl
    dsimp only at hl h
    cases h
    have l1 := @lenR l
    have hc := Nat.zero_add 0
    repeat' (first | simp only [hc, Tryz.f15, encRK, SX, l1, ZZ, simprocAttr, ↓reduceIte] | ((first | apply Za | apply Zb | apply Zc | apply Zd | apply Ze | apply Zf | apply Zg | apply Zh) <;> intro hc) | refine Zj ?_)
    refine awp_loop (σ := Nat) (fun j => j ≤ l.length) (fun j => ⟨[(10, AV.i j), (9, AV.i l.length), (8, AV.d (.sl f (l.map Rec.row))), (1, AV.s key), (5, AV.i (amtF key 0 (l.take j)))], []⟩) (fun j => l.length - j) 0 (Wk.sub' (by simp [subT, look, amtF]) rfl) (by simp) ?_
    intro j hj
    by_cases hjl : j < l.length
    · have e1 := row_at hjl
      have hlt : ((j : Int) < (l.length : Int)) = True := eq_true (by omega)
      have hw := wI (n := (j : Int) + 1) (by omega) (by omega)
      have hstep := amt_take (key := key) hjl 0
      generalize l[j] = x at *
      generalize amtF key 0 (l.take j) = q at *
      have f1 := @aafter_at q x
      simp only [Rec.row] at f1
      by_cases c1 : x.key = key
      · rw [if_pos c1] at hstep
        have c1' : (x.key == key) = true := by simp [c1]
        have hc := Nat.zero_add 0
        repeat' (first | simp only [hc, SX, l1, e1, hlt, nn, hw, c1', f1, ZZ, simprocAttr, ↓reduceIte] | ((first | apply Za | apply Zb | apply Zc | apply Zd | apply Ze | apply Zf | apply Zg | apply Zh) <;> intro hc) | refine Zj ?_)
        exact lp_next (j + 1) (Wk.cutk (k := 0) (by simp) (by simp) (by simp) (by simp [subT, look, hstep]) (by simp [AV.low, V.low, C1.low]) (by simp [Ob.low, C1.low])) (by omega) (by omega)
      rw [if_neg c1] at hstep
      have c1' : (x.key == key) = false := by simp [c1]
      have hc := Nat.zero_add 0
      repeat' (first | simp only [hc, SX, l1, e1, hlt, nn, hw, c1', f1, ZZ, simprocAttr, ↓reduceIte] | ((first | apply Za | apply Zb | apply Zc | apply Zd | apply Ze | apply Zf | apply Zg | apply Zh) <;> intro hc) | refine Zj ?_)
      exact lp_next (j + 1) (Wk.cutk (k := 0) (by simp) (by simp) (by simp) (by simp [subT, look, hstep]) (by simp [AV.low, V.low, C1.low]) (by simp [Ob.low, C1.low])) (by omega) (by omega)
    have hlt : ((j : Int) < (l.length : Int)) = False := eq_false (by omega)
    rw [List.take_of_length_le (by omega)]
    have hc := Nat.zero_add 0
    repeat' (first | simp only [hc, SX, l1, hlt, ZZ, simprocAttr, ↓reduceIte] | ((first | apply Za | apply Zb | apply Zc | apply Zd | apply Ze | apply Zf | apply Zg | apply Zh) <;> intro hc) | refine Zj ?_)
    all_goals simp
  cases h
theorem aamt_at {f : Bool} {l : List Rec} {key : List UInt8} (h : l.length ≤ 9223372036854775807) : aamt_m [.c (.sl f (l.map Rec.row)), .c (.str key)] = some [.i (amtF key 0 l)] := by
  rw [aamt_m, show ([.c (.sl f (l.map Rec.row)), .c (.str key)] : List PA) = encRK ((f, l), key) from rfl, mE_eq encRK_inj, if_pos (decide_eq_true h)]
end
end Go.Ab
namespace Go.Ab
open Go.RowKit Go.Proofs
@[irreducible] def capM (v : Nat) : Nat := if v ≤ 9223372036854775807 then v else 9223372036854775807
theorem capM_lo {v : Nat} (h : v ≤ 9223372036854775807) : capM v = v := by unfold capM; rw [if_pos h]
theorem capM_hi {v : Nat} (h : ¬ v ≤ 9223372036854775807) : capM v = 9223372036854775807 := by unfold capM; rw [if_neg h]
theorem capM_le (v : Nat) : capM v ≤ 9223372036854775807 := by
  by_cases h : v ≤ 9223372036854775807
  · rw [capM_lo h]; omega
  rw [capM_hi h]; omega
theorem capM_z : capM (valF 0 []) = 0 := capM_lo (Nat.zero_le _)
theorem capM_hiS {v k q : Nat} (hk : k ≤ 9) (hq1 : 10 * q ≤ 9223372036854775807 - k) (hq2 : 9223372036854775807 - k < 10 * q + 10) (h : q < capM v) : capM (10 * v + k) = 9223372036854775807 := by
  by_cases hv : v ≤ 9223372036854775807
  · rw [capM_lo hv] at h
    exact capM_hi (by omega)
  exact capM_hi (by omega)
theorem capM_loS {v k q : Nat} (hk : k ≤ 9) (hq1 : 10 * q ≤ 9223372036854775807 - k) (hq2 : 9223372036854775807 - k < 10 * q + 10) (h : ¬ q < capM v) : capM (10 * v + k) = 10 * capM v + k ∧ 10 * capM v + k ≤ 9223372036854775807 := by
  by_cases hv : v ≤ 9223372036854775807
  · rw [capM_lo hv] at h ⊢
    rw [capM_lo (by omega)]
    omega
  rw [capM_hi hv] at h
  omega
theorem tdM (k : Nat) (hk : k ≤ 9) : ((9223372036854775807 : Int) - (k : Int)).tdiv 10 = (((9223372036854775807 - k) / 10 : Nat) : Int) := by
  rw [Int.tdiv_eq_ediv_of_nonneg (by omega)]; omega
theorem mkWrong {t : TypeId} {x : D} {h : Hp} : mkI (Tryz.prog.underlying 103) t (.v (.agg [.d x])) h = some (.val (.v (.c (.ifc t [x] true))) h) := by kernel_rfl
def NP := Zk @look_argV_cons <| Zk @look_argV_nil <| Zk @RetsP_ret <| Zk @RetsP_normal @RetsP_pan
def numA (s : List UInt8) : Option Int :=
  if Lib.trimPrefix s [45] = [] ∨ ((Lib.trimPrefix s [45]).head? = some 48 ∧ s ≠ [48]) then none
  else if (Lib.trimPrefix s [45]).all isDig = true then (if Lib.trimPrefix s [45] = s then some (capM (val (Lib.trimPrefix s [45])) : Int) else some (-(capM (val (Lib.trimPrefix s [45])) : Int)))
  else none
theorem numA_bad {s : List UInt8} (h : ¬ (Lib.trimPrefix s [45]).all isDig = true) : numA s = none := by
  unfold numA
  split <;> first | rfl | rw [if_neg h]
theorem numA_first {s : List UInt8} (h : Lib.trimPrefix s [45] = [] ∨ ((Lib.trimPrefix s [45]).head? = some 48 ∧ s ≠ [48])) : numA s = none := by
  unfold numA; rw [if_pos h]
theorem numA_pos {s : List UInt8} (h : ¬ (Lib.trimPrefix s [45] = [] ∨ ((Lib.trimPrefix s [45]).head? = some 48 ∧ s ≠ [48]))) (h2 : (Lib.trimPrefix s [45]).all isDig = true) (h4 : Lib.trimPrefix s [45] = s) : numA s = some (capM (val (Lib.trimPrefix s [45])) : Int) := by
  unfold numA; rw [if_neg h, if_pos h2, if_pos h4]
theorem numA_neg {s : List UInt8} (h : ¬ (Lib.trimPrefix s [45] = [] ∨ ((Lib.trimPrefix s [45]).head? = some 48 ∧ s ≠ [48]))) (h2 : (Lib.trimPrefix s [45]).all isDig = true) (h4 : Lib.trimPrefix s [45] ≠ s) : numA s = some (-(capM (val (Lib.trimPrefix s [45])) : Int)) := by
  unfold numA; rw [if_neg h, if_pos h2, if_neg h4]
def wrongP (e : Int) : PO := .pan 103 [.int .i64 e] true
def nms (g : List UInt8 → Option PO) : List PA → Option PO
  | [.c (.str a)] => g a
  | _ => none
theorem nms_inv {g : List UInt8 → Option PO} {args : List PA} {r : PO} (h : nms g args = some r) : ∃ a, args = [.c (.str a)] ∧ g a = some r := by
  unfold nms at h
  split at h
  · exact ⟨_, rfl, h⟩
  cases h
theorem nms_eq {g : List UInt8 → Option PO} {a : List UInt8} : nms g [.c (.str a)] = g a := rfl
def nm1 (g : Int → Option PO) : List PA → Option PO
  | [.c (.int .i64 a)] => g a
  | _ => none
theorem nm1_inv {g : Int → Option PO} {args : List PA} {r : PO} (h : nm1 g args = some r) : ∃ a, args = [.c (.int .i64 a)] ∧ g a = some r := by
  unfold nm1 at h
  split at h
  · exact ⟨_, rfl, h⟩
  cases h
theorem nm1_eq {g : Int → Option PO} {a : Int} : nm1 g [.c (.int .i64 a)] = g a := rfl
def numP (s : List UInt8) : PO := match numA s with
  | some n => .ret [.i n]
  | none => wrongP 5
def mustP (e : Int) : PO := if e = 0 then .ret [] else wrongP e
noncomputable section
open Classical
def anum_n : List PA → Option PO := nms fun s => if decide (s.length ≤ 100000) = true then some (numP s) else none
def amust_n : List PA → Option PO := nm1 fun e => some (mustP e)
theorem amust_nok : NPure Tryz.prog Gt 54 amust_n := by
  intro ps r h0 h
  refine fok_of_awpP (X := ctxN Tryz.prog Gt [] [] [] none) Tryz.func54 rfl rfl (by kernel_rfl) (by kernel_rfl) (kok_n AllOk.nil AllK.nil AllN.nil) ?_ ?_
  · obtain ⟨e, rfl, _⟩ := nm1_inv h0
    exact Nat.le_of_ble_eq_true rfl
  obtain ⟨e, rfl, hg⟩ := nm1_inv h0
  cases hg
  by_cases he : e = 0
  · rw [show mustP e = .ret [] from if_pos he]
    have hc := Nat.zero_add 0
    repeat' (first | simp only [hc, AS, Tryz.f54, NX, NP, mkWrong, SX, he, ZZ, simprocAttr, ↓reduceIte] | ((first | apply Za | apply Zb | apply Zc | apply Zd | apply Ze | apply Zf | apply Zg | apply Zh) <;> intro hc) | refine Zi ?_ | refine Zj ?_)
    all_goals first | rfl | exact ⟨_, rfl, rfl⟩
  rw [show mustP e = wrongP e from if_neg he]
  have hc := Nat.zero_add 0
  repeat' (first | simp only [hc, AS, Tryz.f54, NX, NP, mkWrong, SX, he, ZZ, simprocAttr, ↓reduceIte] | ((first | apply Za | apply Zb | apply Zc | apply Zd | apply Ze | apply Zf | apply Zg | apply Zh) <;> intro hc) | refine Zi ?_ | refine Zj ?_)
  all_goals first | rfl | exact ⟨_, rfl, rfl⟩
theorem anum_nok : NPure Tryz.prog Gt 73 anum_n := by
  intro ps r h0 h
  refine fok_of_awpP (X := ctxN Tryz.prog Gt [(92, trimP_m)] [] [] none) Tryz.func73 rfl rfl (by kernel_rfl) (by kernel_rfl) (kok_n (AllOk.cons trimP_ok AllOk.nil) AllK.nil AllN.nil) ?_ ?_
  · obtain ⟨s, rfl, _⟩ := nms_inv h0
    exact Nat.le_of_ble_eq_true rfl
  obtain ⟨s, rfl, hg⟩ := nms_inv h0
  split at hg
  · rename_i hlen
    have hlen := of_decide_eq_true hlen
    cases hg
    have tp : trimP_m [.c (.str s), .c (.str [45])] = some [.c (.str (Lib.trimPrefix s [45]))] := rfl
    have hdl : (Lib.trimPrefix s [45]).length ≤ s.length := by
      rcases trim_minus s with ⟨r, e1, e2⟩ | ⟨_, e2⟩
      · rw [e2, e1]; simp
      rw [e2]; exact Nat.le_refl _
    have n1 := @numA_bad s
    have n2 := @numA_first s
    have n4 := @numA_pos s
    have n5 := @numA_neg s
    have pN : numA s = none → numP s = wrongP 5 := fun h => by unfold numP; rw [h]
    have pS : ∀ n, numA s = some n → numP s = .ret [.i n] := fun n h => by unfold numP; rw [h]
    generalize numP s = R at *
    generalize Lib.trimPrefix s [45] = d at *
    by_cases hd0 : d = []
    · subst hd0
      have hE := pN (n2 (.inl rfl))
      subst hE
      have hc := Nat.zero_add 0
      repeat' (first | simp only [hc, AS, Tryz.f73, NX, NP, mkWrong, SX, tp, ZZ, simprocAttr, ↓reduceIte] | ((first | apply Za | apply Zb | apply Zc | apply Zd | apply Ze | apply Zf | apply Zg | apply Zh) <;> intro hc) | refine Zi ?_ | refine Zj ?_)
      all_goals first | rfl | exact ⟨_, rfl, rfl⟩
    have hd0b : (d == []) = false := by simp [hd0]
    have hdp := List.length_pos_iff.2 hd0
    obtain ⟨c0, hc0⟩ : ∃ c, d[0]? = some c := ⟨d[0], List.getElem?_eq_getElem hdp⟩
    have hhd : d.head? = some c0 := by rw [← hc0, List.head?_eq_getElem?]
    by_cases hz : c0.toNat = 48 ∧ s ≠ [48]
    · have c48 : c0 = 48 := UInt8.toNat_inj.1 hz.1
      have hE := pN (n2 (.inr ⟨by rw [hhd, c48], hz.2⟩))
      subst hE
      have a1 : ((c0.toNat : Int) = 48) = True := eq_true (by omega)
      have a2 : (s == [48]) = false := by simp [hz.2]
      have hc := Nat.zero_add 0
      repeat' (first | simp only [hc, AS, Tryz.f73, NX, NP, mkWrong, SX, tp, hd0b, hc0, a1, a2, Bool.not_false, ZZ, simprocAttr, ↓reduceIte] | ((first | apply Za | apply Zb | apply Zc | apply Zd | apply Ze | apply Zf | apply Zg | apply Zh) <;> intro hc) | refine Zi ?_ | refine Zj ?_)
      all_goals first | rfl | exact ⟨_, rfl, rfl⟩
    have hok : ¬ (d = [] ∨ (d.head? = some 48 ∧ s ≠ [48])) := by
      rintro (h | ⟨h1, h2⟩)
      · exact hd0 h
      rw [hhd] at h1; cases h1; exact hz ⟨rfl, h2⟩
    have pE : (d == s) = true → d.all isDig = true → R = .ret [.i (capM (val d))] := fun e h => pS _ (n4 hok h (by simpa using e))
    have pF : (d == s) = false → d.all isDig = true → R = .ret [.i (-(capM (val d) : Int))] := fun e h => pS _ (n5 hok h (by simpa using e))
    have pN2 : ¬ d.all isDig = true → R = wrongP 5 := fun h => pN (n1 h)
    clear pN pS n1 n2 n4 n5
    have head : (c0.toNat = 48 ∧ (s == [48]) = true) ∨ c0.toNat ≠ 48 := by
      by_cases h : c0.toNat = 48
      · left; refine ⟨h, ?_⟩
        have : s = [48] := Classical.not_not.1 fun hn => hz ⟨h, hn⟩
        simp [this]
      exact .inr h
    rcases head with ⟨h1, h2⟩ | h1
    · have a1 : ((c0.toNat : Int) = 48) = True := eq_true (by omega)
      have hc := Nat.zero_add 0
      repeat' (first | simp only [hc, AS, Tryz.f73, NX, NP, mkWrong, SX, tp, hd0b, hc0, a1, h2, Bool.not_true, ZZ, simprocAttr, ↓reduceIte] | ((first | apply Za | apply Zb | apply Zc | apply Zd | apply Ze | apply Zf | apply Zg | apply Zh) <;> intro hc) | refine Zi ?_ | refine Zj ?_)
      refine awpS_loop (σ := Nat) (fun j => j ≤ d.length ∧ (d.take j).all isDig = true) (fun j => ⟨[(24, AV.i j), (23, AV.i d.length), (4, AV.i (capM (val (d.take j)))), (3, AV.s d), (0, AV.s s)], h⟩) (fun j => d.length - j) 0 (Wk.sub' (by simp [subT, look, capM_z]) rfl) (by simp) ?_
      rintro j ⟨hj, hout⟩
      by_cases hjl : j < d.length
      · have e1 : d[j]? = some d[j] := by simp [hjl]
        have hlt : ((j : Int) < (d.length : Int)) = True := eq_true (by omega)
        have hw := wI (n := (j : Int) + 1) (by omega) (by omega)
        generalize d[j] = c at *
        by_cases hdg : isDig c = true
        · have hdg' := dig_iff.1 hdg
          have hv : val (d.take (j + 1)) = 10 * val (d.take j) + (c.toNat - 48) := by rw [take_snoc e1, val_snoc]
          have hal : (d.take (j + 1)).all isDig = true := by rw [take_snoc e1, List.all_append, hout]; simp [hdg]
          have b1 : ((c.toNat : Int) < 48) = False := eq_false (by omega)
          have b2 : ((57 : Int) < (c.toNat : Int)) = False := eq_false (by omega)
          obtain ⟨k, hk⟩ : ∃ k : Nat, k = c.toNat - 48 := ⟨_, rfl⟩
          have hk9 : k ≤ 9 := by omega
          have w2 : IntKind.u8.wrap ((c.toNat : Int) - 48) = (k : Int) := by rw [show (c.toNat : Int) - 48 = (k : Int) by omega]; exact wU8 (by omega) (by omega)
          have w3 := wI (n := (k : Int)) (by omega) (by omega)
          have w5 := wI (n := (9223372036854775807 : Int) - (k : Int)) (by omega) (by omega)
          have t1 := tdM k hk9
          obtain ⟨q, hq⟩ : ∃ q : Nat, q = (9223372036854775807 - k) / 10 := ⟨_, rfl⟩
          have w6 := wI (n := (q : Int)) (by omega) (by omega)
          rw [← hk] at hv
          rw [← hq] at t1
          have hq1 : 10 * q ≤ 9223372036854775807 - k := by omega
          have hq2 : 9223372036854775807 - k < 10 * q + 10 := by omega
          have hhi := @capM_hiS (val (d.take j)) k q hk9 hq1 hq2
          have hlo := @capM_loS (val (d.take j)) k q hk9 hq1 hq2
          rw [← hv] at hhi hlo
          have hcl := capM_le (val (d.take j))
          generalize capM (val (d.take j)) = n at *
          by_cases hqn : q < n
          · have b3 : ((q : Int) < (n : Int)) = True := eq_true (by omega)
            have hs := hhi hqn
            have hc := Nat.zero_add 0
            repeat' (first | simp only [hc, AS, NX, SX, e1, hlt, nn, hw, b1, b2, w2, w3, w5, t1, w6, b3, ZZ, simprocAttr, ↓reduceIte] | ((first | apply Za | apply Zb | apply Zc | apply Zd | apply Ze | apply Zf | apply Zg | apply Zh) <;> intro hc) | refine Zi ?_ | refine Zj ?_)
            exact lp_next (j + 1) (Wk.sub' (by simp [subT, look, hs]) rfl) ⟨by omega, hal⟩ (by omega)
          have b3 : ((q : Int) < (n : Int)) = False := eq_false (by omega)
          obtain ⟨hs, hb⟩ := hlo hqn
          have w7 := wI (n := 10 * (n : Int)) (by omega) (by omega)
          have w8 := wI (n := 10 * (n : Int) + (k : Int)) (by omega) (by omega)
          have hc := Nat.zero_add 0
          repeat' (first | simp only [hc, AS, NX, SX, e1, hlt, nn, hw, b1, b2, w2, w3, w5, t1, w6, b3, w7, w8, ZZ, simprocAttr, ↓reduceIte] | ((first | apply Za | apply Zb | apply Zc | apply Zd | apply Ze | apply Zf | apply Zg | apply Zh) <;> intro hc) | refine Zi ?_ | refine Zj ?_)
          exact lp_next (j + 1) (Wk.sub' (by simp [subT, look, hs]) rfl) ⟨by omega, hal⟩ (by omega)
        have hE := pN2 (bad_mem e1 hdg)
        have hdg' : ¬ (48 ≤ c.toNat ∧ c.toNat ≤ 57) := fun h => hdg (dig_iff.2 h)
        subst hE
        by_cases b0 : (c.toNat : Int) < 48
        · skip
          have hc := Nat.zero_add 0
          repeat' (first | simp only [hc, AS, NX, NP, mkWrong, SX, e1, hlt, nn, hw, b0, ZZ, simprocAttr, ↓reduceIte] | ((first | apply Za | apply Zb | apply Zc | apply Zd | apply Ze | apply Zf | apply Zg | apply Zh) <;> intro hc) | refine Zi ?_ | refine Zj ?_)
          all_goals first | rfl | exact ⟨_, rfl, rfl⟩
        have b2 : ((57 : Int) < (c.toNat : Int)) = True := eq_true (by omega)
        have hc := Nat.zero_add 0
        repeat' (first | simp only [hc, AS, NX, NP, mkWrong, SX, e1, hlt, nn, hw, b0, b2, ZZ, simprocAttr, ↓reduceIte] | ((first | apply Za | apply Zb | apply Zc | apply Zd | apply Ze | apply Zf | apply Zg | apply Zh) <;> intro hc) | refine Zi ?_ | refine Zj ?_)
        all_goals first | rfl | exact ⟨_, rfl, rfl⟩
      have hlt : ((j : Int) < (d.length : Int)) = False := eq_false (by omega)
      rw [List.take_of_length_le (by omega)] at hout
      rw [List.take_of_length_le (by omega)]
      have hcl := capM_le (val d)
      cases hds : d == s with
      | true =>
        have hE := pE hds hout
        generalize capM (val d) = n at *
        subst hE
        have hc := Nat.zero_add 0
        repeat' (first | simp only [hc, AS, NX, NP, mkWrong, SX, hlt, hds, ZZ, simprocAttr, ↓reduceIte] | ((first | apply Za | apply Zb | apply Zc | apply Zd | apply Ze | apply Zf | apply Zg | apply Zh) <;> intro hc) | refine Zi ?_ | refine Zj ?_)
        all_goals first | rfl | exact ⟨_, rfl, rfl⟩
      | false =>
        have hE := pF hds hout
        generalize capM (val d) = n at *
        subst hE
        have w9 : IntKind.i64.wrap (0 - (n : Int)) = -(n : Int) := by rw [Int.zero_sub]; exact wI (by omega) (by omega)
        have hc := Nat.zero_add 0
        repeat' (first | simp only [hc, AS, NX, NP, mkWrong, SX, hlt, hds, w9, ZZ, simprocAttr, ↓reduceIte] | ((first | apply Za | apply Zb | apply Zc | apply Zd | apply Ze | apply Zf | apply Zg | apply Zh) <;> intro hc) | refine Zi ?_ | refine Zj ?_)
        all_goals first | rfl | exact ⟨_, rfl, rfl⟩
    have a1 : ((c0.toNat : Int) = 48) = False := eq_false (by omega)
    have hc := Nat.zero_add 0
    repeat' (first | simp only [hc, AS, Tryz.f73, NX, NP, mkWrong, SX, tp, hd0b, hc0, a1, ZZ, simprocAttr, ↓reduceIte] | ((first | apply Za | apply Zb | apply Zc | apply Zd | apply Ze | apply Zf | apply Zg | apply Zh) <;> intro hc) | refine Zi ?_ | refine Zj ?_)
    refine awpS_loop (σ := Nat) (fun j => j ≤ d.length ∧ (d.take j).all isDig = true) (fun j => ⟨[(24, AV.i j), (23, AV.i d.length), (4, AV.i (capM (val (d.take j)))), (3, AV.s d), (0, AV.s s)], h⟩) (fun j => d.length - j) 0 (Wk.sub' (by simp [subT, look, capM_z]) rfl) (by simp) ?_
    rintro j ⟨hj, hout⟩
    by_cases hjl : j < d.length
    · have e1 : d[j]? = some d[j] := by simp [hjl]
      have hlt : ((j : Int) < (d.length : Int)) = True := eq_true (by omega)
      have hw := wI (n := (j : Int) + 1) (by omega) (by omega)
      generalize d[j] = c at *
      by_cases hdg : isDig c = true
      · have hdg' := dig_iff.1 hdg
        have hv : val (d.take (j + 1)) = 10 * val (d.take j) + (c.toNat - 48) := by rw [take_snoc e1, val_snoc]
        have hal : (d.take (j + 1)).all isDig = true := by rw [take_snoc e1, List.all_append, hout]; simp [hdg]
        have b1 : ((c.toNat : Int) < 48) = False := eq_false (by omega)
        have b2 : ((57 : Int) < (c.toNat : Int)) = False := eq_false (by omega)
        obtain ⟨k, hk⟩ : ∃ k : Nat, k = c.toNat - 48 := ⟨_, rfl⟩
        have hk9 : k ≤ 9 := by omega
        have w2 : IntKind.u8.wrap ((c.toNat : Int) - 48) = (k : Int) := by rw [show (c.toNat : Int) - 48 = (k : Int) by omega]; exact wU8 (by omega) (by omega)
        have w3 := wI (n := (k : Int)) (by omega) (by omega)
        have w5 := wI (n := (9223372036854775807 : Int) - (k : Int)) (by omega) (by omega)
        have t1 := tdM k hk9
        obtain ⟨q, hq⟩ : ∃ q : Nat, q = (9223372036854775807 - k) / 10 := ⟨_, rfl⟩
        have w6 := wI (n := (q : Int)) (by omega) (by omega)
        rw [← hk] at hv
        rw [← hq] at t1
        have hq1 : 10 * q ≤ 9223372036854775807 - k := by omega
        have hq2 : 9223372036854775807 - k < 10 * q + 10 := by omega
        have hhi := @capM_hiS (val (d.take j)) k q hk9 hq1 hq2
        have hlo := @capM_loS (val (d.take j)) k q hk9 hq1 hq2
        rw [← hv] at hhi hlo
        have hcl := capM_le (val (d.take j))
        generalize capM (val (d.take j)) = n at *
        by_cases hqn : q < n
        · have b3 : ((q : Int) < (n : Int)) = True := eq_true (by omega)
          have hs := hhi hqn
          have hc := Nat.zero_add 0
          repeat' (first | simp only [hc, AS, NX, SX, e1, hlt, nn, hw, b1, b2, w2, w3, w5, t1, w6, b3, ZZ, simprocAttr, ↓reduceIte] | ((first | apply Za | apply Zb | apply Zc | apply Zd | apply Ze | apply Zf | apply Zg | apply Zh) <;> intro hc) | refine Zi ?_ | refine Zj ?_)
          exact lp_next (j + 1) (Wk.sub' (by simp [subT, look, hs]) rfl) ⟨by omega, hal⟩ (by omega)
        have b3 : ((q : Int) < (n : Int)) = False := eq_false (by omega)
        obtain ⟨hs, hb⟩ := hlo hqn
        have w7 := wI (n := 10 * (n : Int)) (by omega) (by omega)
        have w8 := wI (n := 10 * (n : Int) + (k : Int)) (by omega) (by omega)
        have hc := Nat.zero_add 0
        repeat' (first | simp only [hc, AS, NX, SX, e1, hlt, nn, hw, b1, b2, w2, w3, w5, t1, w6, b3, w7, w8, ZZ, simprocAttr, ↓reduceIte] | ((first | apply Za | apply Zb | apply Zc | apply Zd | apply Ze | apply Zf | apply Zg | apply Zh) <;> intro hc) | refine Zi ?_ | refine Zj ?_)
        exact lp_next (j + 1) (Wk.sub' (by simp [subT, look, hs]) rfl) ⟨by omega, hal⟩ (by omega)
      have hE := pN2 (bad_mem e1 hdg)
      have hdg' : ¬ (48 ≤ c.toNat ∧ c.toNat ≤ 57) := fun h => hdg (dig_iff.2 h)
      subst hE
      by_cases b0 : (c.toNat : Int) < 48
      · skip
        have hc := Nat.zero_add 0
        repeat' (first | simp only [hc, AS, NX, NP, mkWrong, SX, e1, hlt, nn, hw, b0, ZZ, simprocAttr, ↓reduceIte] | ((first | apply Za | apply Zb | apply Zc | apply Zd | apply Ze | apply Zf | apply Zg | apply Zh) <;> intro hc) | refine Zi ?_ | refine Zj ?_)
        all_goals first | rfl | exact ⟨_, rfl, rfl⟩
      have b2 : ((57 : Int) < (c.toNat : Int)) = True := eq_true (by omega)
      have hc := Nat.zero_add 0
      repeat' (first | simp only [hc, AS, NX, NP, mkWrong, SX, e1, hlt, nn, hw, b0, b2, ZZ, simprocAttr, ↓reduceIte] | ((first | apply Za | apply Zb | apply Zc | apply Zd | apply Ze | apply Zf | apply Zg | apply Zh) <;> intro hc) | refine Zi ?_ | refine Zj ?_)
      all_goals first | rfl | exact ⟨_, rfl, rfl⟩
    have hlt : ((j : Int) < (d.length : Int)) = False := eq_false (by omega)
    rw [List.take_of_length_le (by omega)] at hout
    rw [List.take_of_length_le (by omega)]
    have hcl := capM_le (val d)
    cases hds : d == s with
    | true =>
      have hE := pE hds hout
      generalize capM (val d) = n at *
      subst hE
      have hc := Nat.zero_add 0
      repeat' (first | simp only [hc, AS, NX, NP, mkWrong, SX, hlt, hds, ZZ, simprocAttr, ↓reduceIte] | ((first | apply Za | apply Zb | apply Zc | apply Zd | apply Ze | apply Zf | apply Zg | apply Zh) <;> intro hc) | refine Zi ?_ | refine Zj ?_)
      all_goals first | rfl | exact ⟨_, rfl, rfl⟩
    | false =>
      have hE := pF hds hout
      generalize capM (val d) = n at *
      subst hE
      have w9 : IntKind.i64.wrap (0 - (n : Int)) = -(n : Int) := by rw [Int.zero_sub]; exact wI (by omega) (by omega)
      have hc := Nat.zero_add 0
      repeat' (first | simp only [hc, AS, NX, NP, mkWrong, SX, hlt, hds, w9, ZZ, simprocAttr, ↓reduceIte] | ((first | apply Za | apply Zb | apply Zc | apply Zd | apply Ze | apply Zf | apply Zg | apply Zh) <;> intro hc) | refine Zi ?_ | refine Zj ?_)
      all_goals first | rfl | exact ⟨_, rfl, rfl⟩
  cases hg
end
end Go.Ab
