/-
  Texts of the layer and of the laws, put together: AbU8, AbU9, AbU10, AbU11.
-/
import Derived.Test.YtdoofgbeajkpaaaGreatDoorAbWA27
set_option linter.unusedSimpArgs false
set_option linter.unusedVariables false
set_option maxRecDepth 100000
namespace Go.Ab
open Go.RowKit Go.Proofs
def overB (z : Zon) (s : Ses) (t : Int) : Bool := decide (s.til ≤ IntKind.i64.wrap (t - z.grace))
def paidF (s : Ses) : Int × Int := if ivalB s.fr s.til = true then (s.fr, s.til) else (0, 0)
def rowIv (p : Int × Int) : List D := [.int .i64 p.1, .int .i64 p.2]
noncomputable section
open Classical
def sPaid_m : List PA → Option (List PA) := mE encS fun s => some [.agg (rowIv (paidF s))]
theorem sPaid_ok : PureC Tryz.prog Gt 18 sPaid_m := by
  refine pure_of_awp (X := ctx Tryz.prog Gt []) Tryz.func18 rfl rfl (by kernel_rfl) (by kernel_rfl) AllOk.nil.kok ?_
  intro args r h0
  obtain ⟨⟨id, zone, plate, fr, til, state, ef, seen⟩, rfl, h⟩ := mE_inv h0
  refine ⟨Nat.le_of_ble_eq_true rfl, ?_⟩
  cases h
  simp only [paidF, rowIv, ivalB]
  have hc := Nat.zero_add 0
  repeat' (first | simp only [hc, Tryz.f18, encS, Ses.row, SX, ZZ, simprocAttr, ↓reduceIte, ZF, ZE, ZN, ZI, ZB] | ((first | apply Za | apply Zb | apply Zc | apply Zd | apply Ze | apply Zf | apply Zg | apply Zh) <;> intro hc) | refine Zj ?_)
  all_goals (simp only [Bool.and_eq_true, decide_eq_true_eq]; first | rw [if_pos (by omega)] | rw [if_neg (by omega)])
end
end Go.Ab
namespace Go.Ab
open Go.RowKit Go.Proofs
def ordI (a b : Int) : Int := if a < b then -1 else if b < a then 1 else 0
def befB : List UInt8 → List UInt8 → Bool
  | [], [] => false
  | [], _ :: _ => true
  | _ :: _, [] => false
  | a :: l, b :: k => if a = b then befB l k else decide (a.toNat < b.toNat)
def ordS (a b : List UInt8) : Int := if a = b then 0 else if befB a b = true then -1 else 1
def firstNz : List Int → Int
  | [] => 0
  | x :: r => if x ≠ 0 then x else firstNz r
def ordP (a b : Par) : Int := firstNz [ordI a.time b.time, ordI a.kind b.kind, ordS a.zone b.zone, ordS a.plate b.plate, ordI a.til b.til]
theorem befB_drop {a b : List UInt8} {j : Nat} {x y : UInt8} (h1 : a[j]? = some x) (h2 : b[j]? = some y) : befB (a.drop j) (b.drop j) = if x = y then befB (a.drop (j + 1)) (b.drop (j + 1)) else decide (x.toNat < y.toNat) := by
  rw [drop_of h1, drop_of h2, befB]
theorem befB_end {a b : List UInt8} (h : a = [] ∨ b = []) : befB a b = decide (a.length < b.length) := by
  rcases h with rfl | rfl
  · cases b <;> simp [befB]
  cases a <;> simp [befB]
def encPP (p : Par × Par) : List PA := [.agg p.1.row, .agg p.2.row]
theorem encPP_inj (a b : Par × Par) (h : encPP a = encPP b) : a = b := by
  obtain ⟨a1, a2⟩ := a
  obtain ⟨b1, b2⟩ := b
  simp [encPP] at h
  simp [Par.inj a1 b1 h.1, Par.inj a2 b2 h.2]
noncomputable section
open Classical
def rnums_m : List PA → Option (List PA) := m2 fun a b => some [.i (ordI a b)]
def rbef_m : List PA → Option (List PA) := mss fun a b => if decide (a.length ≤ 1000000000 ∧ b.length ≤ 1000000000) = true then some [.b (befB a b)] else none
def rtexts_m : List PA → Option (List PA) := mss fun a b => if decide (a.length ≤ 1000000000 ∧ b.length ≤ 1000000000) = true then some [.i (ordS a b)] else none
def rcmp_m : List PA → Option (List PA) := mE encPP fun p => if p.1.Ok ∧ p.2.Ok then some [.i (ordP p.1 p.2)] else none
theorem rnums_ok : PureC Tryz.prog Gt 119 rnums_m := by
  refine pure_of_awp (X := ctx Tryz.prog Gt []) Tryz.func119 rfl rfl (by kernel_rfl) (by kernel_rfl) AllOk.nil.kok ?_
  intro args r h0
  obtain ⟨a, b, rfl, h⟩ := m2_inv h0
  refine ⟨Nat.le_of_ble_eq_true rfl, ?_⟩
  cases h
  have hc := Nat.zero_add 0
  repeat' (first | simp only [hc, Tryz.f119, ZZ, simprocAttr, ↓reduceIte, ZF, ZE, ZN, ZI, ZB] | ((first | apply Za | apply Zb | apply Zc | apply Zd | apply Ze | apply Zf | apply Zg | apply Zh) <;> intro hc) | refine Zj ?_)
  all_goals (simp_all [ordI, DV.i]; try omega)
theorem rnums_at {a b : Int} : rnums_m [.c (.int .i64 a), .c (.int .i64 b)] = some [.i (ordI a b)] := rfl
theorem rbef_ok : PureC Tryz.prog Gt 136 rbef_m := by
  refine pure_of_awp (X := ctx Tryz.prog Gt []) Tryz.func136 rfl rfl (by kernel_rfl) (by kernel_rfl) AllOk.nil.kok ?_
  intro args r h0
  obtain ⟨a, b, rfl, h⟩ := mss_inv h0
  refine ⟨Nat.le_of_ble_eq_true rfl, ?_⟩
  split at h
  · rename_i hl
    obtain ⟨hl1, hl2⟩ := of_decide_eq_true hl
    cases h
    have hc := Nat.zero_add 0
    repeat' (first | simp only [hc, Tryz.f136, SX, ZZ, simprocAttr, ↓reduceIte, ZF, ZE, ZN, ZI, ZB] | ((first | apply Za | apply Zb | apply Zc | apply Zd | apply Ze | apply Zf | apply Zg | apply Zh) <;> intro hc) | refine Zj ?_)
    refine awp_loop (σ := Nat) (fun j => j ≤ a.length ∧ j ≤ b.length ∧ befB a b = befB (a.drop j) (b.drop j)) (fun j => ⟨[(5, AV.i j), (0, AV.s a), (1, AV.s b)], []⟩) (fun j => a.length - j) 0 (Wk.sub' (by simp [subT, look]) rfl) (by simp) ?_
    rintro j ⟨hj1, hj2, hout⟩
    by_cases c1 : j < a.length
    · have hlt1 : ((j : Int) < (a.length : Int)) = True := eq_true (by omega)
      by_cases c2 : j < b.length
      · have hlt2 : ((j : Int) < (b.length : Int)) = True := eq_true (by omega)
        have hw := wI (n := (j : Int) + 1) (by omega) (by omega)
        have e1 : a[j]? = some a[j] := by simp [c1]
        have e2 : b[j]? = some b[j] := by simp [c2]
        rw [befB_drop e1 e2] at hout
        generalize a[j] = x at *
        generalize b[j] = y at *
        have hxy : x = y ↔ ((x.toNat : Int) = (y.toNat : Int)) := by
          constructor
          · rintro rfl; rfl
          intro h; exact UInt8.toNat_inj.1 (by omega)
        by_cases c3 : x = y
        · rw [if_pos c3] at hout
          subst c3
          have hc := Nat.zero_add 0
          repeat' (first | simp only [hc, SX, hlt1, hlt2, nn, hw, e1, e2, ZZ, simprocAttr, ↓reduceIte, ZF, ZE, ZN, ZI, ZB] | ((first | apply Za | apply Zb | apply Zc | apply Zd | apply Ze | apply Zf | apply Zg | apply Zh) <;> intro hc) | refine Zj ?_)
          exact lp_next (j + 1) (Wk.sub' (by simp [subT, look]) rfl) ⟨by omega, by omega, hout⟩ (by omega)
        rw [if_neg c3] at hout
        have c3' : ¬ ((x.toNat : Int) = (y.toNat : Int)) := fun h => c3 (hxy.2 h)
        have hc := Nat.zero_add 0
        repeat' (first | simp only [hc, SX, hlt1, hlt2, nn, e1, e2, c3', ZZ, simprocAttr, ↓reduceIte, ZF, ZE, ZN, ZI, ZB] | ((first | apply Za | apply Zb | apply Zc | apply Zd | apply Ze | apply Zf | apply Zg | apply Zh) <;> intro hc) | refine Zj ?_)
        all_goals simp [hout, DV.b]
      have hlt2 : ((j : Int) < (b.length : Int)) = False := eq_false (by omega)
      rw [befB_end (.inr (List.drop_of_length_le (by omega))), List.length_drop, List.length_drop] at hout
      have hR : befB a b = decide ((a.length : Int) < (b.length : Int)) := by rw [hout]; congr 1; apply propext; omega
      have hc := Nat.zero_add 0
      repeat' (first | simp only [hc, SX, hlt1, hlt2, ZZ, simprocAttr, ↓reduceIte, ZF, ZE, ZN, ZI, ZB] | ((first | apply Za | apply Zb | apply Zc | apply Zd | apply Ze | apply Zf | apply Zg | apply Zh) <;> intro hc) | refine Zj ?_)
      all_goals simp [hR, DV.b]
    have hlt1 : ((j : Int) < (a.length : Int)) = False := eq_false (by omega)
    rw [befB_end (.inl (List.drop_of_length_le (by omega))), List.length_drop, List.length_drop] at hout
    have hR : befB a b = decide ((a.length : Int) < (b.length : Int)) := by rw [hout]; congr 1; apply propext; omega
    have hc := Nat.zero_add 0
    repeat' (first | simp only [hc, SX, hlt1, ZZ, simprocAttr, ↓reduceIte, ZF, ZE, ZN, ZI, ZB] | ((first | apply Za | apply Zb | apply Zc | apply Zd | apply Ze | apply Zf | apply Zg | apply Zh) <;> intro hc) | refine Zj ?_)
    all_goals simp [hR, DV.b]
  cases h
theorem rbef_at {a b : List UInt8} (h1 : a.length ≤ 1000000000) (h2 : b.length ≤ 1000000000) : rbef_m [.c (.str a), .c (.str b)] = some [.b (befB a b)] := by rw [rbef_m, mss_eq]; exact if_pos (decide_eq_true ⟨h1, h2⟩)
theorem rtexts_ok : PureC Tryz.prog Gt 120 rtexts_m := by
  refine pure_of_awp (X := ctx Tryz.prog Gt [(136, rbef_m)]) Tryz.func120 rfl rfl (by kernel_rfl) (by kernel_rfl) (AllOk.cons rbef_ok AllOk.nil).kok ?_
  intro args r h0
  obtain ⟨a, b, rfl, h⟩ := mss_inv h0
  refine ⟨Nat.le_of_ble_eq_true rfl, ?_⟩
  split at h
  · rename_i hl
    obtain ⟨hl1, hl2⟩ := of_decide_eq_true hl
    cases h
    have f1 := rbef_at hl1 hl2
    have hR : ordS a b = if a = b then 0 else if befB a b = true then -1 else 1 := rfl
    by_cases c1 : a = b
    · have c1' : (a == b) = true := by simpa using c1
      rw [if_pos c1] at hR
      rw [hR]
      have hc := Nat.zero_add 0
      repeat' (first | simp only [hc, Tryz.f120, SX, c1', ZZ, simprocAttr, ↓reduceIte, ZF, ZE, ZN, ZI, ZB] | ((first | apply Za | apply Zb | apply Zc | apply Zd | apply Ze | apply Zf | apply Zg | apply Zh) <;> intro hc) | refine Zj ?_)
      all_goals simp [DV.i]
    have c1' : (a == b) = false := by simpa using c1
    rw [if_neg c1] at hR
    rw [hR]
    cases c2 : befB a b
    all_goals
      rw [c2] at f1
      have hc := Nat.zero_add 0
      repeat' (first | simp only [hc, Tryz.f120, SX, c1', f1, ZZ, simprocAttr, ↓reduceIte, ZF, ZE, ZN, ZI, ZB] | ((first | apply Za | apply Zb | apply Zc | apply Zd | apply Ze | apply Zf | apply Zg | apply Zh) <;> intro hc) | refine Zj ?_)
    all_goals simp [DV.i]
  cases h
theorem rtexts_at {a b : List UInt8} (h1 : a.length ≤ 1000000000) (h2 : b.length ≤ 1000000000) : rtexts_m [.c (.str a), .c (.str b)] = some [.i (ordS a b)] := by rw [rtexts_m, mss_eq]; exact if_pos (decide_eq_true ⟨h1, h2⟩)
theorem rcmp_ok : PureC Tryz.prog Gt 75 rcmp_m := by
  refine pure_of_awp (X := ctx Tryz.prog Gt [(119, rnums_m), (120, rtexts_m)]) Tryz.func75 rfl rfl (by kernel_rfl) (by kernel_rfl) (AllOk.cons rnums_ok (AllOk.cons rtexts_ok AllOk.nil)).kok ?_
  intro args r h0
  obtain ⟨⟨⟨k1, z1, p1, t1, u1⟩, ⟨k2, z2, p2, t2, u2⟩⟩, rfl, h⟩ := mE_inv h0
  refine ⟨Nat.le_of_ble_eq_true rfl, ?_⟩
  split at h
  · rename_i hl
    obtain ⟨⟨_, _, _, a1, a2⟩, ⟨_, _, _, b1, b2⟩⟩ := hl
    dsimp only at h a1 a2 b1 b2
    cases h
    have f1 := rtexts_at a1 b1
    have f2 := rtexts_at a2 b2
    have hR : ordP ⟨k1, z1, p1, t1, u1⟩ ⟨k2, z2, p2, t2, u2⟩ = firstNz [ordI t1 t2, ordI k1 k2, ordS z1 z2, ordS p1 p2, ordI u1 u2] := rfl
    have g1 := @rnums_at t1 t2
    have g2 := @rnums_at k1 k2
    have g3 := @rnums_at u1 u2
    rw [hR]
    generalize ordI t1 t2 = x1 at *
    generalize ordI k1 k2 = x2 at *
    generalize ordS z1 z2 = x3 at *
    generalize ordS p1 p2 = x4 at *
    generalize ordI u1 u2 = x5 at *
    generalize hxs : [x1, x2, x3, x4, x5] = xs at *
    have hmap : [[D.int .i64 x1], [.int .i64 x2], [.int .i64 x3], [.int .i64 x4], [.int .i64 x5]] = xs.map rowI := by rw [← hxs]; rfl
    have hlen : xs.length = 5 := by rw [← hxs]; rfl
    have hc := Nat.zero_add 0
    repeat' (first | simp only [hc, Tryz.f75, encPP, Par.row, SX, f1, f2, g1, g2, g3, ZZ, simprocAttr, ↓reduceIte, ZF, ZE, ZN, ZI, ZB] | ((first | apply Za | apply Zb | apply Zc | apply Zd | apply Ze | apply Zf | apply Zg | apply Zh) <;> intro hc) | refine Zj ?_)
    refine awp_loop (σ := Nat) (fun j => j ≤ xs.length ∧ firstNz xs = firstNz (xs.drop j)) (fun j => ⟨[(6, AV.i j), (5, AV.d (.sl true (xs.map rowI)))], [.box [.d (.int .i64 k1), .d (.str z1), .d (.str p1), .d (.int .i64 t1), .d (.int .i64 u1)], .box [.d (.int .i64 k2), .d (.str z2), .d (.str p2), .d (.int .i64 t2), .d (.int .i64 u2)]]⟩) (fun j => xs.length - j) 0 (Wk.sub' (by simp [subT, look, ← hmap]) rfl) (by simp) ?_
    rintro j ⟨hj, hout⟩
    have l1 : ((xs.map rowI).length : Int) = xs.length := by simp
    by_cases hjl : j < xs.length
    · have hlt : ((j : Int) < (xs.length : Int)) = True := eq_true (by omega)
      have hw := wI (n := (j : Int) + 1) (by omega) (by omega)
      have e1 : (xs.map rowI)[j]? = some [.int .i64 xs[j]] := by simp [hjl, rowI]
      rw [List.drop_eq_getElem_cons hjl, firstNz] at hout
      generalize xs[j] = x at *
      by_cases c1 : x = 0
      · rw [if_neg (by simpa using c1)] at hout
        subst c1
        have hc := Nat.zero_add 0
        repeat' (first | simp only [hc, SX, l1, hlt, nn, hw, e1, ZZ, simprocAttr, ↓reduceIte, ZF, ZE, ZN, ZI, ZB] | ((first | apply Za | apply Zb | apply Zc | apply Zd | apply Ze | apply Zf | apply Zg | apply Zh) <;> intro hc) | refine Zj ?_)
        exact lp_next (j + 1) (Wk.sub' (by simp [subT, look]) rfl) ⟨by omega, hout⟩ (by omega)
      rw [if_pos c1] at hout
      have hc := Nat.zero_add 0
      repeat' (first | simp only [hc, SX, l1, hlt, nn, e1, c1, ZZ, simprocAttr, ↓reduceIte, ZF, ZE, ZN, ZI, ZB] | ((first | apply Za | apply Zb | apply Zc | apply Zd | apply Ze | apply Zf | apply Zg | apply Zh) <;> intro hc) | refine Zj ?_)
      all_goals simp [hout, DV.i]
    have hlt : ((j : Int) < (xs.length : Int)) = False := eq_false (by omega)
    rw [List.drop_of_length_le (by omega)] at hout
    have hc := Nat.zero_add 0
    repeat' (first | simp only [hc, SX, l1, hlt, ZZ, simprocAttr, ↓reduceIte, ZF, ZE, ZN, ZI, ZB] | ((first | apply Za | apply Zb | apply Zc | apply Zd | apply Ze | apply Zf | apply Zg | apply Zh) <;> intro hc) | refine Zj ?_)
    all_goals simp [hout, firstNz, DV.i]
  cases h
end
end Go.Ab
namespace Go.Ab
open Go.RowKit Go.Proofs
def frontP (p : Par) : List Par → Nat
  | [] => 0
  | x :: l => if ordP x p < 0 then frontP p l + 1 else 0
def insP (l : List Par) (p : Par) : List Par :=
  match l[frontP p l]? with
  | some x => if ordP x p = 0 then l else l.take (frontP p l) ++ p :: l.drop (frontP p l)
  | none => l ++ [p]
def sortR (l : List Par) : List Par := l.foldl insP []
theorem frontP_le (p : Par) : ∀ l, frontP p l ≤ l.length
  | [] => Nat.le_refl _
  | x :: l => by
    rw [frontP]
    split
    · have := frontP_le p l; simp only [List.length_cons]; omega
    omega
theorem frontP_ge {p : Par} : ∀ {l : List Par} {k : Nat}, k ≤ frontP p l → ∀ (h : k < l.length), (ordP l[k] p < 0 → k + 1 ≤ frontP p l) ∧ (¬ ordP l[k] p < 0 → frontP p l = k)
  | x :: l, 0, _, _ => by
    rw [frontP]
    constructor
    · intro h
      have h : ordP x p < 0 := h
      rw [if_pos h]; omega
    · intro h
      have h : ¬ ordP x p < 0 := h
      rw [if_neg h]
  | x :: l, k + 1, hk, h => by
    rw [frontP] at hk ⊢
    split at hk
    · rename_i hx
      rw [if_pos hx]
      obtain ⟨a, b⟩ := @frontP_ge p l k (by omega) (by simpa using h)
      exact ⟨fun h => by have := a h; omega, fun h => by rw [b h]⟩
    omega
theorem insP_len (l : List Par) (p : Par) : (insP l p).length ≤ l.length + 1 := by
  unfold insP
  split
  · split
    · omega
    simp only [List.length_append, List.length_take, List.length_cons, List.length_drop]; omega
  simp
theorem insP_ok {l : List Par} {p : Par} (h : ∀ x ∈ l, x.Ok) (hp : p.Ok) : ∀ x ∈ insP l p, x.Ok := by
  intro x hx
  unfold insP at hx
  split at hx
  · split at hx
    · exact h x hx
    rcases List.mem_append.1 hx with hx | hx
    · exact h x (List.mem_of_mem_take hx)
    rcases List.mem_cons.1 hx with rfl | hx
    · exact hp
    exact h x (List.mem_of_mem_drop hx)
  rcases List.mem_append.1 hx with hx | hx
  · exact h x hx
  rw [List.mem_singleton.1 hx]; exact hp
theorem lenPr {l : List Par} : ((l.map Par.row).length : Int) = l.length := by simp
theorem pr_at {l : List Par} {j : Nat} (h : j < l.length) : (l.map Par.row)[j]? = some [.int .i64 l[j].kind, .str l[j].zone, .str l[j].plate, .int .i64 l[j].time, .int .i64 l[j].til] := by simp [h, Par.row]
theorem foldl_take {α β : Type} {f : β → α → β} {l : List α} {b : β} {j : Nat} (h : j < l.length) : (l.take (j + 1)).foldl f b = f ((l.take j).foldl f b) l[j] := by
  rw [List.take_succ_eq_append_getElem h, List.foldl_append]; rfl
def encPs (p : Bool × List Par) : List PA := [.c (.sl p.1 (p.2.map Par.row))]
theorem encPs_inj (a b : Bool × List Par) (h : encPs a = encPs b) : a = b := by
  obtain ⟨a1, a2⟩ := a
  obtain ⟨b1, b2⟩ := b
  simpa [encPs, mapP_inj] using h
def parsOk (l : List Par) : Prop := l.length ≤ 1000000 ∧ ∀ x ∈ l, x.Ok
noncomputable section
open Classical
def r7sort_m : List PA → Option (List PA) := mE encPs fun p => if parsOk p.2 then some [.c (.sl false ((sortR p.2).map Par.row))] else none
theorem rcmp_at {a b : Par} (ha : a.Ok) (hb : b.Ok) : rcmp_m [.agg a.row, .agg b.row] = some [.i (ordP a b)] := by
  have := mE_eq encPP_inj (g := fun p => if p.1.Ok ∧ p.2.Ok then some [.i (ordP p.1 p.2)] else none) (a := (a, b))
  exact this.trans (if_pos ⟨ha, hb⟩)
theorem r7sort_ok : PureC Tryz.prog Gt 39 r7sort_m := by
  refine pure_of_awp (X := ctx Tryz.prog Gt [(75, rcmp_m)]) Tryz.func39 rfl rfl (by kernel_rfl) (by kernel_rfl) (AllOk.cons rcmp_ok AllOk.nil).kok ?_
  intro args r h0
  obtain ⟨⟨f, l⟩, rfl, h⟩ := mE_inv h0
  refine ⟨Nat.le_of_ble_eq_true rfl, ?_⟩
  split at h
  · rename_i hl
    obtain ⟨hl1, hl2⟩ := hl
    dsimp only at hl1 hl2 h
    cases h
    have l1 := @lenPr l
    have hc := Nat.zero_add 0
    repeat' (first | simp only [hc, Tryz.f39, encPs, SX, l1, ZZ, simprocAttr, ↓reduceIte, ZF, ZE, ZN, ZI, ZB] | ((first | apply Za | apply Zb | apply Zc | apply Zd | apply Ze | apply Zf | apply Zg | apply Zh) <;> intro hc) | refine Zj ?_)
    refine awp_loop (σ := Nat × List Par) (fun p => p.1 ≤ l.length ∧ p.2.length ≤ p.1 ∧ (∀ x ∈ p.2, x.Ok) ∧ p.2 = (l.take p.1).foldl insP []) (fun p => ⟨[(4, AV.i p.1), (3, AV.d (.sl false (p.2.map Par.row))), (0, AV.d (.sl f (l.map Par.row)))], []⟩) (fun p => l.length - p.1) (0, []) (Wk.trans (Wk.ofFull 3 true [] (by simp [look])) (Wk.sub' (by simp [subT, look]) rfl)) (by simp) ?_
    rintro ⟨j, out⟩ ⟨hj, ho, hok, hout⟩
    dsimp only at hj ho hok hout ⊢
    have l2 := @lenPr out
    by_cases hjl : j < l.length
    · have hlt : ((j : Int) < (l.length : Int)) = True := eq_true (by omega)
      have hw := wI (n := (j : Int) + 1) (by omega) (by omega)
      have e1 := pr_at hjl
      have hpo := hl2 _ (List.getElem_mem hjl)
      have hnext := foldl_take (f := insP) (b := []) hjl
      rw [← hout] at hnext
      generalize hp : l[j] = p at *
      have hc := Nat.zero_add 0
      repeat' (first | simp only [hc, SX, l1, hlt, ZZ, simprocAttr, ↓reduceIte, ZF, ZE, ZN, ZI, ZB] | ((first | apply Za | apply Zb | apply Zc | apply Zd | apply Ze | apply Zf | apply Zg | apply Zh) <;> intro hc) | refine Zj ?_)
      refine awp_loop (σ := Nat) (fun k => k ≤ frontP p out) (fun k => ⟨[(5, AV.i k), (4, AV.i j), (3, AV.d (.sl false (out.map Par.row))), (0, AV.d (.sl f (l.map Par.row)))], []⟩) (fun k => out.length - k) 0 (Wk.sub' (by simp [subT, look]) rfl) (by simp) ?_
      intro k hk
      have hfl := frontP_le p out
      have hk2 : k ≤ out.length := by omega
      have q1 : slX false 5 (out.map Par.row) 0 k = some (.sl false ((out.take k).map Par.row)) := by
        rw [slX_ok (eq_true (by simp [allLen, Par.row])) (eq_true (by omega)) (eq_true (by omega)) (eq_true (by simp; omega))]
        simp [List.map_take]
      have q2 : slX false 5 (out.map Par.row) k out.length = some (.sl false ((out.drop k).map Par.row)) := by
        rw [slX_ok (eq_true (by simp [allLen, Par.row])) (eq_true (by omega)) (eq_true (by omega)) (eq_true (by simp))]
        simp [List.map_drop, List.take_of_length_le]
      have hal : ∀ m : List Par, allLen 5 (m.map Par.row) := fun m r hr => by
        obtain ⟨x, _, rfl⟩ := List.mem_map.1 hr
        rfl
      have pz : ∀ h, apSl h 5 56 [] [] = some (.d (.sl true []), h) := fun h => by
        rw [apSl_new (by simp [allLen]) (by simp) (by simp)]
        simp
      obtain ⟨A, hA⟩ : ∃ A, A = (out.take k).map Par.row := ⟨_, rfl⟩
      obtain ⟨B, hB⟩ : ∃ B, B = (out.drop k).map Par.row := ⟨_, rfl⟩
      obtain ⟨A1, hA1⟩ : ∃ A1, A1 = A ++ [[.int .i64 p.kind, .str p.zone, .str p.plate, .int .i64 p.time, .int .i64 p.til]] := ⟨_, rfl⟩
      obtain ⟨A2, hA2⟩ : ∃ A2, A2 = A1 ++ B := ⟨_, rfl⟩
      have hAl : A.length = k := by rw [hA]; simp [Nat.min_eq_left hk2]
      have hBl : B.length = out.length - k := by rw [hB]; simp
      have hA1l : A1.length = k + 1 := by rw [hA1]; simp [hAl]
      have hres : A2 = ((out.take k ++ p :: out.drop k)).map Par.row := by rw [hA2, hA1, hA, hB]; simp [Par.row]
      have hall1 : allLen 5 A1 := by rw [hA1, hA, allLen_append]; exact ⟨hal _, by simp [allLen]⟩
      have p1 : k ≠ 0 → ∀ h, apSl h 5 56 [] A = some (.v (.c (.own h.length A)), h ++ [.tok k 5 none]) := by
        intro c h
        rw [apSl_new (by rw [hA]; exact hal _) (by rw [hAl]; omega) (by rw [hAl]; omega), hAl, if_neg c]
      have p2 : k = 0 → A = [] ∧ ∀ h, apSl h 5 56 [] [[.int .i64 p.kind, .str p.zone, .str p.plate, .int .i64 p.time, .int .i64 p.til]] = some (.v (.c (.own h.length A1)), h ++ [.tok 1 5 none]) := by
        intro c
        have hA0 : A = [] := List.length_eq_zero_iff.1 (by rw [hAl, c])
        refine ⟨hA0, fun h => ?_⟩
        rw [apSl_new (by simp [allLen]) (by simp) (by simp), hA1, hA0]
        simp
      have t1 : ∀ h, apTok h 0 5 56 A [[.int .i64 p.kind, .str p.zone, .str p.plate, .int .i64 p.time, .int .i64 p.til]] (some (.tok k 5 none)) = some (.v (.c (.own 0 A1)), h.set 0 (.tok (k + 1) 5 none)) := by
        intro h
        rw [apTok_ok (eq_true hAl) (eq_true (by simp [allLen])) (eq_true (by simp [hAl]; omega)) (eq_true (by simp [hAl]; omega)), ← hA1, hAl]
        rfl
      have t2 : ∀ h m, m = k + 1 → apTok h 0 5 56 A1 B (some (.tok m 5 none)) = some (.v (.c (.own 0 A2)), h.set 0 (.tok (out.length + 1) 5 none)) := by
        rintro h m rfl
        rw [apTok_ok (eq_true hA1l) (eq_true (by rw [hB]; exact hal _)) (eq_true (by rw [hA1l, hBl]; omega)) (eq_true (by rw [hA1l, hBl]; omega)), ← hA2, hA1l, hBl, show k + 1 + (out.length - k) = out.length + 1 by omega]
      rw [← hA] at q1
      rw [← hB] at q2
      by_cases hkl : k < out.length
      · have hlt2 : ((k : Int) < (out.length : Int)) = True := eq_true (by omega)
        have hw2 := wI (n := (k : Int) + 1) (by omega) (by omega)
        have e2 := pr_at hkl
        have f1 := rcmp_at (hok _ (List.getElem_mem hkl)) hpo
        obtain ⟨g1, g2⟩ := frontP_ge hk hkl
        have hik : out[k]? = some out[k] := by simp [hkl]
        simp only [Par.row] at f1
        generalize out[k] = x at *
        generalize hR : ordP x p = R at *
        by_cases c1 : R < 0
        · skip
          have hc := Nat.zero_add 0
          repeat' (first | simp only [hc, SX, l2, hlt2, nn, e1, e2, f1, c1, hw2, ZZ, simprocAttr, ↓reduceIte, ZF, ZE, ZN, ZI, ZB] | ((first | apply Za | apply Zb | apply Zc | apply Zd | apply Ze | apply Zf | apply Zg | apply Zh) <;> intro hc) | refine Zj ?_)
          exact lp_next (k + 1) (Wk.sub' (by simp [subT, look]) rfl) (g1 c1) (by omega)
        have hfr := g2 c1
        by_cases c2 : R = 0
        · have hins : insP out p = out := by unfold insP; rw [hfr, hik]; simp [hR, c2]
          have hc := Nat.zero_add 0
          repeat' (first | simp only [hc, SX, l2, hlt2, nn, e1, e2, f1, c1, c2, hw, ZZ, simprocAttr, ↓reduceIte, ZF, ZE, ZN, ZI, ZB] | ((first | apply Za | apply Zb | apply Zc | apply Zd | apply Ze | apply Zf | apply Zg | apply Zh) <;> intro hc) | refine Zj ?_)
          exact lp_next (j + 1, out) (Wk.sub' (by simp [subT, look]) rfl) ⟨by simp only []; omega, by simp only []; omega, hok, by rw [hnext, hins]⟩ (by simp only []; omega)
        have hins : insP out p = out.take k ++ p :: out.drop k := by unfold insP; rw [hfr, hik]; simp [hR, c2]
        have hc := Nat.zero_add 0
        repeat' (first | simp only [hc, SX, l2, hlt2, nn, e1, e2, f1, c1, c2, hw, ZZ, simprocAttr, ↓reduceIte, ZF, ZE, ZN, ZI, ZB] | ((first | apply Za | apply Zb | apply Zc | apply Zd | apply Ze | apply Zf | apply Zg | apply Zh) <;> intro hc) | refine Zj ?_)
        by_cases c3 : k = 0
        · obtain ⟨hA0, p2b⟩ := p2 c3
          have t2b := fun h => t2 h 1 (by omega)
          rw [hA0] at q1
          have hc := Nat.zero_add 0
          repeat' (first | simp only [hc, SX, l1, l2, hlt2, nn, e1, hw, sla_eq, slT_sl, slZ_some, q1, q2, pz, p2b, t2b, ZZ, simprocAttr, ↓reduceIte, ZF, ZE, ZN, ZI, ZB] | ((first | apply Za | apply Zb | apply Zc | apply Zd | apply Ze | apply Zf | apply Zg | apply Zh) <;> intro hc) | refine Zj ?_)
          exact lp_next (j + 1, insP out p) (Wk.trans (Wk.ofOwn 3 0 A2 (by simp [look])) (Wk.cutk (k := 0) (by simp) (by simp) (by simp) (by simp [subT, look, hres, hins]) (by simp [AV.low, V.low, C1.low]) (by simp [Ob.low, C1.low]))) ⟨by simp only []; omega, by have := insP_len out p; simp only []; omega, insP_ok hok hpo, hnext.symm⟩ (by simp only []; omega)
        have p1b := p1 c3
        have t2b := fun h => t2 h (k + 1) rfl
        have hc := Nat.zero_add 0
        repeat' (first | simp only [hc, SX, l1, l2, hlt2, nn, e1, hw, sla_eq, slT_sl, slZ_some, q1, q2, p1b, t1, t2b, ZZ, simprocAttr, ↓reduceIte, ZF, ZE, ZN, ZI, ZB] | ((first | apply Za | apply Zb | apply Zc | apply Zd | apply Ze | apply Zf | apply Zg | apply Zh) <;> intro hc) | refine Zj ?_)
        exact lp_next (j + 1, insP out p) (Wk.trans (Wk.ofOwn 3 0 A2 (by simp [look])) (Wk.cutk (k := 0) (by simp) (by simp) (by simp) (by simp [subT, look, hres, hins]) (by simp [AV.low, V.low, C1.low]) (by simp [Ob.low, C1.low]))) ⟨by simp only []; omega, by have := insP_len out p; simp only []; omega, insP_ok hok hpo, hnext.symm⟩ (by simp only []; omega)
      have hlt2 : ((k : Int) < (out.length : Int)) = False := eq_false (by omega)
      have hfr : frontP p out = k := by omega
      have hins : insP out p = out.take k ++ p :: out.drop k := by unfold insP; rw [hfr, List.getElem?_eq_none (by omega), List.take_of_length_le (by omega), List.drop_of_length_le (by omega)]
      have hc := Nat.zero_add 0
      repeat' (first | simp only [hc, SX, l2, hlt2, nn, e1, hw, ZZ, simprocAttr, ↓reduceIte, ZF, ZE, ZN, ZI, ZB] | ((first | apply Za | apply Zb | apply Zc | apply Zd | apply Ze | apply Zf | apply Zg | apply Zh) <;> intro hc) | refine Zj ?_)
      by_cases c3 : k = 0
      · obtain ⟨hA0, p2b⟩ := p2 c3
        have t2b := fun h => t2 h 1 (by omega)
        rw [hA0] at q1
        have hc := Nat.zero_add 0
        repeat' (first | simp only [hc, SX, l1, l2, hlt2, nn, e1, hw, sla_eq, slT_sl, slZ_some, q1, q2, pz, p2b, t2b, ZZ, simprocAttr, ↓reduceIte, ZF, ZE, ZN, ZI, ZB] | ((first | apply Za | apply Zb | apply Zc | apply Zd | apply Ze | apply Zf | apply Zg | apply Zh) <;> intro hc) | refine Zj ?_)
        exact lp_next (j + 1, insP out p) (Wk.trans (Wk.ofOwn 3 0 A2 (by simp [look])) (Wk.cutk (k := 0) (by simp) (by simp) (by simp) (by simp [subT, look, hres, hins]) (by simp [AV.low, V.low, C1.low]) (by simp [Ob.low, C1.low]))) ⟨by simp only []; omega, by have := insP_len out p; simp only []; omega, insP_ok hok hpo, hnext.symm⟩ (by simp only []; omega)
      have p1b := p1 c3
      have t2b := fun h => t2 h (k + 1) rfl
      have hc := Nat.zero_add 0
      repeat' (first | simp only [hc, SX, l1, l2, hlt2, nn, e1, hw, sla_eq, slT_sl, slZ_some, q1, q2, p1b, t1, t2b, ZZ, simprocAttr, ↓reduceIte, ZF, ZE, ZN, ZI, ZB] | ((first | apply Za | apply Zb | apply Zc | apply Zd | apply Ze | apply Zf | apply Zg | apply Zh) <;> intro hc) | refine Zj ?_)
      exact lp_next (j + 1, insP out p) (Wk.trans (Wk.ofOwn 3 0 A2 (by simp [look])) (Wk.cutk (k := 0) (by simp) (by simp) (by simp) (by simp [subT, look, hres, hins]) (by simp [AV.low, V.low, C1.low]) (by simp [Ob.low, C1.low]))) ⟨by simp only []; omega, by have := insP_len out p; simp only []; omega, insP_ok hok hpo, hnext.symm⟩ (by simp only []; omega)
    have hlt : ((j : Int) < (l.length : Int)) = False := eq_false (by omega)
    rw [List.take_of_length_le (by omega)] at hout
    have hc := Nat.zero_add 0
    repeat' (first | simp only [hc, SX, l1, hlt, ZZ, simprocAttr, ↓reduceIte, ZF, ZE, ZN, ZI, ZB] | ((first | apply Za | apply Zb | apply Zc | apply Zd | apply Ze | apply Zf | apply Zg | apply Zh) <;> intro hc) | refine Zj ?_)
    all_goals simp [hout, sortR]
  cases h
end
end Go.Ab
namespace Go.Ab
open Go.RowKit Go.Proofs
def sameL {α : Type} (p : α → α → Bool) : List α → List α → Bool
  | [], [] => true
  | x :: l, y :: k => p x y && sameL p l k
  | _, _ => false
theorem sameL_len {α : Type} {p : α → α → Bool} : ∀ {l k : List α}, l.length ≠ k.length → sameL p l k = false
  | [], [], h => absurd rfl h
  | [], _ :: _, _ => rfl
  | _ :: _, [], _ => rfl
  | x :: l, y :: k, h => by
    rw [sameL, @sameL_len α p l k (by simpa using h), Bool.and_false]
theorem sameL_drop {α : Type} {p : α → α → Bool} {l k : List α} {j : Nat} (h1 : j < l.length) (h2 : j < k.length) : sameL p (l.drop j) (k.drop j) = (p l[j] k[j] && sameL p (l.drop (j + 1)) (k.drop (j + 1))) := by
  rw [List.drop_eq_getElem_cons h1, List.drop_eq_getElem_cons h2, sameL]
theorem sameL_end {α : Type} {p : α → α → Bool} {l k : List α} {j : Nat} (h1 : ¬ j < l.length) (h2 : ¬ j < k.length) : sameL p (l.drop j) (k.drop j) = true := by
  rw [List.drop_of_length_le (by omega), List.drop_of_length_le (by omega), sameL]
structure Exc where
  id : List UInt8
  why : Int
def Exc.row (x : Exc) : List D := [.str x.id, .int .i64 x.why]
theorem Exc.inj (a b : Exc) (h : a.row = b.row) : a = b := by cases a; cases b; simpa [Exc.row] using h
theorem mapEx_inj {l k : List Exc} : l.map Exc.row = k.map Exc.row ↔ l = k := ⟨map_inj Exc.inj, fun h => by rw [h]⟩
def Exc.same (a b : Exc) : Bool := decide (a.id = b.id ∧ a.why = b.why)
def intEq (a b : Int) : Bool := decide (a = b)
def Ses.same (a b : Ses) : Bool := decide (a.id = b.id ∧ a.zone = b.zone ∧ a.plate = b.plate ∧ a.fr = b.fr ∧ a.til = b.til ∧ a.state = b.state) && sameL intEq a.seen b.seen
def encEs2 (p : (Bool × List Exc) × Bool × List Exc) : List PA := [.c (.sl p.1.1 (p.1.2.map Exc.row)), .c (.sl p.2.1 (p.2.2.map Exc.row))]
theorem encEs2_inj (a b : (Bool × List Exc) × Bool × List Exc) (h : encEs2 a = encEs2 b) : a = b := by
  obtain ⟨⟨a1, a2⟩, a3, a4⟩ := a
  obtain ⟨⟨b1, b2⟩, b3, b4⟩ := b
  simp [encEs2, mapEx_inj] at h
  simp [h]
theorem lenEx {l : List Exc} : ((l.map Exc.row).length : Int) = l.length := by simp
theorem ex_at {l : List Exc} {j : Nat} (h : j < l.length) : (l.map Exc.row)[j]? = some [.str l[j].id, .int .i64 l[j].why] := by simp [h, Exc.row]
theorem lenSs {l : List Ses} : ((l.map Ses.row).length : Int) = l.length := by simp
theorem ss_at {l : List Ses} {j : Nat} (h : j < l.length) : (l.map Ses.row)[j]? = some [.str l[j].id, .str l[j].zone, .str l[j].plate, .int .i64 l[j].fr, .int .i64 l[j].til, .int .i64 l[j].state, .sl l[j].sf (l[j].seen.map rowI)] := by simp [h, Ses.row]
noncomputable section
open Classical
def sameEx_m : List PA → Option (List PA) := mE encEs2 fun p => if decide (p.1.2.length ≤ 1000000000) = true then some [.b (sameL Exc.same p.1.2 p.2.2)] else none
theorem sameEx_ok : PureC Tryz.prog Gt 26 sameEx_m := by
  refine pure_of_awp (X := ctx Tryz.prog Gt []) Tryz.func26 rfl rfl (by kernel_rfl) (by kernel_rfl) AllOk.nil.kok ?_
  intro args r h0
  obtain ⟨⟨⟨f, l⟩, g, k⟩, rfl, h⟩ := mE_inv h0
  refine ⟨Nat.le_of_ble_eq_true rfl, ?_⟩
  split at h
  · rename_i hl
    have a1 := of_decide_eq_true hl
    dsimp only at a1 h
    cases h
    have l1 := @lenEx l
    have l2 := @lenEx k
    by_cases c1 : l.length ≠ k.length
    · have c1' : ¬ ((l.length : Int) = (k.length : Int)) := by omega
      rw [sameL_len c1]
      have hc := Nat.zero_add 0
      repeat' (first | simp only [hc, Tryz.f26, encEs2, SX, l1, l2, c1', ZZ, simprocAttr, ↓reduceIte, ZF, ZE, ZN, ZI, ZB] | ((first | apply Za | apply Zb | apply Zc | apply Zd | apply Ze | apply Zf | apply Zg | apply Zh) <;> intro hc) | refine Zj ?_)
      all_goals simp [DV.b]
    have c1 : l.length = k.length := by simpa using c1
    have c1' : ((l.length : Int) = (k.length : Int)) := by omega
    generalize hR : sameL Exc.same l k = R at *
    have hc := Nat.zero_add 0
    repeat' (first | simp only [hc, Tryz.f26, encEs2, SX, l1, l2, c1', ZZ, simprocAttr, ↓reduceIte, ZF, ZE, ZN, ZI, ZB] | ((first | apply Za | apply Zb | apply Zc | apply Zd | apply Ze | apply Zf | apply Zg | apply Zh) <;> intro hc) | refine Zj ?_)
    refine awp_loop (σ := Nat) (fun j => j ≤ l.length ∧ R = sameL Exc.same (l.drop j) (k.drop j)) (fun j => ⟨[(5, AV.i j), (0, AV.d (.sl f (l.map Exc.row))), (1, AV.d (.sl g (k.map Exc.row)))], []⟩) (fun j => l.length - j) 0 (Wk.sub' (by simp [subT, look]) rfl) (by simp [hR]) ?_
    rintro j ⟨hj, hout⟩
    by_cases hjl : j < l.length
    · have hjk : j < k.length := by omega
      have hlt : ((j : Int) < (l.length : Int)) = True := eq_true (by omega)
      have hlt' : ((j : Int) < (k.length : Int)) = True := eq_true (by omega)
      have hw := wI (n := (j : Int) + 1) (by omega) (by omega)
      have e1 := ex_at hjl
      have e2 := ex_at hjk
      rw [sameL_drop hjl hjk] at hout
      rw [show Exc.same l[j] k[j] = decide (l[j].id = k[j].id ∧ l[j].why = k[j].why) from rfl] at hout
      generalize l[j] = x at *
      generalize k[j] = y at *
      by_cases c2 : x.id = y.id
      · have c2' : (x.id == y.id) = true := by simpa using c2
        by_cases c3 : x.why = y.why
        · rw [decide_eq_true ⟨c2, c3⟩, Bool.true_and] at hout
          have hc := Nat.zero_add 0
          repeat' (first | simp only [hc, SX, l1, l2, hlt, hlt', nn, hw, e1, e2, c2', c3, bne, ZZ, simprocAttr, ↓reduceIte, ZF, ZE, ZN, ZI, ZB] | ((first | apply Za | apply Zb | apply Zc | apply Zd | apply Ze | apply Zf | apply Zg | apply Zh) <;> intro hc) | refine Zj ?_)
          exact lp_next (j + 1) (Wk.sub' (by simp [subT, look]) rfl) ⟨by omega, hout⟩ (by omega)
        rw [decide_eq_false (fun h => c3 h.2), Bool.false_and] at hout
        have hc := Nat.zero_add 0
        repeat' (first | simp only [hc, SX, l1, l2, hlt, hlt', nn, e1, e2, c2', c3, bne, ZZ, simprocAttr, ↓reduceIte, ZF, ZE, ZN, ZI, ZB] | ((first | apply Za | apply Zb | apply Zc | apply Zd | apply Ze | apply Zf | apply Zg | apply Zh) <;> intro hc) | refine Zj ?_)
        all_goals simp [hout, DV.b]
      have c2' : (x.id == y.id) = false := by simpa using c2
      rw [decide_eq_false (fun h => c2 h.1), Bool.false_and] at hout
      have hc := Nat.zero_add 0
      repeat' (first | simp only [hc, SX, l1, l2, hlt, hlt', nn, e1, e2, c2', bne, ZZ, simprocAttr, ↓reduceIte, ZF, ZE, ZN, ZI, ZB] | ((first | apply Za | apply Zb | apply Zc | apply Zd | apply Ze | apply Zf | apply Zg | apply Zh) <;> intro hc) | refine Zj ?_)
      all_goals simp [hout, DV.b]
    have hlt : ((j : Int) < (l.length : Int)) = False := eq_false (by omega)
    have hlt' : ((j : Int) < (k.length : Int)) = False := eq_false (by omega)
    rw [sameL_end hjl (by omega)] at hout
    have hc := Nat.zero_add 0
    repeat' (first | simp only [hc, SX, l1, l2, c1', hlt, hlt', ZZ, simprocAttr, ↓reduceIte, ZF, ZE, ZN, ZI, ZB] | ((first | apply Za | apply Zb | apply Zc | apply Zd | apply Ze | apply Zf | apply Zg | apply Zh) <;> intro hc) | refine Zj ?_)
    all_goals simp [hout, DV.b]
  cases h
end
end Go.Ab
