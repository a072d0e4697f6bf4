/-
  Texts of the layer and of the laws, put together: AbU8, AbU9, AbU10, AbU11.
-/
import Derived.Test.YtdoofgbeajkpaaaGreatDoorAbWD27
set_option linter.unusedSimpArgs false
set_option linter.unusedVariables false
set_option maxRecDepth 100000
namespace Go.Ab
open Go.RowKit Go.Proofs
def paidF (s : Ses) : Int × Int := if ivalB s.fr s.til = true then (s.fr, s.til) else (0, 0)
def rowIv (p : Int × Int) : List D := [.int .i64 p.1, .int .i64 p.2]
noncomputable section
open Classical
def sPaid_m : List PA → Option (List PA) := mE encS fun s => some [.agg (rowIv (paidF s))]
def r7Paid_m : List PA → Option (List PA) := mE encS fun s => some [.agg (rowIv (paidF s))]
theorem rival_at {a b : Int} : rival_m [.agg [.int .i64 a, .int .i64 b]] = some [.b (ivalB a b)] := rfl
theorem sPaid_ok : PureC Tryz.prog Gt 18 sPaid_m := by
  refine pure_of_awp (X := ctx Tryz.prog Gt []) Tryz.func18 rfl rfl (by kernel_rfl) (by kernel_rfl) AllOk.nil.kok ?_
  intro args r h0
  obtain ⟨⟨id, zone, plate, fr, til, state, ef, seen⟩, rfl, h⟩ := mE_inv h0
  refine ⟨Nat.le_of_ble_eq_true rfl, ?_⟩
  cases h
  simp only [paidF, rowIv, ivalB]
  have hc := Nat.zero_add 0
  repeat' (first | simp only [hc, Tryz.f18, encS, Ses.row, SX, ZZ, simprocAttr, ↓reduceIte] | ((first | apply Za | apply Zd) <;> intro hc) )
  all_goals (simp only [Bool.and_eq_true, decide_eq_true_eq]; first | rw [if_pos (by omega)] | rw [if_neg (by omega)])
theorem r7Paid_ok : PureC Tryz.prog Gt 72 r7Paid_m := by
  refine pure_of_awp (X := ctx Tryz.prog Gt [(70, rival_m)]) Tryz.func72 rfl rfl (by kernel_rfl) (by kernel_rfl) (AllOk.cons rival_ok AllOk.nil).kok ?_
  intro args r h0
  obtain ⟨⟨id, zone, plate, fr, til, state, ef, seen⟩, rfl, h⟩ := mE_inv h0
  refine ⟨Nat.le_of_ble_eq_true rfl, ?_⟩
  cases h
  simp only [paidF, rowIv]
  cases c1 : ivalB fr til
  all_goals
    have hc := Nat.zero_add 0
    repeat' (first | simp only [hc, Tryz.f72, encS, Ses.row, SX, rival_at, c1, ZZ, simprocAttr, ↓reduceIte] )
  all_goals simp
end
end Go.Ab
namespace Go.Ab
open Go.RowKit Go.Proofs
def ordI (a b : Int) : Int := if a < b then -1 else if b < a then 1 else 0
def befB : List UInt8 → List UInt8 → Bool
  | [], [] => false
  | [], _ :: _ => true
  | _ :: _, [] => false
  | a :: l, b :: k => if a = b then befB l k else decide (a.toNat < b.toNat)
def ordS (a b : List UInt8) : Int := if a = b then 0 else if befB a b = true then -1 else 1
def firstNz : List Int → Int
  | [] => 0
  | x :: r => if x ≠ 0 then x else firstNz r
def ordP (a b : Par) : Int := firstNz [ordI a.time b.time, ordI a.kind b.kind, ordS a.zone b.zone, ordS a.plate b.plate, ordI a.til b.til]
def encPP (p : Par × Par) : List PA := [.agg p.1.row, .agg p.2.row]
theorem encPP_inj (a b : Par × Par) (h : encPP a = encPP b) : a = b := by
  obtain ⟨a1, a2⟩ := a
  obtain ⟨b1, b2⟩ := b
  simp [encPP] at h
  simp [Par.inj a1 b1 h.1, Par.inj a2 b2 h.2]
noncomputable section
open Classical
end
end Go.Ab
namespace Go.Ab
open Go.RowKit Go.Proofs
def frontP (p : Par) : List Par → Nat
  | [] => 0
  | x :: l => if ordP x p < 0 then frontP p l + 1 else 0
def insP (l : List Par) (p : Par) : List Par :=
  match l[frontP p l]? with
  | some x => if ordP x p = 0 then l else l.take (frontP p l) ++ p :: l.drop (frontP p l)
  | none => l ++ [p]
def sortR (l : List Par) : List Par := l.foldl insP []
theorem insP_len (l : List Par) (p : Par) : (insP l p).length ≤ l.length + 1 := by
  unfold insP
  split
  · split
    · omega
    simp only [List.length_append, List.length_take, List.length_cons, List.length_drop]; omega
  simp
theorem pr_at {l : List Par} {j : Nat} (h : j < l.length) : (l.map Par.row)[j]? = some [.int .i64 l[j].kind, .str l[j].zone, .str l[j].plate, .int .i64 l[j].time, .int .i64 l[j].til] := by simp [h, Par.row]
theorem foldl_take {α β : Type} {f : β → α → β} {l : List α} {b : β} {j : Nat} (h : j < l.length) : (l.take (j + 1)).foldl f b = f ((l.take j).foldl f b) l[j] := by
  rw [List.take_succ_eq_append_getElem h, List.foldl_append]; rfl
def encPs (p : Bool × List Par) : List PA := [.c (.sl p.1 (p.2.map Par.row))]
theorem encPs_inj (a b : Bool × List Par) (h : encPs a = encPs b) : a = b := by
  obtain ⟨a1, a2⟩ := a
  obtain ⟨b1, b2⟩ := b
  simpa [encPs, mapP_inj] using h
def parsOk (l : List Par) : Prop := l.length ≤ 1000000 ∧ ∀ x ∈ l, x.Ok
noncomputable section
open Classical
end
end Go.Ab
namespace Go.Ab
open Go.RowKit Go.Proofs
def sameL {α : Type} (p : α → α → Bool) : List α → List α → Bool
  | [], [] => true
  | x :: l, y :: k => p x y && sameL p l k
  | _, _ => false
theorem sameL_len {α : Type} {p : α → α → Bool} : ∀ {l k : List α}, l.length ≠ k.length → sameL p l k = false
  | [], [], h => absurd rfl h
  | [], _ :: _, _ => rfl
  | _ :: _, [], _ => rfl
  | x :: l, y :: k, h => by
    rw [sameL, @sameL_len α p l k (by simpa using h), Bool.and_false]
theorem sameL_drop {α : Type} {p : α → α → Bool} {l k : List α} {j : Nat} (h1 : j < l.length) (h2 : j < k.length) : sameL p (l.drop j) (k.drop j) = (p l[j] k[j] && sameL p (l.drop (j + 1)) (k.drop (j + 1))) := by
  rw [List.drop_eq_getElem_cons h1, List.drop_eq_getElem_cons h2, sameL]
theorem sameL_end {α : Type} {p : α → α → Bool} {l k : List α} {j : Nat} (h1 : ¬ j < l.length) (h2 : ¬ j < k.length) : sameL p (l.drop j) (k.drop j) = true := by
  rw [List.drop_of_length_le (by omega), List.drop_of_length_le (by omega), sameL]
structure Exc where
  id : List UInt8
  why : Int
def Exc.row (x : Exc) : List D := [.str x.id, .int .i64 x.why]
theorem Exc.inj (a b : Exc) (h : a.row = b.row) : a = b := by cases a; cases b; simpa [Exc.row] using h
theorem mapEx_inj {l k : List Exc} : l.map Exc.row = k.map Exc.row ↔ l = k := ⟨map_inj Exc.inj, fun h => by rw [h]⟩
def Exc.same (a b : Exc) : Bool := decide (a.id = b.id ∧ a.why = b.why)
def intEq (a b : Int) : Bool := decide (a = b)
def Ses.same (a b : Ses) : Bool := decide (a.id = b.id ∧ a.zone = b.zone ∧ a.plate = b.plate ∧ a.fr = b.fr ∧ a.til = b.til ∧ a.state = b.state) && sameL intEq a.seen b.seen
def encEs2 (p : (Bool × List Exc) × Bool × List Exc) : List PA := [.c (.sl p.1.1 (p.1.2.map Exc.row)), .c (.sl p.2.1 (p.2.2.map Exc.row))]
theorem encEs2_inj (a b : (Bool × List Exc) × Bool × List Exc) (h : encEs2 a = encEs2 b) : a = b := by
  obtain ⟨⟨a1, a2⟩, a3, a4⟩ := a
  obtain ⟨⟨b1, b2⟩, b3, b4⟩ := b
  simp [encEs2, mapEx_inj] at h
  simp [h]
theorem lenEx {l : List Exc} : ((l.map Exc.row).length : Int) = l.length := by simp
theorem ex_at {l : List Exc} {j : Nat} (h : j < l.length) : (l.map Exc.row)[j]? = some [.str l[j].id, .int .i64 l[j].why] := by simp [h, Exc.row]
theorem lenSs {l : List Ses} : ((l.map Ses.row).length : Int) = l.length := by simp
theorem ss_at {l : List Ses} {j : Nat} (h : j < l.length) : (l.map Ses.row)[j]? = some [.str l[j].id, .str l[j].zone, .str l[j].plate, .int .i64 l[j].fr, .int .i64 l[j].til, .int .i64 l[j].state, .sl l[j].sf (l[j].seen.map rowI)] := by simp [h, Ses.row]
noncomputable section
open Classical
def sameEx_m : List PA → Option (List PA) := mE encEs2 fun p => if decide (p.1.2.length ≤ 1000000000) = true then some [.b (sameL Exc.same p.1.2 p.2.2)] else none
theorem sameEx_ok : PureC Tryz.prog Gt 26 sameEx_m := by
  refine pure_of_awp (X := ctx Tryz.prog Gt []) Tryz.func26 rfl rfl (by kernel_rfl) (by kernel_rfl) AllOk.nil.kok ?_
  intro args r h0
  obtain ⟨⟨⟨f, l⟩, g, k⟩, rfl, h⟩ := mE_inv h0
  refine ⟨Nat.le_of_ble_eq_true rfl, ?_⟩
  split at h
  · rename_i hl
    have a1 := of_decide_eq_true hl
    dsimp only at a1 h
    cases h
    have l1 := @lenEx l
    have l2 := @lenEx k
    by_cases c1 : l.length ≠ k.length
    · have c1' : ¬ ((l.length : Int) = (k.length : Int)) := by omega
      rw [sameL_len c1]
      have hc := Nat.zero_add 0
      repeat' (first | simp only [hc, Tryz.f26, encEs2, SX, l1, l2, c1', ZZ, simprocAttr, ↓reduceIte] | ((first | apply Za | apply Zb | apply Zc | apply Zd | apply Ze | apply Zf | apply Zg | apply Zh) <;> intro hc) | refine Zj ?_)
      all_goals simp [DV.b]
    have c1 : l.length = k.length := by simpa using c1
    have c1' : ((l.length : Int) = (k.length : Int)) := by omega
    generalize hR : sameL Exc.same l k = R at *
    have hc := Nat.zero_add 0
    repeat' (first | simp only [hc, Tryz.f26, encEs2, SX, l1, l2, c1', ZZ, simprocAttr, ↓reduceIte] | ((first | apply Za | apply Zb | apply Zc | apply Zd | apply Ze | apply Zf | apply Zg | apply Zh) <;> intro hc) | refine Zj ?_)
    refine awp_loop (σ := Nat) (fun j => j ≤ l.length ∧ R = sameL Exc.same (l.drop j) (k.drop j)) (fun j => ⟨[(5, AV.i j), (0, AV.d (.sl f (l.map Exc.row))), (1, AV.d (.sl g (k.map Exc.row)))], []⟩) (fun j => l.length - j) 0 (Wk.sub' (by simp [subT, look]) rfl) (by simp [hR]) ?_
    rintro j ⟨hj, hout⟩
    by_cases hjl : j < l.length
    · have hjk : j < k.length := by omega
      have hlt : ((j : Int) < (l.length : Int)) = True := eq_true (by omega)
      have hlt' : ((j : Int) < (k.length : Int)) = True := eq_true (by omega)
      have hw := wI (n := (j : Int) + 1) (by omega) (by omega)
      have e1 := ex_at hjl
      have e2 := ex_at hjk
      rw [sameL_drop hjl hjk] at hout
      rw [show Exc.same l[j] k[j] = decide (l[j].id = k[j].id ∧ l[j].why = k[j].why) from rfl] at hout
      generalize l[j] = x at *
      generalize k[j] = y at *
      by_cases c2 : x.id = y.id
      · have c2' : (x.id == y.id) = true := by simpa using c2
        by_cases c3 : x.why = y.why
        · rw [decide_eq_true ⟨c2, c3⟩, Bool.true_and] at hout
          have hc := Nat.zero_add 0
          repeat' (first | simp only [hc, SX, l1, l2, hlt, hlt', nn, hw, e1, e2, c2', c3, bne, ZZ, simprocAttr, ↓reduceIte] | ((first | apply Za | apply Zb | apply Zc | apply Zd | apply Ze | apply Zf | apply Zg | apply Zh) <;> intro hc) | refine Zj ?_)
          exact lp_next (j + 1) (Wk.sub' (by simp [subT, look]) rfl) ⟨by omega, hout⟩ (by omega)
        rw [decide_eq_false (fun h => c3 h.2), Bool.false_and] at hout
        have hc := Nat.zero_add 0
        repeat' (first | simp only [hc, SX, l1, l2, hlt, hlt', nn, e1, e2, c2', c3, bne, ZZ, simprocAttr, ↓reduceIte] | ((first | apply Za | apply Zb | apply Zc | apply Zd | apply Ze | apply Zf | apply Zg | apply Zh) <;> intro hc) | refine Zj ?_)
        all_goals simp [hout, DV.b]
      have c2' : (x.id == y.id) = false := by simpa using c2
      rw [decide_eq_false (fun h => c2 h.1), Bool.false_and] at hout
      have hc := Nat.zero_add 0
      repeat' (first | simp only [hc, SX, l1, l2, hlt, hlt', nn, e1, e2, c2', bne, ZZ, simprocAttr, ↓reduceIte] | ((first | apply Za | apply Zb | apply Zc | apply Zd | apply Ze | apply Zf | apply Zg | apply Zh) <;> intro hc) | refine Zj ?_)
      all_goals simp [hout, DV.b]
    have hlt : ((j : Int) < (l.length : Int)) = False := eq_false (by omega)
    have hlt' : ((j : Int) < (k.length : Int)) = False := eq_false (by omega)
    rw [sameL_end hjl (by omega)] at hout
    have hc := Nat.zero_add 0
    repeat' (first | simp only [hc, SX, l1, l2, c1', hlt, hlt', ZZ, simprocAttr, ↓reduceIte] | ((first | apply Za | apply Zb | apply Zc | apply Zd | apply Ze | apply Zf | apply Zg | apply Zh) <;> intro hc) | refine Zj ?_)
    all_goals simp [hout, DV.b]
  cases h
end
end Go.Ab
