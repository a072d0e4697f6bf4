/-
  Texts of the layer and of the laws, put together: AbTF4, AbTF5.
-/
import Derived.Test.YtbcklcmhmbfgnaaGreatDoorAbF35
import Derived.Test.YtbcklcmhmbfgnaaGreatDoorAbF10
import Derived.Test.YtbcklcmhmbfgnaaGreatDoorAbF14
import Derived.Test.YtbcklcmhmbfgnaaGreatDoorAbF19
set_option linter.unusedSimpArgs false
set_option linter.unusedVariables false
set_option maxRecDepth 100000
namespace Go.Ab
open Go.RowKit Go.Proofs
structure Snd where
  side : Int
  rf : Bool
  recs : List Rec
  lf : Bool
  lost : List Bool
def rowBo (b : Bool) : List D := [.bool b]
def Snd.row (x : Snd) : List D := [.int .i64 x.side, .sl x.rf (x.recs.map Rec.row), .sl x.lf (x.lost.map rowBo)]
theorem mapBo_inj {l k : List Bool} : l.map rowBo = k.map rowBo ↔ l = k := ⟨map_inj (fun a b h => by simpa [rowBo] using h), fun h => by rw [h]⟩
theorem Snd.inj (a b : Snd) (h : a.row = b.row) : a = b := by
  obtain ⟨a1, a2, a3, a4, a5⟩ := a
  obtain ⟨b1, b2, b3, b4, b5⟩ := b
  simp only [Snd.row, List.cons.injEq, D.int.injEq, D.sl.injEq, true_and, and_true] at h
  obtain ⟨h1, ⟨h2, h3⟩, h4, h5⟩ := h
  rw [h1, h2, mapR_inj.1 h3, h4, mapBo_inj.1 h5]
theorem mapSd_inj {l k : List Snd} : l.map Snd.row = k.map Snd.row ↔ l = k := ⟨map_inj Snd.inj, fun h => by rw [h]⟩
def encSd (p : Bool × List Snd) : List PA := [.c (.sl p.1 (p.2.map Snd.row))]
theorem encSd_inj (a b : Bool × List Snd) (h : encSd a = encSd b) : a = b := by
  obtain ⟨a1, a2⟩ := a
  obtain ⟨b1, b2⟩ := b
  simp only [encSd, List.cons.injEq, DV.c.injEq, D.sl.injEq, and_true] at h
  rw [h.1, mapSd_inj.1 h.2]
def okB (x : Rec) : Bool := decide (x.cents ≤ 1099511627776) && (decide (-1099511627776 ≤ x.cents) && decide (x.key.length ≤ 20))
def postB (x : Snd) : Bool := decide (x.recs.length ≤ 5) && (decide (x.lost.length ≤ 40) && x.recs.all okB)
def postsF (l : List Snd) : Bool := l.all postB && decide (l.length ≤ 8)
theorem lenSd {l : List Snd} : ((l.map Snd.row).length : Int) = l.length := by simp
theorem sd_at {l : List Snd} {j : Nat} (h : j < l.length) : (l.map Snd.row)[j]? = some [.int .i64 l[j].side, .sl l[j].rf (l[j].recs.map Rec.row), .sl l[j].lf (l[j].lost.map rowBo)] := by simp [h, Snd.row]
theorem lenRc {l : List Rec} : ((l.map Rec.row).length : Int) = l.length := by simp
theorem rc_at {l : List Rec} {j : Nat} (h : j < l.length) : (l.map Rec.row)[j]? = some [.int .i64 l[j].kind, .str l[j].key, .int .i64 l[j].time, .int .i64 l[j].cents, .int .i64 l[j].why] := by simp [h, Rec.row]
theorem allB_take {α : Type} {q : α → Bool} {l : List α} {i : Nat} (hi : i < l.length) (h : (l.take i).all q = true) : (q l[i] = false → l.all q = false) ∧ (q l[i] = true → (l.take (i + 1)).all q = true) :=
  ⟨fun hx => by
    rw [List.all_eq_false]
    exact ⟨l[i], List.getElem_mem hi, by simp [hx]⟩, fun hx => by
    rw [List.take_succ_eq_append_getElem hi, List.all_append, h]
    simp [hx]⟩
noncomputable section
open Classical
def fposts_m : List PA → Option (List PA) := mE encSd fun p => if p.2.length ≤ 9223372036854775807 then some [.b (postsF p.2)] else none
set_option maxHeartbeats 2000000 in
theorem fposts_ok : PureC Tryz.prog Gt 4 fposts_m := by
  refine pure_of_awpS (X := ctx Tryz.prog Gt []) Tryz.func4 rfl rfl (by kernel_rfl) (by kernel_rfl) AllOk.nil.kok ?_
  intro args r h0
  obtain ⟨⟨f, l⟩, rfl, h⟩ := mE_inv h0
  refine ⟨Nat.le_of_ble_eq_true rfl, ?_⟩
  split at h
  · rename_i hl
    dsimp only at hl h
    simp only [Option.some.injEq] at h
    have l1 := @lenSd l
    have hR : postsF l = (l.all postB && decide (l.length ≤ 8)) := rfl
    generalize postsF l = R at *
    have hc := Nat.zero_add 0
    repeat' (first | simp only [hc, AS, Tryz.f4, encSd, SX, l1, ZZ, simprocAttr, ↓reduceIte] | ((first | apply Za | apply Zb | apply Zc | apply Zd | apply Ze | apply Zf | apply Zg | apply Zh) <;> intro hc) | refine Zi ?_ | refine Zj ?_)
    refine awpS_loop (σ := Nat) (fun i => i ≤ l.length ∧ (l.take i).all postB = true)
      (fun i => ⟨[(3, AV.i i), (0, AV.d (.sl f (l.map Snd.row)))], []⟩)
      (fun i => l.length - i) 0 (Wk.sub' (by simp [subT, look]) rfl) ⟨Nat.zero_le _, rfl⟩ ?_
    rintro i ⟨hi, hn⟩
    by_cases hil : i < l.length
    · have e1 := sd_at hil
      have c1 : ((i : Int) < (l.length : Int)) = True := eq_true (by omega)
      have w1 := wI (n := (i : Int) + 1) (by omega) (by omega)
      obtain ⟨g1, g2⟩ := allB_take hil hn
      have m1 := @lenRc l[i].recs
      have m2 : ((l[i].lost.map rowBo).length : Int) = l[i].lost.length := by simp
      have hp : postB l[i] = (decide (l[i].recs.length ≤ 5) && (decide (l[i].lost.length ≤ 40) && l[i].recs.all okB)) := rfl
      generalize l[i] = x at *
      by_cases b1 : x.recs.length ≤ 5
      · have b1' : ((x.recs.length : Int) > 5) = False := eq_false (by omega)
        by_cases b2 : x.lost.length ≤ 40
        · have b2' : ((x.lost.length : Int) > 40) = False := eq_false (by omega)
          rw [decide_eq_true b1, decide_eq_true b2, Bool.true_and, Bool.true_and] at hp
          have hc := Nat.zero_add 0
          repeat' (first | simp only [hc, AS, SX, l1, e1, c1, nn, m1, m2, b1', b2', ZZ, simprocAttr, ↓reduceIte] | ((first | apply Za | apply Zb | apply Zc | apply Zd | apply Ze | apply Zf | apply Zg | apply Zh) <;> intro hc) | refine Zi ?_ | refine Zj ?_)
          refine awpS_loop (σ := Nat) (fun j => j ≤ x.recs.length ∧ (x.recs.take j).all okB = true)
            (fun j => ⟨[(4, AV.i j), (3, AV.i i), (0, AV.d (.sl f (l.map Snd.row)))], []⟩)
            (fun j => x.recs.length - j) 0 (Wk.sub' (by simp [subT, look]) rfl) ⟨Nat.zero_le _, rfl⟩ ?_
          rintro j ⟨hj, hjn⟩
          by_cases hjl : j < x.recs.length
          · have e2 := rc_at hjl
            have c2 : ((j : Int) < (x.recs.length : Int)) = True := eq_true (by omega)
            have w2 := wI (n := (j : Int) + 1) (by omega) (by omega)
            obtain ⟨k1, k2⟩ := allB_take hjl hjn
            have hq : okB x.recs[j] = (decide (x.recs[j].cents ≤ 1099511627776) && (decide (-1099511627776 ≤ x.recs[j].cents) && decide (x.recs[j].key.length ≤ 20))) := rfl
            generalize x.recs[j] = y at *
            by_cases d1 : y.cents ≤ 1099511627776
            · have d1' : (y.cents > 1099511627776) = False := eq_false (by omega)
              by_cases d2 : -1099511627776 ≤ y.cents
              · have d2' : (y.cents < -1099511627776) = False := eq_false (by omega)
                by_cases d3 : y.key.length ≤ 20
                · have d3' : ((y.key.length : Int) > 20) = False := eq_false (by omega)
                  have hc := Nat.zero_add 0
                  repeat' (first | simp only [hc, AS, SX, l1, e1, e2, c2, nn, m1, w2, d1', d2', d3', ZZ, simprocAttr, ↓reduceIte] | ((first | apply Za | apply Zb | apply Zc | apply Zd | apply Ze | apply Zf | apply Zg | apply Zh) <;> intro hc) | refine Zi ?_ | refine Zj ?_)
                  exact lp_next (j + 1) (Wk.sub' (by simp [subT, look]) rfl) ⟨by omega, k2 (by rw [hq]; simp [d1, d2, d3])⟩ (by omega)
                have d3' : ((y.key.length : Int) > 20) = True := eq_true (by omega)
                rw [k1 (by rw [hq]; simp [d3])] at hp
                rw [g1 hp, Bool.false_and] at hR
                subst hR
                have hc := Nat.zero_add 0
                repeat' (first | simp only [hc, AS, SX, l1, e1, e2, c2, nn, m1, d1', d2', d3', ZZ, simprocAttr, ↓reduceIte] | ((first | apply Za | apply Zb | apply Zc | apply Zd | apply Ze | apply Zf | apply Zg | apply Zh) <;> intro hc) | refine Zi ?_ | refine Zj ?_)
                rw [← h]
              have d2' : (y.cents < -1099511627776) = True := eq_true (by omega)
              rw [k1 (by rw [hq]; simp [d2])] at hp
              rw [g1 hp, Bool.false_and] at hR
              subst hR
              have hc := Nat.zero_add 0
              repeat' (first | simp only [hc, AS, SX, l1, e1, e2, c2, nn, m1, d1', d2', ZZ, simprocAttr, ↓reduceIte] | ((first | apply Za | apply Zb | apply Zc | apply Zd | apply Ze | apply Zf | apply Zg | apply Zh) <;> intro hc) | refine Zi ?_ | refine Zj ?_)
              rw [← h]
            have d1' : (y.cents > 1099511627776) = True := eq_true (by omega)
            rw [k1 (by rw [hq]; simp [d1])] at hp
            rw [g1 hp, Bool.false_and] at hR
            subst hR
            have hc := Nat.zero_add 0
            repeat' (first | simp only [hc, AS, SX, l1, e1, e2, c2, nn, m1, d1', ZZ, simprocAttr, ↓reduceIte] | ((first | apply Za | apply Zb | apply Zc | apply Zd | apply Ze | apply Zf | apply Zg | apply Zh) <;> intro hc) | refine Zi ?_ | refine Zj ?_)
            rw [← h]
          have c2 : ((j : Int) < (x.recs.length : Int)) = False := eq_false (by omega)
          rw [List.take_of_length_le (by omega : x.recs.length ≤ j)] at hjn
          have hc := Nat.zero_add 0
          repeat' (first | simp only [hc, AS, SX, l1, e1, c2, nn, m1, w1, ZZ, simprocAttr, ↓reduceIte] | ((first | apply Za | apply Zb | apply Zc | apply Zd | apply Ze | apply Zf | apply Zg | apply Zh) <;> intro hc) | refine Zi ?_ | refine Zj ?_)
          exact lp_next (i + 1) (Wk.sub' (by simp [subT, look]) rfl) ⟨by omega, g2 (by rw [hp]; exact hjn)⟩ (by omega)
        have b2' : ((x.lost.length : Int) > 40) = True := eq_true (by omega)
        rw [g1 (by rw [hp]; simp [b2]), Bool.false_and] at hR
        subst hR
        have hc := Nat.zero_add 0
        repeat' (first | simp only [hc, AS, SX, l1, e1, c1, nn, m1, m2, b1', b2', ZZ, simprocAttr, ↓reduceIte] | ((first | apply Za | apply Zb | apply Zc | apply Zd | apply Ze | apply Zf | apply Zg | apply Zh) <;> intro hc) | refine Zi ?_ | refine Zj ?_)
        rw [← h]
      have b1' : ((x.recs.length : Int) > 5) = True := eq_true (by omega)
      rw [g1 (by rw [hp]; simp [b1]), Bool.false_and] at hR
      subst hR
      have hc := Nat.zero_add 0
      repeat' (first | simp only [hc, AS, SX, l1, e1, c1, nn, m1, b1', ZZ, simprocAttr, ↓reduceIte] | ((first | apply Za | apply Zb | apply Zc | apply Zd | apply Ze | apply Zf | apply Zg | apply Zh) <;> intro hc) | refine Zi ?_ | refine Zj ?_)
      rw [← h]
    have c1 : ((i : Int) < (l.length : Int)) = False := eq_false (by omega)
    rw [List.take_of_length_le (by omega : l.length ≤ i)] at hn
    rw [hn, Bool.true_and] at hR
    by_cases b3 : l.length ≤ 8
    · have b3' : ((l.length : Int) ≤ 8) = True := eq_true (by omega)
      rw [decide_eq_true b3] at hR
      subst hR
      have hc := Nat.zero_add 0
      repeat' (first | simp only [hc, AS, SX, l1, c1, b3', ZZ, simprocAttr, ↓reduceIte] | ((first | apply Za | apply Zb | apply Zc | apply Zd | apply Ze | apply Zf | apply Zg | apply Zh) <;> intro hc) | refine Zi ?_ | refine Zj ?_)
      rw [← h]
    have b3' : ((l.length : Int) ≤ 8) = False := eq_false (by omega)
    rw [decide_eq_false b3] at hR
    subst hR
    have hc := Nat.zero_add 0
    repeat' (first | simp only [hc, AS, SX, l1, c1, b3', ZZ, simprocAttr, ↓reduceIte] | ((first | apply Za | apply Zb | apply Zc | apply Zd | apply Ze | apply Zf | apply Zg | apply Zh) <;> intro hc) | refine Zi ?_ | refine Zj ?_)
    rw [← h]
  cases h
theorem fposts_at {f : Bool} {l : List Snd} (h : l.length ≤ 9223372036854775807) : fposts_m [.c (.sl f (l.map Snd.row))] = some [.b (postsF l)] := by
  have := mE_eq encSd_inj (g := fun p => if p.2.length ≤ 9223372036854775807 then some [DV.b (postsF p.2)] else none) (a := (f, l))
  exact this.trans (if_pos h)
end
end Go.Ab
namespace Go.Ab
open Go.RowKit Go.Proofs
def prow (w o t : Bool) (p : Ptn) : List D := [.str p.name, .int .i64 p.out, .int .i64 p.inn, .sl w (p.wait.map Fil.row), .sl o (p.ours.map Rec.row), .sl t (p.theirs.map Rec.row)]
def zrow : List D := [.str [], .int .i64 0, .int .i64 0, .sl true [], .sl true [], .sl true []]
theorem mapFl_inj {l k : List Fil} : l.map Fil.row = k.map Fil.row ↔ l = k := ⟨map_inj Fil.inj, fun h => by rw [h]⟩
def encPt (q : (Bool × Bool × Bool) × Ptn) : List PA := [.agg (prow q.1.1 q.1.2.1 q.1.2.2 q.2)]
theorem encPt_inj (a b : (Bool × Bool × Bool) × Ptn) (h : encPt a = encPt b) : a = b := by
  obtain ⟨⟨a1, a2, a3⟩, a4, a5, a6, a7, a8, a9⟩ := a
  obtain ⟨⟨b1, b2, b3⟩, b4, b5, b6, b7, b8, b9⟩ := b
  simp only [encPt, prow, List.cons.injEq, DV.agg.injEq, D.str.injEq, D.int.injEq, D.sl.injEq, true_and, and_true] at h
  obtain ⟨h1, h2, h3, ⟨h4, h5⟩, ⟨h6, h7⟩, h8, h9⟩ := h
  rw [h1, h2, h3, h4, mapFl_inj.1 h5, h6, mapR_inj.1 h7, h8, mapR_inj.1 h9]
noncomputable section
open Classical
def xnew_m : List PA → Option (List PA) := ms fun s => some (if nameB s = true then [.agg (prow true true true (newP s)), .i 0] else [.agg zrow, .i 6])
theorem tname_atF {s : List UInt8} : tname_m [.c (.str s)] = some [.b (nameB s)] := rfl
theorem xnew_ok : PureC Tryz.prog Gt 6 xnew_m := by
  refine pure_of_awpS (X := ctx Tryz.prog Gt [(16, tname_m)]) Tryz.func6 rfl rfl (by kernel_rfl) (by kernel_rfl) (AllOk.cons tname_ok AllOk.nil).kok ?_
  intro args r h0
  obtain ⟨s, rfl, h⟩ := ms_inv h0
  refine ⟨Nat.le_of_ble_eq_true rfl, ?_⟩
  simp only [Option.some.injEq] at h
  have f1 := @tname_atF s
  cases hn : nameB s
  · rw [hn] at f1
    rw [hn, if_neg (by decide)] at h
    have hc := Nat.zero_add 0
    repeat' (first | simp only [hc, AS, Tryz.f6, SX, f1, ZZ, simprocAttr, ↓reduceIte] | ((first | apply Za | apply Zb | apply Zc | apply Zd | apply Ze | apply Zf | apply Zg | apply Zh) <;> intro hc) | refine Zi ?_ | refine Zj ?_)
    rw [← h]
    rfl
  rw [hn] at f1
  rw [hn, if_pos rfl] at h
  have hc := Nat.zero_add 0
  repeat' (first | simp only [hc, AS, Tryz.f6, SX, f1, ZZ, simprocAttr, ↓reduceIte] | ((first | apply Za | apply Zb | apply Zc | apply Zd | apply Ze | apply Zf | apply Zg | apply Zh) <;> intro hc) | refine Zi ?_ | refine Zj ?_)
  rw [← h]
  rfl
end
end Go.Ab
