/-
  Texts of the layer and of the laws, put together: AbJ6.
-/
import Derived.Test.YtdoofgbeajkpaaaGreatDoorAbWC35
set_option linter.unusedSimpArgs false
set_option linter.unusedVariables false
set_option maxRecDepth 100000
namespace Go.Ab
open Go.RowKit Go.Proofs
noncomputable section
open Classical
def r5same_m : List PA → Option (List PA) := mE encVV fun p => if decide (p.1.2.length ≤ 1000000000) = true then some [.b (decide (p.1.2 = p.2.2))] else none
theorem r5same_ok : PureC Tryz.prog Gt 34 r5same_m := by
  refine pure_of_awpS (X := ctx Tryz.prog Gt []) Tryz.func34 rfl rfl (by kernel_rfl) (by kernel_rfl) AllOk.nil.kok ?_
  intro args r h0
  obtain ⟨⟨⟨f, l⟩, g, k⟩, rfl, h⟩ := mE_inv h0
  refine ⟨Nat.le_of_ble_eq_true rfl, ?_⟩
  split at h
  · rename_i hl
    have hlen := of_decide_eq_true hl
    dsimp only at hlen h
    simp only [Option.some.injEq] at h
    by_cases hlk : l.length = k.length
    · have h1 : ((l.map rwI).length : Int) = l.length := by simp
      have h2 : ((k.map rwI).length : Int) = l.length := by simp [hlk]
      have hc := Nat.zero_add 0
      repeat' (first | simp only [hc, AS, Tryz.f34, encVV, SX, h1, h2, ZZ, simprocAttr, ↓reduceIte, ZF, ZE, ZN, ZI, ZB] | ((first | apply Za | apply Zb | apply Zc | apply Zd | apply Ze | apply Zf | apply Zg | apply Zh) <;> intro hc) | refine Zi ?_ | refine Zj ?_)
      refine awpS_loop (σ := Nat) (fun j => j ≤ l.length ∧ l.take j = k.take j) (fun j => ⟨[(5, AV.i j), (0, AV.d (.sl f (l.map rwI))), (1, AV.d (.sl g (k.map rwI)))], []⟩) (fun j => l.length - j) 0 (Wk.sub' (by simp [subT, look]) rfl) (by simp) ?_
      rintro j ⟨hj, hjt⟩
      by_cases hjl : j < l.length
      · have e1 := iv_at hjl
        have hjk : j < k.length := by omega
        have e2 := iv_at hjk
        have hlt : ((j : Int) < (l.length : Int)) = True := eq_true (by omega)
        have hw := wI (n := (j : Int) + 1) (by omega) (by omega)
        by_cases hxy : l[j] = k[j]
        · have htk : l.take (j + 1) = k.take (j + 1) := by rw [List.take_succ_eq_append_getElem hjl, List.take_succ_eq_append_getElem hjk, hjt, hxy]
          rw [← hxy] at e2
          generalize l[j] = x at *
          obtain ⟨u, v⟩ := x
          dsimp only at e1 e2
          have hc := Nat.zero_add 0
          repeat' (first | simp only [hc, AS, SX, NW, h1, h2, e1, e2, nn, hlt, hw, allD_cons, allD_nil, Option.bind_some, fits_nil, fits_i, ZZ, simprocAttr, ↓reduceIte, ZF, ZE, ZN, ZI, ZB] | ((first | apply Za | apply Zb | apply Zc | apply Zd | apply Ze | apply Zf | apply Zg | apply Zh) <;> intro hc) | refine Zi ?_ | refine Zj ?_)
          exact lp_next (j + 1) (Wk.sub' (by simp [subT, look]) rfl) ⟨by omega, htk⟩ (by omega)
        have hne : ¬ l = k := fun e => by subst e; exact hxy rfl
        generalize l[j] = x at *
        generalize k[j] = y at *
        obtain ⟨u, v⟩ := x
        obtain ⟨u', v'⟩ := y
        dsimp only at e1 e2
        have hb : (u == u' && (v == v' && true)) = false := by
          by_cases e : u = u'
          · by_cases e' : v = v'
            · exact absurd (by rw [e, e']) hxy
            simp [e']
          simp [e]
        have hc := Nat.zero_add 0
        repeat' (first | simp only [hc, AS, SX, NW, h1, h2, e1, e2, nn, hlt, hw, allD_cons, allD_nil, Option.bind_some, fits_nil, fits_i, hb, ZZ, simprocAttr, ↓reduceIte, ZF, ZE, ZN, ZI, ZB] | ((first | apply Za | apply Zb | apply Zc | apply Zd | apply Ze | apply Zf | apply Zg | apply Zh) <;> intro hc) | refine Zi ?_ | refine Zj ?_)
        rw [← h]
        simp [DV.b, hne]
      have hlt : ((j : Int) < (l.length : Int)) = False := eq_false (by omega)
      have he : l = k := by
        have e := hjt
        rwa [List.take_of_length_le (by omega), List.take_of_length_le (by omega)] at e
      have hc := Nat.zero_add 0
      repeat' (first | simp only [hc, AS, SX, h1, h2, hlt, ZZ, simprocAttr, ↓reduceIte, ZF, ZE, ZN, ZI, ZB] | ((first | apply Za | apply Zb | apply Zc | apply Zd | apply Ze | apply Zf | apply Zg | apply Zh) <;> intro hc) | refine Zi ?_ | refine Zj ?_)
      rw [← h]
      simp [DV.b, he]
    have h1 : ((l.map rwI).length : Int) = l.length := by simp
    have h2 : ((k.map rwI).length : Int) = k.length := by simp
    have h3 : ((l.length : Int) = (k.length : Int)) = False := eq_false (by omega)
    have hne : ¬ l = k := fun e => hlk (by rw [e])
    have hc := Nat.zero_add 0
    repeat' (first | simp only [hc, AS, Tryz.f34, encVV, SX, h1, h2, h3, ZZ, simprocAttr, ↓reduceIte, ZF, ZE, ZN, ZI, ZB] | ((first | apply Za | apply Zb | apply Zc | apply Zd | apply Ze | apply Zf | apply Zg | apply Zh) <;> intro hc) | refine Zi ?_ | refine Zj ?_)
    rw [← h]
    simp [DV.b, hne]
  cases h
theorem r5same_at {f g : Bool} {a b : List Iv} (h : a.length ≤ 1000000000) : r5same_m [.c (.sl f (a.map rwI)), .c (.sl g (b.map rwI))] = some [.b (decide (a = b))] := by
  have := mE_eq encVV_inj (g := fun p => if decide (p.1.2.length ≤ 1000000000) = true then some [DV.b (decide (p.1.2 = p.2.2))] else none) (a := ((f, a), g, b))
  exact this.trans (if_pos (decide_eq_true h))
end
end Go.Ab
