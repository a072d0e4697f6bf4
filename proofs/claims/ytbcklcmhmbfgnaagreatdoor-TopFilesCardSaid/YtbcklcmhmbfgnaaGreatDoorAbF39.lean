/-
  Texts of the layer and of the laws, put together: AbA41, AbA42.
-/
import Derived.Test.YtbcklcmhmbfgnaaGreatDoorAbF38
import Derived.Test.YtbcklcmhmbfgnaaGreatDoorAbF14
set_option linter.unusedSimpArgs false
set_option linter.unusedVariables false
set_option maxRecDepth 100000
namespace Go.Ab
open Go.RowKit Go.Proofs
def plK (k : List UInt8) : List Rec → Option Nat
  | [] => none
  | y :: r => if y.key = k then some 0 else (plK k r).map (· + 1)
def newR (x : Rec) : Rec := ⟨1, x.key, x.time, afterF 0 x, 0⟩
def addR (y x : Rec) : Rec := ⟨y.kind, y.key, x.time, afterF y.cents x, y.why⟩
theorem plK_none {x : Rec} : ∀ {O : List Rec}, plK x.key O = none → putK x O = O ++ [newR x]
  | [], _ => rfl
  | y :: r, h => by
    rw [plK] at h
    split at h
    · cases h
    rename_i hy
    rw [putK, if_neg hy, plK_none (by simpa using h)]
    rfl
theorem plK_some {x : Rec} : ∀ {O : List Rec} {i : Nat}, plK x.key O = some i → ∃ y, O[i]? = some y ∧ y.key = x.key ∧ putK x O = O.set i (addR y x)
  | [], i, h => by cases h
  | y :: r, i, h => by
    rw [plK] at h
    split at h
    · rename_i hy
      cases h
      exact ⟨y, rfl, hy, by rw [putK, if_pos hy]; rfl⟩
    rename_i hy
    simp only [Option.map_eq_some_iff] at h
    obtain ⟨k, hk, rfl⟩ := h
    obtain ⟨z, h1, h2, h3⟩ := plK_some hk
    exact ⟨z, by simpa using h1, h2, by rw [putK, if_neg hy, h3]; rfl⟩
theorem net_next {l : List Rec} {j : Nat} (h : j < l.length) : netU (l.take (j + 1)) = putK l[j] (netU (l.take j)) := by
  unfold netU
  rw [List.take_succ_eq_append_getElem h, List.foldl_append]
  rfl
theorem putK_len (x : Rec) : ∀ O : List Rec, (putK x O).length ≤ O.length + 1
  | [] => Nat.le_refl _
  | y :: r => by
    rw [putK]
    split
    · simp
    have := putK_len x r
    simp only [List.length_cons]
    omega
def mapG : Nat → List Rec → MapA
  | _, [] => []
  | n, y :: r => (n, .c (.str y.key), .c (.int .i64 n)) :: mapG (n + 1) r
theorem mapG_find {k : List UInt8} : ∀ {n : Nat} {O : List Rec}, findA (.c (.str k)) (mapG n O) = plK k O
  | _, [] => rfl
  | n, y :: r => by
    have ih := @mapG_find k (n + 1) r
    unfold findA at ih ⊢
    rw [mapG, List.findIdx?_cons, plK, ih]
    by_cases h : y.key = k
    · rw [if_pos h, if_pos (by simp [keyEq, h])]
    rw [if_neg h, if_neg (by simp [keyEq, h])]
theorem mapG_at : ∀ {n i : Nat} {O : List Rec} {y : Rec}, O[i]? = some y → (mapG n O)[i]? = some (n + i, .c (.str y.key), .c (.int .i64 ((n + i : Nat) : Int)))
  | n, 0, z :: r, y, h => by
    simp only [List.getElem?_cons_zero, Option.some.injEq] at h
    subst h
    rfl
  | n, i + 1, z :: r, y, h => by
    rw [List.getElem?_cons_succ] at h
    rw [mapG, List.getElem?_cons_succ, mapG_at h, show n + 1 + i = n + (i + 1) by omega]
theorem mapG_snoc {x : Rec} : ∀ {n : Nat} {O : List Rec}, mapG n (O ++ [x]) = mapG n O ++ [(n + O.length, .c (.str x.key), .c (.int .i64 ((n + O.length : Nat) : Int)))]
  | n, [] => rfl
  | n, y :: r => by
    rw [List.cons_append, mapG, mapG_snoc, mapG, List.cons_append, List.length_cons, show n + 1 + r.length = n + (r.length + 1) by omega]
theorem mapG_key {x : Rec} : ∀ {n i : Nat} {O : List Rec} {y : Rec}, O[i]? = some y → x.key = y.key → mapG n (O.set i x) = mapG n O
  | n, 0, z :: r, y, h, hk => by
    simp only [List.getElem?_cons_zero, Option.some.injEq] at h
    subst h
    rw [List.set_cons_zero, mapG, mapG, hk]
  | n, i + 1, z :: r, y, h, hk => by
    rw [List.getElem?_cons_succ] at h
    rw [List.set_cons_succ, mapG, mapG, mapG_key h hk]
end Go.Ab
namespace Go.Ab
open Go.RowKit Go.Proofs
def rowC (x : Rec) : List C1 := x.row.map .d
def rcd (L : List Rec) : List C1 := L.flatMap rowC
theorem rowC_len (x : Rec) : (rowC x).length = 5 := rfl
theorem rc_rcd : ∀ L : List Rec, rc L = rcd L
  | [] => rfl
  | x :: L => by
    have ih := rc_rcd L
    unfold rc rcd rowC at ih ⊢
    rw [List.flatMap_cons, List.flatMap_cons, List.map_append, ih]
theorem rcd_snoc {L : List Rec} {x : Rec} : rcd (L ++ [x]) = rcd L ++ rowC x := by simp [rcd]
theorem stP_rcd {h : Hp} {id k n : Nat} {L : List Rec} {x : Rec} (x' : Rec) (hx : L[k]? = some x) {j : Nat} (hj : j < 5) {v : C1} (hs : (rowC x).set j v = rowC x') :
    stP h id (k * 5 + j) n 5 (rcd L) (some [v]) (some 1) = some (h.set id (.tok n 5 (some (rcd (L.set k x'))))) := stP_fm rowC_len hx hj hs
theorem rcd_low {L : List Rec} {n : Nat} : ((rcd L).all (C1.low n)) = true := by
  rw [← rc_rcd, List.all_eq_true]
  intro c hc
  obtain ⟨d, _, rfl⟩ := List.mem_map.1 hc
  rfl
theorem rcd_allD (L : List Rec) : allD (rcd L) = some (L.flatMap Rec.row) := by
  rw [← rc_rcd]
  exact allD_mapd
theorem chunk_rec : ∀ {L : List Rec}, chunk 5 L.length (L.flatMap Rec.row) = L.map Rec.row
  | [] => rfl
  | x :: L => by
    rw [List.length_cons, chunk, List.flatMap_cons, List.map_cons, ← chunk_rec]
    have hp : x.row.length = 5 := rfl
    rw [List.take_append, List.take_of_length_le (by omega), List.drop_append, List.drop_of_length_le (by omega), hp]
    simp
theorem mapG_len : ∀ (n : Nat) (O : List Rec), (mapG n O).length = O.length
  | _, [] => rfl
  | n, y :: r => by rw [mapG, List.length_cons, mapG_len, List.length_cons]
theorem netU_len (l : List Rec) : ∀ j, j ≤ l.length → (netU (l.take j)).length ≤ j
  | 0, _ => by simp [netU]
  | j + 1, h => by
    rw [net_next (by omega)]
    have := putK_len l[j] (netU (l.take j))
    have := netU_len l j (by omega)
    omega
def newZ (x : Rec) : Rec := ⟨1, x.key, 0, 0, 0⟩
def timZ (y x : Rec) : Rec := ⟨y.kind, y.key, x.time, y.cents, y.why⟩
noncomputable section
open Classical
theorem sfRec_at {h : Hp} {id : Nat} {L : List Rec} (hid : h[id]? = some (.tok L.length 5 (some (rc L)))) (hl : L.length ≤ 1000000000) (hn : (L.map Rec.key).Nodup) :
    sfRec_k [.v (.c (.msl id L.length)), .v (.c (.fn 95 []))] h = some (.ret (.tup []) (h.set id (.tok L.length 5 (some (rc (sortK L)))))) := by
  have := kR_eq (R := srR) (g := fun p : Hp × Nat × List Rec => if p.2.2.length ≤ 1000000000 ∧ (p.2.2.map Rec.key).Nodup then some (.ret (.tup []) (p.1.set p.2.1 (.tok p.2.2.length 5 (some (rc (sortK p.2.2)))))) else none) (a := (h, id, L))
    (args := [.v (.c (.msl id L.length)), .v (.c (.fn 95 []))]) (h := h) (fun b hb => by rw [srR_inj (a := (h, id, L)) ⟨rfl, rfl, hid⟩ hb]) ⟨rfl, rfl, hid⟩
  exact this.trans (if_pos ⟨hl, hn⟩)
def anet_m : List PA → Option (List PA) := mE encRs fun p => if p.2.length ≤ 1000000 then some [.c (.sl false ((netR p.2).map Rec.row))] else none
theorem anet_ok : PureC Tryz.prog Gt 76 anet_m := by
  refine pure_of_awpSW (X := ctxN Tryz.prog Gt [(38, aafter_m)] [(94, sfRec_k)] [] none (uL [52])) Tryz.func76 rfl rfl (by kernel_rfl) (by kernel_rfl) (kok_n (AllOk.cons aafter_ok AllOk.nil) (AllK.cons sfRec_kok AllK.nil) AllN.nil) ?_
  intro args r h0
  obtain ⟨⟨f, l⟩, rfl, h⟩ := mE_inv h0
  refine ⟨Nat.le_of_ble_eq_true rfl, ?_⟩
  split at h
  · rename_i hl
    dsimp only at hl h
    simp only [Option.some.injEq] at h
    have l1 := @lenR l
    have hc := Nat.zero_add 0
    repeat' (first | simp only [hc, AS, Tryz.f76, encRs, NX, NPV, SX, l1, ZZ, simprocAttr, ↓reduceIte] | ((first | apply Za | apply Zb | apply Zc | apply Zd | apply Ze | apply Zf | apply Zg | apply Zh) <;> intro hc) | refine Zi ?_ | refine Zj ?_)
    refine awpS_loop (σ := Nat) (fun j => j ≤ l.length) (fun j => ⟨[(12, AV.i j), (11, AV.i l.length), (10, AV.d (.sl f (l.map Rec.row))), (4, .v (.c (.msl 1 (netU (l.take j)).length))), (3, .v (.c (.mp 0)))], [.map (mapG 0 (netU (l.take j))) (netU (l.take j)).length, .tok (netU (l.take j)).length 5 (some (rcd (netU (l.take j))))]⟩) (fun j => l.length - j) 0 ((Wk.msl 4 5 (by decide) (by simp [look])).trans (Wk.sub' (by simp [subT, look, netU]) rfl)) (Nat.zero_le _) ?_
    intro j hj
    by_cases hjl : j < l.length
    · have e1 := row_at hjl
      have hlt : ((j : Int) < (l.length : Int)) = True := eq_true (by omega)
      have hw := wI (n := (j : Int) + 1) (by omega) (by omega)
      have hnx := net_next hjl
      have hOl := netU_len l j hj
      generalize netU (l.take j) = O at *
      generalize l[j] = x at *
      have hko : keysOk .string (.c (.str x.key)) (mapG 0 O) = true := by
        unfold keysOk
        rw [Bool.and_eq_true, List.all_eq_true]
        refine ⟨rfl, fun e he => ?_⟩
        obtain ⟨i, hi⟩ := List.getElem?_of_mem he
        by_cases hio : i < O.length
        · rw [mapG_at (List.getElem?_eq_getElem hio)] at hi
          cases hi
          rfl
        rw [List.getElem?_eq_none (by rw [mapG_len]; omega)] at hi
        cases hi
      have hfi := @mapG_find x.key 0 O
      cases hp : plK x.key O with
      | none =>
        rw [hp] at hfi
        have hpk := plK_none hp
        rw [hpk] at hnx
        have hb1 : ((O.length + 1) * 48 ≤ 140737488355328) = True := eq_true (by omega)
        have hb2 : (O.length + 1 ≤ 4611686018427387904) = True := eq_true (by omega)
        have hpu : putA (mapG 0 O) O.length (.c (.str x.key)) (.c (.int .i64 O.length)) = .map (mapG 0 (O ++ [newR x])) (O.length + 1) := by
          unfold putA
          rw [hfi, mapG_snoc]
          simp [newR]
        have hsn : rcd O ++ [.d (.int .i64 1), .d (.str x.key), .d (.int .i64 0), .d (.int .i64 0), .d (.int .i64 0)] = rcd (O ++ [newZ x]) := (rcd_snoc (L := O) (x := newZ x)).symm
        have hx1 : (O ++ [newZ x])[O.length]? = some (newZ x) := by simp
        have hc3 : (rcd (O ++ [newZ x]))[O.length * 5 + 3]? = some (.d (.int .i64 0)) := fm_cell rowC_len hx1 (by decide)
        have hs1 : ∀ h, stP h 1 (O.length * 5 + 2) (O.length + 1) 5 (rcd (O ++ [newZ x])) (some [.d (.int .i64 x.time)]) (some 1) = some (h.set 1 (.tok (O.length + 1) 5 (some (rcd (O ++ [timZ (newZ x) x]))))) := fun h => by
          rw [stP_rcd (timZ (newZ x) x) hx1 (by decide) rfl]
          simp
        have hx2 : (O ++ [timZ (newZ x) x])[O.length]? = some (timZ (newZ x) x) := by simp
        have hs2 : ∀ h, stP h 1 (O.length * 5 + 3) (O.length + 1) 5 (rcd (O ++ [timZ (newZ x) x])) (some [.d (.int .i64 (afterF 0 x))]) (some 1) = some (h.set 1 (.tok (O.length + 1) 5 (some (rcd (O ++ [newR x]))))) := fun h => by
          rw [stP_rcd (newR x) hx2 (by decide) rfl]
          simp
        have f1 := aafter_at (n := 0) (x := x)
        simp only [Rec.row] at f1
        have hi : ((O.length : Int) < ((O.length + 1 : Nat) : Int)) = True := eq_true (by omega)
        have hc := Nat.zero_add 0
        repeat' (first | simp only [hc, AS, MP, NX, NPV, SX, HX, Option.isSome_none, Option.isSome_some, l1, hlt, nn, e1, hw, hko, hfi, hpu, hb1, hb2, hsn, hi, Int.toNat_natCast, hc3, hs1, hs2, f1, ZZ, simprocAttr, ↓reduceIte] | ((first | apply Za | apply Zb | apply Zc | apply Zd | apply Ze | apply Zf | apply Zg | apply Zh) <;> intro hc) | refine Zi ?_ | refine Zj ?_)
        refine lp_next (j + 1) ?_ (by omega) (by omega)
        rw [hnx]
        exact Wk.cutk (k := 2) (by decide) (by simp) (by simp) (by simp [subT, look]) (by simp [AV.low, V.low, C1.low]) (by simp [Ob.low, rcd_low])
      | some i =>
        rw [hp] at hfi
        obtain ⟨y, hy, hyk, hpk⟩ := plK_some hp
        rw [hpk] at hnx
        have hio := lt_of_get hy
        have hpi : pickA (mapG 0 O) (.c (.str x.key)) = some (.c (.int .i64 i)) := by
          unfold pickA
          rw [hfi, Option.bind_some, mapG_at hy]
          simp
        have hc3 : (rcd O)[i * 5 + 3]? = some (.d (.int .i64 y.cents)) := fm_cell rowC_len hy (by decide)
        have hs1 : ∀ h, stP h 1 (i * 5 + 2) O.length 5 (rcd O) (some [.d (.int .i64 x.time)]) (some 1) = some (h.set 1 (.tok O.length 5 (some (rcd (O.set i (timZ y x)))))) := fun h => stP_rcd (timZ y x) hy (by decide) rfl
        have hy2 : (O.set i (timZ y x))[i]? = some (timZ y x) := by simp [hio]
        have hs2 : ∀ h, stP h 1 (i * 5 + 3) O.length 5 (rcd (O.set i (timZ y x))) (some [.d (.int .i64 (afterF y.cents x))]) (some 1) = some (h.set 1 (.tok O.length 5 (some (rcd (O.set i (addR y x)))))) := fun h => by
          rw [stP_rcd (addR y x) hy2 (by decide) rfl]
          simp
        have f1 := aafter_at (n := y.cents) (x := x)
        simp only [Rec.row] at f1
        have hi : ((i : Int) < (O.length : Int)) = True := eq_true (by omega)
        have hpv : ∀ z, pkV (mapG 0 O) (.c (.str x.key)) z = .c (.d (.int .i64 i)) := fun z => by
          unfold pkV
          rw [hpi]
          rfl
        have hc := Nat.zero_add 0
        repeat' (first | simp only [hc, AS, MP, NX, NPV, SX, HX, Option.isSome_none, Option.isSome_some, l1, hlt, nn, e1, hw, hko, hfi, hpv, hi, Int.toNat_natCast, hc3, hs1, hs2, f1, ZZ, simprocAttr, ↓reduceIte] | ((first | apply Za | apply Zb | apply Zc | apply Zd | apply Ze | apply Zf | apply Zg | apply Zh) <;> intro hc) | refine Zi ?_ | refine Zj ?_)
        refine lp_next (j + 1) ?_ (by omega) (by omega)
        rw [hnx, mapG_key hy (x := addR y x) rfl, List.length_set]
        exact Wk.cutk (k := 2) (by decide) (by simp) (by simp) (by simp [subT, look]) (by simp [AV.low, V.low, C1.low]) (by simp [Ob.low, rcd_low])
    have hlt : ((j : Int) < (l.length : Int)) = False := eq_false (by omega)
    rw [List.take_of_length_le (by omega)]
    have hOl := netU_len l l.length (Nat.le_refl _)
    rw [List.take_length] at hOl
    have hN := net_sorted l
    have hU := (netU_ok l).one
    generalize netU l = O at *
    have f1 := sfRec_at (h := [.map (mapG 0 O) O.length, .tok O.length 5 (some (rcd O))]) (id := 1) (L := O) (by rw [rc_rcd]; rfl) (by omega) hU
    have hc := Nat.zero_add 0
    repeat' (first | simp only [hc, AS, NX, NPV, SX, HX, l1, hlt, f1, ZZ, simprocAttr, ↓reduceIte] | ((first | apply Za | apply Zb | apply Zc | apply Zd | apply Ze | apply Zf | apply Zg | apply Zh) <;> intro hc) | refine Zi ?_ | refine Zj ?_)
    rw [rc_rcd, ← h]
    have hlen : (sortK O).length = O.length := (sortK_perm O).length_eq
    have hfr := Wk.freezeC (n := 0) (t := [(2, .v (.c (.msl 1 O.length)))]) (h := [.map (mapG 0 O) O.length, .tok O.length 5 (some (rcd (sortK O)))]) 2 1 O.length 5 (rcd (sortK O)) _ (by simp [look]) rfl (rcd_allD _)
    rw [← hlen, chunk_rec, hN, ← hN, hlen] at hfr
    exact ⟨_, (Wk.sub' (by simp [subT, look]) rfl).trans hfr, by rw [hN]; rfl⟩
  cases h
theorem anet_at {f : Bool} {l : List Rec} (h : l.length ≤ 1000000) : anet_m [.c (.sl f (l.map Rec.row))] = some [.c (.sl false ((netR l).map Rec.row))] := by
  have := mE_eq encRs_inj (g := fun p => if p.2.length ≤ 1000000 then some [DV.c (.sl false ((netR p.2).map Rec.row))] else none) (a := (f, l))
  exact this.trans (if_pos h)
end
end Go.Ab
