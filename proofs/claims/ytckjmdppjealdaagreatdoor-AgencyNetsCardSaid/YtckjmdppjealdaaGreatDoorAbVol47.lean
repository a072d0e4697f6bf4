/-
  Texts of the layer and of the laws, put together: AbA44, AbA45, AbK1. No law is stated here.
-/
import Derived.Test.YtckjmdppjealdaaGreatDoorAbVol44
import Derived.Test.YtckjmdppjealdaaGreatDoorAbVol46
set_option linter.unusedSimpArgs false
set_option linter.unusedVariables false
set_option maxRecDepth 100000

/-
  Agency, Nets: plain laws.
-/
namespace Go.Ab
open Go.RowKit Go.Proofs

theorem less_bef : ∀ a b : List UInt8, Op.bytesLess a b = befB a b
  | [], [] => rfl
  | [], _ :: _ => rfl
  | _ :: _, [] => rfl
  | a :: x, b :: y => by
    rw [Op.bytesLess, befB, less_bef x y]
    by_cases h : a = b
    · subst h
      have : decide (a < a) = false := decide_eq_false (UInt8.lt_irrefl a)
      rw [if_pos rfl, this]
      simp
    · have hb : (a == b) = false := by simp [h]
      rw [if_neg h, hb]
      simp [UInt8.lt_iff_toNat_lt]
theorem leq_no {a b : List UInt8} (h : ordS a b < 0) : strA .leq b a = some (.bool false) := by
  have h2 := (cmp_ordS.anti a b).1 h
  unfold ordS at h2
  split at h2
  · omega
  · rename_i hne
    split at h2
    · omega
    · rename_i hb
      show some (D.bool (Op.bytesLess b a || b == a)) = _
      rw [less_bef]
      have h1 : befB b a = false := by simpa using hb
      have h3 : (b == a) = false := by simpa using hne
      rw [h1, h3]
      rfl

theorem netR_key (l : List Rec) : (netR l).map Rec.key = keysR l := by
  unfold netR
  rw [List.map_map]
  exact List.map_id _
theorem netR_mem {l : List Rec} {y : Rec} (h : y ∈ netR l) : y = recK l y.key := by
  unfold netR at h
  obtain ⟨k, _, rfl⟩ := List.mem_map.1 h
  rfl
theorem netR_nodup (l : List Rec) : ((netR l).map Rec.key).Nodup := by
  have h := netR_str l
  rw [List.Nodup, List.pairwise_map]
  exact h.imp fun hab e => by rw [e] at hab; exact ordS_irr _ hab
theorem netR_lt {l : List Rec} {i j : Nat} {y z : Rec} (hij : i < j) (hy : (netR l)[i]? = some y) (hz : (netR l)[j]? = some z) : ordS y.key z.key < 0 := by
  obtain ⟨h1, rfl⟩ := List.getElem?_eq_some_iff.1 hy
  obtain ⟨h2, rfl⟩ := List.getElem?_eq_some_iff.1 hz
  exact List.pairwise_iff_getElem.1 (netR_str l) i j h1 h2 hij

def othF (key : List UInt8) (l : List Rec) : List Rec := l.filter fun x => decide (x.key ≠ key)
theorem oth_next {key : List UInt8} {l : List Rec} {j : Nat} (h : j < l.length) : othF key (l.take (j + 1)) = if l[j].key = key then othF key (l.take j) else othF key (l.take j) ++ [l[j]] := by
  unfold othF
  rw [List.take_succ_eq_append_getElem h, List.filter_append]
  by_cases c : l[j].key = key
  · rw [if_pos c]; simp [c]
  · rw [if_neg c]; simp [c]
theorem oth_len (key : List UInt8) (l : List Rec) : (othF key l).length ≤ l.length := List.length_filter_le _ _
theorem amt_oth {k key : List UInt8} (hk : k ≠ key) : ∀ (l : List Rec) (n : Int), amtF k n (othF key l) = amtF k n l
  | [], _ => rfl
  | x :: l, n => by
    have ih := amt_oth hk l
    unfold othF at ih ⊢
    rw [List.filter_cons]
    by_cases c : x.key = key
    · rw [if_neg (by simp [c]), ih, amtF, if_neg (by rw [c]; exact fun e => hk e.symm)]
    · rw [if_pos (by simp [c]), amtF, amtF, ih]
theorem amt_self (key : List UInt8) (l : List Rec) : amtF key 0 (othF key l) = 0 := by
  refine amtF_out fun h => ?_
  obtain ⟨x, hx, he⟩ := List.mem_map.1 h
  unfold othF at hx
  have := (List.mem_filter.1 hx).2
  simp [he] at this

theorem timF_one {y : Rec} : ∀ {l : List Rec} {t : Int}, (l.map Rec.key).Nodup → y ∈ l → timF y.key t l = y.time
  | [], _, _, h => by cases h
  | x :: l, t, hn, h => by
    rw [List.map_cons, List.nodup_cons] at hn
    rcases List.mem_cons.1 h with rfl | h
    · rw [timF, if_pos rfl, timF_out hn.1]
    · have : ¬ x.key = y.key := fun e => hn.1 (e ▸ List.mem_map_of_mem h)
      rw [timF, if_neg this, timF_one hn.2 h]
theorem amtF_one {y : Rec} : ∀ {l : List Rec} {n : Int}, (l.map Rec.key).Nodup → y ∈ l → amtF y.key n l = afterF n y
  | [], _, _, h => by cases h
  | x :: l, n, hn, h => by
    rw [List.map_cons, List.nodup_cons] at hn
    rcases List.mem_cons.1 h with rfl | h
    · rw [amtF, if_pos rfl, amtF_out hn.1]
    · have : ¬ x.key = y.key := fun e => hn.1 (e ▸ List.mem_map_of_mem h)
      rw [amtF, if_neg this, amtF_one hn.2 h]
theorem netR_again {l : List Rec} (h : fitsB (netR l) = true) : netR (netR l) = netR l := by
  have hf : ∀ y ∈ netR l, -1125899906842624 ≤ y.cents ∧ y.cents ≤ 1125899906842624 := fun y hy => by
    unfold fitsB at h
    rw [Bool.and_eq_true, List.all_eq_true] at h
    exact of_decide_eq_true (h.2 y hy)
  have hr : ∀ y ∈ netR l, recK (netR l) y.key = y := fun y hy => by
    have e := netR_mem hy
    have hc := hf y hy
    unfold recK
    rw [timF_one (netR_nodup l) hy, amtF_one (netR_nodup l) hy]
    have hk : y.kind = 1 := by rw [e]; rfl
    have hw : y.why = 0 := by rw [e]; rfl
    have ha : afterF 0 y = y.cents := by
      unfold afterF
      rw [if_pos (.inl hk), wI (by omega) (by omega)]
      omega
    rw [ha]
    obtain ⟨a, b, c, d, w⟩ := y
    dsimp only at hk hw
    subst hk hw
    rfl
  refine strK_ext (netR_str _) (netR_str _) fun x => ⟨fun hx => ?_, fun hx => ?_⟩
  · have e := netR_mem hx
    have hk : x.key ∈ keysR (netR l) := by rw [← netR_key]; exact List.mem_map_of_mem hx
    rw [mem_keysR] at hk
    obtain ⟨y, hy, he⟩ := List.mem_map.1 hk
    rw [e, ← he, hr y hy]
    exact hy
  · have hk : x.key ∈ keysR (netR l) := by rw [mem_keysR]; exact List.mem_map_of_mem hx
    rw [← hr x hx]
    exact List.mem_map_of_mem hk

end Go.Ab

/-
  Agency: law Nets.
-/
namespace Go.Ab
open Go.RowKit Go.Proofs

noncomputable section
open Classical

def lNets_m : List PA → Option (List PA) := mE encRK fun p => if p.1.2.length ≤ 9223372036854775807 ∧ (∀ x ∈ p.1.2, x.key.length ≤ 9223372036854775807) then some [.b true] else none

theorem lNets_ok : PureC Tryz.prog Gt 6 lNets_m := by
  refine pure_of_awp (X := ctx Tryz.prog Gt [(18, afits_m), (22, anet_m), (19, aamt_m), (25, hast_m), (21, rsamer_m), (24, alive_m)]) Tryz.func6 rfl rfl (by kernel_rfl) (by kernel_rfl) (AllOk.cons afits_ok (AllOk.cons anet_ok (AllOk.cons aamt_ok (AllOk.cons hast_ok (AllOk.cons rsamer_ok (AllOk.cons alive_ok AllOk.nil)))))).kok ?_
  intro args r h0
  obtain ⟨⟨⟨f, l⟩, key⟩, rfl, h⟩ := mE_inv h0
  refine ⟨Nat.le_of_ble_eq_true rfl, ?_⟩
  split at h
  · rename_i hl
    obtain ⟨hl1, hl2⟩ := hl
    dsimp only at hl1 hl2 h
    cases h
    have e0 := alive2
    have f1 := afits_at (f := f) hl1
    cases c1 : fitsB l
    · rw [c1] at f1
      have hc := Nat.zero_add 0
      repeat' (first | simp only [hc, Tryz.f6, encRK, SX, e0, f1, AB, PL, RG, LP, TY, simprocAttr, ↓reduceIte, forall_const, eq_self, ne_eq, Option.some.injEq, beq_self_eq_true] | ((first | apply fin_ndec | apply fin_dec | apply cnd_ndec | apply cnd_dec' | apply fin_nsplit | apply fin_split | apply cnd_nsplit | apply cnd_split) <;> intro hc) | refine blk_exit_id ?_)
      all_goals simp [DV.b]
    have h60 := fits_ok c1
    rw [c1] at f1
    have f2 := anet_at (f := f) (l := l) (by omega)
    have hn := netR_len l
    have hstr := fun {i j : Nat} {y z : Rec} => @netR_lt l i j y z
    have hmem := fun (y : Rec) (h : y ∈ netR l) => netR_mem h
    have hag := @netR_again l
    have hkey := netR_key l
    have hmk := @mem_keysR l
    rw [← hkey] at hmk
    generalize netR l = N at *
    have l1 := @lenR l
    have l2 := @lenR N
    have hc := Nat.zero_add 0
    repeat' (first | simp only [hc, Tryz.f6, encRK, SX, l1, l2, f1, f2, AB, PL, RG, LP, TY, simprocAttr, ↓reduceIte, forall_const, eq_self, ne_eq, Option.some.injEq, beq_self_eq_true] | ((first | apply fin_ndec | apply fin_dec | apply cnd_ndec | apply cnd_dec' | apply fin_nsplit | apply fin_split | apply cnd_nsplit | apply cnd_split) <;> intro hc) | refine blk_exit_id ?_)
    refine awp_loop (σ := Nat) (fun j => j ≤ N.length) (fun j => ⟨[(7, AV.i j), (6, .v (.c (.own 0 (((N.take j).map Rec.key).map rowS)))), (5, AV.d (.sl false (N.map Rec.row))), (1, AV.s key), (0, AV.d (.sl f (l.map Rec.row)))], [.tok j 1 none]⟩) (fun j => N.length - j) 0 ((Wk.own 6 1 (by decide) (by simp [look])).trans (Wk.sub' (by simp [subT, look]) rfl)) (by simp) ?_
    intro j hj
    by_cases hjN : j < N.length
    · have e1 := row_at hjN
      have hlt : ((j : Int) < (N.length : Int)) = True := eq_true (by omega)
      have hw := wI (n := (j : Int) + 1) (by omega) (by omega)
      have hy := hmem N[j] (List.getElem_mem hjN)
      have f3 := aamt_at (f := f) (l := l) (key := N[j].key) hl1
      have hyc : amtF N[j].key 0 l = N[j].cents := by rw [hy]; rfl
      have hyk : N[j].kind = 1 := by rw [hy]; rfl
      rw [hyc] at f3
      rw [hyk] at e1
      have hnx : (((N.take (j + 1)).map Rec.key).map rowS) = (((N.take j).map Rec.key).map rowS) ++ [rowS N[j].key] := by rw [List.take_succ_eq_append_getElem hjN, List.map_append, List.map_append]; rfl
      have hlen : (((N.take j).map Rec.key).map rowS).length = j := by rw [List.length_map, List.length_map, List.length_take, Nat.min_eq_left (by omega)]
      have ap : ∀ h : Hp, apTok h 0 1 16 (((N.take j).map Rec.key).map rowS) [[.str N[j].key]] (some (.tok j 1 none)) = some (.v (.c (.own 0 (((N.take (j + 1)).map Rec.key).map rowS))), h.set 0 (.tok (j + 1) 1 none)) := fun h => by
        rw [apTok_ok (eq_true hlen) (eq_true (by simp [allLen])) (eq_true (by rw [hlen]; simp; omega)) (eq_true (by rw [hlen]; simp; omega)), hnx, hlen]
        rfl
      by_cases hj0 : j = 0
      · have h0j : ((j : Int) > 0) = False := eq_false (by omega)
        generalize N[j] = y at *
        have hc := Nat.zero_add 0
        repeat' (first | simp only [hc, SX, l1, l2, hlt, nn, hw, e1, f3, h0j, ap, AB, PL, RG, LP, TY, simprocAttr, ↓reduceIte, forall_const, eq_self, ne_eq, Option.some.injEq, beq_self_eq_true] | ((first | apply fin_ndec | apply fin_dec | apply cnd_ndec | apply cnd_dec' | apply fin_nsplit | apply fin_split | apply cnd_nsplit | apply cnd_split) <;> intro hc) | refine blk_exit_id ?_)
        exact lp_next (j + 1) (Wk.cutk (k := 1) (by simp) (by simp) (by simp) (by simp [subT, look]) (by simp [AV.low, V.low, C1.low]) (by simp [Ob.low, C1.low])) (by omega) (by omega)
      · have h0j : ((j : Int) > 0) = True := eq_true (by omega)
        have hw3 : IntKind.i64.wrap ((j : Int) - 1) = ((j - 1 : Nat) : Int) := by rw [wI (by omega) (by omega)]; omega
        have hlt2 : (((j - 1 : Nat) : Int) < (N.length : Int)) = True := eq_true (by omega)
        have e2 := row_at (l := N) (j := j - 1) (by omega)
        have hle := leq_no (hstr (i := j - 1) (j := j) (by omega) (List.getElem?_eq_getElem (by omega)) (List.getElem?_eq_getElem hjN))
        generalize N[j]'hjN = y at *
        generalize N[j - 1]'(by omega) = z at *
        have hc := Nat.zero_add 0
        repeat' (first | simp only [hc, SX, l1, l2, hlt, nn, hw, e1, f3, h0j, hw3, hlt2, e2, hle, ap, AB, PL, RG, LP, TY, simprocAttr, ↓reduceIte, forall_const, eq_self, ne_eq, Option.some.injEq, beq_self_eq_true] | ((first | apply fin_ndec | apply fin_dec | apply cnd_ndec | apply cnd_dec' | apply fin_nsplit | apply fin_split | apply cnd_nsplit | apply cnd_split) <;> intro hc) | refine blk_exit_id ?_)
        exact lp_next (j + 1) (Wk.cutk (k := 1) (by simp) (by simp) (by simp) (by simp [subT, look]) (by simp [AV.low, V.low, C1.low]) (by simp [Ob.low, C1.low])) (by omega) (by omega)
    have hlt : ((j : Int) < (N.length : Int)) = False := eq_false (by omega)
    rw [List.take_of_length_le (by omega)]
    have hNK : (N.map Rec.key).length = N.length := by simp
    have hjN' : j = N.length := by omega
    subst hjN'
    have hc := Nat.zero_add 0
    repeat' (first | simp only [hc, SX, l1, l2, hlt, AB, PL, RG, LP, TY, simprocAttr, ↓reduceIte, forall_const, eq_self, ne_eq, Option.some.injEq, beq_self_eq_true] | ((first | apply fin_ndec | apply fin_dec | apply cnd_ndec | apply cnd_dec' | apply fin_nsplit | apply fin_split | apply cnd_nsplit | apply cnd_split) <;> intro hc) | refine blk_exit_id ?_)
    refine awp_loop (σ := Nat) (fun i => i ≤ l.length) (fun i => ⟨[(9, AV.i i), (8, .v (.c (.own 1 ((othF key (l.take i)).map Rec.row)))), (6, .v (.c (.own 0 ((N.map Rec.key).map rowS)))), (5, AV.d (.sl false (N.map Rec.row))), (1, AV.s key), (0, AV.d (.sl f (l.map Rec.row)))], [.tok N.length 1 none, .tok (othF key (l.take i)).length 5 none]⟩) (fun i => l.length - i) 0 ((Wk.own 8 5 (by decide) (by simp [look])).trans (Wk.sub' (by simp [subT, look, othF]) (by simp [othF]))) (by simp) ?_
    intro i hi
    by_cases hil : i < l.length
    · have e1 := row_at hil
      have hlt : ((i : Int) < (l.length : Int)) = True := eq_true (by omega)
      have hw := wI (n := (i : Int) + 1) (by omega) (by omega)
      have f4 := hast_at (f := false) (l := N.map Rec.key) (s := l[i].key) (by omega)
      rw [decide_eq_true (hmk.2 (List.mem_map_of_mem (List.getElem_mem hil)))] at f4
      have hnx := oth_next (key := key) hil
      have hol := oth_len key (l.take i)
      rw [List.length_take, Nat.min_eq_left (by omega)] at hol
      generalize othF key (l.take i) = O at *
      generalize l[i] = x at *
      by_cases c2 : x.key = key
      · rw [if_pos c2] at hnx
        have c2' : (x.key == key) = true := by simp [c2]
        have hc := Nat.zero_add 0
        repeat' (first | simp only [hc, SX, l1, l2, hlt, nn, hw, e1, f4, c2', AB, PL, RG, LP, TY, simprocAttr, ↓reduceIte, forall_const, eq_self, ne_eq, Option.some.injEq, beq_self_eq_true] | ((first | apply fin_ndec | apply fin_dec | apply cnd_ndec | apply cnd_dec' | apply fin_nsplit | apply fin_split | apply cnd_nsplit | apply cnd_split) <;> intro hc) | refine blk_exit_id ?_)
        exact lp_next (i + 1) (Wk.sub' (by simp [subT, look, hnx]) (by rw [hnx])) (by omega) (by omega)
      · rw [if_neg c2] at hnx
        have c2' : (x.key == key) = false := by simp [c2]
        have ap : ∀ h : Hp, apTok h 1 5 48 (O.map Rec.row) [[.int .i64 x.kind, .str x.key, .int .i64 x.time, .int .i64 x.cents, .int .i64 x.why]] (some (.tok O.length 5 none)) = some (.v (.c (.own 1 ((O ++ [x]).map Rec.row))), h.set 1 (.tok (O ++ [x]).length 5 none)) := fun h => by
          rw [apTok_ok (eq_true (by simp)) (eq_true (by simp [allLen])) (eq_true (by simp; omega)) (eq_true (by simp; omega)), List.map_append]
          simp [Rec.row]
        have hc := Nat.zero_add 0
        repeat' (first | simp only [hc, SX, l1, l2, hlt, nn, hw, e1, f4, c2', ap, AB, PL, RG, LP, TY, simprocAttr, ↓reduceIte, forall_const, eq_self, ne_eq, Option.some.injEq, beq_self_eq_true] | ((first | apply fin_ndec | apply fin_dec | apply cnd_ndec | apply cnd_dec' | apply fin_nsplit | apply fin_split | apply cnd_nsplit | apply cnd_split) <;> intro hc) | refine blk_exit_id ?_)
        exact lp_next (i + 1) (Wk.cutk (k := 2) (by simp) (by simp) (by simp [hnx]) (by simp [subT, look, hnx]) (by simp [AV.low, V.low, C1.low]) (by simp [Ob.low, C1.low])) (by omega) (by omega)
    have hlt : ((i : Int) < (l.length : Int)) = False := eq_false (by omega)
    rw [List.take_of_length_le (by omega)]
    have hoa := fun (k : List UInt8) (hk : k ≠ key) => amt_oth hk l 0
    have hos := amt_self key l
    have hol := oth_len key l
    generalize othF key l = O at *
    have l3 := @lenS (N.map Rec.key)
    rw [hNK] at l3
    have hc := Nat.zero_add 0
    repeat' (first | simp only [hc, SX, l1, l2, l3, hlt, AB, PL, RG, LP, TY, simprocAttr, ↓reduceIte, forall_const, eq_self, ne_eq, Option.some.injEq, beq_self_eq_true] | ((first | apply fin_ndec | apply fin_dec | apply cnd_ndec | apply cnd_dec' | apply fin_nsplit | apply fin_split | apply cnd_nsplit | apply cnd_split) <;> intro hc) | refine blk_exit_id ?_)
    refine awp_loop (σ := Nat) (fun m => m ≤ N.length) (fun m => ⟨[(10, AV.i m), (8, .v (.c (.own 1 (O.map Rec.row)))), (6, .v (.c (.own 0 ((N.map Rec.key).map rowS)))), (5, AV.d (.sl false (N.map Rec.row))), (1, AV.s key), (0, AV.d (.sl f (l.map Rec.row)))], [.tok N.length 1 none, .tok O.length 5 none]⟩) (fun m => N.length - m) 0 (Wk.sub' (by simp [subT, look]) rfl) (by simp) ?_
    intro m hm
    by_cases hmN : m < N.length
    · have e1 := row_at hmN
      have e2 : ((N.map Rec.key).map rowS)[m]? = some [.str N[m].key] := by simp [hmN, rowS]
      have hlt : ((m : Int) < (N.length : Int)) = True := eq_true (by omega)
      have hw := wI (n := (m : Int) + 1) (by omega) (by omega)
      have hy := hmem N[m] (List.getElem_mem hmN)
      have f5 := aamt_at (f := false) (l := O) (key := N[m].key) (by omega)
      by_cases c2 : N[m].key = key
      · have c2' : (N[m].key == key) = true := by simp [c2]
        generalize N[m] = y at *
        have hc := Nat.zero_add 0
        repeat' (first | simp only [hc, SX, l1, l2, l3, hlt, nn, hw, e1, e2, c2', AB, PL, RG, LP, TY, simprocAttr, ↓reduceIte, forall_const, eq_self, ne_eq, Option.some.injEq, beq_self_eq_true] | ((first | apply fin_ndec | apply fin_dec | apply cnd_ndec | apply cnd_dec' | apply fin_nsplit | apply fin_split | apply cnd_nsplit | apply cnd_split) <;> intro hc) | refine blk_exit_id ?_)
        exact lp_next (m + 1) (Wk.sub' (by simp [subT, look]) rfl) (by omega) (by omega)
      · have c2' : (N[m].key == key) = false := by simp [c2]
        have hyc : amtF N[m].key 0 l = N[m].cents := by rw [hy]; rfl
        rw [hoa _ c2, hyc] at f5
        generalize N[m] = y at *
        have hc := Nat.zero_add 0
        repeat' (first | simp only [hc, SX, l1, l2, l3, hlt, nn, hw, e1, e2, c2', f5, AB, PL, RG, LP, TY, simprocAttr, ↓reduceIte, forall_const, eq_self, ne_eq, Option.some.injEq, beq_self_eq_true] | ((first | apply fin_ndec | apply fin_dec | apply cnd_ndec | apply cnd_dec' | apply fin_nsplit | apply fin_split | apply cnd_nsplit | apply cnd_split) <;> intro hc) | refine blk_exit_id ?_)
        exact lp_next (m + 1) (Wk.sub' (by simp [subT, look]) rfl) (by omega) (by omega)
    have hlt : ((m : Int) < (N.length : Int)) = False := eq_false (by omega)
    have f6 := aamt_at (f := false) (l := O) (key := key) (by omega)
    rw [hos] at f6
    have f7 := afits_at (f := false) (l := N) (by omega)
    have f8 := anet_at (f := false) (l := N) (by omega)
    have f9 := rsamer_at (f1 := false) (f2 := false) (l := netR N) (k := N) (by have := netR_len N; omega)
    cases c3 : fitsB N
    · rw [c3] at f7
      have hc := Nat.zero_add 0
      repeat' (first | simp only [hc, SX, l1, l2, l3, hlt, e0, f6, f7, AB, PL, RG, LP, TY, simprocAttr, ↓reduceIte, forall_const, eq_self, ne_eq, Option.some.injEq, beq_self_eq_true] | ((first | apply fin_ndec | apply fin_dec | apply cnd_ndec | apply cnd_dec' | apply fin_nsplit | apply fin_split | apply cnd_nsplit | apply cnd_split) <;> intro hc) | refine blk_exit_id ?_)
      all_goals simp [DV.b]
    · rw [c3] at f7
      rw [decide_eq_true (hag c3)] at f9
      have hc := Nat.zero_add 0
      repeat' (first | simp only [hc, SX, l1, l2, l3, hlt, e0, f6, f7, f8, f9, AB, PL, RG, LP, TY, simprocAttr, ↓reduceIte, forall_const, eq_self, ne_eq, Option.some.injEq, beq_self_eq_true] | ((first | apply fin_ndec | apply fin_dec | apply cnd_ndec | apply cnd_dec' | apply fin_nsplit | apply fin_split | apply cnd_nsplit | apply cnd_split) <;> intro hc) | refine blk_exit_id ?_)
      all_goals simp [DV.b]
  · cases h

end
end Go.Ab

/-
  At whatever arguments of its types the law Nets answers true.
-/
namespace Go.Proofs.YtckjmdppjealdaaGreatDoor
open Go.ChangeShapes Go.WideShapes Go.ChangeAt Go.RowKit Go.Ab

noncomputable section
open Classical

theorem ok_lNets : ∀ args : List PA, shpArgs Tryz.prog Tryz.f6.params.toList args → lNets_m args = some [.c (.bool true)] := fun args h => by
  rw [Tryz.params6] at h
  obtain ⟨p1, r1, rfl, h1, g1⟩ := shpArgs_cons h
  obtain ⟨l, rfl, hl, hn⟩ := aRecs h1
  obtain ⟨p2, r2, rfl, h2, g2⟩ := shpArgs_cons g1
  obtain ⟨key, rfl⟩ := aStr h2
  obtain rfl := shpArgs_nil g2
  have := mE_eq encRK_inj (g := fun p => if p.1.2.length ≤ 9223372036854775807 ∧ (∀ x ∈ p.1.2, x.key.length ≤ 9223372036854775807) then some [DV.b true] else none) (a := ((false, l), key))
  exact this.trans (if_pos ⟨hn, hl⟩)

end
end Go.Proofs.YtckjmdppjealdaaGreatDoor
