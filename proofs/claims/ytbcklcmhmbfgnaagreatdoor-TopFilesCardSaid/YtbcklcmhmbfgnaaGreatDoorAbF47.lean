/-
  Texts of the layer and of the laws, put together: AbTF18.
-/
import Derived.Test.YtbcklcmhmbfgnaaGreatDoorAbF45
import Derived.Test.YtbcklcmhmbfgnaaGreatDoorAbF44
import Derived.Test.YtbcklcmhmbfgnaaGreatDoorAbF46
import Derived.Test.YtbcklcmhmbfgnaaGreatDoorAbF10
set_option linter.unusedSimpArgs false
set_option linter.unusedVariables false
set_option maxRecDepth 100000
namespace Go.Ab
open Go.RowKit Go.Proofs
structure DfOk (q : Ptn × Ptn) : Prop where
  same : q.1.ours = q.2.theirs
  few : q.1.ours.length ≤ 100000
  key : ∀ x ∈ q.1.ours, x.key.length ≤ 100000
structure KyI (ks : MapA) (kc n : Nat) : Prop where
  mw : MW .string ks kc
  len : ks.length ≤ n
  key : ∀ e ∈ ks, (kstr e.2.1).length ≤ 1000000
theorem putM_mem {es : MapA} {c : Nat} {k v : DV} {e : Nat × DV × DV} (h : e ∈ (putM es c k v).1) : e.2.1 = k ∨ e ∈ es := by
  unfold putM at h
  split at h
  · obtain ⟨j, hj⟩ := List.getElem?_of_mem h
    dsimp only at hj
    rw [List.getElem?_modify] at hj
    cases hq : es[j]? with
    | none => simp [hq] at hj
    | some q =>
      simp only [hq, Option.map_eq_map, Option.map_some, Option.some.injEq] at hj
      subst hj
      split
      · exact .inl rfl
      exact .inr (List.mem_of_getElem? hq)
  rcases List.mem_append.1 h with h | h
  · exact .inr h
  rw [List.mem_singleton.1 h]
  exact .inl rfl
theorem putM_len {es : MapA} {c : Nat} {k v : DV} : (putM es c k v).1.length ≤ es.length + 1 := by
  unfold putM
  split <;> simp
theorem KyI.put {ks : MapA} {kc n : Nat} {s : List UInt8} (h : KyI ks kc n) (hs : s.length ≤ 1000000) : KyI (putM ks kc (.c (.str s)) (.c (.bool true))).1 (putM ks kc (.c (.str s)) (.c (.bool true))).2 (n + 1) :=
  ⟨h.mw.put rfl, Nat.le_trans putM_len (by have := h.len; omega), fun e he => by
    rcases putM_mem he with e1 | e1
    · rw [e1]; exact hs
    · exact h.key e e1⟩
theorem KyI.more {ks : MapA} {kc n m : Nat} (h : KyI ks kc n) (hm : n ≤ m) : KyI ks kc m := ⟨h.mw, Nat.le_trans h.len hm, h.key⟩
theorem leftN_none {es : MapA} : leftN es #[] = es.length := by
  unfold leftN
  rw [List.filter_eq_self.2 (fun b _ => by simp), List.length_map]
theorem mapC_val {O : List Rec} {s : List UInt8} : ∃ v : Int, pkV (mapC 0 O) (.c (.str s)) (.c (.d (.int .i64 0))) = .c (.d (.int .i64 v)) := by
  rw [pkV_eq]
  cases hg : getM (mapC 0 O) (.c (.str s)) with
  | none => exact ⟨0, rfl⟩
  | some v =>
    have : ∃ (i : Nat) (e : Nat × DV × DV), (mapC 0 O)[i]? = some e ∧ e.2.2 = v := by
      unfold getM pickA at hg
      cases hf : findA (.c (.str s)) (mapC 0 O) with
      | none => rw [hf] at hg; cases hg
      | some i =>
        rw [hf, Option.bind_some, Option.map_eq_some_iff] at hg
        obtain ⟨e, he, hv⟩ := hg
        exact ⟨i, e, he, hv⟩
    obtain ⟨i, e, he, rfl⟩ := this
    obtain ⟨_, _, x, _, _, h4⟩ := mapC_mem (List.mem_of_getElem? he)
    rw [h4]
    exact ⟨x.cents, rfl⟩
theorem netR_key {l : List Rec} {n : Nat} (h : ∀ x ∈ l, x.key.length ≤ n) : ∀ x ∈ netR l, x.key.length ≤ n := fun x hx => by
  rw [← net_sorted] at hx
  have hu : x ∈ netU l := (sortK_perm _).mem_iff.1 hx
  obtain ⟨y, hy, he⟩ := List.mem_map.1 (((netU_ok l).keys x.key).1 (List.mem_map_of_mem hu))
  rw [← he]
  exact h y hy
noncomputable section
open Classical
def xdiff_m : List PA → Option (List PA) := mE enc2P fun q => if DfOk q then some [.c (.sl true [])] else none
theorem adds_am {args : List AV} {h : Hp} {out : COut} (hk : xamts_k args h = some out) : ∃ v g, out = .ret v (h ++ g) := by
  obtain ⟨a, ⟨_, rfl⟩, hg⟩ := kR_inv hk
  split at hg
  · cases hg
    exact ⟨_, _, rfl⟩
  cases hg
set_option maxHeartbeats 4000000 in
theorem xdiff_ok : PureC Tryz.prog Gt 34 xdiff_m := by
  have hK : KOk (ctxN Tryz.prog Gt [] [(59, xamts_k), (61, xkeys_k), (60, xsorted_k)] [] none (uL []) (uL [1])) := kok_n AllOk.nil (AllK.cons xamts_kok (AllK.cons xkeys_kok (AllK.cons xsorted_kok AllK.nil))) AllN.nil
  have hm : (ctxN Tryz.prog Gt [] [(59, xamts_k), (61, xkeys_k), (60, xsorted_k)] [] none (uL []) (uL [1])).P.follows .mixedOrders = true := by kernel_rfl
  refine pure_of_marks (X := ctxN Tryz.prog Gt [] [(59, xamts_k), (61, xkeys_k), (60, xsorted_k)] [] none (uL []) (uL [1])) Tryz.func34 rfl (by kernel_rfl) ?_
  intro args r h0
  obtain ⟨⟨p, q⟩, rfl, h⟩ := mE_inv h0
  split at h
  · rename_i hok
    obtain ⟨hsm, hfew, hkey⟩ := hok
    dsimp only at hsm hfew hkey h
    simp only [Option.some.injEq] at h
    refine ⟨Nat.le_of_ble_eq_true rfl, fun A E a hn hds hs => ?_⟩
    have hs : a.tmps.size = 64 := hs
    have hG := hn.G
    have hn1 := netR_one p.ours
    have hnl := netR_len p.ours
    have hnk := netR_key hkey
    obtain ⟨p1, p2, p3, p4, p5, p6⟩ := p
    obtain ⟨q1, q2, q3, q4, q5, q6⟩ := q
    dsimp only at hsm hfew hn1 hnl hnk
    subst hsm
    have f1 := fun (h : Hp) (hh : LowH h) => xamts_at (f := false) (l := p5) hh (by omega)
    generalize netR p5 = NR at *
    have hMW := mapC_mw (n := 0) hn1
    have hMl := mapC_len 0 NR
    have hMk : ∀ e ∈ mapC 0 NR, ∃ s, e.2.1 = .c (.str s) ∧ s.length ≤ 1000000 := fun e he => by
      obtain ⟨_, _, x, hx, h3, _⟩ := mapC_mem he
      exact ⟨x.key, h3, by have := hnk x hx; omega⟩
    have hMv := @mapC_val NR
    have hMd : KeysD .string (mapC 0 NR) := mapC_keys
    rw [Nat.zero_add] at hMW
    generalize mapC 0 NR = MM at *
    generalize hnN : NR.length = nN at *
    have f2 := f1 [.box [.d (.str p1), .d (.int .i64 p2), .d (.int .i64 p3), .d (.sl false (p4.map Fil.row)), .d (.sl false (p5.map Rec.row)), .d (.sl false (p6.map Rec.row))], .box [.d (.str q1), .d (.int .i64 q2), .d (.int .i64 q3), .d (.sl false (q4.map Fil.row)), .d (.sl false (q5.map Rec.row)), .d (.sl false (p5.map Rec.row))]] (by simp [LowH, Ob.low, C1.low])
    have f3 := f1 [.box [.d (.str p1), .d (.int .i64 p2), .d (.int .i64 p3), .d (.sl false (p4.map Fil.row)), .d (.sl false (p5.map Rec.row)), .d (.sl false (p6.map Rec.row))], .box [.d (.str q1), .d (.int .i64 q2), .d (.int .i64 q3), .d (.sl false (q4.map Fil.row)), .d (.sl false (q5.map Rec.row)), .d (.sl false (p5.map Rec.row))], .map MM nN] (by simp [LowH, Ob.low, C1.low])
    simp only [List.length_cons, List.length_nil, Nat.zero_add, Nat.reduceAdd, List.cons_append, List.nil_append] at f2 f3
    refine wpIn_seq (pieceW hK hm (M := 0) ⟨[(2, .v (.c (.ptr 0 0))), (3, .v (.c (.ptr 1 0)))], [.box [.d (.str p1), .d (.int .i64 p2), .d (.int .i64 p3), .d (.sl false (p4.map Fil.row)), .d (.sl false (p5.map Rec.row)), .d (.sl false (p6.map Rec.row))], .box [.d (.str q1), .d (.int .i64 q2), .d (.int .i64 q3), .d (.sl false (q4.map Fil.row)), .d (.sl false (q5.map Rec.row)), .d (.sl false (p5.map Rec.row))]]⟩ (by kernel_rfl) (Nat.zero_le _) ?_ hn hs ?_)
    · skip
      have hc := Nat.zero_add 0
      repeat' (first | simp only [hc, AS, NX, enc2P, pr, prow, SX, ZZ, simprocAttr, ↓reduceIte] | ((first | apply Za | apply Zb | apply Zc | apply Zd | apply Ze | apply Zf | apply Zg | apply Zh) <;> intro hc) | refine Zi ?_ | refine Zj ?_)
      exact goes (Wk.sub' (by simp [subT, look]) rfl)
    intro a1 E1 ev1 hrel1 hs1
    refine wpIn_seq (pieceW hK hm (M := 0) ⟨[(5, .v (.c (.mp 0))), (6, .v (.c (.mp 1)))], [.map MM nN, .map MM nN]⟩ (by kernel_rfl) (Nat.zero_le _) ?_ ⟨hG, hrel1⟩ hs1 ?_)
    · refine awp_ordK (fs := [59]) [0, 1, 3, 4, 2, 5, 6, 7] (fun g hg args h out hk => ?_) rfl rfl (by kernel_rfl) (by kernel_rfl) ?_
      · cases List.mem_singleton.1 hg
        exact adds_am (show xamts_k args h = some out from hk)
      have hc := Nat.zero_add 0
      repeat' (first | simp only [hc, AS, TW, NX, SX, f2, f3, ZZ, simprocAttr, ↓reduceIte] | ((first | apply Za | apply Zb | apply Zc | apply Zd | apply Ze | apply Zf | apply Zg | apply Zh) <;> intro hc) | refine Zi ?_ | refine Zj ?_)
      refine goes ((Wk.renk (h := []) (g' := [.map MM nN, .map MM nN]) [2, 3] rfl (Nat.zero_le _) LowH.nil (by decide) ⟨rfl, rfl, trivial⟩ (show subR _ _ [(5, .v (.c (.mp 0))), (6, .v (.c (.mp 1)))] from ⟨rfl, rfl, trivial⟩) (by simp [AV.low, V.low, C1.low]) rfl))
    intro a2 E2 ev2 hrel2 hs2
    refine wpIn_seq (pieceW hK hm (M := 0) ⟨[(5, .v (.c (.mp 0))), (6, .v (.c (.mp 1))), (7, .v (.c (.mp 2)))], [.map MM nN, .map MM nN, .map [] 0]⟩ (by kernel_rfl) (Nat.zero_le _) ?_ ⟨hG, hrel2⟩ hs2 ?_)
    · skip
      have hc := Nat.zero_add 0
      repeat' (first | simp only [hc, AS, NX, MP, SX, ZZ, simprocAttr, ↓reduceIte] | ((first | apply Za | apply Zb | apply Zc | apply Zd | apply Ze | apply Zf | apply Zg | apply Zh) <;> intro hc) | refine Zi ?_ | refine Zj ?_)
      exact goes (Wk.sub' (by simp [subT, look]) rfl)
    intro b0 F0 ev3 hrelA hsA
    have hKyA : KyI [] 0 0 := ⟨MW.nil, Nat.le_refl _, fun e he => by cases he⟩
    clear hrel1 hrel2 ev1 ev2 ev3
    obtain ⟨ks0, kc0, hKyA, hrelA⟩ : ∃ ks kc, KyI ks kc 0 ∧ Rel A F0 ⟨[(5, .v (.c (.mp 0))), (6, .v (.c (.mp 1))), (7, .v (.c (.mp 2)))], [.map MM nN, .map MM nN, .map ks kc]⟩ b0 F0.w := ⟨[], 0, hKyA, hrelA⟩
    -- loop A
    have hKyA : KyI ks0 kc0 0 := hKyA
    refine wpIn_seq (wpIn_seq (wpIn_region_list ?_))
    refine pieceL hK (t0 := []) (M := 3) [_] ⟨[(20, .v (.c (.mp 0))), (5, .v (.c (.mp 0))), (6, .v (.c (.mp 1))), (7, .v (.c (.mp 2)))], [.map MM nN, .map MM nN, .map ks0 kc0]⟩ (by kernel_rfl) (by exact Nat.le_refl 3) ?_ ⟨hG, hrelA⟩ hsA ?_
    · skip
      have hc := Nat.zero_add 0
      repeat' (first | simp only [hc, AS, NX, SX, ZZ, simprocAttr, ↓reduceIte] | ((first | apply Za | apply Zb | apply Zc | apply Zd | apply Ze | apply Zf | apply Zg | apply Zh) <;> intro hc) | refine Zi ?_ | refine Zj ?_)
      exact goes (Wk.sub' (by simp [subT, look]) rfl)
    intro a6A E6A ev6A hrel6A hs6A _
    obtain ⟨bmA, ⟨_, hbmA⟩, hmvA⟩ := hrel6A.tmps 20
    obtain ⟨entsA, hentsA⟩ := mapIn_of hrel6A.env (id := 0) rfl hbmA
    refine wanted_step ⟨hG, hrel6A⟩ rfl (range_op (t := 110) (k := 9) (e := 3) (by kernel_rfl) hmvA hentsA.at' ?_)
    have hE7A := newPin_ok (.mapIter (some bmA) nN #[] nN) hrel6A.env
    have ev7A := (Stp.new hrel6A.env (.mapIter (some bmA) nN #[] nN) (.pin (.mapIter (some bmA) nN #[] nN))).evo hrel6A.env
    have hrel7A := hrel6A.put ev7A hE7A (d := some 21) (v := .top) (u := .pointer (some ⟨E6A.w.heap.size, 0, none⟩)) (fun t ht => by cases ht; omega) top_rel
    have hitA := put_same (a := a6A) (d := 21) (v := .pointer (some ⟨E6A.w.heap.size, 0, none⟩)) (by omega)
    have hs7A : (a6A.put (some 21) (.pointer (some ⟨E6A.w.heap.size, 0, none⟩))).tmps.size = 64 := by rw [put_size]; exact hs6A
    have hr7A : (E6A.newOb 3 (E6A.w.alloc (.mapIter (some bmA) nN #[] nN))).ρ 3 = some E6A.w.heap.size := by simp [Env.newOb]
    have hb7A : (E6A.newOb 3 (E6A.w.alloc (.mapIter (some bmA) nN #[] nN))).ρ 0 = some bmA := by simp [Env.newOb, hbmA]
    have hw7A : E6A.w.alloc (.mapIter (some bmA) nN #[] nN) = (E6A.newOb 3 (E6A.w.alloc (.mapIter (some bmA) nN #[] nN))).w := rfl
    have hrel7A : Rel A (E6A.newOb 3 (E6A.w.alloc (.mapIter (some bmA) nN #[] nN))) ⟨[(5, .v (.c (.mp 0))), (6, .v (.c (.mp 1))), (7, .v (.c (.mp 2)))], [.map MM nN, .map MM nN, .map ks0 kc0, .pin (.mapIter (some bmA) nN #[] nN)]⟩ (a6A.put (some 21) (.pointer (some ⟨E6A.w.heap.size, 0, none⟩))) (E6A.newOb 3 (E6A.w.alloc (.mapIter (some bmA) nN #[] nN))).w := rel_sub hrel7A (by simp [subT, look])
    rw [hw7A]
    generalize E6A.newOb 3 (E6A.w.alloc (.mapIter (some bmA) nN #[] nN)) = E7A at *
    generalize hrbA : E6A.w.heap.size = rbA at *
    generalize a6A.put (some 21) (.pointer (some ⟨rbA, 0, none⟩)) = a7A at *
    clear hw7A ev7A hE7A hentsA hmvA
    refine wpIn_block (wpIn_loop (fun a' w' => ∃ (E' : Env) (S0 : Array Nat) (c0 : Nat) (ks : MapA) (kc : Nat), w' = E'.w ∧ a'.tmps.size = 64 ∧ a'.tmps.getD 21 undef = .pointer (some ⟨rbA, 0, none⟩) ∧ E'.ρ 3 = some rbA ∧ E'.ρ 0 = some bmA ∧ nN ≤ c0 ∧ (∃ m, KyI ks kc m ∧ m + leftN MM S0 ≤ 100000) ∧
      Rel A E' ⟨[(5, .v (.c (.mp 0))), (6, .v (.c (.mp 1))), (7, .v (.c (.mp 2)))], [.map MM nN, .map MM nN, .map ks kc, .pin (.mapIter (some bmA) nN S0 c0)]⟩ a' E'.w) (fun _ w' => lftM bmA rbA w') ⟨E7A, #[], nN, ks0, kc0, rfl, hs7A, hitA, hr7A, hb7A, Nat.le_refl _, ⟨_, hKyA, by rw [leftN_none, hMl]; omega⟩, hrel7A⟩ ?_)
    rintro a8A w8A ⟨E8A, S0A, c0A, ksA, kcA, rfl, hs8A, hit8A, h4A, h1A, hc0A, ⟨mA, hkyA, hmlA⟩, hrel8A⟩
    have hμA := lft_eq (id := 0) (it := 3) hrel8A.env rfl h1A rfl h4A
    refine wpIn_seq (wpIn_region_list ?_)
    rcases nextM_sim (ty := 0) (id := 0) (it := 3) hrel8A rfl h1A rfl h4A hMW hc0A with ⟨h0A, hrunA⟩ | ⟨pp, hpp, hS, hlt, u, v, E9, hrun, ev9, hrel9, hρ9, hku, hvv, hent⟩
    rotate_left
    · -- one more
      obtain ⟨s, hps, hsl⟩ := hMk pp hpp
      refine wanted_step ⟨hG, hrel8A⟩ rfl (next_op hit8A hrun ?_)
      have hrel10 := top_put hrel9 (d := 22) (u := .tuple #[.bool true, u, v]) (by omega)
      have h58 := put_same (a := a8A) (d := 22) (v := .tuple #[.bool true, u, v]) (by omega)
      have hs10 : (a8A.put (some 22) (.tuple #[.bool true, u, v])).tmps.size = 64 := by rw [put_size]; exact hs8A
      have h57a : (a8A.put (some 22) (.tuple #[.bool true, u, v])).tmps.getD 21 undef = .pointer (some ⟨rbA, 0, none⟩) := by rw [puts_ne (by simp)]; exact hit8A
      generalize a8A.put (some 22) (.tuple #[.bool true, u, v]) = a10 at *
      refine wanted_step ⟨hG, hrel10⟩ rfl (extract_op (v := .bool true) h58 rfl ?_)
      have hrel11 := top_put hrel10 (d := 23) (u := .bool true) (by omega)
      have h59 := put_same (a := a10) (d := 23) (v := .bool true) (by omega)
      have hs11 : (a10.put (some 23) (.bool true)).tmps.size = 64 := by rw [put_size]; exact hs10
      have h57b : (a10.put (some 23) (.bool true)).tmps.getD 21 undef = .pointer (some ⟨rbA, 0, none⟩) := by rw [puts_ne (by simp)]; exact h57a
      generalize a10.put (some 23) (.bool true) = a11 at *
      refine wpIn_seq (wpIn_cond_true h59 (wpIn_skip ?_))
      refine wpIn_block (wpIn_seq (wpIn_region_list ?_))
      refine wanted_step ⟨hG, hrel11⟩ rfl (entry_op h57b hent ?_)
      rw [hps] at hku
      have hrel12 := hrel11.put (Evo.refl (Nat.le_refl _)) hrel11.env (d := some 24) (v := .tup [.c (.d (.str s)), pp.2.2.V]) (u := .tuple #[u, v]) (fun t ht => by cases ht; omega) (tup2_rel (DV.rel_V hku) (DV.rel_V hvv))
      have hs12 : (a11.put (some 24) (.tuple #[u, v])).tmps.size = 64 := by rw [put_size]; exact hs11
      have h57c : (a11.put (some 24) (.tuple #[u, v])).tmps.getD 21 undef = .pointer (some ⟨rbA, 0, none⟩) := by rw [puts_ne (by simp)]; exact h57b
      generalize a11.put (some 24) (.tuple #[u, v]) = a12 at *
      generalize pp.2.2.V = vv at *
      have hrel12 : Rel A E9 ⟨[(24, .tup [.c (.d (.str s)), vv]), (5, .v (.c (.mp 0))), (6, .v (.c (.mp 1))), (7, .v (.c (.mp 2)))], [.map MM nN, .map MM nN, .map ksA kcA, .pin (.mapIter (some bmA) nN (S0A.push pp.1) nN)]⟩ a12 E9.w := rel_sub hrel12 (by simp [subT, look])
      refine pieceL hK (t0 := [21]) (l2 := []) (M := 4) [_, _] ⟨[(8, .v (.c (.d (.str s)))), (5, .v (.c (.mp 0))), (6, .v (.c (.mp 1))), (7, .v (.c (.mp 2)))], [.map MM nN, .map MM nN, .map ksA kcA, .pin (.mapIter (some bmA) nN (S0A.push pp.1) nN)]⟩ (by kernel_rfl) (by exact Nat.le_refl 4) ?_ ⟨hG, hrel12⟩ hs12 ?_
      · skip
        have hc := Nat.zero_add 0
        repeat' (first | simp only [hc, AS, NX, SX, ZZ, simprocAttr, ↓reduceIte] | ((first | apply Za | apply Zb | apply Zc | apply Zd | apply Ze | apply Zf | apply Zg | apply Zh) <;> intro hc) | refine Zi ?_ | refine Zj ?_)
        exact goes (Wk.sub' (by simp [subT, look]) rfl)
      intro a13 E13 ev13 hrel13 hs13 hy13
      have hko := keysOk_of (k := .c (.str s)) rfl hkyA.mw.keys
      have hpu := @putA_eq ksA kcA (.c (.str s)) (.c (.bool true))
      refine pieceX hK (t0 := [21]) (M := 4) ⟨[(5, .v (.c (.mp 0))), (6, .v (.c (.mp 1))), (7, .v (.c (.mp 2)))], [.map MM nN, .map MM nN, .map (putM ksA kcA (.c (.str s)) (.c (.bool true))).1 (putM ksA kcA (.c (.str s)) (.c (.bool true))).2, .pin (.mapIter (some bmA) nN (S0A.push pp.1) nN)]⟩ (by kernel_rfl) (by exact Nat.le_refl 4) ?_ ⟨hG, hrel13⟩ hs13 ?_
      · skip
        have hc := Nat.zero_add 0
        repeat' (first | simp only [hc, AS, NX, MP, SX, hko, hpu, ZZ, simprocAttr, ↓reduceIte] | ((first | apply Za | apply Zb | apply Zc | apply Zd | apply Ze | apply Zf | apply Zg | apply Zh) <;> intro hc) | refine Zi ?_ | refine Zj ?_)
        exact goes (Wk.sub' (by simp [subT, look]) rfl)
      intro a14 E14 ev14 hrel14 hs14 hy14
      have ev := ev13.trans ev14 (Nat.le_refl _)
      have r4 : E14.ρ 3 = some rbA := rho_keep ev (by decide) rfl (by rw [hρ9]; exact h4A)
      have r1 : E14.ρ 0 = some bmA := (ev.keep 0 (by decide) _ rfl (by simp [Ob.kind])).2.trans (by rw [hρ9]; exact h1A)
      refine ⟨⟨E14, S0A.push pp.1, nN, _, _, rfl, hs14, (hy14 21 (by simp)).trans ((hy13 21 (by simp)).trans h57c), r4, r1, Nat.le_refl _, ⟨_, hkyA.put hsl, by omega⟩, hrel14⟩, ?_⟩
      show lftM bmA rbA E14.w < lftM bmA rbA E8A.w
      rw [hμA, lft_eq (id := 0) (it := 3) hrel14.env rfl r1 rfl r4]
      exact hlt
    -- nothing is left
    refine wanted_step ⟨hG, hrel8A⟩ rfl (next_op hit8A hrunA ?_)
    have hrel10A := top_put hrel8A (d := 22) (u := .tuple #[.bool false]) (by omega)
    have h58A := put_same (a := a8A) (d := 22) (v := .tuple #[.bool false]) (by omega)
    have hs10A : (a8A.put (some 22) (.tuple #[.bool false])).tmps.size = 64 := by rw [put_size]; exact hs8A
    generalize a8A.put (some 22) (.tuple #[.bool false]) = a10A at *
    refine wanted_step ⟨hG, hrel10A⟩ rfl (extract_op (v := .bool false) h58A rfl ?_)
    have hrel11A := top_put hrel10A (d := 23) (u := .bool false) (by omega)
    have h59A := put_same (a := a10A) (d := 23) (v := .bool false) (by omega)
    have hs11A : (a10A.put (some 23) (.bool false)).tmps.size = 64 := by rw [put_size]; exact hs10A
    generalize a10A.put (some 23) (.bool false) = a11A at *
    refine wpIn_seq (wpIn_cond_false h59A (wpIn_exit ?_))
    obtain ⟨E12A, _, hrel12A⟩ := Wk.cutk (n := 0) (k := 3) (h' := [.map MM nN, .map MM nN, .map ksA kcA]) (t' := [(5, .v (.c (.mp 0))), (6, .v (.c (.mp 1))), (7, .v (.c (.mp 2)))]) (by simp) (by simp) rfl (by simp [subT, look]) (by simp [AV.low, V.low, C1.low]) (by simp [Ob.low]) A _ _ _ (Nat.zero_le _) hrel11A
    have hw12A := hrel12A.world
    have hkyA := hkyA.more (m := 100000) (by omega)
    clear hrel11A hrel10A hrel8A hrel7A hrel6A hrunA hμA
    rw [← hw12A]
    -- loop B
    have hKyB : KyI ksA kcA 100000 := hkyA
    refine wpIn_seq (wpIn_seq (wpIn_region_list ?_))
    refine pieceL hK (t0 := []) (M := 3) [_] ⟨[(28, .v (.c (.mp 1))), (5, .v (.c (.mp 0))), (6, .v (.c (.mp 1))), (7, .v (.c (.mp 2)))], [.map MM nN, .map MM nN, .map ksA kcA]⟩ (by kernel_rfl) (by exact Nat.le_refl 3) ?_ ⟨hG, (hw12A ▸ hrel12A)⟩ hs11A ?_
    · skip
      have hc := Nat.zero_add 0
      repeat' (first | simp only [hc, AS, NX, SX, ZZ, simprocAttr, ↓reduceIte] | ((first | apply Za | apply Zb | apply Zc | apply Zd | apply Ze | apply Zf | apply Zg | apply Zh) <;> intro hc) | refine Zi ?_ | refine Zj ?_)
      exact goes (Wk.sub' (by simp [subT, look]) rfl)
    intro a6B E6B ev6B hrel6B hs6B _
    obtain ⟨bmB, ⟨_, hbmB⟩, hmvB⟩ := hrel6B.tmps 28
    obtain ⟨entsB, hentsB⟩ := mapIn_of hrel6B.env (id := 1) rfl hbmB
    refine wanted_step ⟨hG, hrel6B⟩ rfl (range_op (t := 110) (k := 9) (e := 3) (by kernel_rfl) hmvB hentsB.at' ?_)
    have hE7B := newPin_ok (.mapIter (some bmB) nN #[] nN) hrel6B.env
    have ev7B := (Stp.new hrel6B.env (.mapIter (some bmB) nN #[] nN) (.pin (.mapIter (some bmB) nN #[] nN))).evo hrel6B.env
    have hrel7B := hrel6B.put ev7B hE7B (d := some 29) (v := .top) (u := .pointer (some ⟨E6B.w.heap.size, 0, none⟩)) (fun t ht => by cases ht; omega) top_rel
    have hitB := put_same (a := a6B) (d := 29) (v := .pointer (some ⟨E6B.w.heap.size, 0, none⟩)) (by omega)
    have hs7B : (a6B.put (some 29) (.pointer (some ⟨E6B.w.heap.size, 0, none⟩))).tmps.size = 64 := by rw [put_size]; exact hs6B
    have hr7B : (E6B.newOb 3 (E6B.w.alloc (.mapIter (some bmB) nN #[] nN))).ρ 3 = some E6B.w.heap.size := by simp [Env.newOb]
    have hb7B : (E6B.newOb 3 (E6B.w.alloc (.mapIter (some bmB) nN #[] nN))).ρ 1 = some bmB := by simp [Env.newOb, hbmB]
    have hw7B : E6B.w.alloc (.mapIter (some bmB) nN #[] nN) = (E6B.newOb 3 (E6B.w.alloc (.mapIter (some bmB) nN #[] nN))).w := rfl
    have hrel7B : Rel A (E6B.newOb 3 (E6B.w.alloc (.mapIter (some bmB) nN #[] nN))) ⟨[(5, .v (.c (.mp 0))), (6, .v (.c (.mp 1))), (7, .v (.c (.mp 2)))], [.map MM nN, .map MM nN, .map ksA kcA, .pin (.mapIter (some bmB) nN #[] nN)]⟩ (a6B.put (some 29) (.pointer (some ⟨E6B.w.heap.size, 0, none⟩))) (E6B.newOb 3 (E6B.w.alloc (.mapIter (some bmB) nN #[] nN))).w := rel_sub hrel7B (by simp [subT, look])
    rw [hw7B]
    generalize E6B.newOb 3 (E6B.w.alloc (.mapIter (some bmB) nN #[] nN)) = E7B at *
    generalize hrbB : E6B.w.heap.size = rbB at *
    generalize a6B.put (some 29) (.pointer (some ⟨rbB, 0, none⟩)) = a7B at *
    clear hw7B ev7B hE7B hentsB hmvB
    refine wpIn_block (wpIn_loop (fun a' w' => ∃ (E' : Env) (S0 : Array Nat) (c0 : Nat) (ks : MapA) (kc : Nat), w' = E'.w ∧ a'.tmps.size = 64 ∧ a'.tmps.getD 29 undef = .pointer (some ⟨rbB, 0, none⟩) ∧ E'.ρ 3 = some rbB ∧ E'.ρ 1 = some bmB ∧ nN ≤ c0 ∧ (∃ m, KyI ks kc m ∧ m + leftN MM S0 ≤ 200000) ∧
      Rel A E' ⟨[(5, .v (.c (.mp 0))), (6, .v (.c (.mp 1))), (7, .v (.c (.mp 2)))], [.map MM nN, .map MM nN, .map ks kc, .pin (.mapIter (some bmB) nN S0 c0)]⟩ a' E'.w) (fun _ w' => lftM bmB rbB w') ⟨E7B, #[], nN, ksA, kcA, rfl, hs7B, hitB, hr7B, hb7B, Nat.le_refl _, ⟨_, hKyB, by rw [leftN_none, hMl]; omega⟩, hrel7B⟩ ?_)
    rintro a8B w8B ⟨E8B, S0B, c0B, ksB, kcB, rfl, hs8B, hit8B, h4B, h1B, hc0B, ⟨mB, hkyB, hmlB⟩, hrel8B⟩
    have hμB := lft_eq (id := 1) (it := 3) hrel8B.env rfl h1B rfl h4B
    refine wpIn_seq (wpIn_region_list ?_)
    rcases nextM_sim (ty := 0) (id := 1) (it := 3) hrel8B rfl h1B rfl h4B hMW hc0B with ⟨h0B, hrunB⟩ | ⟨pp, hpp, hS, hlt, u, v, E9, hrun, ev9, hrel9, hρ9, hku, hvv, hent⟩
    rotate_left
    · -- one more
      obtain ⟨s, hps, hsl⟩ := hMk pp hpp
      refine wanted_step ⟨hG, hrel8B⟩ rfl (next_op hit8B hrun ?_)
      have hrel10 := top_put hrel9 (d := 30) (u := .tuple #[.bool true, u, v]) (by omega)
      have h58 := put_same (a := a8B) (d := 30) (v := .tuple #[.bool true, u, v]) (by omega)
      have hs10 : (a8B.put (some 30) (.tuple #[.bool true, u, v])).tmps.size = 64 := by rw [put_size]; exact hs8B
      have h57a : (a8B.put (some 30) (.tuple #[.bool true, u, v])).tmps.getD 29 undef = .pointer (some ⟨rbB, 0, none⟩) := by rw [puts_ne (by simp)]; exact hit8B
      generalize a8B.put (some 30) (.tuple #[.bool true, u, v]) = a10 at *
      refine wanted_step ⟨hG, hrel10⟩ rfl (extract_op (v := .bool true) h58 rfl ?_)
      have hrel11 := top_put hrel10 (d := 31) (u := .bool true) (by omega)
      have h59 := put_same (a := a10) (d := 31) (v := .bool true) (by omega)
      have hs11 : (a10.put (some 31) (.bool true)).tmps.size = 64 := by rw [put_size]; exact hs10
      have h57b : (a10.put (some 31) (.bool true)).tmps.getD 29 undef = .pointer (some ⟨rbB, 0, none⟩) := by rw [puts_ne (by simp)]; exact h57a
      generalize a10.put (some 31) (.bool true) = a11 at *
      refine wpIn_seq (wpIn_cond_true h59 (wpIn_skip ?_))
      refine wpIn_block (wpIn_seq (wpIn_region_list ?_))
      refine wanted_step ⟨hG, hrel11⟩ rfl (entry_op h57b hent ?_)
      rw [hps] at hku
      have hrel12 := hrel11.put (Evo.refl (Nat.le_refl _)) hrel11.env (d := some 32) (v := .tup [.c (.d (.str s)), pp.2.2.V]) (u := .tuple #[u, v]) (fun t ht => by cases ht; omega) (tup2_rel (DV.rel_V hku) (DV.rel_V hvv))
      have hs12 : (a11.put (some 32) (.tuple #[u, v])).tmps.size = 64 := by rw [put_size]; exact hs11
      have h57c : (a11.put (some 32) (.tuple #[u, v])).tmps.getD 29 undef = .pointer (some ⟨rbB, 0, none⟩) := by rw [puts_ne (by simp)]; exact h57b
      generalize a11.put (some 32) (.tuple #[u, v]) = a12 at *
      generalize pp.2.2.V = vv at *
      have hrel12 : Rel A E9 ⟨[(32, .tup [.c (.d (.str s)), vv]), (5, .v (.c (.mp 0))), (6, .v (.c (.mp 1))), (7, .v (.c (.mp 2)))], [.map MM nN, .map MM nN, .map ksB kcB, .pin (.mapIter (some bmB) nN (S0B.push pp.1) nN)]⟩ a12 E9.w := rel_sub hrel12 (by simp [subT, look])
      refine pieceL hK (t0 := [29]) (l2 := []) (M := 4) [_, _] ⟨[(9, .v (.c (.d (.str s)))), (5, .v (.c (.mp 0))), (6, .v (.c (.mp 1))), (7, .v (.c (.mp 2)))], [.map MM nN, .map MM nN, .map ksB kcB, .pin (.mapIter (some bmB) nN (S0B.push pp.1) nN)]⟩ (by kernel_rfl) (by exact Nat.le_refl 4) ?_ ⟨hG, hrel12⟩ hs12 ?_
      · skip
        have hc := Nat.zero_add 0
        repeat' (first | simp only [hc, AS, NX, SX, ZZ, simprocAttr, ↓reduceIte] | ((first | apply Za | apply Zb | apply Zc | apply Zd | apply Ze | apply Zf | apply Zg | apply Zh) <;> intro hc) | refine Zi ?_ | refine Zj ?_)
        exact goes (Wk.sub' (by simp [subT, look]) rfl)
      intro a13 E13 ev13 hrel13 hs13 hy13
      have hko := keysOk_of (k := .c (.str s)) rfl hkyB.mw.keys
      have hpu := @putA_eq ksB kcB (.c (.str s)) (.c (.bool true))
      refine pieceX hK (t0 := [29]) (M := 4) ⟨[(5, .v (.c (.mp 0))), (6, .v (.c (.mp 1))), (7, .v (.c (.mp 2)))], [.map MM nN, .map MM nN, .map (putM ksB kcB (.c (.str s)) (.c (.bool true))).1 (putM ksB kcB (.c (.str s)) (.c (.bool true))).2, .pin (.mapIter (some bmB) nN (S0B.push pp.1) nN)]⟩ (by kernel_rfl) (by exact Nat.le_refl 4) ?_ ⟨hG, hrel13⟩ hs13 ?_
      · skip
        have hc := Nat.zero_add 0
        repeat' (first | simp only [hc, AS, NX, MP, SX, hko, hpu, ZZ, simprocAttr, ↓reduceIte] | ((first | apply Za | apply Zb | apply Zc | apply Zd | apply Ze | apply Zf | apply Zg | apply Zh) <;> intro hc) | refine Zi ?_ | refine Zj ?_)
        exact goes (Wk.sub' (by simp [subT, look]) rfl)
      intro a14 E14 ev14 hrel14 hs14 hy14
      have ev := ev13.trans ev14 (Nat.le_refl _)
      have r4 : E14.ρ 3 = some rbB := rho_keep ev (by decide) rfl (by rw [hρ9]; exact h4B)
      have r1 : E14.ρ 1 = some bmB := (ev.keep 1 (by decide) _ rfl (by simp [Ob.kind])).2.trans (by rw [hρ9]; exact h1B)
      refine ⟨⟨E14, S0B.push pp.1, nN, _, _, rfl, hs14, (hy14 29 (by simp)).trans ((hy13 29 (by simp)).trans h57c), r4, r1, Nat.le_refl _, ⟨_, hkyB.put hsl, by omega⟩, hrel14⟩, ?_⟩
      show lftM bmB rbB E14.w < lftM bmB rbB E8B.w
      rw [hμB, lft_eq (id := 1) (it := 3) hrel14.env rfl r1 rfl r4]
      exact hlt
    -- nothing is left
    refine wanted_step ⟨hG, hrel8B⟩ rfl (next_op hit8B hrunB ?_)
    have hrel10B := top_put hrel8B (d := 30) (u := .tuple #[.bool false]) (by omega)
    have h58B := put_same (a := a8B) (d := 30) (v := .tuple #[.bool false]) (by omega)
    have hs10B : (a8B.put (some 30) (.tuple #[.bool false])).tmps.size = 64 := by rw [put_size]; exact hs8B
    generalize a8B.put (some 30) (.tuple #[.bool false]) = a10B at *
    refine wanted_step ⟨hG, hrel10B⟩ rfl (extract_op (v := .bool false) h58B rfl ?_)
    have hrel11B := top_put hrel10B (d := 31) (u := .bool false) (by omega)
    have h59B := put_same (a := a10B) (d := 31) (v := .bool false) (by omega)
    have hs11B : (a10B.put (some 31) (.bool false)).tmps.size = 64 := by rw [put_size]; exact hs10B
    generalize a10B.put (some 31) (.bool false) = a11B at *
    refine wpIn_seq (wpIn_cond_false h59B (wpIn_exit ?_))
    obtain ⟨E12B, _, hrel12B⟩ := Wk.cutk (n := 0) (k := 3) (h' := [.map MM nN, .map MM nN, .map ksB kcB]) (t' := [(5, .v (.c (.mp 0))), (6, .v (.c (.mp 1))), (7, .v (.c (.mp 2)))]) (by simp) (by simp) rfl (by simp [subT, look]) (by simp [AV.low, V.low, C1.low]) (by simp [Ob.low]) A _ _ _ (Nat.zero_le _) hrel11B
    have hw12B := hrel12B.world
    have hkyB := hkyB.more (m := 200000) (by omega)
    clear hrel11B hrel10B hrel8B hrel7B hrel6B hrunB hμB
    rw [← hw12B]
    refine pieceEnd hK hm (by kernel_rfl) ?_ ⟨hG, hw12B ▸ hrel12B⟩ hs11B hds
    have f6 := xsorted_at (h := [.map MM nN, .map MM nN, .map ksB kcB, .box [.mp 2]]) (bid := 3) (mid := 2) rfl rfl hkyB.mw (by have := hkyB.len; omega) hkyB.key
    have f5 := xkeys_at (h := [.map MM nN, .map MM nN, .map ksB kcB]) (id := 2)
    simp only [List.length_cons, List.length_nil, Nat.zero_add, Nat.reduceAdd, List.cons_append, List.nil_append] at f5
    have hKl := @keysS_len ksB
    have hkl := hkyB.len
    generalize keysS ksB = KL at *
    have l1 : ((KL.map rowS).length : Int) = KL.length := by simp
    have hc := Nat.zero_add 0
    repeat' (first | simp only [hc, AS, NX, MP, SX, f5, f6, l1, ZZ, simprocAttr, ↓reduceIte] | ((first | apply Za | apply Zb | apply Zc | apply Zd | apply Ze | apply Zf | apply Zg | apply Zh) <;> intro hc) | refine Zi ?_ | refine Zj ?_)
    refine awpS_loop (σ := Nat) (fun j => j ≤ KL.length) (fun j => ⟨[(40, AV.i j), (39, AV.i KL.length), (38, AV.d (.sl false (KL.map rowS))), (10, AV.d (.sl true [])), (5, .v (.c (.mp 0))), (6, .v (.c (.mp 1)))], [.map MM nN, .map MM nN, .map ksB kcB, .box [.mp 2]]⟩)
      (fun j => KL.length - j) 0 (Wk.sub' (by simp [subT, look]) rfl) (Nat.zero_le _) ?_
    intro j hj
    by_cases hjl : j < KL.length
    · have c1 : ((j : Int) < (KL.length : Int)) = True := eq_true (by omega)
      have e1 : (KL.map rowS)[j]? = some [.str KL[j]] := by simp [hjl, rowS]
      have w1 := wI (n := (j : Int) + 1) (by omega) (by omega)
      obtain ⟨v, hv⟩ := @hMv KL[j]
      have hko := keysOk_of (k := .c (.str KL[j])) rfl hMd
      generalize KL[j] = s at *
      have hc := Nat.zero_add 0
      repeat' (first | simp only [hc, AS, NX, MP, SX, l1, c1, e1, nn, w1, hko, hv, ZZ, simprocAttr, ↓reduceIte] | ((first | apply Za | apply Zb | apply Zc | apply Zd | apply Ze | apply Zf | apply Zg | apply Zh) <;> intro hc) | refine Zi ?_ | refine Zj ?_)
      exact lp_next (j + 1) (Wk.sub' (by simp [subT, look]) rfl) (by omega) (by omega)
    have c1 : ((j : Int) < (KL.length : Int)) = False := eq_false (by omega)
    have hc := Nat.zero_add 0
    repeat' (first | simp only [hc, AS, NX, MP, SX, l1, c1, ZZ, simprocAttr, ↓reduceIte] | ((first | apply Za | apply Zb | apply Zc | apply Zd | apply Ze | apply Zf | apply Zg | apply Zh) <;> intro hc) | refine Zi ?_ | refine Zj ?_)
    rw [← h]
    show resAll _ ⟨_, _⟩ [.tmp 4] = _
    have hc := Nat.zero_add 0
    repeat' (first | simp only [hc, AS, NX, SX, ZZ, simprocAttr, ↓reduceIte] | ((first | apply Za | apply Zb | apply Zc | apply Zd | apply Ze | apply Zf | apply Zg | apply Zh) <;> intro hc) | refine Zi ?_ | refine Zj ?_)
  cases h
theorem xdiff_at {p q : Ptn} (h : DfOk (p, q)) : xdiff_m [.agg (pr p), .agg (pr q)] = some [.c (.sl true [])] := by
  have := mE_eq enc2P_inj (g := fun q => if DfOk q then some [DV.c (.sl true [])] else none) (a := (p, q))
  exact this.trans (if_pos h)
end
end Go.Ab
