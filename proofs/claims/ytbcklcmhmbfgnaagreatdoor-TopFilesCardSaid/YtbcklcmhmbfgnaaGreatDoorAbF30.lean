/-
  Texts of the layer and of the laws, put together: AbA12, AbA13, AbA14.
-/
import Derived.Test.YtbcklcmhmbfgnaaGreatDoorAbF29
set_option linter.unusedSimpArgs false
set_option linter.unusedVariables false
set_option maxRecDepth 100000
namespace Go.Ab
open Go.RowKit Go.Proofs
def idxS (l : List (List UInt8)) (s : List UInt8) : Int := match l.findIdx? (fun a => a == s) with
  | some k => k
  | none => -1
theorem idxS_at {l : List (List UInt8)} {s : List UInt8} {j : Nat} (hj : j < l.length) (h1 : ∀ i (hi : i < j), l[i] ≠ s) (h2 : l[j] = s) : idxS l s = j := by
  unfold idxS
  rw [List.findIdx?_eq_some_iff_getElem.2 ⟨hj, by simp [h2], fun i hi => by simpa using h1 i hi⟩]
theorem idxS_none {l : List (List UInt8)} {s : List UInt8} (h : ∀ i (hi : i < l.length), l[i] ≠ s) : idxS l s = -1 := by
  unfold idxS
  rw [List.findIdx?_eq_none_iff.2 fun a ha => by
    obtain ⟨i, hi, rfl⟩ := List.mem_iff_getElem.1 ha
    simpa using h i hi]
noncomputable section
open Classical
def scut_m : List PA → Option (List PA) := mss fun a b => if decide (a.length ≤ 4294967280) = true then some [.c (.str (Lib.cut a b).1), .c (.str (Lib.cut a b).2.1), .c (.bool (Lib.cut a b).2.2)] else none
def sidx_m : List PA → Option (List PA) := mls fun l s => if decide (l.length ≤ 1000000000) = true then some [.i (idxS l s)] else none
def shas_m : List PA → Option (List PA) := mls fun l s => if decide (l.length ≤ 1000000000) = true then some [.b (decide (0 ≤ idxS l s))] else none
theorem scut_ok : PureC Tryz.prog Gt 31 scut_m := by
  refine ⟨fun vs w => enters_of Tryz.func31 (by kernel_rfl) rfl vs w, fun w F vs args r hlt hG hvs hrel hm => ?_⟩
  obtain ⟨a, b, rfl, hg⟩ := mss_inv hm
  split at hg
  · rename_i hc
    have hc := of_decide_eq_true hc
    cases hg
    obtain ⟨s, h1, rfl⟩ := rd_str (hrel 0 _ rfl)
    obtain ⟨p, h2, rfl⟩ := rd_str (hrel 1 _ rfl)
    rw [two_args hvs, h1, h2]
    obtain ⟨_, m, hm⟩ := hG.2
    have e1 : s.size = s.data.toList.length := Lib.size_eq _
    refine (Any.strings_Cut { Tryz.laysM145 with } s p m w (by omega) hm).mono ?_
    rintro e w' ⟨he, n, rfl⟩
    refine ⟨_, he, ⟨[.string ⟨(Lib.cut s.data.toList p.data.toList).1.toArray⟩, .string ⟨(Lib.cut s.data.toList p.data.toList).2.1.toArray⟩, .bool (Lib.cut s.data.toList p.data.toList).2.2], rfl, rfl, fun j x hj => ?_⟩, ⟨rfl, rfl, rfl, Nat.le_refl _, fun _ _ => rfl⟩, fun h => by cases h⟩
    match j, hj with
    | 0, hj => cases hj; exact ⟨_, rfl, str_rd _⟩
    | 1, hj => cases hj; exact ⟨_, rfl, str_rd _⟩
    | 2, hj => cases hj; exact ⟨_, rfl, .bool _⟩
  cases hg
theorem scut_at {a b : List UInt8} (h : a.length ≤ 4294967280) : scut_m [.c (.str a), .c (.str b)] = some [.c (.str (Lib.cut a b).1), .c (.str (Lib.cut a b).2.1), .c (.bool (Lib.cut a b).2.2)] := by
  rw [scut_m, mss_eq, if_pos (decide_eq_true h)]
theorem sidx_ok : PureC Tryz.prog Gt 75 sidx_m := by
  refine pure_of_awp (X := ctx Tryz.prog Gt []) Tryz.func75 rfl rfl (by kernel_rfl) (by kernel_rfl) AllOk.nil.kok ?_
  intro args r h0
  obtain ⟨f, l, b, rfl, h⟩ := mls_inv h0
  refine ⟨Nat.le_of_ble_eq_true rfl, ?_⟩
  split at h
  · rename_i hl
    have hl := of_decide_eq_true hl
    cases h
    have l1 : ((l.map rowS).length : Int) = l.length := by simp
    have hc := Nat.zero_add 0
    repeat' (first | simp only [hc, Tryz.f75, SX, l1, ZZ, simprocAttr, ↓reduceIte] | ((first | apply Za | apply Zb | apply Zc | apply Zd | apply Ze | apply Zf | apply Zg | apply Zh) <;> intro hc) | refine Zj ?_)
    refine awp_loop (σ := Nat) (fun j => j ≤ l.length ∧ ∀ i (hi : i < j) (hl : i < l.length), l[i] ≠ b) (fun j => ⟨[(8, AV.i j), (7, AV.i l.length), (0, AV.d (.sl f (l.map rowS))), (1, AV.s b)], []⟩) (fun j => l.length - j) 0 (Wk.sub' (by simp [subT, look]) rfl) ⟨Nat.zero_le _, fun i hi => absurd hi (Nat.not_lt_zero _)⟩ ?_
    rintro j ⟨hj, hno⟩
    by_cases hjl : j < l.length
    · have e1 : (l.map rowS)[j]? = some [.str l[j]] := by simp [hjl, rowS]
      have hlt : ((j : Int) < (l.length : Int)) = True := eq_true (by omega)
      have hw := wI (n := (j : Int) + 1) (by omega) (by omega)
      by_cases hb : b = l[j]
      · have c1 : (b == l[j]) = true := by simp [← hb]
        have hr := idxS_at hjl (fun i hi => hno i hi (by omega)) hb.symm
        generalize idxS l b = R at *
        generalize l[j] = x at *
        have hc := Nat.zero_add 0
        repeat' (first | simp only [hc, SX, l1, e1, hlt, nn, hw, c1, ZZ, simprocAttr, ↓reduceIte] | ((first | apply Za | apply Zb | apply Zc | apply Zd | apply Ze | apply Zf | apply Zg | apply Zh) <;> intro hc) | refine Zj ?_)
        all_goals simp [hr, DV.i]
      have c1 : (b == l[j]) = false := by simpa using hb
      have hnx : ∀ i (hi : i < j + 1) (hl : i < l.length), l[i] ≠ b := fun i hi hil => by
        rcases Nat.lt_succ_iff_lt_or_eq.1 hi with h | h
        · exact hno i h hil
        subst h; exact fun e => hb e.symm
      generalize l[j] = x at *
      have hc := Nat.zero_add 0
      repeat' (first | simp only [hc, SX, l1, e1, hlt, nn, hw, c1, ZZ, simprocAttr, ↓reduceIte] | ((first | apply Za | apply Zb | apply Zc | apply Zd | apply Ze | apply Zf | apply Zg | apply Zh) <;> intro hc) | refine Zj ?_)
      exact lp_next (j + 1) (Wk.sub' (by simp [subT, look]) rfl) ⟨by omega, hnx⟩ (by omega)
    have hlt : ((j : Int) < (l.length : Int)) = False := eq_false (by omega)
    have hr := idxS_none (s := b) (fun i hi => hno i (by omega) hi)
    generalize idxS l b = R at *
    have hc := Nat.zero_add 0
    repeat' (first | simp only [hc, SX, l1, hlt, ZZ, simprocAttr, ↓reduceIte] | ((first | apply Za | apply Zb | apply Zc | apply Zd | apply Ze | apply Zf | apply Zg | apply Zh) <;> intro hc) | refine Zj ?_)
    all_goals simp [hr, DV.i]
  cases h
theorem sidx_at {f : Bool} {l : List (List UInt8)} {b : List UInt8} (h : l.length ≤ 1000000000) : sidx_m [.c (.sl f (l.map rowS)), .c (.str b)] = some [.i (idxS l b)] := by
  rw [sidx_m, mls_eq, if_pos (decide_eq_true h)]
theorem shas_ok : PureC Tryz.prog Gt 57 shas_m := by
  refine pure_of_awp (X := ctx Tryz.prog Gt [(75, sidx_m)]) Tryz.func57 rfl rfl (by kernel_rfl) (by kernel_rfl) (AllOk.cons sidx_ok AllOk.nil).kok ?_
  intro args r h0
  obtain ⟨f, l, b, rfl, h⟩ := mls_inv h0
  refine ⟨Nat.le_of_ble_eq_true rfl, ?_⟩
  split at h
  · rename_i hl
    have hl := of_decide_eq_true hl
    cases h
    have f1 := sidx_at (f := f) (b := b) hl
    generalize idxS l b = R at *
    have hc := Nat.zero_add 0
    repeat' (first | simp only [hc, Tryz.f57, SX, f1, ZZ, simprocAttr, ↓reduceIte] | ((first | apply Za | apply Zb | apply Zc | apply Zd | apply Ze | apply Zf | apply Zg | apply Zh) <;> intro hc) | refine Zj ?_)
    all_goals simp [DV.b]
  cases h
theorem shas_at {f : Bool} {l : List (List UInt8)} {b : List UInt8} (h : l.length ≤ 1000000000) : shas_m [.c (.sl f (l.map rowS)), .c (.str b)] = some [.b (decide (0 ≤ idxS l b))] := by
  rw [shas_m, mls_eq, if_pos (decide_eq_true h)]
end
end Go.Ab
namespace Go.Ab
open Go.RowKit Go.Proofs
def recC (rs : List Rec) (x : Rec) : Except Int Rec := if 1024 ≤ rs.length then .error 3 else if rightF x = 0 then .ok x else .error (rightF x)
def recE (rs : List Rec) : List (List UInt8) → Except Int Rec
  | [a, b, c, d] => match numA c with
    | none => .error 5
    | some t => if idxS wordsL a = 3 then (match numA d with
      | none => .error 5
      | some w => recC rs ⟨3, b, t, 0, w⟩) else if (parseF d).2 = 0 then recC rs ⟨idxS wordsL a, b, t, (parseF d).1, 0⟩ else .error (parseF d).2
  | _ => .error 5
def hpN (x : Rdr) (r : Rec) (e : Int) : Hp := if x.rs = [] then [.box zF, .box (x.cells (.own 4 [r.row])), .box [.d (.int .i64 e)], .box [.top, .top, .top, .top, .top], .tok 1 5 none] else hpB { x with rs := x.rs ++ [r] } (eB e)
theorem apSl_one {h : Hp} {z b : Nat} {ys : List D} (h2 : ys.length = z) (h3 : b ≤ 140737488355328) : apSl h z b [] [ys] = some (.v (.c (.own h.length [ys])), h ++ [.tok 1 z none]) := by
  unfold apSl
  rw [if_pos ⟨by simp [allLen], by simp [allLen, h2], by simpa using h3, by simp⟩]
  simp
theorem rows5 {l : List Rec} : allLen 5 (l.map Rec.row) = True := eq_true fun r hr => by
  obtain ⟨x, _, rfl⟩ := List.mem_map.1 hr
  rfl
theorem aright_at' {k t c w : Int} {b : List UInt8} (h : b.length ≤ 100000) : aright_m [.agg [.int .i64 k, .str b, .int .i64 t, .int .i64 c, .int .i64 w]] = some [.i (rightF ⟨k, b, t, c, w⟩)] := aright_at (x := ⟨k, b, t, c, w⟩) h
noncomputable section
open Classical
theorem gloWordsN {tab : Tab} {kt : KTab} {nt : NTab} {B : Option (TypeId × TypeId)} : gloA (ctxN Tryz.prog Gt tab kt nt B) wordsG = .v (.c (.dptr [.sl true (wordsL.map fun s => [.str s])])) := rfl
theorem sidx_words {a : List UInt8} : sidx_m [.c (.sl true (wordsL.map fun s => [.str s])), .c (.str a)] = some [.i (idxS wordsL a)] := sidx_at (by decide)
def arec_k : List AV → Hp → Option COut := kR rdR fun a => if a.1.rs.length ≤ 1024 ∧ a.2.2.1.length = 4 ∧ linOk a.2.2.1 then some (match recE a.1.rs a.2.2.1 with | .error k => panW k (hpP a.1 (eB a.2.2.2)) | .ok r => .ret (.tup []) (hpN a.1 r a.2.2.2)) else none
set_option maxHeartbeats 1000000 in
theorem arec_kok : ImpC Tryz.prog Gt 58 arec_k := by
  intro args h out h0
  refine fok_of_awpW (X := ctxN Tryz.prog Gt [(75, sidx_m), (40, aright_m)] [] [(73, anum_n), (74, aamount_n), (54, amust_n)] none) Tryz.func58 rfl rfl (by kernel_rfl) (by kernel_rfl) (kok_n (AllOk.cons sidx_ok (AllOk.cons aright_ok AllOk.nil)) AllK.nil (AllN.cons anum_nok (AllN.cons aamount_nok (AllN.cons amust_nok AllN.nil)))) ?_ ?_
  · obtain ⟨a, ⟨rfl, rfl⟩, _⟩ := kR_inv h0
    exact Nat.le_of_ble_eq_true rfl
  obtain ⟨⟨x, f, l, e⟩, ⟨rfl, rfl⟩, hg⟩ := kR_inv h0
  dsimp only at hg ⊢
  split at hg
  · rename_i hok
    obtain ⟨hrs, h4, hl⟩ := hok
    simp only [Option.some.injEq] at hg
    obtain ⟨fr, dst, seq, rs, beg, fin⟩ := x
    dsimp only at hrs
    obtain ⟨a, b, c, d, rfl⟩ : ∃ a b c d, l = [a, b, c, d] := by
      match l, h4 with
      | [a, b, c, d], _ => exact ⟨a, b, c, d, rfl⟩
    have hb := hl b (by simp)
    have hc' := hl c (by simp)
    have hd := hl d (by simp)
    obtain ⟨L, hL⟩ : ∃ L, L = [a, b, c, d].map rowS := ⟨_, rfl⟩
    have i0 : L[0]? = some [.str a] := by rw [hL]; rfl
    have i1 : L[1]? = some [.str b] := by rw [hL]; rfl
    have i2 : L[2]? = some [.str c] := by rw [hL]; rfl
    have i3 : L[3]? = some [.str d] := by rw [hL]; rfl
    rw [← hL]
    clear hL h0
    have hE : recE rs [a, b, c, d] = match numA c with
      | none => .error 5
      | some t => if idxS wordsL a = 3 then (match numA d with
        | none => .error 5
        | some w => recC rs ⟨3, b, t, 0, w⟩) else if (parseF d).2 = 0 then recC rs ⟨idxS wordsL a, b, t, (parseF d).1, 0⟩ else .error (parseF d).2 := rfl
    dsimp only at hg
    rw [hE] at hg
    clear hE
    have f0 := @sidx_words a
    have fr' := fun k t c w => @aright_at' k t c w b hb
    generalize idxS wordsL a = kd at *
    by_cases hr0 : rs = []
    · subst hr0
      have eH : hpR ⟨fr, dst, seq, [], beg, fin⟩ (eB e) = [.box zF, .box [.d (.str fr), .d (.str dst), .d (.int .i64 seq), .d (.sl true []), .d (.bool beg), .d (.bool fin)], .box [.d (.int .i64 e)]] := rfl
      have eP : hpP ⟨fr, dst, seq, [], beg, fin⟩ (eB e) = [.box zF, .box tops6, .box [.d (.int .i64 e)]] := rfl
      have eN : ∀ r, hpN ⟨fr, dst, seq, [], beg, fin⟩ r e = [.box zF, .box [.d (.str fr), .d (.str dst), .d (.int .i64 seq), .own 4 [r.row], .d (.bool beg), .d (.bool fin)], .box [.d (.int .i64 e)], .box [.top, .top, .top, .top, .top], .tok 1 5 none] := fun _ => rfl
      have lN : (([] : List (List D)).length : Int) = 0 := rfl
      have ap := fun (h : Hp) (x1 x2 x3 x4 x5 : D) => @apSl_one h 5 48 [x1, x2, x3, x4, x5] rfl (by decide)
      rw [eH]
      cases hnum : numA c with
      | none =>
        rw [hnum] at hg
        simp only [eP] at hg
        subst hg
        have f1 := anum_none hc' hnum
        have hc := Nat.zero_add 0
        repeat' (first | simp only [hc, AX, AXP, Tryz.f58, NX, NP, SX, RetsW_ret, RetsW_normal, RetsW_pan, gloWordsN, i0, i1, i2, i3, f0, f1, ZZ, simprocAttr, ↓reduceIte] | ((first | apply Za | apply Zb | apply Zc | apply Zd | apply Ze | apply Zf | apply Zg | apply Zh) <;> intro hc) | refine seqX_id ?_ | refine Zj ?_)
        refine awpX_drawn 11 [0, 1, 2, 3, 4, 5, 6, 7, 8, 9, 10, 13] rfl rfl (by kernel_rfl) (by kernel_rfl) (Nat.le_of_ble_eq_true rfl) rfl ?_
        have hc := Nat.zero_add 0
        repeat' (first | simp only [hc, AX, AXP, NX, NP, SX, RetsW_ret, RetsW_normal, RetsW_pan, gloWordsN, i0, i1, i2, i3, f0, f1, ZZ, simprocAttr, ↓reduceIte] | ((first | apply Za | apply Zb | apply Zc | apply Zd | apply Ze | apply Zf | apply Zg | apply Zh) <;> intro hc) | refine seqX_id ?_ | refine Zj ?_)
        all_goals exact ⟨_, _, _, _, rfl, (Wk.tops (id := 1) rfl (by rw [subT_nil]; trivial) rfl rfl), rfl⟩
      | some t =>
        rw [hnum] at hg
        have f1 := anum_some hc' hnum
        by_cases hk : kd = 3
        · subst hk
          simp only [if_true] at hg
          cases hnd : numA d with
          | none =>
            rw [hnd] at hg
            simp only [eP] at hg
            subst hg
            have f2 := anum_none hd hnd
            refine awpX_of _ _ _ ?_
            have hc := Nat.zero_add 0
            repeat' (first | simp only [hc, AS, Tryz.f58, mkWrong, NX, NP, SX, RetsW_ret, RetsW_normal, RetsW_pan, gloWordsN, i0, i1, i2, i3, f0, f1, f2, ZZ, simprocAttr, ↓reduceIte] | ((first | apply Za | apply Zb | apply Zc | apply Zd | apply Ze | apply Zf | apply Zg | apply Zh) <;> intro hc) | refine Zi ?_ | refine Zj ?_)
            all_goals exact ⟨_, _, _, _, rfl, (Wk.tops (id := 1) rfl (by rw [subT_nil]; trivial) rfl rfl).trans (Wk.cutk (k := 3) (Nat.le_refl _) (Nat.le_of_ble_eq_true rfl) rfl (by rw [subT_nil]; trivial) rfl rfl), rfl⟩
          | some w =>
            rw [hnd] at hg
            have f2 := anum_some hd hnd
            dsimp only at hg
            have hN : ¬ 1024 ≤ ([] : List Rec).length := by decide
            have fq := fr' (3) (t) (0) (w)
            by_cases hq : rightF ⟨3, b, t, 0, w⟩ = 0
            · have hx : recC [] ⟨3, b, t, 0, w⟩ = .ok ⟨3, b, t, 0, w⟩ := by unfold recC; rw [if_neg hN, if_pos hq]
              rw [hx] at hg
              simp only [eN, Rec.row] at hg
              subst hg
              rw [hq] at fq
              have f6 := must0
              refine awpX_of _ _ _ ?_
              have hc := Nat.zero_add 0
              repeat' (first | simp only [hc, AS, Tryz.f58, mkWrong, NX, NP, SX, RetsW_ret, RetsW_normal, RetsW_pan, gloWordsN, i0, i1, i2, i3, f0, f1, f2, lN, ap, fq, f6, ZZ, simprocAttr, ↓reduceIte] | ((first | apply Za | apply Zb | apply Zc | apply Zd | apply Ze | apply Zf | apply Zg | apply Zh) <;> intro hc) | refine Zi ?_ | refine Zj ?_)
              all_goals exact ⟨⟨[], _⟩, Wk.tops (id := 3) rfl (by rw [subT_nil]; trivial) rfl rfl, _, rfl, rfl⟩
            have hx : recC [] ⟨3, b, t, 0, w⟩ = .error (rightF ⟨3, b, t, 0, w⟩) := by unfold recC; rw [if_neg hN, if_neg hq]
            rw [hx] at hg
            simp only [eP] at hg
            subst hg
            have f6 := must1 hq
            generalize rightF ⟨3, b, t, 0, w⟩ = qq at *
            refine awpX_of _ _ _ ?_
            have hc := Nat.zero_add 0
            repeat' (first | simp only [hc, AS, Tryz.f58, mkWrong, NX, NP, SX, RetsW_ret, RetsW_normal, RetsW_pan, gloWordsN, i0, i1, i2, i3, f0, f1, f2, lN, ap, fq, f6, ZZ, simprocAttr, ↓reduceIte] | ((first | apply Za | apply Zb | apply Zc | apply Zd | apply Ze | apply Zf | apply Zg | apply Zh) <;> intro hc) | refine Zi ?_ | refine Zj ?_)
            all_goals exact ⟨_, _, _, _, rfl, (Wk.tops (id := 1) rfl (by rw [subT_nil]; trivial) rfl rfl).trans (Wk.cutk (k := 3) (Nat.le_refl _) (Nat.le_of_ble_eq_true rfl) rfl (by rw [subT_nil]; trivial) rfl rfl), rfl⟩
        simp only [if_neg hk] at hg
        by_cases hp : (parseF d).2 = 0
        · simp only [if_pos hp] at hg
          have f2 := amtN_ok hd hp
          generalize (parseF d).1 = am at *
          have hN : ¬ 1024 ≤ ([] : List Rec).length := by decide
          have fq := fr' (kd) (t) (am) (0)
          by_cases hq : rightF ⟨kd, b, t, am, 0⟩ = 0
          · have hx : recC [] ⟨kd, b, t, am, 0⟩ = .ok ⟨kd, b, t, am, 0⟩ := by unfold recC; rw [if_neg hN, if_pos hq]
            rw [hx] at hg
            simp only [eN, Rec.row] at hg
            subst hg
            rw [hq] at fq
            have f6 := must0
            refine awpX_of _ _ _ ?_
            have hc := Nat.zero_add 0
            repeat' (first | simp only [hc, AS, Tryz.f58, mkWrong, NX, NP, SX, RetsW_ret, RetsW_normal, RetsW_pan, gloWordsN, i0, i1, i2, i3, f0, f1, f2, hk, lN, ap, fq, f6, ZZ, simprocAttr, ↓reduceIte] | ((first | apply Za | apply Zb | apply Zc | apply Zd | apply Ze | apply Zf | apply Zg | apply Zh) <;> intro hc) | refine Zi ?_ | refine Zj ?_)
            all_goals exact ⟨⟨[], _⟩, Wk.tops (id := 3) rfl (by rw [subT_nil]; trivial) rfl rfl, _, rfl, rfl⟩
          have hx : recC [] ⟨kd, b, t, am, 0⟩ = .error (rightF ⟨kd, b, t, am, 0⟩) := by unfold recC; rw [if_neg hN, if_neg hq]
          rw [hx] at hg
          simp only [eP] at hg
          subst hg
          have f6 := must1 hq
          generalize rightF ⟨kd, b, t, am, 0⟩ = qq at *
          refine awpX_of _ _ _ ?_
          have hc := Nat.zero_add 0
          repeat' (first | simp only [hc, AS, Tryz.f58, mkWrong, NX, NP, SX, RetsW_ret, RetsW_normal, RetsW_pan, gloWordsN, i0, i1, i2, i3, f0, f1, f2, hk, lN, ap, fq, f6, ZZ, simprocAttr, ↓reduceIte] | ((first | apply Za | apply Zb | apply Zc | apply Zd | apply Ze | apply Zf | apply Zg | apply Zh) <;> intro hc) | refine Zi ?_ | refine Zj ?_)
          all_goals exact ⟨_, _, _, _, rfl, (Wk.tops (id := 1) rfl (by rw [subT_nil]; trivial) rfl rfl).trans (Wk.cutk (k := 3) (Nat.le_refl _) (Nat.le_of_ble_eq_true rfl) rfl (by rw [subT_nil]; trivial) rfl rfl), rfl⟩
        simp only [if_neg hp] at hg
        simp only [eP] at hg
        subst hg
        have f2 := amtN_bad hd hp
        generalize (parseF d).2 = am at *
        refine awpX_of _ _ _ ?_
        have hc := Nat.zero_add 0
        repeat' (first | simp only [hc, AS, Tryz.f58, NX, NP, SX, RetsW_ret, RetsW_normal, RetsW_pan, gloWordsN, i0, i1, i2, i3, f0, f1, f2, hk, ZZ, simprocAttr, ↓reduceIte] | ((first | apply Za | apply Zb | apply Zc | apply Zd | apply Ze | apply Zf | apply Zg | apply Zh) <;> intro hc) | refine Zi ?_ | refine Zj ?_)
        all_goals exact ⟨_, _, _, _, rfl, (Wk.tops (id := 1) rfl (by rw [subT_nil]; trivial) rfl rfl).trans (Wk.cutk (k := 3) (Nat.le_refl _) (Nat.le_of_ble_eq_true rfl) rfl (by rw [subT_nil]; trivial) rfl rfl), rfl⟩
    have eH : hpR ⟨fr, dst, seq, rs, beg, fin⟩ (eB e) = [.box zF, .box [.d (.str fr), .d (.str dst), .d (.int .i64 seq), .own 4 (rs.map Rec.row), .d (.bool beg), .d (.bool fin)], .box [.top], .box [.top, .top, .top, .top, .top], .tok rs.length 5 none, .box [.d (.int .i64 e)]] := by rw [hpR, if_neg hr0]; rfl
    have eP : hpP ⟨fr, dst, seq, rs, beg, fin⟩ (eB e) = [.box zF, .box tops6, .box [.top], .box [.top, .top, .top, .top, .top], .tok rs.length 5 none, .box [.d (.int .i64 e)]] := by rw [hpP, if_neg hr0]
    have eN : ∀ r, hpN ⟨fr, dst, seq, rs, beg, fin⟩ r e = [.box zF, .box [.d (.str fr), .d (.str dst), .d (.int .i64 seq), .own 4 (rs.map Rec.row ++ [r.row]), .d (.bool beg), .d (.bool fin)], .box [.top], .box [.top, .top, .top, .top, .top], .tok (rs.length + 1) 5 none, .box [.d (.int .i64 e)]] := fun r => by
      rw [hpN, if_neg hr0]
      simp [hpB, Rdr.cells]
    have k1 : (rs.map Rec.row).length = rs.length := by simp
    have k2 : (rs.length + 1 ≤ 4611686018427387904) = True := eq_true (by omega)
    have k3 : ((rs.length + 1) * 48 ≤ 140737488355328) = True := eq_true (by omega)
    have k4 := @rows5 rs
    rw [eH]
    cases hnum : numA c with
    | none =>
      rw [hnum] at hg
      simp only [eP] at hg
      subst hg
      have f1 := anum_none hc' hnum
      have hc := Nat.zero_add 0
      repeat' (first | simp only [hc, AX, AXP, Tryz.f58, NX, NP, SX, RetsW_ret, RetsW_normal, RetsW_pan, gloWordsN, i0, i1, i2, i3, f0, f1, ZZ, simprocAttr, ↓reduceIte] | ((first | apply Za | apply Zb | apply Zc | apply Zd | apply Ze | apply Zf | apply Zg | apply Zh) <;> intro hc) | refine seqX_id ?_ | refine Zj ?_)
      refine awpX_drawn 11 [0, 1, 2, 3, 4, 5, 6, 7, 8, 9, 10, 13] rfl rfl (by kernel_rfl) (by kernel_rfl) (Nat.le_of_ble_eq_true rfl) rfl ?_
      have hc := Nat.zero_add 0
      repeat' (first | simp only [hc, AX, AXP, NX, NP, SX, RetsW_ret, RetsW_normal, RetsW_pan, gloWordsN, i0, i1, i2, i3, f0, f1, ZZ, simprocAttr, ↓reduceIte] | ((first | apply Za | apply Zb | apply Zc | apply Zd | apply Ze | apply Zf | apply Zg | apply Zh) <;> intro hc) | refine seqX_id ?_ | refine Zj ?_)
      all_goals exact ⟨_, _, _, _, rfl, (Wk.tops (id := 1) rfl (by rw [subT_nil]; trivial) rfl rfl), rfl⟩
    | some t =>
      rw [hnum] at hg
      have f1 := anum_some hc' hnum
      by_cases hk : kd = 3
      · subst hk
        simp only [if_true] at hg
        cases hnd : numA d with
        | none =>
          rw [hnd] at hg
          simp only [eP] at hg
          subst hg
          have f2 := anum_none hd hnd
          refine awpX_of _ _ _ ?_
          have hc := Nat.zero_add 0
          repeat' (first | simp only [hc, AS, Tryz.f58, mkWrong, NX, NP, SX, RetsW_ret, RetsW_normal, RetsW_pan, gloWordsN, i0, i1, i2, i3, f0, f1, f2, ZZ, simprocAttr, ↓reduceIte] | ((first | apply Za | apply Zb | apply Zc | apply Zd | apply Ze | apply Zf | apply Zg | apply Zh) <;> intro hc) | refine Zi ?_ | refine Zj ?_)
          all_goals exact ⟨_, _, _, _, rfl, (Wk.tops (id := 1) rfl (by rw [subT_nil]; trivial) rfl rfl).trans (Wk.cutk (k := 6) (Nat.le_refl _) (Nat.le_of_ble_eq_true rfl) rfl (by rw [subT_nil]; trivial) rfl rfl), rfl⟩
        | some w =>
          rw [hnd] at hg
          have f2 := anum_some hd hnd
          dsimp only at hg
          by_cases hN : 1024 ≤ rs.length
          · have hx : recC rs ⟨3, b, t, 0, w⟩ = .error 3 := if_pos hN
            rw [hx] at hg
            simp only [eP] at hg
            subst hg
            have bN : ((1024 : Int) ≤ (rs.length : Int)) = True := eq_true (by omega)
            refine awpX_of _ _ _ ?_
            have hc := Nat.zero_add 0
            repeat' (first | simp only [hc, AS, Tryz.f58, mkWrong, NX, NP, SX, RetsW_ret, RetsW_normal, RetsW_pan, gloWordsN, i0, i1, i2, i3, f0, f1, f2, k1, k2, k3, k4, bN, ZZ, simprocAttr, ↓reduceIte] | ((first | apply Za | apply Zb | apply Zc | apply Zd | apply Ze | apply Zf | apply Zg | apply Zh) <;> intro hc) | refine Zi ?_ | refine Zj ?_)
            all_goals exact ⟨_, _, _, _, rfl, (Wk.tops (id := 1) rfl (by rw [subT_nil]; trivial) rfl rfl).trans (Wk.cutk (k := 6) (Nat.le_refl _) (Nat.le_of_ble_eq_true rfl) rfl (by rw [subT_nil]; trivial) rfl rfl), rfl⟩
          have bN : ((1024 : Int) ≤ (rs.length : Int)) = False := eq_false (by omega)
          have hN : ¬ 1024 ≤ rs.length := hN
          have fq := fr' (3) (t) (0) (w)
          by_cases hq : rightF ⟨3, b, t, 0, w⟩ = 0
          · have hx : recC rs ⟨3, b, t, 0, w⟩ = .ok ⟨3, b, t, 0, w⟩ := by unfold recC; rw [if_neg hN, if_pos hq]
            rw [hx] at hg
            simp only [eN, Rec.row] at hg
            subst hg
            rw [hq] at fq
            have f6 := must0
            refine awpX_of _ _ _ ?_
            have hc := Nat.zero_add 0
            repeat' (first | simp only [hc, AS, Tryz.f58, mkWrong, NX, NP, SX, RetsW_ret, RetsW_normal, RetsW_pan, gloWordsN, i0, i1, i2, i3, f0, f1, f2, k1, k2, k3, k4, bN, fq, f6, ZZ, simprocAttr, ↓reduceIte] | ((first | apply Za | apply Zb | apply Zc | apply Zd | apply Ze | apply Zf | apply Zg | apply Zh) <;> intro hc) | refine Zi ?_ | refine Zj ?_)
            all_goals exact ⟨⟨[], _⟩, Wk.cutk (k := 6) (Nat.le_refl _) (Nat.le_of_ble_eq_true rfl) rfl (by rw [subT_nil]; trivial) rfl rfl, _, rfl, rfl⟩
          have hx : recC rs ⟨3, b, t, 0, w⟩ = .error (rightF ⟨3, b, t, 0, w⟩) := by unfold recC; rw [if_neg hN, if_neg hq]
          rw [hx] at hg
          simp only [eP] at hg
          subst hg
          have f6 := must1 hq
          generalize rightF ⟨3, b, t, 0, w⟩ = qq at *
          refine awpX_of _ _ _ ?_
          have hc := Nat.zero_add 0
          repeat' (first | simp only [hc, AS, Tryz.f58, mkWrong, NX, NP, SX, RetsW_ret, RetsW_normal, RetsW_pan, gloWordsN, i0, i1, i2, i3, f0, f1, f2, k1, k2, k3, k4, bN, fq, f6, ZZ, simprocAttr, ↓reduceIte] | ((first | apply Za | apply Zb | apply Zc | apply Zd | apply Ze | apply Zf | apply Zg | apply Zh) <;> intro hc) | refine Zi ?_ | refine Zj ?_)
          all_goals exact ⟨_, _, _, _, rfl, (Wk.tops (id := 1) rfl (by rw [subT_nil]; trivial) rfl rfl).trans (Wk.cutk (k := 6) (Nat.le_refl _) (Nat.le_of_ble_eq_true rfl) rfl (by rw [subT_nil]; trivial) rfl rfl), rfl⟩
      simp only [if_neg hk] at hg
      by_cases hp : (parseF d).2 = 0
      · simp only [if_pos hp] at hg
        have f2 := amtN_ok hd hp
        generalize (parseF d).1 = am at *
        by_cases hN : 1024 ≤ rs.length
        · have hx : recC rs ⟨kd, b, t, am, 0⟩ = .error 3 := if_pos hN
          rw [hx] at hg
          simp only [eP] at hg
          subst hg
          have bN : ((1024 : Int) ≤ (rs.length : Int)) = True := eq_true (by omega)
          refine awpX_of _ _ _ ?_
          have hc := Nat.zero_add 0
          repeat' (first | simp only [hc, AS, Tryz.f58, mkWrong, NX, NP, SX, RetsW_ret, RetsW_normal, RetsW_pan, gloWordsN, i0, i1, i2, i3, f0, f1, f2, hk, k1, k2, k3, k4, bN, ZZ, simprocAttr, ↓reduceIte] | ((first | apply Za | apply Zb | apply Zc | apply Zd | apply Ze | apply Zf | apply Zg | apply Zh) <;> intro hc) | refine Zi ?_ | refine Zj ?_)
          all_goals exact ⟨_, _, _, _, rfl, (Wk.tops (id := 1) rfl (by rw [subT_nil]; trivial) rfl rfl).trans (Wk.cutk (k := 6) (Nat.le_refl _) (Nat.le_of_ble_eq_true rfl) rfl (by rw [subT_nil]; trivial) rfl rfl), rfl⟩
        have bN : ((1024 : Int) ≤ (rs.length : Int)) = False := eq_false (by omega)
        have hN : ¬ 1024 ≤ rs.length := hN
        have fq := fr' (kd) (t) (am) (0)
        by_cases hq : rightF ⟨kd, b, t, am, 0⟩ = 0
        · have hx : recC rs ⟨kd, b, t, am, 0⟩ = .ok ⟨kd, b, t, am, 0⟩ := by unfold recC; rw [if_neg hN, if_pos hq]
          rw [hx] at hg
          simp only [eN, Rec.row] at hg
          subst hg
          rw [hq] at fq
          have f6 := must0
          refine awpX_of _ _ _ ?_
          have hc := Nat.zero_add 0
          repeat' (first | simp only [hc, AS, Tryz.f58, mkWrong, NX, NP, SX, RetsW_ret, RetsW_normal, RetsW_pan, gloWordsN, i0, i1, i2, i3, f0, f1, f2, hk, k1, k2, k3, k4, bN, fq, f6, ZZ, simprocAttr, ↓reduceIte] | ((first | apply Za | apply Zb | apply Zc | apply Zd | apply Ze | apply Zf | apply Zg | apply Zh) <;> intro hc) | refine Zi ?_ | refine Zj ?_)
          all_goals exact ⟨⟨[], _⟩, Wk.cutk (k := 6) (Nat.le_refl _) (Nat.le_of_ble_eq_true rfl) rfl (by rw [subT_nil]; trivial) rfl rfl, _, rfl, rfl⟩
        have hx : recC rs ⟨kd, b, t, am, 0⟩ = .error (rightF ⟨kd, b, t, am, 0⟩) := by unfold recC; rw [if_neg hN, if_neg hq]
        rw [hx] at hg
        simp only [eP] at hg
        subst hg
        have f6 := must1 hq
        generalize rightF ⟨kd, b, t, am, 0⟩ = qq at *
        refine awpX_of _ _ _ ?_
        have hc := Nat.zero_add 0
        repeat' (first | simp only [hc, AS, Tryz.f58, mkWrong, NX, NP, SX, RetsW_ret, RetsW_normal, RetsW_pan, gloWordsN, i0, i1, i2, i3, f0, f1, f2, hk, k1, k2, k3, k4, bN, fq, f6, ZZ, simprocAttr, ↓reduceIte] | ((first | apply Za | apply Zb | apply Zc | apply Zd | apply Ze | apply Zf | apply Zg | apply Zh) <;> intro hc) | refine Zi ?_ | refine Zj ?_)
        all_goals exact ⟨_, _, _, _, rfl, (Wk.tops (id := 1) rfl (by rw [subT_nil]; trivial) rfl rfl).trans (Wk.cutk (k := 6) (Nat.le_refl _) (Nat.le_of_ble_eq_true rfl) rfl (by rw [subT_nil]; trivial) rfl rfl), rfl⟩
      simp only [if_neg hp] at hg
      simp only [eP] at hg
      subst hg
      have f2 := amtN_bad hd hp
      generalize (parseF d).2 = am at *
      refine awpX_of _ _ _ ?_
      have hc := Nat.zero_add 0
      repeat' (first | simp only [hc, AS, Tryz.f58, NX, NP, SX, RetsW_ret, RetsW_normal, RetsW_pan, gloWordsN, i0, i1, i2, i3, f0, f1, f2, hk, ZZ, simprocAttr, ↓reduceIte] | ((first | apply Za | apply Zb | apply Zc | apply Zd | apply Ze | apply Zf | apply Zg | apply Zh) <;> intro hc) | refine Zi ?_ | refine Zj ?_)
      all_goals exact ⟨_, _, _, _, rfl, (Wk.tops (id := 1) rfl (by rw [subT_nil]; trivial) rfl rfl).trans (Wk.cutk (k := 6) (Nat.le_refl _) (Nat.le_of_ble_eq_true rfl) rfl (by rw [subT_nil]; trivial) rfl rfl), rfl⟩
  cases hg
end
end Go.Ab
namespace Go.Ab
open Go.RowKit Go.Proofs
noncomputable section
open Classical
theorem words_tail {tab : Tab} {kt : KTab} {nt : NTab} {B : Option (TypeId × TypeId)} : (ctxN Tryz.prog Gt tab kt nt B).sliceA 71 (.v (.c (.d (.sl true (wordsL.map fun s => [.str s]))))) (some 1) none none = some (.sl true ((wordsL.drop 1).map rowS)) := by
  have hu : Tryz.prog.underlying 71 = some (.slice 9) := by kernel_rfl
  have hz : (ctxN Tryz.prog Gt tab kt nt B).size 9 = some 1 := by kernel_rfl
  unfold Ctx.sliceA
  rw [show (ctxN Tryz.prog Gt tab kt nt B).P = Tryz.prog from rfl, hu]
  simp only [Option.bind_some, C1.elems, hz]
  rw [if_pos]
  · simp [fullOf, wordsL, rowS]
  simp [allLen, wordsL]
theorem rdR_inj {x y : Rdr} {f f2 : Bool} {l l2 : List (List UInt8)} {e e2 : Int} (h : rdR (y, f2, l2, e2) [.v (.c (.ptr 1 0)), AV.d (.sl f (l.map rowS))] (hpR x (eB e))) : (y, f2, l2, e2) = (x, f, l, e) := by
  obtain ⟨h1, h2⟩ := h
  simp only [List.cons.injEq, AV.v.injEq, V.c.injEq, C1.d.injEq, D.sl.injEq, and_true, true_and] at h1
  obtain ⟨h3, h4⟩ := hpR_inj h2
  have hl : l2 = l := map_inj (f := rowS) (fun a b h => by simpa [rowS] using h) h1.2.symm
  dsimp only at h3 h4
  rw [← h3, ← h4, hl, h1.1]
theorem afirst_at {x : Rdr} {f : Bool} {l : List (List UInt8)} {e : Int} (hx : x.rs = []) (hl : linOk l) : afirst_k [.v (.c (.ptr 1 0)), AV.d (.sl f (l.map rowS))] (hpR x (eB e)) =
    some (match firE l with | .error k => panW k (hpP x (eB e)) | .ok (b, c, n) => .ret (.tup []) (hpR { x with fr := b, dst := c, seq := n, beg := true } (eB e))) := by
  rw [afirst_k, kR_eq (a := (x, f, l, e)) (fun b hb => by obtain ⟨y, f2, l2, e2⟩ := b; rw [rdR_inj hb]) ⟨rfl, rfl⟩, if_pos ⟨hx, hl⟩]
  all_goals rfl
theorem alast_at {x : Rdr} {f : Bool} {l : List (List UInt8)} {e : Int} (hx : x.rs.length ≤ 1024) (h3 : l.length = 3) (hl : linOk l) : alast_k [.v (.c (.ptr 1 0)), AV.d (.sl f (l.map rowS))] (hpR x (eB e)) =
    some (match lasE x l with | .error k => panW k (hpP x (eB e)) | .ok _ => .ret (.tup []) (hpR { x with fin := true } (eB e))) := by
  rw [alast_k, kR_eq (a := (x, f, l, e)) (fun b hb => by obtain ⟨y, f2, l2, e2⟩ := b; rw [rdR_inj hb]) ⟨rfl, rfl⟩, if_pos ⟨hx, h3, hl⟩]
  all_goals rfl
theorem arec_at {x : Rdr} {f : Bool} {l : List (List UInt8)} {e : Int} (hx : x.rs.length ≤ 1024) (h4 : l.length = 4) (hl : linOk l) : arec_k [.v (.c (.ptr 1 0)), AV.d (.sl f (l.map rowS))] (hpR x (eB e)) =
    some (match recE x.rs l with | .error k => panW k (hpP x (eB e)) | .ok r => .ret (.tup []) (hpN x r e)) := by
  rw [arec_k, kR_eq (a := (x, f, l, e)) (fun b hb => by obtain ⟨y, f2, l2, e2⟩ := b; rw [rdR_inj hb]) ⟨rfl, rfl⟩, if_pos ⟨hx, h4, hl⟩]
  all_goals rfl
abbrev clF : FuncId := 52
theorem zv85 {tab : Tab} {kt : KTab} {nt : NTab} {B : Option (TypeId × TypeId)} : (ctxN Tryz.prog Gt tab kt nt B).zeroV 103 = some (.agg [.d (.int .i64 0)]) := by kernel_rfl
theorem cl_idle (e : Nat) (h : Hp) : DOk Tryz.prog Gt clF (capsA [(e, 0)]) h none h := by
  refine dok_of_awp (X := ctxN Tryz.prog Gt [] [] [] none) Tryz.func52 rfl rfl rfl rfl rfl rfl rfl rfl rfl rfl (Nat.le_of_ble_eq_true rfl) (Nat.le_of_ble_eq_true rfl) (by kernel_rfl) (by kernel_rfl) (kok_n AllOk.nil AllK.nil AllN.nil) (Nat.le_of_ble_eq_true rfl) ?_
  simp only [recV, capsA, List.map_cons, List.map_nil]
  have hc := Nat.zero_add 0
  repeat' (first | simp only [hc, AS, NX, NP, NW, SX, ZZ, simprocAttr, ↓reduceIte] | ((first | apply Za | apply Zb | apply Zc | apply Zd | apply Ze | apply Zf | apply Zg | apply Zh) <;> intro hc) | refine Zi ?_ | refine Zj ?_)
  all_goals simp
theorem cl_pan (e : Nat) (h : Hp) {e0 k : Int} (he : h[e]? = some (.box [.d (.int .i64 e0)])) : DOk Tryz.prog Gt clF (capsA [(e, 0)]) h (some (.ifc 103 [.int .i64 k] true)) (h.set e (.box [.d (.int .i64 k)]) ++ [.box [.d (.int .i64 k)]]) := by
  have hel := lt_of_get he
  have g1 : ∀ g : Hp, (h ++ g)[e]? = some (.box [.d (.int .i64 e0)]) := fun g => by rw [List.getElem?_append_left hel]; exact he
  have g2 : ∀ (g : Hp) (o : Ob), (h ++ g).set e o = h.set e o ++ g := fun g o => by rw [List.set_append, if_pos hel]
  refine dok_of_awp (X := ctxN Tryz.prog Gt [] [] [] none) Tryz.func52 rfl rfl rfl rfl rfl rfl rfl rfl rfl rfl (Nat.le_of_ble_eq_true rfl) (Nat.le_of_ble_eq_true rfl) (by kernel_rfl) (by kernel_rfl) (kok_n AllOk.nil AllK.nil AllN.nil) (Nat.le_of_ble_eq_true rfl) ?_
  simp only [recV, capsA, List.map_cons, List.map_nil]
  have hc := Nat.zero_add 0
  repeat' (first | simp only [hc, AS, NX, NP, NW, SX, zv85, g1, g2, hp_get0, hp_set0, ZZ, simprocAttr, ↓reduceIte] | ((first | apply Za | apply Zb | apply Zc | apply Zd | apply Ze | apply Zf | apply Zg | apply Zh) <;> intro hc) | refine Zi ?_ | refine Zj ?_)
  all_goals simp
end
end Go.Ab
