/-
  Texts of the layer and of the laws, put together: AbA17, AbA18.
-/
import Derived.Test.YtbcklcmhmbfgnaaGreatDoorAbF31
set_option linter.unusedSimpArgs false
set_option linter.unusedVariables false
set_option maxRecDepth 100000
namespace Go.Ab
open Go.RowKit Go.Proofs
def zFil : Fil := ⟨[], [], 0, true, []⟩
def rd0 : Rdr := ⟨[], [], 0, [], false, false⟩
def prs : Nat → Rdr → Int → List UInt8 → Fil × Int × Int
  | 0, _, n, _ => (zFil, n, 7)
  | k + 1, x, n, s => if s = [] then (if x.fin = true then (x.fil, 0, 0) else (zFil, n + 1, 7))
    else if (Lib.cut s [10]).2.2 = false then (zFil, n + 1, 7)
    else match lineE x (Lib.cut s [10]).1 with
      | .error e => (zFil, n + 1, e)
      | .ok x' => prs k x' (n + 1) (Lib.cut s [10]).2.1
def parseO (s : List UInt8) : Fil × Int × Int := if 65536 < s.length then (zFil, 0, 4) else prs (s.length + 1) rd0 0 s
def Rdr.Ok (x : Rdr) : Prop := x.rs.length ≤ 1024 ∧ (x.beg = false → x.rs = [])
theorem cut_len {s : List UInt8} (hs : s ≠ []) (h : (Lib.cut s [10]).2.2 = true) : (Lib.cut s [10]).2.1.length < s.length := by
  have := List.length_pos_iff.2 hs
  unfold Lib.cut at h ⊢
  split
  · simp only [List.length_drop, List.length_singleton]
    omega
  rename_i hn
  rw [if_neg hn] at h
  cases h
theorem recE_len {rs : List Rec} {l : List (List UInt8)} {r : Rec} (h : recE rs l = .ok r) : rs.length < 1024 ∧ rightF r = 0 := by
  have hC : ∀ x, recC rs x = .ok r → rs.length < 1024 ∧ rightF r = 0 := fun x hx => by
    unfold recC at hx
    split at hx
    · cases hx
    split at hx
    · cases hx
      rename_i h1 h2
      exact ⟨by omega, h2⟩
    cases hx
  unfold recE at h
  split at h
  · split at h
    · cases h
    split at h
    · split at h
      · cases h
      exact hC _ h
    split at h
    · exact hC _ h
    cases h
  cases h
theorem lineE_ok {x x' : Rdr} {s : List UInt8} (h : lineE x s = .ok x') (hx : x.Ok) : x'.Ok := by
  obtain ⟨h1, h2⟩ := hx
  unfold lineE at h
  split at h
  · unfold lineL at h
    split at h
    · rename_i hb
      split at h
      · cases h
      cases h
      exact ⟨h1, fun hc => by cases hc⟩
    rename_i hb
    split at h
    · cases h
    split at h
    · split at h
      · cases h
      cases h; exact ⟨h1, h2⟩
    split at h
    · split at h
      · cases h
      rename_i r hr
      cases h
      have := (recE_len hr).1
      exact ⟨by simp; omega, fun hc => absurd hc hb⟩
    cases h
  cases h
theorem lineE_err {x : Rdr} {s : List UInt8} {e : Int} (h : lineE x s = .error e) : e ≠ 0 := by
  have hF : ∀ l, firE l = .error e → e ≠ 0 := fun l hf => by
    unfold firE at hf
    split at hf
    · split at hf
      · split at hf
        · cases hf; decide
        split at hf
        · cases hf
        rename_i hh
        cases hf
        exact hh
      cases hf; decide
    cases hf; decide
  have hL : ∀ l, lasE x l = .error e → e ≠ 0 := fun l hf => by
    unfold lasE at hf
    split at hf
    · split at hf
      · cases hf; decide
      split at hf
      · split at hf
        · split at hf
          · cases hf
          cases hf; decide
        rename_i hh
        cases hf
        exact hh
      rename_i hh
      cases hf
      exact hh
    cases hf; decide
  have hC : ∀ rs r, recC rs r = .error e → e ≠ 0 := fun rs r hf => by
    unfold recC at hf
    split at hf
    · cases hf; decide
    split at hf
    · cases hf
    rename_i hh
    cases hf
    exact hh
  have hR : ∀ l, recE x.rs l = .error e → e ≠ 0 := fun l hf => by
    unfold recE at hf
    split at hf
    · split at hf
      · cases hf; decide
      split at hf
      · split at hf
        · cases hf; decide
        exact hC _ _ hf
      split at hf
      · exact hC _ _ hf
      rename_i hh
      cases hf
      exact hh
    cases hf; decide
  unfold lineE at h
  split at h
  · unfold lineL at h
    split at h
    · split at h
      · rename_i hf
        cases h
        exact hF _ hf
      cases h
    split at h
    · cases h; decide
    split at h
    · split at h
      · rename_i hf
        cases h
        exact hL _ hf
      cases h
    split at h
    · split at h
      · rename_i hf
        cases h
        exact hR _ hf
      cases h
    cases h; decide
  rename_i hh
  cases h
  exact hh
theorem hpQ_wk {x x' : Rdr} {t t' : List (Nat × AV)} (hs : subT t t') (hl : (t'.all fun p => p.2.low 2) = true) (hl5 : (t'.all fun p => p.2.low 5) = true) : Wk 2 ⟨t, hpQ x x'⟩ ⟨t', hpR x' []⟩ := by
  unfold hpQ
  split
  · rename_i h
    rw [hpR, if_neg h.2]
    exact Wk.tops (id := 2) rfl hs rfl rfl
  unfold hpR
  split
  · exact Wk.cutk (k := 2) (Nat.le_refl _) (Nat.le_of_ble_eq_true rfl) rfl hs hl rfl
  exact Wk.cutk (k := 5) (by omega) (Nat.le_of_ble_eq_true rfl) rfl hs hl5 rfl
theorem hpP_head (x : Rdr) (g : Hp) : ∃ T, hpP x g = .box zF :: T := by
  unfold hpP
  split <;> exact ⟨_, rfl⟩
noncomputable section
open Classical
theorem lnR_inj {x y : Rdr} {s s2 : List UInt8} (h : lnR (y, s2) [.v (.c (.ptr 1 0)), AV.s s] (hpR x [])) : (y, s2) = (x, s) := by
  obtain ⟨h1, h2⟩ := h
  simp only [List.cons.injEq, AV.v.injEq, V.c.injEq, C1.d.injEq, D.str.injEq, and_true, true_and] at h1
  dsimp only at h2
  have h3 : hpR x (eB 0) = hpR y (eB 0) := by
    have hcat : ∀ z : Rdr, hpR z (eB 0) = hpR z [] ++ eB 0 := fun z => by
      unfold hpR
      split <;> rfl
    rw [hcat, hcat, h2]
  rw [(hpR_inj h3).1, h1]
theorem aread_at {x : Rdr} {s : List UInt8} (hx : x.Ok) : aread_k [.v (.c (.ptr 1 0)), AV.s s] (hpR x []) =
    some (match lineE x s with | .error k => .ret (.v (.c (.d (.int .i64 k)))) (hpP x (eB k)) | .ok x' => .ret (.v (.c (.d (.int .i64 0)))) (hpQ x x')) := by
  rw [aread_k, kR_eq (a := (x, s)) (fun b hb => by obtain ⟨y, s2⟩ := b; rw [lnR_inj hb]) ⟨rfl, rfl⟩, if_pos (show _ ∧ _ from hx)]
  all_goals rfl
def aparse_m : List PA → Option (List PA) := ms fun s => if decide (s.length ≤ 4294967280) = true then some [.agg (parseO s).1.row, .i (parseO s).2.1, .i (parseO s).2.2] else none
theorem aparse_ok : PureC Tryz.prog Gt 10 aparse_m := by
  refine pure_of_awpS (X := ctxN Tryz.prog Gt [(31, scut_m)] [(32, aread_k)] [] none) Tryz.func10 rfl rfl (by kernel_rfl) (by kernel_rfl) (kok_n (AllOk.cons scut_ok AllOk.nil) (AllK.cons aread_kok AllK.nil) AllN.nil) ?_
  intro args r h0
  obtain ⟨s, rfl, h⟩ := ms_inv h0
  refine ⟨Nat.le_of_ble_eq_true rfl, ?_⟩
  split at h
  · rename_i hlen
    have hlen := of_decide_eq_true hlen
    cases h
    have hP : parseO s = if 65536 < s.length then (zFil, 0, 4) else prs (s.length + 1) rd0 0 s := rfl
    generalize parseO s = R at *
    by_cases hbig : 65536 < s.length
    · have b1 : ((65536 : Int) < (s.length : Int)) = True := eq_true (by omega)
      rw [if_pos hbig] at hP
      subst hP
      have hc := Nat.zero_add 0
      repeat' (first | simp only [hc, AS, Tryz.f10, NX, SX, b1, ZZ, simprocAttr, ↓reduceIte] | ((first | apply Za | apply Zb | apply Zc | apply Zd | apply Ze | apply Zf | apply Zg | apply Zh) <;> intro hc) | refine Zi ?_ | refine Zj ?_)
      all_goals rfl
    have b1 : ((65536 : Int) < (s.length : Int)) = False := eq_false (by omega)
    rw [if_neg hbig] at hP
    have hc := Nat.zero_add 0
    repeat' (first | simp only [hc, AS, Tryz.f10, NX, SX, b1, ZZ, simprocAttr, ↓reduceIte] | ((first | apply Za | apply Zb | apply Zc | apply Zd | apply Ze | apply Zf | apply Zg | apply Zh) <;> intro hc) | refine Zi ?_ | refine Zj ?_)
    refine awpS_loop (σ := Nat × Rdr × Nat × List UInt8) (fun a => a.2.1.Ok ∧ a.2.2.2.length < a.1 ∧ a.2.2.1 + a.2.2.2.length ≤ 65536 ∧ R = prs a.1 a.2.1 a.2.2.1 a.2.2.2) (fun a => ⟨[(0, AV.s a.2.2.2), (5, .v (.c (.ptr 1 0))), (6, AV.i a.2.2.1), (2, .v (.c (.ptr 0 0))), (3, AV.i 0), (4, AV.i 0)], hpR a.2.1 []⟩) (fun a => a.2.2.2.length) (s.length + 1, rd0, 0, s) (Wk.sub' (by simp [subT, look]) rfl) ⟨⟨Nat.zero_le _, fun _ => rfl⟩, by simp only []; omega, by simp only []; omega, hP⟩ ?_
    rintro ⟨k, x, n, q⟩ ⟨hx, hk, hn, hR⟩
    dsimp only at hx hk hn hR ⊢
    obtain ⟨k, rfl⟩ : ∃ k', k = k' + 1 := ⟨k - 1, by omega⟩
    by_cases hq : q = []
    · subst hq
      have c0 : (([] : List UInt8) == []) = true := rfl
      have hR : R = if x.fin = true then (x.fil, 0, 0) else (zFil, (n : Int) + 1, 7) := hR
      have w1 := wI (n := (n : Int) + 1) (by omega) (by omega)
      obtain ⟨fr, dst, seq, rs, beg, fin⟩ := x
      dsimp only at hR
      by_cases hr0 : rs = []
      · subst hr0
        rw [show hpR ⟨fr, dst, seq, [], beg, fin⟩ [] = [.box zF, .box [.d (.str fr), .d (.str dst), .d (.int .i64 seq), .d (.sl true []), .d (.bool beg), .d (.bool fin)]] from rfl]
        cases fin with
        | true =>
          rw [if_pos rfl] at hR
          subst hR
          have hc := Nat.zero_add 0
          repeat' (first | simp only [hc, AS, NX, SX, c0, w1, ZZ, simprocAttr, ↓reduceIte] | ((first | apply Za | apply Zb | apply Zc | apply Zd | apply Ze | apply Zf | apply Zg | apply Zh) <;> intro hc) | refine Zi ?_ | refine Zj ?_)
          all_goals rfl
        | false =>
          rw [if_neg (by simp)] at hR
          subst hR
          have hc := Nat.zero_add 0
          repeat' (first | simp only [hc, AS, NX, SX, c0, w1, ZZ, simprocAttr, ↓reduceIte] | ((first | apply Za | apply Zb | apply Zc | apply Zd | apply Ze | apply Zf | apply Zg | apply Zh) <;> intro hc) | refine Zi ?_ | refine Zj ?_)
          all_goals rfl
      rw [show hpR ⟨fr, dst, seq, rs, beg, fin⟩ [] = [.box zF, .box [.d (.str fr), .d (.str dst), .d (.int .i64 seq), .own 4 (rs.map Rec.row), .d (.bool beg), .d (.bool fin)], .box [.top], .box [.top, .top, .top, .top, .top], .tok rs.length 5 none] by rw [hpR, if_neg hr0]; rfl]
      cases fin with
      | true =>
        rw [if_pos rfl, Rdr.fil, decide_eq_false hr0] at hR
        subst hR
        have hc := Nat.zero_add 0
        repeat' (first | simp only [hc, AS, NX, SX, c0, w1, ZZ, simprocAttr, ↓reduceIte] | ((first | apply Za | apply Zb | apply Zc | apply Zd | apply Ze | apply Zf | apply Zg | apply Zh) <;> intro hc) | refine Zi ?_ | refine Zj ?_)
        all_goals rfl
      | false =>
        rw [if_neg (by simp)] at hR
        subst hR
        have hc := Nat.zero_add 0
        repeat' (first | simp only [hc, AS, NX, SX, c0, w1, ZZ, simprocAttr, ↓reduceIte] | ((first | apply Za | apply Zb | apply Zc | apply Zd | apply Ze | apply Zf | apply Zg | apply Zh) <;> intro hc) | refine Zi ?_ | refine Zj ?_)
        all_goals rfl
    have c0 : (q == []) = false := by simp [hq]
    have w1 := wI (n := (n : Int) + 1) (by omega) (by omega)
    have f1 := scut_at (a := q) (b := [10]) (by omega)
    have hR : R = if (Lib.cut q [10]).2.2 = false then (zFil, (n : Int) + 1, 7) else match lineE x (Lib.cut q [10]).1 with
      | .error e => (zFil, (n : Int) + 1, e)
      | .ok x' => prs k x' ((n : Int) + 1) (Lib.cut q [10]).2.1 := by rw [hR]; exact if_neg hq
    have hcl := cut_len hq
    generalize Lib.cut q [10] = c at *
    obtain ⟨ln, rest, wh⟩ := c
    dsimp only at f1 hR hcl
    cases wh with
    | false =>
      rw [if_pos rfl] at hR
      subst hR
      obtain ⟨T, hT⟩ : ∃ T, hpR x [] = .box zF :: T := by
        unfold hpR
        split <;> exact ⟨_, rfl⟩
      rw [hT]
      have hc := Nat.zero_add 0
      repeat' (first | simp only [hc, AS, NX, SX, c0, w1, f1, ZZ, simprocAttr, ↓reduceIte] | ((first | apply Za | apply Zb | apply Zc | apply Zd | apply Ze | apply Zf | apply Zg | apply Zh) <;> intro hc) | refine Zi ?_ | refine Zj ?_)
      all_goals rfl
    | true =>
      rw [if_neg (by simp)] at hR
      have hcl := hcl rfl
      have f2 := aread_at (s := ln) hx
      have hxo := fun x' h => @lineE_ok x x' ln h hx
      cases hl : lineE x ln with
      | error e =>
        rw [hl] at hR f2
        dsimp only at hR f2
        subst hR
        obtain ⟨T, hT⟩ := hpP_head x (eB e)
        rw [hT] at f2
        have he := lineE_err hl
        have hc := Nat.zero_add 0
        repeat' (first | simp only [hc, AS, NX, SX, c0, w1, f1, f2, he, ZZ, simprocAttr, ↓reduceIte] | ((first | apply Za | apply Zb | apply Zc | apply Zd | apply Ze | apply Zf | apply Zg | apply Zh) <;> intro hc) | refine Zi ?_ | refine Zj ?_)
        all_goals rfl
      | ok x' =>
        rw [hl] at hR f2
        dsimp only at hR f2
        have hx' := hxo x' hl
        have hc := Nat.zero_add 0
        repeat' (first | simp only [hc, AS, NX, SX, c0, w1, f1, f2, ZZ, simprocAttr, ↓reduceIte] | ((first | apply Za | apply Zb | apply Zc | apply Zd | apply Ze | apply Zf | apply Zg | apply Zh) <;> intro hc) | refine Zi ?_ | refine Zj ?_)
        exact lp_next (k, x', n + 1, rest) (hpQ_wk (by simp [subT, look]) rfl rfl) ⟨hx', by simp only []; omega, by simp only []; omega, by simpa using hR⟩ hcl
  cases h
end
end Go.Ab
namespace Go.Ab
open Go.RowKit Go.Proofs
noncomputable section
open Classical
theorem aparse_at {s : List UInt8} (h : s.length ≤ 4294967280) : aparse_m [.c (.str s)] = some [.agg (parseO s).1.row, .i (parseO s).2.1, .i (parseO s).2.2] := by
  rw [aparse_m, ms_eq, if_pos (decide_eq_true h)]
end
end Go.Ab
