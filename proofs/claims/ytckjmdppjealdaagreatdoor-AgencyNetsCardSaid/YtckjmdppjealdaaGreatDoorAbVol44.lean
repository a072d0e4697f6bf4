/-
  Texts of the layer and of the laws, put together: AbA17, AbA18, AbA43. No law is stated here.
-/
import Derived.Test.YtckjmdppjealdaaGreatDoorAbVol43
import Derived.Test.YtckjmdppjealdaaGreatDoorAbVol38
set_option linter.unusedSimpArgs false
set_option linter.unusedVariables false
set_option maxRecDepth 100000

/-
  Agencies' files: Parse.
-/
namespace Go.Ab
open Go.RowKit Go.Proofs

def zFil : Fil := ⟨[], [], 0, true, []⟩
def rd0 : Rdr := ⟨[], [], 0, [], false, false⟩
def prs : Nat → Rdr → Int → List UInt8 → Fil × Int × Int
  | 0, _, n, _ => (zFil, n, 7)
  | k + 1, x, n, s => if s = [] then (if x.fin = true then (x.fil, 0, 0) else (zFil, n + 1, 7))
    else if (Lib.cut s [10]).2.2 = false then (zFil, n + 1, 7)
    else match lineE x (Lib.cut s [10]).1 with
      | .error e => (zFil, n + 1, e)
      | .ok x' => prs k x' (n + 1) (Lib.cut s [10]).2.1
def parseO (s : List UInt8) : Fil × Int × Int := if 65536 < s.length then (zFil, 0, 4) else prs (s.length + 1) rd0 0 s
def Rdr.Ok (x : Rdr) : Prop := x.rs.length ≤ 1024 ∧ (x.beg = false → x.rs = [])
theorem cut_len {s : List UInt8} (hs : s ≠ []) (h : (Lib.cut s [10]).2.2 = true) : (Lib.cut s [10]).2.1.length < s.length := by
  have := List.length_pos_iff.2 hs
  unfold Lib.cut at h ⊢
  split
  · simp only [List.length_drop, List.length_singleton]
    omega
  · rename_i hn
    rw [if_neg hn] at h
    cases h
theorem recE_len {rs : List Rec} {l : List (List UInt8)} {r : Rec} (h : recE rs l = .ok r) : rs.length < 1024 ∧ rightF r = 0 := by
  have hC : ∀ x, recC rs x = .ok r → rs.length < 1024 ∧ rightF r = 0 := fun x hx => by
    unfold recC at hx
    split at hx
    · cases hx
    · split at hx
      · cases hx
        rename_i h1 h2
        exact ⟨by omega, h2⟩
      · cases hx
  unfold recE at h
  split at h
  · split at h
    · cases h
    · split at h
      · split at h
        · cases h
        · exact hC _ h
      · split at h
        · exact hC _ h
        · cases h
  · cases h
theorem lineE_ok {x x' : Rdr} {s : List UInt8} (h : lineE x s = .ok x') (hx : x.Ok) : x'.Ok := by
  obtain ⟨h1, h2⟩ := hx
  unfold lineE at h
  split at h
  · unfold lineL at h
    split at h
    · rename_i hb
      split at h
      · cases h
      · cases h
        exact ⟨h1, fun hc => by cases hc⟩
    · rename_i hb
      split at h
      · cases h
      · split at h
        · split at h
          · cases h
          · cases h; exact ⟨h1, h2⟩
        · split at h
          · split at h
            · cases h
            · rename_i r hr
              cases h
              have := (recE_len hr).1
              exact ⟨by simp; omega, fun hc => absurd hc hb⟩
          · cases h
  · cases h

theorem lineE_err {x : Rdr} {s : List UInt8} {e : Int} (h : lineE x s = .error e) : e ≠ 0 := by
  have hF : ∀ l, firE l = .error e → e ≠ 0 := fun l hf => by
    unfold firE at hf
    split at hf
    · split at hf
      · split at hf
        · cases hf; decide
        · split at hf
          · cases hf
          · rename_i hh
            cases hf
            exact hh
      · cases hf; decide
    · cases hf; decide
  have hL : ∀ l, lasE x l = .error e → e ≠ 0 := fun l hf => by
    unfold lasE at hf
    split at hf
    · split at hf
      · cases hf; decide
      · split at hf
        · split at hf
          · split at hf
            · cases hf
            · cases hf; decide
          · rename_i hh
            cases hf
            exact hh
        · rename_i hh
          cases hf
          exact hh
    · cases hf; decide
  have hC : ∀ rs r, recC rs r = .error e → e ≠ 0 := fun rs r hf => by
    unfold recC at hf
    split at hf
    · cases hf; decide
    · split at hf
      · cases hf
      · rename_i hh
        cases hf
        exact hh
  have hR : ∀ l, recE x.rs l = .error e → e ≠ 0 := fun l hf => by
    unfold recE at hf
    split at hf
    · split at hf
      · cases hf; decide
      · split at hf
        · split at hf
          · cases hf; decide
          · exact hC _ _ hf
        · split at hf
          · exact hC _ _ hf
          · rename_i hh
            cases hf
            exact hh
    · cases hf; decide
  unfold lineE at h
  split at h
  · unfold lineL at h
    split at h
    · split at h
      · rename_i hf
        cases h
        exact hF _ hf
      · cases h
    · split at h
      · cases h; decide
      · split at h
        · split at h
          · rename_i hf
            cases h
            exact hL _ hf
          · cases h
        · split at h
          · split at h
            · rename_i hf
              cases h
              exact hR _ hf
            · cases h
          · cases h; decide
  · rename_i hh
    cases h
    exact hh

theorem hpQ_wk {x x' : Rdr} {t t' : List (Nat × AV)} (hs : subT t t') (hl : (t'.all fun p => p.2.low 2) = true) (hl5 : (t'.all fun p => p.2.low 5) = true) : Wk 2 ⟨t, hpQ x x'⟩ ⟨t', hpR x' []⟩ := by
  unfold hpQ
  split
  · rename_i h
    rw [hpR, if_neg h.2]
    exact Wk.tops (id := 2) rfl hs rfl rfl
  · unfold hpR
    split
    · exact Wk.cutk (k := 2) (Nat.le_refl _) (Nat.le_of_ble_eq_true rfl) rfl hs hl rfl
    · exact Wk.cutk (k := 5) (by omega) (Nat.le_of_ble_eq_true rfl) rfl hs hl5 rfl
theorem hpP_head (x : Rdr) (g : Hp) : ∃ T, hpP x g = .box zF :: T := by
  unfold hpP
  split <;> exact ⟨_, rfl⟩

noncomputable section
open Classical

theorem lnR_inj {x y : Rdr} {s s2 : List UInt8} (h : lnR (y, s2) [.v (.c (.ptr 1 0)), AV.s s] (hpR x [])) : (y, s2) = (x, s) := by
  obtain ⟨h1, h2⟩ := h
  simp only [List.cons.injEq, AV.v.injEq, V.c.injEq, C1.d.injEq, D.str.injEq, and_true, true_and] at h1
  dsimp only at h2
  have h3 : hpR x (eB 0) = hpR y (eB 0) := by
    have hcat : ∀ z : Rdr, hpR z (eB 0) = hpR z [] ++ eB 0 := fun z => by
      unfold hpR
      split <;> rfl
    rw [hcat, hcat, h2]
  rw [(hpR_inj h3).1, h1]
theorem aread_at {x : Rdr} {s : List UInt8} (hx : x.Ok) : aread_k [.v (.c (.ptr 1 0)), AV.s s] (hpR x []) =
    some (match lineE x s with | .error k => .ret (.v (.c (.d (.int .i64 k)))) (hpP x (eB k)) | .ok x' => .ret (.v (.c (.d (.int .i64 0)))) (hpQ x x')) := by
  rw [aread_k, kR_eq (a := (x, s)) (fun b hb => by obtain ⟨y, s2⟩ := b; rw [lnR_inj hb]) ⟨rfl, rfl⟩, if_pos (show _ ∧ _ from hx)]
  all_goals rfl

def aparse_m : List PA → Option (List PA) := ms fun s => if decide (s.length ≤ 4294967280) = true then some [.agg (parseO s).1.row, .i (parseO s).2.1, .i (parseO s).2.2] else none

theorem str_ne {a b : List UInt8} : (!(a == b)) = decide (a ≠ b) := by
  by_cases h : a = b <;> simp [h]

theorem aparse_ok : PureC Tryz.prog Gt 50 aparse_m := by
  refine pure_of_awpS (X := ctxN Tryz.prog Gt [(89, scut_m)] [(90, aread_k)] [] none) Tryz.func50 rfl rfl (by kernel_rfl) (by kernel_rfl) (kok_n (AllOk.cons scut_ok AllOk.nil) (AllK.cons aread_kok AllK.nil) AllN.nil) ?_
  intro args r h0
  obtain ⟨s, rfl, h⟩ := ms_inv h0
  refine ⟨Nat.le_of_ble_eq_true rfl, ?_⟩
  split at h
  · rename_i hlen
    have hlen := of_decide_eq_true hlen
    cases h
    have hP : parseO s = if 65536 < s.length then (zFil, 0, 4) else prs (s.length + 1) rd0 0 s := rfl
    generalize parseO s = R at *
    by_cases hbig : 65536 < s.length
    · have b1 : ((65536 : Int) < (s.length : Int)) = True := eq_true (by omega)
      rw [if_pos hbig] at hP
      subst hP
      have hc := Nat.zero_add 0
      repeat' (first | simp only [hc, AS, Tryz.f50, NX, SX, b1, AB, PL, RG, LP, TY, simprocAttr, ↓reduceIte, forall_const, eq_self, ne_eq, Option.some.injEq, beq_self_eq_true] | ((first | apply fin_ndec | apply fin_dec | apply cnd_ndec | apply cnd_dec' | apply fin_nsplit | apply fin_split | apply cnd_nsplit | apply cnd_split) <;> intro hc) | refine seqS_id ?_ | refine blk_exit_id ?_)
      all_goals rfl
    have b1 : ((65536 : Int) < (s.length : Int)) = False := eq_false (by omega)
    rw [if_neg hbig] at hP
    have hc := Nat.zero_add 0
    repeat' (first | simp only [hc, AS, Tryz.f50, NX, SX, b1, AB, PL, RG, LP, TY, simprocAttr, ↓reduceIte, forall_const, eq_self, ne_eq, Option.some.injEq, beq_self_eq_true] | ((first | apply fin_ndec | apply fin_dec | apply cnd_ndec | apply cnd_dec' | apply fin_nsplit | apply fin_split | apply cnd_nsplit | apply cnd_split) <;> intro hc) | refine seqS_id ?_ | refine blk_exit_id ?_)
    refine awpS_loop (σ := Nat × Rdr × Nat × List UInt8) (fun a => a.2.1.Ok ∧ a.2.2.2.length < a.1 ∧ a.2.2.1 + a.2.2.2.length ≤ 65536 ∧ R = prs a.1 a.2.1 a.2.2.1 a.2.2.2) (fun a => ⟨[(0, AV.s a.2.2.2), (5, .v (.c (.ptr 1 0))), (6, AV.i a.2.2.1), (2, .v (.c (.ptr 0 0))), (3, AV.i 0), (4, AV.i 0)], hpR a.2.1 []⟩) (fun a => a.2.2.2.length) (s.length + 1, rd0, 0, s) (Wk.sub' (by simp [subT, look]) rfl) ⟨⟨Nat.zero_le _, fun _ => rfl⟩, by simp only []; omega, by simp only []; omega, hP⟩ ?_
    rintro ⟨k, x, n, q⟩ ⟨hx, hk, hn, hR⟩
    dsimp only at hx hk hn hR ⊢
    obtain ⟨k, rfl⟩ : ∃ k', k = k' + 1 := ⟨k - 1, by omega⟩
    by_cases hq : q = []
    · subst hq
      have c0 : (([] : List UInt8) == []) = true := rfl
      have hR : R = if x.fin = true then (x.fil, 0, 0) else (zFil, (n : Int) + 1, 7) := hR
      have w1 := wI (n := (n : Int) + 1) (by omega) (by omega)
      obtain ⟨fr, dst, seq, rs, beg, fin⟩ := x
      dsimp only at hR
      by_cases hr0 : rs = []
      · subst hr0
        rw [show hpR ⟨fr, dst, seq, [], beg, fin⟩ [] = [.box zF, .box [.d (.str fr), .d (.str dst), .d (.int .i64 seq), .d (.sl true []), .d (.bool beg), .d (.bool fin)]] from rfl]
        cases fin with
        | true =>
          rw [if_pos rfl] at hR
          subst hR
          have hc := Nat.zero_add 0
          repeat' (first | simp only [hc, AS, NX, SX, c0, w1, AB, PL, RG, LP, TY, simprocAttr, ↓reduceIte, forall_const, eq_self, ne_eq, Option.some.injEq, beq_self_eq_true] | ((first | apply fin_ndec | apply fin_dec | apply cnd_ndec | apply cnd_dec' | apply fin_nsplit | apply fin_split | apply cnd_nsplit | apply cnd_split) <;> intro hc) | refine seqS_id ?_ | refine blk_exit_id ?_)
          all_goals rfl
        | false =>
          rw [if_neg (by simp)] at hR
          subst hR
          have hc := Nat.zero_add 0
          repeat' (first | simp only [hc, AS, NX, SX, c0, w1, AB, PL, RG, LP, TY, simprocAttr, ↓reduceIte, forall_const, eq_self, ne_eq, Option.some.injEq, beq_self_eq_true] | ((first | apply fin_ndec | apply fin_dec | apply cnd_ndec | apply cnd_dec' | apply fin_nsplit | apply fin_split | apply cnd_nsplit | apply cnd_split) <;> intro hc) | refine seqS_id ?_ | refine blk_exit_id ?_)
          all_goals rfl
      · rw [show hpR ⟨fr, dst, seq, rs, beg, fin⟩ [] = [.box zF, .box [.d (.str fr), .d (.str dst), .d (.int .i64 seq), .own 4 (rs.map Rec.row), .d (.bool beg), .d (.bool fin)], .box [.top], .box [.top, .top, .top, .top, .top], .tok rs.length 5 none] by rw [hpR, if_neg hr0]; rfl]
        cases fin with
        | true =>
          rw [if_pos rfl, Rdr.fil, decide_eq_false hr0] at hR
          subst hR
          have hc := Nat.zero_add 0
          repeat' (first | simp only [hc, AS, NX, SX, c0, w1, AB, PL, RG, LP, TY, simprocAttr, ↓reduceIte, forall_const, eq_self, ne_eq, Option.some.injEq, beq_self_eq_true] | ((first | apply fin_ndec | apply fin_dec | apply cnd_ndec | apply cnd_dec' | apply fin_nsplit | apply fin_split | apply cnd_nsplit | apply cnd_split) <;> intro hc) | refine seqS_id ?_ | refine blk_exit_id ?_)
          all_goals rfl
        | false =>
          rw [if_neg (by simp)] at hR
          subst hR
          have hc := Nat.zero_add 0
          repeat' (first | simp only [hc, AS, NX, SX, c0, w1, AB, PL, RG, LP, TY, simprocAttr, ↓reduceIte, forall_const, eq_self, ne_eq, Option.some.injEq, beq_self_eq_true] | ((first | apply fin_ndec | apply fin_dec | apply cnd_ndec | apply cnd_dec' | apply fin_nsplit | apply fin_split | apply cnd_nsplit | apply cnd_split) <;> intro hc) | refine seqS_id ?_ | refine blk_exit_id ?_)
          all_goals rfl
    · have c0 : (q == []) = false := by simp [hq]
      have w1 := wI (n := (n : Int) + 1) (by omega) (by omega)
      have f1 := scut_at (a := q) (b := [10]) (by omega)
      have hR : R = if (Lib.cut q [10]).2.2 = false then (zFil, (n : Int) + 1, 7) else match lineE x (Lib.cut q [10]).1 with
        | .error e => (zFil, (n : Int) + 1, e)
        | .ok x' => prs k x' ((n : Int) + 1) (Lib.cut q [10]).2.1 := by rw [hR]; exact if_neg hq
      have hcl := cut_len hq
      generalize Lib.cut q [10] = c at *
      obtain ⟨ln, rest, wh⟩ := c
      dsimp only at f1 hR hcl
      cases wh with
      | false =>
        rw [if_pos rfl] at hR
        subst hR
        obtain ⟨T, hT⟩ : ∃ T, hpR x [] = .box zF :: T := by
          unfold hpR
          split <;> exact ⟨_, rfl⟩
        rw [hT]
        have hc := Nat.zero_add 0
        repeat' (first | simp only [hc, AS, NX, SX, c0, w1, f1, AB, PL, RG, LP, TY, simprocAttr, ↓reduceIte, forall_const, eq_self, ne_eq, Option.some.injEq, beq_self_eq_true] | ((first | apply fin_ndec | apply fin_dec | apply cnd_ndec | apply cnd_dec' | apply fin_nsplit | apply fin_split | apply cnd_nsplit | apply cnd_split) <;> intro hc) | refine seqS_id ?_ | refine blk_exit_id ?_)
        all_goals rfl
      | true =>
        rw [if_neg (by simp)] at hR
        have hcl := hcl rfl
        have f2 := aread_at (s := ln) hx
        have hxo := fun x' h => @lineE_ok x x' ln h hx
        cases hl : lineE x ln with
        | error e =>
          rw [hl] at hR f2
          dsimp only at hR f2
          subst hR
          obtain ⟨T, hT⟩ := hpP_head x (eB e)
          rw [hT] at f2
          have he := lineE_err hl
          have hc := Nat.zero_add 0
          repeat' (first | simp only [hc, AS, NX, SX, c0, w1, f1, f2, he, AB, PL, RG, LP, TY, simprocAttr, ↓reduceIte, forall_const, eq_self, ne_eq, Option.some.injEq, beq_self_eq_true] | ((first | apply fin_ndec | apply fin_dec | apply cnd_ndec | apply cnd_dec' | apply fin_nsplit | apply fin_split | apply cnd_nsplit | apply cnd_split) <;> intro hc) | refine seqS_id ?_ | refine blk_exit_id ?_)
          all_goals rfl
        | ok x' =>
          rw [hl] at hR f2
          dsimp only at hR f2
          have hx' := hxo x' hl
          have hc := Nat.zero_add 0
          repeat' (first | simp only [hc, AS, NX, SX, c0, w1, f1, f2, AB, PL, RG, LP, TY, simprocAttr, ↓reduceIte, forall_const, eq_self, ne_eq, Option.some.injEq, beq_self_eq_true] | ((first | apply fin_ndec | apply fin_dec | apply cnd_ndec | apply cnd_dec' | apply fin_nsplit | apply fin_split | apply cnd_nsplit | apply cnd_split) <;> intro hc) | refine seqS_id ?_ | refine blk_exit_id ?_)
          exact lp_next (k, x', n + 1, rest) (hpQ_wk (by simp [subT, look]) rfl rfl) ⟨hx', by simp only []; omega, by simp only []; omega, by simpa using hR⟩ hcl
  · cases h

end
end Go.Ab

/-
  Agencies' files: awake.
-/
namespace Go.Ab
open Go.RowKit Go.Proofs

abbrev exT : List UInt8 := [102, 105, 108, 101, 32, 97, 32, 98, 32, 49, 10, 99, 104, 97, 114, 103, 101, 32, 107, 32, 53, 32, 49, 46, 50, 48, 10, 114, 101, 106, 101, 99, 116, 32, 107, 32, 54, 32, 57, 10, 101, 110, 100, 32, 50, 32, 49, 46, 50, 48, 10]
theorem it1 {n : Nat} (h : n < 10) : Lib.itoa (n : Int) = [UInt8.ofNat (48 + n)] := by
  rw [itoa_spec, if_neg (by omega), Int.toNat_natCast, dec_small h]
theorem show120 : showF 120 = [49, 46, 50, 48] := by
  unfold showF
  rw [show (120 : Int).natAbs / 100 = 1 from rfl, dec_small (by decide)]
  rfl
theorem exText : textF exF = exT := by
  have e1 : Lib.itoa 1 = [49] := it1 (n := 1) (by decide)
  have e2 : Lib.itoa 2 = [50] := it1 (n := 2) (by decide)
  have e5 : Lib.itoa 5 = [53] := it1 (n := 5) (by decide)
  have e6 : Lib.itoa 6 = [54] := it1 (n := 6) (by decide)
  have e9 : Lib.itoa 9 = [57] := it1 (n := 9) (by decide)
  have et : (totF exR).1 = 120 := by kernel_rfl
  have es := show120
  show headLn exF ++ exR.flatMap recLine ++ endLn exR = exT
  rw [show headLn exF = lineF [[102, 105, 108, 101], [97], [98], Lib.itoa 1] from rfl, show endLn exR = lineF [[101, 110, 100], Lib.itoa 2, showF (totF exR).1] from rfl,
    show exR.flatMap recLine = lineF [[99, 104, 97, 114, 103, 101], [107], Lib.itoa 5, showF 120] ++ (lineF [[114, 101, 106, 101, 99, 116], [107], Lib.itoa 6, Lib.itoa 9] ++ []) from by kernel_rfl, e1, e2, e5, e6, e9, et, es]
  kernel_rfl
theorem exCheck : checkF exF = 0 := by kernel_rfl
theorem exPrint : printF exF = (exT, 0) := by
  unfold printF
  rw [if_neg (by rw [exCheck]; simp), exText]
  kernel_rfl
theorem exParse : parseO exT = (⟨[97], [98], 1, false, exR⟩, 0, 0) := by kernel_rfl
theorem badParse1 : parseO [102, 105, 108, 101, 32, 97, 32, 98, 32, 49, 10] = (zFil, 2, 7) := by kernel_rfl
theorem badParse2 : parseO [102, 105, 108, 101, 32, 97, 32, 98, 32, 49, 10, 101, 110, 100, 32, 49, 32, 48, 46, 48, 48, 10] = (zFil, 2, 8) := by kernel_rfl
theorem badParse3 : parseO [102, 105, 108, 101, 32, 97, 32, 97, 32, 49, 10, 101, 110, 100, 32, 48, 32, 48, 46, 48, 48, 10] = (zFil, 1, 30) := by kernel_rfl

noncomputable section
open Classical

theorem aparse_at {s : List UInt8} (h : s.length ≤ 4294967280) : aparse_m [.c (.str s)] = some [.agg (parseO s).1.row, .i (parseO s).2.1, .i (parseO s).2.2] := by
  rw [aparse_m, ms_eq, if_pos (decide_eq_true h)]

theorem apSl_two {h : Hp} {z b : Nat} {e1 e2 y1 y2 : List D} (h1 : e1.length = z ∧ e2.length = z ∧ y1.length = z ∧ y2.length = z) (h3 : 4 * b ≤ 140737488355328) : apSl h z b [e1, e2] [y1, y2] = some (.v (.c (.own h.length [e1, e2, y1, y2])), h ++ [.tok 4 z none]) := by
  obtain ⟨a, b', c, d⟩ := h1
  unfold apSl
  rw [if_pos ⟨by simp [allLen, a, b'], by simp [allLen, c, d], by simpa using h3, by simp⟩]
  simp

def alive_m : List PA → Option (List PA) := m0 (some [.b true])
set_option maxHeartbeats 4000000 in
theorem alive_ok : PureC Tryz.prog Gt 24 alive_m := by
  refine pure_of_awp (X := ctx Tryz.prog Gt [(49, exam_m), (48, aprint_m), (50, aparse_m), (51, rsame_m), (19, aamt_m)]) Tryz.func24 rfl rfl (by kernel_rfl) (by kernel_rfl) (AllOk.cons exam_ok (AllOk.cons aprint_ok (AllOk.cons aparse_ok (AllOk.cons rsame_ok (AllOk.cons aamt_ok AllOk.nil))))).kok ?_
  intro args r h0
  obtain ⟨rfl, h⟩ := m0_inv h0
  refine ⟨Nat.le_of_ble_eq_true rfl, ?_⟩
  cases h
  have g1 : exam_m [] = some [.agg [.str [97], .str [98], .int .i64 1, .sl true [[.int .i64 1, .str [107], .int .i64 5, .int .i64 120, .int .i64 0], [.int .i64 3, .str [107], .int .i64 6, .int .i64 0, .int .i64 9]]]] := rfl
  have g2 : aprint_m [.agg [.str [97], .str [98], .int .i64 1, .sl true [[.int .i64 1, .str [107], .int .i64 5, .int .i64 120, .int .i64 0], [.int .i64 3, .str [107], .int .i64 6, .int .i64 0, .int .i64 9]]]] = some [.s exT, .i 0] := by
    have := @aprint_at exF ⟨by decide, by decide⟩
    rw [exPrint] at this
    exact this
  have g3 : aparse_m [.c (.str exT)] = some [.agg [.str [97], .str [98], .int .i64 1, .sl false [[.int .i64 1, .str [107], .int .i64 5, .int .i64 120, .int .i64 0], [.int .i64 3, .str [107], .int .i64 6, .int .i64 0, .int .i64 9]]], .i 0, .i 0] := by
    rw [aparse_at (by decide), exParse]; rfl
  have g4 : aparse_m [.c (.str [102, 105, 108, 101, 32, 97, 32, 98, 32, 49, 10])] = some [.agg zFil.row, .i 2, .i 7] := by
    rw [aparse_at (by decide), badParse1]
  have g5 : aparse_m [.c (.str [102, 105, 108, 101, 32, 97, 32, 98, 32, 49, 10, 101, 110, 100, 32, 49, 32, 48, 46, 48, 48, 10])] = some [.agg zFil.row, .i 2, .i 8] := by
    rw [aparse_at (by decide), badParse2]
  have g6 : aparse_m [.c (.str [102, 105, 108, 101, 32, 97, 32, 97, 32, 49, 10, 101, 110, 100, 32, 48, 32, 48, 46, 48, 48, 10])] = some [.agg zFil.row, .i 1, .i 30] := by
    rw [aparse_at (by decide), badParse3]
  have g7 : rsame_m [.agg [.str [97], .str [98], .int .i64 1, .sl false [[.int .i64 1, .str [107], .int .i64 5, .int .i64 120, .int .i64 0], [.int .i64 3, .str [107], .int .i64 6, .int .i64 0, .int .i64 9]]], .agg [.str [97], .str [98], .int .i64 1, .sl true [[.int .i64 1, .str [107], .int .i64 5, .int .i64 120, .int .i64 0], [.int .i64 3, .str [107], .int .i64 6, .int .i64 0, .int .i64 9]]]] = some [.b true] := by
    have := @rsame_at ⟨[97], [98], 1, false, exR⟩ exF (by decide)
    rw [show sameF ⟨[97], [98], 1, false, exR⟩ exF = true by simp [sameF, exF]] at this
    exact this
  have g8 : aamt_m [.c (.sl false [[.int .i64 1, .str [107], .int .i64 5, .int .i64 120, .int .i64 0], [.int .i64 3, .str [107], .int .i64 6, .int .i64 0, .int .i64 9]]), .c (.str [107])] = some [.i 0] := by
    have := @aamt_at false exR [107] (by decide)
    rw [show amtF [107] 0 exR = 0 by kernel_rfl] at this
    exact this
  have g9 : aamt_m [.c (.sl false [[.int .i64 1, .str [107], .int .i64 5, .int .i64 120, .int .i64 0], [.int .i64 3, .str [107], .int .i64 6, .int .i64 0, .int .i64 9], [.int .i64 1, .str [107], .int .i64 7, .int .i64 300, .int .i64 0], [.int .i64 4, .str [107], .int .i64 8, .int .i64 100, .int .i64 0]]), .c (.str [107])] = some [.i 200] := by
    have := @aamt_at false (exR ++ [⟨1, [107], 7, 300, 0⟩, ⟨4, [107], 8, 100, 0⟩]) [107] (by decide)
    rw [show amtF [107] 0 (exR ++ [⟨1, [107], 7, 300, 0⟩, ⟨4, [107], 8, 100, 0⟩]) = 200 by kernel_rfl] at this
    exact this
  have ap := fun (h : Hp) (a b c d : List D) (h1 : a.length = 5 ∧ b.length = 5 ∧ c.length = 5 ∧ d.length = 5) => @apSl_two h 5 48 a b c d h1 (by decide)
  have ap' := fun (h : Hp) => ap h [.int .i64 1, .str [107], .int .i64 5, .int .i64 120, .int .i64 0] [.int .i64 3, .str [107], .int .i64 6, .int .i64 0, .int .i64 9] [.int .i64 1, .str [107], .int .i64 7, .int .i64 300, .int .i64 0] [.int .i64 4, .str [107], .int .i64 8, .int .i64 100, .int .i64 0] ⟨rfl, rfl, rfl, rfl⟩
  clear ap
  have gz : zFil.row = [.str [], .str [], .int .i64 0, .sl true []] := rfl
  rw [gz] at g4 g5 g6
  have ex : ((exT : List UInt8) == exT) = true := by decide
  have hc := Nat.zero_add 0
  repeat' (first | simp only [hc, Tryz.f24, SX, g1, g2, g3, g4, g5, g6, g7, g8, g9, ap', ex, AB, PL, RG, LP, TY, simprocAttr, ↓reduceIte, forall_const, eq_self, ne_eq, Option.some.injEq, beq_self_eq_true] | ((first | apply fin_ndec | apply fin_dec | apply cnd_ndec | apply cnd_dec' | apply fin_nsplit | apply fin_split | apply cnd_nsplit | apply cnd_split) <;> intro hc) | refine blk_exit_id ?_)
  all_goals trace_state
  all_goals simp [DV.b]

end
end Go.Ab

/-
  Agency: law Amounts.
-/
namespace Go.Ab
open Go.RowKit Go.Proofs

theorem keysR_len (l : List Rec) : (keysR l).length ≤ l.length := by
  have := keys_len l l.length (Nat.le_refl _)
  rwa [List.take_length] at this
theorem netR_len (l : List Rec) : (netR l).length ≤ l.length := by
  unfold netR
  rw [List.length_map]
  exact keysR_len l
theorem fits_ok {l : List Rec} (h : fitsB l = true) : l.length ≤ 60 := by
  unfold fitsB at h
  rw [Bool.and_eq_true] at h
  exact of_decide_eq_true h.1

noncomputable section
open Classical

def lAmounts_m : List PA → Option (List PA) := mE encRK fun p => if p.1.2.length ≤ 9223372036854775807 ∧ (∀ x ∈ p.1.2, x.key.length ≤ 9223372036854775807) then some [.b true] else none

theorem alive2 : alive_m [] = some [.b true] := rfl
theorem lAmounts_ok : PureC Tryz.prog Gt 5 lAmounts_m := by
  refine pure_of_awp (X := ctx Tryz.prog Gt [(18, afits_m), (19, aamt_m), (20, ramt_m), (22, anet_m), (23, rnet_m), (21, rsamer_m), (24, alive_m)]) Tryz.func5 rfl rfl (by kernel_rfl) (by kernel_rfl) (AllOk.cons afits_ok (AllOk.cons aamt_ok (AllOk.cons ramt_ok (AllOk.cons anet_ok (AllOk.cons rnet_ok (AllOk.cons rsamer_ok (AllOk.cons alive_ok AllOk.nil))))))).kok ?_
  intro args r h0
  obtain ⟨⟨⟨f, l⟩, key⟩, rfl, h⟩ := mE_inv h0
  refine ⟨Nat.le_of_ble_eq_true rfl, ?_⟩
  split at h
  · rename_i hl
    obtain ⟨hl1, hl2⟩ := hl
    dsimp only at hl1 hl2 h
    cases h
    have e0 := alive2
    have f1 := afits_at (f := f) hl1
    cases c1 : fitsB l
    · rw [c1] at f1
      have hc := Nat.zero_add 0
      repeat' (first | simp only [hc, Tryz.f5, encRK, SX, e0, f1, AB, PL, RG, LP, TY, simprocAttr, ↓reduceIte, forall_const, eq_self, ne_eq, Option.some.injEq, beq_self_eq_true] | ((first | apply fin_ndec | apply fin_dec | apply cnd_ndec | apply cnd_dec' | apply fin_nsplit | apply fin_split | apply cnd_nsplit | apply cnd_split) <;> intro hc) | refine blk_exit_id ?_)
      all_goals simp [DV.b]
    have h60 := fits_ok c1
    rw [c1] at f1
    have f2 := aamt_at (f := f) (l := l) (key := key) hl1
    have f3 := ramt_at (f := f) (l := l) (key := key) hl1
    have f4 := anet_at (f := f) (l := l) (by omega)
    have f5 := rnet_at (f := f) (l := l) (by omega) hl2
    have hn := netR_len l
    have f6 := rsamer_at (f1 := false) (f2 := false) (l := netR l) (k := netR l) (by omega)
    rw [decide_eq_true rfl] at f6
    have hc := Nat.zero_add 0
    repeat' (first | simp only [hc, Tryz.f5, encRK, SX, e0, f1, f2, f3, f4, f5, f6, AB, PL, RG, LP, TY, simprocAttr, ↓reduceIte, forall_const, eq_self, ne_eq, Option.some.injEq, beq_self_eq_true] | ((first | apply fin_ndec | apply fin_dec | apply cnd_ndec | apply cnd_dec' | apply fin_nsplit | apply fin_split | apply cnd_nsplit | apply cnd_split) <;> intro hc) | refine blk_exit_id ?_)
    all_goals simp [DV.b]
  · cases h

end
end Go.Ab
