/-
  Texts of the layer and of the laws, put together: AbA10, AbA11.
-/
import Derived.Test.YtbcklcmhmbfgnaaGreatDoorAbF28
import Derived.Test.YtbcklcmhmbfgnaaGreatDoorAbF11
set_option linter.unusedSimpArgs false
set_option linter.unusedVariables false
set_option maxRecDepth 100000
namespace Go.Ab
open Go.RowKit Go.Proofs
def amtN (s : List UInt8) : PO := if (parseF s).2 = 0 then .ret [.i (parseF s).1] else wrongP (parseF s).2
structure Rdr where
  fr : List UInt8
  dst : List UInt8
  seq : Int
  rs : List Rec
  beg : Bool
  fin : Bool
def Rdr.fil (x : Rdr) : Fil := ⟨x.fr, x.dst, x.seq, decide (x.rs = []), x.rs⟩
def Rdr.cells (x : Rdr) (rc : C1) : List C1 := [.d (.str x.fr), .d (.str x.dst), .d (.int .i64 x.seq), rc, .d (.bool x.beg), .d (.bool x.fin)]
abbrev zF : List C1 := [.d (.str []), .d (.str []), .d (.int .i64 0), .d (.sl true [])]
abbrev tops6 : List C1 := [.top, .top, .top, .top, .top, .top]
def hpA (x : Rdr) (g : Hp) : Hp := .box zF :: .box (x.cells (.d (.sl true []))) :: g
def hpB (x : Rdr) (g : Hp) : Hp := .box zF :: .box (x.cells (.own 4 (x.rs.map Rec.row))) :: .box [.top] :: .box [.top, .top, .top, .top, .top] :: .tok x.rs.length 5 none :: g
def hpR (x : Rdr) (g : Hp) : Hp := if x.rs = [] then hpA x g else hpB x g
def hpP (x : Rdr) (g : Hp) : Hp := if x.rs = [] then .box zF :: .box tops6 :: g else .box zF :: .box tops6 :: .box [.top] :: .box [.top, .top, .top, .top, .top] :: .tok x.rs.length 5 none :: g
abbrev eB (e : Int) : Hp := [.box [.d (.int .i64 e)]]
abbrev panW (e : Int) (h : Hp) : COut := .pan (.ifc 103 [.int .i64 e] true) h
theorem Rdr.inj {x y : Rdr} {rc rc' : C1} (h : x.cells rc = y.cells rc') (hr : x.rs = y.rs) : x = y := by
  cases x; cases y
  simp only [Rdr.cells, List.cons.injEq, C1.d.injEq, D.str.injEq, D.int.injEq, D.bool.injEq, true_and, and_true] at h
  simp_all
theorem hpR_inj {x y : Rdr} {e e' : Int} (h : hpR x (eB e) = hpR y (eB e')) : x = y ∧ e = e' := by
  unfold hpR hpA hpB at h
  split at h
  · rename_i hx
    split at h
    · rename_i hy
      simp only [List.cons.injEq, Ob.box.injEq, C1.d.injEq, D.int.injEq, true_and, and_true] at h
      exact ⟨Rdr.inj h.1 (hx.trans hy.symm), h.2⟩
    simp at h
  split at h
  · simp at h
  simp only [List.cons.injEq, Ob.box.injEq, C1.d.injEq, D.int.injEq, true_and, and_true] at h
  have hr : x.rs = y.rs := by
    have := h.1
    simp only [Rdr.cells, List.cons.injEq, C1.own.injEq, true_and, and_true] at this
    exact mapR_inj.1 this.2.2.2.1
  exact ⟨Rdr.inj h.1 hr, h.2.2⟩
def firE : List (List UInt8) → Except Int (List UInt8 × List UInt8 × Int)
  | [a, b, c, d] => if a = [102, 105, 108, 101] then (match numA d with
    | none => .error 5
    | some n => if headF ⟨b, c, n, true, []⟩ = 0 then .ok (b, c, n) else .error (headF ⟨b, c, n, true, []⟩)) else .error 5
  | _ => .error 5
def lasE (x : Rdr) : List (List UInt8) → Except Int Unit
  | [_, b, c] => match numA b with
    | none => .error 5
    | some n => if (parseF c).2 = 0 then (if (totF x.rs).2 = 0 then (if n = x.rs.length ∧ (totF x.rs).1 = (parseF c).1 then .ok () else .error 8) else .error (totF x.rs).2) else .error (parseF c).2
  | _ => .error 5
noncomputable section
open Classical
def aamount_n : List PA → Option PO := nms fun s => if decide (s.length ≤ 100000) = true then some (amtN s) else none
theorem must0 : amust_n [.c (.int .i64 0)] = some (.ret []) := rfl
theorem must1 {e : Int} (h : e ≠ 0) : amust_n [.c (.int .i64 e)] = some (.pan 103 [.int .i64 e] true) := by
  rw [amust_n, nm1_eq, mustP, if_neg h]; rfl
theorem anum_none {s : List UInt8} (h : s.length ≤ 100000) (hn : numA s = none) : anum_n [.c (.str s)] = some (.pan 103 [.int .i64 5] true) := by
  rw [anum_n, nms_eq, if_pos (decide_eq_true h), numP, hn]; rfl
theorem anum_some {s : List UInt8} {n : Int} (h : s.length ≤ 100000) (hn : numA s = some n) : anum_n [.c (.str s)] = some (.ret [.i n]) := by
  rw [anum_n, nms_eq, if_pos (decide_eq_true h), numP, hn]
theorem mparse_at {s : List UInt8} (h : s.length ≤ 100000) : mparse_m [.c (.str s)] = some [.i (parseF s).1, .i (parseF s).2] := by
  rw [mparse_m, ms_eq, if_pos (decide_eq_true h)]
theorem aamount_nok : NPure Tryz.prog Gt 74 aamount_n := by
  intro ps r h0 h
  refine fok_of_awpP (X := ctxN Tryz.prog Gt [(93, mparse_m)] [] [(54, amust_n)] none) Tryz.func74 rfl rfl (by kernel_rfl) (by kernel_rfl) (kok_n (AllOk.cons mparse_ok AllOk.nil) AllK.nil (AllN.cons amust_nok AllN.nil)) ?_ ?_
  · obtain ⟨s, rfl, _⟩ := nms_inv h0
    exact Nat.le_of_ble_eq_true rfl
  obtain ⟨s, rfl, hg⟩ := nms_inv h0
  split at hg
  · rename_i hlen
    have hlen := of_decide_eq_true hlen
    cases hg
    have f1 := mparse_at hlen
    by_cases he : (parseF s).2 = 0
    · rw [show amtN s = .ret [.i (parseF s).1] from if_pos he]
      rw [he] at f1
      have f2 := must0
      have hc := Nat.zero_add 0
      repeat' (first | simp only [hc, AS, Tryz.f74, NX, NP, SX, f1, f2, ZZ, simprocAttr, ↓reduceIte] | ((first | apply Za | apply Zb | apply Zc | apply Zd | apply Ze | apply Zf | apply Zg | apply Zh) <;> intro hc) | refine Zi ?_ | refine Zj ?_)
      all_goals exact ⟨_, rfl, rfl⟩
    rw [show amtN s = wrongP (parseF s).2 from if_neg he]
    have f2 := must1 he
    have hc := Nat.zero_add 0
    repeat' (first | simp only [hc, AS, Tryz.f74, NX, NP, SX, f1, f2, ZZ, simprocAttr, ↓reduceIte] | ((first | apply Za | apply Zb | apply Zc | apply Zd | apply Ze | apply Zf | apply Zg | apply Zh) <;> intro hc) | refine Zi ?_ | refine Zj ?_)
    all_goals rfl
  cases hg
theorem amtN_ok {s : List UInt8} (h : s.length ≤ 100000) (hn : (parseF s).2 = 0) : aamount_n [.c (.str s)] = some (.ret [.i (parseF s).1]) := by
  rw [aamount_n, nms_eq, if_pos (decide_eq_true h), amtN, if_pos hn]
theorem amtN_bad {s : List UInt8} (h : s.length ≤ 100000) (hn : (parseF s).2 ≠ 0) : aamount_n [.c (.str s)] = some (.pan 103 [.int .i64 (parseF s).2] true) := by
  rw [aamount_n, nms_eq, if_pos (decide_eq_true h), amtN, if_neg hn]; rfl
def rdR (a : Rdr × Bool × List (List UInt8) × Int) (args : List AV) (h : Hp) : Prop := args = [.v (.c (.ptr 1 0)), AV.d (.sl a.2.1 (a.2.2.1.map rowS))] ∧ h = hpR a.1 (eB a.2.2.2)
def linOk (l : List (List UInt8)) : Prop := ∀ p ∈ l, p.length ≤ 100000
def afirst_k : List AV → Hp → Option COut := kR rdR fun a => if a.1.rs = [] ∧ linOk a.2.2.1 then some (match firE a.2.2.1 with | .error k => panW k (hpP a.1 (eB a.2.2.2)) | .ok (b, c, n) => .ret (.tup []) (hpR { a.1 with fr := b, dst := c, seq := n, beg := true } (eB a.2.2.2))) else none
theorem rowS1 {l : List (List UInt8)} {j : Nat} {p : List UInt8} (h : l[j]? = some p) : (l.map rowS)[j]? = some [.str p] := by simp [h, rowS]
theorem firE_len {l : List (List UInt8)} (h : l.length ≠ 4) : firE l = .error 5 := by
  unfold firE
  split
  · simp at h
  rfl
theorem afirst_kok : ImpC Tryz.prog Gt 55 afirst_k := by
  intro args h out h0
  refine fok_of_awpW (X := ctxN Tryz.prog Gt [(39, ahead_m)] [] [(73, anum_n), (54, amust_n)] none) Tryz.func55 rfl rfl (by kernel_rfl) (by kernel_rfl) (kok_n (AllOk.cons ahead_ok AllOk.nil) AllK.nil (AllN.cons anum_nok (AllN.cons amust_nok AllN.nil))) ?_ ?_
  · obtain ⟨a, ⟨rfl, rfl⟩, _⟩ := kR_inv h0
    exact Nat.le_of_ble_eq_true rfl
  obtain ⟨⟨x, f, l, e⟩, ⟨rfl, rfl⟩, hg⟩ := kR_inv h0
  dsimp only at hg ⊢
  split at hg
  · rename_i hok
    obtain ⟨hrs, hl⟩ := hok
    simp only [Option.some.injEq] at hg
    obtain ⟨fr, dst, seq, rs, beg, fin⟩ := x
    dsimp only at hrs
    subst hrs
    have eH : hpR ⟨fr, dst, seq, [], beg, fin⟩ (eB e) = [.box zF, .box [.d (.str fr), .d (.str dst), .d (.int .i64 seq), .d (.sl true []), .d (.bool beg), .d (.bool fin)], .box [.d (.int .i64 e)]] := rfl
    have eP : hpP ⟨fr, dst, seq, [], beg, fin⟩ (eB e) = [.box zF, .box tops6, .box [.d (.int .i64 e)]] := rfl
    have eN : ∀ b c n, hpR { (⟨fr, dst, seq, [], beg, fin⟩ : Rdr) with fr := b, dst := c, seq := n, beg := true } (eB e) = [.box zF, .box [.d (.str b), .d (.str c), .d (.int .i64 n), .d (.sl true []), .d (.bool true), .d (.bool fin)], .box [.d (.int .i64 e)]] := fun _ _ _ => rfl
    rw [eH]
    have wT : ∀ c1 c2 c3 c4 c5 c6 : C1, Wk 3 ⟨[], [.box zF, .box [c1, c2, c3, c4, c5, c6], .box [.d (.int .i64 e)]]⟩ ⟨[], [.box zF, .box tops6, .box [.d (.int .i64 e)]]⟩ := fun _ _ _ _ _ _ => Wk.tops (id := 1) rfl (by simp [subT]) rfl rfl
    have l1 : ((l.map rowS).length : Int) = l.length := by simp
    by_cases h4 : l.length ≠ 4
    · have hx : firE l = .error 5 := firE_len h4
      rw [hx] at hg
      subst hg
      have hn : ((l.length : Int) = 4) = False := eq_false (by omega)
      have hc := Nat.zero_add 0
      repeat' (first | simp only [hc, AX, AXP, Tryz.f55, NX, NP, mkWrong, SX, RetsW_ret, RetsW_normal, RetsW_pan, l1, hn, ZZ, simprocAttr, ↓reduceIte] | ((first | apply Za | apply Zb | apply Zc | apply Zd | apply Ze | apply Zf | apply Zg | apply Zh) <;> intro hc) | refine seqX_id ?_ | refine Zj ?_)
      all_goals exact ⟨_, _, _, _, rfl, Wk.tops (id := 1) rfl (by rw [subT_nil]; trivial) rfl rfl, rfl⟩
    have h4 : l.length = 4 := Classical.not_not.1 h4
    obtain ⟨a, b, c, d, rfl⟩ : ∃ a b c d, l = [a, b, c, d] := by
      match l, h4 with
      | [a, b, c, d], _ => exact ⟨a, b, c, d, rfl⟩
    have ha := hl a (by simp)
    have hb := hl b (by simp)
    have hc' := hl c (by simp)
    have hd := hl d (by simp)
    obtain ⟨L, hL⟩ : ∃ L, L = [a, b, c, d].map rowS := ⟨_, rfl⟩
    have hn : ((L.length : Int) = 4) = True := eq_true (by rw [hL]; rfl)
    have i0 : L[0]? = some [.str a] := by rw [hL]; rfl
    have i1 : L[1]? = some [.str b] := by rw [hL]; rfl
    have i2 : L[2]? = some [.str c] := by rw [hL]; rfl
    have i3 : L[3]? = some [.str d] := by rw [hL]; rfl
    rw [← hL]
    clear hL l1 h0
    by_cases c1 : a = [102, 105, 108, 101]
    · have c1' : (a == [102, 105, 108, 101]) = true := by simp [c1]
      cases hnum : numA d with
      | none =>
        have hx : firE [a, b, c, d] = .error 5 := by simp only [firE, if_pos c1, hnum]
        rw [hx] at hg
        subst hg
        have f1 := anum_none hd hnum
        have hc := Nat.zero_add 0
        repeat' (first | simp only [hc, AX, AXP, Tryz.f55, NX, NP, SX, RetsW_ret, RetsW_normal, RetsW_pan, hn, i0, c1', ZZ, simprocAttr, ↓reduceIte] | ((first | apply Za | apply Zb | apply Zc | apply Zd | apply Ze | apply Zf | apply Zg | apply Zh) <;> intro hc) | refine seqX_id ?_ | refine Zj ?_)
        refine awpX_drawn 12 [0, 1, 2, 3, 4, 5, 6, 7, 8, 9, 10, 11] rfl rfl (by kernel_rfl) (by kernel_rfl) (Nat.le_of_ble_eq_true rfl) rfl ?_
        have hc := Nat.zero_add 0
        repeat' (first | simp only [hc, AX, AXP, NX, NP, SX, RetsW_ret, RetsW_normal, RetsW_pan, i1, i2, i3, f1, ZZ, simprocAttr, ↓reduceIte] | ((first | apply Za | apply Zb | apply Zc | apply Zd | apply Ze | apply Zf | apply Zg | apply Zh) <;> intro hc) | refine seqX_id ?_ | refine Zj ?_)
        all_goals exact ⟨_, _, _, _, rfl, Wk.tops (id := 1) rfl (by rw [subT_nil]; trivial) rfl rfl, rfl⟩
      | some n =>
        have f1 := anum_some hd hnum
        have f2 := @ahead_at ⟨b, c, n, true, []⟩
        simp only [Fil.row, List.map_nil] at f2
        by_cases hh : headF ⟨b, c, n, true, []⟩ = 0
        · have hx : firE [a, b, c, d] = .ok (b, c, n) := by simp only [firE, if_pos c1, hnum, if_pos hh]
          rw [hx] at hg
          subst hg
          rw [hh] at f2
          have f3 := must0
          refine awpX_of _ _ _ ?_
          have hc := Nat.zero_add 0
          repeat' (first | simp only [hc, AS, Tryz.f55, NX, NP, SX, RetsW_ret, RetsW_normal, RetsW_pan, hn, i0, i1, i2, i3, c1', f1, f2, f3, ZZ, simprocAttr, ↓reduceIte] | ((first | apply Za | apply Zb | apply Zc | apply Zd | apply Ze | apply Zf | apply Zg | apply Zh) <;> intro hc) | refine Zi ?_ | refine Zj ?_)
          all_goals exact ⟨_, Wk.refl, _, rfl, rfl⟩
        have hx : firE [a, b, c, d] = .error (headF ⟨b, c, n, true, []⟩) := by simp only [firE, if_pos c1, hnum, if_neg hh]
        rw [hx] at hg
        subst hg
        have f3 := must1 hh
        generalize headF ⟨b, c, n, true, []⟩ = k at *
        refine awpX_of _ _ _ ?_
        have hc := Nat.zero_add 0
        repeat' (first | simp only [hc, AS, Tryz.f55, NX, NP, SX, RetsW_ret, RetsW_normal, RetsW_pan, hn, i0, i1, i2, i3, c1', f1, f2, f3, ZZ, simprocAttr, ↓reduceIte] | ((first | apply Za | apply Zb | apply Zc | apply Zd | apply Ze | apply Zf | apply Zg | apply Zh) <;> intro hc) | refine Zi ?_ | refine Zj ?_)
        all_goals exact ⟨_, _, _, _, rfl, Wk.tops (id := 1) rfl (by rw [subT_nil]; trivial) rfl rfl, rfl⟩
    have c1' : (a == [102, 105, 108, 101]) = false := by simp [c1]
    have hx : firE [a, b, c, d] = .error 5 := by simp only [firE, if_neg c1]
    rw [hx] at hg
    subst hg
    have hc := Nat.zero_add 0
    repeat' (first | simp only [hc, AX, AXP, Tryz.f55, NX, NP, mkWrong, SX, RetsW_ret, RetsW_normal, RetsW_pan, hn, i0, c1', ZZ, simprocAttr, ↓reduceIte] | ((first | apply Za | apply Zb | apply Zc | apply Zd | apply Ze | apply Zf | apply Zg | apply Zh) <;> intro hc) | refine seqX_id ?_ | refine Zj ?_)
    all_goals exact ⟨_, _, _, _, rfl, Wk.tops (id := 1) rfl (by rw [subT_nil]; trivial) rfl rfl, rfl⟩
  cases hg
end
end Go.Ab
namespace Go.Ab
open Go.RowKit Go.Proofs
noncomputable section
open Classical
def alast_k : List AV → Hp → Option COut := kR rdR fun a => if a.1.rs.length ≤ 1024 ∧ a.2.2.1.length = 3 ∧ linOk a.2.2.1 then some (match lasE a.1 a.2.2.1 with | .error k => panW k (hpP a.1 (eB a.2.2.2)) | .ok _ => .ret (.tup []) (hpR { a.1 with fin := true } (eB a.2.2.2))) else none
theorem alast_kok : ImpC Tryz.prog Gt 56 alast_k := by
  intro args h out h0
  refine fok_of_awpW (X := ctxN Tryz.prog Gt [(27, atotal_m)] [] [(73, anum_n), (74, aamount_n), (54, amust_n)] none) Tryz.func56 rfl rfl (by kernel_rfl) (by kernel_rfl) (kok_n (AllOk.cons atotal_ok AllOk.nil) AllK.nil (AllN.cons anum_nok (AllN.cons aamount_nok (AllN.cons amust_nok AllN.nil)))) ?_ ?_
  · obtain ⟨a, ⟨rfl, rfl⟩, _⟩ := kR_inv h0
    exact Nat.le_of_ble_eq_true rfl
  obtain ⟨⟨x, f, l, e⟩, ⟨rfl, rfl⟩, hg⟩ := kR_inv h0
  dsimp only at hg ⊢
  split at hg
  · rename_i hok
    obtain ⟨hrs, h3, hl⟩ := hok
    simp only [Option.some.injEq] at hg
    obtain ⟨fr, dst, seq, rs, beg, fin⟩ := x
    dsimp only at hrs
    obtain ⟨a, b, c, rfl⟩ : ∃ a b c, l = [a, b, c] := by
      match l, h3 with
      | [a, b, c], _ => exact ⟨a, b, c, rfl⟩
    have hb := hl b (by simp)
    have hc' := hl c (by simp)
    obtain ⟨L, hL⟩ : ∃ L, L = [a, b, c].map rowS := ⟨_, rfl⟩
    have i1 : L[1]? = some [.str b] := by rw [hL]; rfl
    have i2 : L[2]? = some [.str c] := by rw [hL]; rfl
    rw [← hL]
    clear hL h0
    have hla : lasE ⟨fr, dst, seq, rs, beg, fin⟩ [a, b, c] = match numA b with
      | none => .error 5
      | some n => if (parseF c).2 = 0 then (if (totF rs).2 = 0 then (if n = rs.length ∧ (totF rs).1 = (parseF c).1 then .ok () else .error 8) else .error (totF rs).2) else .error (parseF c).2 := rfl
    rw [hla] at hg
    clear hla
    have hlen : ((rs.map Rec.row).length : Int) = rs.length := by simp
    by_cases hr0 : rs = []
    · have eH : hpR ⟨fr, dst, seq, rs, beg, fin⟩ (eB e) = [.box zF, .box [.d (.str fr), .d (.str dst), .d (.int .i64 seq), .d (.sl true (rs.map Rec.row)), .d (.bool beg), .d (.bool fin)], .box [.d (.int .i64 e)]] := by subst hr0; rfl
      have eP : hpP ⟨fr, dst, seq, rs, beg, fin⟩ (eB e) = [.box zF, .box tops6, .box [.d (.int .i64 e)]] := by subst hr0; rfl
      have eN : hpR ⟨fr, dst, seq, rs, beg, true⟩ (eB e) = [.box zF, .box [.d (.str fr), .d (.str dst), .d (.int .i64 seq), .d (.sl true (rs.map Rec.row)), .d (.bool beg), .d (.bool true)], .box [.d (.int .i64 e)]] := by subst hr0; rfl
      have fT := @atotal_at ⟨fr, dst, seq, true, rs⟩ hrs
      simp only [Fil.row] at fT
      rw [eH]
      rw [eP, eN] at hg
      clear eH eP eN hrs
      generalize rs.map Rec.row = rows at *
      generalize totF rs = T at *
      generalize rs.length = N at *
      cases hnum : numA b with
      | none =>
        rw [hnum] at hg
        subst hg
        have f1 := anum_none hb hnum
        refine awpX_of _ _ _ ?_
        have hc := Nat.zero_add 0
        repeat' (first | simp only [hc, AS, Tryz.f56, NX, NP, SX, RetsW_ret, RetsW_normal, RetsW_pan, i1, i2, f1, ZZ, simprocAttr, ↓reduceIte] | ((first | apply Za | apply Zb | apply Zc | apply Zd | apply Ze | apply Zf | apply Zg | apply Zh) <;> intro hc) | refine Zi ?_ | refine Zj ?_)
        all_goals exact ⟨_, _, _, _, rfl, Wk.tops (id := 1) rfl (by rw [subT_nil]; trivial) rfl rfl, rfl⟩
      | some n =>
        rw [hnum] at hg
        have f1 := anum_some hb hnum
        by_cases hp : (parseF c).2 = 0
        · simp only [if_pos hp] at hg
          have f2 := amtN_ok hc' hp
          generalize (parseF c).1 = w at *
          obtain ⟨t1, t2⟩ := T
          dsimp only at fT hg
          by_cases ht : t2 = 0
          · simp only [if_pos ht] at hg
            subst ht
            have f3 := must0
            by_cases hn : n = (N : Int)
            · by_cases hw : t1 = w
              · simp only [hn, hw, and_self, if_true] at hg
                subst hg
                subst hn hw
                refine awpX_of _ _ _ ?_
                have hc := Nat.zero_add 0
                repeat' (first | simp only [hc, AS, Tryz.f56, NX, NP, mkWrong, SX, RetsW_ret, RetsW_normal, RetsW_pan, i1, i2, f1, f2, fT, f3, hlen, ZZ, simprocAttr, ↓reduceIte] | ((first | apply Za | apply Zb | apply Zc | apply Zd | apply Ze | apply Zf | apply Zg | apply Zh) <;> intro hc) | refine Zi ?_ | refine Zj ?_)
                all_goals exact ⟨_, Wk.refl, _, rfl, rfl⟩
              simp only [hw, and_false, if_false] at hg
              subst hg
              subst hn
              refine awpX_of _ _ _ ?_
              have hc := Nat.zero_add 0
              repeat' (first | simp only [hc, AS, Tryz.f56, NX, NP, mkWrong, SX, RetsW_ret, RetsW_normal, RetsW_pan, i1, i2, f1, f2, fT, f3, hlen, hw, ZZ, simprocAttr, ↓reduceIte] | ((first | apply Za | apply Zb | apply Zc | apply Zd | apply Ze | apply Zf | apply Zg | apply Zh) <;> intro hc) | refine Zi ?_ | refine Zj ?_)
              all_goals exact ⟨_, _, _, _, rfl, Wk.tops (id := 1) rfl (by rw [subT_nil]; trivial) rfl rfl, rfl⟩
            simp only [hn, false_and, if_false] at hg
            subst hg
            refine awpX_of _ _ _ ?_
            have hc := Nat.zero_add 0
            repeat' (first | simp only [hc, AS, Tryz.f56, NX, NP, mkWrong, SX, RetsW_ret, RetsW_normal, RetsW_pan, i1, i2, f1, f2, fT, f3, hlen, hn, ZZ, simprocAttr, ↓reduceIte] | ((first | apply Za | apply Zb | apply Zc | apply Zd | apply Ze | apply Zf | apply Zg | apply Zh) <;> intro hc) | refine Zi ?_ | refine Zj ?_)
            all_goals exact ⟨_, _, _, _, rfl, Wk.tops (id := 1) rfl (by rw [subT_nil]; trivial) rfl rfl, rfl⟩
          simp only [if_neg ht] at hg
          subst hg
          have f3 := must1 ht
          refine awpX_of _ _ _ ?_
          have hc := Nat.zero_add 0
          repeat' (first | simp only [hc, AS, Tryz.f56, NX, NP, mkWrong, SX, RetsW_ret, RetsW_normal, RetsW_pan, i1, i2, f1, f2, fT, f3, ZZ, simprocAttr, ↓reduceIte] | ((first | apply Za | apply Zb | apply Zc | apply Zd | apply Ze | apply Zf | apply Zg | apply Zh) <;> intro hc) | refine Zi ?_ | refine Zj ?_)
          all_goals exact ⟨_, _, _, _, rfl, Wk.tops (id := 1) rfl (by rw [subT_nil]; trivial) rfl rfl, rfl⟩
        simp only [if_neg hp] at hg
        subst hg
        have f2 := amtN_bad hc' hp
        generalize (parseF c).2 = w at *
        refine awpX_of _ _ _ ?_
        have hc := Nat.zero_add 0
        repeat' (first | simp only [hc, AS, Tryz.f56, NX, NP, SX, RetsW_ret, RetsW_normal, RetsW_pan, i1, i2, f1, f2, ZZ, simprocAttr, ↓reduceIte] | ((first | apply Za | apply Zb | apply Zc | apply Zd | apply Ze | apply Zf | apply Zg | apply Zh) <;> intro hc) | refine Zi ?_ | refine Zj ?_)
        all_goals exact ⟨_, _, _, _, rfl, Wk.tops (id := 1) rfl (by rw [subT_nil]; trivial) rfl rfl, rfl⟩
    have eH : hpR ⟨fr, dst, seq, rs, beg, fin⟩ (eB e) = [.box zF, .box [.d (.str fr), .d (.str dst), .d (.int .i64 seq), .own 4 (rs.map Rec.row), .d (.bool beg), .d (.bool fin)], .box [.top], .box [.top, .top, .top, .top, .top], .tok rs.length 5 none, .box [.d (.int .i64 e)]] := by rw [hpR, if_neg hr0]; rfl
    have eP : hpP ⟨fr, dst, seq, rs, beg, fin⟩ (eB e) = [.box zF, .box tops6, .box [.top], .box [.top, .top, .top, .top, .top], .tok rs.length 5 none, .box [.d (.int .i64 e)]] := by rw [hpP, if_neg hr0]
    have eN : hpR ⟨fr, dst, seq, rs, beg, true⟩ (eB e) = [.box zF, .box [.d (.str fr), .d (.str dst), .d (.int .i64 seq), .own 4 (rs.map Rec.row), .d (.bool beg), .d (.bool true)], .box [.top], .box [.top, .top, .top, .top, .top], .tok rs.length 5 none, .box [.d (.int .i64 e)]] := by rw [hpR, if_neg hr0]; rfl
    have fT := @atotal_at ⟨fr, dst, seq, false, rs⟩ hrs
    simp only [Fil.row] at fT
    rw [eH]
    rw [eP, eN] at hg
    clear eH eP eN hrs
    generalize rs.map Rec.row = rows at *
    generalize totF rs = T at *
    generalize rs.length = N at *
    cases hnum : numA b with
    | none =>
      rw [hnum] at hg
      subst hg
      have f1 := anum_none hb hnum
      refine awpX_of _ _ _ ?_
      have hc := Nat.zero_add 0
      repeat' (first | simp only [hc, AS, Tryz.f56, NX, NP, SX, RetsW_ret, RetsW_normal, RetsW_pan, i1, i2, f1, ZZ, simprocAttr, ↓reduceIte] | ((first | apply Za | apply Zb | apply Zc | apply Zd | apply Ze | apply Zf | apply Zg | apply Zh) <;> intro hc) | refine Zi ?_ | refine Zj ?_)
      all_goals exact ⟨_, _, _, _, rfl, Wk.tops (id := 1) rfl (by rw [subT_nil]; trivial) rfl rfl, rfl⟩
    | some n =>
      rw [hnum] at hg
      have f1 := anum_some hb hnum
      by_cases hp : (parseF c).2 = 0
      · simp only [if_pos hp] at hg
        have f2 := amtN_ok hc' hp
        generalize (parseF c).1 = w at *
        obtain ⟨t1, t2⟩ := T
        dsimp only at fT hg
        by_cases ht : t2 = 0
        · simp only [if_pos ht] at hg
          subst ht
          have f3 := must0
          by_cases hn : n = (N : Int)
          · by_cases hw : t1 = w
            · simp only [hn, hw, and_self, if_true] at hg
              subst hg
              subst hn hw
              refine awpX_of _ _ _ ?_
              have hc := Nat.zero_add 0
              repeat' (first | simp only [hc, AS, Tryz.f56, NX, NP, mkWrong, SX, RetsW_ret, RetsW_normal, RetsW_pan, i1, i2, f1, f2, fT, f3, hlen, ZZ, simprocAttr, ↓reduceIte] | ((first | apply Za | apply Zb | apply Zc | apply Zd | apply Ze | apply Zf | apply Zg | apply Zh) <;> intro hc) | refine Zi ?_ | refine Zj ?_)
              all_goals exact ⟨_, Wk.refl, _, rfl, rfl⟩
            simp only [hw, and_false, if_false] at hg
            subst hg
            subst hn
            refine awpX_of _ _ _ ?_
            have hc := Nat.zero_add 0
            repeat' (first | simp only [hc, AS, Tryz.f56, NX, NP, mkWrong, SX, RetsW_ret, RetsW_normal, RetsW_pan, i1, i2, f1, f2, fT, f3, hlen, hw, ZZ, simprocAttr, ↓reduceIte] | ((first | apply Za | apply Zb | apply Zc | apply Zd | apply Ze | apply Zf | apply Zg | apply Zh) <;> intro hc) | refine Zi ?_ | refine Zj ?_)
            all_goals exact ⟨_, _, _, _, rfl, Wk.tops (id := 1) rfl (by rw [subT_nil]; trivial) rfl rfl, rfl⟩
          simp only [hn, false_and, if_false] at hg
          subst hg
          refine awpX_of _ _ _ ?_
          have hc := Nat.zero_add 0
          repeat' (first | simp only [hc, AS, Tryz.f56, NX, NP, mkWrong, SX, RetsW_ret, RetsW_normal, RetsW_pan, i1, i2, f1, f2, fT, f3, hlen, hn, ZZ, simprocAttr, ↓reduceIte] | ((first | apply Za | apply Zb | apply Zc | apply Zd | apply Ze | apply Zf | apply Zg | apply Zh) <;> intro hc) | refine Zi ?_ | refine Zj ?_)
          all_goals exact ⟨_, _, _, _, rfl, Wk.tops (id := 1) rfl (by rw [subT_nil]; trivial) rfl rfl, rfl⟩
        simp only [if_neg ht] at hg
        subst hg
        have f3 := must1 ht
        refine awpX_of _ _ _ ?_
        have hc := Nat.zero_add 0
        repeat' (first | simp only [hc, AS, Tryz.f56, NX, NP, mkWrong, SX, RetsW_ret, RetsW_normal, RetsW_pan, i1, i2, f1, f2, fT, f3, ZZ, simprocAttr, ↓reduceIte] | ((first | apply Za | apply Zb | apply Zc | apply Zd | apply Ze | apply Zf | apply Zg | apply Zh) <;> intro hc) | refine Zi ?_ | refine Zj ?_)
        all_goals exact ⟨_, _, _, _, rfl, Wk.tops (id := 1) rfl (by rw [subT_nil]; trivial) rfl rfl, rfl⟩
      simp only [if_neg hp] at hg
      subst hg
      have f2 := amtN_bad hc' hp
      generalize (parseF c).2 = w at *
      refine awpX_of _ _ _ ?_
      have hc := Nat.zero_add 0
      repeat' (first | simp only [hc, AS, Tryz.f56, NX, NP, SX, RetsW_ret, RetsW_normal, RetsW_pan, i1, i2, f1, f2, ZZ, simprocAttr, ↓reduceIte] | ((first | apply Za | apply Zb | apply Zc | apply Zd | apply Ze | apply Zf | apply Zg | apply Zh) <;> intro hc) | refine Zi ?_ | refine Zj ?_)
      all_goals exact ⟨_, _, _, _, rfl, Wk.tops (id := 1) rfl (by rw [subT_nil]; trivial) rfl rfl, rfl⟩
  cases hg
end
end Go.Ab
