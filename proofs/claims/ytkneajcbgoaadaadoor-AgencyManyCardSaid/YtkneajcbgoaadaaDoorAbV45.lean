/-
  Texts of the layer and of the laws, put together: AbA25, AbA26, AbA27, AbA28. No law is stated here.
-/
import Derived.Test.YtkneajcbgoaadaaDoorAbV44
set_option linter.unusedSimpArgs false
set_option linter.unusedVariables false
set_option maxRecDepth 100000

/-
  Agencies' files: printed lines are read.
-/
namespace Go.Ab
open Go.RowKit Go.Proofs

theorem show_le24 {n : Int} (h : afit n = true) : (showF n).length ≤ 24 := by
  have hr := afit_iff.1 h
  have hl := dec_le 20 (n.natAbs / 100) (by rw [p20]; omega) (by omega)
  unfold showF
  rw [List.length_append, List.length_append]
  split <;> simp <;> omega
theorem int4_len (a b c d : List UInt8) : (List.intercalate [32] [a, b, c, d]).length = a.length + b.length + c.length + d.length + 3 := by
  simp [List.intercalate, List.intersperse]; omega
theorem int3_len (a b c : List UInt8) : (List.intercalate [32] [a, b, c]).length = a.length + b.length + c.length + 2 := by
  simp [List.intercalate, List.intersperse]; omega
def recText (r : Rec) : List UInt8 := List.intercalate [32] [wordF r.kind, r.key, Lib.itoa r.time, lastF r]
theorem rec_line {x : Rdr} {r : Rec} (hr : rightF r = 0) (hb : x.beg = true) (hf : x.fin = false) (hl : x.rs.length < 1024) : lineE x (recText r) = .ok { x with rs := x.rs ++ [r] } ∧ (10 : UInt8) ∉ recText r := by
  obtain ⟨k1, k2, k3, k4, t1, t2, kr, kc⟩ := right_ok hr
  obtain ⟨w1, w2, w3, w4⟩ := word_back k1 k2
  have hlast : goodP (lastF r) ∧ (lastF r).length ≤ 30 := by
    unfold lastF
    split
    · rename_i h3
      obtain ⟨_, a, b⟩ := kr h3
      exact ⟨itoa_good a, itoa_le (inI_iff.2 (by omega))⟩
    · rename_i h3
      have := show_le24 (kc h3).1
      exact ⟨show_good, by omega⟩
  have hti := itoa_le (n := r.time) (inI_iff.2 (by omega))
  obtain ⟨f1, f2⟩ := fields_pieces (P := [wordF r.kind, r.key, Lib.itoa r.time, lastF r]) (by simp) (fun p hp => by
    simp only [List.mem_cons, List.not_mem_nil, or_false] at hp
    rcases hp with rfl | rfl | rfl | rfl
    · exact w3
    · exact field_good k3
    · exact itoa_good t1
    · exact hlast.1) (by rw [int4_len]; omega)
  refine ⟨?_, f2⟩
  have hC : recC x.rs r = .ok r := by
    unfold recC
    rw [if_neg (by omega), if_pos hr]
  have hR : recE x.rs [wordF r.kind, r.key, Lib.itoa r.time, lastF r] = .ok r := by
    unfold recE
    dsimp only
    rw [numA_itoa t1 (by omega), w1]
    dsimp only
    by_cases h3 : r.kind = 3
    · obtain ⟨c0, a, b⟩ := kr h3
      rw [if_pos h3, lastF, if_pos h3, numA_itoa a (by omega)]
      dsimp only
      rw [show (⟨3, r.key, r.time, 0, r.why⟩ : Rec) = r by cases r; simp_all]
      exact hC
    · obtain ⟨c0, a⟩ := kc h3
      rw [if_neg h3, lastF, if_neg h3, parse_show c0, if_pos rfl]
      rw [show (⟨r.kind, r.key, r.time, r.cents, 0⟩ : Rec) = r by cases r; simp_all]
      exact hC
  unfold lineE recText
  rw [f1, if_pos rfl]
  unfold lineL
  rw [if_neg (by simp [hb]), if_neg (by simp [hf]), if_neg (by simp), if_pos ⟨rfl, w2⟩, Option.getD_some, hR]

end Go.Ab

/-
  Agencies' files: the first and the last printed line are read; what is printed is parsed.
-/
namespace Go.Ab
open Go.RowKit Go.Proofs

def endText (l : List Rec) : List UInt8 := List.intercalate [32] [[101, 110, 100], Lib.itoa l.length, showF (totF l).1]
theorem end_line {x : Rdr} (hb : x.beg = true) (hf : x.fin = false) (hl : x.rs.length ≤ 1024) (ht : (totF x.rs).2 = 0) (ha : afit (totF x.rs).1 = true) : lineE x (endText x.rs) = .ok { x with fin := true } ∧ (10 : UInt8) ∉ endText x.rs := by
  have h1 := itoa_le (n := (x.rs.length : Int)) (inI_iff.2 (by omega))
  have h2 := show_le24 ha
  obtain ⟨f1, f2⟩ := fields_pieces (P := [[101, 110, 100], Lib.itoa x.rs.length, showF (totF x.rs).1]) (by simp) (fun p hp => by
    simp only [List.mem_cons, List.not_mem_nil, or_false] at hp
    rcases hp with rfl | rfl | rfl
    · exact ⟨by decide, by decide⟩
    · exact itoa_good (by omega)
    · exact show_good) (by rw [int3_len]; simp; omega)
  refine ⟨?_, f2⟩
  unfold lineE endText
  rw [f1, if_pos rfl]
  unfold lineL
  rw [if_neg (by simp [hb]), if_neg (by simp [hf]), Option.getD_some, if_pos ⟨rfl, rfl⟩]
  have hE : lasE x [[101, 110, 100], Lib.itoa x.rs.length, showF (totF x.rs).1] = .ok () := by
    unfold lasE
    dsimp only
    rw [numA_itoa (by omega) (by omega), parse_show ha]
    dsimp only
    rw [if_pos rfl, if_pos ht, if_pos ⟨rfl, rfl⟩]
  rw [hE]

theorem recs_chain : ∀ (L : List Rec) (x : Rdr), x.beg = true → x.fin = false → (∀ r ∈ L, rightF r = 0) → x.rs.length + L.length ≤ 1024 → Chain x (L.map recText) { x with rs := x.rs ++ L }
  | [], x, hb, hf, _, _ => by
    have : ({ x with rs := x.rs ++ [] } : Rdr) = x := by simp
    rw [this]
    exact .nil x
  | r :: L, x, hb, hf, hr, hl => by
    obtain ⟨h1, h2⟩ := rec_line (x := x) (hr r List.mem_cons_self) hb hf (by simp at hl; omega)
    refine .cons hf h2 h1 ?_
    have := recs_chain L { x with rs := x.rs ++ [r] } hb hf (fun q hq => hr q (List.mem_cons_of_mem _ hq)) (by simp at hl ⊢; omega)
    simpa using this

theorem nm_good : ∀ (l : List UInt8) (b : Bool), nmAll b l = true → ∀ c ∈ l, 33 ≤ c.toNat ∧ c.toNat ≤ 126
  | [], _, _, c, hc => by cases hc
  | a :: l, b, h, c, hc => by
    simp only [nmAll, Bool.and_eq_true, Bool.or_eq_true, letB, digB, isDig, decide_eq_true_eq] at h
    rcases List.mem_cons.1 hc with rfl | hc
    · rcases h.1 with h1 | ⟨_, h1 | h1⟩ <;> omega
    · exact nm_good l false h.2 c hc
theorem name_good {s : List UInt8} (h : nameB s = true) : goodP s := by
  unfold nameB at h
  simp only [Bool.and_eq_true, decide_eq_true_eq] at h
  exact ⟨fun e => by rw [e] at h; simp at h, nm_good s true h.2⟩
def headText (f : Fil) : List UInt8 := List.intercalate [32] [[102, 105, 108, 101], f.fr, f.dst, Lib.itoa f.seq]
theorem head_line {f : Fil} (h : headF f = 0) : lineE rd0 (headText f) = .ok ⟨f.fr, f.dst, f.seq, [], true, false⟩ ∧ (10 : UInt8) ∉ headText f := by
  obtain ⟨n1, n2, _, n3, n4⟩ := head_ok h
  have l1 := name_len n1
  have l2 := name_len n2
  have l3 := itoa_le (n := f.seq) (inI_iff.2 (by omega))
  obtain ⟨f1, f2⟩ := fields_pieces (P := [[102, 105, 108, 101], f.fr, f.dst, Lib.itoa f.seq]) (by simp) (fun p hp => by
    simp only [List.mem_cons, List.not_mem_nil, or_false] at hp
    rcases hp with rfl | rfl | rfl | rfl
    · exact ⟨by decide, by decide⟩
    · exact name_good n1
    · exact name_good n2
    · exact itoa_good (by omega)) (by rw [int4_len]; simp; omega)
  refine ⟨?_, f2⟩
  unfold lineE headText
  rw [f1, if_pos rfl]
  unfold lineL
  rw [if_pos (show rd0.beg = false from rfl), Option.getD_some]
  have hE : firE [[102, 105, 108, 101], f.fr, f.dst, Lib.itoa f.seq] = .ok (f.fr, f.dst, f.seq) := by
    unfold firE
    dsimp only
    rw [if_pos rfl, numA_itoa (by omega) (by omega)]
    dsimp only
    rw [if_pos (show headF ⟨f.fr, f.dst, f.seq, true, []⟩ = 0 from h)]
  rw [hE]
  rfl
/-- The lines of a printed file. -/
def linesOf (f : Fil) : List (List UInt8) := headText f :: (f.recs.map recText ++ [endText f.recs])
theorem text_lines (f : Fil) : textF f = flatL (linesOf f) := by
  have hr : ∀ l : List Rec, flatL (l.map recText) = l.flatMap recLine := fun l => by
    induction l with
    | nil => rfl
    | cons r l ih =>
      rw [List.map_cons, List.flatMap_cons, ← ih]
      rfl
  have ha : ∀ A B, flatL (A ++ B) = flatL A ++ flatL B := fun A B => List.flatMap_append
  show headLn f ++ f.recs.flatMap recLine ++ endLn f.recs = flatL ([headText f] ++ (f.recs.map recText ++ [endText f.recs]))
  rw [ha, ha, hr]
  simp [flatL, headLn, headText, endLn, endText, lineF_eq]
theorem file_chain {f : Fil} (h : checkF f = 0) : Chain rd0 (linesOf f) ⟨f.fr, f.dst, f.seq, f.recs, true, true⟩ := by
  obtain ⟨c1, c2, c3, c4, c5⟩ := check_ok h
  obtain ⟨h1, h2⟩ := head_line c1
  refine .cons rfl h2 h1 ?_
  have hc := recs_chain f.recs ⟨f.fr, f.dst, f.seq, [], true, false⟩ rfl rfl c3 (by simpa using c2)
  refine hc.append ?_
  obtain ⟨e1, e2⟩ := end_line (x := ⟨f.fr, f.dst, f.seq, [] ++ f.recs, true, false⟩) rfl rfl (by simpa using c2) (by simpa using c4) (by simpa using c5)
  exact .cons rfl e2 e1 (.nil _)

end Go.Ab

/-
  Agencies' files: what is printed is parsed, and not if its end is missing.
-/
namespace Go.Ab
open Go.RowKit Go.Proofs

theorem flatL_len : ∀ L : List (List UInt8), L.length ≤ (flatL L).length
  | [] => Nat.zero_le _
  | s :: L => by
    have := flatL_len L
    rw [show flatL (s :: L) = s ++ 10 :: flatL L by simp [flatL]]
    simp
    omega
theorem parse_back {f : Fil} (h : checkF f = 0) (hl : (textF f).length ≤ 65536) : parseO (textF f) = (⟨f.fr, f.dst, f.seq, decide (f.recs = []), f.recs⟩, 0, 0) := by
  unfold parseO
  rw [if_neg (by omega), text_lines]
  exact chain_full (file_chain h) rfl _ 0 (by have := flatL_len (linesOf f); omega)
theorem parse_short {f : Fil} {m : Nat} (h : checkF f = 0) (hl : (textF f).length ≤ 65536) (hm : m < (textF f).length) : ∃ j, parseO ((textF f).take m) = (zFil, j, 7) ∧ 0 < j := by
  have hlen : ((textF f).take m).length = m := by rw [List.length_take]; omega
  unfold parseO
  rw [if_neg (by omega), hlen]
  rw [text_lines] at hm ⊢
  exact chain_cut (file_chain h) (m + 1) m 0 (by omega) hm (Int.le_refl _)

end Go.Ab

/-
  Agencies' files: law Back.
-/
namespace Go.Ab
open Go.RowKit Go.Proofs

def encFm (p : Fil × Int) : List PA := [.agg p.1.row, .c (.int .u16 p.2)]
theorem encFm_inj (a b : Fil × Int) (h : encFm a = encFm b) : a = b := by
  obtain ⟨a1, a2⟩ := a
  obtain ⟨b1, b2⟩ := b
  simp only [encFm, List.cons.injEq, DV.agg.injEq, DV.c.injEq, D.int.injEq, and_true, true_and] at h
  rw [Fil.inj _ _ h.1, h.2]

noncomputable section
open Classical

def lBack_m : List PA → Option (List PA) := mE encFm fun p => if decide (p.1.recs.length ≤ 9223372036854775807 ∧ 0 ≤ p.2 ∧ p.2 ≤ 65535) = true then some [.b true] else none

theorem lBack_ok : PureC Tryd.prog Gt 7 lBack_m := by
  refine pure_of_awp (X := ctx Tryd.prog Gt [(9, small_m), (15, aprint_m), (17, aparse_m), (18, rsame_m), (14, alive_m)]) Tryd.func7 rfl rfl (by kernel_rfl) (by kernel_rfl) (AllOk.cons small_ok (AllOk.cons aprint_ok (AllOk.cons aparse_ok (AllOk.cons rsame_ok (AllOk.cons alive_ok AllOk.nil))))).kok ?_
  intro args r h0
  obtain ⟨⟨f, m⟩, rfl, h⟩ := mE_inv h0
  refine ⟨Nat.le_of_ble_eq_true rfl, ?_⟩
  split at h
  · rename_i hc
    obtain ⟨hl, m0, m1⟩ := of_decide_eq_true hc
    dsimp only at hl m0 m1
    cases h
    have f1 := small_at hl
    have f6 := alive_at
    cases hs : smallF f with
    | false =>
      rw [hs] at f1
      obtain ⟨a, b, n, rf, l⟩ := f
      simp only [Fil.row] at f1
      have hc := Nat.zero_add 0
      repeat' (first | (simp only [hc, Tryd.f7, encFm, Fil.row, SX, f1, AB, PL, RG, LP, TY, Nat.reduceEqDiff, Nat.reduceAdd, Nat.reduceSub, Nat.reduceMul, Nat.reduceLT, Nat.reduceLeDiff, Nat.reduceMod, Nat.reduceDiv, reduceCtorEq, Int.reduceEq, Int.reduceNe, Int.reduceLT, Int.reduceLE, Int.reduceNeg, Int.reduceToNat, Int.reduceAdd, Int.reduceSub, Int.reduceMul, ↓reduceIte, forall_const, eq_self, ne_eq, Option.some.injEq, beq_self_eq_true]) | refine fin_ndec (fun hc => ?_) (fun hc => ?_) | refine fin_dec (fun hc => ?_) (fun hc => ?_) | refine cnd_ndec (fun hc => ?_) (fun hc => ?_) | refine cnd_dec' (fun hc => ?_) (fun hc => ?_) | refine fin_nsplit (fun hc => ?_) (fun hc => ?_) | refine fin_split (fun hc => ?_) (fun hc => ?_) | refine cnd_nsplit (fun hc => ?_) (fun hc => ?_) | refine cnd_split (fun hc => ?_) (fun hc => ?_) | refine blk_exit_id ?_)
      all_goals simp [DV.b]
    | true =>
      rw [hs] at f1
      obtain ⟨hok, _⟩ := smallF_ok hs
      have f2 := aprint_at hok
      by_cases hP : (printF f).2 = 0
      · have hk : checkF f = 0 ∧ (textF f).length ≤ 65536 ∧ printF f = (textF f, 0) := by
          unfold printF at hP ⊢
          split at hP
          · rename_i h1; exact absurd hP h1
          · rename_i h1
            split at hP
            · cases hP
            · rename_i h2
              exact ⟨by simpa using h1, by omega, by rw [if_neg h1, if_neg h2]⟩
        obtain ⟨k1, k2, k3⟩ := hk
        rw [k3] at f2
        have f3 := aparse_at (s := textF f) (by omega)
        rw [parse_back k1 k2] at f3
        have hne : textF f ≠ [] := by
          rw [text_lines]
          intro e
          have := flatL_len (linesOf f)
          rw [e] at this
          simp [linesOf] at this
        have hpos := List.length_pos_iff.2 hne
        obtain ⟨M, rfl⟩ : ∃ M : Nat, m = (M : Int) := ⟨m.toNat, by omega⟩
        have hmod := Nat.mod_lt M hpos
        obtain ⟨j, hj, hj0⟩ := parse_short k1 k2 hmod
        have f4 := aparse_at (s := (textF f).take (M % (textF f).length)) (by rw [List.length_take]; omega)
        rw [hj] at f4
        rw [show zFil.row = [.str [], .str [], .int .i64 0, .sl true []] from rfl] at f4
        have f5 := @rsame_at f ⟨f.fr, f.dst, f.seq, decide (f.recs = []), f.recs⟩ (by have := hok.1; omega)
        rw [show sameF f ⟨f.fr, f.dst, f.seq, decide (f.recs = []), f.recs⟩ = true by simp [sameF]] at f5
        have w1 := wI (n := (M : Int)) (by omega) (by omega)
        have t1 : (M : Int).tmod ((textF f).length : Int) = ((M % (textF f).length : Nat) : Int) := by
          rw [Int.tmod_eq_emod_of_nonneg (by omega)]; rfl
        have z1 : (((textF f).length : Int) = 0) = False := eq_false (by omega)
        have w2 := wI (n := ((M % (textF f).length : Nat) : Int)) (by omega) (by omega)
        have k4 : (((M % (textF f).length : Nat) : Int) ≤ ((textF f).length : Int)) = True := eq_true (by omega)
        have j1 : ((0 : Int) < j) = True := eq_true hj0
        have ex : (textF f == []) = false := by simp [hne]
        generalize M % (textF f).length = q at *
        generalize textF f = T at *
        obtain ⟨a, b, n, rf, l⟩ := f
        simp only [Fil.row] at f1 f2 f3 f4 f5
        have hc := Nat.zero_add 0
        repeat' (first | (simp only [hc, Tryd.f7, encFm, Fil.row, SX, f1, f2, f3, f4, f5, f6, w1, t1, z1, w2, nn, k4, j1, ex, List.drop_zero, Nat.sub_zero, Int.toNat_natCast, AB, PL, RG, LP, TY, Nat.reduceEqDiff, Nat.reduceAdd, Nat.reduceSub, Nat.reduceMul, Nat.reduceLT, Nat.reduceLeDiff, Nat.reduceMod, Nat.reduceDiv, reduceCtorEq, Int.reduceEq, Int.reduceNe, Int.reduceLT, Int.reduceLE, Int.reduceNeg, Int.reduceToNat, Int.reduceAdd, Int.reduceSub, Int.reduceMul, ↓reduceIte, forall_const, eq_self, ne_eq, Option.some.injEq, beq_self_eq_true]) | refine fin_ndec (fun hc => ?_) (fun hc => ?_) | refine fin_dec (fun hc => ?_) (fun hc => ?_) | refine cnd_ndec (fun hc => ?_) (fun hc => ?_) | refine cnd_dec' (fun hc => ?_) (fun hc => ?_) | refine fin_nsplit (fun hc => ?_) (fun hc => ?_) | refine fin_split (fun hc => ?_) (fun hc => ?_) | refine cnd_nsplit (fun hc => ?_) (fun hc => ?_) | refine cnd_split (fun hc => ?_) (fun hc => ?_) | refine blk_exit_id ?_)
        all_goals simp [DV.b]
      · have hE : (printF f).1 = [] := by
          unfold printF at hP ⊢
          split
          · rfl
          · rename_i h1
            rw [if_neg h1] at hP
            split
            · rfl
            · rename_i h2
              rw [if_neg h2] at hP
              exact absurd rfl hP
        rw [hE] at f2
        generalize (printF f).2 = e at *
        obtain ⟨a, b, n, rf, l⟩ := f
        simp only [Fil.row] at f1 f2
        have ex : (([] : List UInt8) == []) = true := rfl
        have hc := Nat.zero_add 0
        repeat' (first | (simp only [hc, Tryd.f7, encFm, Fil.row, SX, f1, f2, f6, hP, ex, AB, PL, RG, LP, TY, Nat.reduceEqDiff, Nat.reduceAdd, Nat.reduceSub, Nat.reduceMul, Nat.reduceLT, Nat.reduceLeDiff, Nat.reduceMod, Nat.reduceDiv, reduceCtorEq, Int.reduceEq, Int.reduceNe, Int.reduceLT, Int.reduceLE, Int.reduceNeg, Int.reduceToNat, Int.reduceAdd, Int.reduceSub, Int.reduceMul, ↓reduceIte, forall_const, eq_self, ne_eq, Option.some.injEq, beq_self_eq_true]) | refine fin_ndec (fun hc => ?_) (fun hc => ?_) | refine fin_dec (fun hc => ?_) (fun hc => ?_) | refine cnd_ndec (fun hc => ?_) (fun hc => ?_) | refine cnd_dec' (fun hc => ?_) (fun hc => ?_) | refine fin_nsplit (fun hc => ?_) (fun hc => ?_) | refine fin_split (fun hc => ?_) (fun hc => ?_) | refine cnd_nsplit (fun hc => ?_) (fun hc => ?_) | refine cnd_split (fun hc => ?_) (fun hc => ?_) | refine blk_exit_id ?_)
        all_goals simp [DV.b]
  · cases h

end
end Go.Ab
