/-
  Texts of the layer and of the laws, put together: AbA26, AbA27.
-/
import Derived.Test.YtbcklcmhmbfgnaaGreatDoorAbF33
set_option linter.unusedSimpArgs false
set_option linter.unusedVariables false
set_option maxRecDepth 100000
namespace Go.Ab
open Go.RowKit Go.Proofs
def endText (l : List Rec) : List UInt8 := List.intercalate [32] [[101, 110, 100], Lib.itoa l.length, showF (totF l).1]
theorem end_line {x : Rdr} (hb : x.beg = true) (hf : x.fin = false) (hl : x.rs.length ≤ 1024) (ht : (totF x.rs).2 = 0) (ha : afit (totF x.rs).1 = true) : lineE x (endText x.rs) = .ok { x with fin := true } ∧ (10 : UInt8) ∉ endText x.rs := by
  have h1 := itoa_le (n := (x.rs.length : Int)) (inI_iff.2 (by omega))
  have h2 := show_le24 ha
  obtain ⟨f1, f2⟩ := fields_pieces (P := [[101, 110, 100], Lib.itoa x.rs.length, showF (totF x.rs).1]) (by simp) (fun p hp => by
    simp only [List.mem_cons, List.not_mem_nil, or_false] at hp
    rcases hp with rfl | rfl | rfl
    · exact ⟨by decide, by decide⟩
    · exact itoa_good (by omega)
    · exact show_good) (by rw [int3_len]; simp; omega)
  refine ⟨?_, f2⟩
  unfold lineE endText
  rw [f1, if_pos rfl]
  unfold lineL
  rw [if_neg (by simp [hb]), if_neg (by simp [hf]), Option.getD_some, if_pos ⟨rfl, rfl⟩]
  have hE : lasE x [[101, 110, 100], Lib.itoa x.rs.length, showF (totF x.rs).1] = .ok () := by
    unfold lasE
    dsimp only
    rw [numA_itoa (by omega) (by omega), parse_show ha]
    dsimp only
    rw [if_pos rfl, if_pos ht, if_pos ⟨rfl, rfl⟩]
  rw [hE]
theorem recs_chain : ∀ (L : List Rec) (x : Rdr), x.beg = true → x.fin = false → (∀ r ∈ L, rightF r = 0) → x.rs.length + L.length ≤ 1024 → Chain x (L.map recText) { x with rs := x.rs ++ L }
  | [], x, hb, hf, _, _ => by
    have : ({ x with rs := x.rs ++ [] } : Rdr) = x := by simp
    rw [this]
    exact .nil x
  | r :: L, x, hb, hf, hr, hl => by
    obtain ⟨h1, h2⟩ := rec_line (x := x) (hr r List.mem_cons_self) hb hf (by simp at hl; omega)
    refine .cons hf h2 h1 ?_
    have := recs_chain L { x with rs := x.rs ++ [r] } hb hf (fun q hq => hr q (List.mem_cons_of_mem _ hq)) (by simp at hl ⊢; omega)
    simpa using this
theorem nm_good : ∀ (l : List UInt8) (b : Bool), nmAll b l = true → ∀ c ∈ l, 33 ≤ c.toNat ∧ c.toNat ≤ 126
  | [], _, _, c, hc => by cases hc
  | a :: l, b, h, c, hc => by
    simp only [nmAll, Bool.and_eq_true, Bool.or_eq_true, letB, digB, isDig, decide_eq_true_eq] at h
    rcases List.mem_cons.1 hc with rfl | hc
    · rcases h.1 with h1 | ⟨_, h1 | h1⟩ <;> omega
    exact nm_good l false h.2 c hc
theorem name_good {s : List UInt8} (h : nameB s = true) : goodP s := by
  unfold nameB at h
  simp only [Bool.and_eq_true, decide_eq_true_eq] at h
  exact ⟨fun e => by rw [e] at h; simp at h, nm_good s true h.2⟩
def headText (f : Fil) : List UInt8 := List.intercalate [32] [[102, 105, 108, 101], f.fr, f.dst, Lib.itoa f.seq]
theorem head_line {f : Fil} (h : headF f = 0) : lineE rd0 (headText f) = .ok ⟨f.fr, f.dst, f.seq, [], true, false⟩ ∧ (10 : UInt8) ∉ headText f := by
  obtain ⟨n1, n2, _, n3, n4⟩ := head_ok h
  have l1 := name_len n1
  have l2 := name_len n2
  have l3 := itoa_le (n := f.seq) (inI_iff.2 (by omega))
  obtain ⟨f1, f2⟩ := fields_pieces (P := [[102, 105, 108, 101], f.fr, f.dst, Lib.itoa f.seq]) (by simp) (fun p hp => by
    simp only [List.mem_cons, List.not_mem_nil, or_false] at hp
    rcases hp with rfl | rfl | rfl | rfl
    · exact ⟨by decide, by decide⟩
    · exact name_good n1
    · exact name_good n2
    · exact itoa_good (by omega)) (by rw [int4_len]; simp; omega)
  refine ⟨?_, f2⟩
  unfold lineE headText
  rw [f1, if_pos rfl]
  unfold lineL
  rw [if_pos (show rd0.beg = false from rfl), Option.getD_some]
  have hE : firE [[102, 105, 108, 101], f.fr, f.dst, Lib.itoa f.seq] = .ok (f.fr, f.dst, f.seq) := by
    unfold firE
    dsimp only
    rw [if_pos rfl, numA_itoa (by omega) (by omega)]
    dsimp only
    rw [if_pos (show headF ⟨f.fr, f.dst, f.seq, true, []⟩ = 0 from h)]
  rw [hE]
  rfl
def linesOf (f : Fil) : List (List UInt8) := headText f :: (f.recs.map recText ++ [endText f.recs])
theorem text_lines (f : Fil) : textF f = flatL (linesOf f) := by
  have hr : ∀ l : List Rec, flatL (l.map recText) = l.flatMap recLine := fun l => by
    induction l with
    | nil => rfl
    | cons r l ih =>
      rw [List.map_cons, List.flatMap_cons, ← ih]
      rfl
  have ha : ∀ A B, flatL (A ++ B) = flatL A ++ flatL B := fun A B => List.flatMap_append
  show headLn f ++ f.recs.flatMap recLine ++ endLn f.recs = flatL ([headText f] ++ (f.recs.map recText ++ [endText f.recs]))
  rw [ha, ha, hr]
  simp [flatL, headLn, headText, endLn, endText, lineF_eq]
theorem file_chain {f : Fil} (h : checkF f = 0) : Chain rd0 (linesOf f) ⟨f.fr, f.dst, f.seq, f.recs, true, true⟩ := by
  obtain ⟨c1, c2, c3, c4, c5⟩ := check_ok h
  obtain ⟨h1, h2⟩ := head_line c1
  refine .cons rfl h2 h1 ?_
  have hc := recs_chain f.recs ⟨f.fr, f.dst, f.seq, [], true, false⟩ rfl rfl c3 (by simpa using c2)
  refine hc.append ?_
  obtain ⟨e1, e2⟩ := end_line (x := ⟨f.fr, f.dst, f.seq, [] ++ f.recs, true, false⟩) rfl rfl (by simpa using c2) (by simpa using c4) (by simpa using c5)
  exact .cons rfl e2 e1 (.nil _)
end Go.Ab
namespace Go.Ab
open Go.RowKit Go.Proofs
theorem flatL_len : ∀ L : List (List UInt8), L.length ≤ (flatL L).length
  | [] => Nat.zero_le _
  | s :: L => by
    have := flatL_len L
    rw [show flatL (s :: L) = s ++ 10 :: flatL L by simp [flatL]]
    simp
    omega
theorem parse_back {f : Fil} (h : checkF f = 0) (hl : (textF f).length ≤ 65536) : parseO (textF f) = (⟨f.fr, f.dst, f.seq, decide (f.recs = []), f.recs⟩, 0, 0) := by
  unfold parseO
  rw [if_neg (by omega), text_lines]
  exact chain_full (file_chain h) rfl _ 0 (by have := flatL_len (linesOf f); omega)
end Go.Ab
