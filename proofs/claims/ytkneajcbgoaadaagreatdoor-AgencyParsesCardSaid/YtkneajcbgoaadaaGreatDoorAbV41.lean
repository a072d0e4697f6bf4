/-
  Texts of the layer and of the laws, put together: AbA33. No law is stated here.
-/
import Derived.Test.YtkneajcbgoaadaaGreatDoorAbV40
set_option linter.unusedSimpArgs false
set_option linter.unusedVariables false
set_option maxRecDepth 100000

/-
  Agencies' files: the reference's reader: a line, a text.
-/
namespace Go.Ab
open Go.RowKit Go.Proofs

/-- The records' cell: they lie in object k. -/
def rcX (k : Nat) (rs : List Rec) : C1 := if rs = [] then .d (.sl true []) else .own k (rs.map Rec.row)
/-- The cells of a reader's state. -/
def pce (x : Rdr) (rc : C1) : List C1 := [.d (.str x.fr), .d (.str x.dst), .d (.int .i64 x.seq), rc, .d (.bool x.fin)]
abbrev tops5 : List C1 := [.top, .top, .top, .top, .top]
def hq (k : Nat) (x : Rdr) : Hp := if x.rs = [] then [.box zF, .box zF, .box (pce x (.d (.sl true [])))] else .box zF :: .box zF :: .box (pce x (.own k (x.rs.map Rec.row))) :: (List.replicate (k - 3) (.box tops5) ++ [.tok x.rs.length 5 none])
def Rdr.withF (x : Rdr) (f : Fil) : Rdr := { x with fr := f.fr, dst := f.dst, seq := f.seq, rs := f.recs }

/-- What a line does: an error (was a record appended?), or the next state. -/
inductive NxO where
  | same (e : Int)
  | file (f : Fil) (e : Int)
  | last (e : Int)
  | rcd (r : Rec) (e : Int)
def nxL (x : Rdr) (i : Int) (l : List (List UInt8)) : NxO :=
  if x.fin = true ∨ l = [] then .same 5
  else if i = 0 then .file (firR l).1 (firR l).2
  else if l[0]? = some [101, 110, 100] then .last (lasR x.rs l)
  else .rcd (midR (x.rs.length + 1) l).1 (midR (x.rs.length + 1) l).2
def nxF (x : Rdr) (i : Int) (s : List UInt8) : NxO := if (fieldsF s).2 ≠ 0 then .same (fieldsF s).2 else nxL x i ((fieldsF s).1.getD [])
/-- The state behind it. -/
def nxS (x : Rdr) : NxO → Rdr
  | .same _ => x
  | .file f _ => x.withF f
  | .last _ => { x with fin := true }
  | .rcd r _ => { x with rs := x.rs ++ [r] }
def NxO.err : NxO → Int
  | .same e => e
  | .file _ e => e
  | .last e => e
  | .rcd _ e => e
/-- Where the records lie then; G: how many objects stand behind the state's. -/
def nxK (k : Nat) (x : Rdr) (G : Hp) : Nat := if x.rs = [] then 6 + G.length else k
def nxB (x : Rdr) (o : NxO) (P : List C1) : Hp := match o with
  | .same _ => [.box P, .box P]
  | .file f _ => [.box P, .box P, .box (f.row.map .d)]
  | .last _ => [.box P, .box P]
  | .rcd r _ => [.box P, .box P, .box (r.row.map .d)] ++ (if x.rs = [] then [.tok 1 5 none] else [])
def nxP (k : Nat) (x : Rdr) (G : Hp) (o : NxO) : List C1 := pce (nxS x o) (rcX (nxK k x G) (nxS x o).rs)
def nxH (k : Nat) (x : Rdr) (G : Hp) (o : NxO) : Hp := (match o with
  | .rcd _ _ => if x.rs = [] then hq k x else (hq k x).set k (.tok (x.rs.length + 1) 5 none)
  | _ => hq k x) ++ G ++ nxB x o (nxP k x G o)
def okG : Hp → Prop
  | [] => True
  | [.box [_, _, _, _, _]] => True
  | _ => False
structure NxA where
  x : Rdr
  k : Nat
  i : Int
  s : List UInt8
  G : Hp
def nxR (a : NxA) (args : List AV) (h : Hp) : Prop := args = [.v (.agg (pce a.x (rcX a.k a.x.rs))), AV.i a.i, AV.s a.s] ∧ h = hq a.k a.x ++ a.G ∧ a.x.beg = false ∧ (a.k = 6 ∨ (a.k = 7 ∧ a.x.rs ≠ [])) ∧ okG a.G
theorem nxR_inj {a b : NxA} {args : List AV} {h : Hp} (ha : nxR a args h) (hb : nxR b args h) : b = a := by
  obtain ⟨h1, g1, x1, k1, _⟩ := ha
  obtain ⟨h2, g2, x2, k2, _⟩ := hb
  rw [h1] at h2
  simp only [List.cons.injEq, AV.v.injEq, V.c.injEq, V.agg.injEq, C1.d.injEq, D.str.injEq, D.int.injEq, and_true, true_and] at h2
  obtain ⟨h2, h3, h4⟩ := h2
  unfold pce at h2
  simp only [List.cons.injEq, C1.d.injEq, D.str.injEq, D.int.injEq, D.bool.injEq, and_true, true_and] at h2
  obtain ⟨e1, e2, e3, e4, e5⟩ := h2
  obtain ⟨x, k, i, s, G⟩ := a
  obtain ⟨y, l, j, t, H⟩ := b
  dsimp only at *
  have hr : x.rs = y.rs ∧ k = l := by
    unfold rcX at e4
    split at e4
    · rename_i h0
      split at e4
      · rename_i h4
        refine ⟨by rw [h0, h4], ?_⟩
        rcases k1 with k1 | ⟨_, k1⟩
        · rcases k2 with k2 | ⟨_, k2⟩
          · omega
          · exact absurd h4 k2
        · exact absurd h0 k1
      · cases e4
    · split at e4
      · cases e4
      · simp only [C1.own.injEq] at e4
        exact ⟨mapR_inj.1 e4.2, e4.1⟩
  obtain ⟨hr, rfl⟩ := hr
  have hxy : y = x := by
    cases x; cases y
    simp_all
  subst hxy
  have hG : H = G := by
    rw [g1] at g2
    exact (List.append_cancel_left g2).symm
  subst hG
  rw [h3, h4]

noncomputable section
open Classical

def rnext_k : List AV → Hp → Option COut := kR nxR fun a => if a.x.rs.length ≤ 1024 ∧ (a.i = 0 → a.x.rs = []) then some (.ret (.tup [.agg (nxP a.k a.x a.G (nxF a.x a.i a.s)), .c (.d (.int .i64 (nxF a.x a.i a.s).err))]) (nxH a.k a.x a.G (nxF a.x a.i a.s))) else none

theorem firR_nil (l : List (List UInt8)) : (firR l).1.recs = [] ∧ (firR l).1.rf = true := by
  unfold firR
  split
  · split
    · split <;> exact ⟨rfl, rfl⟩
    · exact ⟨rfl, rfl⟩
  · exact ⟨rfl, rfl⟩

theorem slT_F (o : Option (List (List UInt8))) : ∃ f, slT false o = .sl f ((o.getD []).map rowS) := by
  cases o with
  | none => exact ⟨_, rfl⟩
  | some l => exact ⟨_, rfl⟩

set_option maxHeartbeats 4000000 in
theorem rnext_kok : ImpC Tryz.prog Gt 11 rnext_k := by
  intro args h out h0
  refine fok_of_awpS (X := ctxK Tryz.prog Gt [(24, rfields_m), (25, rfirst_m), (26, rlast_m), (27, rmid_m)] []) Tryz.func11 rfl rfl (by kernel_rfl) (by kernel_rfl) (kok_of (AllOk.cons rfields_ok (AllOk.cons rfirst_ok (AllOk.cons rlast_ok (AllOk.cons rmid_ok AllOk.nil)))) AllK.nil) ?_ ?_
  · obtain ⟨a, ⟨rfl, _⟩, _⟩ := kR_inv h0
    exact Nat.le_of_ble_eq_true rfl
  obtain ⟨⟨x, k, i, s, G⟩, ⟨rfl, rfl, hb, hk, hG⟩, hg⟩ := kR_inv h0
  dsimp only at hg hb hk hG ⊢
  split at hg
  · rename_i hok
    obtain ⟨hrs, hi0⟩ := hok
    simp only [Option.some.injEq] at hg
    obtain ⟨fr, dst, seq, rs, beg, fin⟩ := x
    dsimp only at hrs hi0 hb hk
    obtain ⟨ff, hff⟩ := slT_F (fieldsF s).1
    have f1 : rfields_m [.c (.str s)] = some [.c (.sl ff (((fieldsF s).1.getD []).map rowS)), .c (.int .i64 (fieldsF s).2)] := by rw [← hff]; rfl
    clear hff h0
    dsimp only
    have hG2 : G = [] ∨ ∃ c1 c2 c3 c4 c5, G = [.box [c1, c2, c3, c4, c5]] := by
      unfold okG at hG
      split at hG
      · exact .inl rfl
      · exact .inr ⟨_, _, _, _, _, rfl⟩
      · exact hG.elim
    clear hG
    by_cases hr0 : rs = []
    · obtain rfl : k = 6 := by
        rcases hk with hk | ⟨_, hk⟩
        · exact hk
        · exact absurd hr0 hk
      rcases hG2 with rfl | ⟨c1, c2, c3, c4, c5, rfl⟩
      · subst hr0
        have hqx : hq 6 ⟨fr, dst, seq, [], beg, fin⟩ = [.box zF, .box zF, .box [.d (.str fr), .d (.str dst), .d (.int .i64 seq), .d (.sl true []), .d (.bool fin)]] := rfl
        have rcx : rcX 6 [] = .d (.sl true []) := rfl
        have nkx : nxK 6 ⟨fr, dst, seq, [], beg, fin⟩ [] = 6 := rfl
        have rcn : rcX 6 [] = .d (.sl true []) := rfl
        simp only [rcx]
        rw [hqx]
        simp only [List.cons_append, List.nil_append, List.append_nil]
        have e1 : pce ⟨fr, dst, seq, [], beg, fin⟩ (.d (.sl true [])) = [.d (.str fr), .d (.str dst), .d (.int .i64 seq), .d (.sl true []), .d (.bool fin)] := rfl
        rw [e1]
        by_cases he : (fieldsF s).2 ≠ 0
        · have hO : nxF ⟨fr, dst, seq, [], beg, fin⟩ i s = .same (fieldsF s).2 := if_pos he
          rw [hO] at hg
          simp only [nxP, nxS, nxH, nxB, NxO.err, nkx, rcx, rcn, hqx, List.cons_append, List.nil_append, List.append_nil, e1] at hg
          subst hg
          have hc := Nat.zero_add 0
          repeat' (first | simp only [hc, AS, Tryz.f11, KX, NP, SX, f1, he, AB, PL, RG, LP, TY, simprocAttr, ↓reduceIte, forall_const, eq_self, ne_eq, Option.some.injEq, beq_self_eq_true] | ((first | apply fin_ndec | apply fin_dec | apply cnd_ndec | apply cnd_dec' | apply fin_nsplit | apply fin_split | apply cnd_nsplit | apply cnd_split) <;> intro hc) | refine seqS_id ?_ | refine blk_exit_id ?_)
          all_goals exact ⟨_, rfl, rfl⟩
        have he : (fieldsF s).2 = 0 := Classical.not_not.1 he
        rw [he] at f1
        have hO : nxF ⟨fr, dst, seq, [], beg, fin⟩ i s = nxL ⟨fr, dst, seq, [], beg, fin⟩ i ((fieldsF s).1.getD []) := if_neg (by simp [he])
        have hl := fields_lin he
        rw [hO] at hg
        clear hO he
        generalize (fieldsF s).1.getD [] = l at *
        have l1 := @lenS l
        by_cases hf : fin = true
        · subst hf
          have hO : nxL ⟨fr, dst, seq, [], beg, true⟩ i l = .same 5 := if_pos (.inl rfl)
          rw [hO] at hg
          simp only [nxP, nxS, nxH, nxB, NxO.err, nkx, rcx, rcn, hqx, List.cons_append, List.nil_append, List.append_nil, e1] at hg
          subst hg
          have hc := Nat.zero_add 0
          repeat' (first | simp only [hc, AS, Tryz.f11, KX, NP, SX, f1, AB, PL, RG, LP, TY, simprocAttr, ↓reduceIte, forall_const, eq_self, ne_eq, Option.some.injEq, beq_self_eq_true] | ((first | apply fin_ndec | apply fin_dec | apply cnd_ndec | apply cnd_dec' | apply fin_nsplit | apply fin_split | apply cnd_nsplit | apply cnd_split) <;> intro hc) | refine seqS_id ?_ | refine blk_exit_id ?_)
          all_goals exact ⟨_, rfl, rfl⟩
        have hf : fin = false := by simpa using hf
        subst hf
        by_cases hl0 : l = []
        · subst hl0
          have hO : nxL ⟨fr, dst, seq, [], beg, false⟩ i [] = .same 5 := if_pos (.inr rfl)
          rw [hO] at hg
          simp only [nxP, nxS, nxH, nxB, NxO.err, nkx, rcx, rcn, hqx, List.cons_append, List.nil_append, List.append_nil, e1] at hg
          subst hg
          have ln0 : (((([] : List (List UInt8)).map rowS).length : Nat) : Int) = 0 := rfl
          have hc := Nat.zero_add 0
          repeat' (first | simp only [hc, AS, Tryz.f11, KX, NP, SX, f1, ln0, AB, PL, RG, LP, TY, simprocAttr, ↓reduceIte, forall_const, eq_self, ne_eq, Option.some.injEq, beq_self_eq_true] | ((first | apply fin_ndec | apply fin_dec | apply cnd_ndec | apply cnd_dec' | apply fin_nsplit | apply fin_split | apply cnd_nsplit | apply cnd_split) <;> intro hc) | refine seqS_id ?_ | refine blk_exit_id ?_)
          all_goals exact ⟨_, rfl, rfl⟩
        have hlp := List.length_pos_iff.2 hl0
        have ln0 : ((l.length : Int) = 0) = False := eq_false (by omega)
        by_cases hi : i = 0
        · subst hi
          have hO : nxL ⟨fr, dst, seq, [], beg, false⟩ 0 l = .file (firR l).1 (firR l).2 := by
            unfold nxL
            rw [if_neg (by simp [hl0]), if_pos rfl]
          rw [hO] at hg
          obtain ⟨g1, g2⟩ := firR_nil l
          have f2 : rfirst_m [.c (.sl ff (l.map rowS))] = some [.agg (firR l).1.row, .i (firR l).2] := by
            rw [rfirst_m, show ([.c (.sl ff (l.map rowS))] : List PA) = encLs (ff, l) from rfl, mE_eq encLs_inj, if_pos hl]
          generalize firR l = M at *
          obtain ⟨⟨y1, y2, y3, y4, y5⟩, e⟩ := M
          dsimp only at g1 g2 f2 hg
          subst g1 g2
          have e2 : pce ⟨y1, y2, y3, [], beg, false⟩ (.d (.sl true [])) = [.d (.str y1), .d (.str y2), .d (.int .i64 y3), .d (.sl true []), .d (.bool false)] := rfl
          simp only [nxP, nxS, nxH, nxB, NxO.err, nkx, rcx, rcn, hqx, List.cons_append, List.nil_append, List.append_nil, Rdr.withF, e2, Fil.row, List.map_nil, List.map_cons] at hg f2
          subst hg
          generalize l.map rowS = L at *
          have hc := Nat.zero_add 0
          repeat' (first | simp only [hc, AS, Tryz.f11, KX, NP, SX, f1, l1, ln0, f2, AB, PL, RG, LP, TY, simprocAttr, ↓reduceIte, forall_const, eq_self, ne_eq, Option.some.injEq, beq_self_eq_true] | ((first | apply fin_ndec | apply fin_dec | apply cnd_ndec | apply cnd_dec' | apply fin_nsplit | apply fin_split | apply cnd_nsplit | apply cnd_split) <;> intro hc) | refine seqS_id ?_ | refine blk_exit_id ?_)
          all_goals exact ⟨_, rfl, rfl⟩
        have hi' : (i = 0) = False := eq_false hi
        obtain ⟨a, ha⟩ : ∃ a, l[0]? = some a := ⟨l[0], List.getElem?_eq_getElem hlp⟩
        have i0 := rowS1 ha
        by_cases hE : a = [101, 110, 100]
        · have ce1 : (a == [101, 110, 100]) = true := by simp [hE]
          have hO : nxL ⟨fr, dst, seq, [], beg, false⟩ i l = .last (lasR [] l) := by
            unfold nxL
            rw [if_neg (by simp [hl0]), if_neg hi, if_pos (by rw [ha, hE])]
          rw [hO] at hg
          have e2 : pce ⟨fr, dst, seq, [], beg, true⟩ (.d (.sl true [])) = [.d (.str fr), .d (.str dst), .d (.int .i64 seq), .d (.sl true []), .d (.bool true)] := rfl
          simp only [nxP, nxS, nxH, nxB, NxO.err, nkx, rcx, rcn, hqx, List.cons_append, List.nil_append, List.append_nil, e2] at hg
          subst hg
          have f2 : rlast_m [.c (.sl ff (l.map rowS)), .agg [.str fr, .str dst, .int .i64 seq, .sl true []]] = some [.i (lasR [] l)] := by
            rw [rlast_m, show ([.c (.sl ff (l.map rowS)), .agg [.str fr, .str dst, .int .i64 seq, .sl true []]] : List PA) = encLF ((ff, l), ⟨fr, dst, seq, true, []⟩) from rfl, mE_eq encLF_inj, if_pos ⟨hl, hrs⟩]
          generalize lasR [] l = e at *
          generalize l.map rowS = L at *
          have hc := Nat.zero_add 0
          repeat' (first | simp only [hc, AS, Tryz.f11, KX, NP, SX, f1, l1, ln0, hi', i0, ce1, f2, AB, PL, RG, LP, TY, simprocAttr, ↓reduceIte, forall_const, eq_self, ne_eq, Option.some.injEq, beq_self_eq_true] | ((first | apply fin_ndec | apply fin_dec | apply cnd_ndec | apply cnd_dec' | apply fin_nsplit | apply fin_split | apply cnd_nsplit | apply cnd_split) <;> intro hc) | refine seqS_id ?_ | refine blk_exit_id ?_)
          all_goals exact ⟨_, rfl, rfl⟩
        · have ce1 : (a == [101, 110, 100]) = false := by simp [hE]
          have hO : nxL ⟨fr, dst, seq, [], beg, false⟩ i l = .rcd (midR (0 + 1) l).1 (midR (0 + 1) l).2 := by
            unfold nxL
            rw [if_neg (by simp [hl0]), if_neg hi, if_neg (by rw [ha]; exact fun h => hE (Option.some.inj h))]
            all_goals rfl
          rw [hO] at hg
          have f2 : rmid_m [.c (.sl ff (l.map rowS)), .c (.int .i64 (0 + 1))] = some [.agg (midR (0 + 1) l).1.row, .i (midR (0 + 1) l).2] := by
            rw [rmid_m, show ([.c (.sl ff (l.map rowS)), .c (.int .i64 (0 + 1))] : List PA) = encLI ((ff, l), 0 + 1) from rfl, mE_eq encLI_inj, if_pos hl]
          generalize midR (0 + 1) l = M at *
          obtain ⟨⟨x1, x2, x3, x4, x5⟩, e⟩ := M
          have lN : (([] : List (List D)).length : Int) = 0 := rfl
          have w1 := wI (n := 1) (by decide) (by decide)
          rw [Int.zero_add] at f2
          have ap := fun (h : Hp) (x1 x2 x3 x4 x5 : D) => @apSl_one h 5 48 [x1, x2, x3, x4, x5] rfl (by decide)
          have rcy : ∀ r, rcX 6 ([] ++ [r]) = .own 6 [r.row] := fun r => rfl
          simp only [nxP, nxS, nxH, nxB, NxO.err, nkx, rcy, hqx, List.cons_append, List.nil_append, List.append_nil, pce, Rec.row, List.map_cons, List.map_nil, if_true] at hg
          simp only [Rec.row] at f2
          subst hg
          generalize l.map rowS = L at *
          have hc := Nat.zero_add 0
          repeat' (first | simp only [hc, AS, Tryz.f11, KX, NP, SX, f1, l1, ln0, hi', i0, ce1, lN, w1, f2, ap, AB, PL, RG, LP, TY, simprocAttr, ↓reduceIte, forall_const, eq_self, ne_eq, Option.some.injEq, beq_self_eq_true] | ((first | apply fin_ndec | apply fin_dec | apply cnd_ndec | apply cnd_dec' | apply fin_nsplit | apply fin_split | apply cnd_nsplit | apply cnd_split) <;> intro hc) | refine seqS_id ?_ | refine blk_exit_id ?_)
          all_goals exact ⟨_, rfl, rfl⟩
      · subst hr0
        have hqx : hq 6 ⟨fr, dst, seq, [], beg, fin⟩ = [.box zF, .box zF, .box [.d (.str fr), .d (.str dst), .d (.int .i64 seq), .d (.sl true []), .d (.bool fin)]] := rfl
        have rcx : rcX 6 [] = .d (.sl true []) := rfl
        have nkx : nxK 6 ⟨fr, dst, seq, [], beg, fin⟩ [.box [c1, c2, c3, c4, c5]] = 7 := rfl
        have rcn : rcX 7 [] = .d (.sl true []) := rfl
        simp only [rcx]
        rw [hqx]
        simp only [List.cons_append, List.nil_append, List.append_nil]
        have e1 : pce ⟨fr, dst, seq, [], beg, fin⟩ (.d (.sl true [])) = [.d (.str fr), .d (.str dst), .d (.int .i64 seq), .d (.sl true []), .d (.bool fin)] := rfl
        rw [e1]
        by_cases he : (fieldsF s).2 ≠ 0
        · have hO : nxF ⟨fr, dst, seq, [], beg, fin⟩ i s = .same (fieldsF s).2 := if_pos he
          rw [hO] at hg
          simp only [nxP, nxS, nxH, nxB, NxO.err, nkx, rcx, rcn, hqx, List.cons_append, List.nil_append, List.append_nil, e1] at hg
          subst hg
          have hc := Nat.zero_add 0
          repeat' (first | simp only [hc, AS, Tryz.f11, KX, NP, SX, f1, he, AB, PL, RG, LP, TY, simprocAttr, ↓reduceIte, forall_const, eq_self, ne_eq, Option.some.injEq, beq_self_eq_true] | ((first | apply fin_ndec | apply fin_dec | apply cnd_ndec | apply cnd_dec' | apply fin_nsplit | apply fin_split | apply cnd_nsplit | apply cnd_split) <;> intro hc) | refine seqS_id ?_ | refine blk_exit_id ?_)
          all_goals exact ⟨_, rfl, rfl⟩
        have he : (fieldsF s).2 = 0 := Classical.not_not.1 he
        rw [he] at f1
        have hO : nxF ⟨fr, dst, seq, [], beg, fin⟩ i s = nxL ⟨fr, dst, seq, [], beg, fin⟩ i ((fieldsF s).1.getD []) := if_neg (by simp [he])
        have hl := fields_lin he
        rw [hO] at hg
        clear hO he
        generalize (fieldsF s).1.getD [] = l at *
        have l1 := @lenS l
        by_cases hf : fin = true
        · subst hf
          have hO : nxL ⟨fr, dst, seq, [], beg, true⟩ i l = .same 5 := if_pos (.inl rfl)
          rw [hO] at hg
          simp only [nxP, nxS, nxH, nxB, NxO.err, nkx, rcx, rcn, hqx, List.cons_append, List.nil_append, List.append_nil, e1] at hg
          subst hg
          have hc := Nat.zero_add 0
          repeat' (first | simp only [hc, AS, Tryz.f11, KX, NP, SX, f1, AB, PL, RG, LP, TY, simprocAttr, ↓reduceIte, forall_const, eq_self, ne_eq, Option.some.injEq, beq_self_eq_true] | ((first | apply fin_ndec | apply fin_dec | apply cnd_ndec | apply cnd_dec' | apply fin_nsplit | apply fin_split | apply cnd_nsplit | apply cnd_split) <;> intro hc) | refine seqS_id ?_ | refine blk_exit_id ?_)
          all_goals exact ⟨_, rfl, rfl⟩
        have hf : fin = false := by simpa using hf
        subst hf
        by_cases hl0 : l = []
        · subst hl0
          have hO : nxL ⟨fr, dst, seq, [], beg, false⟩ i [] = .same 5 := if_pos (.inr rfl)
          rw [hO] at hg
          simp only [nxP, nxS, nxH, nxB, NxO.err, nkx, rcx, rcn, hqx, List.cons_append, List.nil_append, List.append_nil, e1] at hg
          subst hg
          have ln0 : (((([] : List (List UInt8)).map rowS).length : Nat) : Int) = 0 := rfl
          have hc := Nat.zero_add 0
          repeat' (first | simp only [hc, AS, Tryz.f11, KX, NP, SX, f1, ln0, AB, PL, RG, LP, TY, simprocAttr, ↓reduceIte, forall_const, eq_self, ne_eq, Option.some.injEq, beq_self_eq_true] | ((first | apply fin_ndec | apply fin_dec | apply cnd_ndec | apply cnd_dec' | apply fin_nsplit | apply fin_split | apply cnd_nsplit | apply cnd_split) <;> intro hc) | refine seqS_id ?_ | refine blk_exit_id ?_)
          all_goals exact ⟨_, rfl, rfl⟩
        have hlp := List.length_pos_iff.2 hl0
        have ln0 : ((l.length : Int) = 0) = False := eq_false (by omega)
        by_cases hi : i = 0
        · subst hi
          have hO : nxL ⟨fr, dst, seq, [], beg, false⟩ 0 l = .file (firR l).1 (firR l).2 := by
            unfold nxL
            rw [if_neg (by simp [hl0]), if_pos rfl]
          rw [hO] at hg
          obtain ⟨g1, g2⟩ := firR_nil l
          have f2 : rfirst_m [.c (.sl ff (l.map rowS))] = some [.agg (firR l).1.row, .i (firR l).2] := by
            rw [rfirst_m, show ([.c (.sl ff (l.map rowS))] : List PA) = encLs (ff, l) from rfl, mE_eq encLs_inj, if_pos hl]
          generalize firR l = M at *
          obtain ⟨⟨y1, y2, y3, y4, y5⟩, e⟩ := M
          dsimp only at g1 g2 f2 hg
          subst g1 g2
          have e2 : pce ⟨y1, y2, y3, [], beg, false⟩ (.d (.sl true [])) = [.d (.str y1), .d (.str y2), .d (.int .i64 y3), .d (.sl true []), .d (.bool false)] := rfl
          simp only [nxP, nxS, nxH, nxB, NxO.err, nkx, rcx, rcn, hqx, List.cons_append, List.nil_append, List.append_nil, Rdr.withF, e2, Fil.row, List.map_nil, List.map_cons] at hg f2
          subst hg
          generalize l.map rowS = L at *
          have hc := Nat.zero_add 0
          repeat' (first | simp only [hc, AS, Tryz.f11, KX, NP, SX, f1, l1, ln0, f2, AB, PL, RG, LP, TY, simprocAttr, ↓reduceIte, forall_const, eq_self, ne_eq, Option.some.injEq, beq_self_eq_true] | ((first | apply fin_ndec | apply fin_dec | apply cnd_ndec | apply cnd_dec' | apply fin_nsplit | apply fin_split | apply cnd_nsplit | apply cnd_split) <;> intro hc) | refine seqS_id ?_ | refine blk_exit_id ?_)
          all_goals exact ⟨_, rfl, rfl⟩
        have hi' : (i = 0) = False := eq_false hi
        obtain ⟨a, ha⟩ : ∃ a, l[0]? = some a := ⟨l[0], List.getElem?_eq_getElem hlp⟩
        have i0 := rowS1 ha
        by_cases hE : a = [101, 110, 100]
        · have ce1 : (a == [101, 110, 100]) = true := by simp [hE]
          have hO : nxL ⟨fr, dst, seq, [], beg, false⟩ i l = .last (lasR [] l) := by
            unfold nxL
            rw [if_neg (by simp [hl0]), if_neg hi, if_pos (by rw [ha, hE])]
          rw [hO] at hg
          have e2 : pce ⟨fr, dst, seq, [], beg, true⟩ (.d (.sl true [])) = [.d (.str fr), .d (.str dst), .d (.int .i64 seq), .d (.sl true []), .d (.bool true)] := rfl
          simp only [nxP, nxS, nxH, nxB, NxO.err, nkx, rcx, rcn, hqx, List.cons_append, List.nil_append, List.append_nil, e2] at hg
          subst hg
          have f2 : rlast_m [.c (.sl ff (l.map rowS)), .agg [.str fr, .str dst, .int .i64 seq, .sl true []]] = some [.i (lasR [] l)] := by
            rw [rlast_m, show ([.c (.sl ff (l.map rowS)), .agg [.str fr, .str dst, .int .i64 seq, .sl true []]] : List PA) = encLF ((ff, l), ⟨fr, dst, seq, true, []⟩) from rfl, mE_eq encLF_inj, if_pos ⟨hl, hrs⟩]
          generalize lasR [] l = e at *
          generalize l.map rowS = L at *
          have hc := Nat.zero_add 0
          repeat' (first | simp only [hc, AS, Tryz.f11, KX, NP, SX, f1, l1, ln0, hi', i0, ce1, f2, AB, PL, RG, LP, TY, simprocAttr, ↓reduceIte, forall_const, eq_self, ne_eq, Option.some.injEq, beq_self_eq_true] | ((first | apply fin_ndec | apply fin_dec | apply cnd_ndec | apply cnd_dec' | apply fin_nsplit | apply fin_split | apply cnd_nsplit | apply cnd_split) <;> intro hc) | refine seqS_id ?_ | refine blk_exit_id ?_)
          all_goals exact ⟨_, rfl, rfl⟩
        · have ce1 : (a == [101, 110, 100]) = false := by simp [hE]
          have hO : nxL ⟨fr, dst, seq, [], beg, false⟩ i l = .rcd (midR (0 + 1) l).1 (midR (0 + 1) l).2 := by
            unfold nxL
            rw [if_neg (by simp [hl0]), if_neg hi, if_neg (by rw [ha]; exact fun h => hE (Option.some.inj h))]
            all_goals rfl
          rw [hO] at hg
          have f2 : rmid_m [.c (.sl ff (l.map rowS)), .c (.int .i64 (0 + 1))] = some [.agg (midR (0 + 1) l).1.row, .i (midR (0 + 1) l).2] := by
            rw [rmid_m, show ([.c (.sl ff (l.map rowS)), .c (.int .i64 (0 + 1))] : List PA) = encLI ((ff, l), 0 + 1) from rfl, mE_eq encLI_inj, if_pos hl]
          generalize midR (0 + 1) l = M at *
          obtain ⟨⟨x1, x2, x3, x4, x5⟩, e⟩ := M
          have lN : (([] : List (List D)).length : Int) = 0 := rfl
          have w1 := wI (n := 1) (by decide) (by decide)
          rw [Int.zero_add] at f2
          have ap := fun (h : Hp) (x1 x2 x3 x4 x5 : D) => @apSl_one h 5 48 [x1, x2, x3, x4, x5] rfl (by decide)
          have rcy : ∀ r, rcX 7 ([] ++ [r]) = .own 7 [r.row] := fun r => rfl
          simp only [nxP, nxS, nxH, nxB, NxO.err, nkx, rcy, hqx, List.cons_append, List.nil_append, List.append_nil, pce, Rec.row, List.map_cons, List.map_nil, if_true] at hg
          simp only [Rec.row] at f2
          subst hg
          generalize l.map rowS = L at *
          have hc := Nat.zero_add 0
          repeat' (first | simp only [hc, AS, Tryz.f11, KX, NP, SX, f1, l1, ln0, hi', i0, ce1, lN, w1, f2, ap, AB, PL, RG, LP, TY, simprocAttr, ↓reduceIte, forall_const, eq_self, ne_eq, Option.some.injEq, beq_self_eq_true] | ((first | apply fin_ndec | apply fin_dec | apply cnd_ndec | apply cnd_dec' | apply fin_nsplit | apply fin_split | apply cnd_nsplit | apply cnd_split) <;> intro hc) | refine seqS_id ?_ | refine blk_exit_id ?_)
          all_goals exact ⟨_, rfl, rfl⟩
    · have hk : k = 6 ∨ k = 7 := by
        rcases hk with hk | ⟨hk, _⟩
        · exact .inl hk
        · exact .inr hk
      rcases hk with rfl | rfl
      · rcases hG2 with rfl | ⟨c1, c2, c3, c4, c5, rfl⟩
        · skip
          have hqx : hq 6 ⟨fr, dst, seq, rs, beg, fin⟩ = [.box zF, .box zF, .box [.d (.str fr), .d (.str dst), .d (.int .i64 seq), .own 6 (rs.map Rec.row), .d (.bool fin)], .box tops5, .box tops5, .box tops5, .tok rs.length 5 none] := by rw [hq, if_neg hr0]; rfl
          have rcx : rcX 6 rs = .own 6 (rs.map Rec.row) := by rw [rcX, if_neg hr0]
          have nkx : nxK 6 ⟨fr, dst, seq, rs, beg, fin⟩ [] = 6 := by rw [nxK, if_neg hr0]
          have rcn : rcX 6 rs = .own 6 (rs.map Rec.row) := by rw [rcX, if_neg hr0]
          simp only [rcx]
          rw [hqx]
          simp only [List.cons_append, List.nil_append, List.append_nil]
          have e1 : pce ⟨fr, dst, seq, rs, beg, fin⟩ (.own 6 (rs.map Rec.row)) = [.d (.str fr), .d (.str dst), .d (.int .i64 seq), .own 6 (rs.map Rec.row), .d (.bool fin)] := rfl
          rw [e1]
          by_cases he : (fieldsF s).2 ≠ 0
          · have hO : nxF ⟨fr, dst, seq, rs, beg, fin⟩ i s = .same (fieldsF s).2 := if_pos he
            rw [hO] at hg
            simp only [nxP, nxS, nxH, nxB, NxO.err, nkx, rcx, rcn, hqx, List.cons_append, List.nil_append, List.append_nil, e1] at hg
            subst hg
            have hc := Nat.zero_add 0
            repeat' (first | simp only [hc, AS, Tryz.f11, KX, NP, SX, f1, he, AB, PL, RG, LP, TY, simprocAttr, ↓reduceIte, forall_const, eq_self, ne_eq, Option.some.injEq, beq_self_eq_true] | ((first | apply fin_ndec | apply fin_dec | apply cnd_ndec | apply cnd_dec' | apply fin_nsplit | apply fin_split | apply cnd_nsplit | apply cnd_split) <;> intro hc) | refine seqS_id ?_ | refine blk_exit_id ?_)
            all_goals exact ⟨_, rfl, rfl⟩
          have he : (fieldsF s).2 = 0 := Classical.not_not.1 he
          rw [he] at f1
          have hO : nxF ⟨fr, dst, seq, rs, beg, fin⟩ i s = nxL ⟨fr, dst, seq, rs, beg, fin⟩ i ((fieldsF s).1.getD []) := if_neg (by simp [he])
          have hl := fields_lin he
          rw [hO] at hg
          clear hO he
          generalize (fieldsF s).1.getD [] = l at *
          have l1 := @lenS l
          by_cases hf : fin = true
          · subst hf
            have hO : nxL ⟨fr, dst, seq, rs, beg, true⟩ i l = .same 5 := if_pos (.inl rfl)
            rw [hO] at hg
            simp only [nxP, nxS, nxH, nxB, NxO.err, nkx, rcx, rcn, hqx, List.cons_append, List.nil_append, List.append_nil, e1] at hg
            subst hg
            have hc := Nat.zero_add 0
            repeat' (first | simp only [hc, AS, Tryz.f11, KX, NP, SX, f1, AB, PL, RG, LP, TY, simprocAttr, ↓reduceIte, forall_const, eq_self, ne_eq, Option.some.injEq, beq_self_eq_true] | ((first | apply fin_ndec | apply fin_dec | apply cnd_ndec | apply cnd_dec' | apply fin_nsplit | apply fin_split | apply cnd_nsplit | apply cnd_split) <;> intro hc) | refine seqS_id ?_ | refine blk_exit_id ?_)
            all_goals exact ⟨_, rfl, rfl⟩
          have hf : fin = false := by simpa using hf
          subst hf
          by_cases hl0 : l = []
          · subst hl0
            have hO : nxL ⟨fr, dst, seq, rs, beg, false⟩ i [] = .same 5 := if_pos (.inr rfl)
            rw [hO] at hg
            simp only [nxP, nxS, nxH, nxB, NxO.err, nkx, rcx, rcn, hqx, List.cons_append, List.nil_append, List.append_nil, e1] at hg
            subst hg
            have ln0 : (((([] : List (List UInt8)).map rowS).length : Nat) : Int) = 0 := rfl
            have hc := Nat.zero_add 0
            repeat' (first | simp only [hc, AS, Tryz.f11, KX, NP, SX, f1, ln0, AB, PL, RG, LP, TY, simprocAttr, ↓reduceIte, forall_const, eq_self, ne_eq, Option.some.injEq, beq_self_eq_true] | ((first | apply fin_ndec | apply fin_dec | apply cnd_ndec | apply cnd_dec' | apply fin_nsplit | apply fin_split | apply cnd_nsplit | apply cnd_split) <;> intro hc) | refine seqS_id ?_ | refine blk_exit_id ?_)
            all_goals exact ⟨_, rfl, rfl⟩
          have hlp := List.length_pos_iff.2 hl0
          have ln0 : ((l.length : Int) = 0) = False := eq_false (by omega)
          by_cases hi : i = 0
          · subst hi
            exact absurd (hi0 rfl) hr0
          have hi' : (i = 0) = False := eq_false hi
          obtain ⟨a, ha⟩ : ∃ a, l[0]? = some a := ⟨l[0], List.getElem?_eq_getElem hlp⟩
          have i0 := rowS1 ha
          by_cases hE : a = [101, 110, 100]
          · have ce1 : (a == [101, 110, 100]) = true := by simp [hE]
            have hO : nxL ⟨fr, dst, seq, rs, beg, false⟩ i l = .last (lasR rs l) := by
              unfold nxL
              rw [if_neg (by simp [hl0]), if_neg hi, if_pos (by rw [ha, hE])]
            rw [hO] at hg
            have e2 : pce ⟨fr, dst, seq, rs, beg, true⟩ (.own 6 (rs.map Rec.row)) = [.d (.str fr), .d (.str dst), .d (.int .i64 seq), .own 6 (rs.map Rec.row), .d (.bool true)] := rfl
            simp only [nxP, nxS, nxH, nxB, NxO.err, nkx, rcx, rcn, hqx, List.cons_append, List.nil_append, List.append_nil, e2] at hg
            subst hg
            have f2 : rlast_m [.c (.sl ff (l.map rowS)), .agg [.str fr, .str dst, .int .i64 seq, .sl false (rs.map Rec.row)]] = some [.i (lasR rs l)] := by
              rw [rlast_m, show ([.c (.sl ff (l.map rowS)), .agg [.str fr, .str dst, .int .i64 seq, .sl false (rs.map Rec.row)]] : List PA) = encLF ((ff, l), ⟨fr, dst, seq, false, rs⟩) from rfl, mE_eq encLF_inj, if_pos ⟨hl, hrs⟩]
            generalize lasR rs l = e at *
            generalize l.map rowS = L at *
            have hc := Nat.zero_add 0
            repeat' (first | simp only [hc, AS, Tryz.f11, KX, NP, SX, f1, l1, ln0, hi', i0, ce1, f2, AB, PL, RG, LP, TY, simprocAttr, ↓reduceIte, forall_const, eq_self, ne_eq, Option.some.injEq, beq_self_eq_true] | ((first | apply fin_ndec | apply fin_dec | apply cnd_ndec | apply cnd_dec' | apply fin_nsplit | apply fin_split | apply cnd_nsplit | apply cnd_split) <;> intro hc) | refine seqS_id ?_ | refine blk_exit_id ?_)
            all_goals exact ⟨_, rfl, rfl⟩
          · have ce1 : (a == [101, 110, 100]) = false := by simp [hE]
            have hO : nxL ⟨fr, dst, seq, rs, beg, false⟩ i l = .rcd (midR ((rs.length : Int) + 1) l).1 (midR ((rs.length : Int) + 1) l).2 := by
              unfold nxL
              rw [if_neg (by simp [hl0]), if_neg hi, if_neg (by rw [ha]; exact fun h => hE (Option.some.inj h))]
              all_goals rfl
            rw [hO] at hg
            have f2 : rmid_m [.c (.sl ff (l.map rowS)), .c (.int .i64 ((rs.length : Int) + 1))] = some [.agg (midR ((rs.length : Int) + 1) l).1.row, .i (midR ((rs.length : Int) + 1) l).2] := by
              rw [rmid_m, show ([.c (.sl ff (l.map rowS)), .c (.int .i64 ((rs.length : Int) + 1))] : List PA) = encLI ((ff, l), (rs.length : Int) + 1) from rfl, mE_eq encLI_inj, if_pos hl]
            generalize midR ((rs.length : Int) + 1) l = M at *
            obtain ⟨⟨x1, x2, x3, x4, x5⟩, e⟩ := M
            have k1 : (rs.map Rec.row).length = rs.length := by simp
            have k2 : (rs.length + 1 ≤ 4611686018427387904) = True := eq_true (by omega)
            have k3 : ((rs.length + 1) * 48 ≤ 140737488355328) = True := eq_true (by omega)
            have k4 := @rows5 rs
            have w1 := wI (n := (rs.length : Int) + 1) (by omega) (by omega)
            have rcy : ∀ r, rcX 6 (rs ++ [r]) = .own 6 (rs.map Rec.row ++ [r.row]) := fun r => by unfold rcX; rw [if_neg (by simp)]; simp
            simp only [nxP, nxS, nxH, nxB, NxO.err, nkx, rcy, hqx, List.set_cons_succ, List.set_cons_zero, List.cons_append, List.nil_append, pce, Rec.row, List.map_cons, List.map_nil, hr0, if_false, List.append_nil] at hg
            simp only [Rec.row] at f2
            subst hg
            generalize rs.map Rec.row = rows at *
            generalize l.map rowS = L at *
            have hc := Nat.zero_add 0
            repeat' (first | simp only [hc, AS, Tryz.f11, KX, NP, SX, f1, l1, ln0, hi', i0, ce1, k1, k2, k3, k4, w1, f2, AB, PL, RG, LP, TY, simprocAttr, ↓reduceIte, forall_const, eq_self, ne_eq, Option.some.injEq, beq_self_eq_true] | ((first | apply fin_ndec | apply fin_dec | apply cnd_ndec | apply cnd_dec' | apply fin_nsplit | apply fin_split | apply cnd_nsplit | apply cnd_split) <;> intro hc) | refine seqS_id ?_ | refine blk_exit_id ?_)
            all_goals exact ⟨_, rfl, rfl⟩
        · skip
          have hqx : hq 6 ⟨fr, dst, seq, rs, beg, fin⟩ = [.box zF, .box zF, .box [.d (.str fr), .d (.str dst), .d (.int .i64 seq), .own 6 (rs.map Rec.row), .d (.bool fin)], .box tops5, .box tops5, .box tops5, .tok rs.length 5 none] := by rw [hq, if_neg hr0]; rfl
          have rcx : rcX 6 rs = .own 6 (rs.map Rec.row) := by rw [rcX, if_neg hr0]
          have nkx : nxK 6 ⟨fr, dst, seq, rs, beg, fin⟩ [.box [c1, c2, c3, c4, c5]] = 6 := by rw [nxK, if_neg hr0]
          have rcn : rcX 6 rs = .own 6 (rs.map Rec.row) := by rw [rcX, if_neg hr0]
          simp only [rcx]
          rw [hqx]
          simp only [List.cons_append, List.nil_append, List.append_nil]
          have e1 : pce ⟨fr, dst, seq, rs, beg, fin⟩ (.own 6 (rs.map Rec.row)) = [.d (.str fr), .d (.str dst), .d (.int .i64 seq), .own 6 (rs.map Rec.row), .d (.bool fin)] := rfl
          rw [e1]
          by_cases he : (fieldsF s).2 ≠ 0
          · have hO : nxF ⟨fr, dst, seq, rs, beg, fin⟩ i s = .same (fieldsF s).2 := if_pos he
            rw [hO] at hg
            simp only [nxP, nxS, nxH, nxB, NxO.err, nkx, rcx, rcn, hqx, List.cons_append, List.nil_append, List.append_nil, e1] at hg
            subst hg
            have hc := Nat.zero_add 0
            repeat' (first | simp only [hc, AS, Tryz.f11, KX, NP, SX, f1, he, AB, PL, RG, LP, TY, simprocAttr, ↓reduceIte, forall_const, eq_self, ne_eq, Option.some.injEq, beq_self_eq_true] | ((first | apply fin_ndec | apply fin_dec | apply cnd_ndec | apply cnd_dec' | apply fin_nsplit | apply fin_split | apply cnd_nsplit | apply cnd_split) <;> intro hc) | refine seqS_id ?_ | refine blk_exit_id ?_)
            all_goals exact ⟨_, rfl, rfl⟩
          have he : (fieldsF s).2 = 0 := Classical.not_not.1 he
          rw [he] at f1
          have hO : nxF ⟨fr, dst, seq, rs, beg, fin⟩ i s = nxL ⟨fr, dst, seq, rs, beg, fin⟩ i ((fieldsF s).1.getD []) := if_neg (by simp [he])
          have hl := fields_lin he
          rw [hO] at hg
          clear hO he
          generalize (fieldsF s).1.getD [] = l at *
          have l1 := @lenS l
          by_cases hf : fin = true
          · subst hf
            have hO : nxL ⟨fr, dst, seq, rs, beg, true⟩ i l = .same 5 := if_pos (.inl rfl)
            rw [hO] at hg
            simp only [nxP, nxS, nxH, nxB, NxO.err, nkx, rcx, rcn, hqx, List.cons_append, List.nil_append, List.append_nil, e1] at hg
            subst hg
            have hc := Nat.zero_add 0
            repeat' (first | simp only [hc, AS, Tryz.f11, KX, NP, SX, f1, AB, PL, RG, LP, TY, simprocAttr, ↓reduceIte, forall_const, eq_self, ne_eq, Option.some.injEq, beq_self_eq_true] | ((first | apply fin_ndec | apply fin_dec | apply cnd_ndec | apply cnd_dec' | apply fin_nsplit | apply fin_split | apply cnd_nsplit | apply cnd_split) <;> intro hc) | refine seqS_id ?_ | refine blk_exit_id ?_)
            all_goals exact ⟨_, rfl, rfl⟩
          have hf : fin = false := by simpa using hf
          subst hf
          by_cases hl0 : l = []
          · subst hl0
            have hO : nxL ⟨fr, dst, seq, rs, beg, false⟩ i [] = .same 5 := if_pos (.inr rfl)
            rw [hO] at hg
            simp only [nxP, nxS, nxH, nxB, NxO.err, nkx, rcx, rcn, hqx, List.cons_append, List.nil_append, List.append_nil, e1] at hg
            subst hg
            have ln0 : (((([] : List (List UInt8)).map rowS).length : Nat) : Int) = 0 := rfl
            have hc := Nat.zero_add 0
            repeat' (first | simp only [hc, AS, Tryz.f11, KX, NP, SX, f1, ln0, AB, PL, RG, LP, TY, simprocAttr, ↓reduceIte, forall_const, eq_self, ne_eq, Option.some.injEq, beq_self_eq_true] | ((first | apply fin_ndec | apply fin_dec | apply cnd_ndec | apply cnd_dec' | apply fin_nsplit | apply fin_split | apply cnd_nsplit | apply cnd_split) <;> intro hc) | refine seqS_id ?_ | refine blk_exit_id ?_)
            all_goals exact ⟨_, rfl, rfl⟩
          have hlp := List.length_pos_iff.2 hl0
          have ln0 : ((l.length : Int) = 0) = False := eq_false (by omega)
          by_cases hi : i = 0
          · subst hi
            exact absurd (hi0 rfl) hr0
          have hi' : (i = 0) = False := eq_false hi
          obtain ⟨a, ha⟩ : ∃ a, l[0]? = some a := ⟨l[0], List.getElem?_eq_getElem hlp⟩
          have i0 := rowS1 ha
          by_cases hE : a = [101, 110, 100]
          · have ce1 : (a == [101, 110, 100]) = true := by simp [hE]
            have hO : nxL ⟨fr, dst, seq, rs, beg, false⟩ i l = .last (lasR rs l) := by
              unfold nxL
              rw [if_neg (by simp [hl0]), if_neg hi, if_pos (by rw [ha, hE])]
            rw [hO] at hg
            have e2 : pce ⟨fr, dst, seq, rs, beg, true⟩ (.own 6 (rs.map Rec.row)) = [.d (.str fr), .d (.str dst), .d (.int .i64 seq), .own 6 (rs.map Rec.row), .d (.bool true)] := rfl
            simp only [nxP, nxS, nxH, nxB, NxO.err, nkx, rcx, rcn, hqx, List.cons_append, List.nil_append, List.append_nil, e2] at hg
            subst hg
            have f2 : rlast_m [.c (.sl ff (l.map rowS)), .agg [.str fr, .str dst, .int .i64 seq, .sl false (rs.map Rec.row)]] = some [.i (lasR rs l)] := by
              rw [rlast_m, show ([.c (.sl ff (l.map rowS)), .agg [.str fr, .str dst, .int .i64 seq, .sl false (rs.map Rec.row)]] : List PA) = encLF ((ff, l), ⟨fr, dst, seq, false, rs⟩) from rfl, mE_eq encLF_inj, if_pos ⟨hl, hrs⟩]
            generalize lasR rs l = e at *
            generalize l.map rowS = L at *
            have hc := Nat.zero_add 0
            repeat' (first | simp only [hc, AS, Tryz.f11, KX, NP, SX, f1, l1, ln0, hi', i0, ce1, f2, AB, PL, RG, LP, TY, simprocAttr, ↓reduceIte, forall_const, eq_self, ne_eq, Option.some.injEq, beq_self_eq_true] | ((first | apply fin_ndec | apply fin_dec | apply cnd_ndec | apply cnd_dec' | apply fin_nsplit | apply fin_split | apply cnd_nsplit | apply cnd_split) <;> intro hc) | refine seqS_id ?_ | refine blk_exit_id ?_)
            all_goals exact ⟨_, rfl, rfl⟩
          · have ce1 : (a == [101, 110, 100]) = false := by simp [hE]
            have hO : nxL ⟨fr, dst, seq, rs, beg, false⟩ i l = .rcd (midR ((rs.length : Int) + 1) l).1 (midR ((rs.length : Int) + 1) l).2 := by
              unfold nxL
              rw [if_neg (by simp [hl0]), if_neg hi, if_neg (by rw [ha]; exact fun h => hE (Option.some.inj h))]
              all_goals rfl
            rw [hO] at hg
            have f2 : rmid_m [.c (.sl ff (l.map rowS)), .c (.int .i64 ((rs.length : Int) + 1))] = some [.agg (midR ((rs.length : Int) + 1) l).1.row, .i (midR ((rs.length : Int) + 1) l).2] := by
              rw [rmid_m, show ([.c (.sl ff (l.map rowS)), .c (.int .i64 ((rs.length : Int) + 1))] : List PA) = encLI ((ff, l), (rs.length : Int) + 1) from rfl, mE_eq encLI_inj, if_pos hl]
            generalize midR ((rs.length : Int) + 1) l = M at *
            obtain ⟨⟨x1, x2, x3, x4, x5⟩, e⟩ := M
            have k1 : (rs.map Rec.row).length = rs.length := by simp
            have k2 : (rs.length + 1 ≤ 4611686018427387904) = True := eq_true (by omega)
            have k3 : ((rs.length + 1) * 48 ≤ 140737488355328) = True := eq_true (by omega)
            have k4 := @rows5 rs
            have w1 := wI (n := (rs.length : Int) + 1) (by omega) (by omega)
            have rcy : ∀ r, rcX 6 (rs ++ [r]) = .own 6 (rs.map Rec.row ++ [r.row]) := fun r => by unfold rcX; rw [if_neg (by simp)]; simp
            simp only [nxP, nxS, nxH, nxB, NxO.err, nkx, rcy, hqx, List.set_cons_succ, List.set_cons_zero, List.cons_append, List.nil_append, pce, Rec.row, List.map_cons, List.map_nil, hr0, if_false, List.append_nil] at hg
            simp only [Rec.row] at f2
            subst hg
            generalize rs.map Rec.row = rows at *
            generalize l.map rowS = L at *
            have hc := Nat.zero_add 0
            repeat' (first | simp only [hc, AS, Tryz.f11, KX, NP, SX, f1, l1, ln0, hi', i0, ce1, k1, k2, k3, k4, w1, f2, AB, PL, RG, LP, TY, simprocAttr, ↓reduceIte, forall_const, eq_self, ne_eq, Option.some.injEq, beq_self_eq_true] | ((first | apply fin_ndec | apply fin_dec | apply cnd_ndec | apply cnd_dec' | apply fin_nsplit | apply fin_split | apply cnd_nsplit | apply cnd_split) <;> intro hc) | refine seqS_id ?_ | refine blk_exit_id ?_)
            all_goals exact ⟨_, rfl, rfl⟩
      · rcases hG2 with rfl | ⟨c1, c2, c3, c4, c5, rfl⟩
        · skip
          have hqx : hq 7 ⟨fr, dst, seq, rs, beg, fin⟩ = [.box zF, .box zF, .box [.d (.str fr), .d (.str dst), .d (.int .i64 seq), .own 7 (rs.map Rec.row), .d (.bool fin)], .box tops5, .box tops5, .box tops5, .box tops5, .tok rs.length 5 none] := by rw [hq, if_neg hr0]; rfl
          have rcx : rcX 7 rs = .own 7 (rs.map Rec.row) := by rw [rcX, if_neg hr0]
          have nkx : nxK 7 ⟨fr, dst, seq, rs, beg, fin⟩ [] = 7 := by rw [nxK, if_neg hr0]
          have rcn : rcX 7 rs = .own 7 (rs.map Rec.row) := by rw [rcX, if_neg hr0]
          simp only [rcx]
          rw [hqx]
          simp only [List.cons_append, List.nil_append, List.append_nil]
          have e1 : pce ⟨fr, dst, seq, rs, beg, fin⟩ (.own 7 (rs.map Rec.row)) = [.d (.str fr), .d (.str dst), .d (.int .i64 seq), .own 7 (rs.map Rec.row), .d (.bool fin)] := rfl
          rw [e1]
          by_cases he : (fieldsF s).2 ≠ 0
          · have hO : nxF ⟨fr, dst, seq, rs, beg, fin⟩ i s = .same (fieldsF s).2 := if_pos he
            rw [hO] at hg
            simp only [nxP, nxS, nxH, nxB, NxO.err, nkx, rcx, rcn, hqx, List.cons_append, List.nil_append, List.append_nil, e1] at hg
            subst hg
            have hc := Nat.zero_add 0
            repeat' (first | simp only [hc, AS, Tryz.f11, KX, NP, SX, f1, he, AB, PL, RG, LP, TY, simprocAttr, ↓reduceIte, forall_const, eq_self, ne_eq, Option.some.injEq, beq_self_eq_true] | ((first | apply fin_ndec | apply fin_dec | apply cnd_ndec | apply cnd_dec' | apply fin_nsplit | apply fin_split | apply cnd_nsplit | apply cnd_split) <;> intro hc) | refine seqS_id ?_ | refine blk_exit_id ?_)
            all_goals exact ⟨_, rfl, rfl⟩
          have he : (fieldsF s).2 = 0 := Classical.not_not.1 he
          rw [he] at f1
          have hO : nxF ⟨fr, dst, seq, rs, beg, fin⟩ i s = nxL ⟨fr, dst, seq, rs, beg, fin⟩ i ((fieldsF s).1.getD []) := if_neg (by simp [he])
          have hl := fields_lin he
          rw [hO] at hg
          clear hO he
          generalize (fieldsF s).1.getD [] = l at *
          have l1 := @lenS l
          by_cases hf : fin = true
          · subst hf
            have hO : nxL ⟨fr, dst, seq, rs, beg, true⟩ i l = .same 5 := if_pos (.inl rfl)
            rw [hO] at hg
            simp only [nxP, nxS, nxH, nxB, NxO.err, nkx, rcx, rcn, hqx, List.cons_append, List.nil_append, List.append_nil, e1] at hg
            subst hg
            have hc := Nat.zero_add 0
            repeat' (first | simp only [hc, AS, Tryz.f11, KX, NP, SX, f1, AB, PL, RG, LP, TY, simprocAttr, ↓reduceIte, forall_const, eq_self, ne_eq, Option.some.injEq, beq_self_eq_true] | ((first | apply fin_ndec | apply fin_dec | apply cnd_ndec | apply cnd_dec' | apply fin_nsplit | apply fin_split | apply cnd_nsplit | apply cnd_split) <;> intro hc) | refine seqS_id ?_ | refine blk_exit_id ?_)
            all_goals exact ⟨_, rfl, rfl⟩
          have hf : fin = false := by simpa using hf
          subst hf
          by_cases hl0 : l = []
          · subst hl0
            have hO : nxL ⟨fr, dst, seq, rs, beg, false⟩ i [] = .same 5 := if_pos (.inr rfl)
            rw [hO] at hg
            simp only [nxP, nxS, nxH, nxB, NxO.err, nkx, rcx, rcn, hqx, List.cons_append, List.nil_append, List.append_nil, e1] at hg
            subst hg
            have ln0 : (((([] : List (List UInt8)).map rowS).length : Nat) : Int) = 0 := rfl
            have hc := Nat.zero_add 0
            repeat' (first | simp only [hc, AS, Tryz.f11, KX, NP, SX, f1, ln0, AB, PL, RG, LP, TY, simprocAttr, ↓reduceIte, forall_const, eq_self, ne_eq, Option.some.injEq, beq_self_eq_true] | ((first | apply fin_ndec | apply fin_dec | apply cnd_ndec | apply cnd_dec' | apply fin_nsplit | apply fin_split | apply cnd_nsplit | apply cnd_split) <;> intro hc) | refine seqS_id ?_ | refine blk_exit_id ?_)
            all_goals exact ⟨_, rfl, rfl⟩
          have hlp := List.length_pos_iff.2 hl0
          have ln0 : ((l.length : Int) = 0) = False := eq_false (by omega)
          by_cases hi : i = 0
          · subst hi
            exact absurd (hi0 rfl) hr0
          have hi' : (i = 0) = False := eq_false hi
          obtain ⟨a, ha⟩ : ∃ a, l[0]? = some a := ⟨l[0], List.getElem?_eq_getElem hlp⟩
          have i0 := rowS1 ha
          by_cases hE : a = [101, 110, 100]
          · have ce1 : (a == [101, 110, 100]) = true := by simp [hE]
            have hO : nxL ⟨fr, dst, seq, rs, beg, false⟩ i l = .last (lasR rs l) := by
              unfold nxL
              rw [if_neg (by simp [hl0]), if_neg hi, if_pos (by rw [ha, hE])]
            rw [hO] at hg
            have e2 : pce ⟨fr, dst, seq, rs, beg, true⟩ (.own 7 (rs.map Rec.row)) = [.d (.str fr), .d (.str dst), .d (.int .i64 seq), .own 7 (rs.map Rec.row), .d (.bool true)] := rfl
            simp only [nxP, nxS, nxH, nxB, NxO.err, nkx, rcx, rcn, hqx, List.cons_append, List.nil_append, List.append_nil, e2] at hg
            subst hg
            have f2 : rlast_m [.c (.sl ff (l.map rowS)), .agg [.str fr, .str dst, .int .i64 seq, .sl false (rs.map Rec.row)]] = some [.i (lasR rs l)] := by
              rw [rlast_m, show ([.c (.sl ff (l.map rowS)), .agg [.str fr, .str dst, .int .i64 seq, .sl false (rs.map Rec.row)]] : List PA) = encLF ((ff, l), ⟨fr, dst, seq, false, rs⟩) from rfl, mE_eq encLF_inj, if_pos ⟨hl, hrs⟩]
            generalize lasR rs l = e at *
            generalize l.map rowS = L at *
            have hc := Nat.zero_add 0
            repeat' (first | simp only [hc, AS, Tryz.f11, KX, NP, SX, f1, l1, ln0, hi', i0, ce1, f2, AB, PL, RG, LP, TY, simprocAttr, ↓reduceIte, forall_const, eq_self, ne_eq, Option.some.injEq, beq_self_eq_true] | ((first | apply fin_ndec | apply fin_dec | apply cnd_ndec | apply cnd_dec' | apply fin_nsplit | apply fin_split | apply cnd_nsplit | apply cnd_split) <;> intro hc) | refine seqS_id ?_ | refine blk_exit_id ?_)
            all_goals exact ⟨_, rfl, rfl⟩
          · have ce1 : (a == [101, 110, 100]) = false := by simp [hE]
            have hO : nxL ⟨fr, dst, seq, rs, beg, false⟩ i l = .rcd (midR ((rs.length : Int) + 1) l).1 (midR ((rs.length : Int) + 1) l).2 := by
              unfold nxL
              rw [if_neg (by simp [hl0]), if_neg hi, if_neg (by rw [ha]; exact fun h => hE (Option.some.inj h))]
              all_goals rfl
            rw [hO] at hg
            have f2 : rmid_m [.c (.sl ff (l.map rowS)), .c (.int .i64 ((rs.length : Int) + 1))] = some [.agg (midR ((rs.length : Int) + 1) l).1.row, .i (midR ((rs.length : Int) + 1) l).2] := by
              rw [rmid_m, show ([.c (.sl ff (l.map rowS)), .c (.int .i64 ((rs.length : Int) + 1))] : List PA) = encLI ((ff, l), (rs.length : Int) + 1) from rfl, mE_eq encLI_inj, if_pos hl]
            generalize midR ((rs.length : Int) + 1) l = M at *
            obtain ⟨⟨x1, x2, x3, x4, x5⟩, e⟩ := M
            have k1 : (rs.map Rec.row).length = rs.length := by simp
            have k2 : (rs.length + 1 ≤ 4611686018427387904) = True := eq_true (by omega)
            have k3 : ((rs.length + 1) * 48 ≤ 140737488355328) = True := eq_true (by omega)
            have k4 := @rows5 rs
            have w1 := wI (n := (rs.length : Int) + 1) (by omega) (by omega)
            have rcy : ∀ r, rcX 7 (rs ++ [r]) = .own 7 (rs.map Rec.row ++ [r.row]) := fun r => by unfold rcX; rw [if_neg (by simp)]; simp
            simp only [nxP, nxS, nxH, nxB, NxO.err, nkx, rcy, hqx, List.set_cons_succ, List.set_cons_zero, List.cons_append, List.nil_append, pce, Rec.row, List.map_cons, List.map_nil, hr0, if_false, List.append_nil] at hg
            simp only [Rec.row] at f2
            subst hg
            generalize rs.map Rec.row = rows at *
            generalize l.map rowS = L at *
            have hc := Nat.zero_add 0
            repeat' (first | simp only [hc, AS, Tryz.f11, KX, NP, SX, f1, l1, ln0, hi', i0, ce1, k1, k2, k3, k4, w1, f2, AB, PL, RG, LP, TY, simprocAttr, ↓reduceIte, forall_const, eq_self, ne_eq, Option.some.injEq, beq_self_eq_true] | ((first | apply fin_ndec | apply fin_dec | apply cnd_ndec | apply cnd_dec' | apply fin_nsplit | apply fin_split | apply cnd_nsplit | apply cnd_split) <;> intro hc) | refine seqS_id ?_ | refine blk_exit_id ?_)
            all_goals exact ⟨_, rfl, rfl⟩
        · skip
          have hqx : hq 7 ⟨fr, dst, seq, rs, beg, fin⟩ = [.box zF, .box zF, .box [.d (.str fr), .d (.str dst), .d (.int .i64 seq), .own 7 (rs.map Rec.row), .d (.bool fin)], .box tops5, .box tops5, .box tops5, .box tops5, .tok rs.length 5 none] := by rw [hq, if_neg hr0]; rfl
          have rcx : rcX 7 rs = .own 7 (rs.map Rec.row) := by rw [rcX, if_neg hr0]
          have nkx : nxK 7 ⟨fr, dst, seq, rs, beg, fin⟩ [.box [c1, c2, c3, c4, c5]] = 7 := by rw [nxK, if_neg hr0]
          have rcn : rcX 7 rs = .own 7 (rs.map Rec.row) := by rw [rcX, if_neg hr0]
          simp only [rcx]
          rw [hqx]
          simp only [List.cons_append, List.nil_append, List.append_nil]
          have e1 : pce ⟨fr, dst, seq, rs, beg, fin⟩ (.own 7 (rs.map Rec.row)) = [.d (.str fr), .d (.str dst), .d (.int .i64 seq), .own 7 (rs.map Rec.row), .d (.bool fin)] := rfl
          rw [e1]
          by_cases he : (fieldsF s).2 ≠ 0
          · have hO : nxF ⟨fr, dst, seq, rs, beg, fin⟩ i s = .same (fieldsF s).2 := if_pos he
            rw [hO] at hg
            simp only [nxP, nxS, nxH, nxB, NxO.err, nkx, rcx, rcn, hqx, List.cons_append, List.nil_append, List.append_nil, e1] at hg
            subst hg
            have hc := Nat.zero_add 0
            repeat' (first | simp only [hc, AS, Tryz.f11, KX, NP, SX, f1, he, AB, PL, RG, LP, TY, simprocAttr, ↓reduceIte, forall_const, eq_self, ne_eq, Option.some.injEq, beq_self_eq_true] | ((first | apply fin_ndec | apply fin_dec | apply cnd_ndec | apply cnd_dec' | apply fin_nsplit | apply fin_split | apply cnd_nsplit | apply cnd_split) <;> intro hc) | refine seqS_id ?_ | refine blk_exit_id ?_)
            all_goals exact ⟨_, rfl, rfl⟩
          have he : (fieldsF s).2 = 0 := Classical.not_not.1 he
          rw [he] at f1
          have hO : nxF ⟨fr, dst, seq, rs, beg, fin⟩ i s = nxL ⟨fr, dst, seq, rs, beg, fin⟩ i ((fieldsF s).1.getD []) := if_neg (by simp [he])
          have hl := fields_lin he
          rw [hO] at hg
          clear hO he
          generalize (fieldsF s).1.getD [] = l at *
          have l1 := @lenS l
          by_cases hf : fin = true
          · subst hf
            have hO : nxL ⟨fr, dst, seq, rs, beg, true⟩ i l = .same 5 := if_pos (.inl rfl)
            rw [hO] at hg
            simp only [nxP, nxS, nxH, nxB, NxO.err, nkx, rcx, rcn, hqx, List.cons_append, List.nil_append, List.append_nil, e1] at hg
            subst hg
            have hc := Nat.zero_add 0
            repeat' (first | simp only [hc, AS, Tryz.f11, KX, NP, SX, f1, AB, PL, RG, LP, TY, simprocAttr, ↓reduceIte, forall_const, eq_self, ne_eq, Option.some.injEq, beq_self_eq_true] | ((first | apply fin_ndec | apply fin_dec | apply cnd_ndec | apply cnd_dec' | apply fin_nsplit | apply fin_split | apply cnd_nsplit | apply cnd_split) <;> intro hc) | refine seqS_id ?_ | refine blk_exit_id ?_)
            all_goals exact ⟨_, rfl, rfl⟩
          have hf : fin = false := by simpa using hf
          subst hf
          by_cases hl0 : l = []
          · subst hl0
            have hO : nxL ⟨fr, dst, seq, rs, beg, false⟩ i [] = .same 5 := if_pos (.inr rfl)
            rw [hO] at hg
            simp only [nxP, nxS, nxH, nxB, NxO.err, nkx, rcx, rcn, hqx, List.cons_append, List.nil_append, List.append_nil, e1] at hg
            subst hg
            have ln0 : (((([] : List (List UInt8)).map rowS).length : Nat) : Int) = 0 := rfl
            have hc := Nat.zero_add 0
            repeat' (first | simp only [hc, AS, Tryz.f11, KX, NP, SX, f1, ln0, AB, PL, RG, LP, TY, simprocAttr, ↓reduceIte, forall_const, eq_self, ne_eq, Option.some.injEq, beq_self_eq_true] | ((first | apply fin_ndec | apply fin_dec | apply cnd_ndec | apply cnd_dec' | apply fin_nsplit | apply fin_split | apply cnd_nsplit | apply cnd_split) <;> intro hc) | refine seqS_id ?_ | refine blk_exit_id ?_)
            all_goals exact ⟨_, rfl, rfl⟩
          have hlp := List.length_pos_iff.2 hl0
          have ln0 : ((l.length : Int) = 0) = False := eq_false (by omega)
          by_cases hi : i = 0
          · subst hi
            exact absurd (hi0 rfl) hr0
          have hi' : (i = 0) = False := eq_false hi
          obtain ⟨a, ha⟩ : ∃ a, l[0]? = some a := ⟨l[0], List.getElem?_eq_getElem hlp⟩
          have i0 := rowS1 ha
          by_cases hE : a = [101, 110, 100]
          · have ce1 : (a == [101, 110, 100]) = true := by simp [hE]
            have hO : nxL ⟨fr, dst, seq, rs, beg, false⟩ i l = .last (lasR rs l) := by
              unfold nxL
              rw [if_neg (by simp [hl0]), if_neg hi, if_pos (by rw [ha, hE])]
            rw [hO] at hg
            have e2 : pce ⟨fr, dst, seq, rs, beg, true⟩ (.own 7 (rs.map Rec.row)) = [.d (.str fr), .d (.str dst), .d (.int .i64 seq), .own 7 (rs.map Rec.row), .d (.bool true)] := rfl
            simp only [nxP, nxS, nxH, nxB, NxO.err, nkx, rcx, rcn, hqx, List.cons_append, List.nil_append, List.append_nil, e2] at hg
            subst hg
            have f2 : rlast_m [.c (.sl ff (l.map rowS)), .agg [.str fr, .str dst, .int .i64 seq, .sl false (rs.map Rec.row)]] = some [.i (lasR rs l)] := by
              rw [rlast_m, show ([.c (.sl ff (l.map rowS)), .agg [.str fr, .str dst, .int .i64 seq, .sl false (rs.map Rec.row)]] : List PA) = encLF ((ff, l), ⟨fr, dst, seq, false, rs⟩) from rfl, mE_eq encLF_inj, if_pos ⟨hl, hrs⟩]
            generalize lasR rs l = e at *
            generalize l.map rowS = L at *
            have hc := Nat.zero_add 0
            repeat' (first | simp only [hc, AS, Tryz.f11, KX, NP, SX, f1, l1, ln0, hi', i0, ce1, f2, AB, PL, RG, LP, TY, simprocAttr, ↓reduceIte, forall_const, eq_self, ne_eq, Option.some.injEq, beq_self_eq_true] | ((first | apply fin_ndec | apply fin_dec | apply cnd_ndec | apply cnd_dec' | apply fin_nsplit | apply fin_split | apply cnd_nsplit | apply cnd_split) <;> intro hc) | refine seqS_id ?_ | refine blk_exit_id ?_)
            all_goals exact ⟨_, rfl, rfl⟩
          · have ce1 : (a == [101, 110, 100]) = false := by simp [hE]
            have hO : nxL ⟨fr, dst, seq, rs, beg, false⟩ i l = .rcd (midR ((rs.length : Int) + 1) l).1 (midR ((rs.length : Int) + 1) l).2 := by
              unfold nxL
              rw [if_neg (by simp [hl0]), if_neg hi, if_neg (by rw [ha]; exact fun h => hE (Option.some.inj h))]
              all_goals rfl
            rw [hO] at hg
            have f2 : rmid_m [.c (.sl ff (l.map rowS)), .c (.int .i64 ((rs.length : Int) + 1))] = some [.agg (midR ((rs.length : Int) + 1) l).1.row, .i (midR ((rs.length : Int) + 1) l).2] := by
              rw [rmid_m, show ([.c (.sl ff (l.map rowS)), .c (.int .i64 ((rs.length : Int) + 1))] : List PA) = encLI ((ff, l), (rs.length : Int) + 1) from rfl, mE_eq encLI_inj, if_pos hl]
            generalize midR ((rs.length : Int) + 1) l = M at *
            obtain ⟨⟨x1, x2, x3, x4, x5⟩, e⟩ := M
            have k1 : (rs.map Rec.row).length = rs.length := by simp
            have k2 : (rs.length + 1 ≤ 4611686018427387904) = True := eq_true (by omega)
            have k3 : ((rs.length + 1) * 48 ≤ 140737488355328) = True := eq_true (by omega)
            have k4 := @rows5 rs
            have w1 := wI (n := (rs.length : Int) + 1) (by omega) (by omega)
            have rcy : ∀ r, rcX 7 (rs ++ [r]) = .own 7 (rs.map Rec.row ++ [r.row]) := fun r => by unfold rcX; rw [if_neg (by simp)]; simp
            simp only [nxP, nxS, nxH, nxB, NxO.err, nkx, rcy, hqx, List.set_cons_succ, List.set_cons_zero, List.cons_append, List.nil_append, pce, Rec.row, List.map_cons, List.map_nil, hr0, if_false, List.append_nil] at hg
            simp only [Rec.row] at f2
            subst hg
            generalize rs.map Rec.row = rows at *
            generalize l.map rowS = L at *
            have hc := Nat.zero_add 0
            repeat' (first | simp only [hc, AS, Tryz.f11, KX, NP, SX, f1, l1, ln0, hi', i0, ce1, k1, k2, k3, k4, w1, f2, AB, PL, RG, LP, TY, simprocAttr, ↓reduceIte, forall_const, eq_self, ne_eq, Option.some.injEq, beq_self_eq_true] | ((first | apply fin_ndec | apply fin_dec | apply cnd_ndec | apply cnd_dec' | apply fin_nsplit | apply fin_split | apply cnd_nsplit | apply cnd_split) <;> intro hc) | refine seqS_id ?_ | refine blk_exit_id ?_)
            all_goals exact ⟨_, rfl, rfl⟩
  · cases hg

end
end Go.Ab
