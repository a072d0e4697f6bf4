/-
  Texts of the layer and of the laws, put together: AbU18, AbU19. No law is stated here.
-/
import Derived.Test.YtckjmdppjealdaaGreatDoorAbVol39
set_option linter.unusedSimpArgs false
set_option linter.unusedVariables false
set_option maxRecDepth 100000

/-
  session.copied, session.Step.
-/
namespace Go.Ab
open Go.RowKit Go.Proofs

/-- A session's copy, and what was seen of it in an object k of its own. -/
def cp1 (k : Nat) (s : Ses) : SesO := if s.seen = [] then ({ s with sf := true }, none) else ({ s with sf := false }, some k)
def cpo (s : Ses) : Hp := if s.seen = [] then [] else [.tok s.seen.length 1 none]
def cpT (l : List Ses) : Hp := l.flatMap cpo
def cpL : Nat → List Ses → List SesO
  | _, [] => []
  | k, s :: r => cp1 k s :: cpL (k + (cpo s).length) r
theorem cpL_len : ∀ (k : Nat) (l : List Ses), (cpL k l).length = l.length
  | _, [] => rfl
  | k, s :: r => by rw [cpL, List.length_cons, List.length_cons, cpL_len]
theorem cpT_cons {s : Ses} {r : List Ses} : cpT (s :: r) = cpo s ++ cpT r := by simp [cpT]
theorem cpT_snoc {s : Ses} {l : List Ses} : cpT (l ++ [s]) = cpT l ++ cpo s := by simp [cpT]
theorem cpL_snoc : ∀ {k : Nat} {l : List Ses} {s : Ses}, cpL k (l ++ [s]) = cpL k l ++ [cp1 (k + (cpT l).length) s]
  | k, [], s => by simp [cpL, cpT]
  | k, x :: l, s => by
    rw [List.cons_append, cpL, cpL_snoc, cpL, List.cons_append, cpT_cons, List.length_append, Nat.add_assoc]
/-- A session's copy. -/
def cpS (s : Ses) : Ses := { s with sf := s.seen.isEmpty }
theorem cp1_ss {k : Nat} {s : Ses} : (cp1 k s).1 = cpS s := by
  obtain ⟨a, b, c, d, e, f, g, sn⟩ := s
  unfold cp1 cpS
  cases sn <;> simp
theorem cpL_ss : ∀ {k : Nat} {l : List Ses}, ssOf (cpL k l) = l.map cpS
  | _, [] => rfl
  | k, s :: r => by
    show (cp1 k s).1 :: ssOf (cpL _ r) = cpS s :: r.map cpS
    rw [cp1_ss, cpL_ss]
theorem cpL_own : ∀ {k : Nat} {l : List Ses} {j : Nat} {s : Ses} {i : Nat}, (cpL k l)[j]? = some (s, some i) → k ≤ i ∧ s.sf = false ∧ (cpT l)[i - k]? = some (.tok s.seen.length 1 none)
  | k, [], j, s, i, h => by simp [cpL] at h
  | k, x :: r, 0, s, i, h => by
    rw [cpL, List.getElem?_cons_zero] at h
    unfold cp1 at h
    split at h
    · cases h
    · rename_i hx
      cases h
      refine ⟨Nat.le_refl _, rfl, ?_⟩
      rw [Nat.sub_self, cpT_cons, cpo, if_neg hx]
      rfl
  | k, x :: r, j + 1, s, i, h => by
    rw [cpL, List.getElem?_cons_succ] at h
    obtain ⟨h1, h2, h3⟩ := cpL_own h
    refine ⟨by omega, h2, ?_⟩
    rw [cpT_cons, List.getElem?_append_right (by omega), show i - k - (cpo x).length = i - (k + (cpo x).length) by omega]
    exact h3
theorem cpL_one : ∀ {k : Nat} {l : List Ses} {j q : Nat} {s r : Ses} {i : Nat}, (cpL k l)[j]? = some (s, some i) → (cpL k l)[q]? = some (r, some i) → j = q
  | k, [], j, _, _, _, _, h, _ => by simp [cpL] at h
  | k, x :: l, 0, 0, _, _, _, _, _ => rfl
  | k, x :: l, 0, q + 1, s, r, i, h, g => by
    rw [cpL, List.getElem?_cons_zero] at h
    rw [cpL, List.getElem?_cons_succ] at g
    have h1 := (cpL_own g).1
    unfold cp1 at h
    split at h
    · cases h
    · rename_i hx
      cases h
      simp [cpo, hx] at h1
      omega
  | k, x :: l, j + 1, 0, s, r, i, g, h => by
    rw [cpL, List.getElem?_cons_zero] at h
    rw [cpL, List.getElem?_cons_succ] at g
    have h1 := (cpL_own g).1
    unfold cp1 at h
    split at h
    · cases h
    · rename_i hx
      cases h
      simp [cpo, hx] at h1
      omega
  | k, x :: l, j + 1, q + 1, s, r, i, h, g => by
    rw [cpL, List.getElem?_cons_succ] at h g
    rw [cpL_one h g]
theorem cpL_non : ∀ {k : Nat} {l : List Ses} {j : Nat} {s : Ses}, (cpL k l)[j]? = some (s, none) → s.sf = true ∧ s.seen = []
  | k, [], j, s, h => by simp [cpL] at h
  | k, x :: r, 0, s, h => by
    rw [cpL, List.getElem?_cons_zero] at h
    unfold cp1 at h
    split at h
    · rename_i hx
      cases h
      exact ⟨rfl, hx⟩
    · cases h
  | k, x :: r, j + 1, s, h => by
    rw [cpL, List.getElem?_cons_succ] at h
    exact cpL_non h
theorem cpL_live {h : Hp} {l : List Ses} : LiveS (h ++ .tok l.length 7 (some (sc (cpL (h.length + 1) l))) :: cpT l) h.length (cpL (h.length + 1) l) := by
  refine ⟨by rw [cpL_len]; exact ha0, fun k s hk => cpL_non hk, fun k s i hk => ?_, fun k j s r i hk hj => cpL_one hk hj⟩
  obtain ⟨h1, h2, h3⟩ := cpL_own hk
  refine ⟨h2, ?_⟩
  rw [List.getElem?_append_right (by omega), show i - h.length = (i - (h.length + 1)) + 1 by omega, List.getElem?_cons_succ]
  exact h3
theorem cpT_low : ∀ (l : List Ses), ((cpT l).all (Ob.low 0)) = true
  | [] => rfl
  | s :: r => by
    rw [cpT_cons, List.all_append, cpT_low r, Bool.and_true, cpo]
    split <;> rfl
theorem cpL_low {h : Hp} {l : List Ses} (hh : LowH h) : LowH (h ++ .tok l.length 7 (some (sc (cpL (h.length + 1) l))) :: cpT l) := by
  have hl := (cpL_live (h := h) (l := l)).lowC
  unfold LowH
  rw [List.all_eq_true]
  intro x hx
  rcases List.mem_append.1 hx with hx | hx
  · exact Ob.low_mono (by simp) (List.all_eq_true.1 hh x hx)
  · rcases List.mem_cons.1 hx with rfl | hx
    · exact hl
    · exact Ob.low_mono (Nat.zero_le _) (List.all_eq_true.1 (cpT_low l) x hx)
/-- Sessions as they came. -/
abbrev raw (l : List Ses) : List SesO := l.map fun s => (s, none)
theorem sc_raw : ∀ {l : List Ses}, sc (raw l) = (l.map Ses.row).flatten.map C1.d
  | [] => rfl
  | s :: r => by
    have := sc_raw (l := r)
    simp only [raw, List.map_cons, sc_cons, List.flatten_cons, List.map_append] at this ⊢
    rw [this]
    rfl

structure CpA where
  h : Hp
  f : Bool
  l : List Ses
def cpRl (a : CpA) (args : List AV) (h : Hp) : Prop := args = [.v (.c (.d (.sl a.f (a.l.map Ses.row))))] ∧ h = a.h
theorem cpRl_inj {a b : CpA} {args : List AV} {h : Hp} (ha : cpRl a args h) (hb : cpRl b args h) : b = a := by
  obtain ⟨a1, a2, a3⟩ := a
  obtain ⟨b1, b2, b3⟩ := b
  obtain ⟨h1, h2⟩ := ha
  obtain ⟨g1, g2⟩ := hb
  dsimp only at *
  subst h2 g2
  rw [h1] at g1
  simp only [List.cons.injEq, AV.v.injEq, V.c.injEq, C1.d.injEq, D.sl.injEq, and_true] at g1
  obtain ⟨rfl, g2⟩ := g1
  rw [mapS_inj.1 g2]

noncomputable section
open Classical

def clS_k : List AV → Hp → Option COut := clA 7 96
theorem clS_kok : ImpC Tryz.prog Gt 69 clS_k := by
  intro args h out h0
  refine fok_of_awpSW (X := ctxN Tryz.prog Gt [] [] [] none (uL [60])) Tryz.func69 rfl rfl (by kernel_rfl) (by kernel_rfl) (kok_n AllOk.nil AllK.nil AllN.nil) ?_ ?_
  · obtain ⟨f, es, rfl, _⟩ := clA_inv h0
    exact Nat.le_of_ble_eq_true rfl
  obtain ⟨f, es, rfl, h1, h2, h3, rfl⟩ := clA_inv h0
  by_cases c0 : es = []
  · subst c0
    have ee : ([] : List (List D)).isEmpty = true := rfl
    have hc := Nat.zero_add 0
    repeat' (first | simp only [hc, AS, Tryz.f69, NX, NPV, SX, ee, AB, PL, RG, LP, TY, simprocAttr, ↓reduceIte, forall_const, eq_self, ne_eq, Option.some.injEq, beq_self_eq_true] | ((first | apply fin_ndec | apply fin_dec | apply cnd_ndec | apply cnd_dec' | apply fin_nsplit | apply fin_split | apply cnd_nsplit | apply cnd_split) <;> intro hc) | refine seqS_id ?_ | refine blk_exit_id ?_)
    have ap : ∀ h, apNew h 7 96 [] (srS 7 (some [])) = some (.v (.c (.msl h.length 0)), h ++ [.tok 0 7 (some [])]) := fun h => by
      rw [srS_ok (eq_true h1)]
      exact apNew_ok (eq_true (by simp)) (eq_true (by simp))
    refine ⟨seqS_id ?_, seqS_id ?_⟩
    · skip
      have hc := Nat.zero_add 0
      repeat' (first | simp only [hc, AS, Tryz.f69, NX, NPV, SX, AB, PL, RG, LP, TY, simprocAttr, ↓reduceIte, forall_const, eq_self, ne_eq, Option.some.injEq, beq_self_eq_true] | ((first | apply fin_ndec | apply fin_dec | apply cnd_ndec | apply cnd_dec' | apply fin_nsplit | apply fin_split | apply cnd_nsplit | apply cnd_split) <;> intro hc) | refine seqS_id ?_ | refine blk_exit_id ?_)
      exact ⟨_, Wk.msl 2 7 (by decide) (by simp [look]), [.c (.msl h.length 0)], by simp [resAllV, resOneV, S.get, look, AV.one], by simp [resVV]⟩
    · skip
      have hc := Nat.zero_add 0
      repeat' (first | simp only [hc, AS, Tryz.f69, NX, NPV, SX, ap, AB, PL, RG, LP, TY, simprocAttr, ↓reduceIte, forall_const, eq_self, ne_eq, Option.some.injEq, beq_self_eq_true] | ((first | apply fin_ndec | apply fin_dec | apply cnd_ndec | apply cnd_dec' | apply fin_nsplit | apply fin_split | apply cnd_nsplit | apply cnd_split) <;> intro hc) | refine seqS_id ?_ | refine blk_exit_id ?_)
      exact ⟨_, Wk.refl, [.c (.msl h.length 0)], by simp [resAllV, resOneV, S.get, look, AV.one], by simp [resVV]⟩
  · have ee : es.isEmpty = false := by cases es <;> simp_all
    have ap : ∀ h, apNew h 7 96 [] (srS 7 (some es)) = some (.v (.c (.msl h.length es.length)), h ++ [.tok es.length 7 (some (es.flatten.map .d))]) := fun h => by
      rw [srS_ok (eq_true h1)]
      exact apNew_ok (eq_true h2) (eq_true h3)
    have hc := Nat.zero_add 0
    repeat' (first | simp only [hc, AS, Tryz.f69, NX, NPV, SX, ee, ap, AB, PL, RG, LP, TY, simprocAttr, ↓reduceIte, forall_const, eq_self, ne_eq, Option.some.injEq, beq_self_eq_true] | ((first | apply fin_ndec | apply fin_dec | apply cnd_ndec | apply cnd_dec' | apply fin_nsplit | apply fin_split | apply cnd_nsplit | apply cnd_split) <;> intro hc) | refine seqS_id ?_ | refine blk_exit_id ?_)
    exact ⟨_, Wk.refl, [.c (.msl h.length es.length)], by simp [resAllV, resOneV, S.get, look, AV.one], by simp [resVV]⟩

def clNn (z b : Nat) (args : List AV) (h : Hp) : Option COut := match args with
  | [.v (.c (.d (.sl _ es)))] => if es = [] then some (.ret (.v (.c (.d (.sl true [])))) h) else if allLen z es ∧ es.length * b ≤ 140737488355328 ∧ es.length ≤ 4611686018427387904 then some (.ret (.v (.c (.own h.length es))) (h ++ [.tok es.length z none])) else none
  | _ => none
def clI_k : List AV → Hp → Option COut := clNn 1 8
theorem clNn_inv {z b : Nat} {args : List AV} {h : Hp} {out : COut} (hm : clNn z b args h = some out) : ∃ f es, args = [.v (.c (.d (.sl f es)))] ∧ ((es = [] ∧ out = .ret (.v (.c (.d (.sl true [])))) h) ∨ (es ≠ [] ∧ allLen z es ∧ es.length * b ≤ 140737488355328 ∧ es.length ≤ 4611686018427387904 ∧ out = .ret (.v (.c (.own h.length es))) (h ++ [.tok es.length z none]))) := by
  unfold clNn at hm
  split at hm
  · rename_i f es
    split at hm
    · rename_i c0
      cases hm
      exact ⟨f, es, rfl, .inl ⟨c0, rfl⟩⟩
    · rename_i c0
      split at hm
      · rename_i hc
        cases hm
        exact ⟨f, es, rfl, .inr ⟨c0, hc.1, hc.2.1, hc.2.2, rfl⟩⟩
      · cases hm
  · cases hm
theorem clI_kok : ImpC Tryz.prog Gt 70 clI_k := by
  intro args h out h0
  refine fok_of_awpSW (X := ctxN Tryz.prog Gt [] [] [] none) Tryz.func70 rfl rfl (by kernel_rfl) (by kernel_rfl) (kok_n AllOk.nil AllK.nil AllN.nil) ?_ ?_
  · obtain ⟨f, es, rfl, _⟩ := clNn_inv h0
    exact Nat.le_of_ble_eq_true rfl
  obtain ⟨f, es, rfl, hc⟩ := clNn_inv h0
  rcases hc with ⟨rfl, rfl⟩ | ⟨c0, h1, h2, h3, rfl⟩
  · have ee : ([] : List (List D)).isEmpty = true := rfl
    have ap : ∀ h, apSl h 1 8 [] [] = some (.d (.sl true []), h) := fun h => by
      rw [apSl_new (by simp [allLen]) (by simp) (by simp)]
      simp
    have hc := Nat.zero_add 0
    repeat' (first | simp only [hc, AS, Tryz.f70, NX, NPV, SX, ee, AB, PL, RG, LP, TY, simprocAttr, ↓reduceIte, forall_const, eq_self, ne_eq, Option.some.injEq, beq_self_eq_true] | ((first | apply fin_ndec | apply fin_dec | apply cnd_ndec | apply cnd_dec' | apply fin_nsplit | apply fin_split | apply cnd_nsplit | apply cnd_split) <;> intro hc) | refine seqS_id ?_ | refine blk_exit_id ?_)
    refine ⟨seqS_id ?_, seqS_id ?_⟩
    · skip
      have hc := Nat.zero_add 0
      repeat' (first | simp only [hc, AS, Tryz.f70, NX, NPV, SX, AB, PL, RG, LP, TY, simprocAttr, ↓reduceIte, forall_const, eq_self, ne_eq, Option.some.injEq, beq_self_eq_true] | ((first | apply fin_ndec | apply fin_dec | apply cnd_ndec | apply cnd_dec' | apply fin_nsplit | apply fin_split | apply cnd_nsplit | apply cnd_split) <;> intro hc) | refine seqS_id ?_ | refine blk_exit_id ?_)
      exact ⟨_, Wk.refl, [.c (.d (.sl true []))], by simp [resAllV, resOneV, S.get, look, AV.one], by simp [resVV]⟩
    · skip
      have hc := Nat.zero_add 0
      repeat' (first | simp only [hc, AS, Tryz.f70, NX, NPV, SX, ap, AB, PL, RG, LP, TY, simprocAttr, ↓reduceIte, forall_const, eq_self, ne_eq, Option.some.injEq, beq_self_eq_true] | ((first | apply fin_ndec | apply fin_dec | apply cnd_ndec | apply cnd_dec' | apply fin_nsplit | apply fin_split | apply cnd_nsplit | apply cnd_split) <;> intro hc) | refine seqS_id ?_ | refine blk_exit_id ?_)
      exact ⟨_, Wk.refl, [.c (.d (.sl true []))], by simp [resAllV, resOneV, S.get, look, AV.one], by simp [resVV]⟩
  · have ee : es.isEmpty = false := by cases es <;> simp_all
    have ap : ∀ h, apSl h 1 8 [] es = some (.v (.c (.own h.length es)), h ++ [.tok es.length 1 none]) := fun h => by
      rw [apSl_new h1 h2 h3, if_neg (by simpa using c0)]
    have hc := Nat.zero_add 0
    repeat' (first | simp only [hc, AS, Tryz.f70, NX, NPV, SX, ee, ap, AB, PL, RG, LP, TY, simprocAttr, ↓reduceIte, forall_const, eq_self, ne_eq, Option.some.injEq, beq_self_eq_true] | ((first | apply fin_ndec | apply fin_dec | apply cnd_ndec | apply cnd_dec' | apply fin_nsplit | apply fin_split | apply cnd_nsplit | apply cnd_split) <;> intro hc) | refine seqS_id ?_ | refine blk_exit_id ?_)
    exact ⟨_, Wk.refl, [.c (.own h.length es)], by simp [resAllV, resOneV, S.get, look, AV.one], by simp [resVV]⟩

def scopied_k : List AV → Hp → Option COut := kR cpRl fun a => if a.l.length ≤ 1000000000 ∧ ∀ s ∈ a.l, s.seen.length ≤ 1000000000 then some (.ret (.v (.c (.msl a.h.length a.l.length))) (a.h ++ .tok a.l.length 7 (some (sc (cpL (a.h.length + 1) a.l))) :: cpT a.l)) else none

theorem clI_at {s : Ses} {H : Hp} (hs : s.seen.length ≤ 1000000000) {k : Nat} (hk : k = H.length) : clI_k [.v (.c (.d (.sl s.sf (s.seen.map rowI))))] H = some (.ret (.v (.c (seenC (cp1 k s).1 (cp1 k s).2))) (H ++ cpo s)) := by
  subst hk
  simp only [clI_k, clNn]
  by_cases c0 : s.seen = []
  · simp [c0, cp1, cpo, seenC]
  · rw [if_neg (by simpa using c0), if_pos ⟨fun r hr => by obtain ⟨x, _, rfl⟩ := List.mem_map.1 hr; rfl, by simp; omega, by simp; omega⟩]
    simp [c0, cp1, cpo, seenC]

set_option maxHeartbeats 2000000 in
theorem scopied_kok : ImpC Tryz.prog Gt 33 scopied_k := by
  intro args h out h0
  refine fok_of_awpSW (X := ctxN Tryz.prog Gt [] [(69, clS_k), (70, clI_k)] [] none (uL [60])) Tryz.func33 rfl rfl (by kernel_rfl) (by kernel_rfl) (kok_n AllOk.nil (AllK.cons clS_kok (AllK.cons clI_kok AllK.nil)) AllN.nil) ?_ ?_
  · obtain ⟨a, ⟨rfl, _⟩, _⟩ := kR_inv h0
    exact Nat.le_of_ble_eq_true rfl
  obtain ⟨⟨h', f, l⟩, ⟨rfl, rfl⟩, hg⟩ := kR_inv h0
  dsimp only at hg ⊢
  split at hg
  · rename_i hc
    obtain ⟨hlen, hsn⟩ := hc
    cases hg
    have f1 : clS_k [.v (.c (.d (.sl f (l.map Ses.row))))] h = some (.ret (.v (.c (.msl h.length l.length))) (h ++ [.tok l.length 7 (some (sc (raw l)))])) := by
      have := clA_ok (z := 7) (b := 96) (h := h) (f := f) (es := l.map Ses.row) (fun r hr => by obtain ⟨x, _, rfl⟩ := List.mem_map.1 hr; rfl) (by simp; omega) (by simp; omega)
      rw [← sc_raw, List.length_map] at this
      exact this
    have hc := Nat.zero_add 0
    repeat' (first | simp only [hc, AS, Tryz.f33, NX, NPV, SX, HX, f1, AB, PL, RG, LP, TY, simprocAttr, ↓reduceIte, forall_const, eq_self, ne_eq, Option.some.injEq, beq_self_eq_true] | ((first | apply fin_ndec | apply fin_dec | apply cnd_ndec | apply cnd_dec' | apply fin_nsplit | apply fin_split | apply cnd_nsplit | apply cnd_split) <;> intro hc) | refine seqS_id ?_ | refine blk_exit_id ?_)
    refine awpS_loop (σ := Nat) (fun j => j ≤ l.length) (fun j => ⟨[(9, AV.i j), (8, AV.i l.length), (3, .v (.c (.msl h.length l.length)))], h ++ .tok l.length 7 (some (sc (cpL (h.length + 1) (l.take j) ++ raw (l.drop j)))) :: cpT (l.take j)⟩) (fun j => l.length - j) 0 (Wk.sub' (by simp [subT, look]) (by simp [cpL, cpT])) (Nat.zero_le _) ?_
    intro j hj
    by_cases hjl : j < l.length
    · have hlt : ((j : Int) < (l.length : Int)) = True := eq_true (by omega)
      have hw := wI (n := (j : Int) + 1) (by omega) (by omega)
      have hll : (cpL (h.length + 1) (l.take j)).length = j := by rw [cpL_len, List.length_take, Nat.min_eq_left (by omega)]
      have hM : (cpL (h.length + 1) (l.take j) ++ raw (l.drop j))[j]? = some (l[j], none) := by
        rw [List.getElem?_append_right (by omega), hll, Nat.sub_self, List.drop_eq_getElem_cons hjl]
        rfl
      have hMl : (cpL (h.length + 1) (l.take j) ++ raw (l.drop j)).length = l.length := by rw [List.length_append, hll]; simp; omega
      have hnext : (cpL (h.length + 1) (l.take j) ++ raw (l.drop j)).set j (cp1 (h.length + 1 + (cpT (l.take j)).length) l[j]) = cpL (h.length + 1) (l.take (j + 1)) ++ raw (l.drop (j + 1)) := by
        rw [List.set_append_right _ _ (by omega), hll, Nat.sub_self, List.drop_eq_getElem_cons hjl, List.take_succ_eq_append_getElem hjl, cpL_snoc]
        simp only [raw, List.map_cons, List.set_cons_zero, List.append_assoc, List.cons_append, List.nil_append]
      have hT : cpT (l.take (j + 1)) = cpT (l.take j) ++ cpo l[j] := by rw [List.take_succ_eq_append_getElem hjl, cpT_snoc]
      have hsl := hsn _ (List.getElem_mem hjl)
      have f2 := fun (r : Ob) (T : Hp) (hT : T = cpT (l.take j)) => clI_at (s := l[j]) (H := h ++ r :: T) hsl (k := h.length + 1 + (cpT (l.take j)).length) (by rw [hT]; simp; omega)
      have f2 := fun r => f2 r _ rfl
      have hc6 := sc_cell hM (j := 6) (by decide)
      simp only [scC, seenC, List.getElem?_cons_succ, List.getElem?_cons_zero] at hc6
      have hput : ∀ h', stP h' h.length (j * 7 + 6) l.length 7 (sc (cpL (h.length + 1) (l.take j) ++ raw (l.drop j))) (some [seenC (cp1 (h.length + 1 + (cpT (l.take j)).length) l[j]).1 (cp1 (h.length + 1 + (cpT (l.take j)).length) l[j]).2]) (some 1) = some (h'.set h.length (.tok l.length 7 (some (sc (cpL (h.length + 1) (l.take (j + 1)) ++ raw (l.drop (j + 1))))))) := fun h' => by
        have := stP_ses (h := h') (id := h.length) hM (j := 6) (by decide) (v := seenC (cp1 (h.length + 1 + (cpT (l.take j)).length) l[j]).1 (cp1 (h.length + 1 + (cpT (l.take j)).length) l[j]).2) (x' := cp1 (h.length + 1 + (cpT (l.take j)).length) l[j]) (by unfold cp1; split <;> rfl)
        rw [hMl, hnext] at this
        have hl2 : (cpL (h.length + 1) (l.take (j + 1)) ++ raw (l.drop (j + 1))).length = l.length := by rw [← hnext, List.length_set, hMl]
        rw [this, rowO, hl2]
      generalize hv : seenC (cp1 (h.length + 1 + (cpT (l.take j)).length) l[j]).1 (cp1 (h.length + 1 + (cpT (l.take j)).length) l[j]).2 = v at *
      have hcs : AV.cs (.v (.c v)) = some [v] := by
        rw [← hv]
        unfold cp1
        split <;> rfl
      have hc := Nat.zero_add 0
      repeat' (first | simp only [hc, AS, NX, NPV, SX, HX, hlt, hw, nn, Int.toNat_natCast, hc6, f2, hput, hcs, AB, PL, RG, LP, TY, simprocAttr, ↓reduceIte, forall_const, eq_self, ne_eq, Option.some.injEq, beq_self_eq_true] | ((first | apply fin_ndec | apply fin_dec | apply cnd_ndec | apply cnd_dec' | apply fin_nsplit | apply fin_split | apply cnd_nsplit | apply cnd_split) <;> intro hc) | refine seqS_id ?_ | refine blk_exit_id ?_)
      exact lp_next (j + 1) (Wk.sub' (by simp [subT, look]) (by rw [hT])) (by omega) (by omega)
    · have hlt : ((j : Int) < (l.length : Int)) = False := eq_false (by omega)
      rw [List.take_of_length_le (by omega), List.drop_of_length_le (by omega)]
      have hc := Nat.zero_add 0
      repeat' (first | simp only [hc, AS, NX, NPV, SX, HX, hlt, AB, PL, RG, LP, TY, simprocAttr, ↓reduceIte, forall_const, eq_self, ne_eq, Option.some.injEq, beq_self_eq_true] | ((first | apply fin_ndec | apply fin_dec | apply cnd_ndec | apply cnd_dec' | apply fin_nsplit | apply fin_split | apply cnd_nsplit | apply cnd_split) <;> intro hc) | refine seqS_id ?_ | refine blk_exit_id ?_)
      exact ⟨_, Wk.refl, [.c (.msl h.length l.length)], by simp [resAllV, resOneV, S.get, look, AV.one], by simp [resVV, raw]⟩
  · cases hg

end
end Go.Ab

/-
  session.Step.
-/
namespace Go.Ab
open Go.RowKit Go.Proofs

def encStep (q : (Bool × List Ses) × Par × Bool × List Zon) : List PA := [.c (.sl q.1.1 (q.1.2.map Ses.row)), .agg q.2.1.row, .c (.sl q.2.2.1 (q.2.2.2.map Zon.row))]
theorem encStep_inj (a b : (Bool × List Ses) × Par × Bool × List Zon) (h : encStep a = encStep b) : a = b := by
  obtain ⟨⟨a1, a2⟩, a3, a4, a5⟩ := a
  obtain ⟨⟨b1, b2⟩, b3, b4, b5⟩ := b
  simp [encStep, mapS_inj, mapZn_inj] at h
  obtain ⟨⟨rfl, rfl⟩, h3, rfl, rfl⟩ := h
  rw [Par.inj _ _ h3]
/-- What session.Step returns. -/
def stepR (f : Bool) (l : List Ses) (p : Par) (zs : List Zon) : List PA :=
  if (applyF zs (l.map cpS) p).2 = 0 then [.c (.sl false ((applyF zs (l.map cpS) p).1.map Ses.row)), .c (.int .i64 0)] else [.c (.sl f (l.map Ses.row)), .c (.int .i64 (applyF zs (l.map cpS) p).2)]

noncomputable section
open Classical

theorem scopied_at {h : Hp} {f : Bool} {l : List Ses} (h1 : l.length ≤ 1000000000) (h2 : ∀ s ∈ l, s.seen.length ≤ 1000000000) :
    scopied_k [.v (.c (.d (.sl f (l.map Ses.row))))] h = some (.ret (.v (.c (.msl h.length l.length))) (h ++ .tok l.length 7 (some (sc (cpL (h.length + 1) l))) :: cpT l)) := by
  have := kR_eq (R := cpRl) (g := fun a : CpA => if a.l.length ≤ 1000000000 ∧ ∀ s ∈ a.l, s.seen.length ≤ 1000000000 then some (.ret (.v (.c (.msl a.h.length a.l.length))) (a.h ++ .tok a.l.length 7 (some (sc (cpL (a.h.length + 1) a.l))) :: cpT a.l)) else none) (a := ⟨h, f, l⟩)
    (args := [.v (.c (.d (.sl f (l.map Ses.row))))]) (h := h) (fun b hb => by rw [cpRl_inj (a := ⟨h, f, l⟩) ⟨rfl, rfl⟩ hb]) ⟨rfl, rfl⟩
  exact this.trans (if_pos ⟨h1, h2⟩)

theorem cpL_many {k : Nat} {l : List Ses} {N : Nat} (h : ∀ s ∈ l, s.seen.length ≤ N) : ∀ x ∈ cpL k l, x.1.seen.length ≤ N := fun x hx => by
  have hm : x.1 ∈ ssOf (cpL k l) := List.mem_map_of_mem hx
  rw [cpL_ss] at hm
  obtain ⟨s, hs, he⟩ := List.mem_map.1 hm
  rw [← he]
  exact h s hs

def sstep_m : List PA → Option (List PA) := mE encStep fun q => if q.1.2.length ≤ 1000000 ∧ (∀ s ∈ q.1.2, s.seen.length ≤ 1000000) ∧ q.2.1.Ok ∧ zonesOk q.2.2.2 then some (stepR q.1.1 q.1.2 q.2.1 q.2.2.2) else none

set_option maxHeartbeats 2000000 in
theorem sstep_ok : PureC Tryz.prog Gt 11 sstep_m := by
  refine pure_of_awpSW (X := ctxN Tryz.prog Gt [] [(33, scopied_k), (32, sapply_k)] [] none (uL [60]) (uL [1])) Tryz.func11 rfl rfl (by kernel_rfl) (by kernel_rfl) (kok_n AllOk.nil (AllK.cons scopied_kok (AllK.cons sapply_kok AllK.nil)) AllN.nil) ?_
  intro args r h0
  obtain ⟨⟨⟨f, l⟩, p, fz, zs⟩, rfl, h⟩ := mE_inv h0
  refine ⟨Nat.le_of_ble_eq_true rfl, ?_⟩
  split at h
  · rename_i hl
    obtain ⟨hl1, hl2, hp, hz⟩ := hl
    dsimp only at hl1 hl2 hp hz h
    simp only [Option.some.injEq] at h
    have f1 := scopied_at (h := [.box (p.row.map .d)]) (f := f) (l := l) (by omega) (fun s hs => by have := hl2 s hs; omega)
    have hL := cpL_live (h := [.box (p.row.map .d)]) (l := l)
    have hlow := cpL_low (h := [.box (p.row.map .d)]) (l := l) (by simp [LowH, Ob.low, Par.row, C1.low])
    have f2 := sapply_at (p := p) (f := fz) (zs := zs) hL hlow ⟨by rw [cpL_len]; omega, cpL_many (fun s hs => by have := hl2 s hs; omega)⟩ hp hz
    have hcs := apO_cases (h := [.box (p.row.map .d)] ++ .tok l.length 7 (some (sc (cpL ([Ob.box (p.row.map .d)].length + 1) l))) :: cpT l) (id := 1) (L := cpL ([Ob.box (p.row.map .d)].length + 1) l) (p := p) (zs := zs)
    have hss := apO_ss ([.box (p.row.map .d)] ++ .tok l.length 7 (some (sc (cpL ([Ob.box (p.row.map .d)].length + 1) l))) :: cpT l) 1 (cpL ([Ob.box (p.row.map .d)].length + 1) l) p zs
    rw [cpL_ss] at hss
    unfold stepR at h
    rw [cpL_len] at f2
    rw [← hss.1, ← hss.2] at h
    generalize apO ([.box (p.row.map .d)] ++ .tok l.length 7 (some (sc (cpL ([Ob.box (p.row.map .d)].length + 1) l))) :: cpT l) 1 (cpL ([Ob.box (p.row.map .d)].length + 1) l) p zs = A at *
    obtain ⟨L', e, H⟩ := A
    dsimp only at hcs hss f2 h
    obtain ⟨hL', hlow'⟩ := hcs.live hL hlow
    clear hcs hss hp
    have hfr := Wk.freezeC (n := 0) (t := [(6, .v (.c (.msl 1 L'.length))), (7, AV.i 0)]) (h := H) 6 1 L'.length 7 (sc L') _ (by simp [look]) hL'.row hL'.allD
    rw [chunk_ses] at hfr
    have hr1 : (L'.map fun x => x.1.row) = (ssOf L').map Ses.row := by simp
    rw [hr1] at hfr
    obtain ⟨k1, z1, p1, t1, u1⟩ := p
    simp only [Par.av, Par.row, List.map_cons, List.map_nil, List.length_cons, List.length_nil, Nat.zero_add, Nat.reduceAdd, List.cons_append, List.nil_append] at f1 f2
    by_cases c1 : e = 0
    · subst c1
      rw [if_pos rfl] at h
      subst h
      have hc := Nat.zero_add 0
      repeat' (first | simp only [hc, AS, Tryz.f11, encStep, NX, NPV, SX, Par.row, AB, PL, RG, LP, TY, simprocAttr, ↓reduceIte, forall_const, eq_self, ne_eq, Option.some.injEq, beq_self_eq_true] | ((first | apply fin_ndec | apply fin_dec | apply cnd_ndec | apply cnd_dec' | apply fin_nsplit | apply fin_split | apply cnd_nsplit | apply cnd_split) <;> intro hc) | refine seqS_id ?_ | refine blk_exit_id ?_)
      refine awp_two [0, 3] 1 [2, 4, 5, 6, 7, 8, 9] 2 [1, 4, 5, 6, 7, 8, 9] rfl (by kernel_rfl) ?_
      have hc := Nat.zero_add 0
      repeat' (first | simp only [hc, AS, TW, NX, NPV, SX, f1, f2, AB, PL, RG, LP, TY, simprocAttr, ↓reduceIte, forall_const, eq_self, ne_eq, Option.some.injEq, beq_self_eq_true] | ((first | apply fin_ndec | apply fin_dec | apply cnd_ndec | apply cnd_dec' | apply fin_nsplit | apply fin_split | apply cnd_nsplit | apply cnd_split) <;> intro hc) | refine seqS_id ?_ | refine blk_exit_id ?_)
      refine ⟨seqS_id ?_, seqS_id ?_⟩
      all_goals
        have hc := Nat.zero_add 0
        repeat' (first | simp only [hc, AS, NX, NPV, SX, f1, f2, AB, PL, RG, LP, TY, simprocAttr, ↓reduceIte, forall_const, eq_self, ne_eq, Option.some.injEq, beq_self_eq_true] | ((first | apply fin_ndec | apply fin_dec | apply cnd_ndec | apply cnd_dec' | apply fin_nsplit | apply fin_split | apply cnd_nsplit | apply cnd_split) <;> intro hc) | refine seqS_id ?_ | refine blk_exit_id ?_)

      all_goals exact ⟨_, (Wk.sub' (by simp [subT, look]) rfl).trans hfr, rfl⟩
    · have c1' : (e = 0) = False := eq_false c1
      rw [if_neg c1] at h
      subst h
      have hc := Nat.zero_add 0
      repeat' (first | simp only [hc, AS, Tryz.f11, encStep, NX, NPV, SX, Par.row, AB, PL, RG, LP, TY, simprocAttr, ↓reduceIte, forall_const, eq_self, ne_eq, Option.some.injEq, beq_self_eq_true] | ((first | apply fin_ndec | apply fin_dec | apply cnd_ndec | apply cnd_dec' | apply fin_nsplit | apply fin_split | apply cnd_nsplit | apply cnd_split) <;> intro hc) | refine seqS_id ?_ | refine blk_exit_id ?_)
      refine awp_two [0, 3] 1 [2, 4, 5, 6, 7, 8, 9] 2 [1, 4, 5, 6, 7, 8, 9] rfl (by kernel_rfl) ?_
      have hc := Nat.zero_add 0
      repeat' (first | simp only [hc, AS, TW, NX, NPV, SX, f1, f2, c1', AB, PL, RG, LP, TY, simprocAttr, ↓reduceIte, forall_const, eq_self, ne_eq, Option.some.injEq, beq_self_eq_true] | ((first | apply fin_ndec | apply fin_dec | apply cnd_ndec | apply cnd_dec' | apply fin_nsplit | apply fin_split | apply cnd_nsplit | apply cnd_split) <;> intro hc) | refine seqS_id ?_ | refine blk_exit_id ?_)
      refine ⟨seqS_id ?_, seqS_id ?_⟩
      all_goals
        have hc := Nat.zero_add 0
        repeat' (first | simp only [hc, AS, NX, NPV, SX, f1, f2, c1', AB, PL, RG, LP, TY, simprocAttr, ↓reduceIte, forall_const, eq_self, ne_eq, Option.some.injEq, beq_self_eq_true] | ((first | apply fin_ndec | apply fin_dec | apply cnd_ndec | apply cnd_dec' | apply fin_nsplit | apply fin_split | apply cnd_nsplit | apply cnd_split) <;> intro hc) | refine seqS_id ?_ | refine blk_exit_id ?_)

      all_goals exact ⟨_, Wk.refl, rfl⟩
  · cases h

end
end Go.Ab
