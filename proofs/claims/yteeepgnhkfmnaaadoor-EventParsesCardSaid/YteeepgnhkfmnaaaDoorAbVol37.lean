/-
  Texts of the layer and of the laws, put together: AbF18. No law is stated here.
-/
import Derived.Test.YteeepgnhkfmnaaaDoorAbVol36
import Derived.Test.YteeepgnhkfmnaaaDoorAbVol16
set_option linter.unusedSimpArgs false
set_option linter.unusedVariables false
set_option maxRecDepth 100000

/-
  codec.begin, codec.Int, codec.Text.
-/
namespace Go.Ab
open Go.RowKit Go.Proofs

/-- A number decoded: itself, where the next thing stands, the error. -/
def decI (b : List UInt8) (p : Int) : Int × Int × Int :=
  if p < 0 ∨ (b.length : Int) < p then (0, 0, 2) else match numG 0 0 (b.drop p.toNat) with
  | .error e => (0, 0, e)
  | .ok (u, k) => (valI u, (p.toNat + k : Nat), 0)
def decT (b : List UInt8) (p : Int) : List UInt8 × Int × Int :=
  if p < 0 ∨ (b.length : Int) < p then ([], 0, 2) else match txtG b p.toNat with
  | .error e => ([], 0, e)
  | .ok (s, m) => (s, m, 0)

noncomputable section
open Classical

structure BeB where
  h : Hp
  f : Bool
  b : List UInt8
  n : Int
def bebR (a : BeB) (args : List AV) (h : Hp) : Prop := args = [.v (.c (.d (.sl a.f (a.b.map rowB)))), .v (.c (.d (.int .i64 a.n)))] ∧ h = a.h
theorem bebR_inj {a b : BeB} {args : List AV} {h : Hp} (ha : bebR a args h) (hb : bebR b args h) : b = a := by
  obtain ⟨a1, a2, a3, a4⟩ := a
  obtain ⟨b1, b2, b3, b4⟩ := b
  obtain ⟨h1, h2⟩ := ha
  obtain ⟨g1, g2⟩ := hb
  dsimp only at *
  subst h2 g2
  rw [h1] at g1
  simp only [List.cons.injEq, AV.v.injEq, V.c.injEq, C1.d.injEq, D.sl.injEq, D.int.injEq, and_true, true_and] at g1
  obtain ⟨⟨g3, g4⟩, g5⟩ := g1
  rw [g3, mapB_inj.1 g4, g5]

def cbeg_k : List AV → Hp → Option COut := kR bebR fun a => if a.b.length ≤ 1000000 then some (if a.n < 0 ∨ (a.b.length : Int) < a.n then .pan (eno 2) a.h else .ret (.v (.c (.ptr a.h.length 0))) (a.h ++ [rdrB a.f a.b a.n])) else none

theorem cbeg_kok : ImpC Tryd.prog Gt 70 cbeg_k := by
  intro args h out h0
  refine fok_of_awpSW (X := ctxN Tryd.prog Gt [] [] [] none) Tryd.func70 rfl rfl (by kernel_rfl) (by kernel_rfl) (kok_n AllOk.nil AllK.nil AllN.nil) ?_ ?_
  · obtain ⟨a, ⟨rfl, _⟩, _⟩ := kR_inv h0
    exact Nat.le_of_ble_eq_true rfl
  obtain ⟨⟨h', f, b, n⟩, ⟨rfl, rfl⟩, hg⟩ := kR_inv h0
  dsimp only at hg ⊢
  split at hg
  · rename_i hb
    simp only [Option.some.injEq] at hg
    have l1 := @lenB b
    by_cases c1 : n < 0
    · have c1' : (n < 0) = True := eq_true c1
      rw [if_pos (.inl c1)] at hg
      subst hg
      have hc := Nat.zero_add 0
      repeat' (first | simp only [hc, AS, Tryd.f70, NX, NPV, SX, HX, mkErr, RetsW_pan, l1, c1', AB, PL, RG, LP, TY, simprocAttr, ↓reduceIte, forall_const, eq_self, ne_eq, Option.some.injEq, beq_self_eq_true] | ((first | apply fin_ndec | apply fin_dec | apply cnd_ndec | apply cnd_dec' | apply fin_nsplit | apply fin_split | apply cnd_nsplit | apply cnd_split) <;> intro hc) | refine seqS_id ?_ | refine blk_exit_id ?_)
      exact ⟨_, _, _, h, rfl, Wk.sub' (by simp [subT]) rfl, rfl⟩
    have c1' : (n < 0) = False := eq_false c1
    by_cases c2 : (b.length : Int) < n
    · have c2' : (n > (b.length : Int)) = True := eq_true c2
      rw [if_pos (.inr c2)] at hg
      subst hg
      have hc := Nat.zero_add 0
      repeat' (first | simp only [hc, AS, Tryd.f70, NX, NPV, SX, HX, mkErr, RetsW_pan, l1, c1', c2', AB, PL, RG, LP, TY, simprocAttr, ↓reduceIte, forall_const, eq_self, ne_eq, Option.some.injEq, beq_self_eq_true] | ((first | apply fin_ndec | apply fin_dec | apply cnd_ndec | apply cnd_dec' | apply fin_nsplit | apply fin_split | apply cnd_nsplit | apply cnd_split) <;> intro hc) | refine seqS_id ?_ | refine blk_exit_id ?_)
      exact ⟨_, _, _, h, rfl, Wk.sub' (by simp [subT]) rfl, rfl⟩
    have c2' : (n > (b.length : Int)) = False := eq_false c2
    rw [if_neg (by omega)] at hg
    subst hg
    have hc := Nat.zero_add 0
    repeat' (first | simp only [hc, AS, Tryd.f70, NX, NPV, SX, HX, mkErr, RetsW_pan, l1, c1', c2', AB, PL, RG, LP, TY, simprocAttr, ↓reduceIte, forall_const, eq_self, ne_eq, Option.some.injEq, beq_self_eq_true] | ((first | apply fin_ndec | apply fin_dec | apply cnd_ndec | apply cnd_dec' | apply fin_nsplit | apply fin_split | apply cnd_nsplit | apply cnd_split) <;> intro hc) | refine seqS_id ?_ | refine blk_exit_id ?_)
    exact ⟨_, Wk.refl, [.c (.ptr h.length 0)], by simp [resAllV, resOneV, S.get, look, AV.one], by simp [resVV]⟩
  · cases hg
theorem cbeg_at {h : Hp} {f : Bool} {b : List UInt8} {n : Int} (h1 : b.length ≤ 1000000) : cbeg_k [.v (.c (.d (.sl f (b.map rowB)))), .v (.c (.d (.int .i64 n)))] h = some (if n < 0 ∨ (b.length : Int) < n then .pan (eno 2) h else .ret (.v (.c (.ptr h.length 0))) (h ++ [rdrB f b n])) := by
  have := kR_eq (R := bebR) (g := fun a : BeB => if a.b.length ≤ 1000000 then some (if a.n < 0 ∨ (a.b.length : Int) < a.n then COut.pan (eno 2) a.h else .ret (.v (.c (.ptr a.h.length 0))) (a.h ++ [rdrB a.f a.b a.n])) else none) (a := ⟨h, f, b, n⟩)
    (args := [.v (.c (.d (.sl f (b.map rowB)))), .v (.c (.d (.int .i64 n)))]) (h := h) (fun b' hb => by rw [bebR_inj (a := ⟨h, f, b, n⟩) ⟨rfl, rfl⟩ hb]) ⟨rfl, rfl⟩
  exact this.trans (if_pos h1)

theorem ctext_at {h : Hp} {id n : Nat} {f : Bool} {b : List UInt8} (h1 : h[id]? = some (rdrB f b n)) (h2 : n ≤ b.length) (h3 : b.length ≤ 1000000) :
    ctext_k [.v (.c (.ptr id 0))] h = some (match txtG b n with | .ok (s, m) => .ret (.v (.c (.d (.sl (f && decide ((m : Int) = b.length)) (s.map rowB))))) (h.set id (rdrB f b m)) | .error e => .pan (eno e) (h.set id topB)) := by
  have := kR_eq (R := rdbR) (g := fun a : RdB => if rdOk a then some (match txtG a.b a.n with | .ok (s, m) => COut.ret (.v (.c (.d (.sl (a.f && decide ((m : Int) = a.b.length)) (s.map rowB))))) (a.h.set a.id (rdrB a.f a.b m)) | .error e => .pan (eno e) (a.h.set a.id topB)) else none) (a := ⟨h, id, f, b, n⟩)
    (args := [.v (.c (.ptr id 0))]) (h := h) (fun b' hb => by rw [rdbR_inj (a := ⟨h, id, f, b, n⟩) ⟨rfl, rfl, h1⟩ hb]) ⟨rfl, rfl, h1⟩
  exact this.trans (if_pos ⟨h2, h3⟩)

/-! ### The closures -/

abbrev caps3 : List (Nat × Nat) := [(0, 0), (1, 0), (2, 0)]
abbrev iB (n : Int) : Ob := .box [.d (.int .i64 n)]
abbrev sB (s : List UInt8) : Ob := .box [.d (.str s)]
theorem zvErr {tab : Tab} {kt : KTab} {nt : NTab} {B : Option (TypeId × TypeId)} {U : TypeId → Bool} {Ed : Nat → Bool} : (ctxN Tryd.prog Gt tab kt nt B U Ed).zeroV 29 = some (.c (.d (.int .i64 0))) := by kernel_rfl

theorem argV3 {a b c : AV} : argV 0 [a, b, c] = [(0, a), (1, b), (2, c)] := rfl
theorem clI_idle (h : Hp) : DOk Tryd.prog Gt 69 (capsA caps3) h none h := by
  refine dok_of_awp2 (X := ctxN Tryd.prog Gt [] [] [] none) (l := [_, _, _, _, _, _]) Tryd.func69 rfl rfl rfl rfl rfl rfl rfl rfl (Nat.le_of_ble_eq_true rfl) ?_ (by kernel_rfl) (by kernel_rfl) (kok_n AllOk.nil AllK.nil AllN.nil) (Nat.le_of_ble_eq_true rfl) ?_
  · intro o ho t ht
    simp only [List.mem_cons, List.not_mem_nil, or_false] at ho
    rcases ho with rfl | rfl | rfl | rfl | rfl | rfl <;> cases ht <;> exact Nat.le_of_ble_eq_true rfl
  simp only [recV, capsA, List.map_cons, List.map_nil, argV3]
  have hc := Nat.zero_add 0
  repeat' (first | simp only [hc, AS, NX, NW, SX, zvErr, AB, PL, RG, LP, TY, simprocAttr, ↓reduceIte, forall_const, eq_self, ne_eq, Option.some.injEq, beq_self_eq_true] | ((first | apply fin_ndec | apply fin_dec | apply cnd_ndec | apply cnd_dec' | apply fin_nsplit | apply fin_split | apply cnd_nsplit | apply cnd_split) <;> intro hc) | refine seqS_id ?_ | refine blk_exit_id ?_)
  all_goals exact .inl trivial
theorem clI_pan (a b c k : Int) (g : Hp) : DOk Tryd.prog Gt 69 (capsA caps3) (iB a :: iB b :: iB c :: g) (some (eno k)) (iB 0 :: iB 0 :: iB k :: g) := by
  refine dok_of_awp2 (X := ctxN Tryd.prog Gt [] [] [] none) (l := [_, _, _, _, _, _]) Tryd.func69 rfl rfl rfl rfl rfl rfl rfl rfl (Nat.le_of_ble_eq_true rfl) ?_ (by kernel_rfl) (by kernel_rfl) (kok_n AllOk.nil AllK.nil AllN.nil) (Nat.le_of_ble_eq_true rfl) ?_
  · intro o ho t ht
    simp only [List.mem_cons, List.not_mem_nil, or_false] at ho
    rcases ho with rfl | rfl | rfl | rfl | rfl | rfl <;> cases ht <;> exact Nat.le_of_ble_eq_true rfl
  simp only [recV, capsA, List.map_cons, List.map_nil, argV3, eno]
  have hc := Nat.zero_add 0
  repeat' (first | simp only [hc, AS, NX, NW, SX, zvErr, AB, PL, RG, LP, TY, simprocAttr, ↓reduceIte, forall_const, eq_self, ne_eq, Option.some.injEq, beq_self_eq_true] | ((first | apply fin_ndec | apply fin_dec | apply cnd_ndec | apply cnd_dec' | apply fin_nsplit | apply fin_split | apply cnd_nsplit | apply cnd_split) <;> intro hc) | refine seqS_id ?_ | refine blk_exit_id ?_)
  all_goals exact ⟨.inl trivial, rfl⟩
theorem clT_idle (h : Hp) : DOk Tryd.prog Gt 72 (capsA caps3) h none h := by
  refine dok_of_awp2 (X := ctxN Tryd.prog Gt [] [] [] none) (l := [_, _, _, _, _, _]) Tryd.func72 rfl rfl rfl rfl rfl rfl rfl rfl (Nat.le_of_ble_eq_true rfl) ?_ (by kernel_rfl) (by kernel_rfl) (kok_n AllOk.nil AllK.nil AllN.nil) (Nat.le_of_ble_eq_true rfl) ?_
  · intro o ho t ht
    simp only [List.mem_cons, List.not_mem_nil, or_false] at ho
    rcases ho with rfl | rfl | rfl | rfl | rfl | rfl <;> cases ht <;> exact Nat.le_of_ble_eq_true rfl
  simp only [recV, capsA, List.map_cons, List.map_nil, argV3]
  have hc := Nat.zero_add 0
  repeat' (first | simp only [hc, AS, NX, NW, SX, zvErr, AB, PL, RG, LP, TY, simprocAttr, ↓reduceIte, forall_const, eq_self, ne_eq, Option.some.injEq, beq_self_eq_true] | ((first | apply fin_ndec | apply fin_dec | apply cnd_ndec | apply cnd_dec' | apply fin_nsplit | apply fin_split | apply cnd_nsplit | apply cnd_split) <;> intro hc) | refine seqS_id ?_ | refine blk_exit_id ?_)
  all_goals exact .inl trivial
theorem clT_pan (a : List UInt8) (b c k : Int) (g : Hp) : DOk Tryd.prog Gt 72 (capsA caps3) (sB a :: iB b :: iB c :: g) (some (eno k)) (sB [] :: iB 0 :: iB k :: g) := by
  refine dok_of_awp2 (X := ctxN Tryd.prog Gt [] [] [] none) (l := [_, _, _, _, _, _]) Tryd.func72 rfl rfl rfl rfl rfl rfl rfl rfl (Nat.le_of_ble_eq_true rfl) ?_ (by kernel_rfl) (by kernel_rfl) (kok_n AllOk.nil AllK.nil AllN.nil) (Nat.le_of_ble_eq_true rfl) ?_
  · intro o ho t ht
    simp only [List.mem_cons, List.not_mem_nil, or_false] at ho
    rcases ho with rfl | rfl | rfl | rfl | rfl | rfl <;> cases ht <;> exact Nat.le_of_ble_eq_true rfl
  simp only [recV, capsA, List.map_cons, List.map_nil, argV3, eno]
  have hc := Nat.zero_add 0
  repeat' (first | simp only [hc, AS, NX, NW, SX, zvErr, AB, PL, RG, LP, TY, simprocAttr, ↓reduceIte, forall_const, eq_self, ne_eq, Option.some.injEq, beq_self_eq_true] | ((first | apply fin_ndec | apply fin_dec | apply cnd_ndec | apply cnd_dec' | apply fin_nsplit | apply fin_split | apply cnd_nsplit | apply cnd_split) <;> intro hc) | refine seqS_id ?_ | refine blk_exit_id ?_)
  all_goals exact ⟨.inl trivial, rfl⟩

/-! ### codec.Int, codec.Text -/

abbrev t3 : List (Nat × AV) := [(4, .v (.c (.ptr 0 0))), (5, .v (.c (.ptr 1 0))), (6, .v (.c (.ptr 2 0)))]
theorem retD3_pan {X : Ctx} {rs : List ResultVar} {g : FuncId} {h h' rest : Hp} {A B C : Ob} {t : List (Nat × AV)} {vs : List V} {k : C1} {out : COut} (hd : DOk X.P X.G g (capsA caps3) h (some k) h')
    (h0 : h' = A :: B :: C :: rest) (hs : subT t t3) (hl : ([A, B, C].all (Ob.low 3)) = true) (hres : resAllV X ⟨t3, [A, B, C]⟩ rs = some vs) (hout : out = .ret (resVV vs) [A, B, C]) : RetsD X 0 rs g caps3 out (.pan k) ⟨t, h⟩ :=
  ⟨h', hd, ⟨t3, [A, B, C]⟩, Wk.back' (g := rest) hl h0 (Nat.zero_le _) hs rfl, vs, hres, hout⟩
theorem retD3_ret {X : Ctx} {rs : List ResultVar} {g : FuncId} {h rest : Hp} {A B C : Ob} {t : List (Nat × AV)} {vs : List V} {out : COut} (hd : DOk X.P X.G g (capsA caps3) h none h)
    (h0 : h = A :: B :: C :: rest) (hs : subT t t3) (hl : ([A, B, C].all (Ob.low 3)) = true) (hres : resAllV X ⟨t3, [A, B, C]⟩ rs = some vs) (hout : out = .ret (resVV vs) [A, B, C]) : RetsD X 0 rs g caps3 out .ret ⟨t, h⟩ :=
  ⟨h, hd, ⟨t3, [A, B, C]⟩, Wk.back' (g := rest) hl h0 (Nat.zero_le _) hs rfl, vs, hres, hout⟩

theorem resI {tab : Tab} {kt : KTab} {nt : NTab} {B : Option (TypeId × TypeId)} {U : TypeId → Bool} {Ed : Nat → Bool} {a b c : Int} : resAllV (ctxN Tryd.prog Gt tab kt nt B U Ed) ⟨t3, [iB a, iB b, iB c]⟩ [.cell 4 3, .cell 5 3, .cell 6 29] = some [.c (.d (.int .i64 a)), .c (.d (.int .i64 b)), .c (.d (.int .i64 c))] := by
  simp only [resAllV, resOneV, S.get, look, t3, NX, SX, AB, PL, RG, LP, TY, simprocAttr, ↓reduceIte, forall_const, eq_self, ne_eq, Option.some.injEq, beq_self_eq_true]
  rfl
theorem resT {tab : Tab} {kt : KTab} {nt : NTab} {B : Option (TypeId × TypeId)} {U : TypeId → Bool} {Ed : Nat → Bool} {a : List UInt8} {b c : Int} : resAllV (ctxN Tryd.prog Gt tab kt nt B U Ed) ⟨t3, [sB a, iB b, iB c]⟩ [.cell 4 9, .cell 5 3, .cell 6 29] = some [.c (.d (.str a)), .c (.d (.int .i64 b)), .c (.d (.int .i64 c))] := by
  simp only [resAllV, resOneV, S.get, look, t3, NX, SX, AB, PL, RG, LP, TY, simprocAttr, ↓reduceIte, forall_const, eq_self, ne_eq, Option.some.injEq, beq_self_eq_true]
  rfl

def cint_m : List PA → Option (List PA) := mE encBI fun p => if p.1.2.length ≤ 1000000 then some [.i (decI p.1.2 p.2).1, .i (decI p.1.2 p.2).2.1, .i (decI p.1.2 p.2).2.2] else none
def ctxt_m : List PA → Option (List PA) := mE encBI fun p => if p.1.2.length ≤ 1000000 then some [.s (decT p.1.2 p.2).1, .i (decT p.1.2 p.2).2.1, .i (decT p.1.2 p.2).2.2] else none

abbrev treeRd : Tr := .run [0, 1, 2, 3] (.br 4 (.run [5, 6, 7] .fin) 5 (.run [4, 6, 7] .fin))
set_option maxHeartbeats 1000000 in
theorem cint_ok : PureC Tryd.prog Gt 60 cint_m := by
  refine pure_of_defer (X := ctxN Tryd.prog Gt [] [(70, cbeg_k), (71, cnum_k)] [] none (uL []) (uL [4])) (i := 1) (l := [_]) (g := 69) (caps := caps3) Tryd.func60 rfl rfl (by kernel_rfl) (by kernel_rfl) rfl rfl rfl rfl rfl rfl ?_ (fun vs w => enters_of Tryd.func69 (by kernel_rfl) rfl vs w) (by kernel_rfl) (kok_n AllOk.nil (AllK.cons cbeg_kok (AllK.cons cnum_kok AllK.nil)) AllN.nil) ?_
  · intro o ho t ht
    rw [List.mem_singleton] at ho
    subst ho
    cases ht
    exact Nat.le_of_ble_eq_true rfl
  intro args r h0
  obtain ⟨⟨⟨f, b⟩, p⟩, rfl, h⟩ := mE_inv h0
  refine ⟨Nat.le_of_ble_eq_true rfl, ?_⟩
  split at h
  · rename_i hb
    dsimp only at hb h
    simp only [Option.some.injEq] at h
    subst h
    refine ⟨[iB (decI b p).1, iB (decI b p).2.1, iB (decI b p).2.2], ?_⟩
    have f1 := cbeg_at (h := [iB 0, iB 0, iB 0]) (f := f) (n := p) hb
    simp only [encBI, List.map_cons, List.map_nil, DV.av, DV.V, argV, NPV]
    have hD : decI b p = decI b p := rfl
    conv at hD => rhs; unfold decI
    by_cases c1 : p < 0 ∨ (b.length : Int) < p
    · rw [if_pos c1] at f1 hD
      rw [hD]
      have hc := Nat.zero_add 0
      repeat' (first | simp only [hc, AS, Tryd.f60, NX, NPV, NW, SX, HX, zvErr, f1, AB, PL, RG, LP, TY, simprocAttr, ↓reduceIte, forall_const, eq_self, ne_eq, Option.some.injEq, beq_self_eq_true] | ((first | apply fin_ndec | apply fin_dec | apply cnd_ndec | apply cnd_dec' | apply fin_nsplit | apply fin_split | apply cnd_nsplit | apply cnd_split) <;> intro hc) | refine seqS_id ?_ | refine blk_exit_id ?_)
      refine ⟨_, rfl, rfl, ?_⟩
      have hc := Nat.zero_add 0
      repeat' (first | simp only [hc, AS, NX, NPV, NW, SX, HX, zvErr, f1, AB, PL, RG, LP, TY, simprocAttr, ↓reduceIte, forall_const, eq_self, ne_eq, Option.some.injEq, beq_self_eq_true] | ((first | apply fin_ndec | apply fin_dec | apply cnd_ndec | apply cnd_dec' | apply fin_nsplit | apply fin_split | apply cnd_nsplit | apply cnd_split) <;> intro hc) | refine seqS_id ?_ | refine blk_exit_id ?_)
      exact retD3_pan (clI_pan 0 0 0 2 []) rfl (by simp [subT, look]) rfl resI rfl
    · rw [if_neg c1] at f1 hD
      obtain ⟨n, rfl⟩ : ∃ n : Nat, p = (n : Int) := ⟨p.toNat, by omega⟩
      rw [Int.toNat_natCast] at hD
      have f2 := cnum_at (h := [iB 0, iB 0, iB 0, rdrB f b n]) (id := 3) rfl (show n ≤ b.length by omega) hb
      cases hN : numG 0 0 (b.drop n) with
      | error e =>
        rw [hN] at f2 hD
        dsimp only at f2 hD
        rw [hD]
        have hc := Nat.zero_add 0
        repeat' (first | simp only [hc, AS, Tryd.f60, NX, NPV, NW, SX, HX, zvErr, f1, AB, PL, RG, LP, TY, simprocAttr, ↓reduceIte, forall_const, eq_self, ne_eq, Option.some.injEq, beq_self_eq_true] | ((first | apply fin_ndec | apply fin_dec | apply cnd_ndec | apply cnd_dec' | apply fin_nsplit | apply fin_split | apply cnd_nsplit | apply cnd_split) <;> intro hc) | refine seqS_id ?_ | refine blk_exit_id ?_)
        refine ⟨_, rfl, rfl, ?_⟩
        have hc := Nat.zero_add 0
        repeat' (first | simp only [hc, AS, NX, NPV, NW, SX, HX, zvErr, f1, f2, AB, PL, RG, LP, TY, simprocAttr, ↓reduceIte, forall_const, eq_self, ne_eq, Option.some.injEq, beq_self_eq_true] | ((first | apply fin_ndec | apply fin_dec | apply cnd_ndec | apply cnd_dec' | apply fin_nsplit | apply fin_split | apply cnd_nsplit | apply cnd_split) <;> intro hc) | refine seqS_id ?_ | refine blk_exit_id ?_)
        exact retD3_pan (clI_pan 0 0 0 e [topB]) rfl (by simp [subT, look]) rfl resI rfl
      | ok q =>
        obtain ⟨u, k⟩ := q
        rw [hN] at f2 hD
        dsimp only at f2 hD
        rw [hD]
        have hc := Nat.zero_add 0
        repeat' (first | simp only [hc, AS, Tryd.f60, NX, NPV, NW, SX, HX, zvErr, f1, AB, PL, RG, LP, TY, simprocAttr, ↓reduceIte, forall_const, eq_self, ne_eq, Option.some.injEq, beq_self_eq_true] | ((first | apply fin_ndec | apply fin_dec | apply cnd_ndec | apply cnd_dec' | apply fin_nsplit | apply fin_split | apply cnd_nsplit | apply cnd_split) <;> intro hc) | refine seqS_id ?_ | refine blk_exit_id ?_)
        refine ⟨_, rfl, rfl, ?_⟩
        have hc := Nat.zero_add 0
        repeat' (first | simp only [hc, AS, NX, NPV, NW, SX, HX, zvErr, f1, f2, AB, PL, RG, LP, TY, simprocAttr, ↓reduceIte, forall_const, eq_self, ne_eq, Option.some.injEq, beq_self_eq_true] | ((first | apply fin_ndec | apply fin_dec | apply cnd_ndec | apply cnd_dec' | apply fin_nsplit | apply fin_split | apply cnd_nsplit | apply cnd_split) <;> intro hc) | refine seqS_id ?_ | refine blk_exit_id ?_)
        refine awp_fork treeRd ⟨t3, [iB (valI u), iB (n + k : Nat), iB 0, rdrB f b (n + k : Nat)]⟩ ⟨t3, [iB (valI u), iB (n + k : Nat), iB 0, rdrB f b (n + k : Nat)]⟩ rfl (by kernel_rfl) ?_ ?_ ?_
        · skip
          have hc := Nat.zero_add 0
          repeat' (first | simp only [hc, AS, treeRd, TRE, NX, NPV, NW, SX, HX, AB, PL, RG, LP, TY, simprocAttr, ↓reduceIte, forall_const, eq_self, ne_eq, Option.some.injEq, beq_self_eq_true] | ((first | apply fin_ndec | apply fin_dec | apply cnd_ndec | apply cnd_dec' | apply fin_nsplit | apply fin_split | apply cnd_nsplit | apply cnd_split) <;> intro hc) | refine seqS_id ?_ | refine blk_exit_id ?_)
          constructor <;> exact .inl (Wk.sub' (by simp [subT, look]) rfl)
        all_goals
          have hc := Nat.zero_add 0
          repeat' (first | simp only [hc, AS, NX, NPV, NW, SX, HX, AB, PL, RG, LP, TY, simprocAttr, ↓reduceIte, forall_const, eq_self, ne_eq, Option.some.injEq, beq_self_eq_true] | ((first | apply fin_ndec | apply fin_dec | apply cnd_ndec | apply cnd_dec' | apply fin_nsplit | apply fin_split | apply cnd_nsplit | apply cnd_split) <;> intro hc) | refine seqS_id ?_ | refine blk_exit_id ?_)
          exact retD3_ret (clI_idle _) rfl (by simp [subT, look]) rfl resI rfl
  · cases h

set_option maxHeartbeats 1000000 in
theorem ctxt_ok : PureC Tryd.prog Gt 62 ctxt_m := by
  refine pure_of_defer (X := ctxN Tryd.prog Gt [] [(70, cbeg_k), (73, ctext_k)] [] none (uL []) (uL [4])) (i := 1) (l := [_]) (g := 72) (caps := caps3) Tryd.func62 rfl rfl (by kernel_rfl) (by kernel_rfl) rfl rfl rfl rfl rfl rfl ?_ (fun vs w => enters_of Tryd.func72 (by kernel_rfl) rfl vs w) (by kernel_rfl) (kok_n AllOk.nil (AllK.cons cbeg_kok (AllK.cons ctext_kok AllK.nil)) AllN.nil) ?_
  · intro o ho t ht
    rw [List.mem_singleton] at ho
    subst ho
    cases ht
    exact Nat.le_of_ble_eq_true rfl
  intro args r h0
  obtain ⟨⟨⟨f, b⟩, p⟩, rfl, h⟩ := mE_inv h0
  refine ⟨Nat.le_of_ble_eq_true rfl, ?_⟩
  split at h
  · rename_i hb
    dsimp only at hb h
    simp only [Option.some.injEq] at h
    subst h
    refine ⟨[sB (decT b p).1, iB (decT b p).2.1, iB (decT b p).2.2], ?_⟩
    have f1 := cbeg_at (h := [sB [], iB 0, iB 0]) (f := f) (n := p) hb
    simp only [encBI, List.map_cons, List.map_nil, DV.av, DV.V, argV, NPV]
    have hD : decT b p = decT b p := rfl
    conv at hD => rhs; unfold decT
    by_cases c1 : p < 0 ∨ (b.length : Int) < p
    · rw [if_pos c1] at f1 hD
      rw [hD]
      have hc := Nat.zero_add 0
      repeat' (first | simp only [hc, AS, Tryd.f62, NX, NPV, NW, SX, HX, zvErr, f1, AB, PL, RG, LP, TY, simprocAttr, ↓reduceIte, forall_const, eq_self, ne_eq, Option.some.injEq, beq_self_eq_true] | ((first | apply fin_ndec | apply fin_dec | apply cnd_ndec | apply cnd_dec' | apply fin_nsplit | apply fin_split | apply cnd_nsplit | apply cnd_split) <;> intro hc) | refine seqS_id ?_ | refine blk_exit_id ?_)
      refine ⟨_, rfl, rfl, ?_⟩
      have hc := Nat.zero_add 0
      repeat' (first | simp only [hc, AS, NX, NPV, NW, SX, HX, zvErr, f1, AB, PL, RG, LP, TY, simprocAttr, ↓reduceIte, forall_const, eq_self, ne_eq, Option.some.injEq, beq_self_eq_true] | ((first | apply fin_ndec | apply fin_dec | apply cnd_ndec | apply cnd_dec' | apply fin_nsplit | apply fin_split | apply cnd_nsplit | apply cnd_split) <;> intro hc) | refine seqS_id ?_ | refine blk_exit_id ?_)
      exact retD3_pan (clT_pan [] 0 0 2 []) rfl (by simp [subT, look]) rfl resT rfl
    · rw [if_neg c1] at f1 hD
      obtain ⟨n, rfl⟩ : ∃ n : Nat, p = (n : Int) := ⟨p.toNat, by omega⟩
      rw [Int.toNat_natCast] at hD
      have f2 := ctext_at (h := [sB [], iB 0, iB 0, rdrB f b n]) (id := 3) rfl (show n ≤ b.length by omega) hb
      cases hN : txtG b n with
      | error e =>
        rw [hN] at f2 hD
        dsimp only at f2 hD
        rw [hD]
        have hc := Nat.zero_add 0
        repeat' (first | simp only [hc, AS, Tryd.f62, NX, NPV, NW, SX, HX, zvErr, f1, AB, PL, RG, LP, TY, simprocAttr, ↓reduceIte, forall_const, eq_self, ne_eq, Option.some.injEq, beq_self_eq_true] | ((first | apply fin_ndec | apply fin_dec | apply cnd_ndec | apply cnd_dec' | apply fin_nsplit | apply fin_split | apply cnd_nsplit | apply cnd_split) <;> intro hc) | refine seqS_id ?_ | refine blk_exit_id ?_)
        refine ⟨_, rfl, rfl, ?_⟩
        have hc := Nat.zero_add 0
        repeat' (first | simp only [hc, AS, NX, NPV, NW, SX, HX, zvErr, f1, f2, AB, PL, RG, LP, TY, simprocAttr, ↓reduceIte, forall_const, eq_self, ne_eq, Option.some.injEq, beq_self_eq_true] | ((first | apply fin_ndec | apply fin_dec | apply cnd_ndec | apply cnd_dec' | apply fin_nsplit | apply fin_split | apply cnd_nsplit | apply cnd_split) <;> intro hc) | refine seqS_id ?_ | refine blk_exit_id ?_)
        exact retD3_pan (clT_pan [] 0 0 e [topB]) rfl (by simp [subT, look]) rfl resT rfl
      | ok q =>
        obtain ⟨x, m⟩ := q
        rw [hN] at f2 hD
        dsimp only at f2 hD
        rw [hD]
        have hc := Nat.zero_add 0
        repeat' (first | simp only [hc, AS, Tryd.f62, NX, NPV, NW, SX, HX, zvErr, f1, AB, PL, RG, LP, TY, simprocAttr, ↓reduceIte, forall_const, eq_self, ne_eq, Option.some.injEq, beq_self_eq_true] | ((first | apply fin_ndec | apply fin_dec | apply cnd_ndec | apply cnd_dec' | apply fin_nsplit | apply fin_split | apply cnd_nsplit | apply cnd_split) <;> intro hc) | refine seqS_id ?_ | refine blk_exit_id ?_)
        refine ⟨_, rfl, rfl, ?_⟩
        have q2 : cvU true (x.map rowB) = some (.str x) := cvU_ok
        have hc := Nat.zero_add 0
        repeat' (first | simp only [hc, AS, NX, NPV, NW, SX, HX, zvErr, f1, f2, q2, cv_sl, AB, PL, RG, LP, TY, simprocAttr, ↓reduceIte, forall_const, eq_self, ne_eq, Option.some.injEq, beq_self_eq_true] | ((first | apply fin_ndec | apply fin_dec | apply cnd_ndec | apply cnd_dec' | apply fin_nsplit | apply fin_split | apply cnd_nsplit | apply cnd_split) <;> intro hc) | refine seqS_id ?_ | refine blk_exit_id ?_)
        refine awp_fork treeRd ⟨t3, [sB x, iB m, iB 0, rdrB f b m]⟩ ⟨t3, [sB x, iB m, iB 0, rdrB f b m]⟩ rfl (by kernel_rfl) ?_ ?_ ?_
        · skip
          have hc := Nat.zero_add 0
          repeat' (first | simp only [hc, AS, treeRd, TRE, NX, NPV, NW, SX, HX, AB, PL, RG, LP, TY, simprocAttr, ↓reduceIte, forall_const, eq_self, ne_eq, Option.some.injEq, beq_self_eq_true] | ((first | apply fin_ndec | apply fin_dec | apply cnd_ndec | apply cnd_dec' | apply fin_nsplit | apply fin_split | apply cnd_nsplit | apply cnd_split) <;> intro hc) | refine seqS_id ?_ | refine blk_exit_id ?_)
          constructor <;> exact .inl (Wk.sub' (by simp [subT, look]) rfl)
        all_goals
          have hc := Nat.zero_add 0
          repeat' (first | simp only [hc, AS, NX, NPV, NW, SX, HX, AB, PL, RG, LP, TY, simprocAttr, ↓reduceIte, forall_const, eq_self, ne_eq, Option.some.injEq, beq_self_eq_true] | ((first | apply fin_ndec | apply fin_dec | apply cnd_ndec | apply cnd_dec' | apply fin_nsplit | apply fin_split | apply cnd_nsplit | apply cnd_split) <;> intro hc) | refine seqS_id ?_ | refine blk_exit_id ?_)
          exact retD3_ret (clT_idle _) rfl (by simp [subT, look]) rfl resT rfl
  · cases h

end
end Go.Ab
