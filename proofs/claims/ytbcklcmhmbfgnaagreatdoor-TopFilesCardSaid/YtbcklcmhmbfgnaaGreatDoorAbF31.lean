/-
  Texts of the layer and of the laws, put together: AbA15, AbA16.
-/
import Derived.Test.YtbcklcmhmbfgnaaGreatDoorAbF30
set_option linter.unusedSimpArgs false
set_option linter.unusedVariables false
set_option maxRecDepth 100000
namespace Go.Ab
open Go.RowKit Go.Proofs
def lineL (x : Rdr) (l : List (List UInt8)) : Except Int Rdr :=
  if x.beg = false then (match firE l with
    | .error k => .error k
    | .ok (b, c, n) => .ok { x with fr := b, dst := c, seq := n, beg := true })
  else if x.fin = true then .error 5
  else if l.length = 3 ∧ l[0]? = some [101, 110, 100] then (match lasE x l with
    | .error k => .error k
    | .ok _ => .ok { x with fin := true })
  else if l.length = 4 ∧ 0 ≤ idxS (wordsL.drop 1) (l.headD []) then (match recE x.rs l with
    | .error k => .error k
    | .ok r => .ok { x with rs := x.rs ++ [r] })
  else .error 5
def lineE (x : Rdr) (s : List UInt8) : Except Int Rdr := if (fieldsF s).2 = 0 then lineL x ((fieldsF s).1.getD []) else .error (fieldsF s).2
def hpQ (x x' : Rdr) : Hp := if x.rs = [] ∧ x'.rs ≠ [] then [.box zF, .box (x'.cells (.own 4 (x'.rs.map Rec.row))), .box [.d (.int .i64 0)], .box [.top, .top, .top, .top, .top], .tok x'.rs.length 5 none] else hpR x' (eB 0)
theorem slT_map (o : Option (List (List UInt8))) : slT true o = .sl true ((o.getD []).map rowS) := by
  cases o <;> rfl
theorem mem_int (c : UInt8) : ∀ (l : List (List UInt8)) (p : List UInt8), p ∈ l → p.length ≤ (List.intercalate [c] l).length
  | [a], p, h => by
    simp at h
    subst h
    simp [List.intercalate]
  | a :: b :: r, p, h => by
    have e : List.intercalate [c] (a :: b :: r) = a ++ c :: List.intercalate [c] (b :: r) := by simp [List.intercalate, List.intersperse]
    rw [e, List.length_append, List.length_cons]
    rcases List.mem_cons.1 h with rfl | h
    · omega
    have := mem_int c (b :: r) p h
    omega
theorem fields_lin {s : List UInt8} (h : (fieldsF s).2 = 0) : linOk ((fieldsF s).1.getD []) := by
  intro p hp
  unfold fieldsF at hp h
  split at hp
  · simp at hp
  split at hp
  · simp at hp
  split at hp
  · have := mem_int 32 _ p hp
    rw [Option.getD_some, spl_join] at this
    omega
  simp at hp
noncomputable section
open Classical
section
variable {tab : Tab} {kt : KTab} {nt : NTab} {B : Option (TypeId × TypeId)}
theorem res_cell {t : List (Nat × AV)} {h : Hp} {e : Nat} {k : Int} (ht : look t 4 = .v (.c (.ptr e 0))) (he : h[e]? = some (.box [.d (.int .i64 k)])) : resAllV (ctxN Tryz.prog Gt tab kt nt B) ⟨t, h⟩ [.cell 4 29] = some [.c (.d (.int .i64 k))] := by
  simp only [resAllV, resOneV, S.get, ht, he, NX, ZZ, simprocAttr, ↓reduceIte]
  rfl
theorem retD_panT {n e : Nat} {t : List (Nat × AV)} {h : Hp} {k e0 : Int} {cs : List C1} {out : COut} (he : h[e]? = some (.box [.d (.int .i64 e0)])) (ht : look t 4 = .v (.c (.ptr e 0))) (hn : n ≤ h.length) (hlow : (h.set e (.box [.d (.int .i64 k)])).all (Ob.low h.length) = true) (h1 : (h.set e (.box [.d (.int .i64 k)]))[1]? = some (.box cs)) (he1 : 1 ≠ e)
    (ho : out = .ret (.v (.c (.d (.int .i64 k)))) ((h.set e (.box [.d (.int .i64 k)])).set 1 (.box (cs.map fun _ => .top)))) : RetsD (ctxN Tryz.prog Gt tab kt nt B) n [.cell 4 29] clF [(e, 0)] out (.pan (.ifc 103 [.int .i64 k] true)) ⟨t, h⟩ := by
  have hel := lt_of_get he
  have hs : ((h.set e (.box [.d (.int .i64 k)])).set 1 (.box (cs.map fun _ => .top)))[e]? = some (.box [.d (.int .i64 k)]) := by rw [List.getElem?_set_ne he1]; simp [hel]
  refine ⟨_, cl_pan e h he, ⟨[(4, .v (.c (.ptr e 0)))], (h.set e (.box [.d (.int .i64 k)])).set 1 (.box (cs.map fun _ => .top))⟩, (Wk.cut (t' := [(4, .v (.c (.ptr e 0)))]) (by simpa using hn) (by simp [subT, ht]) ?_ (by simpa using hlow)).trans (Wk.tops (id := 1) h1 (by simp [subT, look]) rfl rfl), _, res_cell rfl hs, ho⟩
  simp [AV.low, V.low, C1.low, hel]
theorem retD_retT {n e : Nat} {t : List (Nat × AV)} {h : Hp} {k : Int} {cs : List C1} {out : COut} (he : h[e]? = some (.box [.d (.int .i64 k)])) (ht : look t 4 = .v (.c (.ptr e 0))) (h1 : h[1]? = some (.box cs)) (he1 : 1 ≠ e)
    (ho : out = .ret (.v (.c (.d (.int .i64 k)))) (h.set 1 (.box (cs.map fun _ => .top)))) : RetsD (ctxN Tryz.prog Gt tab kt nt B) n [.cell 4 29] clF [(e, 0)] out .ret ⟨t, h⟩ :=
  ⟨_, cl_idle e h, ⟨[(4, .v (.c (.ptr e 0)))], h.set 1 (.box (cs.map fun _ => .top))⟩, Wk.tops (id := 1) h1 (by simp [subT, ht]) rfl rfl, _, res_cell rfl (by rw [List.getElem?_set_ne he1]; exact he), ho⟩
theorem retD_ret {n e : Nat} {t : List (Nat × AV)} {h : Hp} {k : Int} {out : COut} (he : h[e]? = some (.box [.d (.int .i64 k)])) (ht : look t 4 = .v (.c (.ptr e 0)))
    (ho : out = .ret (.v (.c (.d (.int .i64 k)))) h) : RetsD (ctxN Tryz.prog Gt tab kt nt B) n [.cell 4 29] clF [(e, 0)] out .ret ⟨t, h⟩ :=
  ⟨_, cl_idle e h, ⟨t, h⟩, Wk.refl, _, res_cell ht he, ho⟩
end
end
end Go.Ab
namespace Go.Ab
open Go.RowKit Go.Proofs
noncomputable section
open Classical
def lnR (a : Rdr × List UInt8) (args : List AV) (h : Hp) : Prop := args = [.v (.c (.ptr 1 0)), AV.s a.2] ∧ h = hpR a.1 []
def aread_k : List AV → Hp → Option COut := kR lnR fun a => if a.1.rs.length ≤ 1024 ∧ (a.1.beg = false → a.1.rs = []) then some (match lineE a.1 a.2 with | .error k => .ret (.v (.c (.d (.int .i64 k)))) (hpP a.1 (eB k)) | .ok x' => .ret (.v (.c (.d (.int .i64 0)))) (hpQ a.1 x')) else none
theorem tfields_at {s : List UInt8} : tfields_m [.c (.str s)] = some [.c (.sl true (((fieldsF s).1.getD []).map rowS)), .i (fieldsF s).2] := by
  rw [tfields_m, ms_eq, slT_map]
set_option maxHeartbeats 4000000 in
theorem aread_kok : ImpC Tryz.prog Gt 32 aread_k := by
  intro args h out h0
  obtain ⟨⟨x, s⟩, ⟨rfl, rfl⟩, hg⟩ := kR_inv h0
  dsimp only at hg ⊢
  split at hg
  · rename_i hok
    obtain ⟨hrs, hbeg⟩ := hok
    simp only [Option.some.injEq] at hg
    obtain ⟨fr, dst, seq, rs, beg, fin⟩ := x
    dsimp only at hrs hbeg
    have hE : lineE ⟨fr, dst, seq, rs, beg, fin⟩ s = if (fieldsF s).2 = 0 then lineL ⟨fr, dst, seq, rs, beg, fin⟩ ((fieldsF s).1.getD []) else .error (fieldsF s).2 := rfl
    rw [hE] at hg
    clear hE h0
    have f1 := @tfields_at s
    have hlin := @fields_lin s
    generalize (fieldsF s).1.getD [] = l at *
    generalize (fieldsF s).2 = err at *
    by_cases hr0 : rs = []
    · subst hr0
      have eH : hpR ⟨fr, dst, seq, [], beg, fin⟩ [] = [.box zF, .box [.d (.str fr), .d (.str dst), .d (.int .i64 seq), .d (.sl true []), .d (.bool beg), .d (.bool fin)]] := rfl
      have eE : ∀ e b f, hpR ⟨fr, dst, seq, [], b, f⟩ (eB e) = [.box zF, .box [.d (.str fr), .d (.str dst), .d (.int .i64 seq), .d (.sl true []), .d (.bool b), .d (.bool f)], .box [.d (.int .i64 e)]] := fun _ _ _ => rfl
      have eP : ∀ k, hpP ⟨fr, dst, seq, [], beg, fin⟩ (eB k) = [.box zF, .box tops6, .box [.d (.int .i64 k)]] := fun _ => rfl
      rw [eH]
      simp only [eP] at hg
      refine fok_of_defer (X := ctxN Tryz.prog Gt [(53, tfields_m), (57, shas_m)] [(55, afirst_k), (56, alast_k), (58, arec_k)] [(54, amust_n)] none) (i := 1) (l := [_]) (g := clF) (caps := [(2, 0)]) Tryz.func32 rfl rfl (by kernel_rfl) (by kernel_rfl) rfl rfl rfl rfl rfl rfl ?_ (fun vs w => enters_of Tryz.func52 (by kernel_rfl) rfl vs w) (by kernel_rfl) (kok_n (AllOk.cons tfields_ok (AllOk.cons shas_ok AllOk.nil)) (AllK.cons afirst_kok (AllK.cons alast_kok (AllK.cons arec_kok AllK.nil))) (AllN.cons amust_nok AllN.nil)) (Nat.le_of_ble_eq_true rfl) ?_
      · intro o ho t ht
        rw [List.mem_singleton] at ho
        subst ho
        cases ht
        exact Nat.le_of_ble_eq_true rfl
      have hc := Nat.zero_add 0
      repeat' (first | simp only [hc, AS, Tryz.f32, NX, NP, NW, SX, gloWordsN, words_tail, ZZ, simprocAttr, ↓reduceIte] | ((first | apply Za | apply Zb | apply Zc | apply Zd | apply Ze | apply Zf | apply Zg | apply Zh) <;> intro hc) | refine Zj ?_)
      refine ⟨_, rfl, rfl, ?_⟩
      by_cases he : ¬ err = 0
      · have hx : (if err = 0 then lineL ⟨fr, dst, seq, [], beg, fin⟩ l else .error err) = .error err := if_neg he
        rw [hx] at hg
        subst hg
        have f2 := must1 he
        have hc := Nat.zero_add 0
        repeat' (first | simp only [hc, AS, NX, NP, NW, SX, gloWordsN, words_tail, f1, f2, ZZ, simprocAttr, ↓reduceIte] | ((first | apply Za | apply Zb | apply Zc | apply Zd | apply Ze | apply Zf | apply Zg | apply Zh) <;> intro hc) | refine Zi ?_ | refine Zj ?_)
        all_goals exact retD_panT rfl rfl (Nat.le_of_ble_eq_true rfl) rfl rfl (by decide) rfl
      have he := Classical.not_not.1 he
      subst he
      rw [if_pos rfl] at hg
      have hl := hlin rfl
      have f2 := must0
      cases beg with
      | false =>
        have f3 := @afirst_at ⟨fr, dst, seq, [], false, fin⟩ true l 0 rfl hl
        rw [eE] at f3
        simp only [eP] at f3
        have hx : lineL ⟨fr, dst, seq, [], false, fin⟩ l = (match firE l with
          | .error k => .error k
          | .ok (b, c, n) => .ok ⟨b, c, n, [], true, fin⟩) := rfl
        rw [hx] at hg
        clear hx
        cases hf : firE l with
        | error k =>
          rw [hf] at f3 hg
          dsimp only at f3 hg
          subst hg
          generalize l.map rowS = L at *
          have hc := Nat.zero_add 0
          repeat' (first | simp only [hc, AS, NX, NP, NW, SX, gloWordsN, words_tail, f1, f2, f3, ZZ, simprocAttr, ↓reduceIte] | ((first | apply Za | apply Zb | apply Zc | apply Zd | apply Ze | apply Zf | apply Zg | apply Zh) <;> intro hc) | refine Zi ?_ | refine Zj ?_)
          all_goals exact retD_panT rfl rfl (Nat.le_of_ble_eq_true rfl) rfl rfl (by decide) rfl
        | ok p =>
          obtain ⟨b, c, n⟩ := p
          rw [hf] at f3 hg
          dsimp only at f3 hg
          rw [show ∀ b c n f, hpR ⟨b, c, n, [], true, f⟩ (eB 0) = [.box zF, .box [.d (.str b), .d (.str c), .d (.int .i64 n), .d (.sl true []), .d (.bool true), .d (.bool f)], .box [.d (.int .i64 0)]] from fun _ _ _ _ => rfl] at f3
          subst hg
          generalize l.map rowS = L at *
          have hc := Nat.zero_add 0
          repeat' (first | simp only [hc, AS, NX, NP, NW, SX, gloWordsN, words_tail, f1, f2, f3, ZZ, simprocAttr, ↓reduceIte] | ((first | apply Za | apply Zb | apply Zc | apply Zd | apply Ze | apply Zf | apply Zg | apply Zh) <;> intro hc) | refine Zi ?_ | refine Zj ?_)
          all_goals first | exact retD_ret rfl rfl rfl | exact retD_retT rfl rfl rfl (by decide) rfl
      | true =>
        cases fin with
        | true =>
          have hx : lineL ⟨fr, dst, seq, [], true, true⟩ l = .error 5 := rfl
          rw [hx] at hg
          subst hg
          generalize l.map rowS = L at *
          have hc := Nat.zero_add 0
          repeat' (first | simp only [hc, AS, NX, NP, NW, SX, gloWordsN, words_tail, f1, f2, ZZ, simprocAttr, ↓reduceIte] | ((first | apply Za | apply Zb | apply Zc | apply Zd | apply Ze | apply Zf | apply Zg | apply Zh) <;> intro hc) | refine Zi ?_ | refine Zj ?_)
          all_goals first | exact retD_ret rfl rfl rfl | exact retD_retT rfl rfl rfl (by decide) rfl
        | false =>
          have l1 : ((l.map rowS).length : Int) = l.length := by simp
          have hx : lineL ⟨fr, dst, seq, [], true, false⟩ l = (if l.length = 3 ∧ l[0]? = some [101, 110, 100] then (match lasE ⟨fr, dst, seq, [], true, false⟩ l with
            | .error k => .error k
            | .ok _ => .ok ⟨fr, dst, seq, [], true, true⟩)
            else if l.length = 4 ∧ 0 ≤ idxS (wordsL.drop 1) (l.headD []) then (match recE [] l with
            | .error k => .error k
            | .ok r => .ok ⟨fr, dst, seq, [] ++ [r], true, false⟩)
            else .error 5) := rfl
          rw [hx] at hg
          clear hx
          by_cases h3 : l.length = 3
          · have n3 : ((l.length : Int) = 3) = True := eq_true (by omega)
            have n4 : ((l.length : Int) = 4) = False := eq_false (by omega)
            obtain ⟨a, ha⟩ : ∃ a, l[0]? = some a := ⟨l[0], List.getElem?_eq_getElem (by omega)⟩
            have i0 := rowS1 ha
            rw [ha] at hg
            by_cases c1 : a = [101, 110, 100]
            · have c1' : (a == [101, 110, 100]) = true := by simp [c1]
              rw [if_pos ⟨h3, by rw [c1]⟩] at hg
              have f3 := @alast_at ⟨fr, dst, seq, [], true, false⟩ true l 0 hrs h3 hl
              rw [eE] at f3
              simp only [eP] at f3
              cases hf : lasE ⟨fr, dst, seq, [], true, false⟩ l with
              | error k =>
                rw [hf] at f3 hg
                dsimp only at f3 hg
                subst hg
                generalize l.map rowS = L at *
                have hc := Nat.zero_add 0
                repeat' (first | simp only [hc, AS, NX, NP, NW, SX, gloWordsN, words_tail, f1, f2, f3, l1, n3, i0, c1', ZZ, simprocAttr, ↓reduceIte] | ((first | apply Za | apply Zb | apply Zc | apply Zd | apply Ze | apply Zf | apply Zg | apply Zh) <;> intro hc) | refine Zi ?_ | refine Zj ?_)
                all_goals exact retD_panT rfl rfl (Nat.le_of_ble_eq_true rfl) rfl rfl (by decide) rfl
              | ok p =>
                rw [hf] at f3 hg
                dsimp only at f3 hg
                rw [eE] at f3
                rw [hpQ, if_neg (by simp), eE] at hg
                subst hg
                generalize l.map rowS = L at *
                have hc := Nat.zero_add 0
                repeat' (first | simp only [hc, AS, NX, NP, NW, SX, gloWordsN, words_tail, f1, f2, f3, l1, n3, i0, c1', ZZ, simprocAttr, ↓reduceIte] | ((first | apply Za | apply Zb | apply Zc | apply Zd | apply Ze | apply Zf | apply Zg | apply Zh) <;> intro hc) | refine Zi ?_ | refine Zj ?_)
                all_goals first | exact retD_ret rfl rfl rfl | exact retD_retT rfl rfl rfl (by decide) rfl
            have c1' : (a == [101, 110, 100]) = false := by simp [c1]
            rw [if_neg (fun h => c1 (Option.some.inj h.2)), if_neg (by omega)] at hg
            subst hg
            generalize l.map rowS = L at *
            have hc := Nat.zero_add 0
            repeat' (first | simp only [hc, AS, NX, NP, NW, SX, gloWordsN, words_tail, f1, f2, l1, n3, n4, i0, c1', ZZ, simprocAttr, ↓reduceIte] | ((first | apply Za | apply Zb | apply Zc | apply Zd | apply Ze | apply Zf | apply Zg | apply Zh) <;> intro hc) | refine Zi ?_ | refine Zj ?_)
            all_goals first | exact retD_ret rfl rfl rfl | exact retD_retT rfl rfl rfl (by decide) rfl
          have n3 : ((l.length : Int) = 3) = False := eq_false (by omega)
          rw [if_neg (fun h => h3 h.1)] at hg
          by_cases h4 : l.length = 4
          · have n4 : ((l.length : Int) = 4) = True := eq_true (by omega)
            obtain ⟨a, ha⟩ : ∃ a, l[0]? = some a := ⟨l[0], List.getElem?_eq_getElem (by omega)⟩
            have i0 := rowS1 ha
            have hhd : l.headD [] = a := by
              cases l with
              | nil => cases ha
              | cons y r => simpa using ha
            rw [hhd] at hg
            have f4 := @shas_at true (wordsL.drop 1) a (by decide)
            by_cases c2 : 0 ≤ idxS (wordsL.drop 1) a
            · rw [decide_eq_true c2] at f4
              rw [if_pos ⟨h4, c2⟩] at hg
              have f3 := @arec_at ⟨fr, dst, seq, [], true, false⟩ true l 0 hrs h4 hl
              rw [eE] at f3
              simp only [eP] at f3
              cases hf : recE [] l with
              | error k =>
                rw [hf] at f3 hg
                dsimp only at f3 hg
                subst hg
                generalize l.map rowS = L at *
                have hc := Nat.zero_add 0
                repeat' (first | simp only [hc, AS, NX, NP, NW, SX, gloWordsN, words_tail, f1, f2, f3, l1, n3, n4, i0, f4, ZZ, simprocAttr, ↓reduceIte] | ((first | apply Za | apply Zb | apply Zc | apply Zd | apply Ze | apply Zf | apply Zg | apply Zh) <;> intro hc) | refine Zi ?_ | refine Zj ?_)
                all_goals exact retD_panT rfl rfl (Nat.le_of_ble_eq_true rfl) rfl rfl (by decide) rfl
              | ok r =>
                rw [hf] at f3 hg
                dsimp only at f3 hg
                rw [show ∀ r, hpN ⟨fr, dst, seq, [], true, false⟩ r 0 = [.box zF, .box [.d (.str fr), .d (.str dst), .d (.int .i64 seq), .own 4 [r.row], .d (.bool true), .d (.bool false)], .box [.d (.int .i64 0)], .box [.top, .top, .top, .top, .top], .tok 1 5 none] from fun _ => rfl] at f3
                rw [show ∀ r : Rec, hpQ ⟨fr, dst, seq, [], true, false⟩ ⟨fr, dst, seq, [] ++ [r], true, false⟩ = [.box zF, .box [.d (.str fr), .d (.str dst), .d (.int .i64 seq), .own 4 [r.row], .d (.bool true), .d (.bool false)], .box [.d (.int .i64 0)], .box [.top, .top, .top, .top, .top], .tok 1 5 none] from fun _ => rfl] at hg
                subst hg
                generalize l.map rowS = L at *
                have hc := Nat.zero_add 0
                repeat' (first | simp only [hc, AS, NX, NP, NW, SX, gloWordsN, words_tail, f1, f2, f3, l1, n3, n4, i0, f4, ZZ, simprocAttr, ↓reduceIte] | ((first | apply Za | apply Zb | apply Zc | apply Zd | apply Ze | apply Zf | apply Zg | apply Zh) <;> intro hc) | refine Zi ?_ | refine Zj ?_)
                all_goals first | exact retD_ret rfl rfl rfl | exact retD_retT rfl rfl rfl (by decide) rfl
            rw [decide_eq_false c2] at f4
            rw [if_neg (fun h => c2 h.2)] at hg
            subst hg
            generalize l.map rowS = L at *
            have hc := Nat.zero_add 0
            repeat' (first | simp only [hc, AS, NX, NP, NW, SX, gloWordsN, words_tail, f1, f2, l1, n3, n4, i0, f4, ZZ, simprocAttr, ↓reduceIte] | ((first | apply Za | apply Zb | apply Zc | apply Zd | apply Ze | apply Zf | apply Zg | apply Zh) <;> intro hc) | refine Zi ?_ | refine Zj ?_)
            all_goals first | exact retD_ret rfl rfl rfl | exact retD_retT rfl rfl rfl (by decide) rfl
          have n4 : ((l.length : Int) = 4) = False := eq_false (by omega)
          rw [if_neg (fun h => h4 h.1)] at hg
          subst hg
          generalize l.map rowS = L at *
          have hc := Nat.zero_add 0
          repeat' (first | simp only [hc, AS, NX, NP, NW, SX, gloWordsN, words_tail, f1, f2, l1, n3, n4, ZZ, simprocAttr, ↓reduceIte] | ((first | apply Za | apply Zb | apply Zc | apply Zd | apply Ze | apply Zf | apply Zg | apply Zh) <;> intro hc) | refine Zi ?_ | refine Zj ?_)
          all_goals first | exact retD_ret rfl rfl rfl | exact retD_retT rfl rfl rfl (by decide) rfl
    have hbt : beg = true := by
      cases beg with
      | true => rfl
      | false => exact absurd (hbeg rfl) hr0
    subst hbt
    have eH : hpR ⟨fr, dst, seq, rs, true, fin⟩ [] = [.box zF, .box [.d (.str fr), .d (.str dst), .d (.int .i64 seq), .own 4 (rs.map Rec.row), .d (.bool true), .d (.bool fin)], .box [.top], .box [.top, .top, .top, .top, .top], .tok rs.length 5 none] := by rw [hpR, if_neg hr0]; rfl
    have eE : ∀ e b f, hpR ⟨fr, dst, seq, rs, b, f⟩ (eB e) = [.box zF, .box [.d (.str fr), .d (.str dst), .d (.int .i64 seq), .own 4 (rs.map Rec.row), .d (.bool b), .d (.bool f)], .box [.top], .box [.top, .top, .top, .top, .top], .tok rs.length 5 none, .box [.d (.int .i64 e)]] := fun _ _ _ => by rw [hpR, if_neg hr0]; rfl
    have eP : ∀ k, hpP ⟨fr, dst, seq, rs, true, fin⟩ (eB k) = [.box zF, .box tops6, .box [.top], .box [.top, .top, .top, .top, .top], .tok rs.length 5 none, .box [.d (.int .i64 k)]] := fun _ => by rw [hpP, if_neg hr0]
    rw [eH]
    simp only [eP] at hg
    refine fok_of_defer (X := ctxN Tryz.prog Gt [(53, tfields_m), (57, shas_m)] [(55, afirst_k), (56, alast_k), (58, arec_k)] [(54, amust_n)] none) (i := 1) (l := [_]) (g := clF) (caps := [(5, 0)]) Tryz.func32 rfl rfl (by kernel_rfl) (by kernel_rfl) rfl rfl rfl rfl rfl rfl ?_ (fun vs w => enters_of Tryz.func52 (by kernel_rfl) rfl vs w) (by kernel_rfl) (kok_n (AllOk.cons tfields_ok (AllOk.cons shas_ok AllOk.nil)) (AllK.cons afirst_kok (AllK.cons alast_kok (AllK.cons arec_kok AllK.nil))) (AllN.cons amust_nok AllN.nil)) (Nat.le_of_ble_eq_true rfl) ?_
    · intro o ho t ht
      rw [List.mem_singleton] at ho
      subst ho
      cases ht
      exact Nat.le_of_ble_eq_true rfl
    have hc := Nat.zero_add 0
    repeat' (first | simp only [hc, AS, Tryz.f32, NX, NP, NW, SX, gloWordsN, words_tail, ZZ, simprocAttr, ↓reduceIte] | ((first | apply Za | apply Zb | apply Zc | apply Zd | apply Ze | apply Zf | apply Zg | apply Zh) <;> intro hc) | refine Zj ?_)
    refine ⟨_, rfl, rfl, ?_⟩
    by_cases he : ¬ err = 0
    · have hx : (if err = 0 then lineL ⟨fr, dst, seq, rs, true, fin⟩ l else .error err) = .error err := if_neg he
      rw [hx] at hg
      subst hg
      have f2 := must1 he
      have hc := Nat.zero_add 0
      repeat' (first | simp only [hc, AS, NX, NP, NW, SX, gloWordsN, words_tail, f1, f2, ZZ, simprocAttr, ↓reduceIte] | ((first | apply Za | apply Zb | apply Zc | apply Zd | apply Ze | apply Zf | apply Zg | apply Zh) <;> intro hc) | refine Zi ?_ | refine Zj ?_)
      all_goals exact retD_panT rfl rfl (Nat.le_of_ble_eq_true rfl) rfl rfl (by decide) rfl
    have he := Classical.not_not.1 he
    subst he
    rw [if_pos rfl] at hg
    have hl := hlin rfl
    have f2 := must0
    cases fin with
    | true =>
      have hx : lineL ⟨fr, dst, seq, rs, true, true⟩ l = .error 5 := rfl
      rw [hx] at hg
      subst hg
      generalize l.map rowS = L at *
      have hc := Nat.zero_add 0
      repeat' (first | simp only [hc, AS, NX, NP, NW, SX, gloWordsN, words_tail, f1, f2, ZZ, simprocAttr, ↓reduceIte] | ((first | apply Za | apply Zb | apply Zc | apply Zd | apply Ze | apply Zf | apply Zg | apply Zh) <;> intro hc) | refine Zi ?_ | refine Zj ?_)
      all_goals first | exact retD_ret rfl rfl rfl | exact retD_retT rfl rfl rfl (by decide) rfl
    | false =>
      have l1 : ((l.map rowS).length : Int) = l.length := by simp
      have hx : lineL ⟨fr, dst, seq, rs, true, false⟩ l = (if l.length = 3 ∧ l[0]? = some [101, 110, 100] then (match lasE ⟨fr, dst, seq, rs, true, false⟩ l with
        | .error k => .error k
        | .ok _ => .ok ⟨fr, dst, seq, rs, true, true⟩)
        else if l.length = 4 ∧ 0 ≤ idxS (wordsL.drop 1) (l.headD []) then (match recE rs l with
        | .error k => .error k
        | .ok r => .ok ⟨fr, dst, seq, rs ++ [r], true, false⟩)
        else .error 5) := rfl
      rw [hx] at hg
      clear hx
      by_cases h3 : l.length = 3
      · have n3 : ((l.length : Int) = 3) = True := eq_true (by omega)
        have n4 : ((l.length : Int) = 4) = False := eq_false (by omega)
        obtain ⟨a, ha⟩ : ∃ a, l[0]? = some a := ⟨l[0], List.getElem?_eq_getElem (by omega)⟩
        have i0 := rowS1 ha
        rw [ha] at hg
        by_cases c1 : a = [101, 110, 100]
        · have c1' : (a == [101, 110, 100]) = true := by simp [c1]
          rw [if_pos ⟨h3, by rw [c1]⟩] at hg
          have f3 := @alast_at ⟨fr, dst, seq, rs, true, false⟩ true l 0 hrs h3 hl
          rw [eE] at f3
          simp only [eP] at f3
          cases hf : lasE ⟨fr, dst, seq, rs, true, false⟩ l with
          | error k =>
            rw [hf] at f3 hg
            dsimp only at f3 hg
            subst hg
            generalize l.map rowS = L at *
            have hc := Nat.zero_add 0
            repeat' (first | simp only [hc, AS, NX, NP, NW, SX, gloWordsN, words_tail, f1, f2, f3, l1, n3, i0, c1', ZZ, simprocAttr, ↓reduceIte] | ((first | apply Za | apply Zb | apply Zc | apply Zd | apply Ze | apply Zf | apply Zg | apply Zh) <;> intro hc) | refine Zi ?_ | refine Zj ?_)
            all_goals exact retD_panT rfl rfl (Nat.le_of_ble_eq_true rfl) rfl rfl (by decide) rfl
          | ok p =>
            rw [hf] at f3 hg
            dsimp only at f3 hg
            rw [eE] at f3
            rw [hpQ, if_neg (fun h => hr0 h.1), eE] at hg
            subst hg
            generalize l.map rowS = L at *
            have hc := Nat.zero_add 0
            repeat' (first | simp only [hc, AS, NX, NP, NW, SX, gloWordsN, words_tail, f1, f2, f3, l1, n3, i0, c1', ZZ, simprocAttr, ↓reduceIte] | ((first | apply Za | apply Zb | apply Zc | apply Zd | apply Ze | apply Zf | apply Zg | apply Zh) <;> intro hc) | refine Zi ?_ | refine Zj ?_)
            all_goals first | exact retD_ret rfl rfl rfl | exact retD_retT rfl rfl rfl (by decide) rfl
        have c1' : (a == [101, 110, 100]) = false := by simp [c1]
        rw [if_neg (fun h => c1 (Option.some.inj h.2)), if_neg (by omega)] at hg
        subst hg
        generalize l.map rowS = L at *
        have hc := Nat.zero_add 0
        repeat' (first | simp only [hc, AS, NX, NP, NW, SX, gloWordsN, words_tail, f1, f2, l1, n3, n4, i0, c1', ZZ, simprocAttr, ↓reduceIte] | ((first | apply Za | apply Zb | apply Zc | apply Zd | apply Ze | apply Zf | apply Zg | apply Zh) <;> intro hc) | refine Zi ?_ | refine Zj ?_)
        all_goals first | exact retD_ret rfl rfl rfl | exact retD_retT rfl rfl rfl (by decide) rfl
      have n3 : ((l.length : Int) = 3) = False := eq_false (by omega)
      rw [if_neg (fun h => h3 h.1)] at hg
      by_cases h4 : l.length = 4
      · have n4 : ((l.length : Int) = 4) = True := eq_true (by omega)
        obtain ⟨a, ha⟩ : ∃ a, l[0]? = some a := ⟨l[0], List.getElem?_eq_getElem (by omega)⟩
        have i0 := rowS1 ha
        have hhd : l.headD [] = a := by
          cases l with
          | nil => cases ha
          | cons y r => simpa using ha
        rw [hhd] at hg
        have f4 := @shas_at true (wordsL.drop 1) a (by decide)
        by_cases c2 : 0 ≤ idxS (wordsL.drop 1) a
        · rw [decide_eq_true c2] at f4
          rw [if_pos ⟨h4, c2⟩] at hg
          have f3 := @arec_at ⟨fr, dst, seq, rs, true, false⟩ true l 0 hrs h4 hl
          rw [eE] at f3
          simp only [eP] at f3
          cases hf : recE rs l with
          | error k =>
            rw [hf] at f3 hg
            dsimp only at f3 hg
            subst hg
            generalize l.map rowS = L at *
            have hc := Nat.zero_add 0
            repeat' (first | simp only [hc, AS, NX, NP, NW, SX, gloWordsN, words_tail, f1, f2, f3, l1, n3, n4, i0, f4, ZZ, simprocAttr, ↓reduceIte] | ((first | apply Za | apply Zb | apply Zc | apply Zd | apply Ze | apply Zf | apply Zg | apply Zh) <;> intro hc) | refine Zi ?_ | refine Zj ?_)
            all_goals exact retD_panT rfl rfl (Nat.le_of_ble_eq_true rfl) rfl rfl (by decide) rfl
          | ok r =>
            rw [hf] at f3 hg
            dsimp only at f3 hg
            have eN : ∀ r, hpB ⟨fr, dst, seq, rs ++ [r], true, false⟩ (eB 0) = [.box zF, .box [.d (.str fr), .d (.str dst), .d (.int .i64 seq), .own 4 (rs.map Rec.row ++ [r.row]), .d (.bool true), .d (.bool false)], .box [.top], .box [.top, .top, .top, .top, .top], .tok (rs.length + 1) 5 none, .box [.d (.int .i64 0)]] := fun r => by
              simp [hpB, Rdr.cells]
            rw [hpN, if_neg hr0] at f3
            dsimp only at f3
            rw [eN] at f3
            rw [hpQ, if_neg (fun h => hr0 h.1), hpR, if_neg (by simp)] at hg
            rw [eN] at hg
            subst hg
            generalize l.map rowS = L at *
            have hc := Nat.zero_add 0
            repeat' (first | simp only [hc, AS, NX, NP, NW, SX, gloWordsN, words_tail, f1, f2, f3, l1, n3, n4, i0, f4, ZZ, simprocAttr, ↓reduceIte] | ((first | apply Za | apply Zb | apply Zc | apply Zd | apply Ze | apply Zf | apply Zg | apply Zh) <;> intro hc) | refine Zi ?_ | refine Zj ?_)
            all_goals first | exact retD_ret rfl rfl rfl | exact retD_retT rfl rfl rfl (by decide) rfl
        rw [decide_eq_false c2] at f4
        rw [if_neg (fun h => c2 h.2)] at hg
        subst hg
        generalize l.map rowS = L at *
        have hc := Nat.zero_add 0
        repeat' (first | simp only [hc, AS, NX, NP, NW, SX, gloWordsN, words_tail, f1, f2, l1, n3, n4, i0, f4, ZZ, simprocAttr, ↓reduceIte] | ((first | apply Za | apply Zb | apply Zc | apply Zd | apply Ze | apply Zf | apply Zg | apply Zh) <;> intro hc) | refine Zi ?_ | refine Zj ?_)
        all_goals first | exact retD_ret rfl rfl rfl | exact retD_retT rfl rfl rfl (by decide) rfl
      have n4 : ((l.length : Int) = 4) = False := eq_false (by omega)
      rw [if_neg (fun h => h4 h.1)] at hg
      subst hg
      generalize l.map rowS = L at *
      have hc := Nat.zero_add 0
      repeat' (first | simp only [hc, AS, NX, NP, NW, SX, gloWordsN, words_tail, f1, f2, l1, n3, n4, ZZ, simprocAttr, ↓reduceIte] | ((first | apply Za | apply Zb | apply Zc | apply Zd | apply Ze | apply Zf | apply Zg | apply Zh) <;> intro hc) | refine Zi ?_ | refine Zj ?_)
      all_goals first | exact retD_ret rfl rfl rfl | exact retD_retT rfl rfl rfl (by decide) rfl
  cases hg
end
end Go.Ab
