/-
  Texts of the layer and of the laws, put together: AbTF13, AbH21, AbTF14, AbTF15.
-/
import Derived.Test.YtbcklcmhmbfgnaaGreatDoorAbF43
import Derived.Test.YtbcklcmhmbfgnaaGreatDoorAbF14
import Derived.Scope
set_option linter.unusedSimpArgs false
set_option linter.unusedVariables false
set_option maxRecDepth 100000
namespace Go.Ab
open Go.RowKit Go.Proofs
noncomputable section
open Classical
set_option maxHeartbeats 4000000 in
theorem xrecv_ok : PureC Tryz.prog Gt 43 xrecv_m := by
  refine pure_of_awpS (X := ctxN Tryz.prog Gt [(17, acheck_m)] [(18, xpartner_k)] [] none) Tryz.func43 rfl rfl (by kernel_rfl) (by kernel_rfl) (kok_n (AllOk.cons acheck_ok AllOk.nil) (AllK.cons xpartner_kok AllK.nil) AllN.nil) ?_
  intro args r h0
  obtain ⟨⟨p, f⟩, rfl, h⟩ := mE_inv h0
  refine ⟨Nat.le_of_ble_eq_true rfl, ?_⟩
  split at h
  · rename_i hok
    obtain ⟨⟨hp, _, _, b1, b2⟩, hf⟩ := hok
    dsimp only at hp b1 b2 hf h
    simp only [Option.some.injEq] at h
    have f1 := acheck_at hf
    have f3 := fun (h : Hp) (hh : LowH h) => xpartner_at hh hp
    have ho := hp.theirs
    have hl := hf.1
    have hS : recvF p f = if checkF f ≠ 0 then (p, checkF f) else if f.fr ≠ p.name then (p, 30) else if p.inn < f.seq then (p, 31) else if f.seq ≠ p.inn then (p, 0)
      else if 1024 < p.theirs.length + f.recs.length then (p, 3) else ({ p with inn := p.inn + 1, theirs := p.theirs ++ f.recs }, 0) := rfl
    clear hp hf
    generalize checkF f = C at *
    generalize recvF p f = R at *
    obtain ⟨p1, p2, p3, p4, p5, p6⟩ := p
    obtain ⟨g1, g2, g3, g4, g5⟩ := f
    dsimp only at f1 f3 hS ho hl b1 b2
    simp only [pr, prow, ptC, ptH, Fil.row, List.map_cons, List.map_nil] at f1 f3
    by_cases hC : C = 0
    · subst hC
      rw [if_neg (by simp)] at hS
      have l5 := @lenRc p6
      have l6 := @lenRc g5
      have w1 := wI (n := (p6.length : Int) + g5.length) (by omega) (by omega)
      have w2 := wI (n := p3 + 1) (by omega) (by omega)
      by_cases c1 : g1 = p1
      · subst c1
        rw [if_neg (by simp)] at hS
        by_cases c2 : p3 < g3
        · have c2' : (g3 > p3) = True := eq_true c2
          rw [if_pos c2] at hS
          subst hS
          have hc := Nat.zero_add 0
          repeat' (first | simp only [hc, AS, Tryz.f43, encRv, pr, prow, Fil.row, NX, NPV, NW, SX, f1, c2', ZZ, simprocAttr, ↓reduceIte] | ((first | apply Za | apply Zb | apply Zc | apply Zd | apply Ze | apply Zf | apply Zg | apply Zh) <;> intro hc) | refine Zi ?_ | refine Zj ?_)
          rw [← h]
          rfl
        have c2' : (g3 > p3) = False := eq_false c2
        rw [if_neg c2] at hS
        by_cases c3 : g3 = p3
        · subst c3
          rw [if_neg (by simp)] at hS
          by_cases c4 : 1024 < p6.length + g5.length
          · have c4' : ((p6.length : Int) + g5.length > 1024) = True := eq_true (by omega)
            rw [if_pos c4] at hS
            subst hS
            have hc := Nat.zero_add 0
            repeat' (first | simp only [hc, AS, Tryz.f43, encRv, pr, prow, Fil.row, NX, NPV, NW, SX, f1, c2', l5, l6, w1, c4', ZZ, simprocAttr, ↓reduceIte] | ((first | apply Za | apply Zb | apply Zc | apply Zd | apply Ze | apply Zf | apply Zg | apply Zh) <;> intro hc) | refine Zi ?_ | refine Zj ?_)
            rw [← h]
            rfl
          have c4' : ((p6.length : Int) + g5.length > 1024) = False := eq_false (by omega)
          rw [if_neg c4] at hS
          subst hS
          have f4 := f3 [.box [.d (.str g1), .d (.int .i64 p2), .d (.int .i64 g3), .d (.sl false (p4.map Fil.row)), .d (.sl false (p5.map Rec.row)), .d (.sl false (p6.map Rec.row))], .box [.d (.str g1), .d (.str g2), .d (.int .i64 g3), .d (.sl g4 (g5.map Rec.row))], .box [.d (.str []), .d (.int .i64 0), .d (.int .i64 0), .d (.sl true []), .d (.sl true []), .d (.sl true [])]] (by simp [LowH, Ob.low, C1.low])
          simp only [List.length_cons, List.length_nil, Nat.zero_add, Nat.reduceAdd, List.cons_append, List.nil_append] at f4
          have ap2 : ∀ g : Hp, apTok g 5 5 48 (p6.map Rec.row) (g5.map Rec.row) (some (.tok p6.length 5 none)) = some (.v (.c (.own 5 ((p6 ++ g5).map Rec.row))), g.set 5 (.tok (p6.length + g5.length) 5 none)) := fun g => by
            rw [apTok_ok (eq_true (by simp)) (eq_true allLen_rc) (eq_true (by simp; omega)) (eq_true (by simp; omega)), List.map_append, List.length_map, List.length_map]
          generalize hO : (p6 ++ g5).map Rec.row = O at *
          have hc := Nat.zero_add 0
          repeat' (first | simp only [hc, AS, Tryz.f43, encRv, pr, prow, Fil.row, NX, NPV, NW, SX, f1, f4, c2', l5, l6, w1, w2, c4', ap2, ZZ, simprocAttr, ↓reduceIte] | ((first | apply Za | apply Zb | apply Zc | apply Zd | apply Ze | apply Zf | apply Zg | apply Zh) <;> intro hc) | refine Zi ?_ | refine Zj ?_)
          rw [← h]
          simp only [pr, prow, hO]
        have c3' : (g3 == p3) = false := by simpa using c3
        rw [if_pos c3] at hS
        subst hS
        have hc := Nat.zero_add 0
        repeat' (first | simp only [hc, AS, Tryz.f43, encRv, pr, prow, Fil.row, NX, NPV, NW, SX, f1, c2', c3', ZZ, simprocAttr, ↓reduceIte] | ((first | apply Za | apply Zb | apply Zc | apply Zd | apply Ze | apply Zf | apply Zg | apply Zh) <;> intro hc) | refine Zi ?_ | refine Zj ?_)
        rw [← h]
        rfl
      have c1' : (g1 == p1) = false := by simpa using c1
      rw [if_pos c1] at hS
      subst hS
      have hc := Nat.zero_add 0
      repeat' (first | simp only [hc, AS, Tryz.f43, encRv, pr, prow, Fil.row, NX, NPV, NW, SX, f1, c1', ZZ, simprocAttr, ↓reduceIte] | ((first | apply Za | apply Zb | apply Zc | apply Zd | apply Ze | apply Zf | apply Zg | apply Zh) <;> intro hc) | refine Zi ?_ | refine Zj ?_)
      rw [← h]
      rfl
    have hC' := eq_false hC
    rw [if_pos hC] at hS
    subst hS
    have hc := Nat.zero_add 0
    repeat' (first | simp only [hc, AS, Tryz.f43, encRv, pr, prow, Fil.row, NX, NPV, NW, SX, f1, hC', ZZ, simprocAttr, ↓reduceIte] | ((first | apply Za | apply Zb | apply Zc | apply Zd | apply Ze | apply Zf | apply Zg | apply Zh) <;> intro hc) | refine Zi ?_ | refine Zj ?_)
    rw [← h]
    rfl
  cases h
theorem xrecv_at {p : Ptn} {f : Fil} (h : PtB p) (hf : f.Ok) : xrecv_m [.agg (pr p), .agg f.row] = some [.agg (pr (recvF p f).1), .i (recvF p f).2] := by
  have := mE_eq encRv_inj (g := fun a => if PtB a.1 ∧ a.2.Ok then some [DV.agg (pr (recvF a.1 a.2).1), .i (recvF a.1 a.2).2] else none) (a := (p, f))
  exact this.trans (if_pos ⟨h, hf⟩)
end
end Go.Ab
namespace Go.Ab
open Go.RowKit
theorem awpS_sim_scope {X : Ctx} {A : Actn} (hK : KOk X) (hm : X.P.follows .mixedOrders = true) {m l : Nat} {x z : Code} {s : S} {Q : Ex → S → Prop} {a : Act} {E : Env} (hok : okCode X m (.seq x z) = true) (h : awpS X (.seq x z) s Q) (hn : Now X A E s a) (hs : a.tmps.size = m) :
    (Code.seq x (.scope (.seq (.label l) z))).wp X.P (Post A s.h.length m E s.h Q) a E.w := by
  simp only [okCode, Bool.and_eq_true] at hok
  refine wp_seq (wp_mono (awpS_sim hK hm x s _ a E hok.1 h hn hs) fun e a1 w1 ⟨ex, s1, E1, ev, hrel, hsz, he, hq⟩ => ?_)
  by_cases hex : ex = .normal
  · subst hex
    have := exrel_normal he
    subst this
    obtain ⟨s2, hw2, hq⟩ := hq
    obtain ⟨E2, ev2, hrel2⟩ := hw2 A E1 a1 w1 ev.len hrel
    have hw := hrel2.world
    subst hw
    have ev12 := ev.trans ev2 (Nat.le_refl _)
    refine wp_scope_straight (wp_seq (wp_label ?_))
    refine wp_mono (awpS_sim hK hm z s2 Q a1 E2 hok.2 hq ⟨hn.G, hrel2⟩ hsz) fun e a2 w2 ⟨ex, s3, E3, ev3, hrel3, hsz3, he3, hq3⟩ => ?_
    have hp : Post A s.h.length m E s.h Q e a2 w2 := ⟨ex, s3, E3, ev12.trans ev3 ev12.len, hrel3, hsz3, he3, hq3⟩
    cases e with
    | goto l => cases ex <;> exact he3.elim
    | _ => exact hp
  have hne : e ≠ .normal := fun h => hex (exrel_normal' (h ▸ he))
  rw [then_ne hne]
  exact ⟨ex, s1, E1, ev, hrel, hsz, he, by cases ex <;> first | exact absurd rfl hex | exact hq⟩
theorem pure_of_scope {X : Ctx} {f : FuncId} {fn : Func} {x z : Code} {l : Nat} {m : List PA → Option (List PA)} (hf : X.P.funcs[f]? = some fn) (hb : fn.body = some (.seq x (.scope (.seq (.label l) z)))) (hname : (fn.name == "runtime.NumGoroutine") = false)
    (hok : okCode X fn.ntmps (.seq x z) = true) (hmix : X.P.follows .mixedOrders = true) (hK : KOk X)
    (hbody : ∀ args r, m args = some r → args.length ≤ fn.ntmps ∧ awpS X (.seq x z) ⟨argSlots 0 args, []⟩ (RetsU X fn.results.toList r)) : PureC X.P X.G f m := by
  have hne : ¬ fn.name = "runtime.NumGoroutine" := by simpa using hname
  refine ⟨fun vs w => by simp [callFunc, hf, hne, hb], fun w F vs args r hlt hG hvs hrel hm => ?_⟩
  obtain ⟨hal, ha⟩ := hbody args r hm
  let A : Actn := ⟨w, F, X.G, []⟩
  let E : Env := ⟨fun _ => none, F, w⟩
  let a : Act := { tmps := vs ++ Array.replicate (fn.ntmps - vs.size) undef, defers := [] }
  have hE : EnvOk A E [] := ⟨Below.refl _ _, hlt, fun b o _ h => h, fun b o h => h, fun i j b hi => by simp at hi, fun i b hi => by simp at hi, fun i o ho => by simp at ho, hG.1, hG.2, fun _ => Nat.le_refl _⟩
  have hr : Rel A E ⟨argSlots 0 args, []⟩ a w := by
    refine ⟨hE, rfl, rfl, fun t => ?_⟩
    show (look (argSlots 0 args) t).rel E [] _
    rw [look_args, if_pos (Nat.zero_le _), Nat.sub_zero]
    cases hx : args[t]? with
    | none => trivial
    | some x =>
      have htl := lt_of_get hx
      have hv := hrel t x hx
      have : a.tmps.getD t undef = vs.getD t undef := by
        simp only [a, Array.getD_eq_getD_getElem?]
        rw [Array.getElem?_append_left (by omega)]
      rw [this]
      exact DV.rel_av (E := E) hv
  have hsz : a.tmps.size = fn.ntmps := by simp [a]; omega
  refine calls_of_wp hf hb (wp_mono (awpS_sim_scope hK hmix (s := ⟨argSlots 0 args, []⟩) hok ha ⟨rfl, hr⟩ hsz) fun e a' w' ⟨ex, s', E', ev, hrel', _, he, hq⟩ => ?_)
  have hw := hrel'.world
  subst hw
  have fin0 : ∀ (E' : Env) (s' : S), Rel A E' s' a' E'.w → resAll X s' fn.results.toList = some r → a'.defers = [] ∧ ∃ v, (results fn a'.tmps).run X.P E'.w = .ok v E'.w ∧ ∃ u, Ending.returned v = .returned u ∧ RRel E'.w (newF w F E'.w) u r ∧ Below w.heap.size w E'.w ∧ (X.G.dr = true → w.drawn ≤ E'.w.drawn) := by
    intro E' s' hrel' hres
    obtain ⟨vs', hv, hl, hx⟩ := results_run hrel' _ _ hres
    have hold : ∀ b o, E'.F b o → newF w F E'.w b o := fun b o hfr => by
      by_cases hbw : b < w.heap.size
      · exact .inl (hrel'.env.old b o hbw hfr)
      exact .inr ⟨by omega, hrel'.env.lt b o hfr⟩
    have hx' : ∀ (j : Nat) (x : PA), r[j]? = some x → ∃ u, vs'[j]? = some u ∧ x.rel E'.w (newF w F E'.w) u := fun j x hj => by
      obtain ⟨u, hu, hru⟩ := hx j x hj
      refine ⟨u, hu, ?_⟩
      cases x with
      | c d => exact Rd.mono hru hold (fun _ _ _ => rfl)
      | agg xs =>
        obtain ⟨us, rfl, h1, h2⟩ := hru
        exact ⟨us, rfl, h1, fun j x hj => let ⟨y, hy, hry⟩ := h2 j x hj; ⟨y, hy, hry.mono hold (fun _ _ _ => rfl)⟩⟩
    have hrun : (results fn a'.tmps).run X.P E'.w = .ok (match vs' with | [v] => v | l => .tuple l.toArray) E'.w := by
      have hm' : (fn.results.mapM (resSem a'.tmps)).run X.P E'.w = .ok vs'.toArray E'.w := by
        rw [Array.mapM_eq_mapM_toList]
        simp only [Sem.run_map, hv, Result.andThen_ok]
      rw [results_eq]
      simp only [Sem.run_bind, hm', Result.andThen_ok]
      cases vs' with
      | nil => simp
      | cons v l =>
        cases l with
        | nil => simp
        | cons v2 l => simp
    refine ⟨hrel'.defers, _, hrun, _, rfl, ?_, hrel'.env.below, hrel'.env.drw⟩
    unfold RRel
    split
    · obtain ⟨u, hu, hru⟩ := hx' 0 _ rfl
      cases vs' with
      | nil => cases hu
      | cons v l =>
        have : l = [] := List.eq_nil_of_length_eq_zero (by simpa using hl)
        subst this
        cases hu
        exact hru
    rename_i hne
    refine ⟨vs', ?_, hl, hx'⟩
    cases vs' with
    | nil => rfl
    | cons v l =>
      cases l with
      | nil =>
        cases r with
        | nil => simp at hl
        | cons x r =>
          have : r = [] := List.eq_nil_of_length_eq_zero (by simpa using hl.symm)
          subst this
          exact absurd rfl (hne x)
      | cons v2 l => rfl
  have fin : (∃ s2, Wk 0 s' s2 ∧ resAll X s2 fn.results.toList = some r) → a'.defers = [] ∧ ∃ v, (results fn a'.tmps).run X.P E'.w = .ok v E'.w ∧ ∃ u, Ending.returned v = .returned u ∧ RRel E'.w (newF w F E'.w) u r ∧ Below w.heap.size w E'.w ∧ (X.G.dr = true → w.drawn ≤ E'.w.drawn) := by
    rintro ⟨s2, hwk, hres⟩
    obtain ⟨E2, ev2, hrel2⟩ := hwk _ E' a' E'.w (Nat.zero_le _) hrel'
    have hw2 := hrel2.world
    have := fin0 E2 s2 (by rw [hw2]; exact hrel2) hres
    rw [hw2] at this
    exact this
  cases ex <;> simp only [RetsU] at hq
  · have := exrel_normal he
    subst this
    exact fin hq
  cases e <;> first | exact he.elim | exact fin hq
end Go.Ab
namespace Go.Ab
open Go.RowKit Go.Proofs
theorem deli_step {p : Ptn} {fs : List Fil} {lost : List Bool} {i : Nat} (h : i < fs.length) : deliF p (fs.drop i) (lost.drop i) = if lost[i]? = some true then deliF p (fs.drop (i + 1)) (lost.drop (i + 1)) else if (recvF p fs[i]).2 = 0 then deliF (recvF p fs[i]).1 (fs.drop (i + 1)) (lost.drop (i + 1)) else if (recvF p fs[i]).2 = 31 then deliF p (fs.drop (i + 1)) (lost.drop (i + 1)) else (p, (recvF p fs[i]).2) := by
  rw [List.drop_eq_getElem_cons h, deliF, List.head?_drop, List.tail_drop]
structure DvA where
  p : Ptn
  f : Bool
  fs : List Fil
  g : Bool
  lost : List Bool
def encDv (a : DvA) : List PA := [.agg (pr a.p), .c (.sl a.f (a.fs.map Fil.row)), .c (.sl a.g (a.lost.map rowBo))]
theorem encDv_inj (a b : DvA) (h : encDv a = encDv b) : a = b := by
  obtain ⟨a1, a2, a3, a4, a5⟩ := a
  obtain ⟨b1, b2, b3, b4, b5⟩ := b
  simp only [encDv, List.cons.injEq, DV.agg.injEq, DV.c.injEq, D.sl.injEq, and_true] at h
  rw [pr_inj h.1, h.2.1.1, mapFl_inj.1 h.2.1.2, h.2.2.1, mapBo_inj.1 h.2.2.2]
structure DvOk (a : DvA) : Prop where
  p : PtB a.p
  inn : a.p.inn + a.fs.length ≤ 1000000
  fs : a.fs.length ≤ 100000
  ok : ∀ f ∈ a.fs, f.Ok
  lost : a.lost.length ≤ 1000000
theorem PtB.recv {p : Ptn} {f : Fil} (h : PtB p) (hi : p.inn + 1 ≤ 1000000) : PtB (recvF p f).1 ∧ (recvF p f).1.inn ≤ p.inn + 1 := by
  obtain ⟨⟨h1, h2, h3, h4⟩, b1, b2, b3, b4⟩ := h
  unfold recvF
  split
  · exact ⟨⟨⟨h1, h2, h3, h4⟩, b1, b2, b3, b4⟩, by dsimp only; omega⟩
  split
  · exact ⟨⟨⟨h1, h2, h3, h4⟩, b1, b2, b3, b4⟩, by dsimp only; omega⟩
  split
  · exact ⟨⟨⟨h1, h2, h3, h4⟩, b1, b2, b3, b4⟩, by dsimp only; omega⟩
  split
  · exact ⟨⟨⟨h1, h2, h3, h4⟩, b1, b2, b3, b4⟩, by dsimp only; omega⟩
  split
  · exact ⟨⟨⟨h1, h2, h3, h4⟩, b1, b2, b3, b4⟩, by dsimp only; omega⟩
  rename_i hl
  exact ⟨⟨⟨h1, h2, h3, by dsimp only; rw [List.length_append]; omega⟩, b1, b2, by dsimp only; omega, by dsimp only; omega⟩, by dsimp only; omega⟩
theorem lenBo {l : List Bool} : ((l.map rowBo).length : Int) = l.length := by simp
theorem bo_at {l : List Bool} {i : Nat} (h : i < l.length) : (l.map rowBo)[i]? = some [.bool l[i]] := by simp [h, rowBo]
noncomputable section
open Classical
def xdeliver_m : List PA → Option (List PA) := mE encDv fun a => if DvOk a then some [.agg (pr (deliF a.p a.fs a.lost).1), .i (deliF a.p a.fs a.lost).2] else none
set_option maxHeartbeats 4000000 in
theorem xdeliver_ok : PureC Tryz.prog Gt 21 xdeliver_m := by
  refine pure_of_scope (X := ctxN Tryz.prog Gt [(43, xrecv_m)] [] [] none) Tryz.func21 rfl rfl (by kernel_rfl) (by kernel_rfl) (kok_n (AllOk.cons xrecv_ok AllOk.nil) AllK.nil AllN.nil) ?_
  intro args r h0
  obtain ⟨⟨p, f, fs, g, lost⟩, rfl, h⟩ := mE_inv h0
  refine ⟨Nat.le_of_ble_eq_true rfl, ?_⟩
  split at h
  · rename_i hok
    obtain ⟨hp, hin, hfl, hfo, hlo⟩ := hok
    dsimp only at hp hin hfl hfo hlo h
    simp only [Option.some.injEq] at h
    have l1 := @lenFl fs
    have l2 := @lenBo lost
    have hR : deliF p fs lost = deliF p (fs.drop 0) (lost.drop 0) := by rw [List.drop_zero, List.drop_zero]
    generalize deliF p fs lost = R at *
    have hc := Nat.zero_add 0
    repeat' (first | simp only [hc, AS, Tryz.f21, encDv, pr, prow, List.map_cons, List.map_nil, NX, NPV, SX, l1, ZZ, simprocAttr, ↓reduceIte] | ((first | apply Za | apply Zb | apply Zc | apply Zd | apply Ze | apply Zf | apply Zg | apply Zh) <;> intro hc) | refine Zi ?_ | refine Zj ?_)
    refine awpS_loop (σ := Nat × Ptn) (fun s => s.1 ≤ fs.length ∧ PtB s.2 ∧ s.2.inn + (fs.length - s.1 : Nat) ≤ 1000000 ∧ R = deliF s.2 (fs.drop s.1) (lost.drop s.1))
      (fun s => ⟨[(14, AV.i s.1), (13, AV.i fs.length), (12, AV.d (.sl f (fs.map Fil.row))), (2, AV.d (.sl g (lost.map rowBo))), (3, .v (.c (.ptr 0 0))), (6, .v (.c (.ptr 1 0)))], [.box ((pr s.2).map .d), .box [.d (.str []), .d (.int .i64 0), .d (.int .i64 0), .d (.sl true []), .d (.sl true []), .d (.sl true [])]]⟩)
      (fun s => fs.length - s.1) (0, p) (Wk.sub' (by simp [subT, look]) rfl) ⟨Nat.zero_le _, hp, by dsimp only; omega, hR⟩ ?_
    rintro ⟨i, q⟩ ⟨hi, hq, hqi, hRi⟩
    dsimp only at hi hq hqi hRi
    by_cases hil : i < fs.length
    · have c1 : ((i : Int) < (fs.length : Int)) = True := eq_true (by omega)
      have e1 := fl_at hil
      have w1 := wI (n := (i : Int) + 1) (by omega) (by omega)
      rw [deli_step hil] at hRi
      have f1 := xrecv_at hq (hfo _ (List.getElem_mem hil))
      obtain ⟨hq2, hqi2⟩ := hq.recv (f := fs[i]) (by omega)
      generalize recvF q fs[i] = W at *
      obtain ⟨W1, W2⟩ := W
      dsimp only at f1 hRi hq2 hqi2
      generalize fs[i] = x at *
      obtain ⟨x1, x2, x3, x4, x5⟩ := x
      dsimp only at e1
      obtain ⟨q1, q2, q3, q4, q5, q6⟩ := q
      obtain ⟨v1, v2, v3, v4, v5, v6⟩ := W1
      dsimp only at hqi hqi2
      simp only [pr, prow, Fil.row] at f1
      by_cases hb : i < lost.length
      · have c2 : ((i : Int) < (lost.length : Int)) = True := eq_true (by omega)
        have eb := bo_at hb
        rw [List.getElem?_eq_getElem hb] at hRi
        cases hv : lost[i]
        · rw [hv] at eb hRi
          rw [if_neg (by simp)] at hRi
          by_cases h0 : W2 = 0
          · subst h0
            rw [if_pos rfl] at hRi
            have hc := Nat.zero_add 0
            repeat' (first | simp only [hc, AS, pr, prow, List.map_cons, List.map_nil, NX, NPV, SX, l1, l2, e1, eb, c1, c2, nn, w1, f1, ZZ, simprocAttr, ↓reduceIte] | ((first | apply Za | apply Zb | apply Zc | apply Zd | apply Ze | apply Zf | apply Zg | apply Zh) <;> intro hc) | refine Zi ?_ | refine Zj ?_)
            exact lp_next (i + 1, ⟨v1, v2, v3, v4, v5, v6⟩) (Wk.cutk (k := 2) (by simp) (by simp) rfl (by simp [subT, look]) (by simp [AV.low, V.low, C1.low]) (by simp [Ob.low, C1.low])) ⟨by simp only []; omega, hq2, by simp only []; omega, hRi⟩ (by simp only []; omega)
          have h0' : (W2 = 0) = False := eq_false h0
          rw [if_neg h0] at hRi
          by_cases h1 : W2 = 31
          · subst h1
            rw [if_pos rfl] at hRi
            have hc := Nat.zero_add 0
            repeat' (first | simp only [hc, AS, pr, prow, List.map_cons, List.map_nil, NX, NPV, SX, l1, l2, e1, eb, c1, c2, nn, w1, f1, ZZ, simprocAttr, ↓reduceIte] | ((first | apply Za | apply Zb | apply Zc | apply Zd | apply Ze | apply Zf | apply Zg | apply Zh) <;> intro hc) | refine Zi ?_ | refine Zj ?_)
            exact lp_next (i + 1, ⟨q1, q2, q3, q4, q5, q6⟩) (Wk.cutk (k := 2) (by simp) (by simp) rfl (by simp [subT, look]) (by simp [AV.low, V.low, C1.low]) (by simp [Ob.low, C1.low])) ⟨by simp only []; omega, hq, by simp only []; omega, hRi⟩ (by simp only []; omega)
          have h1' : (W2 = 31) = False := eq_false h1
          rw [if_neg h1] at hRi
          subst hRi
          have hc := Nat.zero_add 0
          repeat' (first | simp only [hc, AS, pr, prow, List.map_cons, List.map_nil, NX, NPV, SX, l1, l2, e1, eb, c1, c2, nn, w1, f1, h0', h1', ZZ, simprocAttr, ↓reduceIte] | ((first | apply Za | apply Zb | apply Zc | apply Zd | apply Ze | apply Zf | apply Zg | apply Zh) <;> intro hc) | refine Zi ?_ | refine Zj ?_)
          exact ⟨_, Wk.refl, by
            rw [← h]
            rfl⟩
        rw [hv] at eb hRi
        rw [if_pos rfl] at hRi
        have hc := Nat.zero_add 0
        repeat' (first | simp only [hc, AS, pr, prow, List.map_cons, List.map_nil, NX, NPV, SX, l1, l2, e1, eb, c1, c2, nn, w1, ZZ, simprocAttr, ↓reduceIte] | ((first | apply Za | apply Zb | apply Zc | apply Zd | apply Ze | apply Zf | apply Zg | apply Zh) <;> intro hc) | refine Zi ?_ | refine Zj ?_)
        exact lp_next (i + 1, ⟨q1, q2, q3, q4, q5, q6⟩) (Wk.cutk (k := 2) (by simp) (by simp) rfl (by simp [subT, look]) (by simp [AV.low, V.low, C1.low]) (by simp [Ob.low, C1.low])) ⟨by simp only []; omega, hq, by simp only []; omega, hRi⟩ (by simp only []; omega)
      have c2 : ((i : Int) < (lost.length : Int)) = False := eq_false (by omega)
      rw [List.getElem?_eq_none (by omega), if_neg (by simp)] at hRi
      by_cases h0 : W2 = 0
      · subst h0
        rw [if_pos rfl] at hRi
        have hc := Nat.zero_add 0
        repeat' (first | simp only [hc, AS, pr, prow, List.map_cons, List.map_nil, NX, NPV, SX, l1, l2, e1, c1, c2, nn, w1, f1, ZZ, simprocAttr, ↓reduceIte] | ((first | apply Za | apply Zb | apply Zc | apply Zd | apply Ze | apply Zf | apply Zg | apply Zh) <;> intro hc) | refine Zi ?_ | refine Zj ?_)
        exact lp_next (i + 1, ⟨v1, v2, v3, v4, v5, v6⟩) (Wk.cutk (k := 2) (by simp) (by simp) rfl (by simp [subT, look]) (by simp [AV.low, V.low, C1.low]) (by simp [Ob.low, C1.low])) ⟨by simp only []; omega, hq2, by simp only []; omega, hRi⟩ (by simp only []; omega)
      have h0' : (W2 = 0) = False := eq_false h0
      rw [if_neg h0] at hRi
      by_cases h1 : W2 = 31
      · subst h1
        rw [if_pos rfl] at hRi
        have hc := Nat.zero_add 0
        repeat' (first | simp only [hc, AS, pr, prow, List.map_cons, List.map_nil, NX, NPV, SX, l1, l2, e1, c1, c2, nn, w1, f1, ZZ, simprocAttr, ↓reduceIte] | ((first | apply Za | apply Zb | apply Zc | apply Zd | apply Ze | apply Zf | apply Zg | apply Zh) <;> intro hc) | refine Zi ?_ | refine Zj ?_)
        exact lp_next (i + 1, ⟨q1, q2, q3, q4, q5, q6⟩) (Wk.cutk (k := 2) (by simp) (by simp) rfl (by simp [subT, look]) (by simp [AV.low, V.low, C1.low]) (by simp [Ob.low, C1.low])) ⟨by simp only []; omega, hq, by simp only []; omega, hRi⟩ (by simp only []; omega)
      have h1' : (W2 = 31) = False := eq_false h1
      rw [if_neg h1] at hRi
      subst hRi
      have hc := Nat.zero_add 0
      repeat' (first | simp only [hc, AS, pr, prow, List.map_cons, List.map_nil, NX, NPV, SX, l1, l2, e1, c1, c2, nn, w1, f1, h0', h1', ZZ, simprocAttr, ↓reduceIte] | ((first | apply Za | apply Zb | apply Zc | apply Zd | apply Ze | apply Zf | apply Zg | apply Zh) <;> intro hc) | refine Zi ?_ | refine Zj ?_)
      exact ⟨_, Wk.refl, by
        rw [← h]
        rfl⟩
    have c1 : ((i : Int) < (fs.length : Int)) = False := eq_false (by omega)
    rw [List.drop_eq_nil_of_le (by omega), deliF] at hRi
    subst hRi
    obtain ⟨q1, q2, q3, q4, q5, q6⟩ := q
    have hc := Nat.zero_add 0
    repeat' (first | simp only [hc, AS, pr, prow, List.map_cons, List.map_nil, NX, NPV, SX, c1, ZZ, simprocAttr, ↓reduceIte] | ((first | apply Za | apply Zb | apply Zc | apply Zd | apply Ze | apply Zf | apply Zg | apply Zh) <;> intro hc) | refine Zi ?_ | refine Zj ?_)
    exact ⟨_, Wk.refl, by
      rw [← h]
      rfl⟩
  cases h
theorem xdeliver_at {a : DvA} (h : DvOk a) : xdeliver_m [.agg (pr a.p), .c (.sl a.f (a.fs.map Fil.row)), .c (.sl a.g (a.lost.map rowBo))] = some [.agg (pr (deliF a.p a.fs a.lost).1), .i (deliF a.p a.fs a.lost).2] := by
  have := mE_eq encDv_inj (g := fun a => if DvOk a then some [DV.agg (pr (deliF a.p a.fs a.lost).1), .i (deliF a.p a.fs a.lost).2] else none) (a := a)
  exact this.trans (if_pos h)
end
end Go.Ab
namespace Go.Ab
open Go.RowKit Go.Proofs
def enc2P (q : Ptn × Ptn) : List PA := [.agg (pr q.1), .agg (pr q.2)]
theorem enc2P_inj (a b : Ptn × Ptn) (h : enc2P a = enc2P b) : a = b := by
  obtain ⟨a1, a2⟩ := a
  obtain ⟨b1, b2⟩ := b
  simp only [enc2P, List.cons.injEq, DV.agg.injEq, and_true] at h
  rw [pr_inj h.1, pr_inj h.2]
structure RnA where
  a : Ptn
  b : Ptn
  g : Bool
  lost : List Bool
def encRn (a : RnA) : List PA := [.agg (pr a.a), .agg (pr a.b), .c (.sl a.g (a.lost.map rowBo))]
theorem encRn_inj (a b : RnA) (h : encRn a = encRn b) : a = b := by
  obtain ⟨a1, a2, a3, a4⟩ := a
  obtain ⟨b1, b2, b3, b4⟩ := b
  simp only [encRn, List.cons.injEq, DV.agg.injEq, DV.c.injEq, D.sl.injEq, and_true] at h
  rw [pr_inj h.1, pr_inj h.2.1, h.2.2.1, mapBo_inj.1 h.2.2.2]
structure RnOk (q : RnA) : Prop where
  a : PtB q.a
  b : PtB q.b
  fa : ∀ f ∈ q.a.wait, Fil.Ok f
  fb : ∀ f ∈ q.b.wait, Fil.Ok f
  ia : q.a.inn + q.b.wait.length ≤ 1000000
  ib : q.b.inn + q.a.wait.length ≤ 1000000
  lost : q.lost.length ≤ 1000000
  ok : (roundF q.a q.b q.lost).2.2 = 0
theorem recv_wait {p : Ptn} {f : Fil} : (recvF p f).1.wait = p.wait := by
  unfold recvF
  repeat' split
  all_goals rfl
theorem deli_ok : ∀ {fs : List Fil} {p : Ptn} {lost : List Bool}, PtB p → p.inn + fs.length ≤ 1000000 → PtB (deliF p fs lost).1 ∧ (deliF p fs lost).1.inn ≤ p.inn + fs.length ∧ (deliF p fs lost).1.wait = p.wait
  | [], p, lost, h, hi => by
    unfold deliF
    exact ⟨h, by simp, rfl⟩
  | f :: fs, p, lost, h, hi => by
    rw [List.length_cons] at hi
    unfold deliF
    split
    · obtain ⟨a, b, c⟩ := deli_ok (fs := fs) (lost := lost.tail) h (by omega)
      exact ⟨a, by rw [List.length_cons]; omega, c⟩
    split
    · obtain ⟨h2, i2⟩ := h.recv (f := f) (by omega)
      obtain ⟨a, b, c⟩ := deli_ok (fs := fs) (lost := lost.tail) h2 (by omega)
      exact ⟨a, by rw [List.length_cons]; omega, c.trans recv_wait⟩
    split
    · obtain ⟨a, b, c⟩ := deli_ok (fs := fs) (lost := lost.tail) h (by omega)
      exact ⟨a, by rw [List.length_cons]; omega, c⟩
    exact ⟨h, by dsimp only; rw [List.length_cons]; omega, rfl⟩
noncomputable section
open Classical
def xackn_m : List PA → Option (List PA) := mE enc2P fun q => if PtOk q.1 ∧ PtB q.2 then some [.agg (pr (acknF q.1 q.2))] else none
def xround_m : List PA → Option (List PA) := mE encRn fun a => if RnOk a then some [.agg (pr (roundF a.a a.b a.lost).1), .agg (pr (roundF a.a a.b a.lost).2.1), .i (roundF a.a a.b a.lost).2.2] else none
theorem xackn_ok : PureC Tryz.prog Gt 22 xackn_m := by
  refine pure_of_awpS (X := ctxN Tryz.prog Gt [(44, xack_m)] [] [] none) Tryz.func22 rfl rfl (by kernel_rfl) (by kernel_rfl) (kok_n (AllOk.cons xack_ok AllOk.nil) AllK.nil AllN.nil) ?_
  intro args r h0
  obtain ⟨⟨p, o⟩, rfl, h⟩ := mE_inv h0
  refine ⟨Nat.le_of_ble_eq_true rfl, ?_⟩
  split at h
  · rename_i hok
    obtain ⟨hp, ho⟩ := hok
    dsimp only at hp ho h
    simp only [Option.some.injEq] at h
    have f1 := xack_at (s := o.inn - 1) hp
    have w1 := wI (n := o.inn - 1) (by have := ho.2.2.2.1; omega) (by have := ho.2.2.2.2; omega)
    have hA : acknF p o = if (ackF p (o.inn - 1)).2 = 0 then (ackF p (o.inn - 1)).1 else p := rfl
    rw [hA] at h
    clear hA hp ho
    generalize ackF p (o.inn - 1) = R at *
    obtain ⟨R1, R2⟩ := R
    obtain ⟨p1, p2, p3, p4, p5, p6⟩ := p
    obtain ⟨o1, o2, o3, o4, o5, o6⟩ := o
    obtain ⟨r1, r2, r3, r4, r5, r6⟩ := R1
    dsimp only at f1 h w1
    simp only [pr, prow] at f1
    by_cases c : R2 = 0
    · subst c
      rw [if_pos rfl] at h
      have hc := Nat.zero_add 0
      repeat' (first | simp only [hc, AS, Tryz.f22, enc2P, pr, prow, NX, NPV, SX, w1, f1, ZZ, simprocAttr, ↓reduceIte] | ((first | apply Za | apply Zb | apply Zc | apply Zd | apply Ze | apply Zf | apply Zg | apply Zh) <;> intro hc) | refine Zi ?_ | refine Zj ?_)
      rw [← h]
      rfl
    have c' := eq_false c
    rw [if_neg c] at h
    have hc := Nat.zero_add 0
    repeat' (first | simp only [hc, AS, Tryz.f22, enc2P, pr, prow, NX, NPV, SX, w1, f1, c', ZZ, simprocAttr, ↓reduceIte] | ((first | apply Za | apply Zb | apply Zc | apply Zd | apply Ze | apply Zf | apply Zg | apply Zh) <;> intro hc) | refine Zi ?_ | refine Zj ?_)
    rw [← h]
    rfl
  cases h
theorem xackn_at {p o : Ptn} (h : PtOk p) (ho : PtB o) : xackn_m [.agg (pr p), .agg (pr o)] = some [.agg (pr (acknF p o))] := by
  have := mE_eq enc2P_inj (g := fun q => if PtOk q.1 ∧ PtB q.2 then some [DV.agg (pr (acknF q.1 q.2))] else none) (a := (p, o))
  exact this.trans (if_pos ⟨h, ho⟩)
set_option maxHeartbeats 4000000 in
theorem xround_ok : PureC Tryz.prog Gt 8 xround_m := by
  refine pure_of_awpS (X := ctxN Tryz.prog Gt [(20, xresend_m), (21, xdeliver_m), (22, xackn_m)] [] [] none (uL []) (uL [4, 7])) Tryz.func8 rfl rfl (by kernel_rfl) (by kernel_rfl) (kok_n (AllOk.cons xresend_ok (AllOk.cons xdeliver_ok (AllOk.cons xackn_ok AllOk.nil))) AllK.nil AllN.nil) ?_
  intro args r h0
  obtain ⟨⟨a, b, g, lost⟩, rfl, h⟩ := mE_inv h0
  refine ⟨Nat.le_of_ble_eq_true rfl, ?_⟩
  split at h
  · rename_i hok
    obtain ⟨ha, hb, hfa, hfb, hia, hib, hl, hE⟩ := hok
    dsimp only at ha hb hfa hfb hia hib hl hE h
    simp only [Option.some.injEq] at h
    have f1 := xresend_at (w := false) (o := false) (t := false) ha.1.fl
    have f2 := xresend_at (w := false) (o := false) (t := false) hb.1.fl
    rw [ha.1.nf] at f1
    rw [hb.1.nf] at f2
    have d1 := xdeliver_at (a := ⟨b, false, a.wait, g, lost⟩) ⟨hb, hib, ha.1.wait, hfa, hl⟩
    have d2 := fun (k : Nat) => xdeliver_at (a := ⟨a, false, b.wait, g, lost.drop k⟩) ⟨ha, hia, hb.1.wait, hfb, by dsimp only; rw [List.length_drop]; omega⟩
    dsimp only at d1 d2
    obtain ⟨hy, _, wy⟩ := deli_ok (lost := lost) hb hib
    have hx := fun (k : Nat) => deli_ok (lost := lost.drop k) ha hia
    have hR : roundF a b lost = if (deliF b a.wait lost).2 ≠ 0 then (a, b, (deliF b a.wait lost).2)
      else if (deliF a b.wait (lost.drop (min lost.length a.wait.length))).2 ≠ 0 then (a, b, (deliF a b.wait (lost.drop (min lost.length a.wait.length))).2)
      else (acknF (deliF a b.wait (lost.drop (min lost.length a.wait.length))).1 (deliF b a.wait lost).1, acknF (deliF b a.wait lost).1 (deliF a b.wait (lost.drop (min lost.length a.wait.length))).1, 0) := rfl
    have hx := (hx (min lost.length a.wait.length)).1
    have d2 := d2 (min lost.length a.wait.length)
    have k1 := xackn_at hx.1 hy
    have k2 := xackn_at hy.1 hx
    have l1 := @lenFl a.wait
    have l2 := @lenBo lost
    have hmin : (if (a.wait.length : Int) < (lost.length : Int) then (a.wait.length : Int) else (lost.length : Int)) = ((min lost.length a.wait.length : Nat) : Int) := by split <;> omega
    have hsl : ∀ ful, slX ful 1 (lost.map rowBo) ((min lost.length a.wait.length : Nat) : Int) (lost.length : Int) = some (.sl ful ((lost.drop (min lost.length a.wait.length)).map rowBo)) := fun ful => by
      rw [slX_ok (eq_true (fun r hr => by obtain ⟨x, _, rfl⟩ := List.mem_map.1 hr; rfl)) (eq_true (by omega)) (eq_true (by omega)) (eq_true (by simp))]
      simp only [Int.toNat_natCast, ← List.map_drop, Option.some.injEq, D.sl.injEq, true_and]
      exact List.take_of_length_le (by simp)
    generalize min lost.length a.wait.length = K at *
    generalize lost.drop K = L at *
    generalize deliF a b.wait L = X at *
    generalize deliF b a.wait lost = Y at *
    obtain ⟨X1, X2⟩ := X
    obtain ⟨Y1, Y2⟩ := Y
    dsimp only at d1 d2 k1 k2 hR
    generalize acknF X1 Y1 = U at *
    generalize acknF Y1 X1 = V at *
    generalize roundF a b lost = R at *
    clear hx hy ha hb hfa hfb wy
    obtain ⟨a1, a2, a3, a4, a5, a6⟩ := a
    obtain ⟨b1, b2, b3, b4, b5, b6⟩ := b
    obtain ⟨x1, x2, x3, x4, x5, x6⟩ := X1
    obtain ⟨y1, y2, y3, y4, y5, y6⟩ := Y1
    simp only [pr, prow] at f1 f2 d1 d2 k1 k2
    by_cases c1 : Y2 = 0
    · subst c1
      rw [if_neg (by simp)] at hR
      by_cases c2 : X2 = 0
      · subst c2
        rw [if_neg (by simp)] at hR
        subst hR
        have hc := Nat.zero_add 0
        repeat' (first | simp only [hc, AS, Tryz.f8, encRn, pr, prow, NX, NPV, SX, f1, f2, d1, d2, k1, k2, l1, l2, hmin, sla_eq, slT_sl, slZ_some, hsl, Bool.and_true, ZZ, simprocAttr, ↓reduceIte] | ((first | apply Za | apply Zb | apply Zc | apply Zd | apply Ze | apply Zf | apply Zg | apply Zh) <;> intro hc) | refine Zi ?_ | refine Zj ?_)
        rw [← h]
        rfl
      rw [if_pos c2] at hR
      subst hR
      exact absurd hE c2
    rw [if_pos c1] at hR
    subst hR
    exact absurd hE c1
  cases h
theorem xround_at {a b : Ptn} {g : Bool} {lost : List Bool} (h : RnOk ⟨a, b, g, lost⟩) : xround_m [.agg (pr a), .agg (pr b), .c (.sl g (lost.map rowBo))] = some [.agg (pr (roundF a b lost).1), .agg (pr (roundF a b lost).2.1), .i (roundF a b lost).2.2] := by
  have := mE_eq encRn_inj (g := fun a => if RnOk a then some [DV.agg (pr (roundF a.a a.b a.lost).1), .agg (pr (roundF a.a a.b a.lost).2.1), .i (roundF a.a a.b a.lost).2.2] else none) (a := ⟨a, b, g, lost⟩)
  exact this.trans (if_pos h)
end
end Go.Ab
