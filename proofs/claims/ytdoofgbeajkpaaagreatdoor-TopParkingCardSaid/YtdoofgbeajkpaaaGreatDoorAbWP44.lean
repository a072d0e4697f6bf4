/-
  Texts of the layer and of the laws, put together: AbJ30, AbJ31, AbJ32, AbJ33.
-/
import Derived.Test.YtdoofgbeajkpaaaGreatDoorAbWP43
import Derived.Test.YtdoofgbeajkpaaaGreatDoorAbWP22
import Derived.Test.YtdoofgbeajkpaaaGreatDoorAbWP38
import Derived.Test.YtdoofgbeajkpaaaGreatDoorAbWP32
import Derived.Test.YtdoofgbeajkpaaaGreatDoorAbWP10
set_option linter.unusedSimpArgs false
set_option linter.unusedVariables false
set_option maxRecDepth 100000
set_option linter.defProp false
namespace Go.Ab
open Go.RowKit Go.Proofs
structure GS where
  ee : MapA
  ce : Nat
  eo : MapA
  co : Nat
  ws : List Int
abbrev zp (z p : List UInt8) : DV := .agg [.str z, .str p]
abbrev iK (n : Nat) : DV := .c (.int .i64 n)
def stepG (l : List Par) (i : Nat) (g : GS) : GS := match l[i]? with
  | none => g
  | some e => if isT e.time = false then { g with ws := g.ws.set i 2 } else match opnN l e.zone e.plate i with
    | none => if e.kind = 5 then { g with eo := (putM (delM g.eo (zp e.zone e.plate)) g.co (zp e.zone e.plate) (iK i)).1, co := (putM (delM g.eo (zp e.zone e.plate)) g.co (zp e.zone e.plate) (iK i)).2 }
        else { g with eo := delM g.eo (zp e.zone e.plate), ws := g.ws.set i 10 }
    | some j => if e.kind = 5 then { g with eo := (putM (delM g.eo (zp e.zone e.plate)) g.co (zp e.zone e.plate) (iK i)).1, co := (putM (delM g.eo (zp e.zone e.plate)) g.co (zp e.zone e.plate) (iK i)).2, ws := g.ws.set j 11 }
        else if timN l j < e.time then { g with eo := delM g.eo (zp e.zone e.plate), ee := (putM g.ee g.ce (iK j) (iK i)).1, ce := (putM g.ee g.ce (iK j) (iK i)).2 }
        else { g with eo := delM g.eo (zp e.zone e.plate), ws := (g.ws.set j 2).set i 2 }
abbrev kO : KTy := .agg [.s, .s]
abbrev kE : KTy := .int .i64
structure GI (l : List Par) (k : Nat) (g : GS) : Prop where
  mo : MW kO g.eo g.co
  me : MW kE g.ee g.ce
  op : ∀ z p, getM g.eo (zp z p) = (opnN l z p k).map iK
  ex : ∀ i : Nat, getM g.ee (iK i) = (extN l i k).map iK
  ws : g.ws = (List.range l.length).map fun i => whyN l i k
theorem key_zp {z p : List UInt8} : isKeyA kO (zp z p) = true := rfl
theorem key_iK {n : Nat} : isKeyA kE (iK n) = true := rfl
theorem iK_inj {m n : Nat} : iK m = iK n ↔ m = n := ⟨fun h => by cases h; rfl, fun h => by rw [h]⟩
theorem zp_inj {a b c d : List UInt8} : zp a b = zp c d ↔ a = c ∧ b = d := ⟨fun h => by cases h; exact ⟨rfl, rfl⟩, fun ⟨h1, h2⟩ => by rw [h1, h2]⟩
theorem map_range_set {n i : Nat} {f : Nat → Int} {v : Int} (hi : i < n) : ((List.range n).map f).set i v = (List.range n).map fun j => if j = i then v else f j := by
  refine List.ext_getElem (by simp) fun j h1 h2 => ?_
  rw [List.getElem_set]
  simp only [List.getElem_map, List.getElem_range]
  by_cases hij : i = j
  · rw [if_pos hij, if_pos hij.symm]
  rw [if_neg hij, if_neg (Ne.symm hij)]
theorem GI.zero (l : List Par) : GI l 0 ⟨[], 0, [], 0, List.replicate l.length 0⟩ :=
  ⟨MW.nil, MW.nil, fun _ _ => rfl, fun _ => rfl, by
    refine List.ext_getElem (by simp) fun j h1 h2 => ?_
    simp [whyN]⟩
theorem GI.step {l : List Par} {k : Nat} {g : GS} (h : GI l k g) (hk : k < l.length) : GI l (k + 1) (stepG l k g) := by
  obtain ⟨mo, me, op, ex, ws⟩ := h
  have hw : ∀ i, whyN l i (k + 1) = _ := fun i => why_step (i := i) hk
  have he : ∀ i, extN l i (k + 1) = _ := fun i => ext_step (i := i) hk
  have ho : ∀ z p, opnN l z p (k + 1) = if isT l[k].time = true ∧ l[k].zone = z ∧ l[k].plate = p then (if l[k].kind = 5 then some k else none) else opnN l z p k := fun z p => by
    rw [opnN, List.getElem?_eq_getElem hk]
  unfold stepG
  rw [List.getElem?_eq_getElem hk]
  dsimp only
  have hjk : ∀ j, opnN l l[k].zone l[k].plate k = some j → j < l.length ∧ j < k := fun j hj => by
    obtain ⟨h1, h2, _⟩ := opn_some (by omega) hj
    exact ⟨h1, h2⟩
  generalize l[k] = e at *
  by_cases ht : isT e.time = false
  · have ht' : ¬ isT e.time = true := by rw [ht]; decide
    rw [if_pos ht]
    refine ⟨mo, me, fun z p => ?_, fun i => ?_, ?_⟩
    · rw [ho, if_neg fun h => ht' h.1]
      exact op z p
    · rw [he, if_neg fun h => ht' h.1]
      exact ex i
    dsimp only
    rw [ws, map_range_set hk]
    congr 1
    funext i
    rw [hw, if_pos ht]
  have ht' : isT e.time = true := by simpa using ht
  rw [if_neg ht]
  have mo1 := mo.del (k := zp e.zone e.plate)
  have go1 : ∀ z p, getM (delM g.eo (zp e.zone e.plate)) (zp z p) = if e.zone = z ∧ e.plate = p then none else getM g.eo (zp z p) := fun z p => by
    rw [get_del mo key_zp key_zp]
    by_cases hq : e.zone = z ∧ e.plate = p
    · rw [if_pos (zp_inj.2 hq), if_pos hq]
    rw [if_neg (fun h => hq (zp_inj.1 h)), if_neg hq]
  have mo2 := mo1.put (v := iK k) (key_zp (z := e.zone) (p := e.plate))
  have go2 : ∀ z p, getM (putM (delM g.eo (zp e.zone e.plate)) g.co (zp e.zone e.plate) (iK k)).1 (zp z p) = if e.zone = z ∧ e.plate = p then some (iK k) else getM g.eo (zp z p) := fun z p => by
    rw [get_put mo1 key_zp key_zp, go1]
    by_cases hq : e.zone = z ∧ e.plate = p
    · rw [if_pos (zp_inj.2 hq), if_pos hq]
    rw [if_neg (fun h => hq (zp_inj.1 h)), if_neg hq, if_neg hq]
  -- what is open behind it
  have o5 : e.kind = 5 → ∀ z p, (if e.zone = z ∧ e.plate = p then some (iK k) else getM g.eo (zp z p)) = (opnN l z p (k + 1)).map iK := fun h5 z p => by
    rw [ho]
    by_cases hq : e.zone = z ∧ e.plate = p
    · rw [if_pos hq, if_pos ⟨ht', hq⟩, if_pos h5]
      rfl
    rw [if_neg hq, if_neg fun h => hq h.2]
    exact op z p
  have o6 : ¬ e.kind = 5 → ∀ z p, (if e.zone = z ∧ e.plate = p then none else getM g.eo (zp z p)) = (opnN l z p (k + 1)).map iK := fun h5 z p => by
    rw [ho]
    by_cases hq : e.zone = z ∧ e.plate = p
    · rw [if_pos hq, if_pos ⟨ht', hq⟩, if_neg h5]
      rfl
    rw [if_neg hq, if_neg fun h => hq h.2]
    exact op z p
  cases hO : opnN l e.zone e.plate k with
  | none =>
    dsimp only
    by_cases h5 : e.kind = 5
    · rw [if_pos h5]
      refine ⟨mo2, me, fun z p => (go2 z p).trans (o5 h5 z p), fun i => ?_, ?_⟩
      · rw [he, if_neg fun h => h.2.1 h5]
        exact ex i
      dsimp only
      rw [ws]
      congr 1
      funext i
      rw [hw, if_neg ht, hO]
      dsimp only
      rw [if_pos h5]
    · rw [if_neg h5]
      refine ⟨mo1, me, fun z p => (go1 z p).trans (o6 h5 z p), fun i => ?_, ?_⟩
      · rw [he, hO, if_neg fun h => by cases h.2.2.1]
        exact ex i
      · dsimp only
        rw [ws, map_range_set hk]
        congr 1
        funext i
        rw [hw, if_neg ht, hO]
        dsimp only
        rw [if_neg h5]
  | some j =>
    obtain ⟨hjl, hjk'⟩ := hjk j hO
    dsimp only
    by_cases h5 : e.kind = 5
    · rw [if_pos h5]
      refine ⟨mo2, me, fun z p => (go2 z p).trans (o5 h5 z p), fun i => ?_, ?_⟩
      · rw [he, if_neg fun h => h.2.1 h5]
        exact ex i
      dsimp only
      rw [ws, map_range_set hjl]
      congr 1
      funext i
      rw [hw, if_neg ht, hO]
      dsimp only
      rw [if_pos h5]
    rw [if_neg h5]
    by_cases hlt : timN l j < e.time
    · rw [if_pos hlt]
      refine ⟨mo1, me.put key_iK, fun z p => (go1 z p).trans (o6 h5 z p), fun i => ?_, ?_⟩
      · dsimp only
        rw [get_put me key_iK key_iK, he, hO]
        by_cases hij : j = i
        · subst hij
          rw [if_pos rfl, if_pos ⟨ht', h5, rfl, hlt⟩]
          rfl
        rw [if_neg (fun h => hij (iK_inj.1 h)), if_neg fun h => hij (Option.some.inj h.2.2.1)]
        exact ex i
      dsimp only
      rw [ws]
      congr 1
      funext i
      rw [hw, if_neg ht, hO]
      dsimp only
      rw [if_neg h5, if_pos hlt]
    rw [if_neg hlt]
    refine ⟨mo1, me, fun z p => (go1 z p).trans (o6 h5 z p), fun i => ?_, ?_⟩
    · rw [he, hO, if_neg fun h => ?_]
      · exact ex i
      have : j = i := Option.some.inj h.2.2.1
      subst this
      exact hlt h.2.2.2
    dsimp only
    rw [ws, map_range_set hjl, map_range_set hk]
    congr 1
    funext i
    rw [hw, if_neg ht, hO]
    dsimp only
    rw [if_neg h5, if_neg hlt]
def runG (l : List Par) : Nat → GS
  | 0 => ⟨[], 0, [], 0, List.replicate l.length 0⟩
  | k + 1 => stepG l k (runG l k)
theorem runG_ok (l : List Par) : ∀ {k : Nat}, k ≤ l.length → GI l k (runG l k)
  | 0, _ => GI.zero l
  | k + 1, h => (runG_ok l (by omega)).step h
end Go.Ab
namespace Go.Ab
open Go.RowKit Go.Proofs
section
variable {X : Ctx} {h : Hp}
def dlM (ty : Option (KTy × TypeId)) (h : Hp) (id : Nat) (o : Option Ob) (k : Option DV) : Option Hp :=
  ty.bind fun ty => match o with
    | some (.map es clock) => k.bind fun k => if keysOk ty.1 k es then some (h.set id (.map (delM es k) clock)) else none
    | _ => none
theorem dl_mp {t : TypeId} {id : Nat} {i : AV} : X.deleteA h t (.v (.c (.mp id))) i = dlM (X.mapTy t) h id h[id]? i.dv := by
  unfold Ctx.deleteA dlM
  cases X.mapTy t with
  | none => rfl
  | some ty =>
    simp only [Option.bind_some]
    generalize h[id]? = q
    cases q with
    | none => rfl
    | some o => cases o <;> rfl
theorem dlM_ok {ty : KTy × TypeId} {id clock : Nat} {es : MapA} {k : DV} (hk : keysOk ty.1 k es = true) : dlM (some ty) h id (some (.map es clock)) (some k) = some (h.set id (.map (delM es k) clock)) := by
  simp only [dlM, Option.bind_some, hk, if_true]
end
def DL := Zk @dl_mp @dlM_ok
def icell (n : Int) : List C1 := [.d (.int .i64 n)]
def wc (ws : List Int) : List C1 := ws.flatMap icell
theorem icell_len (n : Int) : (icell n).length = 1 := rfl
theorem wc_low {ws : List Int} {n : Nat} : ((wc ws).all (C1.low n)) = true := by
  rw [List.all_eq_true]
  intro c hc
  obtain ⟨d, _, hd⟩ := List.mem_flatMap.1 hc
  rw [List.mem_singleton.1 hd]
  rfl
theorem wc_inj : ∀ {a b : List Int}, wc a = wc b → a = b
  | [], [], _ => rfl
  | [], y :: b, h => by simp [wc, icell] at h
  | x :: a, [], h => by simp [wc, icell] at h
  | x :: a, y :: b, h => by
    have h : C1.d (.int .i64 x) :: wc a = C1.d (.int .i64 y) :: wc b := h
    simp only [List.cons.injEq, C1.d.injEq, D.int.injEq, true_and] at h
    rw [h.1, wc_inj h.2]
theorem stP_wc {h : Hp} {id k n : Nat} {ws : List Int} (hk : k < ws.length) (v : Int) : stP h id (k * 1) n 1 (wc ws) (some [.d (.int .i64 v)]) (some 1) = some (h.set id (.tok n 1 (some (wc (ws.set k v))))) := by
  have := stP_fm (row := icell) icell_len (h := h) (id := id) (n := n) (x' := v) (List.getElem?_eq_getElem hk) (j := 0) (by decide) (v := .d (.int .i64 v)) rfl
  exact this
theorem wc_cell {k : Nat} {ws : List Int} (hk : k < ws.length) : (wc ws)[k]? = some (.d (.int .i64 ws[k])) := by
  have := fm_cell (row := icell) icell_len (List.getElem?_eq_getElem hk) (j := 0) (by decide)
  rw [show k * 1 + 0 = k by omega] at this
  exact this
def hpG (f : Bool) (l : List Par) (g : GS) : Hp := [.map g.ee g.ce, .map g.eo g.co, .box [.d (.sl f (l.map Par.row)), .msl 3 l.length, .mp 0, .mp 1], .tok l.length 1 (some (wc g.ws))]
def stR (p : ((Bool × List Par) × Nat) × GS) (args : List AV) (h : Hp) : Prop := args = [.v (.c (.ptr 2 0)), AV.i p.1.2] ∧ h = hpG p.1.1.1 p.1.1.2 p.2
theorem stR_inj {a b : ((Bool × List Par) × Nat) × GS} {args : List AV} {h : Hp} (ha : stR a args h) (hb : stR b args h) : b = a := by
  obtain ⟨⟨⟨f, l⟩, i⟩, ⟨ee, ce, eo, co, ws⟩⟩ := a
  obtain ⟨⟨⟨f', l'⟩, i'⟩, ⟨ee', ce', eo', co', ws'⟩⟩ := b
  obtain ⟨h1, h2⟩ := ha
  obtain ⟨g1, g2⟩ := hb
  rw [h1] at g1
  rw [h2] at g2
  simp only [List.cons.injEq, AV.v.injEq, V.c.injEq, C1.d.injEq, D.int.injEq, and_true, true_and] at g1
  simp only [hpG, List.cons.injEq, Ob.map.injEq, Ob.box.injEq, Ob.tok.injEq, C1.d.injEq, D.sl.injEq, Option.some.injEq, and_true, true_and] at g2
  obtain ⟨⟨a1, a2⟩, ⟨a3, a4⟩, ⟨⟨a5, a6⟩, _⟩, _, a8⟩ := g2
  have := mapP_inj.1 a6
  have := wc_inj a8
  have := Int.ofNat.inj g1
  subst_vars
  rfl
noncomputable section
open Classical
def ststep_k : List AV → Hp → Option COut := kR stR fun p => if p.1.2 < p.1.1.2.length ∧ p.1.1.2.length ≤ 1000000 ∧ GI p.1.1.2 p.1.2 p.2 then some (.ret (.tup []) (hpG p.1.1.1 p.1.1.2 (stepG p.1.1.2 p.1.2 p.2))) else none
set_option maxHeartbeats 4000000 in
theorem ststep_kok : ImpC Tryz.prog Gt 48 ststep_k := by
  intro args h out h0
  refine fok_of_awpSW (X := ctxN Tryz.prog Gt [] [] [] none) Tryz.func48 rfl rfl (by kernel_rfl) (by kernel_rfl) (kok_n AllOk.nil AllK.nil AllN.nil) ?_ ?_
  · obtain ⟨a, ⟨rfl, _⟩, _⟩ := kR_inv h0
    exact Nat.le_of_ble_eq_true rfl
  obtain ⟨⟨⟨⟨f, l⟩, i⟩, g⟩, ⟨rfl, rfl⟩, hg⟩ := kR_inv h0
  dsimp only at hg
  split at hg
  · rename_i hok
    obtain ⟨hi, hl, hI⟩ := hok
    cases hg
    have hn : g.ws.length = l.length := by rw [hI.ws]; simp
    have e1 := pr_at hi
    have l1 := @lenP' l
    have c0 : ((i : Int) < (l.length : Int)) = True := eq_true (by omega)
    unfold stepG
    rw [List.getElem?_eq_getElem hi]
    dsimp only
    have hop := hI.op l[i].zone l[i].plate
    have hov := fun j (h : opnN l l[i].zone l[i].plate i = some j) => opn_some (by omega) h
    obtain ⟨ee, ce, eo, co, ws⟩ := g
    have mo := hI.mo
    have me := hI.me
    dsimp only at hn hop mo me
    clear hI
    generalize l[i] = e at *
    obtain ⟨ek, ez, ep, et, eu⟩ := e
    dsimp only at e1 hop hov ⊢
    have ko := keysOk_of (key_zp (z := ez) (p := ep)) mo.keys
    have st1 := fun (h : Hp) v => stP_wc (h := h) (id := 3) (n := l.length) (k := i) (ws := ws) (by omega) v
    by_cases ht : isT et = true
    · have ht0 := ht
      simp only [isT, Bool.and_eq_true, decide_eq_true_eq] at ht0
      have c1 : (et < 0) = False := eq_false (by omega)
      have c2 : (68719476736 ≤ et) = False := eq_false (by omega)
      rw [if_neg (by rw [ht]; decide)]
      cases hO : opnN l ez ep i with
      | none =>
        rw [hO] at hop
        have hop : getM eo (zp ez ep) = none := hop
        have hfs : (findA (zp ez ep) eo).isSome = false := by rw [find_some_get, hop]; rfl
        have hpv : ∀ z, pkV eo (zp ez ep) z = z := fun z => by rw [pkV_eq, hop]
        have ko1 := keysOk_of (key_zp (z := ez) (p := ep)) (mo.del (k := zp ez ep)).keys
        dsimp only
        unfold hpG
        by_cases h5 : ek = 5
        · subst h5
          rw [if_pos rfl]
          have hpu := @putA_eq (delM eo (zp ez ep)) co (zp ez ep) (iK i)
          have hc := Nat.zero_add 0
          repeat' (first | simp only [hc, AS, Tryz.f48, NX, NPV, SX, MP, DL, l1, c0, nn, e1, c1, c2, ko, ko1, hfs, hpv, hpu, ZZ, simprocAttr, ↓reduceIte] | ((first | apply Za | apply Zb | apply Zc | apply Zd | apply Ze | apply Zf | apply Zg | apply Zh) <;> intro hc) | refine Zi ?_ | refine Zj ?_)
          exact ⟨⟨[], _⟩, Wk.cutk (k := 4) (by decide) (by simp) rfl trivial rfl (by simp [Ob.low, C1.low, wc_low]), [], rfl, rfl⟩
        · have h5' := eq_false h5
          rw [if_neg h5]
          have st2 := fun h => st1 h 10
          have hc := Nat.zero_add 0
          repeat' (first | simp only [hc, AS, Tryz.f48, NX, NPV, SX, MP, DL, l1, c0, nn, e1, c1, c2, ko, ko1, hfs, hpv, h5', Int.toNat_natCast, st2, ZZ, simprocAttr, ↓reduceIte] | ((first | apply Za | apply Zb | apply Zc | apply Zd | apply Ze | apply Zf | apply Zg | apply Zh) <;> intro hc) | refine Zi ?_ | refine Zj ?_)
          exact ⟨⟨[], _⟩, Wk.cutk (k := 4) (by decide) (by simp) rfl trivial rfl (by simp [Ob.low, C1.low, wc_low]), [], rfl, rfl⟩
      | some j =>
        rw [hO] at hop
        have hop : getM eo (zp ez ep) = some (iK j) := hop
        obtain ⟨hj, hji, _⟩ := hov j hO
        have hfs : (findA (zp ez ep) eo).isSome = true := by rw [find_some_get, hop]; rfl
        have hpv : ∀ z, pkV eo (zp ez ep) z = .c (.d (.int .i64 j)) := fun z => by rw [pkV_eq, hop]; rfl
        have ko1 := keysOk_of (key_zp (z := ez) (p := ep)) (mo.del (k := zp ez ep)).keys
        have e2 := pr_at hj
        have cj : ((j : Int) < (l.length : Int)) = True := eq_true (by omega)
        have htm := timN_at hj
        dsimp only
        unfold hpG
        by_cases h5 : ek = 5
        · subst h5
          rw [if_pos rfl]
          have hpu := @putA_eq (delM eo (zp ez ep)) co (zp ez ep) (iK i)
          have st2 := fun h => stP_wc (h := h) (id := 3) (n := l.length) (k := j) (ws := ws) (by omega) 11
          have hc := Nat.zero_add 0
          repeat' (first | simp only [hc, AS, Tryz.f48, NX, NPV, SX, MP, DL, l1, c0, cj, nn, e1, c1, c2, ko, ko1, hfs, hpv, hpu, Int.toNat_natCast, st2, ZZ, simprocAttr, ↓reduceIte] | ((first | apply Za | apply Zb | apply Zc | apply Zd | apply Ze | apply Zf | apply Zg | apply Zh) <;> intro hc) | refine Zi ?_ | refine Zj ?_)
          exact ⟨⟨[], _⟩, Wk.cutk (k := 4) (by decide) (by simp) rfl trivial rfl (by simp [Ob.low, C1.low, wc_low]), [], rfl, rfl⟩
        have h5' := eq_false h5
        rw [if_neg h5]
        rw [htm]
        generalize l[j] = y at *
        obtain ⟨y1, y2, y3, y4, y5⟩ := y
        dsimp only at e2 ⊢
        by_cases hlt : y4 < et
        · rw [if_pos hlt]
          have hlt' := eq_true hlt
          have hpu := @putA_eq ee ce (iK j) (iK i)
          have ke := keysOk_of (key_iK (n := j)) me.keys
          have hc := Nat.zero_add 0
          repeat' (first | simp only [hc, AS, Tryz.f48, NX, NPV, SX, MP, DL, l1, c0, cj, nn, e1, e2, c1, c2, ko, ko1, hfs, hpv, hpu, h5', hlt', ke, Int.toNat_natCast, ZZ, simprocAttr, ↓reduceIte] | ((first | apply Za | apply Zb | apply Zc | apply Zd | apply Ze | apply Zf | apply Zg | apply Zh) <;> intro hc) | refine Zi ?_ | refine Zj ?_)
          exact ⟨⟨[], _⟩, Wk.cutk (k := 4) (by decide) (by simp) rfl trivial rfl (by simp [Ob.low, C1.low, wc_low]), [], rfl, rfl⟩
        rw [if_neg hlt]
        have hlt' := eq_false hlt
        have st2 := fun h => stP_wc (h := h) (id := 3) (n := l.length) (k := j) (ws := ws) (by omega) 2
        have st3 := fun h => stP_wc (h := h) (id := 3) (n := l.length) (k := i) (ws := ws.set j 2) (by simp; omega) 2
        have st4 := fun h => st1 h 2
        have st5 := fun h => stP_wc (h := h) (id := 3) (n := l.length) (k := j) (ws := ws.set i 2) (by simp; omega) 2
        have hc := Nat.zero_add 0
        repeat' (first | simp only [hc, AS, Tryz.f48, NX, NPV, SX, MP, DL, l1, c0, cj, nn, e1, e2, c1, c2, ko, ko1, hfs, hpv, h5', hlt', Int.toNat_natCast, st2, st3, ZZ, simprocAttr, ↓reduceIte] | ((first | apply Za | apply Zb | apply Zc | apply Zd | apply Ze | apply Zf | apply Zg | apply Zh) <;> intro hc) | refine Zi ?_ | refine Zj ?_)
        exact ⟨⟨[], _⟩, Wk.cutk (k := 4) (by decide) (by simp) rfl trivial rfl (by simp [Ob.low, C1.low, wc_low]), [], rfl, rfl⟩
    have ht : isT et = false := by simpa using ht
    rw [if_pos ht]
    have st2 := fun h => st1 h 2
    unfold hpG
    by_cases d1 : et < 0
    · have c1 := eq_true d1
      have hc := Nat.zero_add 0
      repeat' (first | simp only [hc, AS, Tryz.f48, NX, NPV, SX, MP, DL, l1, c0, nn, e1, c1, Int.toNat_natCast, st2, ZZ, simprocAttr, ↓reduceIte] | ((first | apply Za | apply Zb | apply Zc | apply Zd | apply Ze | apply Zf | apply Zg | apply Zh) <;> intro hc) | refine Zi ?_ | refine Zj ?_)
      exact ⟨⟨[], _⟩, Wk.cutk (k := 4) (by decide) (by simp) rfl trivial rfl (by simp [Ob.low, C1.low, wc_low]), [], rfl, rfl⟩
    have c1 := eq_false d1
    have c2 : (68719476736 ≤ et) = True := eq_true (by
      simp only [isT, Bool.and_eq_false_iff, decide_eq_false_iff_not] at ht
      omega)
    have hc := Nat.zero_add 0
    repeat' (first | simp only [hc, AS, Tryz.f48, NX, NPV, SX, MP, DL, l1, c0, nn, e1, c1, c2, Int.toNat_natCast, st2, ZZ, simprocAttr, ↓reduceIte] | ((first | apply Za | apply Zb | apply Zc | apply Zd | apply Ze | apply Zf | apply Zg | apply Zh) <;> intro hc) | refine Zi ?_ | refine Zj ?_)
    exact ⟨⟨[], _⟩, Wk.cutk (k := 4) (by decide) (by simp) rfl trivial rfl (by simp [Ob.low, C1.low, wc_low]), [], rfl, rfl⟩
  cases hg
end
end Go.Ab
namespace Go.Ab
open Go.RowKit Go.Proofs
theorem key_shape {k : DV} (h : isKeyA kO k = true) : ∃ z q, k = zp z q := by
  cases k with
  | c x => cases x <;> cases h
  | agg xs =>
    match xs, h with
    | [.str a, .str b], _ => exact ⟨a, b, rfl⟩
def valIs (v : DV) (i : Nat) : Bool := match v with
  | .c (.int _ z) => decide (z = (i : Int))
  | _ => false
theorem valIs_iK {j i : Nat} : valIs (iK j) i = decide (j = i) := by
  show decide ((j : Int) = (i : Int)) = _
  rw [Bool.eq_iff_iff, decide_eq_true_eq, decide_eq_true_eq]
  omega
def wsN (l : List Par) (eo : MapA) (S : Array Nat) (i : Nat) : Int := if (eo.any fun p => S.contains p.1 && valIs p.2.2 i) = true then 11 else whyN l i l.length
def wsS (l : List Par) (eo : MapA) (S : Array Nat) : List Int := (List.range l.length).map (wsN l eo S)
theorem wsS_len {l : List Par} {eo : MapA} {S : Array Nat} : (wsS l eo S).length = l.length := by simp [wsS]
theorem wsS_zero {l : List Par} {g : GS} (hI : GI l l.length g) : wsS l g.eo #[] = g.ws := by
  rw [hI.ws, wsS]
  congr 1
  funext i
  rw [wsN, if_neg]
  simp
theorem eo_val {l : List Par} {k : Nat} {g : GS} (hI : GI l k g) {p : Nat × DV × DV} (hp : p ∈ g.eo) : ∃ z q j, p.2.1 = zp z q ∧ opnN l z q k = some j ∧ p.2.2 = iK j := by
  obtain ⟨b, key, v⟩ := p
  obtain ⟨z, q, rfl⟩ := key_shape (hI.mo.keys _ hp)
  have hg := (getM_mem (v := v) (key_zp (z := z) (p := q)) hI.mo.keys hI.mo.ks).2 ⟨b, hp⟩
  rw [hI.op z q] at hg
  obtain ⟨j, hj, rfl⟩ := Option.map_eq_some_iff.1 hg
  exact ⟨z, q, j, rfl, hj, rfl⟩
theorem stamp_eq {d : KTy} {es : MapA} {c : Nat} (h : MW d es c) {p q : Nat × DV × DV} (hp : p ∈ es) (hq : q ∈ es) (e : p.1 = q.1) : p = q := by
  obtain ⟨i, hi⟩ := List.getElem?_of_mem hp
  obtain ⟨j, hj⟩ := List.getElem?_of_mem hq
  have hil := lt_of_get hi
  have hjl := lt_of_get hj
  have ei : es[i] = p := by rw [List.getElem?_eq_getElem hil] at hi; exact Option.some.inj hi
  have ej : es[j] = q := by rw [List.getElem?_eq_getElem hjl] at hj; exact Option.some.inj hj
  have hn := List.pairwise_iff_getElem.1 h.nd
  rcases Nat.lt_trichotomy i j with hlt | heq | hgt
  · have := hn i j hil hjl hlt
    rw [ei, ej] at this
    exact absurd e this
  · subst heq
    rw [← ei, ← ej]
  have := hn j i hjl hil hgt
  rw [ei, ej] at this
  exact absurd e.symm this
theorem wsS_push {l : List Par} {g : GS} (hI : GI l l.length g) {S : Array Nat} {p : Nat × DV × DV} (hp : p ∈ g.eo) {j : Nat} (hj : j < l.length) (hv : p.2.2 = iK j) : (wsS l g.eo S).set j 11 = wsS l g.eo (S.push p.1) := by
  rw [wsS, map_range_set hj, wsS]
  congr 1
  funext i
  unfold wsN
  have hpush : ∀ x : Nat × DV × DV, (S.push p.1).contains x.1 = (S.contains x.1 || x.1 == p.1) := fun x => contains_push S p.1 x.1
  by_cases hij : i = j
  · subst hij
    rw [if_pos rfl, if_pos]
    refine List.any_eq_true.2 ⟨p, hp, ?_⟩
    rw [hpush, hv, valIs_iK]
    simp
  rw [if_neg hij]
  have : (g.eo.any fun x => S.contains x.1 && valIs x.2.2 i) = (g.eo.any fun x => (S.push p.1).contains x.1 && valIs x.2.2 i) := by
    rw [Bool.eq_iff_iff, List.any_eq_true, List.any_eq_true]
    constructor
    · rintro ⟨x, hx, h⟩
      refine ⟨x, hx, ?_⟩
      rw [hpush]
      simp only [Bool.and_eq_true, Bool.or_eq_true] at h ⊢
      exact ⟨.inl h.1, h.2⟩
    rintro ⟨x, hx, h⟩
    rw [hpush] at h
    simp only [Bool.and_eq_true, Bool.or_eq_true] at h
    rcases h with ⟨h | h, h2⟩
    · exact ⟨x, hx, by simp only [Bool.and_eq_true]; exact ⟨h, h2⟩⟩
    have e := stamp_eq hI.mo hx hp (beq_iff_eq.1 h)
    subst e
    rw [hv, valIs_iK] at h2
    exact absurd (of_decide_eq_true h2).symm hij
  rw [this]
theorem wsS_all {l : List Par} {g : GS} (hI : GI l l.length g) {S : Array Nat} (h0 : leftN g.eo S = 0) : wsS l g.eo S = (List.range l.length).map (whyE l) := by
  have hall : ∀ p ∈ g.eo, S.contains p.1 = true := fun p hp => by
    have h1 := List.eq_nil_of_length_eq_zero h0
    rw [List.filter_eq_nil_iff] at h1
    have := h1 p.1 (List.mem_map.2 ⟨p, hp, rfl⟩)
    simpa using this
  refine List.map_congr_left fun i hi => ?_
  have hi := List.mem_range.1 hi
  rw [wsN, whyE, List.getElem?_eq_getElem hi]
  dsimp only
  have : (g.eo.any fun p => S.contains p.1 && valIs p.2.2 i) = true ↔ opnN l l[i].zone l[i].plate l.length = some i := by
    rw [List.any_eq_true]
    constructor
    · rintro ⟨p, hp, h⟩
      obtain ⟨z, q, j, e1, e2, e3⟩ := eo_val hI hp
      rw [e3, valIs_iK] at h
      simp only [Bool.and_eq_true, decide_eq_true_eq] at h
      obtain rfl := h.2
      obtain ⟨_, _, _, e4, e5, _⟩ := opn_some (Nat.le_refl _) e2
      rw [e4, e5]
      exact e2
    intro h
    have hg := hI.op l[i].zone l[i].plate
    rw [h] at hg
    obtain ⟨b, hb⟩ := (getM_mem key_zp hI.mo.keys hI.mo.ks).1 hg
    refine ⟨_, hb, ?_⟩
    rw [hall _ hb, Bool.true_and]
    show valIs (iK i) i = true
    rw [valIs_iK]
    simp
  by_cases h : opnN l l[i].zone l[i].plate l.length = some i
  · rw [if_pos (this.2 h), if_pos h]
  rw [if_neg (fun h2 => h (this.1 h2)), if_neg h]
end Go.Ab
namespace Go.Ab
open Go.RowKit Go.Proofs
theorem whyE_all (l : List Par) (hs : TimS l) (hg : ∀ x ∈ l, isGate x = true) : (List.range l.length).map (whyE l) = (List.range l.length).map (whyF l) :=
  List.map_congr_left fun i hi => (why_all hs hg (List.mem_range.1 hi)).1
theorem ex_look {l : List Par} (hs : TimS l) (hg : ∀ x ∈ l, isGate x = true) {i : Nat} (hi : i < l.length) (h : whyF l i = 0) : getM (runG l l.length).ee (iK i) = if l[i].kind = 5 then some (iK (aftF l i).toNat) else none := by
  obtain ⟨_, h1, h2⟩ := why_all hs hg hi
  rw [(runG_ok l (Nat.le_refl _)).ex i]
  by_cases h5 : l[i].kind = 5
  · obtain ⟨m, e1, e2⟩ := h1 h5 h
    rw [e2, if_pos h5, e1]
    rfl
  rw [h2 h5, if_neg h5]
  rfl
theorem rep_wc : ∀ n : Nat, (rep n [D.int .i64 0]).map C1.d = wc (List.replicate n 0)
  | 0 => rfl
  | n + 1 => by
    show C1.d (.int .i64 0) :: (rep n [D.int .i64 0]).map C1.d = _
    rw [rep_wc n]
    rfl
theorem cs_mp {k : Nat} : (AV.v (.c (.mp k))).cs = some [.mp k] := rfl
theorem cs_msl {k n : Nat} : (AV.v (.c (.msl k n))).cs = some [.msl k n] := rfl
def CSM := Zk @cs_mp @cs_msl
theorem hpG_len {f : Bool} {l : List Par} {g : GS} : (hpG f l g).length = 4 := rfl
noncomputable section
open Classical
def stpair_m : List PA → Option (List PA) := mE encPs fun p => if parsOk p.2 then some [.c (.sl false ((rstays (gatesF p.2)).map Sty.row)), .c (.sl false ((rexcl (gatesF p.2)).map Exc.row))] else none
theorem ststep_at {f : Bool} {l : List Par} {k : Nat} (hk : k < l.length) (hl : l.length ≤ 1000000) : ststep_k [.v (.c (.ptr 2 0)), AV.i k] (hpG f l (runG l k)) = some (.ret (.tup []) (hpG f l (runG l (k + 1)))) := by
  have := kR_eq (R := stR) (g := fun p : ((Bool × List Par) × Nat) × GS => if p.1.2 < p.1.1.2.length ∧ p.1.1.2.length ≤ 1000000 ∧ GI p.1.1.2 p.1.2 p.2 then some (.ret (.tup []) (hpG p.1.1.1 p.1.1.2 (stepG p.1.1.2 p.1.2 p.2))) else none) (a := (((f, l), k), runG l k))
    (args := [.v (.c (.ptr 2 0)), AV.i k]) (h := hpG f l (runG l k)) (fun b hb => by rw [stR_inj (a := (((f, l), k), runG l k)) ⟨rfl, rfl⟩ hb]) ⟨rfl, rfl⟩
  exact this.trans (if_pos ⟨hk, hl, runG_ok l (Nat.le_of_lt hk)⟩)
set_option maxHeartbeats 4000000 in
theorem stpair_ok : PureC Tryz.prog Gt 15 stpair_m := by
  have hK : KOk (ctxK Tryz.prog Gt [(44, ssort_m), (47, skey_m)] [(48, ststep_k)]) := kok_of (AllOk.cons ssort_ok (AllOk.cons skey_ok AllOk.nil)) (AllK.cons ststep_kok AllK.nil)
  have hm : (ctxK Tryz.prog Gt [(44, ssort_m), (47, skey_m)] [(48, ststep_k)]).P.follows .mixedOrders = true := by kernel_rfl
  refine pure_of_marks (X := ctxK Tryz.prog Gt [(44, ssort_m), (47, skey_m)] [(48, ststep_k)]) Tryz.func15 rfl (by kernel_rfl) ?_
  intro args r h0
  obtain ⟨⟨f, ps⟩, rfl, h⟩ := mE_inv h0
  split at h
  · rename_i hok
    dsimp only at hok h
    simp only [Option.some.injEq] at h
    refine ⟨Nat.le_of_ble_eq_true rfl, fun A E a hn hds hs => ?_⟩
    have hs : a.tmps.size = 121 := hs
    have hG := hn.G
    have f6 : ssort_m [.c (.sl f (ps.map Par.row))] = some [.c (.sl false ((sortR ps).map Par.row))] := by
      have := mE_eq encPs_inj (g := fun p => if p.2.length ≤ 1000000 then some [DV.c (.sl false ((sortR p.2).map Par.row))] else none) (a := (f, ps))
      exact this.trans (if_pos hok.1)
    refine wpIn_seq (pieceW hK hm (M := 0) ⟨[(0, AV.d (.sl f (ps.map Par.row)))], []⟩ (by kernel_rfl) (Nat.zero_le _) ?_ hn hs ?_)
    · skip
      have hc := Nat.zero_add 0
      repeat' (first | simp only [hc, AS, KX, encPs, SX, ZZ, simprocAttr, ↓reduceIte] | ((first | apply Za | apply Zb | apply Zc | apply Zd | apply Ze | apply Zf | apply Zg | apply Zh) <;> intro hc) | refine Zi ?_ | refine Zj ?_)
      exact goes (Wk.sub' (by simp [subT, look]) rfl)
    intro a1 E1 ev1 hrel1 hs1
    refine wpIn_seq (pieceW hK hm (M := 0) ⟨[(4, .v (.c (.ptr 2 0))), (0, AV.d (.sl f (ps.map Par.row)))], [.map [] 0, .map [] 0, .box [.d (.sl true []), .d (.sl true []), .mp 0, .mp 1]]⟩ (by kernel_rfl) (Nat.zero_le _) ?_ ⟨hG, hrel1⟩ hs1 ?_)
    · skip
      have hc := Nat.zero_add 0
      repeat' (first | simp only [hc, AS, KX, CSM, MP, SX, ZZ, simprocAttr, ↓reduceIte] | ((first | apply Za | apply Zb | apply Zc | apply Zd | apply Ze | apply Zf | apply Zg | apply Zh) <;> intro hc) | refine Zi ?_ | refine Zj ?_)
      exact goes (Wk.sub' (by simp [subT, look]) rfl)
    intro a2 E2 ev2 hrel2 hs2
    -- the gates, in order
    obtain ⟨fl, hfl⟩ : ∃ fl, fl = decide (gatesF ps = []) := ⟨_, rfl⟩
    refine wpIn_seq (pieceW hK hm (M := 0) ⟨[(4, .v (.c (.ptr 2 0)))], [.map [] 0, .map [] 0, .box [.d (.sl fl ((gatesF ps).map Par.row)), .d (.sl true []), .mp 0, .mp 1]]⟩ (by kernel_rfl) (Nat.zero_le _) ?_ ⟨hG, hrel2⟩ hs2 ?_)
    · have hgs := gates_sort ps
      have hsl : (sortR ps).length ≤ 1000000 := Nat.le_trans (sortR_len ps) hok.1
      have hso : ∀ x ∈ sortR ps, x.Ok := fun x hx => hok.2 x (mem_sortR.1 hx)
      generalize gatesF ps = L at *
      generalize sortR ps = SL at *
      have l1 := @lenP' SL
      have hc := Nat.zero_add 0
      repeat' (first | simp only [hc, AS, KX, SX, f6, l1, ZZ, simprocAttr, ↓reduceIte] | ((first | apply Za | apply Zb | apply Zc | apply Zd | apply Ze | apply Zf | apply Zg | apply Zh) <;> intro hc) | refine Zi ?_ | refine Zj ?_)
      obtain ⟨F, hF⟩ : ∃ F : Nat → List Par, F = fun j => (SL.take j).filter isGate := ⟨_, rfl⟩
      obtain ⟨sta, hsta⟩ : ∃ sta : Nat → S, sta = fun j => if F j = [] then ⟨[(22, AV.i j), (21, AV.i SL.length), (20, AV.d (.sl false (SL.map Par.row))), (4, .v (.c (.ptr 2 0)))], [.map [] 0, .map [] 0, .box [.d (.sl true []), .d (.sl true []), .mp 0, .mp 1]]⟩
        else ⟨[(22, AV.i j), (21, AV.i SL.length), (20, AV.d (.sl false (SL.map Par.row))), (4, .v (.c (.ptr 2 0)))], [.map [] 0, .map [] 0, .box [.own 4 ((F j).map Par.row), .d (.sl true []), .mp 0, .mp 1], .box [.top, .top, .top, .top, .top], .tok ((F j).map Par.row).length 5 none]⟩ := ⟨_, rfl⟩
      have sta0 : ∀ j, F j = [] → sta j = ⟨[(22, AV.i j), (21, AV.i SL.length), (20, AV.d (.sl false (SL.map Par.row))), (4, .v (.c (.ptr 2 0)))], [.map [] 0, .map [] 0, .box [.d (.sl true []), .d (.sl true []), .mp 0, .mp 1]]⟩ := fun j h0 => by rw [hsta]; exact if_pos h0
      have sta1 : ∀ j, F j ≠ [] → sta j = ⟨[(22, AV.i j), (21, AV.i SL.length), (20, AV.d (.sl false (SL.map Par.row))), (4, .v (.c (.ptr 2 0)))], [.map [] 0, .map [] 0, .box [.own 4 ((F j).map Par.row), .d (.sl true []), .mp 0, .mp 1], .box [.top, .top, .top, .top, .top], .tok ((F j).map Par.row).length 5 none]⟩ := fun j h0 => by rw [hsta]; exact if_neg h0
      have hF0 : F 0 = [] := by rw [hF]; rfl
      have hFle : ∀ j, (F j).length ≤ j := fun j => by
        rw [hF]
        exact Nat.le_trans (List.length_filter_le _ _) (by rw [List.length_take]; omega)
      refine awpS_loop (σ := Nat) (fun k => k ≤ SL.length) sta (fun k => SL.length - k) 0 (by rw [sta0 0 hF0]; exact Wk.sub' (by simp [subT, look]) rfl) (Nat.zero_le _) ?_
      intro j hj
      have hfj := hFle j
      by_cases hjl : j < SL.length
      · have e1 := pr_at hjl
        have c3 : ((j : Int) < (SL.length : Int)) = True := eq_true (by omega)
        have w2 := wI (n := (j : Int) + 1) (by omega) (by omega)
        have hFs : F (j + 1) = F j ++ (if isGate SL[j] = true then [SL[j]] else []) := by
          rw [hF]
          dsimp only
          rw [List.take_succ_eq_append_getElem hjl, List.filter_append]
          congr 1
          by_cases hc : isGate SL[j] = true <;> simp [hc]
        have hgd : isGate SL[j] = (decide (SL[j].kind = 5) || decide (SL[j].kind = 6)) := rfl
        generalize SL[j] = x at *
        obtain ⟨x1, x2, x3, x4, x5⟩ := x
        dsimp only at e1 hgd
        have d0 : isGate ⟨x1, x2, x3, x4, x5⟩ = true → x1 = 5 ∨ x1 = 6 := fun h => by rw [hgd] at h; simpa using h
        have d00 : (x1 = 5 ∨ x1 = 6) → isGate ⟨x1, x2, x3, x4, x5⟩ = true := fun h => by rw [hgd]; simpa using h
        have l5 : ∀ (Q : List Par), allLen 5 (Q.map Par.row) := allLenP
        by_cases hFj : F j = []
        · rw [sta0 j hFj]
          have ap1 : ∀ h, apSl h 5 56 [] [[.int .i64 x1, .str x2, .str x3, .int .i64 x4, .int .i64 x5]] = some (.v (.c (.own h.length [[.int .i64 x1, .str x2, .str x3, .int .i64 x4, .int .i64 x5]])), h ++ [.tok 1 5 none]) := fun h => by
            rw [apSl, if_pos ⟨by simp [allLen], by simp [allLen], by simp, by simp⟩]
            rfl
          have fin1 : isGate ⟨x1, x2, x3, x4, x5⟩ = true → F (j + 1) = [⟨x1, x2, x3, x4, x5⟩] := fun h => by rw [hFs, if_pos h, hFj]; rfl
          have fin0 : ¬ isGate ⟨x1, x2, x3, x4, x5⟩ = true → F (j + 1) = [] := fun h => by rw [hFs, if_neg h, hFj]; rfl
          by_cases d1 : x1 = 5
          · have d1' := eq_true d1
            have hF1 := fin1 (d00 (.inl d1))
            have hc := Nat.zero_add 0
            repeat' (first | simp only [hc, AS, KX, SX, l1, e1, c3, nn, w2, d1', ap1, ZZ, simprocAttr, ↓reduceIte] | ((first | apply Za | apply Zb | apply Zc | apply Zd | apply Ze | apply Zf | apply Zg | apply Zh) <;> intro hc) | refine Zi ?_ | refine Zj ?_)
            refine lp_next (j + 1) ?_ (by omega) (by omega)
            rw [sta1 (j + 1) (by rw [hF1]; simp), hF1]
            exact Wk.tops (id := 3) rfl (by simp [subT, look]) rfl (by simp [Par.row])
          have d1' := eq_false d1
          by_cases d2 : x1 = 6
          · have d2' := eq_true d2
            have hF1 := fin1 (d00 (.inr d2))
            have hc := Nat.zero_add 0
            repeat' (first | simp only [hc, AS, KX, SX, l1, e1, c3, nn, w2, d1', d2', ap1, ZZ, simprocAttr, ↓reduceIte] | ((first | apply Za | apply Zb | apply Zc | apply Zd | apply Ze | apply Zf | apply Zg | apply Zh) <;> intro hc) | refine Zi ?_ | refine Zj ?_)
            refine lp_next (j + 1) ?_ (by omega) (by omega)
            rw [sta1 (j + 1) (by rw [hF1]; simp), hF1]
            exact Wk.tops (id := 3) rfl (by simp [subT, look]) rfl (by simp [Par.row])
          have d2' := eq_false d2
          have hF1 := fin0 fun h => by rcases d0 h with h | h; exact d1 h; exact d2 h
          have hc := Nat.zero_add 0
          repeat' (first | simp only [hc, AS, KX, SX, l1, e1, c3, nn, w2, d1', d2', ap1, ZZ, simprocAttr, ↓reduceIte] | ((first | apply Za | apply Zb | apply Zc | apply Zd | apply Ze | apply Zf | apply Zg | apply Zh) <;> intro hc) | refine Zi ?_ | refine Zj ?_)
          refine lp_next (j + 1) ?_ (by omega) (by omega)
          rw [sta0 (j + 1) hF1]
          exact Wk.cutk (k := 3) (by simp) (by simp) (by simp) (by simp [subT, look]) (by simp [AV.low, V.low, C1.low]) (by simp [Ob.low, C1.low])
        rw [sta1 j hFj]
        have ap1 : ∀ h, apTok h 4 5 56 ((F j).map Par.row) [[.int .i64 x1, .str x2, .str x3, .int .i64 x4, .int .i64 x5]] (some (.tok ((F j).map Par.row).length 5 none)) = some (.v (.c (.own 4 ((F j ++ [(⟨x1, x2, x3, x4, x5⟩ : Par)]).map Par.row))), h.set 4 (.tok ((F j ++ [(⟨x1, x2, x3, x4, x5⟩ : Par)]).map Par.row).length 5 none)) := fun h => by
          rw [apTok_ok (eq_true rfl) (eq_true (by simp [allLen])) (eq_true (by simp; omega)) (eq_true (by simp; omega))]
          simp [Par.row]
        have fin1 : isGate ⟨x1, x2, x3, x4, x5⟩ = true → F (j + 1) = F j ++ [⟨x1, x2, x3, x4, x5⟩] := fun h => by rw [hFs, if_pos h]
        have fin0 : ¬ isGate ⟨x1, x2, x3, x4, x5⟩ = true → F (j + 1) = F j := fun h => by rw [hFs, if_neg h, List.append_nil]
        by_cases d1 : x1 = 5
        · have d1' := eq_true d1
          have hF1 := fin1 (d00 (.inl d1))
          have hc := Nat.zero_add 0
          repeat' (first | simp only [hc, AS, KX, SX, l1, e1, c3, nn, w2, d1', ap1, ZZ, simprocAttr, ↓reduceIte] | ((first | apply Za | apply Zb | apply Zc | apply Zd | apply Ze | apply Zf | apply Zg | apply Zh) <;> intro hc) | refine Zi ?_ | refine Zj ?_)
          refine lp_next (j + 1) ?_ (by omega) (by omega)
          rw [sta1 (j + 1) (by rw [hF1]; simp), hF1]
          exact Wk.cutk (k := 5) (by simp) (by simp) (by simp) (by simp [subT, look]) (by simp [AV.low, V.low, C1.low]) (by simp [Ob.low, C1.low])
        have d1' := eq_false d1
        by_cases d2 : x1 = 6
        · have d2' := eq_true d2
          have hF1 := fin1 (d00 (.inr d2))
          have hc := Nat.zero_add 0
          repeat' (first | simp only [hc, AS, KX, SX, l1, e1, c3, nn, w2, d1', d2', ap1, ZZ, simprocAttr, ↓reduceIte] | ((first | apply Za | apply Zb | apply Zc | apply Zd | apply Ze | apply Zf | apply Zg | apply Zh) <;> intro hc) | refine Zi ?_ | refine Zj ?_)
          refine lp_next (j + 1) ?_ (by omega) (by omega)
          rw [sta1 (j + 1) (by rw [hF1]; simp), hF1]
          exact Wk.cutk (k := 5) (by simp) (by simp) (by simp) (by simp [subT, look]) (by simp [AV.low, V.low, C1.low]) (by simp [Ob.low, C1.low])
        have d2' := eq_false d2
        have hF1 := fin0 fun h => by rcases d0 h with h | h; exact d1 h; exact d2 h
        have hc := Nat.zero_add 0
        repeat' (first | simp only [hc, AS, KX, SX, l1, e1, c3, nn, w2, d1', d2', ap1, ZZ, simprocAttr, ↓reduceIte] | ((first | apply Za | apply Zb | apply Zc | apply Zd | apply Ze | apply Zf | apply Zg | apply Zh) <;> intro hc) | refine Zi ?_ | refine Zj ?_)
        refine lp_next (j + 1) ?_ (by omega) (by omega)
        rw [sta1 (j + 1) (by rw [hF1]; exact hFj), hF1]
        exact Wk.cutk (k := 5) (by simp) (by simp) (by simp) (by simp [subT, look]) (by simp [AV.low, V.low, C1.low]) (by simp [Ob.low, C1.low])
      have c3 : ((j : Int) < (SL.length : Int)) = False := eq_false (by omega)
      have hFj : F j = L := by
        rw [hF, ← hgs]
        dsimp only
        rw [List.take_of_length_le (by omega)]
      by_cases hL : L = []
      · rw [sta0 j (hFj.trans hL)]
        subst hL
        have hfl : fl = true := by rw [hfl]; rfl
        subst hfl
        have hc := Nat.zero_add 0
        repeat' (first | simp only [hc, AS, KX, SX, l1, c3, ZZ, simprocAttr, ↓reduceIte] | ((first | apply Za | apply Zb | apply Zc | apply Zd | apply Ze | apply Zf | apply Zg | apply Zh) <;> intro hc) | refine Zi ?_ | refine Zj ?_)
        exact goes (Wk.sub' (by simp [subT, look]) rfl)
      rw [sta1 j (by rw [hFj]; exact hL), hFj]
      have hfl : fl = false := by rw [hfl]; exact decide_eq_false hL
      subst hfl
      have hc := Nat.zero_add 0
      repeat' (first | simp only [hc, AS, KX, SX, l1, c3, ZZ, simprocAttr, ↓reduceIte] | ((first | apply Za | apply Zb | apply Zc | apply Zd | apply Ze | apply Zf | apply Zg | apply Zh) <;> intro hc) | refine Zi ?_ | refine Zj ?_)
      refine goes ((Wk.boxv (id := 2) (t' := [(4, .v (.c (.ptr 2 0)))]) (cs := [.own 4 (L.map Par.row), .d (.sl true []), .mp 0, .mp 1]) (cs' := [.d (.sl false (L.map Par.row)), .d (.sl true []), .mp 0, .mp 1]) rfl (by simp [subT, look]) rfl (fun E i x y v hx hy hr => ?_) rfl).trans (Wk.cutk (k := 3) (by simp) (by simp) (by simp) (by simp [subT, look]) (by simp [AV.low, V.low, C1.low]) (by simp [Ob.low, C1.low])))
      match i, hx, hy with
      | 0, hx, hy => cases hx; cases hy; exact hr.1
      | 1, hx, hy => cases hx; cases hy; exact hr
      | 2, hx, hy => cases hx; cases hy; exact hr
      | 3, hx, hy => cases hx; cases hy; exact hr
    intro a3 E3 ev3 hrel3 hs3
    have hgo := gates_ok hok
    have hgt := gates_time ps
    have hgg := gates_gate ps
    clear hfl f6 hrel1 hrel2 hn ev1 ev2 ev3 h0 hok
    generalize gatesF ps = L at *
    have l1 := @lenP' L
    have hl := hgo.1
    -- room for the reasons
    refine wpIn_seq (pieceW hK hm (M := 0) ⟨[(4, .v (.c (.ptr 2 0)))], hpG fl L (runG L 0)⟩ (by kernel_rfl) (Nat.zero_le _) ?_ ⟨hG, hrel3⟩ hs3 ?_)
    · have k1 : (0 ≤ (L.length : Int)) = True := eq_true (by omega)
      have k2 : (8 * (L.length : Int) ≤ 281474976710656) = True := eq_true (by omega)
      have k3 : ((L.length : Int) ≤ 4611686018427387904) = True := eq_true (by omega)
      have k4 : ((L.length : Int) ≤ (L.length : Int)) = True := eq_true (by omega)
      have hc := Nat.zero_add 0
      repeat' (first | simp only [hc, AS, KX, CSM, MK, SX, l1, k1, k2, k3, k4, Int.toNat_natCast, rep_wc, ZZ, simprocAttr, ↓reduceIte] | ((first | apply Za | apply Zb | apply Zc | apply Zd | apply Ze | apply Zf | apply Zg | apply Zh) <;> intro hc) | refine Zi ?_ | refine Zj ?_)
      exact goes (Wk.sub' (by simp [subT, look]) rfl)
    intro a4 E4 ev4 hrel4 hs4
    -- event by event
    refine wpIn_seq (pieceW hK hm (M := 0) ⟨[(4, .v (.c (.ptr 2 0)))], hpG fl L (runG L L.length)⟩ (by kernel_rfl) (Nat.zero_le _) ?_ ⟨hG, hrel4⟩ hs4 ?_)
    · have c0 := @ststep_at fl L
      unfold hpG
      have hc := Nat.zero_add 0
      repeat' (first | simp only [hc, AS, KX, CSM, SX, l1, ZZ, simprocAttr, ↓reduceIte] | ((first | apply Za | apply Zb | apply Zc | apply Zd | apply Ze | apply Zf | apply Zg | apply Zh) <;> intro hc) | refine Zi ?_ | refine Zj ?_)
      refine awpS_loop (σ := Nat) (fun k => k ≤ L.length) (fun k => ⟨[(49, AV.i k), (48, AV.i L.length), (4, .v (.c (.ptr 2 0)))], hpG fl L (runG L k)⟩) (fun k => L.length - k) 0 (Wk.sub' (by simp [subT, look]) rfl) (Nat.zero_le _) ?_
      intro k hk
      by_cases hkl : k < L.length
      · have c1 : ((k : Int) < (L.length : Int)) = True := eq_true (by omega)
        have w1 := wI (n := (k : Int) + 1) (by omega) (by omega)
        have f1 := c0 hkl hl
        generalize hg1 : runG L (k + 1) = g1 at *
        generalize hH : hpG fl L (runG L k) = H at *
        have hc := Nat.zero_add 0
        repeat' (first | simp only [hc, AS, KX, CSM, SX, l1, c1, w1, f1, ZZ, simprocAttr, ↓reduceIte] | ((first | apply Za | apply Zb | apply Zc | apply Zd | apply Ze | apply Zf | apply Zg | apply Zh) <;> intro hc) | refine Zi ?_ | refine Zj ?_)
        exact lp_next (k + 1) (Wk.sub' (by simp [subT, look]) (by rw [hg1])) (by omega) (by omega)
      have c1 : ((k : Int) < (L.length : Int)) = False := eq_false (by omega)
      have hkk : k = L.length := by omega
      subst hkk
      generalize hH : hpG fl L (runG L L.length) = H at *
      have hc := Nat.zero_add 0
      repeat' (first | simp only [hc, AS, KX, CSM, SX, l1, c1, ZZ, simprocAttr, ↓reduceIte] | ((first | apply Za | apply Zb | apply Zc | apply Zd | apply Ze | apply Zf | apply Zg | apply Zh) <;> intro hc) | refine Zi ?_ | refine Zj ?_)
      exact goes (Wk.sub' (by simp [subT, look]) (by rw [← hH]; rfl))
    intro a5 E5 ev5 hrel5 hs5
    have hI := runG_ok L (Nat.le_refl _)
    have hex := fun (i : Nat) (hi : i < L.length) (hw : whyF L i = 0) => ex_look hgt hgg hi hw
    generalize runG L L.length = g at *
    have h00 : hpG fl L g = hpG fl L { g with ws := wsS L g.eo #[] } := by rw [wsS_zero hI]
    rw [h00] at hrel5
    clear h00 ev4 hrel3 hrel4
    -- the entries that are open
    refine wpIn_seq (wpIn_seq (wpIn_region_list ?_))
    refine pieceL hK (t0 := []) (M := 4) [_, _] ⟨[(56, .v (.c (.mp 1))), (4, .v (.c (.ptr 2 0)))], hpG fl L { g with ws := wsS L g.eo #[] }⟩ (by kernel_rfl) (by exact Nat.le_refl 4) ?_ ⟨hG, hrel5⟩ hs5 ?_
    · unfold hpG
      have hc := Nat.zero_add 0
      repeat' (first | simp only [hc, AS, KX, CSM, SX, ZZ, simprocAttr, ↓reduceIte] | ((first | apply Za | apply Zb | apply Zc | apply Zd | apply Ze | apply Zf | apply Zg | apply Zh) <;> intro hc) | refine Zi ?_ | refine Zj ?_)
      exact goes (Wk.sub' (by simp [subT, look]) rfl)
    intro a6 E6 ev6 hrel6 hs6 _
    obtain ⟨bm, ⟨_, hbm⟩, hmv⟩ := hrel6.tmps 56
    obtain ⟨ents, hents⟩ := mapIn_of hrel6.env (id := 1) rfl hbm
    refine wanted_step ⟨hG, hrel6⟩ rfl (range_op (t := 95) (k := 100) (e := 3) (by kernel_rfl) hmv hents.at' ?_)
    have hE7 := newPin_ok (.mapIter (some bm) g.co #[] g.co) hrel6.env
    have ev7 := (Stp.new hrel6.env (.mapIter (some bm) g.co #[] g.co) (.pin (.mapIter (some bm) g.co #[] g.co))).evo hrel6.env
    have hrel7 := hrel6.put ev7 hE7 (d := some 57) (v := .top) (u := .pointer (some ⟨E6.w.heap.size, 0, none⟩)) (fun t ht => by cases ht; omega) top_rel
    have h57 := put_same (a := a6) (d := 57) (v := .pointer (some ⟨E6.w.heap.size, 0, none⟩)) (by omega)
    have hs7 : (a6.put (some 57) (.pointer (some ⟨E6.w.heap.size, 0, none⟩))).tmps.size = 121 := by rw [put_size]; exact hs6
    have hr7 : (E6.newOb (hpG fl L { g with ws := wsS L g.eo #[] }).length (E6.w.alloc (.mapIter (some bm) g.co #[] g.co))).ρ 4 = some E6.w.heap.size := by simp [Env.newOb, hpG_len]
    have hb7 : (E6.newOb (hpG fl L { g with ws := wsS L g.eo #[] }).length (E6.w.alloc (.mapIter (some bm) g.co #[] g.co))).ρ 1 = some bm := by simp [Env.newOb, hpG_len, hbm]
    have hw7 : E6.w.alloc (.mapIter (some bm) g.co #[] g.co) = (E6.newOb (hpG fl L { g with ws := wsS L g.eo #[] }).length (E6.w.alloc (.mapIter (some bm) g.co #[] g.co))).w := rfl
    generalize E6.newOb (hpG fl L { g with ws := wsS L g.eo #[] }).length (E6.w.alloc (.mapIter (some bm) g.co #[] g.co)) = E7 at *
    rw [hw7]
    generalize hrb : E6.w.heap.size = rb at *
    generalize a6.put (some 57) (.pointer (some ⟨rb, 0, none⟩)) = a7 at *
    refine wpIn_block (wpIn_loop (fun a' w' => ∃ (E' : Env) (S0 : Array Nat) (c0 : Nat), w' = E'.w ∧ a'.tmps.size = 121 ∧ a'.tmps.getD 57 undef = .pointer (some ⟨rb, 0, none⟩) ∧ E'.ρ 4 = some rb ∧ E'.ρ 1 = some bm ∧ g.co ≤ c0 ∧
      Rel A E' ⟨[(4, .v (.c (.ptr 2 0)))], hpG fl L { g with ws := wsS L g.eo S0 } ++ [.pin (.mapIter (some bm) g.co S0 c0)]⟩ a' E'.w) (fun _ w' => lftM bm rb w') ⟨E7, #[], g.co, rfl, hs7, h57, hr7, hb7, Nat.le_refl _, ?_⟩ ?_)
    · exact rel_sub hrel7 (by simp [subT, look])
    rintro a8 w8 ⟨E8, S0, c0, rfl, hs8, h57, h4, h1, hc0, hrel8⟩
    have hμ := lft_eq (id := 1) (it := 4) hrel8.env rfl h1 rfl h4
    refine wpIn_seq (wpIn_region_list ?_)
    rcases nextM_sim (ty := 0) (id := 1) (it := 4) hrel8 rfl h1 rfl h4 hI.mo hc0 with ⟨h0, hrun⟩ | ⟨p, hp, hS, hlt, u, v, E9, hrun, ev9, hrel9, hρ9, hku, hvv, hent⟩
    · -- nothing is left
      refine wanted_step ⟨hG, hrel8⟩ rfl (next_op h57 hrun ?_)
      have hrel10 := top_put hrel8 (d := 58) (u := .tuple #[.bool false]) (by omega)
      have h58 := put_same (a := a8) (d := 58) (v := .tuple #[.bool false]) (by omega)
      have hs10 : (a8.put (some 58) (.tuple #[.bool false])).tmps.size = 121 := by rw [put_size]; exact hs8
      generalize a8.put (some 58) (.tuple #[.bool false]) = a10 at *
      refine wanted_step ⟨hG, hrel10⟩ rfl (extract_op (v := .bool false) h58 rfl ?_)
      have hrel11 := top_put hrel10 (d := 59) (u := .bool false) (by omega)
      have h59 := put_same (a := a10) (d := 59) (v := .bool false) (by omega)
      have hs11 : (a10.put (some 59) (.bool false)).tmps.size = 121 := by rw [put_size]; exact hs10
      generalize a10.put (some 59) (.bool false) = a11 at *
      refine wpIn_seq (wpIn_cond_false h59 (wpIn_exit ?_))
      have hW := wsS_all hI h0
      rw [whyE_all L hgt hgg] at hW
      rw [hW] at hrel11
      have hrel12 := rel_sub (t' := [(4, .v (.c (.ptr 2 0)))]) hrel11 (by simp [subT, look])
      refine pieceEnd hK hm (by kernel_rfl) ?_ ⟨hG, hrel12⟩ hs11 hds
      clear hrel11 hrel12 hrel10 hrel8 hrel7 hrun ev7 hrel6 hrel5 hents hμ
      have mE := hI.me
      unfold hpG
      simp only [List.cons_append, List.nil_append]
      obtain ⟨W, hWd⟩ : ∃ W, W = (List.range L.length).map (whyF L) := ⟨_, rfl⟩
      rw [← hWd]
      have hWl : W.length = L.length := by rw [hWd]; simp
      have hpl : (Ob.pin (.mapIter (some bm) g.co S0 c0)).low 7 = true := rfl
      generalize Ob.pin (.mapIter (some bm) g.co S0 c0) = pn at *
      have hc := Nat.zero_add 0
      repeat' (first | simp only [hc, AS, KX, CSM, SX, l1, ZZ, simprocAttr, ↓reduceIte] | ((first | apply Za | apply Zb | apply Zc | apply Zd | apply Ze | apply Zf | apply Zg | apply Zh) <;> intro hc) | refine Zi ?_ | refine Zj ?_)
      refine awpS_loop (σ := Nat) (fun k => k ≤ L.length)
        (fun k => ⟨[(69, AV.i k), (68, AV.i L.length), (67, AV.d (.sl fl (L.map Par.row))), (10, .v (.c (.own 5 (((List.range k).flatMap (stOf L)).map Sty.row)))), (11, .v (.c (.own 6 (((List.range k).flatMap (exOf L)).map Exc.row)))), (4, .v (.c (.ptr 2 0)))],
          [.map g.ee g.ce, .map g.eo g.co, .box [.d (.sl fl (L.map Par.row)), .msl 3 L.length, .mp 0, .mp 1], .tok L.length 1 (some (wc W)), pn, .tok (((List.range k).flatMap (stOf L)).map Sty.row).length 5 none, .tok (((List.range k).flatMap (exOf L)).map Exc.row).length 2 none]⟩)
        (fun k => L.length - k) 0 (((Wk.own 10 5 (by decide) (by simp [look])).trans (Wk.own 11 2 (by decide) (by simp [look]))).trans (Wk.sub' (by simp [subT, look]) rfl)) (Nat.zero_le _) ?_
      intro k hk
      have hsl := @fmap_len Sty (stOf L) (fun i => stOf_len) k
      have hel := @fmap_len Exc (exOf L) (fun i => exOf_len) k
      by_cases hkl : k < L.length
      · have e1 := pr_at hkl
        have c1 : ((k : Int) < (L.length : Int)) = True := eq_true (by omega)
        have w1 := wI (n := (k : Int) + 1) (by omega) (by omega)
        have fk : skey_m [.agg L[k].row] = some [.c (.str (keyF L[k]))] := (mE_eq encP_inj (g := fun p : Par => if p.Ok then some [.c (.str (keyF p))] else none) (a := L[k])).trans (if_pos (hgo.2 _ (List.getElem_mem hkl)))
        have hse := @flat_succ Exc (exOf L) k
        have hss := @flat_succ Sty (stOf L) k
        have hz := @why_zero L k hkl
        have hx := hex k hkl
        have hcw : (wc W)[k]? = some (.d (.int .i64 (whyF L k))) := by
          rw [wc_cell (by omega)]
          simp [hWd]
        have ke := keysOk_of (key_iK (n := k)) mE.keys
        rw [show exOf L k = if whyF L k ≠ 0 then [⟨keyF L[k], whyF L k⟩] else [] by rw [exOf, List.getElem?_eq_getElem hkl]] at hse
        rw [show stOf L k = if whyF L k ≠ 0 then [] else if L[k].kind = 5 then [⟨keyF L[k], L[k].zone, L[k].plate, (L[k].time, (L[(aftF L k).toNat]?.map (·.time)).getD 0)⟩] else [] by rw [stOf, List.getElem?_eq_getElem hkl]] at hss
        generalize (List.range k).flatMap (stOf L) = SS at *
        generalize (List.range k).flatMap (exOf L) = EE at *
        generalize whyF L k = w at *
        generalize aftF L k = AA at *
        generalize keyF L[k] = K at *
        generalize L[k] = x at *
        obtain ⟨x1, x2, x3, x4, x5⟩ := x
        dsimp only at e1 hz hss hse hx
        simp only [Par.row] at fk
        by_cases d1 : w = 0
        · have d1' := eq_true d1
          rw [if_neg (by simp [d1])] at hse hss
          rw [List.append_nil] at hse
          have hx := hx d1
          by_cases d2 : x1 = 5
          · rw [if_pos d2] at hss hx
            obtain ⟨m, hm', hml⟩ := hz d2 d1
            subst hm'
            rw [Int.toNat_natCast] at hx
            have hfs : (findA (iK k) g.ee).isSome = true := by rw [find_some_get, hx]; rfl
            have hpv : ∀ z, pkV g.ee (iK k) z = .c (.d (.int .i64 m)) := fun z => by rw [pkV_eq, hx]; rfl
            have em := pr_at hml
            rw [Int.toNat_natCast, List.getElem?_eq_getElem hml] at hss
            simp only [Option.map_some, Option.getD_some] at hss
            generalize L[m] = y at *
            obtain ⟨y1, y2, y3, y4, y5⟩ := y
            dsimp only at em hss
            have ap1 : ∀ h, apTok h 5 5 64 (SS.map Sty.row) [[.str K, .str x2, .str x3, .int .i64 x4, .int .i64 y4]] (some (.tok (SS.map Sty.row).length 5 none)) = some (.v (.c (.own 5 ((SS ++ [(⟨K, x2, x3, (x4, y4)⟩ : Sty)]).map Sty.row))), h.set 5 (.tok ((SS ++ [(⟨K, x2, x3, (x4, y4)⟩ : Sty)]).map Sty.row).length 5 none)) := fun h => by
              rw [apTok_ok (eq_true rfl) (eq_true (by simp [allLen])) (eq_true (by simp; omega)) (eq_true (by simp; omega))]
              simp [Sty.row]
            have hc := Nat.zero_add 0
            repeat' (first | simp only [hc, AS, KX, CSM, MP, SX, l1, e1, em, c1, nn, w1, fk, d1', bne, ap1, hcw, ke, hfs, hpv, Int.toNat_natCast, Nat.mul_one, ZZ, simprocAttr, ↓reduceIte] | ((first | apply Za | apply Zb | apply Zc | apply Zd | apply Ze | apply Zf | apply Zg | apply Zh) <;> intro hc) | refine Zi ?_ | refine Zj ?_)
            refine lp_next (k + 1) ?_ (by omega) (by omega)
            rw [hse, hss]
            exact Wk.cutk (k := 7) (by simp) (by simp) (by simp) (by simp [subT, look]) (by simp [AV.low, V.low, C1.low]) (by simp [Ob.low, C1.low, wc_low]; exact hpl)
          rw [if_neg d2] at hss hx
          rw [List.append_nil] at hss
          have hfs : (findA (iK k) g.ee).isSome = false := by rw [find_some_get, hx]; rfl
          have hpv : ∀ z, pkV g.ee (iK k) z = z := fun z => by rw [pkV_eq, hx]
          have hc := Nat.zero_add 0
          repeat' (first | simp only [hc, AS, KX, CSM, MP, SX, l1, e1, c1, nn, w1, fk, d1', bne, hcw, ke, hfs, hpv, Int.toNat_natCast, Nat.mul_one, ZZ, simprocAttr, ↓reduceIte] | ((first | apply Za | apply Zb | apply Zc | apply Zd | apply Ze | apply Zf | apply Zg | apply Zh) <;> intro hc) | refine Zi ?_ | refine Zj ?_)
          refine lp_next (k + 1) ?_ (by omega) (by omega)
          rw [hse, hss]
          exact Wk.cutk (k := 7) (by simp) (by simp) (by simp) (by simp [subT, look]) (by simp [AV.low, V.low, C1.low]) (by simp [Ob.low, C1.low, wc_low]; exact hpl)
        have d1' := eq_false d1
        rw [if_pos d1] at hse hss
        rw [List.append_nil] at hss
        have ap1 : ∀ h, apTok h 6 2 24 (EE.map Exc.row) [[.str K, .int .i64 w]] (some (.tok (EE.map Exc.row).length 2 none)) = some (.v (.c (.own 6 ((EE ++ [(⟨K, w⟩ : Exc)]).map Exc.row))), h.set 6 (.tok ((EE ++ [(⟨K, w⟩ : Exc)]).map Exc.row).length 2 none)) := fun h => by
          rw [apTok_ok (eq_true rfl) (eq_true (by simp [allLen])) (eq_true (by simp; omega)) (eq_true (by simp; omega))]
          simp [Exc.row]
        have hc := Nat.zero_add 0
        repeat' (first | simp only [hc, AS, KX, CSM, MP, SX, l1, e1, c1, nn, w1, fk, d1', bne, hcw, ap1, Int.toNat_natCast, Nat.mul_one, ZZ, simprocAttr, ↓reduceIte] | ((first | apply Za | apply Zb | apply Zc | apply Zd | apply Ze | apply Zf | apply Zg | apply Zh) <;> intro hc) | refine Zi ?_ | refine Zj ?_)
        refine lp_next (k + 1) ?_ (by omega) (by omega)
        rw [hse, hss]
        exact Wk.cutk (k := 7) (by simp) (by simp) (by simp) (by simp [subT, look]) (by simp [AV.low, V.low, C1.low]) (by simp [Ob.low, C1.low, wc_low]; exact hpl)
      have c1 : ((k : Int) < (L.length : Int)) = False := eq_false (by omega)
      have hkk : k = L.length := by omega
      rw [hkk, show (List.range L.length).flatMap (stOf L) = rstays L from rfl, show (List.range L.length).flatMap (exOf L) = rexcl L from rfl]
      rw [hkk] at c1
      have hc := Nat.zero_add 0
      repeat' (first | simp only [hc, AS, KX, CSM, SX, l1, c1, ZZ, simprocAttr, ↓reduceIte] | ((first | apply Za | apply Zb | apply Zc | apply Zd | apply Ze | apply Zf | apply Zg | apply Zh) <;> intro hc) | refine Zi ?_ | refine Zj ?_)
      show resAll _ ⟨_, _⟩ [.tmp 2, .tmp 3] = _
      have hc := Nat.zero_add 0
      repeat' (first | simp only [hc, AS, KX, SX, ZZ, simprocAttr, ↓reduceIte] | ((first | apply Za | apply Zb | apply Zc | apply Zd | apply Ze | apply Zf | apply Zg | apply Zh) <;> intro hc) | refine Zi ?_ | refine Zj ?_)
      rw [← h]
    -- one more
    obtain ⟨z, q, j, hpk, hoj, hpj⟩ := eo_val hI hp
    obtain ⟨hjl, _⟩ := opn_some (Nat.le_refl _) hoj
    have e9 : (hpG fl L { g with ws := wsS L g.eo S0 } ++ [Ob.pin (.mapIter (some bm) g.co S0 c0)]).set 4 (.pin (.mapIter (some bm) g.co (S0.push p.1) g.co)) = hpG fl L { g with ws := wsS L g.eo S0 } ++ [.pin (.mapIter (some bm) g.co (S0.push p.1) g.co)] := rfl
    rw [e9] at hrel9
    refine wanted_step ⟨hG, hrel8⟩ rfl (next_op h57 hrun ?_)
    have hrel10 := top_put hrel9 (d := 58) (u := .tuple #[.bool true, u, v]) (by omega)
    have h58 := put_same (a := a8) (d := 58) (v := .tuple #[.bool true, u, v]) (by omega)
    have hs10 : (a8.put (some 58) (.tuple #[.bool true, u, v])).tmps.size = 121 := by rw [put_size]; exact hs8
    have h57a : (a8.put (some 58) (.tuple #[.bool true, u, v])).tmps.getD 57 undef = .pointer (some ⟨rb, 0, none⟩) := by rw [puts_ne (by simp)]; exact h57
    generalize a8.put (some 58) (.tuple #[.bool true, u, v]) = a10 at *
    refine wanted_step ⟨hG, hrel10⟩ rfl (extract_op (v := .bool true) h58 rfl ?_)
    have hrel11 := top_put hrel10 (d := 59) (u := .bool true) (by omega)
    have h59 := put_same (a := a10) (d := 59) (v := .bool true) (by omega)
    have hs11 : (a10.put (some 59) (.bool true)).tmps.size = 121 := by rw [put_size]; exact hs10
    have h57b : (a10.put (some 59) (.bool true)).tmps.getD 57 undef = .pointer (some ⟨rb, 0, none⟩) := by rw [puts_ne (by simp)]; exact h57a
    generalize a10.put (some 59) (.bool true) = a11 at *
    refine wpIn_seq (wpIn_cond_true h59 (wpIn_skip ?_))
    refine wpIn_block (wpIn_seq (wpIn_region_list ?_))
    refine wanted_step ⟨hG, hrel11⟩ rfl (entry_op h57b hent ?_)
    rw [hpj] at hvv
    have hrel12 := hrel11.put (Evo.refl (Nat.le_refl _)) hrel11.env (d := some 60) (v := .tup [p.2.1.V, .c (.d (.int .i64 j))]) (u := .tuple #[u, v]) (fun t ht => by cases ht; omega) (tup2_rel (DV.rel_V hku) (DV.rel_V hvv))
    have hs12 : (a11.put (some 60) (.tuple #[u, v])).tmps.size = 121 := by rw [put_size]; exact hs11
    have h57c : (a11.put (some 60) (.tuple #[u, v])).tmps.getD 57 undef = .pointer (some ⟨rb, 0, none⟩) := by rw [puts_ne (by simp)]; exact h57b
    generalize a11.put (some 60) (.tuple #[u, v]) = a12 at *
    generalize p.2.1.V = kv at *
    refine pieceL hK (t0 := [57]) (l2 := []) (M := 5) [_, _] ⟨[(9, AV.i j), (4, .v (.c (.ptr 2 0)))], hpG fl L { g with ws := wsS L g.eo S0 } ++ [.pin (.mapIter (some bm) g.co (S0.push p.1) g.co)]⟩ (by kernel_rfl) (by exact Nat.le_refl 5) ?_ ⟨hG, hrel12⟩ hs12 ?_
    · generalize hpG fl L { g with ws := wsS L g.eo S0 } ++ [.pin (.mapIter (some bm) g.co (S0.push p.1) g.co)] = H
      show fin false _ (runOps _ _ _ ⟨(60, AV.tup [kv, .c (.d (.int .i64 j))]) :: (59, .top) :: (58, .top) :: [(4, .v (.c (.ptr 2 0)))], H⟩)
      have hc := Nat.zero_add 0
      repeat' (first | simp only [hc, AS, KX, SX, ZZ, simprocAttr, ↓reduceIte] | ((first | apply Za | apply Zb | apply Zc | apply Zd | apply Ze | apply Zf | apply Zg | apply Zh) <;> intro hc) | refine Zi ?_ | refine Zj ?_)
      exact goes (Wk.sub' (by simp [subT, look]) rfl)
    intro a13 E13 ev13 hrel13 hs13 hy13
    have st2 := fun (h : Hp) => stP_wc (h := h) (id := 3) (n := L.length) (k := j) (ws := wsS L g.eo S0) (by rw [wsS_len]; exact hjl) 11
    rw [wsS_push hI hp hjl hpj] at st2
    have cj : ((j : Int) < (L.length : Int)) = True := eq_true (by omega)
    refine pieceX hK (t0 := [57]) (M := 5) ⟨[(4, .v (.c (.ptr 2 0)))], hpG fl L { g with ws := wsS L g.eo (S0.push p.1) } ++ [.pin (.mapIter (some bm) g.co (S0.push p.1) g.co)]⟩ (by kernel_rfl) (by exact Nat.le_refl 5) ?_ ⟨hG, hrel13⟩ hs13 ?_
    · unfold hpG
      simp only [List.cons_append, List.nil_append]
      have hc := Nat.zero_add 0
      repeat' (first | simp only [hc, AS, KX, CSM, SX, cj, nn, Int.toNat_natCast, st2, ZZ, simprocAttr, ↓reduceIte] | ((first | apply Za | apply Zb | apply Zc | apply Zd | apply Ze | apply Zf | apply Zg | apply Zh) <;> intro hc) | refine Zi ?_ | refine Zj ?_)
      exact goes (Wk.sub' (by simp [subT, look]) rfl)
    intro a14 E14 ev14 hrel14 hs14 hy14
    have ev := ev13.trans ev14 (Nat.le_refl _)
    have r4 : E14.ρ 4 = some rb := rho_keep ev (by decide) rfl (by rw [hρ9]; exact h4)
    have r1 : E14.ρ 1 = some bm := (ev.keep 1 (by decide) _ rfl (by simp [Ob.kind])).2.trans (by rw [hρ9]; exact h1)
    refine ⟨⟨E14, S0.push p.1, g.co, rfl, hs14, (hy14 57 (by simp)).trans ((hy13 57 (by simp)).trans h57c), r4, r1, Nat.le_refl _, hrel14⟩, ?_⟩
    show lftM bm rb E14.w < lftM bm rb E8.w
    rw [hμ, lft_eq (id := 1) (it := 4) hrel14.env rfl r1 rfl r4]
    exact hlt
  cases h
end
end Go.Ab
