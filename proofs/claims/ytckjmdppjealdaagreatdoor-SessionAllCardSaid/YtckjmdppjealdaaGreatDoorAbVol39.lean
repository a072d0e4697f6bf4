/-
  Texts of the layer and of the laws, put together: AbU16, AbU17. No law is stated here.
-/
import Derived.Test.YtckjmdppjealdaaGreatDoorAbVol38
import Derived.Test.YtckjmdppjealdaaGreatDoorAbVol30
set_option linter.unusedSimpArgs false
set_option linter.unusedVariables false
set_option maxRecDepth 100000

/-
  What session.apply computes is what the plain law says; the state stays sound.
-/
namespace Go.Ab
open Go.RowKit Go.Proofs

theorem ssOf_get {L : List SesO} {k : Nat} : (ssOf L)[k]? = (L[k]?).map (·.1) := List.getElem?_map
theorem ssOf_set {L : List SesO} {k : Nat} {x : SesO} : ssOf (L.set k x) = (ssOf L).set k x.1 := List.map_set
theorem set_self {α : Type} {l : List α} {k : Nat} {x : α} (h : l[k]? = some x) : l.set k x = l := by
  have hk := lt_of_get h
  rw [List.getElem?_eq_getElem hk] at h
  rw [← Option.some.inj h]
  exact List.set_getElem_self hk

inductive ApC (h : Hp) (id : Nat) (L : List SesO) (p : Par) : List SesO → Hp → Prop where
  | same : ApC h id L p L h
  | add : ApC h id L p (L ++ [(newS p, none)]) (h.set id (rowO (L ++ [(newS p, none)])))
  | put (k : Nat) (s s' : Ses) (o : Option Nat) (hk : L[k]? = some (s, o)) (h1 : s'.sf = s.sf) (h2 : s'.seen = s.seen) : ApC h id L p (L.set k (s', o)) (h.set id (rowO (L.set k (s', o))))
  | see0 (k n : Nat) (s : Ses) (g : Hp) (hn : n = h.length + g.length) (hg : (g.all (Ob.low 0)) = true) (hk : L[k]? = some (s, none)) : ApC h id L p (L.set k (seenS s p.time, some n)) (h.set id (rowO (L.set k (seenS s p.time, some n))) ++ (g ++ [.tok 1 1 none]))
  | see1 (k i : Nat) (s : Ses) (hk : L[k]? = some (s, some i)) : ApC h id L p (L.set k (seenS s p.time, some i)) ((h.set i (.tok (s.seen.length + 1) 1 none)).set id (rowO (L.set k (seenS s p.time, some i))))

theorem seeO_cases {h g : Hp} {id : Nat} {L : List SesO} {p : Par} {z : Zon} (hg : (g.all (Ob.low 0)) = true) : ApC h id L p (seeO h id (h.length + g.length) g L p z).1 (seeO h id (h.length + g.length) g L p z).2 := by
  unfold seeO
  split
  · exact .same
  · rename_i k hk
    split
    · exact .same
    · rename_i s o hx
      split
      · exact .put k s _ o hx rfl rfl
      · split
        · cases o with
          | none => exact .see0 k _ s g rfl hg hx
          | some i => exact .see1 k i s hx
        · exact .same
theorem apO_cases {h : Hp} {id : Nat} {L : List SesO} {p : Par} {zs : List Zon} : ApC h id L p (apO h id L p zs).1 (apO h id L p zs).2.2 := by
  unfold apO
  split
  · exact .same
  split
  · exact .same
  split
  · split
    · exact .same
    · exact .add
  split
  · split
    · exact .same
    · split
      · exact .same
      · rename_i k _ _ s o hx
        split
        · exact .same
        · split
          · exact .same
          · exact .put k s _ o hx rfl rfl
  split
  · split
    · exact .same
    · split
      · exact .same
      · rename_i k _ _ s o hx
        exact .put k s _ o hx rfl rfl
  split
  · exact seeO_cases (g := topsA) (by simp [Ob.low, C1.low])
  · exact .same

theorem ApC.live {h h' : Hp} {id : Nat} {L L' : List SesO} {p : Par} (c : ApC h id L p L' h') (hL : LiveS h id L) (hh : LowH h) : LiveS h' id L' ∧ LowH h' := by
  cases c with
  | same => exact ⟨hL, hh⟩
  | add =>
    have hL' := hL.add (s := newS p) rfl rfl
    have e : rowO (L ++ [(newS p, none)]) = .tok (L.length + 1) 7 (some (sc (L ++ [(newS p, none)]))) := by simp [rowO]
    refine ⟨by rw [e]; exact hL', LowH.set hh ?_⟩
    have := hL'.lowC
    rw [List.length_set] at this
    exact this
  | put k s s' o hk h1 h2 =>
    have hL' := hL.put hk h1 h2
    have e : rowO (L.set k (s', o)) = .tok L.length 7 (some (sc (L.set k (s', o)))) := by simp [rowO]
    refine ⟨by rw [e]; exact hL', LowH.set hh ?_⟩
    have := hL'.lowC
    rw [List.length_set] at this
    exact this
  | see0 k n s g hn hg hk =>
    subst hn
    obtain ⟨_, e2⟩ := hL.non k _ hk
    have e : rowO (L.set k (seenS s p.time, some (h.length + g.length))) = .tok L.length 7 (some (sc (L.set k (seenS s p.time, some (h.length + g.length))))) := by simp [rowO]
    have hL' := hL.see0 hk (s' := seenS s p.time) (n := h.length + g.length) (by omega) (g := g ++ [.tok 1 1 none]) (by
      rw [List.getElem?_append_right (by simp), List.length_set, Nat.add_sub_cancel_left, List.getElem?_append_right (Nat.le_refl _)]
      simp [seenS, e2]) rfl
    rw [e]
    refine ⟨hL', ?_⟩
    have hl := hL'.lowC
    unfold LowH
    rw [List.all_eq_true]
    intro x hx
    rcases List.mem_append.1 hx with hx | hx
    · rcases List.mem_or_eq_of_mem_set hx with h1 | rfl
      · exact Ob.low_mono (by simp) (List.all_eq_true.1 hh x h1)
      · exact hl
    · rcases List.mem_append.1 hx with hx | hx
      · exact Ob.low_mono (Nat.zero_le _) (List.all_eq_true.1 hg x hx)
      · rw [List.mem_singleton.1 hx]; rfl
  | see1 k i s hk =>
    have e : rowO (L.set k (seenS s p.time, some i)) = .tok L.length 7 (some (sc (L.set k (seenS s p.time, some i)))) := by simp [rowO]
    have hL' := hL.see1 hk (s' := seenS s p.time) rfl
    have e3 : (seenS s p.time).seen.length = s.seen.length + 1 := by simp [seenS]
    rw [e3] at hL'
    rw [e]
    refine ⟨hL', LowH.set (LowH.set hh rfl) ?_⟩
    have := hL'.lowC
    rw [List.length_set, List.length_set] at this
    rw [List.length_set]
    exact this

/-- Objects that are not the sessions' own stay as they are. -/
theorem ApC.keep {h h' : Hp} {id : Nat} {L L' : List SesO} {p : Par} (c : ApC h id L p L' h') (hL : LiveS h id L) {j : Nat} {o : Ob} (hj : h[j]? = some o) (hji : j ≠ id) (ho : ∀ n, o ≠ .tok n 1 none) : h'[j]? = some o := by
  have hjl := lt_of_get hj
  cases c with
  | same => exact hj
  | add => rw [List.getElem?_set_ne (Ne.symm hji)]; exact hj
  | put k s s' o' hk h1 h2 => rw [List.getElem?_set_ne (Ne.symm hji)]; exact hj
  | see0 k n s g hn hg hk => exact get_ext (by rw [List.getElem?_set_ne (Ne.symm hji)]; exact hj)
  | see1 k i s hk =>
    have h1 := (hL.own k _ i hk).2
    have hne : i ≠ j := by
      rintro rfl
      rw [hj] at h1
      exact ho _ (Option.some.inj h1)
    rw [List.getElem?_set_ne (Ne.symm hji), List.getElem?_set_ne hne]
    exact hj
theorem ApC.len {h h' : Hp} {id : Nat} {L L' : List SesO} {p : Par} (c : ApC h id L p L' h') : h.length ≤ h'.length := by
  cases c <;> simp
theorem ApC.many {h h' : Hp} {id : Nat} {L L' : List SesO} {p : Par} (c : ApC h id L p L' h') {N : Nat} (hN : L.length ≤ N ∧ ∀ x ∈ L, x.1.seen.length ≤ N) : L'.length ≤ N + 1 ∧ ∀ x ∈ L', x.1.seen.length ≤ N + 1 := by
  obtain ⟨h1, h2⟩ := hN
  have hset : ∀ (k : Nat) (y : SesO), y.1.seen.length ≤ N + 1 → (L.set k y).length ≤ N + 1 ∧ ∀ x ∈ L.set k y, x.1.seen.length ≤ N + 1 := fun k y hy => by
    refine ⟨by rw [List.length_set]; omega, fun x hx => ?_⟩
    rcases List.mem_or_eq_of_mem_set hx with h3 | rfl
    · have := h2 x h3; omega
    · exact hy
  cases c with
  | same => exact ⟨by omega, fun x hx => by have := h2 x hx; omega⟩
  | add =>
    refine ⟨by simp; omega, fun x hx => ?_⟩
    rcases List.mem_append.1 hx with hx | hx
    · have := h2 x hx; omega
    · rw [List.mem_singleton.1 hx]; simp [newS]
  | put k s s' o hk e1 e2 =>
    refine hset k _ ?_
    have := h2 _ (List.mem_of_getElem? hk)
    dsimp only at this ⊢
    rw [e2]
    omega
  | see0 k n s g hn hg hk =>
    refine hset k _ ?_
    have := h2 _ (List.mem_of_getElem? hk)
    dsimp only at this ⊢
    simp [seenS]; omega
  | see1 k i s hk =>
    refine hset k _ ?_
    have := h2 _ (List.mem_of_getElem? hk)
    dsimp only at this ⊢
    simp [seenS]; omega

/-- The sessions and the error are those of the plain law. -/
theorem apO_ss (h : Hp) (id : Nat) (L : List SesO) (p : Par) (zs : List Zon) : ssOf (apO h id L p zs).1 = (applyF zs (ssOf L) p).1 ∧ (apO h id L p zs).2.1 = (applyF zs (ssOf L) p).2 := by
  unfold apO applyF
  by_cases he : errP zs p ≠ 0
  · rw [if_pos he, if_pos he]; exact ⟨rfl, rfl⟩
  rw [if_neg he, if_neg he]
  cases hz : findZ zs p.zone with
  | none => exact ⟨rfl, rfl⟩
  | some z =>
    dsimp only
    by_cases c1 : p.kind = 1
    · rw [if_pos c1, if_pos c1]
      cases hl : lastI (curB p z true) (ssOf L) with
      | none => exact ⟨by simp, rfl⟩
      | some k => exact ⟨rfl, rfl⟩
    rw [if_neg c1, if_neg c1]
    by_cases c2 : p.kind = 2
    · rw [if_pos c2, if_pos c2]
      cases hl : lastI (curB p z true) (ssOf L) with
      | none => exact ⟨rfl, rfl⟩
      | some k =>
        dsimp only
        rw [ssOf_get]
        cases hx : L[k]? with
        | none => exact ⟨rfl, rfl⟩
        | some x =>
          obtain ⟨s, o⟩ := x
          simp only [Option.map_some]
          by_cases d1 : p.til ≤ s.til
          · rw [if_pos d1, if_pos d1]; exact ⟨rfl, rfl⟩
          rw [if_neg d1, if_neg d1]
          by_cases d2 : z.stay ≠ 0 ∧ s.fr < p.til - z.stay
          · rw [if_pos d2, if_pos d2]; exact ⟨rfl, rfl⟩
          rw [if_neg d2, if_neg d2]
          exact ⟨ssOf_set, rfl⟩
    rw [if_neg c2, if_neg c2]
    by_cases c3 : p.kind = 3
    · rw [if_pos c3, if_pos c3]
      cases hl : lastI (curB p z true) (ssOf L) with
      | none => exact ⟨rfl, rfl⟩
      | some k =>
        dsimp only
        rw [ssOf_get]
        cases hx : L[k]? with
        | none => exact ⟨rfl, rfl⟩
        | some x => exact ⟨ssOf_set, rfl⟩
    rw [if_neg c3, if_neg c3]
    by_cases c4 : p.kind = 4
    · rw [if_pos c4, if_pos c4]
      unfold seeO
      cases hl : lastI (curB p z false) (ssOf L) with
      | none => exact ⟨rfl, rfl⟩
      | some k =>
        dsimp only
        rw [ssOf_get]
        cases hx : L[k]? with
        | none => exact ⟨rfl, rfl⟩
        | some x =>
          obtain ⟨s, o⟩ := x
          have hsx : (ssOf L)[k]? = some s := by rw [ssOf_get, hx]; rfl
          simp only [Option.map_some, seeS]
          by_cases d1 : overB z s p.time = true
          · rw [if_pos d1, if_pos d1]; exact ⟨ssOf_set, trivial⟩
          rw [if_neg d1, if_neg d1]
          by_cases d2 : s.fr ≤ p.time
          · rw [if_pos d2, if_pos d2]
            cases o <;> exact ⟨ssOf_set, trivial⟩
          rw [if_neg d2, if_neg d2]
          exact ⟨(set_self hsx).symm, trivial⟩
    rw [if_neg c4, if_neg c4]
    exact ⟨rfl, rfl⟩

noncomputable section
open Classical
theorem sapply_at {h : Hp} {id : Nat} {L : List SesO} {p : Par} {f : Bool} {zs : List Zon} (hL : LiveS h id L) (hh : LowH h) (hm : manyOk L) (hp : p.Ok) (hz : zonesOk zs) :
    sapply_k [.v (.c (.msl id L.length)), p.av, .v (.c (.d (.sl f (zs.map Zon.row))))] h = some (.ret (.tup [.c (.msl id (apO h id L p zs).1.length), .c (.d (.int .i64 (apO h id L p zs).2.1))]) (apO h id L p zs).2.2) := by
  have := kR_eq (R := apRl) (g := fun a : ApA => if manyOk a.L ∧ a.p.Ok ∧ zonesOk a.zs then some (.ret (.tup [.c (.msl a.id (apO a.h a.id a.L a.p a.zs).1.length), .c (.d (.int .i64 (apO a.h a.id a.L a.p a.zs).2.1))]) (apO a.h a.id a.L a.p a.zs).2.2) else none) (a := ⟨h, id, L, p, f, zs⟩)
    (args := [.v (.c (.msl id L.length)), p.av, .v (.c (.d (.sl f (zs.map Zon.row))))]) (h := h) (fun b hb => by rw [apRl_inj (a := ⟨h, id, L, p, f, zs⟩) ⟨rfl, rfl, hL, hh⟩ hb]) ⟨rfl, rfl, hL, hh⟩
  exact this.trans (if_pos ⟨hm, hp, hz⟩)
end

end Go.Ab

/-
  session.All.
-/
namespace Go.Ab
open Go.RowKit Go.Proofs

theorem sortR_len (l : List Par) : (sortR l).length ≤ l.length := by
  have gen : ∀ (l m : List Par), (l.foldl insP m).length ≤ l.length + m.length := by
    intro l
    induction l with
    | nil => intro m; simp
    | cons x l ih =>
      intro m
      have h1 := ih (insP m x)
      have h2 := insP_len m x
      rw [List.foldl_cons, List.length_cons]
      omega
  have := gen l []
  simpa [sortR] using this
theorem LiveS.setO {h : Hp} {id j : Nat} {L : List SesO} (hL : LiveS h id L) {o o' : Ob} (hj : h[j]? = some o) (hji : j ≠ id) (ho : ∀ n, o ≠ .tok n 1 none) : LiveS (h.set j o') id L := by
  refine ⟨by rw [List.getElem?_set_ne hji]; exact hL.row, hL.non, fun k s i hk => ⟨(hL.own k s i hk).1, ?_⟩, hL.one⟩
  have h1 := (hL.own k s i hk).2
  have hne : j ≠ i := by
    rintro rfl
    rw [hj] at h1
    exact ho _ (Option.some.inj h1)
  rw [List.getElem?_set_ne hne]
  exact h1
def encPsZs (p : (Bool × List Par) × Bool × List Zon) : List PA := [.c (.sl p.1.1 (p.1.2.map Par.row)), .c (.sl p.2.1 (p.2.2.map Zon.row))]
theorem encPsZs_inj (a b : (Bool × List Par) × Bool × List Zon) (h : encPsZs a = encPsZs b) : a = b := by
  obtain ⟨⟨a1, a2⟩, a3, a4⟩ := a
  obtain ⟨⟨b1, b2⟩, b3, b4⟩ := b
  simp [encPsZs, mapP_inj, mapZn_inj] at h
  simp [h]

noncomputable section
open Classical

def sall_m : List PA → Option (List PA) := mE encPsZs fun p => if parsOk p.1.2 ∧ zonesOk p.2.2 then some [.c (.sl false ((allF p.2.2 p.1.2).1.map Ses.row)), .c (.sl false ((allF p.2.2 p.1.2).2.map Exc.row))] else none

theorem ssort_at {f : Bool} {l : List Par} (h : l.length ≤ 1000000) : ssort_m [.c (.sl f (l.map Par.row))] = some [.c (.sl false ((sortR l).map Par.row))] := by
  have := mE_eq encPs_inj (g := fun p => if p.2.length ≤ 1000000 then some [.c (.sl false ((sortR p.2).map Par.row))] else none) (a := (f, l))
  exact this.trans (if_pos h)

/-- The state behind j events. -/
structure AlI (zs : List Zon) (sorted : List Par) (j : Nat) (h : Hp) (L : List SesO) (X : List Exc) : Prop where
  le : j ≤ sorted.length
  live : LiveS h 0 L
  low : LowH h
  exc : h[1]? = some (.tok X.length 2 none)
  many : L.length ≤ j ∧ ∀ x ∈ L, x.1.seen.length ≤ j
  xs : X.length ≤ j
  res : (ssOf L, X) = (sorted.take j).foldl (stepX zs) ([], [])

set_option maxHeartbeats 4000000 in
theorem sall_ok : PureC Tryz.prog Gt 15 sall_m := by
  refine pure_of_awpS (X := ctxN Tryz.prog Gt [(31, ssort_m), (27, scheck_m), (26, skey_m)] [(32, sapply_k)] [] none (uL [60])) Tryz.func15 rfl rfl (by kernel_rfl) (by kernel_rfl) (kok_n (AllOk.cons ssort_ok (AllOk.cons scheck_ok (AllOk.cons skey_ok AllOk.nil))) (AllK.cons sapply_kok AllK.nil) AllN.nil) ?_
  intro args r h0
  obtain ⟨⟨⟨f, ps⟩, fz, zs⟩, rfl, h⟩ := mE_inv h0
  refine ⟨Nat.le_of_ble_eq_true rfl, ?_⟩
  split at h
  · rename_i hl
    obtain ⟨⟨hl1, hl2⟩, hz⟩ := hl
    dsimp only at hl1 hl2 hz h
    cases h
    have hR : allF zs ps = (sortR ps).foldl (stepX zs) ([], []) := rfl
    generalize allF zs ps = R at *
    have f1 := ssort_at (f := f) hl1
    have hsl := sortR_len ps
    have hok : ∀ p ∈ sortR ps, p.Ok := fun p hp => hl2 p (mem_sortR.1 hp)
    generalize sortR ps = sorted at *
    have l1 := @lenPr sorted
    have hc := Nat.zero_add 0
    repeat' (first | simp only [hc, AS, Tryz.f15, encPsZs, NX, SX, f1, l1, AB, PL, RG, LP, TY, simprocAttr, ↓reduceIte, forall_const, eq_self, ne_eq, Option.some.injEq, beq_self_eq_true] | ((first | apply fin_ndec | apply fin_dec | apply cnd_ndec | apply cnd_dec' | apply fin_nsplit | apply fin_split | apply cnd_nsplit | apply cnd_split) <;> intro hc) | refine seqS_id ?_ | refine blk_exit_id ?_)
    refine awpS_loop (σ := Nat × Hp × List SesO × List Exc) (fun s => AlI zs sorted s.1 s.2.1 s.2.2.1 s.2.2.2) (fun s => ⟨[(16, AV.i s.1), (15, AV.i sorted.length), (14, AV.d (.sl false (sorted.map Par.row))), (7, .v (.c (.own 1 (s.2.2.2.map Exc.row)))), (6, .v (.c (.msl 0 s.2.2.1.length))), (1, AV.d (.sl fz (zs.map Zon.row)))], s.2.1⟩) (fun s => sorted.length - s.1) (0, [.tok 0 7 (some []), .tok 0 2 none], [], [])
      ((Wk.msl 6 7 (by decide) (by simp [look])).trans ((Wk.own 7 2 (by decide) (by simp [look])).trans (Wk.sub' (by simp [subT, look]) rfl)))
      ⟨Nat.zero_le _, LiveS.nil rfl, rfl, rfl, ⟨Nat.le_refl _, by simp⟩, Nat.le_refl _, rfl⟩ ?_
    rintro ⟨j, h, L, X⟩ hI
    dsimp only at hI ⊢
    have hidl := hI.live.lt
    by_cases hjl : j < sorted.length
    · have hlt : ((j : Int) < (sorted.length : Int)) = True := eq_true (by omega)
      have hw := wI (n := (j : Int) + 1) (by omega) (by omega)
      have e1 := pr_at hjl
      have hpo := hok _ (List.getElem_mem hjl)
      have hnext := foldl_take (f := stepX zs) (b := ([], [])) hjl
      rw [← hI.res] at hnext
      generalize sorted[j] = p at *
      have hL1 : LiveS (h ++ [.box (p.row.map .d)]) 0 L := hI.live.ext
      have hlow1 : LowH (h ++ [.box (p.row.map .d)]) := LowH.app hI.low (by simp [Ob.low, Par.row, C1.low])
      have hcs := apO_cases (h := h ++ [.box (p.row.map .d)]) (id := 0) (L := L) (p := p) (zs := zs)
      have hss := apO_ss (h ++ [.box (p.row.map .d)]) 0 L p zs
      have f2 := sapply_at (f := fz) hL1 hlow1 ⟨by have := hI.many.1; omega, fun x hx => by have := hI.many.2 x hx; omega⟩ hpo hz
      generalize hA : apO (h ++ [.box (p.row.map .d)]) 0 L p zs = A at *
      obtain ⟨L', e, H⟩ := A
      dsimp only at hcs hss f2
      obtain ⟨hL', hlow'⟩ := hcs.live hL1 hlow1
      have hm' := hcs.many hI.many
      have hbox : H[h.length]? = some (.box (p.row.map .d)) := hcs.keep hL1 ha0 (by omega) (by simp)
      have hexc : H[1]? = some (.tok X.length 2 none) := hcs.keep hL1 (get_ext hI.exc) (by decide) (by simp)
      have f3 := scheck_at' (f := fz) hz hpo
      have f4 := skey_at' hpo
      have hst : stepX zs (ssOf L, X) p = (ssOf L', if e = 0 then X else X ++ [⟨keyF p, if errP zs p ≠ 0 then 3 else 4⟩]) := by
        unfold stepX
        rw [← hss.1, ← hss.2]
      rw [hst] at hnext
      obtain ⟨k1, z1, p1, t1, u1⟩ := p
      simp only [Par.av, Par.row, List.map_cons, List.map_nil] at f2 f3 f4 hbox
      have hxl : ((X.map Exc.row).length = X.length) = True := eq_true (by simp)
      have ap : ∀ (key : List UInt8) (w : Int), apTok H 1 2 24 (X.map Exc.row) [[.str key, .int .i64 w]] (some (.tok X.length 2 none)) = some (.v (.c (.own 1 ((X ++ [(⟨key, w⟩ : Exc)]).map Exc.row))), H.set 1 (.tok (X ++ [(⟨key, w⟩ : Exc)]).length 2 none)) := fun key w => by
        have := hI.xs
        rw [apTok_ok hxl (eq_true (by simp [allLen])) (eq_true (by simp; omega)) (eq_true (by simp; omega))]
        simp [Exc.row]
      by_cases c1 : e = 0
      · subst c1
        have hc := Nat.zero_add 0
        repeat' (first | simp only [hc, AS, NX, SX, HX, l1, hlt, nn, e1, f2, hw, Int.toNat_natCast, Par.row, AB, PL, RG, LP, TY, simprocAttr, ↓reduceIte, forall_const, eq_self, ne_eq, Option.some.injEq, beq_self_eq_true] | ((first | apply fin_ndec | apply fin_dec | apply cnd_ndec | apply cnd_dec' | apply fin_nsplit | apply fin_split | apply cnd_nsplit | apply cnd_split) <;> intro hc) | refine seqS_id ?_ | refine blk_exit_id ?_)
        rw [if_pos rfl] at hnext
        exact lp_next (j + 1, H, L', X) (Wk.sub' (by simp [subT, look]) rfl) ⟨by omega, hL', hlow', hexc, hm', Nat.le_succ_of_le hI.xs, hnext.symm⟩ (by simp only []; omega)
      · have c1' : (e = 0) = False := eq_false c1
        rw [if_neg c1] at hnext
        by_cases c2 : errP zs ⟨k1, z1, p1, t1, u1⟩ = 0
        · rw [c2] at f3
          rw [if_neg (by simpa using c2)] at hnext
          generalize keyF ⟨k1, z1, p1, t1, u1⟩ = key at *
          have hc := Nat.zero_add 0
          repeat' (first | simp only [hc, AS, NX, SX, HX, l1, hlt, nn, e1, f2, f3, f4, hw, Int.toNat_natCast, Par.row, c1', hbox, hexc, ap, AB, PL, RG, LP, TY, simprocAttr, ↓reduceIte, forall_const, eq_self, ne_eq, Option.some.injEq, beq_self_eq_true] | ((first | apply fin_ndec | apply fin_dec | apply cnd_ndec | apply cnd_dec' | apply fin_nsplit | apply fin_split | apply cnd_nsplit | apply cnd_split) <;> intro hc) | refine seqS_id ?_ | refine blk_exit_id ?_)
          exact lp_next (j + 1, H.set 1 (.tok (X ++ [(⟨key, 4⟩ : Exc)]).length 2 none), L', X ++ [⟨key, 4⟩]) (Wk.sub' (by simp [subT, look]) rfl) ⟨by omega, hL'.setO hexc (by decide) (by simp), LowH.set hlow' rfl, by simp [lt_of_get hexc], hm', by have := hI.xs; simp; omega, hnext.symm⟩ (by simp only []; omega)
        · have c2' : (errP zs ⟨k1, z1, p1, t1, u1⟩ = 0) = False := eq_false c2
          rw [if_pos (by simpa using c2)] at hnext
          generalize keyF ⟨k1, z1, p1, t1, u1⟩ = key at *
          generalize errP zs ⟨k1, z1, p1, t1, u1⟩ = er at *
          have hc := Nat.zero_add 0
          repeat' (first | simp only [hc, AS, NX, SX, HX, l1, hlt, nn, e1, f2, f3, f4, hw, Int.toNat_natCast, Par.row, c1', c2', hbox, hexc, ap, AB, PL, RG, LP, TY, simprocAttr, ↓reduceIte, forall_const, eq_self, ne_eq, Option.some.injEq, beq_self_eq_true] | ((first | apply fin_ndec | apply fin_dec | apply cnd_ndec | apply cnd_dec' | apply fin_nsplit | apply fin_split | apply cnd_nsplit | apply cnd_split) <;> intro hc) | refine seqS_id ?_ | refine blk_exit_id ?_)
          exact lp_next (j + 1, H.set 1 (.tok (X ++ [(⟨key, 3⟩ : Exc)]).length 2 none), L', X ++ [⟨key, 3⟩]) (Wk.sub' (by simp [subT, look]) rfl) ⟨by omega, hL'.setO hexc (by decide) (by simp), LowH.set hlow' rfl, by simp [lt_of_get hexc], hm', by have := hI.xs; simp; omega, hnext.symm⟩ (by simp only []; omega)
    · have hlt : ((j : Int) < (sorted.length : Int)) = False := eq_false (by omega)
      have hres := hI.res
      rw [List.take_of_length_le (by omega), ← hR] at hres
      have hfr := Wk.freezeC (n := 0) (t := [(7, .v (.c (.own 1 (X.map Exc.row)))), (6, .v (.c (.msl 0 L.length)))]) (h := h) 6 0 L.length 7 (sc L) _ (by simp [look]) hI.live.row hI.live.allD
      rw [chunk_ses] at hfr
      have hr1 : (L.map fun x => x.1.row) = R.1.map Ses.row := by rw [← hres]; simp
      have hr2 : X = R.2 := by rw [← hres]
      rw [hr1, hr2] at hfr
      subst hr2
      have hc := Nat.zero_add 0
      repeat' (first | simp only [hc, AS, NX, SX, l1, hlt, AB, PL, RG, LP, TY, simprocAttr, ↓reduceIte, forall_const, eq_self, ne_eq, Option.some.injEq, beq_self_eq_true] | ((first | apply fin_ndec | apply fin_dec | apply cnd_ndec | apply cnd_dec' | apply fin_nsplit | apply fin_split | apply cnd_nsplit | apply cnd_split) <;> intro hc) | refine seqS_id ?_)
      refine blk_exit_wk ((Wk.sub' (by simp [subT, look]) rfl).trans hfr) ?_
      have hc := Nat.zero_add 0
      repeat' (first | simp only [hc, AS, NX, SX, AB, PL, RG, LP, TY, simprocAttr, ↓reduceIte, forall_const, eq_self, ne_eq, Option.some.injEq, beq_self_eq_true] | ((first | apply fin_ndec | apply fin_dec | apply cnd_ndec | apply cnd_dec' | apply fin_nsplit | apply fin_split | apply cnd_nsplit | apply cnd_split) <;> intro hc) | refine seqS_id ?_ | refine blk_exit_id ?_)
  · cases h

end
end Go.Ab
