/-
  Texts of the layer and of the laws, put together: AbU15. No law is stated here.
-/
import Derived.Test.YtckjmdppjealdaaGreatDoorAbVol37
set_option linter.unusedSimpArgs false
set_option linter.unusedVariables false
set_option maxRecDepth 100000

/-
  session.apply.
-/
namespace Go.Ab
open Go.RowKit Go.Proofs

theorem curB_cp {p : Par} {z : Zon} {now : Bool} {s : Ses} : curB p z.cp now s = curB p z now s := rfl
theorem seeO_cp {h : Hp} {id n : Nat} {g : Hp} {L : List SesO} {p : Par} {z : Zon} : seeO h id n g L p z.cp = seeO h id n g L p z := rfl
/-- Behind more objects: the same, but for what stands between. -/
theorem seeO_app {h g g' g'' : Hp} {id n : Nat} {L : List SesO} {p : Par} {z : Zon} (hL : LiveS h id L) :
    (seeO (h ++ g) id n g' L p z).1 = (seeO h id n g'' L p z).1 ∧
      (((seeO (h ++ g) id n g' L p z).2 = (seeO h id n g'' L p z).2 ++ g ∧ (seeO h id n g'' L p z).2.length = h.length) ∨
       ∃ H, H.length = h.length ∧ (seeO (h ++ g) id n g' L p z).2 = H ++ (g ++ (g' ++ [.tok 1 1 none])) ∧ (seeO h id n g'' L p z).2 = H ++ (g'' ++ [.tok 1 1 none])) := by
  have hid := hL.lt
  unfold seeO
  split
  · exact ⟨rfl, .inl ⟨rfl, rfl⟩⟩
  · rename_i k hk
    split
    · exact ⟨rfl, .inl ⟨rfl, rfl⟩⟩
    · rename_i s o hx
      split
      · exact ⟨rfl, .inl ⟨List.set_append_left _ _ hid, by simp⟩⟩
      · split
        · cases o with
          | none => exact ⟨rfl, .inr ⟨h.set id _, by simp, by rw [List.set_append_left _ _ hid, List.append_assoc], rfl⟩⟩
          | some i =>
            have hil := lt_of_get (hL.own k _ i hx).2
            exact ⟨rfl, .inl ⟨by dsimp only; rw [List.set_append_left _ _ hil, List.set_append_left _ _ (by simpa using hid)], by simp⟩⟩
        · exact ⟨rfl, .inl ⟨rfl, rfl⟩⟩
/-- The state stays sound. -/
theorem seeO_live {h g : Hp} {id : Nat} {L : List SesO} {p : Par} {z : Zon} (hL : LiveS h id L) (hh : LowH h) (hg : (g.all (Ob.low 0)) = true) :
    LiveS (seeO h id (h.length + g.length) g L p z).2 id (seeO h id (h.length + g.length) g L p z).1 ∧ LowH (seeO h id (h.length + g.length) g L p z).2 := by
  unfold seeO
  split
  · exact ⟨hL, hh⟩
  · rename_i k hk
    split
    · exact ⟨hL, hh⟩
    · rename_i s o hx
      split
      · have hL' := hL.put hx (s' := { s with state := 3 }) rfl rfl
        have e : rowO (L.set k ({ s with state := 3 }, o)) = .tok L.length 7 (some (sc (L.set k ({ s with state := 3 }, o)))) := by simp [rowO]
        refine ⟨by rw [e]; exact hL', LowH.set hh ?_⟩
        have := hL'.lowC
        rw [List.length_set] at this
        exact this
      · split
        · cases o with
          | none =>
            obtain ⟨_, e2⟩ := hL.non k _ hx
            have e : rowO (L.set k (seenS s p.time, some (h.length + g.length))) = .tok L.length 7 (some (sc (L.set k (seenS s p.time, some (h.length + g.length))))) := by simp [rowO]
            have hL' := hL.see0 hx (s' := seenS s p.time) (n := h.length + g.length) (by omega) (g := g ++ [.tok 1 1 none]) (by
              rw [List.getElem?_append_right (by simp), List.length_set, Nat.add_sub_cancel_left, List.getElem?_append_right (Nat.le_refl _)]
              simp [seenS, e2]) rfl
            refine ⟨by dsimp only; rw [e]; exact hL', ?_⟩
            dsimp only
            rw [e]
            have hl := hL'.lowC
            unfold LowH
            rw [List.all_eq_true]
            intro x hx
            rcases List.mem_append.1 hx with hx | hx
            · rcases List.mem_or_eq_of_mem_set hx with h1 | rfl
              · exact Ob.low_mono (by simp) (List.all_eq_true.1 hh x h1)
              · exact hl
            · rcases List.mem_append.1 hx with hx | hx
              · exact Ob.low_mono (Nat.zero_le _) (List.all_eq_true.1 hg x hx)
              · rw [List.mem_singleton.1 hx]; rfl
          | some i =>
            have e : rowO (L.set k (seenS s p.time, some i)) = .tok L.length 7 (some (sc (L.set k (seenS s p.time, some i)))) := by simp [rowO]
            have hL' := hL.see1 hx (s' := seenS s p.time) rfl
            have e3 : (seenS s p.time).seen.length = s.seen.length + 1 := by simp [seenS]
            rw [e3] at hL'
            refine ⟨by dsimp only; rw [e]; exact hL', ?_⟩
            dsimp only
            refine LowH.set (LowH.set hh rfl) ?_
            have := hL'.lowC
            rw [List.length_set, List.length_set] at this
            rw [List.length_set]
            exact this
        · exact ⟨hL, hh⟩
theorem seeO_len {h : Hp} {id n : Nat} {g : Hp} {L : List SesO} {p : Par} {z : Zon} : (seeO h id n g L p z).1.length = L.length := by
  unfold seeO
  split
  · rfl
  · split
    · rfl
    · split
      · simp
      · split
        · split <;> simp
        · rfl

abbrev topsA : Hp := [topsP, topsZ, topsP, topsZ]
/-- What an event makes of sessions that can still be written: the sessions, the error, the heap. -/
def apO (h : Hp) (id : Nat) (L : List SesO) (p : Par) (zs : List Zon) : List SesO × Int × Hp :=
  if errP zs p ≠ 0 then (L, errP zs p, h) else match findZ zs p.zone with
  | none => (L, 23, h)
  | some z =>
    if p.kind = 1 then (match lastI (curB p z true) (ssOf L) with
      | some _ => (L, 11, h)
      | none => (L ++ [(newS p, none)], 0, h.set id (rowO (L ++ [(newS p, none)]))))
    else if p.kind = 2 then (match lastI (curB p z true) (ssOf L) with
      | none => (L, 11, h)
      | some k => match L[k]? with
        | none => (L, 11, h)
        | some (s, o) => if p.til ≤ s.til then (L, 15, h) else if z.stay ≠ 0 ∧ s.fr < p.til - z.stay then (L, 3, h) else (L.set k ({ s with til := p.til }, o), 0, h.set id (rowO (L.set k ({ s with til := p.til }, o)))))
    else if p.kind = 3 then (match lastI (curB p z true) (ssOf L) with
      | none => (L, 11, h)
      | some k => match L[k]? with
        | none => (L, 11, h)
        | some (s, o) => (L.set k ({ s with state := 2, til := min s.til p.time }, o), 0, h.set id (rowO (L.set k ({ s with state := 2, til := min s.til p.time }, o)))))
    else if p.kind = 4 then ((seeO h id (h.length + 4) topsA L p z).1, 0, (seeO h id (h.length + 4) topsA L p z).2)
    else (L, 0, h)

structure ApA where
  h : Hp
  id : Nat
  L : List SesO
  p : Par
  f : Bool
  zs : List Zon
def apRl (a : ApA) (args : List AV) (h : Hp) : Prop := args = [.v (.c (.msl a.id a.L.length)), a.p.av, .v (.c (.d (.sl a.f (a.zs.map Zon.row))))] ∧ h = a.h ∧ LiveS a.h a.id a.L ∧ LowH a.h
theorem apRl_inj {a b : ApA} {args : List AV} {h : Hp} (ha : apRl a args h) (hb : apRl b args h) : b = a := by
  obtain ⟨a1, a2, a3, a4, a5, a6⟩ := a
  obtain ⟨b1, b2, b3, b4, b5, b6⟩ := b
  obtain ⟨h1, h2, h3, h4⟩ := ha
  obtain ⟨g1, g2, g3, g4⟩ := hb
  dsimp only at *
  subst h2 g2
  rw [h1] at g1
  simp only [List.cons.injEq, AV.v.injEq, V.c.injEq, C1.msl.injEq, V.agg.injEq, C1.d.injEq, D.sl.injEq, and_true] at g1
  obtain ⟨⟨rfl, g4⟩, g5, rfl, g7⟩ := g1
  rw [h3.inj g3]
  have e1 : a4.row = b4.row := map_inj (fun x y h => by cases h; rfl) g5
  rw [Par.inj _ _ e1, mapZn_inj.1 g7]

noncomputable section
open Classical

theorem ssee_at {h : Hp} {id : Nat} {L : List SesO} {p : Par} {z : Zon} (hL : LiveS h id L) (hh : LowH h) (hl : L.length ≤ 1000000000) (hs : ∀ x ∈ L, x.1.seen.length ≤ 1000000000) :
    ssee_k [.v (.c (.msl id L.length)), p.av, z.av] h = some (.ret (.tup []) (seeO h id (h.length + 2) [topsP, topsZ] L p z).2) := by
  have := kR_eq (R := seR) (g := fun a : SeA => if a.L.length ≤ 1000000000 ∧ ∀ x ∈ a.L, x.1.seen.length ≤ 1000000000 then some (.ret (.tup []) (seeO a.h a.id (a.h.length + 2) [topsP, topsZ] a.L a.p a.z).2) else none) (a := ⟨h, id, L, p, z⟩)
    (args := [.v (.c (.msl id L.length)), p.av, z.av]) (h := h) (fun b hb => by rw [seR_inj (a := ⟨h, id, L, p, z⟩) ⟨rfl, rfl, hL, hh⟩ hb]) ⟨rfl, rfl, hL, hh⟩
  exact this.trans (if_pos ⟨hl, hs⟩)
theorem scheck_at' {p : Par} {f : Bool} {l : List Zon} (h : zonesOk l) (hp : p.Ok) : scheck_m [.agg p.row, .c (.sl f (l.map Zon.row))] = some [.i (errP l p)] := by
  have := mE_eq encPZs_inj (g := fun p => if zonesOk p.2.2 ∧ p.1.Ok then some [.i (errP p.2.2 p.1)] else none) (a := (p, f, l))
  exact this.trans (if_pos ⟨h, hp⟩)
theorem skey_at' {p : Par} (hp : p.Ok) : skey_m [.agg p.row] = some [.c (.str (keyF p))] := by
  have := mE_eq encP_inj (g := fun p : Par => if p.Ok then some [.c (.str (keyF p))] else none) (a := p)
  exact this.trans (if_pos hp)

/-- What the walk asks of the sessions. -/
def manyOk (L : List SesO) : Prop := L.length ≤ 1000000000 ∧ ∀ x ∈ L, x.1.seen.length ≤ 1000000000
def sapply_k : List AV → Hp → Option COut := kR apRl fun a => if manyOk a.L ∧ a.p.Ok ∧ zonesOk a.zs then some (.ret (.tup [.c (.msl a.id (apO a.h a.id a.L a.p a.zs).1.length), .c (.d (.int .i64 (apO a.h a.id a.L a.p a.zs).2.1))]) (apO a.h a.id a.L a.p a.zs).2.2) else none

set_option maxHeartbeats 8000000 in
theorem sapply_kok : ImpC Tryz.prog Gt 32 sapply_k := by
  intro args h out h0
  refine fok_of_awpSW (X := ctxN Tryz.prog Gt [(27, scheck_m), (54, sof_m), (26, skey_m)] [(67, srun_k), (68, ssee_k)] [] none (uL [60])) Tryz.func32 rfl rfl (by kernel_rfl) (by kernel_rfl) (kok_n (AllOk.cons scheck_ok (AllOk.cons sof_ok (AllOk.cons skey_ok AllOk.nil))) (AllK.cons srun_kok (AllK.cons ssee_kok AllK.nil)) AllN.nil) ?_ ?_
  · obtain ⟨a, ⟨rfl, _⟩, _⟩ := kR_inv h0
    exact Nat.le_of_ble_eq_true rfl
  obtain ⟨⟨h', id, L, p, f, zs⟩, ⟨rfl, rfl, hL, hlow⟩, hg⟩ := kR_inv h0
  dsimp only at hL hlow hg ⊢
  split at hg
  · rename_i hlen
    obtain ⟨⟨hlen, hsn⟩, hp, hz⟩ := hlen
    cases hg
    have hidl := hL.lt
    have hrow : ∀ r : Hp, (h ++ r)[id]? = some (.tok L.length 7 (some (sc L))) := fun r => get_ext hL.row
    have hset : ∀ (r : Hp) (o : Ob), (h ++ r).set id o = h.set id o ++ r := fun r o => List.set_append_left _ _ hidl
    have hcut : ∀ (t : List (Nat × AV)) (r : Hp) (m n : Nat) (e : Int), look t 6 = .v (.c (.msl id m)) → look t 7 = AV.i e → Wk h.length ⟨t, h ++ r⟩ ⟨[(6, .v (.c (.msl id m))), (7, AV.i e)], h⟩ := fun t r m n e h6 h7 => Wk.back hlow (Nat.le_refl _) (by simp [subT, h6, h7]) (by simp [AV.low, V.low, C1.low, hidl])
    have hfin : ∀ (H : Hp), LowH H → H.length = h.length → ∀ (t : List (Nat × AV)) (r : Hp) (m : Nat) (e : Int), look t 6 = .v (.c (.msl id m)) → look t 7 = AV.i e → Wk h.length ⟨t, H ++ r⟩ ⟨[(6, .v (.c (.msl id m))), (7, AV.i e)], H⟩ := fun H hH hn t r m e h6 h7 => Wk.back hH (by omega) (by simp [subT, h6, h7]) (by simp [AV.low, V.low, C1.low]; omega)
    have f1 := scheck_at' (f := f) hz hp
    have f4 := skey_at' hp
    have hA : apO h id L p zs = apO h id L p zs := rfl
    conv at hA => rhs; unfold apO
    generalize hR : apO h id L p zs = R at *
    by_cases he : errP zs p = 0
    · have hd := err_dots he
      obtain ⟨_, _, z, hfz, hzc, hT, hist, hk1, hk6⟩ := hd
      have f2 := sof_at (p := p) (f := f) hz
      have hof : ofR Zon.cp zs p.zone = (z.cp, true) := by unfold ofR; rw [hfz]; simp [hzc]
      rw [hof] at f2
      rw [if_neg (by simpa using he), hfz] at hA
      dsimp only at hA
      have f3 := srun_at (h := h ++ [.box (p.row.map .d), .box (z.cp.row.map .d)]) (p := p) (z := z.cp) (now := true) hL.ext (LowH.app hlow (by simp [Ob.low, Par.row, Zon.row, C1.low])) hlen
      have f5 := ssee_at (h := h ++ [.box (p.row.map .d), .box (z.cp.row.map .d)]) (p := p) (z := z.cp) hL.ext (LowH.app hlow (by simp [Ob.low, Par.row, Zon.row, C1.low])) hlen hsn
      rw [show lastI (curB p z.cp true) (ssOf L) = lastI (curB p z true) (ssOf L) from rfl] at f3
      rw [he] at f1
      obtain ⟨hst1, hst2, _, _⟩ := err_stay hzc
      obtain ⟨k1, z1, p1, t1, u1⟩ := p
      obtain ⟨zn, zhf, zhr, zsf, zst, zgr, zfr, zdm, zsy⟩ := z
      simp only [Par.av, Zon.av, Zon.cp, Par.row, Zon.row, List.map_cons, List.map_nil] at f1 f2 f3 f4 f5
      dsimp only at hA hist hk1 hk6 hst1 hst2 f3
      have ht1 : 0 ≤ t1 ∧ t1 < 68719476736 := by simpa [isT] using hist
      by_cases c1 : k1 = 1
      · subst c1
        rw [if_pos rfl] at hA
        cases hla : lastI (curB ⟨1, z1, p1, t1, u1⟩ ⟨zn, zhf, zhr, zsf, zst, zgr, zfr, zdm, zsy⟩ true) (ssOf L) with
        | none =>
          rw [hla] at f3 hA
          dsimp only [lasN] at hA f3
          subst hA
          have hL' := hL.add (s := newS ⟨1, z1, p1, t1, u1⟩) rfl rfl
          have hsc : sc L ++ [.d (.str (keyF ⟨1, z1, p1, t1, u1⟩)), .d (.str z1), .d (.str p1), .d (.int .i64 t1), .d (.int .i64 u1), .d (.int .i64 1), .d (.sl true [])] = sc (L ++ [(newS ⟨1, z1, p1, t1, u1⟩, none)]) := by rw [sc_append]; rfl
          have hro : Ob.tok (L.length + 1) 7 (some (sc (L ++ [(newS ⟨1, z1, p1, t1, u1⟩, none)]))) = rowO (L ++ [(newS ⟨1, z1, p1, t1, u1⟩, none)]) := by simp [rowO]
          have hb1 : ((L.length + 1) * 96 ≤ 140737488355328) = True := eq_true (by omega)
          have hb2 : (L.length + 1 ≤ 4611686018427387904) = True := eq_true (by omega)
          generalize keyF ⟨1, z1, p1, t1, u1⟩ = key at *
          have hc := Nat.zero_add 0
          repeat' (first | simp only [hc, AS, Tryz.f32, NX, NPV, SX, HX, Par.row, Zon.row, List.map_cons, List.map_nil, f1, f2, f3, f4, hrow, hset, nn, Int.toNat_natCast, hb1, hb2, hsc, hro, AB, PL, RG, LP, TY, simprocAttr, ↓reduceIte, forall_const, eq_self, ne_eq, Option.some.injEq, beq_self_eq_true] | ((first | apply fin_ndec | apply fin_dec | apply cnd_ndec | apply cnd_dec' | apply fin_nsplit | apply fin_split | apply cnd_nsplit | apply cnd_split) <;> intro hc) | refine seqS_id ?_ | refine blk_exit_id ?_)
          have hlow' : LowH (h.set id (rowO (L ++ [(newS ⟨1, z1, p1, t1, u1⟩, none)]))) := LowH.set hlow (by have := hL'.lowC; rw [List.length_set] at this; exact this)
          exact ⟨_, hfin _ hlow' (by simp) _ _ (L.length + 1) 0 (by simp [look]) (by simp [look]), [.c (.msl id (L.length + 1)), .c (.d (.int .i64 0))], by simp [resAllV, resOneV, S.get, look, AV.one], by simp [resVV]⟩
        | some k =>
          rw [hla] at f3 hA
          dsimp only [lasN] at hA f3
          subst hA
          have hge : ((k : Int) ≥ 0) = True := eq_true (by omega)
          have hc := Nat.zero_add 0
          repeat' (first | simp only [hc, AS, Tryz.f32, NX, NPV, SX, HX, Par.row, Zon.row, List.map_cons, List.map_nil, f1, f2, f3, f4, hrow, hset, nn, Int.toNat_natCast, hge, AB, PL, RG, LP, TY, simprocAttr, ↓reduceIte, forall_const, eq_self, ne_eq, Option.some.injEq, beq_self_eq_true] | ((first | apply fin_ndec | apply fin_dec | apply cnd_ndec | apply cnd_dec' | apply fin_nsplit | apply fin_split | apply cnd_nsplit | apply cnd_split) <;> intro hc) | refine seqS_id ?_ | refine blk_exit_id ?_)
          exact ⟨_, hcut _ _ L.length 0 11 (by simp [look]) (by simp [look]), [.c (.msl id L.length), .c (.d (.int .i64 11))], by simp [resAllV, resOneV, S.get, look, AV.one], rfl⟩
      · rw [if_neg c1] at hA
        by_cases c2 : k1 = 2
        · subst c2
          rw [if_pos rfl] at hA
          cases hla : lastI (curB ⟨2, z1, p1, t1, u1⟩ ⟨zn, zhf, zhr, zsf, zst, zgr, zfr, zdm, zsy⟩ true) (ssOf L) with
          | none =>
            rw [hla] at f3 hA
            dsimp only [lasN] at hA f3
            subst hA
            have hc := Nat.zero_add 0
            repeat' (first | simp only [hc, AS, Tryz.f32, NX, NPV, SX, HX, Par.row, Zon.row, List.map_cons, List.map_nil, f1, f2, f3, f4, hrow, hset, nn, Int.toNat_natCast, AB, PL, RG, LP, TY, simprocAttr, ↓reduceIte, forall_const, eq_self, ne_eq, Option.some.injEq, beq_self_eq_true] | ((first | apply fin_ndec | apply fin_dec | apply cnd_ndec | apply cnd_dec' | apply fin_nsplit | apply fin_split | apply cnd_nsplit | apply cnd_split) <;> intro hc) | refine seqS_id ?_ | refine blk_exit_id ?_)
            exact ⟨_, hcut _ _ L.length 0 11 (by simp [look]) (by simp [look]), [.c (.msl id L.length), .c (.d (.int .i64 11))], by simp [resAllV, resOneV, S.get, look, AV.one], rfl⟩
          | some k =>
            rw [hla] at f3 hA
            obtain ⟨x, hx, hcur⟩ := lastI_some hla
            obtain ⟨⟨⟨id', zo, pl, fr, ti, st, sf, sn⟩, o⟩, hx⟩ : ∃ x, L[k]? = some x := by
              simp only [List.getElem?_map, Option.map_eq_some_iff] at hx
              obtain ⟨y, hy, _⟩ := hx
              exact ⟨y, hy⟩
            dsimp only [lasN] at hA f3
            rw [hx] at hA
            dsimp only at hA
            have hkl := lt_of_get hx
            have hlt : ((k : Int) < 0) = False := eq_false (by omega)
            have hlt2 : ((k : Int) < (L.length : Int)) = True := eq_true (by omega)
            have hc3 := sc_cell hx (j := 3) (by decide)
            have hc4 := sc_cell hx (j := 4) (by decide)
            simp only [scC, List.getElem?_cons_succ, List.getElem?_cons_zero] at hc3 hc4
            have hT2 : t1 < u1 ∧ u1 ≤ 68719476736 := by
              simp only [errT] at hT
              by_cases hq : u1 ≤ t1 ∨ 68719476736 < u1
              · simp [hq] at hT
              · omega
            have hw := wI (n := u1 - zsy) (by omega) (by omega)
            by_cases d2 : u1 ≤ ti
            · rw [if_pos d2] at hA
              subst hA
              have d2' : (u1 ≤ ti) = True := eq_true d2
              have hc := Nat.zero_add 0
              repeat' (first | simp only [hc, AS, Tryz.f32, NX, NPV, SX, HX, Par.row, Zon.row, List.map_cons, List.map_nil, f1, f2, f3, f4, hrow, hset, nn, Int.toNat_natCast, hlt, hlt2, hc3, hc4, d2', AB, PL, RG, LP, TY, simprocAttr, ↓reduceIte, forall_const, eq_self, ne_eq, Option.some.injEq, beq_self_eq_true] | ((first | apply fin_ndec | apply fin_dec | apply cnd_ndec | apply cnd_dec' | apply fin_nsplit | apply fin_split | apply cnd_nsplit | apply cnd_split) <;> intro hc) | refine seqS_id ?_ | refine blk_exit_id ?_)
              exact ⟨_, hcut _ _ L.length 0 15 (by simp [look]) (by simp [look]), [.c (.msl id L.length), .c (.d (.int .i64 15))], by simp [resAllV, resOneV, S.get, look, AV.one], rfl⟩
            · rw [if_neg d2] at hA
              have d2' : (u1 ≤ ti) = False := eq_false d2
              have hL' := hL.put hx (s' := ⟨id', zo, pl, fr, u1, st, sf, sn⟩) rfl rfl
              have hlow' : LowH (h.set id (rowO (L.set k (⟨id', zo, pl, fr, u1, st, sf, sn⟩, o)))) := LowH.set hlow (by have := hL'.lowC; rw [List.length_set] at this; exact this)
              have hput := fun h' => stP_ses (h := h') (id := id) hx (j := 4) (by decide) (v := .d (.int .i64 u1)) (x' := (⟨id', zo, pl, fr, u1, st, sf, sn⟩, o)) rfl
              by_cases d3 : zsy = 0
              · rw [if_neg (by simp [d3])] at hA
                subst hA
                subst d3
                have d3' : ((0 : Int) > 0) = False := eq_false (by omega)
                have hc := Nat.zero_add 0
                repeat' (first | simp only [hc, AS, Tryz.f32, NX, NPV, SX, HX, Par.row, Zon.row, List.map_cons, List.map_nil, f1, f2, f3, f4, hrow, hset, nn, Int.toNat_natCast, hlt, hlt2, hc3, hc4, d2', d3', hput, AB, PL, RG, LP, TY, simprocAttr, ↓reduceIte, forall_const, eq_self, ne_eq, Option.some.injEq, beq_self_eq_true] | ((first | apply fin_ndec | apply fin_dec | apply cnd_ndec | apply cnd_dec' | apply fin_nsplit | apply fin_split | apply cnd_nsplit | apply cnd_split) <;> intro hc) | refine seqS_id ?_ | refine blk_exit_id ?_)
                exact ⟨_, hfin _ hlow' (by simp) _ _ L.length 0 (by simp [look]) (by simp [look]), [.c (.msl id L.length), .c (.d (.int .i64 0))], by simp [resAllV, resOneV, S.get, look, AV.one], by simp [resVV]⟩
              · have d3' : (zsy > 0) = True := eq_true (by omega)
                by_cases d4 : fr < u1 - zsy
                · rw [if_pos ⟨d3, d4⟩] at hA
                  subst hA
                  have d4' : (u1 - zsy > fr) = True := eq_true d4
                  have hc := Nat.zero_add 0
                  repeat' (first | simp only [hc, AS, Tryz.f32, NX, NPV, SX, HX, Par.row, Zon.row, List.map_cons, List.map_nil, f1, f2, f3, f4, hrow, hset, nn, Int.toNat_natCast, hlt, hlt2, hc3, hc4, d2', d3', d4', hw, AB, PL, RG, LP, TY, simprocAttr, ↓reduceIte, forall_const, eq_self, ne_eq, Option.some.injEq, beq_self_eq_true] | ((first | apply fin_ndec | apply fin_dec | apply cnd_ndec | apply cnd_dec' | apply fin_nsplit | apply fin_split | apply cnd_nsplit | apply cnd_split) <;> intro hc) | refine seqS_id ?_ | refine blk_exit_id ?_)
                  exact ⟨_, hcut _ _ L.length 0 3 (by simp [look]) (by simp [look]), [.c (.msl id L.length), .c (.d (.int .i64 3))], by simp [resAllV, resOneV, S.get, look, AV.one], rfl⟩
                · rw [if_neg (by simp [d4])] at hA
                  subst hA
                  have d4' : (u1 - zsy > fr) = False := eq_false d4
                  have hc := Nat.zero_add 0
                  repeat' (first | simp only [hc, AS, Tryz.f32, NX, NPV, SX, HX, Par.row, Zon.row, List.map_cons, List.map_nil, f1, f2, f3, f4, hrow, hset, nn, Int.toNat_natCast, hlt, hlt2, hc3, hc4, d2', d3', d4', hw, hput, AB, PL, RG, LP, TY, simprocAttr, ↓reduceIte, forall_const, eq_self, ne_eq, Option.some.injEq, beq_self_eq_true] | ((first | apply fin_ndec | apply fin_dec | apply cnd_ndec | apply cnd_dec' | apply fin_nsplit | apply fin_split | apply cnd_nsplit | apply cnd_split) <;> intro hc) | refine seqS_id ?_ | refine blk_exit_id ?_)
                  exact ⟨_, hfin _ hlow' (by simp) _ _ L.length 0 (by simp [look]) (by simp [look]), [.c (.msl id L.length), .c (.d (.int .i64 0))], by simp [resAllV, resOneV, S.get, look, AV.one], by simp [resVV]⟩
        · rw [if_neg c2] at hA
          by_cases c3 : k1 = 3
          · subst c3
            rw [if_pos rfl] at hA
            cases hla : lastI (curB ⟨3, z1, p1, t1, u1⟩ ⟨zn, zhf, zhr, zsf, zst, zgr, zfr, zdm, zsy⟩ true) (ssOf L) with
            | none =>
              rw [hla] at f3 hA
              dsimp only [lasN] at hA f3
              subst hA
              have hc := Nat.zero_add 0
              repeat' (first | simp only [hc, AS, Tryz.f32, NX, NPV, SX, HX, Par.row, Zon.row, List.map_cons, List.map_nil, f1, f2, f3, f4, hrow, hset, nn, Int.toNat_natCast, AB, PL, RG, LP, TY, simprocAttr, ↓reduceIte, forall_const, eq_self, ne_eq, Option.some.injEq, beq_self_eq_true] | ((first | apply fin_ndec | apply fin_dec | apply cnd_ndec | apply cnd_dec' | apply fin_nsplit | apply fin_split | apply cnd_nsplit | apply cnd_split) <;> intro hc) | refine seqS_id ?_ | refine blk_exit_id ?_)
              exact ⟨_, hcut _ _ L.length 0 11 (by simp [look]) (by simp [look]), [.c (.msl id L.length), .c (.d (.int .i64 11))], by simp [resAllV, resOneV, S.get, look, AV.one], rfl⟩
            | some k =>
              rw [hla] at f3 hA
              obtain ⟨x, hx, hcur⟩ := lastI_some hla
              obtain ⟨⟨⟨id', zo, pl, fr, ti, st, sf, sn⟩, o⟩, hx⟩ : ∃ x, L[k]? = some x := by
                simp only [List.getElem?_map, Option.map_eq_some_iff] at hx
                obtain ⟨y, hy, _⟩ := hx
                exact ⟨y, hy⟩
              dsimp only [lasN] at hA f3
              rw [hx] at hA
              dsimp only at hA
              have hkl := lt_of_get hx
              have hlt : ((k : Int) < 0) = False := eq_false (by omega)
              have hlt2 : ((k : Int) < (L.length : Int)) = True := eq_true (by omega)
              have hmin : (if t1 < ti then t1 else ti) = min ti t1 := by rw [Int.min_def]; split <;> split <;> omega
              have hL' := hL.put hx (s' := ⟨id', zo, pl, fr, min ti t1, 2, sf, sn⟩) rfl rfl
              have hlow' : LowH (h.set id (rowO (L.set k (⟨id', zo, pl, fr, min ti t1, 2, sf, sn⟩, o)))) := LowH.set hlow (by have := hL'.lowC; rw [List.length_set] at this; exact this)
              have hput := fun h' => stP_ses (h := h') (id := id) hx (j := 5) (by decide) (v := .d (.int .i64 2)) (x' := (⟨id', zo, pl, fr, ti, 2, sf, sn⟩, o)) rfl
              have hx1 : (L.set k (⟨id', zo, pl, fr, ti, 2, sf, sn⟩, o))[k]? = some (⟨id', zo, pl, fr, ti, 2, sf, sn⟩, o) := by simp [hkl]
              have hc4 := sc_cell hx1 (j := 4) (by decide)
              simp only [scC, List.getElem?_cons_succ, List.getElem?_cons_zero] at hc4
              have hput2 : ∀ h', stP h' id (k * 7 + 4) L.length 7 (sc (L.set k (⟨id', zo, pl, fr, ti, 2, sf, sn⟩, o))) (some [.d (.int .i64 (min ti t1))]) (some 1) = some (h'.set id (rowO (L.set k (⟨id', zo, pl, fr, min ti t1, 2, sf, sn⟩, o)))) := fun h' => by
                have := stP_ses (h := h') (id := id) hx1 (j := 4) (by decide) (v := .d (.int .i64 (min ti t1))) (x' := (⟨id', zo, pl, fr, min ti t1, 2, sf, sn⟩, o)) rfl
                rwa [List.length_set, List.set_set] at this
              have hrow1 : ∀ r : Hp, (h.set id (rowO (L.set k (⟨id', zo, pl, fr, ti, 2, sf, sn⟩, o))) ++ r)[id]? = some (.tok L.length 7 (some (sc (L.set k (⟨id', zo, pl, fr, ti, 2, sf, sn⟩, o))))) := fun r => get_ext (by simp [hidl, rowO])
              have hb0 : ∀ (o a : Ob) (r : Hp), (h.set id o ++ a :: r)[h.length]? = some a := fun o a r => by have := @ha0 (h.set id o) r a; rwa [List.length_set] at this
              have hb1 : ∀ (o a b : Ob) (r : Hp), (h.set id o ++ a :: b :: r)[h.length + 1]? = some b := fun o a b r => by have := @ha1 (h.set id o) r a b; rwa [List.length_set] at this
              have hset1 : ∀ (r : Hp) (o1 o2 : Ob), (h.set id o1 ++ r).set id o2 = h.set id o2 ++ r := fun r o1 o2 => by rw [List.set_append_left _ _ (by simpa using hidl), List.set_set]
              subst hA
              have hc := Nat.zero_add 0
              repeat' (first | simp only [hc, AS, Tryz.f32, NX, NPV, SX, HX, Par.row, Zon.row, List.map_cons, List.map_nil, f1, f2, f3, f4, hrow, hset, nn, Int.toNat_natCast, hlt, hlt2, hc4, hput, hput2, hrow1, hset1, hmin, hb0, hb1, AB, PL, RG, LP, TY, simprocAttr, ↓reduceIte, forall_const, eq_self, ne_eq, Option.some.injEq, beq_self_eq_true] | ((first | apply fin_ndec | apply fin_dec | apply cnd_ndec | apply cnd_dec' | apply fin_nsplit | apply fin_split | apply cnd_nsplit | apply cnd_split) <;> intro hc) | refine seqS_id ?_ | refine blk_exit_id ?_)
              exact ⟨_, hfin _ hlow' (by simp) _ _ L.length 0 (by simp [look]) (by simp [look]), [.c (.msl id L.length), .c (.d (.int .i64 0))], by simp [resAllV, resOneV, S.get, look, AV.one], by simp [resVV]⟩
          · rw [if_neg c3] at hA
            by_cases c4 : k1 = 4
            · subst c4
              rw [if_pos rfl] at hA
              obtain ⟨hv1, hv2⟩ := seeO_live (g := topsA) (p := ⟨4, z1, p1, t1, u1⟩) (z := ⟨zn, zhf, zhr, zsf, zst, zgr, zfr, zdm, zsy⟩) hL hlow (by simp [Ob.low, C1.low])
              obtain ⟨e1, e2⟩ := seeO_app (h := h) (g := [.box [.d (.int .i64 4), .d (.str z1), .d (.str p1), .d (.int .i64 t1), .d (.int .i64 u1)], .box [.d (.str zn), .d (.sl zhr.isEmpty (zhr.map Win.row)), .d (.sl zst.isEmpty (zst.map Stf.row)), .d (.int .i64 zgr), .d (.int .i64 zfr), .d (.int .i64 zdm), .d (.int .i64 zsy)]])
                (g' := [topsP, topsZ]) (g'' := topsA) (n := h.length + 4) (p := ⟨4, z1, p1, t1, u1⟩) (z := ⟨zn, zhf, zhr, zsf, zst, zgr, zfr, zdm, zsy⟩) hL
              have en : (h ++ [Ob.box [.d (.int .i64 4), .d (.str z1), .d (.str p1), .d (.int .i64 t1), .d (.int .i64 u1)], Ob.box [.d (.str zn), .d (.sl zhr.isEmpty (zhr.map Win.row)), .d (.sl zst.isEmpty (zst.map Stf.row)), .d (.int .i64 zgr), .d (.int .i64 zfr), .d (.int .i64 zdm), .d (.int .i64 zsy)]]).length + 2 = h.length + 4 := by simp
              rw [en] at f5
              have hlen1 := seeO_len (h := h) (id := id) (n := h.length + 4) (g := topsA) (L := L) (p := ⟨4, z1, p1, t1, u1⟩) (z := ⟨zn, zhf, zhr, zsf, zst, zgr, zfr, zdm, zsy⟩)
              have hR4 : h.length + topsA.length = h.length + 4 := rfl
              rw [hR4] at hv1 hv2
              have f5 : ssee_k [.v (.c (.msl id L.length)), .v (.agg [.d (.int .i64 4), .d (.str z1), .d (.str p1), .d (.int .i64 t1), .d (.int .i64 u1)]), .v (.agg [.d (.str zn), .d (.sl zhr.isEmpty (zhr.map Win.row)), .d (.sl zst.isEmpty (zst.map Stf.row)), .d (.int .i64 zgr), .d (.int .i64 zfr), .d (.int .i64 zdm), .d (.int .i64 zsy)])] (h ++ [.box [.d (.int .i64 4), .d (.str z1), .d (.str p1), .d (.int .i64 t1), .d (.int .i64 u1)], .box [.d (.str zn), .d (.sl zhr.isEmpty (zhr.map Win.row)), .d (.sl zst.isEmpty (zst.map Stf.row)), .d (.int .i64 zgr), .d (.int .i64 zfr), .d (.int .i64 zdm), .d (.int .i64 zsy)]]) = some (.ret (.tup []) (seeO (h ++ [.box [.d (.int .i64 4), .d (.str z1), .d (.str p1), .d (.int .i64 t1), .d (.int .i64 u1)], .box [.d (.str zn), .d (.sl zhr.isEmpty (zhr.map Win.row)), .d (.sl zst.isEmpty (zst.map Stf.row)), .d (.int .i64 zgr), .d (.int .i64 zfr), .d (.int .i64 zdm), .d (.int .i64 zsy)]]) id (h.length + 4) [topsP, topsZ] L ⟨4, z1, p1, t1, u1⟩ ⟨zn, zhf, zhr, zsf, zst, zgr, zfr, zdm, zsy⟩).2) := f5
              subst hA
              dsimp only
              rw [hlen1]
              generalize seeO (h ++ [.box [.d (.int .i64 4), .d (.str z1), .d (.str p1), .d (.int .i64 t1), .d (.int .i64 u1)], .box [.d (.str zn), .d (.sl zhr.isEmpty (zhr.map Win.row)), .d (.sl zst.isEmpty (zst.map Stf.row)), .d (.int .i64 zgr), .d (.int .i64 zfr), .d (.int .i64 zdm), .d (.int .i64 zsy)]]) id (h.length + 4) [topsP, topsZ] L ⟨4, z1, p1, t1, u1⟩ ⟨zn, zhf, zhr, zsf, zst, zgr, zfr, zdm, zsy⟩ = RA at *
              generalize seeO h id (h.length + 4) topsA L ⟨4, z1, p1, t1, u1⟩ ⟨zn, zhf, zhr, zsf, zst, zgr, zfr, zdm, zsy⟩ = RB at *
              obtain ⟨LA, HA⟩ := RA
              obtain ⟨LB, HB⟩ := RB
              dsimp only at *
              rcases e2 with ⟨e2, e3⟩ | ⟨H, e3, e2, e4⟩
              · subst e2
                have hc := Nat.zero_add 0
                repeat' (first | simp only [hc, AS, Tryz.f32, NX, NPV, SX, HX, Par.row, Zon.row, List.map_cons, List.map_nil, f1, f2, f3, f4, hrow, hset, nn, Int.toNat_natCast, f5, AB, PL, RG, LP, TY, simprocAttr, ↓reduceIte, forall_const, eq_self, ne_eq, Option.some.injEq, beq_self_eq_true] | ((first | apply fin_ndec | apply fin_dec | apply cnd_ndec | apply cnd_dec' | apply fin_nsplit | apply fin_split | apply cnd_nsplit | apply cnd_split) <;> intro hc) | refine seqS_id ?_ | refine blk_exit_id ?_)
                exact ⟨_, hfin _ hv2 e3 _ _ L.length 0 (by simp [look]) (by simp [look]), [.c (.msl id L.length), .c (.d (.int .i64 0))], by simp [resAllV, resOneV, S.get, look, AV.one], rfl⟩
              · subst e2 e4
                have w1 : ∀ (t : List (Nat × AV)) (g : Hp) (a b c d e : C1), look t 6 = .v (.c (.msl id L.length)) → look t 7 = AV.i 0 → Wk h.length ⟨t, H ++ .box [a, b, c, d, e] :: g⟩ ⟨[(6, .v (.c (.msl id L.length))), (7, AV.i 0)], H ++ topsP :: g⟩ := fun t g a b c d e h6 h7 => Wk.tops (id := H.length) (cs := [a, b, c, d, e]) (by simp) (by simp [subT, h6, h7]) rfl (by simp)
                have w2 : ∀ (g : Hp) (o : Ob) (a b c d e f e2 : C1), Wk h.length ⟨[(6, .v (.c (.msl id L.length))), (7, AV.i 0)], H ++ o :: .box [a, b, c, d, e, f, e2] :: g⟩ ⟨[(6, .v (.c (.msl id L.length))), (7, AV.i 0)], H ++ o :: topsZ :: g⟩ := fun g o a b c d e f e2 => Wk.tops (id := H.length + 1) (cs := [a, b, c, d, e, f, e2]) (by simp) (by simp [subT, look]) rfl (by simp)
                have hc := Nat.zero_add 0
                repeat' (first | simp only [hc, AS, Tryz.f32, NX, NPV, SX, HX, Par.row, Zon.row, List.map_cons, List.map_nil, f1, f2, f3, f4, hrow, hset, nn, Int.toNat_natCast, f5, AB, PL, RG, LP, TY, simprocAttr, ↓reduceIte, forall_const, eq_self, ne_eq, Option.some.injEq, beq_self_eq_true] | ((first | apply fin_ndec | apply fin_dec | apply cnd_ndec | apply cnd_dec' | apply fin_nsplit | apply fin_split | apply cnd_nsplit | apply cnd_split) <;> intro hc) | refine seqS_id ?_ | refine blk_exit_id ?_)
                exact ⟨_, (w1 _ _ _ _ _ _ _ (by simp [look]) (by simp [look])).trans (w2 _ _ _ _ _ _ _ _ _), [.c (.msl id L.length), .c (.d (.int .i64 0))], by simp [resAllV, resOneV, S.get, look, AV.one], rfl⟩
            · rw [if_neg c4] at hA
              subst hA
              have hc := Nat.zero_add 0
              repeat' (first | simp only [hc, AS, Tryz.f32, NX, NPV, SX, HX, Par.row, Zon.row, List.map_cons, List.map_nil, f1, f2, f3, f4, hrow, hset, nn, Int.toNat_natCast, c1, c2, c3, c4, AB, PL, RG, LP, TY, simprocAttr, ↓reduceIte, forall_const, eq_self, ne_eq, Option.some.injEq, beq_self_eq_true] | ((first | apply fin_ndec | apply fin_dec | apply cnd_ndec | apply cnd_dec' | apply fin_nsplit | apply fin_split | apply cnd_nsplit | apply cnd_split) <;> intro hc) | refine seqS_id ?_ | refine blk_exit_id ?_)
              exact ⟨_, hcut _ _ L.length 0 0 (by simp [look]) (by simp [look]), [.c (.msl id L.length), .c (.d (.int .i64 0))], by simp [resAllV, resOneV, S.get, look, AV.one], rfl⟩
    · have he' : (errP zs p = 0) = False := eq_false he
      rw [if_pos (by simpa using he)] at hA
      generalize errP zs p = e at *
      subst hA
      obtain ⟨k1, z1, p1, t1, u1⟩ := p
      simp only [Par.row] at f1
      have hc := Nat.zero_add 0
      repeat' (first | simp only [hc, AS, Tryz.f32, NX, NPV, SX, HX, Par.row, Zon.row, List.map_cons, List.map_nil, f1, he', AB, PL, RG, LP, TY, simprocAttr, ↓reduceIte, forall_const, eq_self, ne_eq, Option.some.injEq, beq_self_eq_true] | ((first | apply fin_ndec | apply fin_dec | apply cnd_ndec | apply cnd_dec' | apply fin_nsplit | apply fin_split | apply cnd_nsplit | apply cnd_split) <;> intro hc) | refine seqS_id ?_ | refine blk_exit_id ?_)
      exact ⟨_, hcut _ _ L.length 0 e (by simp [look]) (by simp [look]), [.c (.msl id L.length), .c (.d (.int .i64 e))], by simp [resAllV, resOneV, S.get, look, AV.one], rfl⟩
  · cases hg

end
end Go.Ab
