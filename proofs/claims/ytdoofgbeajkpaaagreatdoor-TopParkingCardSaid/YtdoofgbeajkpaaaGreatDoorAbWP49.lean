/-
  Texts of the layer and of the laws, put together: AbJ42, AbJ43, AbJ44.
-/
import Derived.Test.YtdoofgbeajkpaaaGreatDoorAbWP48
import Derived.Test.YtdoofgbeajkpaaaGreatDoorAbWP47
import Derived.Test.YtdoofgbeajkpaaaGreatDoorAbWP32
import Derived.Test.YtdoofgbeajkpaaaGreatDoorAbWP35
set_option linter.unusedSimpArgs false
set_option linter.unusedVariables false
set_option maxRecDepth 100000
namespace Go.Ab
open Go.RowKit Go.Proofs
theorem applyF_len (zs : List Zon) (l : List Ses) (p : Par) : (applyF zs l p).1.length ≤ l.length + 1 := by
  have he := applyF_eff zs l p
  generalize (applyF zs l p).2 = c at he
  generalize (applyF zs l p).1 = l' at he ⊢
  cases he <;> simp
theorem allF_go (zs : List Zon) : ∀ (q : List Par) (a : List Ses × List Exc), (q.foldl (stepX zs) a).1.length ≤ a.1.length + q.length
  | [], a => by simp
  | p :: q, a => by
    have h1 := allF_go zs q (stepX zs a p)
    have h2 := applyF_len zs a.1 p
    have h3 : (stepX zs a p).1 = (applyF zs a.1 p).1 := rfl
    rw [h3] at h1
    rw [List.foldl_cons, List.length_cons]
    omega
theorem allF_len (zs : List Zon) (ps : List Par) : (allF zs ps).1.length ≤ ps.length := by
  have h1 := allF_go zs (sortR ps) ([], [])
  have h2 := sortR_len ps
  simp only [List.length_nil, Nat.zero_add] at h1
  rw [allF]
  omega
def atF (s : Sty) (t : Int) : Int := if s.v.1 ≤ t ∧ t < s.v.2 then t else s.v.1
theorem at_in {s : Sty} {t : Int} (h : s.v.1 < s.v.2) : s.v.1 ≤ atF s t ∧ atF s t < s.v.2 := by
  unfold atF
  split
  · rename_i h1; exact h1
  omega
theorem good_stay {zs : List Zon} {es : List Par} (hok : ∀ x ∈ es, x.Ok) (hv : es.all (fewPr zs) = true) {s : Sty} (hs : s ∈ rstays (gatesF es)) :
    s.Ok ∧ chkF zs s = 0 ∧ daysErr s.v = 0 ∧ (0 ≤ s.v.1 ∧ s.v.1 < s.v.2 ∧ s.v.2 ≤ 5184000) := by
  rw [List.all_eq_true] at hv
  obtain ⟨i, _, hx⟩ := List.mem_flatMap.1 hs
  obtain ⟨hi, m, hm, pr, e1, e2, e3⟩ := stay_of (gates_time es) hx
  have hid : s.id = keyF (gatesF es)[i] := by
    unfold stOf at hx
    rw [List.getElem?_eq_getElem hi] at hx
    dsimp only at hx
    split at hx
    · cases hx
    split at hx
    · rw [List.mem_singleton] at hx
      rw [hx]
    cases hx
  have mem : ∀ j (hj : j < (gatesF es).length), (gatesF es)[j] ∈ es := fun j hj => (List.mem_filter.1 (mem_sortR.1 (List.getElem_mem hj))).1
  have hmi := mem i hi
  have hmm := mem m hm
  have k5 := pr.ki
  have ht := pr.time
  have hti := pr.ti
  have o1 := hok _ hmi
  have o2 := hok _ hmm
  have g1 := hv _ hmi
  have g2 := hv _ hmm
  generalize (gatesF es)[i] = p at *
  generalize (gatesF es)[m] = q at *
  simp only [fewPr, Bool.and_eq_true, decide_eq_true_eq] at g1 g2
  obtain ⟨g1, _, g3⟩ := g1
  obtain ⟨g2, _, _⟩ := g2
  have hsv : s.v = (p.time, q.time) := e3
  have ht0 : 0 ≤ p.time := by simp only [isT, Bool.and_eq_true, decide_eq_true_eq] at hti; exact hti.1
  have hiv : ivOk s.v = true := ivOk_iff.2 (by rw [hsv]; exact ⟨ht0, ht, Int.le_trans g2 (by decide)⟩)
  have hd : daysErr s.v = 0 := by
    unfold daysErr
    rw [if_neg (by rw [hiv]; decide), if_neg]
    rw [hsv]
    dsimp only
    omega
  refine ⟨⟨by rw [hsv]; exact o1.2.1, by rw [hsv]; exact o2.2.1, by rw [e1]; exact o1.2.2.2.1, by rw [e2]; exact o1.2.2.2.2⟩, ?_, hd, by rw [hsv]; exact ⟨ht0, ht, g2⟩⟩
  unfold errP at g3
  split at g3
  · omega
  unfold chkF
  rw [e1]
  cases hz : findZ zs p.zone with
  | none => rw [hz] at g3; cases g3
  | some z =>
    rw [hz] at g3
    dsimp only at g3 ⊢
    split at g3
    · cases g3
    rename_i h1
    split at g3
    · cases g3
    rename_i h2
    split at g3
    · cases g3
    rename_i h3
    unfold errT at g3
    rw [if_neg (by omega)] at g3
    have h4 : p.til = 0 := by
      split at g3
      · cases g3
      rename_i h; simpa using h
    have hev : s.ev = p := by
      obtain ⟨a1, a2, a3, a4, a5⟩ := p
      simp only at k5 h4 hsv e1 e2
      subst k5
      subst h4
      simp only [Sty.ev, e1, e2, hsv]
    rw [if_neg h1, if_neg (by rw [e2]; exact h2), if_neg (by rw [hiv]; decide), if_pos (by rw [hev]; exact hid)]
theorem unp_zero {zs : List Zon} {ss : List Ses} {ps : List Pmt} {s : Sty} (h1 : chkF zs s = 0) (h2 : daysErr s.v = 0) : (unpF zs ss ps s).2 = 0 := by
  obtain ⟨z, hz, _, _⟩ := chk_zero h1
  unfold unpF
  rw [if_neg (by simp [h1]), hz]
  dsimp only
  have : (enfF z s.v).2 = 0 := by
    unfold enfF
    rw [if_neg (by simp [h2])]
    split <;> rfl
  rw [if_neg (by simp [this])]
theorem has_unp {zs : List Zon} {ss : List Ses} {ps : List Pmt} {s : Sty} {t : Int} (he : (unpF zs ss ps s).2 = 0) : hasW ((unpF zs ss ps s).1.getD []) t = true ↔ inV ((unpF zs ss ps s).1.getD []) t := by
  obtain ⟨z, _, hn, hin⟩ := unp_in he
  obtain ⟨hiv, _⟩ := unp_iv he
  have hb := ivOk_iff.1 hiv
  generalize (unpF zs ss ps s).1.getD [] = U at *
  rw [hasW_iff]
  constructor
  · rintro ⟨i, hi, _, h⟩
    exact ⟨i, hi, h⟩
  rintro ⟨i, hi, h⟩
  have h0 := hn.2 i hi
  have h1 := ((hin i.1).1 ⟨i, hi, by omega, h0⟩).1
  have h2 := ((hin (i.2 - 1)).1 ⟨i, hi, by omega, by omega⟩).1
  dsimp only [mxT] at hb
  exact ⟨i, hi, ivOk_iff.2 ⟨by omega, h0, by dsimp only [mxT]; omega⟩, h⟩
def dueT (zs : List Zon) (ss : List Ses) (ps : List Pmt) (s : Sty) (t : Int) : Bool := match findZ zs s.zone with
  | none => false
  | some z => openF z t && (decide (s.v.1 + z.free ≤ t) && (!ss.any (cvS s t) && !ps.any (cvP s t)))
theorem due_has {zs : List Zon} {ss : List Ses} {ps : List Pmt} {s : Sty} {t : Int} (he : (unpF zs ss ps s).2 = 0) (ht : s.v.1 ≤ t ∧ t < s.v.2) : hasW ((unpF zs ss ps s).1.getD []) t = dueT zs ss ps s t := by
  obtain ⟨z, hz, _, _⟩ := unp_in he
  rw [Bool.eq_iff_iff, has_unp he]
  have h := @due_iff zs s ⟨true, zs, true, ss, true, ps⟩ t z he hz
  dsimp only at h
  rw [h, dueT, hz]
  dsimp only
  rw [covV]
  dsimp only
  simp only [Bool.and_eq_true, decide_eq_true_eq, Bool.not_eq_true', Bool.or_eq_false_iff]
  constructor
  · rintro ⟨_, h2, h3, h4⟩
    exact ⟨h2, by omega, h4⟩
  rintro ⟨h2, h3, h4⟩
  exact ⟨ht, h2, by omega, h4⟩
end Go.Ab
namespace Go.Ab
open Go.RowKit Go.Proofs
abbrev zB4 : Zon := ⟨[122], true, [], true, [⟨0, 60, 1⟩], 0, 10, 0, 0⟩
abbrev pO4 : Par := ⟨6, [122], [65, 66, 49, 50], 100, 0⟩
abbrev pI4 : Par := ⟨5, [122], [65, 66, 49, 50], 40, 0⟩
abbrev sB4 : Sty := ⟨[53, 46, 122, 46, 65, 66, 49, 50, 46, 52, 48, 46, 48], [122], [65, 66, 49, 50], (40, 100)⟩
abbrev wB4 : Ses := ⟨[], [122], [65, 66, 49, 50], 60, 70, 1, true, []⟩
theorem key_B4 : keyF pI4 = [53, 46, 122, 46, 65, 66, 49, 50, 46, 52, 48, 46, 48] := by
  have e1 : Lib.itoa 5 = [53] := by simp [itoa_spec, dec_small]
  have e2 : Lib.itoa 40 = [52, 48] := by simp [itoa_spec, dec_big, dec_small]
  have e3 : Lib.itoa 0 = [48] := by simp [itoa_spec, dec_small]
  simp [keyF, e1, e2, e3]
theorem gates_B4 : gatesF [pO4, pI4] = [pI4, pO4] := by kernel_rfl
theorem stays_B4 : rstays [pI4, pO4] = [⟨keyF pI4, [122], [65, 66, 49, 50], (40, 100)⟩] := by kernel_rfl
theorem excl_B4 : rexcl [pI4, pO4] = [] := by kernel_rfl
theorem ok_B4 : parsOk [pO4, pI4] := ⟨by decide, by
  intro x hx
  simp only [List.mem_cons, List.not_mem_nil, or_false] at hx
  rcases hx with rfl | rfl <;> exact ⟨rfl, rfl, rfl, by decide, by decide⟩⟩
theorem ok_zB4 : zonesOk [zB4] := ⟨by decide, fun z hz => by rw [List.mem_singleton.1 hz]; exact ⟨by decide, by decide⟩⟩
theorem ok_sB4 : sB4.Ok := ⟨rfl, rfl, by decide, by decide⟩
theorem find_B4 : findZ [zB4] sB4.zone = some zB4 := by kernel_rfl
theorem err_B4 : zB4.err = 0 := by kernel_rfl
theorem chk_B4 : chkF [zB4] sB4 = 0 := by
  have e3 : plateB sB4.plate = true := by kernel_rfl
  have e4 : ivOk sB4.v = true := by kernel_rfl
  have e5 : sB4.id = keyF sB4.ev := key_B4.symm
  rw [chkF, find_B4]
  dsimp only
  rw [if_neg (by rw [err_B4]; simp), if_neg (by rw [e3]; decide), if_neg (by rw [e4]; decide), if_pos e5]
theorem days_B4 : daysErr sB4.v = 0 := by kernel_rfl
theorem nf_B4 : NF [(50, 60), (70, 100)] := ⟨by decide, by decide⟩
theorem unp_B4 : unpF [zB4] [wB4] [] sB4 = (some [(50, 60), (70, 100)], 0) := by
  unfold unpF
  rw [chk_B4, if_neg (by simp), find_B4]
  dsimp only
  rw [enf_e, days_B4, if_neg (by simp)]
  congr 2
  refine nf_ext minusJ_nf nf_B4 fun t => ?_
  rw [minusJ_in, hasV_append, enf_in days_B4, cov_in days_B4, inV_cons, inV_one]
  have hh : hrsP zB4.hrs t = true := rfl
  have hp : paidF wB4 = (60, 70) := by kernel_rfl
  rw [hh]
  constructor
  · rintro ⟨⟨h1, _⟩, h2⟩
    have h3 := paidL_in (ss := [wB4]) (s := sB4) (z := zB4) (t := t) (by kernel_rfl) (by decide) h1
    have a1 : ¬ (t - 40 < 10) := fun h => h2 (.inl (h3.2 (.inl h)))
    have a2 : ¬ (60 ≤ t ∧ t < 70) := fun h => h2 (.inl (h3.2 (.inr ⟨wB4, by simp, rfl, rfl, by rw [hp]; exact h.1, by rw [hp]; exact h.2⟩)))
    dsimp only at h1 ⊢
    omega
  intro h1
  dsimp only at h1
  have h0 : sB4.v.1 ≤ t ∧ t < sB4.v.2 := ⟨by show (40 : Int) ≤ t; omega, by show t < (100 : Int); omega⟩
  have h3 := paidL_in (ss := [wB4]) (s := sB4) (z := zB4) (t := t) (by kernel_rfl) (by decide) h0
  refine ⟨⟨h0, rfl⟩, ?_⟩
  rintro (h | ⟨_, h⟩)
  · rcases h3.1 h with h | ⟨x, hx, _, _, g1, g2⟩
    · have h : t - 40 < 10 := h
      omega
    rw [List.mem_singleton.1 hx, hp] at g1 g2
    have g1 : 60 ≤ t := g1
    have g2 : t < 70 := g2
    omega
  cases h
noncomputable section
open Classical
theorem wb1 : stpair_m [.c (.sl true [[.int .i64 6, .str [122], .str [65, 66, 49, 50], .int .i64 100, .int .i64 0], [.int .i64 5, .str [122], .str [65, 66, 49, 50], .int .i64 40, .int .i64 0]])] = some [.c (.sl false [[.str [53, 46, 122, 46, 65, 66, 49, 50, 46, 52, 48, 46, 48], .str [122], .str [65, 66, 49, 50], .int .i64 40, .int .i64 100]]), .c (.sl false [])] := by
  have g := stpair_at (f := true) ok_B4
  rw [gates_B4, stays_B4, excl_B4, key_B4] at g
  exact g
theorem wb2 : stunp_m [.agg [.str [53, 46, 122, 46, 65, 66, 49, 50, 46, 52, 48, 46, 48], .str [122], .str [65, 66, 49, 50], .int .i64 40, .int .i64 100], .c (.sl true [[.str [122], .sl true [], .sl true [[.int .i64 0, .int .i64 60, .int .i64 1]], .int .i64 0, .int .i64 10, .int .i64 0, .int .i64 0]]), .c (.sl true [[.str [], .str [122], .str [65, 66, 49, 50], .int .i64 60, .int .i64 70, .int .i64 1, .sl true []]]), .c (.sl true [])] = some [.c (.sl false [[.int .i64 50, .int .i64 60], [.int .i64 70, .int .i64 100]]), .i 0] := by
  have g := stunp_at (f := true) (g := true) (k := true) (zs := [zB4]) (ss := [wB4]) (ps := []) (s := sB4) ⟨ok_sB4, ok_zB4, by decide, by decide, fun p hp => by cases hp⟩
  rw [unp_B4] at g
  exact g
def awk15_m : List PA → Option (List PA) := m0 (some [.b true])
set_option maxHeartbeats 4000000 in
theorem awk15_ok : PureC Tryz.prog Gt 13 awk15_m := by
  refine pure_of_awpS (X := ctx Tryz.prog Gt [(15, stpair_m), (20, stunp_m)]) Tryz.func13 rfl rfl (by kernel_rfl) (by kernel_rfl) (AllOk.cons stpair_ok (AllOk.cons stunp_ok AllOk.nil)).kok ?_
  intro args r h0
  obtain ⟨rfl, h⟩ := m0_inv h0
  refine ⟨Nat.le_of_ble_eq_true rfl, ?_⟩
  cases h
  have ea : eqL [D.int .i64 50, D.int .i64 60] [D.int .i64 50, D.int .i64 60] = true := by first | rfl | simp [eqL]
  have eb : eqL [D.int .i64 70, D.int .i64 100] [D.int .i64 70, D.int .i64 100] = true := by first | rfl | simp [eqL]
  have hc := Nat.zero_add 0
  repeat' (first | simp only [hc, AS, Tryz.f13, SX, NQ, wb1, wb2, ea, eb, ZZ, simprocAttr, ↓reduceIte] | ((first | apply Za | apply Zb | apply Zc | apply Zd | apply Ze | apply Zf | apply Zg | apply Zh) <;> intro hc) | refine Zi ?_ | refine Zj ?_)
theorem awk15_at : awk15_m [] = some [.c (.bool true)] := rfl
end
end Go.Ab
namespace Go.Ab
open Go.RowKit Go.Proofs
theorem join {M G : Prop} (h1 : G → M) (h2 : G) : M := h1 h2
def encTp (p : ((Bool × List Zon) × (Bool × List Pmt) × (Bool × List Par)) × Int) : List PA := [.c (.sl p.1.1.1 (p.1.1.2.map Zon.row)), .c (.sl p.1.2.1.1 (p.1.2.1.2.map Pmt.row)), .c (.sl p.1.2.2.1 (p.1.2.2.2.map Par.row)), .c (.int .i64 p.2)]
theorem encTp_inj (a b : ((Bool × List Zon) × (Bool × List Pmt) × (Bool × List Par)) × Int) (h : encTp a = encTp b) : a = b := by
  obtain ⟨⟨⟨a1, a2⟩, ⟨a3, a4⟩, a5, a6⟩, a7⟩ := a
  obtain ⟨⟨⟨b1, b2⟩, ⟨b3, b4⟩, b5, b6⟩, b7⟩ := b
  simp only [encTp, List.cons.injEq, DV.c.injEq, D.sl.injEq, D.int.injEq, true_and, and_true] at h
  obtain ⟨⟨h1, h2⟩, ⟨h3, h4⟩, ⟨h5, h6⟩, h7⟩ := h
  rw [h1, mapZn_inj.1 h2, h3, mapPm_inj.1 h4, h5, mapP_inj.1 h6, h7]
structure Tk (zs : List Zon) (ps : List Pmt) (es : List Par) : Prop where
  zl : zs.length ≤ 3
  pl : ps.length ≤ 4
  el : es.length ≤ 14
  pm : pmtsOk ps
  ev : es.all (fewPr zs) = true
theorem tk_of {zs : List Zon} {ps : List Pmt} {es : List Par} (h : parkV zs ps es = true) : Tk zs ps es := by
  unfold parkV at h
  split at h
  · cases h
  rename_i hn
  simp only [Bool.and_eq_true] at h
  obtain ⟨_, h2, h3⟩ := h
  refine ⟨by omega, by omega, by omega, ⟨by omega, fun p hp => ?_⟩, h3⟩
  have := List.all_eq_true.1 h2 p hp
  simp only [fewPm, Bool.and_eq_true, decide_eq_true_eq] at this
  omega
theorem stays_len {es : List Par} : (rstays (gatesF es)).length ≤ es.length := by
  have h1 := stays_count (gates_time es) (gates_gate es)
  have h2 : (gatesF es).length ≤ es.length := by
    unfold gatesF
    exact Nat.le_trans (sortR_len _) (List.length_filter_le _ _)
  omega
noncomputable section
open Classical
theorem sall_at4 {f g : Bool} {ps : List Par} {zs : List Zon} (hp : parsOk ps) (hz : zonesOk zs) :
    sall_m [.c (.sl f (ps.map Par.row)), .c (.sl g (zs.map Zon.row))] = some [.c (.sl false ((allF zs ps).1.map Ses.row)), .c (.sl false ((allF zs ps).2.map Exc.row))] := by
  have := mE_eq encPsZs_inj (g := fun p => if parsOk p.1.2 ∧ zonesOk p.2.2 then some [DV.c (.sl false ((allF p.2.2 p.1.2).1.map Ses.row)), .c (.sl false ((allF p.2.2 p.1.2).2.map Exc.row))] else none) (a := ((f, ps), g, zs))
  exact this.trans (if_pos ⟨hp, hz⟩)
def tpark_m : List PA → Option (List PA) := mE encTp fun p => if parkOk p.1 then some [.b true] else none
set_option maxHeartbeats 16000000 in
theorem tpark_ok : PureC Tryz.prog Gt 3 tpark_m := by
  refine pure_of_awpS (X := ctx Tryz.prog Gt [(12, parkin_m), (13, awk15_m), (14, sall_m), (15, stpair_m), (16, zfind_m), (17, zopen_m), (18, sPaid_m), (19, pvalid_m), (20, stunp_m), (21, shas_m)]) Tryz.func3 rfl rfl (by kernel_rfl) (by kernel_rfl) (AllOk.cons parkin_ok (AllOk.cons awk15_ok (AllOk.cons sall_ok (AllOk.cons stpair_ok (AllOk.cons zfind_ok (AllOk.cons zopen_ok (AllOk.cons sPaid_ok (AllOk.cons pvalid_ok (AllOk.cons stunp_ok (AllOk.cons shas_ok AllOk.nil)))))))))).kok ?_
  intro args r h0
  obtain ⟨⟨⟨⟨f, zs⟩, ⟨g, ps⟩, k, es⟩, t⟩, rfl, h⟩ := mE_inv h0
  refine ⟨Nat.le_of_ble_eq_true rfl, ?_⟩
  split at h
  · rename_i hok
    dsimp only at hok h
    cases h
    have e0 := awk15_at
    have f1 := parkin_at hok
    obtain ⟨hzs, hps, hes⟩ := hok
    dsimp only at hzs hps hes
    cases c0 : parkV zs ps es
    · rw [c0] at f1
      have hc := Nat.zero_add 0
      repeat' (first | simp only [hc, AS, Tryz.f3, encTp, SX, e0, f1, ZZ, simprocAttr, ↓reduceIte] | ((first | apply Za | apply Zb | apply Zc | apply Zd | apply Ze | apply Zf | apply Zg | apply Zh) <;> intro hc) | refine Zi ?_ | refine Zj ?_)
      all_goals simp [DV.b]
    rw [c0] at f1
    have hT := tk_of c0
    obtain ⟨hzs, hes⟩ := park_small hes c0
    have hel := hT.el
    have hpl := hT.pl
    have hpo : parsOk es := ⟨by omega, hes⟩
    have f3 := sall_at4 (f := k) (g := f) hpo hzs
    have f4 := stpair_at (f := k) hpo
    have hWl := allF_len zs es
    have hLl := @stays_len es
    have hgood := fun s (hs : s ∈ rstays (gatesF es)) => good_stay hes hT.ev hs
    generalize (allF zs es).1 = W at *
    generalize (allF zs es).2 = XW at *
    generalize rstays (gatesF es) = L at *
    generalize rexcl (gatesF es) = XL at *
    have l1 := @lenSy L
    have l2 := @lenSs W
    have l3 := @lenPm ps
    have hc := Nat.zero_add 0
    repeat' (first | simp only [hc, AS, Tryz.f3, encTp, SX, f1, f3, f4, ZZ, simprocAttr, ↓reduceIte] | ((first | apply Za | apply Zb | apply Zc | apply Zd | apply Ze | apply Zf | apply Zg | apply Zh) <;> intro hc) | refine Zi ?_ | refine Zj ?_)
    refine awpS_loop (σ := Nat) (fun i => i ≤ L.length)
      (fun i => ⟨[(13, AV.i i), (11, AV.d (.sl false (L.map Sty.row))), (9, AV.d (.sl false (W.map Ses.row))), (0, AV.d (.sl f (zs.map Zon.row))), (1, AV.d (.sl g (ps.map Pmt.row))), (3, AV.i t)], []⟩)
      (fun i => L.length - i) 0 (Wk.sub' (by simp [subT, look]) rfl) (Nat.zero_le _) ?_
    intro i hi
    by_cases hil : i < L.length
    · have e1 := sy_at hil
      have c1 : ((i : Int) < (L.length : Int)) = True := eq_true (by omega)
      have w1 := wI (n := (i : Int) + 1) (by omega) (by omega)
      obtain ⟨hsok, hchk, hday, hb0, hb1, hb2⟩ := hgood L[i] (List.getElem_mem hil)
      generalize L[i] = s at *
      obtain ⟨z, hz, hze, _⟩ := chk_zero hchk
      obtain ⟨⟨hf0, hf1⟩, hzh⟩ := free_ok hze
      have he := unp_zero (ss := W) (ps := ps) hchk hday
      have ht := at_in (t := t) hb1
      have hdue := due_has he ht
      have hUl := unp_len (zs := zs) (ss := W) (ps := ps) (s := s) (by omega) hT.pm
      have f7 := stunp_at (f := f) (g := false) (k := g) (zs := zs) (ss := W) (ps := ps) (s := s) ⟨hsok, hzs, by show W.length ≤ 1000; omega, hT.pm⟩
      have h3 : ((s.v.1 ≤ t) = True ∧ (t < s.v.2) = True ∧ atF s t = t) ∨ ((s.v.1 ≤ t) = True ∧ (t < s.v.2) = False ∧ atF s t = s.v.1) ∨ ((s.v.1 ≤ t) = False ∧ (t < s.v.2) = True ∧ atF s t = s.v.1) := by
        unfold atF
        by_cases a1 : s.v.1 ≤ t
        · by_cases a2 : t < s.v.2
          · exact .inl ⟨eq_true a1, eq_true a2, if_pos ⟨a1, a2⟩⟩
          exact .inr (.inl ⟨eq_true a1, eq_false a2, if_neg (by omega)⟩)
        exact .inr (.inr ⟨eq_false a1, eq_true (by omega), if_neg (by omega)⟩)
      generalize htm : atF s t = tm at *
      clear htm
      have f5 := zfind_at (f := f) (n := s.zone) hzs
      simp only [findR, hz, Zon.row, Zon.cp] at f5
      have f6 := zopen_at (z := z.cp) (t := tm) (by show z.hrs.length ≤ _; omega)
      rw [show openF z.cp tm = openF z tm from rfl] at f6
      simp only [Zon.row, Zon.cp] at f6
      have w2 : IntKind.i64.wrap (s.v.1 + z.free) = s.v.1 + z.free := wI (by omega) (by omega)
      rw [he] at f7
      have f8 := @shas_at (unpF zs W ps s).1.isNone ((unpF zs W ps s).1.getD []) tm (by omega)
      rw [hdue] at f8
      have hdt0 : dueT zs W ps s tm = (openF z tm && (decide (s.v.1 + z.free ≤ tm) && (!W.any (cvS s tm) && !ps.any (cvP s tm)))) := by rw [dueT, hz]
      obtain ⟨D0, hD0⟩ : ∃ D0 : Bool, D0 = (openF z tm && decide (s.v.1 + z.free ≤ tm)) := ⟨_, rfl⟩
      have hdt : dueT zs W ps s tm = ((D0 && !W.any (cvS s tm)) && !ps.any (cvP s tm)) := by rw [hdt0, hD0]; simp [Bool.and_assoc]
      have h4 : (openF z tm = false ∧ D0 = false) ∨ (openF z tm = true ∧ (s.v.1 + z.free ≤ tm) = True ∧ D0 = true) ∨ (openF z tm = true ∧ (s.v.1 + z.free ≤ tm) = False ∧ D0 = false) := by
        rw [hD0]
        cases openF z tm
        · exact .inl ⟨rfl, rfl⟩
        by_cases a : s.v.1 + z.free ≤ tm
        · exact .inr (.inl ⟨rfl, eq_true a, by simp [a]⟩)
        exact .inr (.inr ⟨rfl, eq_false a, by simp [a]⟩)
      clear hD0 hdue hdt0
      generalize dueT zs W ps s tm = D2 at *
      generalize openF z tm = o at *
      generalize (unpF zs W ps s).1.isNone = un at *
      generalize (unpF zs W ps s).1.getD [] = U at *
      obtain ⟨H, hH⟩ : ∃ H : Nat → Bool, H = fun j => D0 && !((W.take j).any (cvS s tm)) := ⟨_, rfl⟩
      have hH0 : H 0 = D0 := by rw [hH]; simp
      have hHs : ∀ j (hj : j < W.length), H (j + 1) = (H j && !cvS s tm W[j]) := fun j hj => by
        rw [hH]
        dsimp only
        rw [List.take_succ_eq_append_getElem hj, List.any_append]
        simp [Bool.and_assoc]
      have hHn : H W.length = (D0 && !W.any (cvS s tm)) := by rw [hH]; simp
      rw [← hHn] at hdt
      clear hH hHn
      obtain ⟨K, hK'⟩ : ∃ K : Nat → Bool, K = fun j => H W.length && !((ps.take j).any (cvP s tm)) := ⟨_, rfl⟩
      have hK0 : K 0 = H W.length := by rw [hK']; simp
      have hKs : ∀ j (hj : j < ps.length), K (j + 1) = (K j && !cvP s tm ps[j]) := fun j hj => by
        rw [hK']
        dsimp only
        rw [List.take_succ_eq_append_getElem hj, List.any_append]
        simp [Bool.and_assoc]
      have hKn : K ps.length = D2 := by rw [hK', hdt]; simp
      clear hK' hdt
      simp only [Sty.row] at f7
      apply join
      case h1 =>
        intro hG
        rcases h3 with ⟨a1', a2', htm⟩ | ⟨a1', a2', htm⟩ | ⟨a1', a2', htm⟩
        all_goals
          rw [htm] at f6 h4
          rcases h4 with ⟨ho, hD⟩ | ⟨ho, c6, hD⟩ | ⟨ho, c6, hD⟩
          · rw [ho] at f6
            have hc := Nat.zero_add 0
            repeat' (first | simp only [hc, AS, SX, l1, e1, c1, nn, a1', a2', f5, f6, ZZ, simprocAttr, ↓reduceIte] | ((first | apply Za | apply Zb | apply Zc | apply Zd | apply Ze | apply Zf | apply Zg | apply Zh) <;> intro hc) | refine Zi ?_ | refine Zj ?_)
            refine awpS_loop (σ := Nat) (fun j => j ≤ W.length)
              (fun j => ⟨[(19, AV.i j), (18, AV.b (H j)), (15, AV.i tm), (14, .v (.c (.ptr 0 0))), (13, AV.i i), (11, AV.d (.sl false (L.map Sty.row))), (9, AV.d (.sl false (W.map Ses.row))), (0, AV.d (.sl f (zs.map Zon.row))), (1, AV.d (.sl g (ps.map Pmt.row))), (3, AV.i t)],
                [.box [.d (.str s.id), .d (.str s.zone), .d (.str s.plate), .d (.int .i64 s.v.1), .d (.int .i64 s.v.2)], .box [.d (.str z.name), .d (.sl z.hrs.isEmpty (z.hrs.map Win.row)), .d (.sl z.sts.isEmpty (z.sts.map Stf.row)), .d (.int .i64 z.grace), .d (.int .i64 z.free), .d (.int .i64 z.dmax), .d (.int .i64 z.stay)]]⟩)
              (fun j => W.length - j) 0 (Wk.sub' (by simp [subT, look, hH0, hD, htm]) rfl) (Nat.zero_le _) hG
          · rw [ho] at f6
            have hc := Nat.zero_add 0
            repeat' (first | simp only [hc, AS, SX, l1, e1, c1, nn, a1', a2', f5, f6, w2, c6, ZZ, simprocAttr, ↓reduceIte] | ((first | apply Za | apply Zb | apply Zc | apply Zd | apply Ze | apply Zf | apply Zg | apply Zh) <;> intro hc) | refine Zi ?_ | refine Zj ?_)
            refine awpS_loop (σ := Nat) (fun j => j ≤ W.length)
              (fun j => ⟨[(19, AV.i j), (18, AV.b (H j)), (15, AV.i tm), (14, .v (.c (.ptr 0 0))), (13, AV.i i), (11, AV.d (.sl false (L.map Sty.row))), (9, AV.d (.sl false (W.map Ses.row))), (0, AV.d (.sl f (zs.map Zon.row))), (1, AV.d (.sl g (ps.map Pmt.row))), (3, AV.i t)],
                [.box [.d (.str s.id), .d (.str s.zone), .d (.str s.plate), .d (.int .i64 s.v.1), .d (.int .i64 s.v.2)], .box [.d (.str z.name), .d (.sl z.hrs.isEmpty (z.hrs.map Win.row)), .d (.sl z.sts.isEmpty (z.sts.map Stf.row)), .d (.int .i64 z.grace), .d (.int .i64 z.free), .d (.int .i64 z.dmax), .d (.int .i64 z.stay)]]⟩)
              (fun j => W.length - j) 0 (Wk.sub' (by simp [subT, look, hH0, hD, htm]) rfl) (Nat.zero_le _) hG
          rw [ho] at f6
          have hc := Nat.zero_add 0
          repeat' (first | simp only [hc, AS, SX, l1, e1, c1, nn, a1', a2', f5, f6, w2, c6, ZZ, simprocAttr, ↓reduceIte] | ((first | apply Za | apply Zb | apply Zc | apply Zd | apply Ze | apply Zf | apply Zg | apply Zh) <;> intro hc) | refine Zi ?_ | refine Zj ?_)
          refine awpS_loop (σ := Nat) (fun j => j ≤ W.length)
            (fun j => ⟨[(19, AV.i j), (18, AV.b (H j)), (15, AV.i tm), (14, .v (.c (.ptr 0 0))), (13, AV.i i), (11, AV.d (.sl false (L.map Sty.row))), (9, AV.d (.sl false (W.map Ses.row))), (0, AV.d (.sl f (zs.map Zon.row))), (1, AV.d (.sl g (ps.map Pmt.row))), (3, AV.i t)],
              [.box [.d (.str s.id), .d (.str s.zone), .d (.str s.plate), .d (.int .i64 s.v.1), .d (.int .i64 s.v.2)], .box [.d (.str z.name), .d (.sl z.hrs.isEmpty (z.hrs.map Win.row)), .d (.sl z.sts.isEmpty (z.sts.map Stf.row)), .d (.int .i64 z.grace), .d (.int .i64 z.free), .d (.int .i64 z.dmax), .d (.int .i64 z.stay)]]⟩)
            (fun j => W.length - j) 0 (Wk.sub' (by simp [subT, look, hH0, hD, htm]) rfl) (Nat.zero_le _) hG
      case h2 =>
        clear h3 h4 f6 hH0
        intro j hj
        by_cases hjl : j < W.length
        · have e2 := ss_at hjl
          have c2 : ((j : Int) < (W.length : Int)) = True := eq_true (by omega)
          have w3 := wI (n := (j : Int) + 1) (by omega) (by omega)
          have g5 : sPaid_m [.agg W[j].row] = some [.agg (rowIv (paidF W[j]))] := mE_eq encS_inj (g := fun s => some [DV.agg (rowIv (paidF s))]) (a := W[j])
          have hn := hHs j hjl
          rw [cvS] at hn
          generalize paidF W[j] = px at *
          generalize W[j] = x at *
          obtain ⟨x1, x2, x3, x4, x5, x6, x7, x8⟩ := x
          obtain ⟨px1, px2⟩ := px
          dsimp only at hn e2
          simp only [Ses.row, rowIv] at g5
          by_cases d1 : x2 = s.zone
          · have d1' : (x2 == s.zone) = true := by simpa using d1
            rw [decide_eq_true d1, Bool.true_and] at hn
            by_cases d2 : x3 = s.plate
            · have d2' : (x3 == s.plate) = true := by simpa using d2
              rw [decide_eq_true d2, Bool.true_and] at hn
              by_cases d3 : px1 ≤ tm
              · have d3' := eq_true d3
                rw [decide_eq_true d3, Bool.true_and] at hn
                by_cases d4 : tm < px2
                · have d4' := eq_true d4
                  rw [decide_eq_true d4, Bool.not_true, Bool.and_false] at hn
                  have hc := Nat.zero_add 0
                  repeat' (first | simp only [hc, AS, SX, l2, e2, c2, nn, w3, g5, d1', d2', d3', d4', ZZ, simprocAttr, ↓reduceIte] | ((first | apply Za | apply Zb | apply Zc | apply Zd | apply Ze | apply Zf | apply Zg | apply Zh) <;> intro hc) | refine Zi ?_ | refine Zj ?_)
                  exact lp_next (j + 1) (Wk.cutk (k := 2) (by simp) (by simp) (by simp) (by simp [subT, look, hn]) (by simp [AV.low, V.low, C1.low]) (by simp [Ob.low, C1.low])) (by omega) (by omega)
                have d4' := eq_false d4
                rw [decide_eq_false d4, Bool.not_false, Bool.and_true] at hn
                have hc := Nat.zero_add 0
                repeat' (first | simp only [hc, AS, SX, l2, e2, c2, nn, w3, g5, d1', d2', d3', d4', ZZ, simprocAttr, ↓reduceIte] | ((first | apply Za | apply Zb | apply Zc | apply Zd | apply Ze | apply Zf | apply Zg | apply Zh) <;> intro hc) | refine Zi ?_ | refine Zj ?_)
                exact lp_next (j + 1) (Wk.cutk (k := 2) (by simp) (by simp) (by simp) (by simp [subT, look, hn]) (by simp [AV.low, V.low, C1.low]) (by simp [Ob.low, C1.low])) (by omega) (by omega)
              have d3' := eq_false d3
              rw [decide_eq_false d3, Bool.false_and, Bool.not_false, Bool.and_true] at hn
              have hc := Nat.zero_add 0
              repeat' (first | simp only [hc, AS, SX, l2, e2, c2, nn, w3, g5, d1', d2', d3', ZZ, simprocAttr, ↓reduceIte] | ((first | apply Za | apply Zb | apply Zc | apply Zd | apply Ze | apply Zf | apply Zg | apply Zh) <;> intro hc) | refine Zi ?_ | refine Zj ?_)
              exact lp_next (j + 1) (Wk.cutk (k := 2) (by simp) (by simp) (by simp) (by simp [subT, look, hn]) (by simp [AV.low, V.low, C1.low]) (by simp [Ob.low, C1.low])) (by omega) (by omega)
            have d2' : (x3 == s.plate) = false := by simpa using d2
            rw [decide_eq_false d2, Bool.false_and, Bool.not_false, Bool.and_true] at hn
            have hc := Nat.zero_add 0
            repeat' (first | simp only [hc, AS, SX, l2, e2, c2, nn, w3, g5, d1', d2', ZZ, simprocAttr, ↓reduceIte] | ((first | apply Za | apply Zb | apply Zc | apply Zd | apply Ze | apply Zf | apply Zg | apply Zh) <;> intro hc) | refine Zi ?_ | refine Zj ?_)
            exact lp_next (j + 1) (Wk.cutk (k := 2) (by simp) (by simp) (by simp) (by simp [subT, look, hn]) (by simp [AV.low, V.low, C1.low]) (by simp [Ob.low, C1.low])) (by omega) (by omega)
          have d1' : (x2 == s.zone) = false := by simpa using d1
          rw [decide_eq_false d1, Bool.false_and, Bool.not_false, Bool.and_true] at hn
          have hc := Nat.zero_add 0
          repeat' (first | simp only [hc, AS, SX, l2, e2, c2, nn, w3, g5, d1', ZZ, simprocAttr, ↓reduceIte] | ((first | apply Za | apply Zb | apply Zc | apply Zd | apply Ze | apply Zf | apply Zg | apply Zh) <;> intro hc) | refine Zi ?_ | refine Zj ?_)
          exact lp_next (j + 1) (Wk.cutk (k := 2) (by simp) (by simp) (by simp) (by simp [subT, look, hn]) (by simp [AV.low, V.low, C1.low]) (by simp [Ob.low, C1.low])) (by omega) (by omega)
        have c2 : ((j : Int) < (W.length : Int)) = False := eq_false (by omega)
        have hjW : j = W.length := by omega
        subst hjW
        rw [← hK0]
        clear hHs hK0
        have hc := Nat.zero_add 0
        repeat' (first | simp only [hc, AS, SX, l2, c2, ZZ, simprocAttr, ↓reduceIte] | ((first | apply Za | apply Zb | apply Zc | apply Zd | apply Ze | apply Zf | apply Zg | apply Zh) <;> intro hc) | refine Zi ?_ | refine Zj ?_)
        refine awpS_loop (σ := Nat) (fun j => j ≤ ps.length)
          (fun j => ⟨[(21, AV.i j), (18, AV.b (K j)), (15, AV.i tm), (14, .v (.c (.ptr 0 0))), (13, AV.i i), (11, AV.d (.sl false (L.map Sty.row))), (9, AV.d (.sl false (W.map Ses.row))), (0, AV.d (.sl f (zs.map Zon.row))), (1, AV.d (.sl g (ps.map Pmt.row))), (3, AV.i t)],
            [.box [.d (.str s.id), .d (.str s.zone), .d (.str s.plate), .d (.int .i64 s.v.1), .d (.int .i64 s.v.2)], .box [.d (.str z.name), .d (.sl z.hrs.isEmpty (z.hrs.map Win.row)), .d (.sl z.sts.isEmpty (z.sts.map Stf.row)), .d (.int .i64 z.grace), .d (.int .i64 z.free), .d (.int .i64 z.dmax), .d (.int .i64 z.stay)]]⟩)
          (fun j => ps.length - j) 0 (Wk.sub' (by simp [subT, look]) rfl) (Nat.zero_le _) ?_
        intro j hj
        by_cases hjl : j < ps.length
        · have e2 := pm_at hjl
          have c3 : ((j : Int) < (ps.length : Int)) = True := eq_true (by omega)
          have w3 := wI (n := (j : Int) + 1) (by omega) (by omega)
          have hpk := hT.pm.2 ps[j] (List.getElem_mem hjl)
          have g5 := @pvalid_at ps[j] s.plate tm hpk.1 (by omega) hsok.2.2.2
          have hn := hKs j hjl
          rw [cvP] at hn
          generalize validP ps[j] s.plate tm = v at *
          generalize ps[j] = x at *
          obtain ⟨x1, x2, x3, x4, x5, x6, x7, x8⟩ := x
          dsimp only at hn e2
          simp only [Pmt.row] at g5
          by_cases d1 : x2 = s.zone
          · have d1' : (x2 == s.zone) = true := by simpa using d1
            rw [decide_eq_true d1, Bool.true_and] at hn
            cases v
            · rw [Bool.not_false, Bool.and_true] at hn
              have hc := Nat.zero_add 0
              repeat' (first | simp only [hc, AS, SX, l3, e2, c3, nn, w3, g5, d1', ZZ, simprocAttr, ↓reduceIte] | ((first | apply Za | apply Zb | apply Zc | apply Zd | apply Ze | apply Zf | apply Zg | apply Zh) <;> intro hc) | refine Zi ?_ | refine Zj ?_)
              exact lp_next (j + 1) (Wk.sub' (by simp [subT, look, hn]) rfl) (by omega) (by omega)
            rw [Bool.not_true, Bool.and_false] at hn
            have hc := Nat.zero_add 0
            repeat' (first | simp only [hc, AS, SX, l3, e2, c3, nn, w3, g5, d1', ZZ, simprocAttr, ↓reduceIte] | ((first | apply Za | apply Zb | apply Zc | apply Zd | apply Ze | apply Zf | apply Zg | apply Zh) <;> intro hc) | refine Zi ?_ | refine Zj ?_)
            exact lp_next (j + 1) (Wk.sub' (by simp [subT, look, hn]) rfl) (by omega) (by omega)
          have d1' : (x2 == s.zone) = false := by simpa using d1
          rw [decide_eq_false d1, Bool.false_and, Bool.not_false, Bool.and_true] at hn
          have hc := Nat.zero_add 0
          repeat' (first | simp only [hc, AS, SX, l3, e2, c3, nn, w3, g5, d1', ZZ, simprocAttr, ↓reduceIte] | ((first | apply Za | apply Zb | apply Zc | apply Zd | apply Ze | apply Zf | apply Zg | apply Zh) <;> intro hc) | refine Zi ?_ | refine Zj ?_)
          exact lp_next (j + 1) (Wk.sub' (by simp [subT, look, hn]) rfl) (by omega) (by omega)
        have c3 : ((j : Int) < (ps.length : Int)) = False := eq_false (by omega)
        have hjP : j = ps.length := by omega
        subst hjP
        rw [hKn]
        clear hKs hKn
        cases D2
        · skip
          have hc := Nat.zero_add 0
          repeat' (first | simp only [hc, AS, SX, l3, c3, f7, f8, w1, bne, ZZ, simprocAttr, ↓reduceIte] | ((first | apply Za | apply Zb | apply Zc | apply Zd | apply Ze | apply Zf | apply Zg | apply Zh) <;> intro hc) | refine Zi ?_ | refine Zj ?_)
          exact lp_next (i + 1) (Wk.cutk (k := 0) (by simp) (by simp) (by simp) (by simp [subT, look]) (by simp [AV.low, V.low, C1.low]) (by simp [Ob.low, C1.low])) (by omega) (by omega)
        · skip
          have hc := Nat.zero_add 0
          repeat' (first | simp only [hc, AS, SX, l3, c3, f7, f8, w1, bne, ZZ, simprocAttr, ↓reduceIte] | ((first | apply Za | apply Zb | apply Zc | apply Zd | apply Ze | apply Zf | apply Zg | apply Zh) <;> intro hc) | refine Zi ?_ | refine Zj ?_)
          exact lp_next (i + 1) (Wk.cutk (k := 0) (by simp) (by simp) (by simp) (by simp [subT, look]) (by simp [AV.low, V.low, C1.low]) (by simp [Ob.low, C1.low])) (by omega) (by omega)
    have c1 : ((i : Int) < (L.length : Int)) = False := eq_false (by omega)
    have hc := Nat.zero_add 0
    repeat' (first | simp only [hc, AS, SX, l1, c1, e0, ZZ, simprocAttr, ↓reduceIte] | ((first | apply Za | apply Zb | apply Zc | apply Zd | apply Ze | apply Zf | apply Zg | apply Zh) <;> intro hc) | refine Zi ?_ | refine Zj ?_)
    all_goals simp [DV.b]
  cases h
end
end Go.Ab
