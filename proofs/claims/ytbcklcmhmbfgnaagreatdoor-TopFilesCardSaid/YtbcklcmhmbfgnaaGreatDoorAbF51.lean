/-
  Texts of the layer and of the laws, put together: AbK0.
-/
import Derived.Test.YtbcklcmhmbfgnaaGreatDoorCards
import Derived.Test.YtbcklcmhmbfgnaaGreatDoorTie
import Derived.Test.YtbcklcmhmbfgnaaGreatDoorAbF12
import Derived.Test.YtbcklcmhmbfgnaaGreatDoorAbF15
import Derived.Test.YtbcklcmhmbfgnaaGreatDoorAbF50
import Derived.Test.YtbcklcmhmbfgnaaGreatDoorAbF49
import Derived.WalkKit
import Derived.ProofKit
import Derived.OpenShut
import Derived.Deep.DeepHandedRow
import Derived.Deep.DeepWitnessRowRef
import Derived.Lib.LaidTab
import Derived.Lib.LaidU8
set_option linter.unusedSimpArgs false
set_option linter.unusedVariables false
set_option maxRecDepth 100000
namespace Go.Proofs.YtbcklcmhmbfgnaaGreatDoor
open Go.ChangeShapes Go.WideShapes Go.ChangeAt Go.RowKit Go.Ab
theorem own : ownKnob Tryz.prog.godebug = none := by kernel_rfl
theorem laidOut : laidOutB Tryz.prog = true := by kernel_rfl
theorem posOk : posB Tryz.prog = true := by kernel_rfl
abbrev boolT : TypeId := 4
abbrev wordsName : String := ((Rows.topFilesRow.laid.map fun x => x.1).drop 4).headD default
theorem gTab : Tryz.prog.globalNamed powName = some 2 := by kernel_rfl
theorem gTabType : (Tryz.prog.globals[2]?).map (·.type) = some 153 := by kernel_rfl
theorem un153 : Tryz.prog.underlying 153 = some (.array 20 98) := by kernel_rfl
theorem un98 : Tryz.prog.underlying 98 = some (.int .u64) := by kernel_rfl
theorem cells153 : Tryz.prog.cellsOf 153 = 20 := by kernel_rfl
theorem cells98 : Tryz.prog.cellsOf 98 = 1 := by kernel_rfl
theorem gWords : Tryz.prog.globalNamed wordsName = some 0 := by kernel_rfl
theorem gWordsType : (Tryz.prog.globals[0]?).map (·.type) = some 71 := by kernel_rfl
theorem un71 : Tryz.prog.underlying 71 = some (.slice 9) := by kernel_rfl
theorem un9 : Tryz.prog.underlying 9 = some .string := by kernel_rfl
theorem cells9 : Tryz.prog.cellsOf 9 = 1 := by kernel_rfl
abbrev wordsData : DataW Unit := .slice (wordsL.map fun s => .lit (.string s)) []
theorem laidPow : ((Rows.topFilesRow.laid).drop 2).head? = some (powName, Lib.tabData .u64 Lib.pow10Tab) := by kernel_rfl
theorem laidWords : ((Rows.topFilesRow.laid).drop 4).head? = some (wordsName, wordsData) := by kernel_rfl
theorem mem_of {α : Type} {l : List α} {k : Nat} {a : α} (h : (l.drop k).head? = some a) : a ∈ l := List.mem_of_mem_drop (List.mem_of_mem_head? (by rw [h]; rfl))
theorem table {W : World} {l : List (String × DataW Unit)} (hm : (powName, Lib.tabData .u64 Lib.pow10Tab) ∈ l) (h : laidMet Tryz.prog l W) : Lib.TabIs Tryz.prog W powName .u64 Lib.pow10Tab := by
  obtain ⟨g, t, cs, fuel, p, h1, h2, h3, h4⟩ := Lib.laidMet.reads h hm
  obtain rfl := Option.some.inj (gTab.symm.trans h1)
  obtain rfl := Option.some.inj (gTabType.symm.trans h2)
  unfold Lib.TabIs
  rw [h3, ← Lib.cells_of_tab un153 un98 cells98 cells153 h4]
theorem str_trod {H : Type} {enc : TypeId × Value → H} {P : Program} {w : World} {held : Bool} {sp : Nat → Bool} {n : Nat} {e : TypeId} {v : Value} {y : DataW H × List MemPlace} (he : P.underlying e = some .string) (h : DataW.trod enc P w 0 sp held n e [v] = some y) : ∃ s, v = .string s ∧ y.1 = .lit (.string s.data.toList) := by
  cases n with
  | zero => simp [DataW.trod] at h
  | succ n =>
    cases v <;> simp [DataW.trod, he] at h
    rename_i s
    exact ⟨s, rfl, by rw [← h.2]⟩
theorem strs_rd {H : Type} {enc : TypeId × Value → H} {P : Program} {w : World} {F : Fz} {held : Bool} {fuel : Nat} {t e : TypeId} {cs : List Value} {ss : List (List UInt8)} {p : List MemPlace} (ht : P.underlying t = some (.slice e)) (he : P.underlying e = some .string) (hce : P.cellsOf e = 1)
    (hF : ∀ b o, b < w.heap.size → F b o) (hne : ss ≠ []) (h : DataW.trod enc P w 0 (fun _ => true) held fuel t cs = some (.slice (ss.map fun s => .lit (.string s)) [], p)) : ∃ v, cs = [v] ∧ Rd w F v (.sl true (ss.map fun s => [.str s])) := by
  cases fuel with
  | zero => simp [DataW.trod] at h
  | succ n =>
    unfold DataW.trod at h
    rw [ht] at h
    split at h
    all_goals first
      | (rename_i hd; cases hd; done)
      | skip
    all_goals try (cases h; done)
    · rename_i e' a len cap hd
      cases hd
      dsimp only at h
      split at h
      · rename_i hcond
        obtain ⟨_, hlc, hcm⟩ := hcond
        simp only [Option.bind_eq_some_iff, Option.map_eq_some_iff, Prod.mk.injEq, DataW.slice.injEq] at h
        obtain ⟨elems, hel, rest, hre, ⟨he1, he2⟩, _⟩ := h
        obtain ⟨hlen, hget⟩ := mapM_get hel
        simp only [if_true] at hre
        obtain ⟨hrl, _⟩ := mapM_get hre
        simp only [List.length_range] at hlen hrl
        have hr0 : rest.length = 0 := by simpa using congrArg List.length he2
        have hcl : cap = len := by omega
        have hel2 : elems.length = ss.length := by simpa using congrArg List.length he1
        have hsl : 0 < ss.length := List.length_pos_iff.2 hne
        have hcell : ∀ i, i < len → ∃ s : ByteArray, w.cell? (a.add i) = some (.string s) ∧ ss[i]? = some s.data.toList := fun i hi => by
          obtain ⟨y, hy, hc⟩ := hget i i (by rw [List.getElem?_range hi])
          simp only [Option.bind_eq_some_iff] at hc
          obtain ⟨cl, hcl2, hc⟩ := hc
          rw [hce, Nat.mul_one] at hcl2
          obtain ⟨hcll, hcg⟩ := cells_get hcl2
          have h0 := hcg 0 (by omega)
          have hy1 : (elems.map (·.1))[i]? = some y.1 := by rw [List.getElem?_map, hy]; rfl
          rw [he1, List.getElem?_map] at hy1
          match cl, hcll with
          | [v], _ =>
            obtain ⟨s, rfl, hs2⟩ := str_trod he hc
            refine ⟨s, by simpa [Addr.add] using h0, ?_⟩
            cases hs : ss[i]? with
            | none => simp [hs] at hy1
            | some u =>
              simp only [hs, Option.map_some, Option.some.injEq] at hy1
              rw [hs2] at hy1
              cases hy1
              rfl
        obtain ⟨s0, hs0, _⟩ := hcell 0 (by omega)
        obtain ⟨b, o, sp⟩ := a
        have hsp : sp = none := by simpa [Addr.add] using (cell_lt hs0).2
        subst hsp
        subst hcl
        refine ⟨_, rfl, .sl b o cap cap 1 true _ (fun i _ => .string ⟨((ss[i]?).getD []).toArray⟩) (by simp; omega) (Nat.le_refl _) (fun _ => rfl) (fun r hr => ?_) (fun i j hi hj => ?_) (fun i j hi hj => ?_) (fun i j _ _ => rfl) (fun i j r y hr hy => ?_)⟩
        · obtain ⟨x, _, rfl⟩ := List.mem_map.1 hr
          rfl
        · obtain ⟨s, h1, _⟩ := hcell i hi
          rw [Addr.add_lit] at h1
          exact hF _ _ (cell_lt h1).1
        · obtain ⟨s, h1, h2⟩ := hcell i hi
          have hj0 : j = 0 := by omega
          subst hj0
          rw [Addr.add_lit] at h1
          rw [h2, Nat.mul_one]
          exact h1
        rw [List.getElem?_map] at hr
        cases hs : ss[i]? with
        | none => simp [hs] at hr
        | some u =>
          simp [hs] at hr
          subst hr
          cases j with
          | zero =>
            simp at hy
            subst hy
            exact str_rd u
          | succ j => simp at hy
      cases h
theorem gokL {W : World} {l : List (String × DataW Unit)} (hm1 : (powName, Lib.tabData .u64 Lib.pow10Tab) ∈ l) (hm2 : (wordsName, wordsData) ∈ l) (h : laidMet Tryz.prog l W) (hsh : W.ShapedOpen Tryz.prog) : GOk Gt W (fun b _ => b < W.heap.size) := by
  refine ⟨fun g xs hg => ?_, table hm1 h, Tryz.laysM146.s1_3 W hsh⟩
  match g, hg with
  | 0, hg =>
    cases hg
    obtain ⟨g, t, cs, fuel, p, h1, h2, h3, h4⟩ := Lib.laidMet.reads h hm2
    obtain rfl := Option.some.inj (gWords.symm.trans h1)
    obtain rfl := Option.some.inj (gWordsType.symm.trans h2)
    obtain ⟨v, hv, hr⟩ := strs_rd (F := fun b _ => b < W.heap.size) un71 un9 cells9 (fun _ _ h => h) (by decide) h4
    have hcell : W.cell? ⟨0, 0, none⟩ = some v := by
      have hcs : cs = #[v] := by rw [← Array.toList_inj, hv]
      rw [hcs] at h3
      unfold World.var? at h3
      rw [gWords] at h3
      simp only [Option.bind_some] at h3
      split at h3
      · rename_i cs' t' f' hb
        cases h3
        simp only [World.cell?, hb, Option.isSome_none, Bool.false_eq_true, if_false]
        rfl
      cases h3
    refine ⟨0, 0, rfl, fun j x hj => ?_⟩
    cases j with
    | succ j => simp at hj
    | zero =>
      simp only [List.getElem?_cons_zero, Option.some.injEq] at hj
      subst hj
      exact ⟨(cell_lt hcell).1, v, hcell, hr⟩
theorem gok {W : World} (h : laidMetH Tryz.prog Rows.topFilesRow.laid W) (hsh : W.ShapedOpen Tryz.prog) : GOk Gt W (fun b _ => b < W.heap.size) := gokL (mem_of laidPow) (mem_of laidWords) h hsh
def flat : Nat → DataW Unit → List Value
  | 0, _ => []
  | n + 1, .agg l => l.flatMap (flat n)
  | _ + 1, .lit (.int k z) => [.int k z]
  | _, _ => []
def laidCells (n : String) : Array Value := (((Rows.topFilesRow.laid.find? fun x => x.1 == n).map fun x => flat 4 x.2).getD []).toArray
def setCells (cs : Array Value) : Obj → Obj
  | .cells _ t frozen => .cells cs t frozen
  | o => o
noncomputable def heap0 (os : Os) : Array Obj := (((((World.holding Tryz.prog os ⟨#[], #[], []⟩).heap.modify 2 (setCells (laidCells "internal/strconv.uint64pow10"))).modify 3 (setCells (laidCells "math/bits.deBruijn32tab"))).modify 4 (setCells (laidCells "math/bits.deBruijn64tab"))).modify 5 (setCells (laidCells "unicode/utf8.first"))).modify 6 (setCells (laidCells "unicode/utf8.acceptRanges"))
noncomputable def laidWorld (os : Os) : World :=
  { World.holding Tryz.prog os ⟨#[], #[], []⟩ with heap := ((heap0 os).modify 0 (setCells #[.slice (some ⟨(heap0 os).size, 0, none⟩) 5 5])).push (.cells (wordsL.map fun s => Value.string ⟨s.toArray⟩).toArray 9 (0, 0)) }
section
variable {n : Nat} {xs : List D}
theorem shInt (h : shp Tryz.prog n 3 xs = true) : ∃ a, xs = [.int .i64 a] ∧ inI a = true := by
  obtain ⟨a, h, k⟩ := shp_int Tryz.underlying3 h
  refine ⟨a, h, inI_iff.2 ?_⟩
  simpa [IntKind.has, IntKind.min, IntKind.max, IntKind.bits, IntKind.signed] using k
theorem shStr (h : shp Tryz.prog n 9 xs = true) : ∃ a, xs = [.str a] := let ⟨a, h, _⟩ := shp_str Tryz.underlying9 h; ⟨a, h⟩
theorem rows_of {α : Type} {f : α → List D} {Q : α → Prop} : ∀ {es : List (List D)}, (∀ r ∈ es, ∃ c, r = f c ∧ Q c) → ∃ l : List α, es = l.map f ∧ ∀ c ∈ l, Q c
  | [], _ => ⟨[], rfl, fun c h => by cases h⟩
  | r :: es, h => by
    obtain ⟨c, rfl, hc⟩ := h r List.mem_cons_self
    obtain ⟨l, rfl, hl⟩ := rows_of (fun r hr => h r (List.mem_cons_of_mem _ hr))
    exact ⟨c :: l, rfl, fun x hx => by
      rcases List.mem_cons.1 hx with rfl | hx
      · exact hc
      · exact hl x hx⟩
theorem shRec (h : shp Tryz.prog n 52 xs = true) : ∃ c : Rec, xs = c.row ∧ True := by
  obtain ⟨m, g0⟩ := shp_struct Tryz.underlying52 h
  obtain ⟨x1, y1, rfl, h1, g1⟩ := shpL_cons g0
  obtain ⟨x2, y2, rfl, h2, g2⟩ := shpL_cons g1
  obtain ⟨x3, y3, rfl, h3, g3⟩ := shpL_cons g2
  obtain ⟨x4, y4, rfl, h4, g4⟩ := shpL_cons g3
  obtain ⟨x5, y5, rfl, h5, g5⟩ := shpL_cons g4
  obtain rfl := shpL_nil g5
  obtain ⟨a, rfl, _⟩ := shInt h1
  obtain ⟨b, rfl⟩ := shStr h2
  obtain ⟨c, rfl, _⟩ := shInt h3
  obtain ⟨d, rfl, _⟩ := shInt h4
  obtain ⟨e, rfl, _⟩ := shInt h5
  exact ⟨⟨a, b, c, d, e⟩, rfl, trivial⟩
theorem shBo (h : shp Tryz.prog n 4 xs = true) : ∃ b : Bool, xs = rowBo b ∧ True := let ⟨b, h⟩ := shp_bool Tryz.underlying4 h; ⟨b, h, trivial⟩
theorem shSnd (h : shp Tryz.prog n 36 xs = true) : ∃ c : Snd, xs = c.row ∧ True := by
  obtain ⟨m, g0⟩ := shp_struct Tryz.underlying36 h
  obtain ⟨x1, y1, rfl, h1, g1⟩ := shpL_cons g0
  obtain ⟨x2, y2, rfl, h2, g2⟩ := shpL_cons g1
  obtain ⟨x3, y3, rfl, h3, g3⟩ := shpL_cons g2
  obtain rfl := shpL_nil g3
  obtain ⟨a, rfl, _⟩ := shInt h1
  obtain ⟨es, m2, e2, _, r2⟩ := shp_slice Tryz.underlying26 h2
  subst e2
  obtain ⟨l, rfl, _⟩ := rows_of (fun r hr => shRec (r2 r hr))
  obtain ⟨fs, m3, e3, _, r3⟩ := shp_slice Tryz.underlying34 h3
  subst e3
  obtain ⟨k, rfl, _⟩ := rows_of (fun r hr => shBo (r3 r hr))
  exact ⟨⟨a, false, l, false, k⟩, rfl, trivial⟩
end
theorem aSnds {p : PA} (h : ∃ n, shpA Tryz.prog n 22 p) : ∃ l : List Snd, p = .c (.sl false (l.map Snd.row)) ∧ l.length ≤ 9223372036854775807 := by
  obtain ⟨es, m, rfl, l_es, hs⟩ := arg_slice Tryz.underlying22 h
  obtain ⟨l, rfl, _⟩ := rows_of (fun r hr => shSnd (hs r hr))
  exact ⟨l, rfl, by rw [List.length_map] at l_es; exact l_es⟩
noncomputable section
open Classical
theorem ok_lFiles : ∀ args : List PA, shpArgs Tryz.prog Tryz.f3.params.toList args → lFiles_m args = some [.c (.bool true)] := fun args h => by
  rw [Tryz.params3] at h
  obtain ⟨p1, r1, rfl, h1, g1⟩ := shpArgs_cons h
  obtain ⟨l, rfl, hl⟩ := aSnds h1
  obtain rfl := shpArgs_nil g1
  have := mE_eq encSd_inj (g := fun p : Bool × List Snd => if p.2.length ≤ 9223372036854775807 then some [DV.b true] else none) (a := (false, l))
  exact this.trans (if_pos hl)
end
end Go.Proofs.YtbcklcmhmbfgnaaGreatDoor
