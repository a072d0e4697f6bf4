/-
  Texts of the layer and of the laws, put together: AbM, AbX2, AbX4, AbS1, AbG.
-/
import Derived.Test.YtdoofgbeajkpaaaGreatDoorAbWP8
import Derived.Lib.SplitLaws
import Derived.Lib.IndexBytes
import Derived.Lib.ItoaNum
import Derived.Lib.Strings
import Derived.Lib.Join
import Derived.Laws.RangeAny
import Derived.Laws.BitsLemmas
import Derived.Test.YtdoofgbeajkpaaaGreatDoorAbWP10
import Derived.Sort.Grow
import Derived.WalkSmall
import Derived.Lib.Split
import Derived.Test.YtdoofgbeajkpaaaGreatDoorRows
import Derived.Lib.LaidTab
import Derived.Shelf.Strconv.Itoa3
set_option linter.unusedSimpArgs false
set_option linter.unusedVariables false
set_option maxRecDepth 100000
namespace Go.Ab
abbrev DV.i (n : Int) : PA := .c (.int .i64 n)
abbrev DV.b (b : Bool) : PA := .c (.bool b)
def ms (g : List UInt8 → Option (List PA)) : List PA → Option (List PA)
  | [.c (.str a)] => g a
  | _ => none
theorem ms_inv {g : List UInt8 → Option (List PA)} {args r : List PA} (h : ms g args = some r) : ∃ a, args = [.c (.str a)] ∧ g a = some r := by
  unfold ms at h
  split at h
  · exact ⟨_, rfl, h⟩
  cases h
theorem ms_eq {g : List UInt8 → Option (List PA)} {a : List UInt8} : ms g [.c (.str a)] = g a := rfl
def mss (g : List UInt8 → List UInt8 → Option (List PA)) : List PA → Option (List PA)
  | [.c (.str a), .c (.str b)] => g a b
  | _ => none
theorem mss_inv {g : List UInt8 → List UInt8 → Option (List PA)} {args r : List PA} (h : mss g args = some r) : ∃ a b, args = [.c (.str a), .c (.str b)] ∧ g a b = some r := by
  unfold mss at h
  split at h
  · exact ⟨_, _, rfl, h⟩
  cases h
def m1 (g : Int → Option (List PA)) : List PA → Option (List PA)
  | [.c (.int .i64 a)] => g a
  | _ => none
theorem m1_inv {g : Int → Option (List PA)} {args r : List PA} (h : m1 g args = some r) : ∃ a, args = [.c (.int .i64 a)] ∧ g a = some r := by
  unfold m1 at h
  split at h
  · exact ⟨_, rfl, h⟩
  cases h
theorem m1_eq {g : Int → Option (List PA)} {a : Int} : m1 g [.c (.int .i64 a)] = g a := rfl
def m0 (v : Option (List PA)) : List PA → Option (List PA)
  | [] => v
  | _ => none
theorem m0_inv {v : Option (List PA)} {args r : List PA} (h : m0 v args = some r) : args = [] ∧ v = some r := by
  unfold m0 at h
  split at h
  · exact ⟨rfl, h⟩
  cases h
def rowS (s : List UInt8) : List D := [.str s]
def decS1 : List D → Option (List UInt8)
  | [.str a] => some a
  | _ => none
def decS (es : List (List D)) : Option (List (List UInt8)) := es.mapM decS1
theorem decS1_inv {e : List D} {p : List UInt8} (h : decS1 e = some p) : e = rowS p := by
  unfold decS1 at h
  split at h
  · cases h; rfl
  cases h
theorem decS_inv : ∀ {es : List (List D)} {l : List (List UInt8)}, decS es = some l → es = l.map rowS
  | [], l, h => by simp [decS] at h; subst h; rfl
  | e :: es, l, h => by
    simp only [decS, List.mapM_cons, Option.bind_eq_bind, Option.bind_eq_some_iff, Option.pure_def, Option.some.injEq] at h
    obtain ⟨p, hp, ps, hps, rfl⟩ := h
    rw [decS1_inv hp, decS_inv (es := es) hps]
    rfl
theorem decS_map : ∀ (l : List (List UInt8)), decS (l.map rowS) = some l
  | [] => rfl
  | p :: l => by
    have := decS_map l
    simp only [decS] at this
    simp [decS, decS1, rowS, this]
def mls (g : List (List UInt8) → List UInt8 → Option (List PA)) : List PA → Option (List PA)
  | [.c (.sl _ es), .c (.str b)] => (decS es).bind fun l => g l b
  | _ => none
theorem mls_inv {g : List (List UInt8) → List UInt8 → Option (List PA)} {args r : List PA} (h : mls g args = some r) : ∃ f l b, args = [.c (.sl f (l.map rowS)), .c (.str b)] ∧ g l b = some r := by
  unfold mls at h
  split at h
  · simp only [Option.bind_eq_some_iff] at h
    obtain ⟨l, hl, h⟩ := h
    exact ⟨_, l, _, by rw [decS_inv hl], h⟩
  cases h
theorem mls_eq {g : List (List UInt8) → List UInt8 → Option (List PA)} {f : Bool} {l : List (List UInt8)} {b : List UInt8} : mls g [.c (.sl f (l.map rowS)), .c (.str b)] = g l b := by
  simp only [mls, decS_map, Option.bind_some]
abbrev W (n : Int) : Int := IntKind.i64.wrap n
def m2 (g : Int → Int → Option (List PA)) : List PA → Option (List PA)
  | [.c (.int .i64 a), .c (.int .i64 b)] => g a b
  | _ => none
theorem m2_inv {g : Int → Int → Option (List PA)} {args r : List PA} (h : m2 g args = some r) : ∃ a b, args = [.c (.int .i64 a), .c (.int .i64 b)] ∧ g a b = some r := by
  unfold m2 at h
  split at h
  · exact ⟨_, _, rfl, h⟩
  cases h
def m3 (g : Int → Int → Int → Option (List PA)) : List PA → Option (List PA)
  | [.c (.int .i64 a), .c (.int .i64 b), .c (.int .i64 c)] => g a b c
  | _ => none
theorem m3_inv {g : Int → Int → Int → Option (List PA)} {args r : List PA} (h : m3 g args = some r) : ∃ a b c, args = [.c (.int .i64 a), .c (.int .i64 b), .c (.int .i64 c)] ∧ g a b c = some r := by
  unfold m3 at h
  split at h
  · exact ⟨_, _, _, rfl, h⟩
  cases h
theorem mEq : (∀ (g : Int → Option (List PA)) (a : Int), m1 g [.c (.int .i64 a)] = g a) ∧ (∀ (g : Int → Int → Option (List PA)) (a b : Int), m2 g [.c (.int .i64 a), .c (.int .i64 b)] = g a b) ∧
    (∀ (g : Int → Int → Int → Option (List PA)) (a b c : Int), m3 g [.c (.int .i64 a), .c (.int .i64 b), .c (.int .i64 c)] = g a b c) ∧ ∀ (v : Option (List PA)), m0 v [] = v := ⟨fun _ _ => rfl, fun _ _ _ => rfl, fun _ _ _ _ => rfl, fun _ => rfl⟩
end Go.Ab
namespace Go.Ab
def isDig (c : UInt8) : Bool := decide (48 ≤ c.toNat) && decide (c.toNat ≤ 57)
theorem dec_small {u : Nat} (h : u < 10) : Lib.decDigits u = [UInt8.ofNat (48 + u)] := by rw [Lib.decDigits]; simp [h]
theorem dec_big {u : Nat} (h : ¬ u < 10) : Lib.decDigits u = Lib.decDigits (u / 10) ++ [UInt8.ofNat (48 + u % 10)] := by rw [Lib.decDigits]; simp [h]
theorem itoa_spec (n : Int) : Lib.itoa n = if n < 0 then 45 :: Lib.decDigits n.natAbs else Lib.decDigits n.toNat := rfl
end Go.Ab
namespace Go.Ab
theorem wU8 {n : Int} (h1 : 0 ≤ n) (h2 : n ≤ 255) : IntKind.u8.wrap n = n := by rw [IntKind.wrap_u8]; omega
theorem dec_asc {u v : List UInt8} {c : UInt8} (h : c.toNat < 128) : Utf8.decode ⟨(u ++ c :: v).toArray⟩ u.length = (c.toNat, 1) := by
  have hlt : u.length < (⟨(u ++ c :: v).toArray⟩ : ByteArray).size := by show u.length < (u ++ c :: v).toArray.size; simp
  have he : (⟨(u ++ c :: v).toArray⟩ : ByteArray)[u.length]'hlt = c := by
    show ((u ++ c :: v).toArray)[u.length]'_ = c
    simp
  rw [decode_ascii _ _ hlt (by rw [he]; exact h), he]
theorem dec_high {u v : List UInt8} {c : UInt8} (h : ¬ c.toNat < 128) : 128 ≤ (Utf8.decode ⟨(u ++ c :: v).toArray⟩ u.length).1 ∧ 1 ≤ (Utf8.decode ⟨(u ++ c :: v).toArray⟩ u.length).2 := by
  have hlt : u.length < (⟨(u ++ c :: v).toArray⟩ : ByteArray).size := by show u.length < (u ++ c :: v).toArray.size; simp
  have he : (⟨(u ++ c :: v).toArray⟩ : ByteArray)[u.length]'hlt = c := by
    show ((u ++ c :: v).toArray)[u.length]'_ = c
    simp
  exact decode_high _ _ hlt (by rw [he]; omega)
def letB (c : UInt8) : Bool := decide (97 ≤ c.toNat) && decide (c.toNat ≤ 122)
def digB (c : UInt8) : Bool := isDig c || decide (c.toNat = 45)
def nmAll : Bool → List UInt8 → Bool
  | _, [] => true
  | f, c :: r => (letB c || (!f && digB c)) && nmAll false r
def nameB (s : List UInt8) : Bool := decide (1 ≤ s.length) && decide (s.length ≤ 12) && nmAll true s
end Go.Ab
namespace Go.Ab
open Go.RowKit
theorem rd_str {w : World} {F : Fz} {v : Value} {s : List UInt8} (h : Rd w F v (.str s)) : ∃ b : ByteArray, v = .string b ∧ b.data.toList = s := by
  cases h
  exact ⟨_, rfl, rfl⟩
theorem rd_int {w : World} {F : Fz} {v : Value} {k : IntKind} {n : Int} (h : Rd w F v (.int k n)) : v = .int k n := by
  cases h; rfl
theorem str_rd {w : World} {F : Fz} (l : List UInt8) : Rd w F (.string ⟨l.toArray⟩) (.str l) := by
  have := Rd.str (w := w) (F := F) ⟨l.toArray⟩
  simpa using this
theorem two_args {vs : Array Value} (h : vs.size = 2) : vs = #[vs.getD 0 undef, vs.getD 1 undef] := by
  apply Array.ext
  · simpa using h
  intro i h1 h2
  match i, h2 with
  | 0, _ => simp [Array.getD, h]
  | 1, _ => simp [Array.getD, h]
theorem one_arg {vs : Array Value} (h : vs.size = 1) : vs = #[vs.getD 0 undef] := by
  apply Array.ext
  · simpa using h
  intro i h1 h2
  match i, h2 with
  | 0, _ => simp [Array.getD, h]
abbrev EntersA (P : Program) (f : FuncId) : Prop := ∀ (vs : Array Value) (w : World), (callFunc f vs).run P w = .ok (.enter f vs) w
section
variable {P : Program} {G : Gl} {f : FuncId}
theorem below_grow (w : World) (n : Nat) (os : Array Obj) : Below w.heap.size w (Sort.grow (w.drewN n) os) :=
  ⟨rfl, rfl, rfl, by show w.heap.size ≤ (w.heap ++ os).size; rw [Array.size_append]; omega, fun _ hj => Sort.heap_grow_old (w.drewN n) os hj⟩
theorem pure_i_s (he : EntersA P f) (g : Int → List UInt8) (c : Int → Bool)
    (h : ∀ (n : Int) (w : World), G.inv w → c n = true → Calls P f #[.int .i64 n] w fun e w' => e = .returned (.string ⟨(g n).toArray⟩) ∧ Below w.heap.size w w') (hdr : G.dr = false := by rfl) :
    PureC P G f (m1 fun n => if c n = true then some [.c (.str (g n))] else none) := by
  refine ⟨he, fun w F vs args r hlt hG hvs hrel hm => ?_⟩
  obtain ⟨a, rfl, hg⟩ := m1_inv hm
  split at hg
  · rename_i hc
    cases hg
    have h2 := rd_int (hrel 0 _ rfl)
    rw [one_arg hvs, h2]
    refine (h a w hG.2 hc).mono fun e w' ⟨he, hw⟩ => ?_
    exact ⟨_, he, str_rd _, hw, fun h => by rw [hdr] at h; cases h⟩
  cases hg
theorem pure_join (he : EntersA P f) (g : List (List UInt8) → List UInt8 → List UInt8) (c : List (List UInt8) → List UInt8 → Bool)
    (h0 : ∀ (a : Option Addr) (cap : Nat) (p : ByteArray) (w : World), c [] p.data.toList = true → Calls P f #[.slice a 0 cap, .string p] w fun e w' => e = .returned (.string ⟨(g [] p.data.toList).toArray⟩) ∧ Below w.heap.size w w')
    (h : ∀ (b o cap : Nat) (xs : List ByteArray) (p : ByteArray) (w : World), c (xs.map (·.data.toList)) p.data.toList = true → (∀ (j : Nat) x, xs[j]? = some x → w.cell? ⟨b, o + j, none⟩ = some (.string x)) → b < w.heap.size → xs.length ≤ cap →
      Calls P f #[.slice (some ⟨b, o, none⟩) xs.length cap, .string p] w fun e w' => e = .returned (.string ⟨(g (xs.map (·.data.toList)) p.data.toList).toArray⟩) ∧ Below w.heap.size w w') (hdr : G.dr = false := by rfl) :
    PureC P G f (mls fun l p => if c l p = true then some [.c (.str (g l p))] else none) := by
  refine ⟨he, fun w F vs args r hlt hG hvs hrel hm => ?_⟩
  obtain ⟨fl, l, b, rfl, hg⟩ := mls_inv hm
  split at hg
  · rename_i hc
    cases hg
    have hs : Rd w F (vs.getD 0 undef) (.sl fl (l.map rowS)) := hrel 0 _ rfl
    obtain ⟨p, h2, rfl⟩ := rd_str (hrel 1 _ rfl)
    rw [two_args hvs, h2]
    rcases sl_cases hs with ⟨base, h1, hl⟩ | ⟨bk, o, cap, size, vals, h1, hcap, hfull, hsize, hF, hcl, h1', hr⟩
    · have : l = [] := by simpa using hl
      subst this
      rw [h1]
      refine (h0 base 0 p w hc).mono fun e w' ⟨he, hw⟩ => ⟨_, he, str_rd _, hw, fun h => by rw [hdr] at h; cases h⟩
    rw [h1]
    by_cases hln : l = []
    · subst hln
      refine (h0 _ cap p w hc).mono fun e w' ⟨he, hw⟩ => ⟨_, he, str_rd _, hw, fun h => by rw [hdr] at h; cases h⟩
    simp only [List.length_map] at hcap hF hcl h1' hr ⊢
    have hpos : 0 < l.length := List.length_pos_iff.2 hln
    have hs1 : size = 1 := by
      rw [← hsize (rowS l[0]) (List.mem_map_of_mem (List.getElem_mem _))]; rfl
    subst hs1
    have hall : ∀ i, ∃ x : ByteArray, i < l.length → vals i 0 = .string x ∧ l[i]? = some x.data.toList := fun i => by
      by_cases hi : i < l.length
      · obtain ⟨x, h3, h4⟩ := rd_str (hr i 0 (rowS l[i]) (.str l[i]) (by simp [hi]) rfl)
        exact ⟨x, fun _ => ⟨h3, by rw [h4]; exact List.getElem?_eq_getElem hi⟩⟩
      exact ⟨ByteArray.empty, fun h => absurd h hi⟩
    obtain ⟨q, hq⟩ := Classical.axiomOfChoice hall
    let xs : List ByteArray := (List.range l.length).map q
    have hxl : xs.length = l.length := by simp [xs]
    have hxd : xs.map (·.data.toList) = l := by
      apply List.ext_getElem?
      intro i
      by_cases hi : i < l.length
      · have := (hq i hi).2
        rw [this]
        simp [xs, hi]
      rw [List.getElem?_eq_none (by simp [xs]; omega), List.getElem?_eq_none (by omega)]
    have hcells : ∀ (j : Nat) x, xs[j]? = some x → w.cell? ⟨bk, o + j, none⟩ = some (.string x) := fun j x hj => by
      have hjl := lt_of_get hj
      rw [hxl] at hjl
      have hx : x = q j := by simp [xs, hjl] at hj; exact hj.symm
      rw [hx, ← (hq j hjl).1]
      have := hcl j 0 hjl (by omega)
      simpa using this
    have hb : bk < w.heap.size := hlt _ _ (hF 0 0 hpos (by omega))
    have := h bk o cap xs p w (by rw [hxd]; exact hc) hcells hb (by omega)
    rw [hxl, hxd] at this
    exact this.mono fun e w' ⟨he, hw⟩ => ⟨_, he, str_rd _, hw, fun h => by rw [hdr] at h; cases h⟩
  cases hg
end
end Go.Ab
namespace Go.Ab
open Go.RowKit Go.Proofs Go.Proofs.YtdoofgbeajkpaaaGreatDoor
abbrev powName : String := ((Rows.stayChecksRow.laid.map fun x => x.1).drop 2).headD default
theorem cell_lt0 {w : World} {a : Addr} {v : Value} (h : w.cell? a = some v) : a.block < w.heap.size := by
  unfold World.cell? at h
  split at h
  · rename_i hb
    exact (Array.getElem?_eq_some_iff.1 hb).1
  cases h
theorem var_below {P : Program} {w w' : World} {n : String} {cs : Array Value} (hb : Below w.heap.size w w') (h : w.var? P n = some cs) : w'.var? P n = some cs := by
  unfold World.var? at h ⊢
  cases hg : P.globalNamed n with
  | none => rw [hg] at h; cases h
  | some g =>
    rw [hg] at h
    simp only [Option.bind_some] at h ⊢
    cases ho : w.heap[g]? with
    | none => rw [ho] at h; cases h
    | some o =>
      rw [hb.block g (Array.getElem?_eq_some_iff.1 ho).1]
      exact h
def Gt : Gl where
  f _ := none
  inv w := Lib.TabIs Tryz.prog w powName .u64 Lib.pow10Tab ∧ ∃ m : Int, w.cell? ⟨0, 0, none⟩ = some (.int .i64 m)
  stable := fun w w' hb ⟨h1, m, h2⟩ => ⟨var_below hb h1, m, by rw [hb.cell (p := ⟨0, 0, none⟩) (cell_lt0 h2)]; exact h2⟩
end Go.Ab
