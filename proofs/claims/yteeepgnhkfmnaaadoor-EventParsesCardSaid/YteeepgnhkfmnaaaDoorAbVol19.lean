/-
  Texts of the layer and of the laws, put together: AbS1. No law is stated here.
-/
import Derived.Test.YteeepgnhkfmnaaaDoorAbVol12
import Derived.Test.YteeepgnhkfmnaaaDoorAbVol17
import Derived.Test.YteeepgnhkfmnaaaDoorAbVol18
import Derived.Sort.Grow
import Derived.WalkSmall
import Derived.Lib.Split
set_option linter.unusedSimpArgs false
set_option linter.unusedVariables false
set_option maxRecDepth 100000

/-
  Functions of Go's library, as plain functions of their arguments: what the shelf's contracts give.
-/
namespace Go.Ab
open Go.RowKit

/-! ### Readings of strings -/

theorem rd_str {w : World} {F : Fz} {v : Value} {s : List UInt8} (h : Rd w F v (.str s)) : ∃ b : ByteArray, v = .string b ∧ b.data.toList = s := by
  cases h
  exact ⟨_, rfl, rfl⟩
theorem rd_int {w : World} {F : Fz} {v : Value} {k : IntKind} {n : Int} (h : Rd w F v (.int k n)) : v = .int k n := by
  cases h; rfl
theorem str_rd {w : World} {F : Fz} (l : List UInt8) : Rd w F (.string ⟨l.toArray⟩) (.str l) := by
  have := Rd.str (w := w) (F := F) ⟨l.toArray⟩
  simpa using this
theorem two_args {vs : Array Value} (h : vs.size = 2) : vs = #[vs.getD 0 undef, vs.getD 1 undef] := by
  apply Array.ext
  · simpa using h
  · intro i h1 h2
    match i, h2 with
    | 0, _ => simp [Array.getD, h]
    | 1, _ => simp [Array.getD, h]
theorem one_arg {vs : Array Value} (h : vs.size = 1) : vs = #[vs.getD 0 undef] := by
  apply Array.ext
  · simpa using h
  · intro i h1 h2
    match i, h2 with
    | 0, _ => simp [Array.getD, h]

abbrev EntersA (P : Program) (f : FuncId) : Prop := ∀ (vs : Array Value) (w : World), (callFunc f vs).run P w = .ok (.enter f vs) w

section
variable {P : Program} {G : Gl} {f : FuncId}

/-- Two strings to a string. -/
theorem pure_ss_s (he : EntersA P f) (c : List UInt8 → List UInt8 → Bool) (g : List UInt8 → List UInt8 → List UInt8)
    (h : ∀ (s p : ByteArray) (w : World), c s.data.toList p.data.toList = true → Calls P f #[.string s, .string p] w fun e w' => e = .returned (.string ⟨(g s.data.toList p.data.toList).toArray⟩) ∧ w' = w) :
    PureC P G f (mss fun a b => if c a b = true then some [.c (.str (g a b))] else none) := by
  refine ⟨he, fun w F vs args r hlt hG hvs hrel hm => ?_⟩
  obtain ⟨a, b, rfl, hg⟩ := mss_inv hm
  split at hg
  · rename_i hc
    cases hg
    obtain ⟨s, h1, rfl⟩ := rd_str (hrel 0 _ rfl)
    obtain ⟨p, h2, rfl⟩ := rd_str (hrel 1 _ rfl)
    rw [two_args hvs, h1, h2]
    refine (h s p w hc).mono fun e w' ⟨he, hw⟩ => ?_
    subst hw
    exact ⟨_, he, str_rd _, Below.refl _ _, fun _ => Nat.le_refl _⟩
  · cases hg

/-- A string and a byte to a number. -/
theorem pure_sb_i (he : EntersA P f) (g : List UInt8 → Int → Int)
    (h : ∀ (s : ByteArray) (n : Int) (w : World), Calls P f #[.string s, .int .u8 n] w fun e w' => e = .returned (.int .i64 (g s.data.toList n)) ∧ w' = w) :
    PureC P G f (msb fun a n => some [.c (.int .i64 (g a n))]) := by
  refine ⟨he, fun w F vs args r hlt hG hvs hrel hm => ?_⟩
  obtain ⟨a, b, rfl, hg⟩ := msb_inv hm
  cases hg
  obtain ⟨s, h1, rfl⟩ := rd_str (hrel 0 _ rfl)
  have h2 := rd_int (hrel 1 _ rfl)
  rw [two_args hvs, h1, h2]
  refine (h s b w).mono fun e w' ⟨he, hw⟩ => ?_
  subst hw
  exact ⟨_, he, .int _ _, Below.refl _ _, fun _ => Nat.le_refl _⟩

theorem below_grow (w : World) (n : Nat) (os : Array Obj) : Below w.heap.size w (Sort.grow (w.drewN n) os) :=
  ⟨rfl, rfl, rfl, by show w.heap.size ≤ (w.heap ++ os).size; rw [Array.size_append]; omega, fun _ hj => Sort.heap_grow_old (w.drewN n) os hj⟩

/-- A number to a string, with new blocks and draws. -/
theorem pure_i_s (he : EntersA P f) (g : Int → List UInt8) (c : Int → Bool)
    (h : ∀ (n : Int) (w : World), G.inv w → c n = true → Calls P f #[.int .i64 n] w fun e w' => e = .returned (.string ⟨(g n).toArray⟩) ∧ Below w.heap.size w w') (hdr : G.dr = false := by rfl) :
    PureC P G f (m1 fun n => if c n = true then some [.c (.str (g n))] else none) := by
  refine ⟨he, fun w F vs args r hlt hG hvs hrel hm => ?_⟩
  obtain ⟨a, rfl, hg⟩ := m1_inv hm
  split at hg
  · rename_i hc
    cases hg
    have h2 := rd_int (hrel 0 _ rfl)
    rw [one_arg hvs, h2]
    refine (h a w hG.2 hc).mono fun e w' ⟨he, hw⟩ => ?_
    exact ⟨_, he, str_rd _, hw, fun h => by rw [hdr] at h; cases h⟩
  · cases hg

/-- A string cut: new memory that holds the pieces. -/
theorem pure_split (he : EntersA P f) (c : List UInt8 → List UInt8 → Bool) (g : List UInt8 → List UInt8 → List (List UInt8))
    (h : ∀ (s p : ByteArray) (w : World), G.inv w → c s.data.toList p.data.toList = true → Calls P f #[.string s, .string p] w fun e w' =>
      ∃ (ps : List ByteArray) (T : TypeId), ps.map (·.data.toList) = g s.data.toList p.data.toList ∧ e = .returned (.slice (some ⟨w.heap.size, 0, none⟩) ps.length ps.length) ∧ w' = w.alloc (.cells (ps.map Value.string).toArray T)) :
    PureC P G f (mss fun a b => if c a b = true then some [.c (.sl true ((g a b).map rowS))] else none) := by
  refine ⟨he, fun w F vs args r hlt hG hvs hrel hm => ?_⟩
  obtain ⟨a, b, rfl, hg⟩ := mss_inv hm
  split at hg
  · rename_i hc
    cases hg
    obtain ⟨s, h1, rfl⟩ := rd_str (hrel 0 _ rfl)
    obtain ⟨p, h2, rfl⟩ := rd_str (hrel 1 _ rfl)
    rw [two_args hvs, h1, h2]
    refine (h s p w hG.2 hc).mono fun e w' ⟨ps, T, hps, he, hw⟩ => ?_
    subst hw
    have hb : (w.alloc (.cells (ps.map Value.string).toArray T)).heap[w.heap.size]? = some (.cells (ps.map Value.string).toArray T) := by
      show (w.heap.push _)[w.heap.size]? = _
      simp
    refine ⟨_, he, ?_, (Below.refl _ _).alloc (Nat.le_refl _) _, fun _ => Nat.le_refl _⟩
    have hcell : ∀ i x, ps[i]? = some x → (w.alloc (.cells (ps.map Value.string).toArray T)).cell? ⟨w.heap.size, i, none⟩ = some (.string x) := fun i x hx => by
      simp only [World.cell?, hb, Option.isSome_none, Bool.false_eq_true, if_false]
      simp [hx]
    show Rd _ _ _ (.sl true ((g s.data.toList p.data.toList).map rowS))
    rw [← hps]
    refine .sl w.heap.size 0 ps.length ps.length 1 true _ (fun i j => .string (ps.getD i ByteArray.empty)) (by simp) (Nat.le_refl _) (fun _ => rfl) (fun e he => ?_) (fun i j hi hj => .inr ⟨Nat.le_refl _, ?_⟩) (fun i j hi hj => ?_) (fun i j _ _ => rfl) (fun i j e y hi hj => ?_)
    · simp only [List.map_map, List.mem_map] at he
      obtain ⟨x, _, rfl⟩ := he
      rfl
    · show w.heap.size < (w.heap.push _).size
      simp
    · have : j = 0 := by omega
      subst this
      have hx : ps[i]? = some ps[i] := List.getElem?_eq_getElem hi
      have := hcell i _ hx
      simp [List.getD_eq_getElem?_getD, hx]
    · simp only [List.map_map, List.getElem?_map, Option.map_eq_some_iff] at hi
      obtain ⟨x, hx, rfl⟩ := hi
      cases j with
      | zero =>
        simp [rowS] at hj
        subst hj
        rw [List.getD_eq_getElem?_getD, hx]
        exact .str x
      | succ j => simp [rowS] at hj
  · cases hg

/-- Strings joined. -/
theorem pure_join (he : EntersA P f) (g : List (List UInt8) → List UInt8 → List UInt8) (c : List (List UInt8) → List UInt8 → Bool)
    (h0 : ∀ (a : Option Addr) (cap : Nat) (p : ByteArray) (w : World), c [] p.data.toList = true → Calls P f #[.slice a 0 cap, .string p] w fun e w' => e = .returned (.string ⟨(g [] p.data.toList).toArray⟩) ∧ Below w.heap.size w w')
    (h : ∀ (b o cap : Nat) (xs : List ByteArray) (p : ByteArray) (w : World), c (xs.map (·.data.toList)) p.data.toList = true → (∀ (j : Nat) x, xs[j]? = some x → w.cell? ⟨b, o + j, none⟩ = some (.string x)) → b < w.heap.size → xs.length ≤ cap →
      Calls P f #[.slice (some ⟨b, o, none⟩) xs.length cap, .string p] w fun e w' => e = .returned (.string ⟨(g (xs.map (·.data.toList)) p.data.toList).toArray⟩) ∧ Below w.heap.size w w') (hdr : G.dr = false := by rfl) :
    PureC P G f (mls fun l p => if c l p = true then some [.c (.str (g l p))] else none) := by
  refine ⟨he, fun w F vs args r hlt hG hvs hrel hm => ?_⟩
  obtain ⟨fl, l, b, rfl, hg⟩ := mls_inv hm
  split at hg
  · rename_i hc
    cases hg
    have hs : Rd w F (vs.getD 0 undef) (.sl fl (l.map rowS)) := hrel 0 _ rfl
    obtain ⟨p, h2, rfl⟩ := rd_str (hrel 1 _ rfl)
    rw [two_args hvs, h2]
    rcases sl_cases hs with ⟨base, h1, hl⟩ | ⟨bk, o, cap, size, vals, h1, hcap, hfull, hsize, hF, hcl, h1', hr⟩
    · have : l = [] := by simpa using hl
      subst this
      rw [h1]
      refine (h0 base 0 p w hc).mono fun e w' ⟨he, hw⟩ => ⟨_, he, str_rd _, hw, fun h => by rw [hdr] at h; cases h⟩
    · rw [h1]
      by_cases hln : l = []
      · subst hln
        refine (h0 _ cap p w hc).mono fun e w' ⟨he, hw⟩ => ⟨_, he, str_rd _, hw, fun h => by rw [hdr] at h; cases h⟩
      · simp only [List.length_map] at hcap hF hcl h1' hr ⊢
        have hpos : 0 < l.length := List.length_pos_iff.2 hln
        have hs1 : size = 1 := by
          rw [← hsize (rowS l[0]) (List.mem_map_of_mem (List.getElem_mem _))]; rfl
        subst hs1
        have hall : ∀ i, ∃ x : ByteArray, i < l.length → vals i 0 = .string x ∧ l[i]? = some x.data.toList := fun i => by
          by_cases hi : i < l.length
          · obtain ⟨x, h3, h4⟩ := rd_str (hr i 0 (rowS l[i]) (.str l[i]) (by simp [hi]) rfl)
            exact ⟨x, fun _ => ⟨h3, by rw [h4]; exact List.getElem?_eq_getElem hi⟩⟩
          · exact ⟨ByteArray.empty, fun h => absurd h hi⟩
        obtain ⟨q, hq⟩ := Classical.axiomOfChoice hall
        let xs : List ByteArray := (List.range l.length).map q
        have hxl : xs.length = l.length := by simp [xs]
        have hxd : xs.map (·.data.toList) = l := by
          apply List.ext_getElem?
          intro i
          by_cases hi : i < l.length
          · have := (hq i hi).2
            rw [this]
            simp [xs, hi]
          · rw [List.getElem?_eq_none (by simp [xs]; omega), List.getElem?_eq_none (by omega)]
        have hcells : ∀ (j : Nat) x, xs[j]? = some x → w.cell? ⟨bk, o + j, none⟩ = some (.string x) := fun j x hj => by
          have hjl := lt_of_get hj
          rw [hxl] at hjl
          have hx : x = q j := by simp [xs, hjl] at hj; exact hj.symm
          rw [hx, ← (hq j hjl).1]
          have := hcl j 0 hjl (by omega)
          simpa using this
        have hb : bk < w.heap.size := hlt _ _ (hF 0 0 hpos (by omega))
        have := h bk o cap xs p w (by rw [hxd]; exact hc) hcells hb (by omega)
        rw [hxl, hxd] at this
        exact this.mono fun e w' ⟨he, hw⟩ => ⟨_, he, str_rd _, hw, fun h => by rw [hdr] at h; cases h⟩
  · cases hg

end
end Go.Ab
