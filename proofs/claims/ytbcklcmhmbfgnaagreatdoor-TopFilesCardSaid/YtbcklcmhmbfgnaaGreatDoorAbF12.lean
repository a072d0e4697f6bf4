/-
  Texts of the layer and of the laws, put together: AbM, AbX1, AbX2, AbX3, AbX4, AbG.
-/
import Derived.Test.YtbcklcmhmbfgnaaGreatDoorAbF8
import Derived.Lib.SplitLaws
import Derived.Lib.IndexBytes
import Derived.Lib.ItoaNum
import Derived.Lib.Strings
import Derived.Lib.Join
import Derived.Laws.RangeAny
import Derived.Laws.BitsLemmas
import Derived.Test.YtbcklcmhmbfgnaaGreatDoorAbF10
import Derived.Test.YtbcklcmhmbfgnaaGreatDoorRows
import Derived.Lib.LaidTab
import Derived.Shelf.Strconv.Itoa3
set_option linter.unusedSimpArgs false
set_option linter.unusedVariables false
set_option maxRecDepth 100000
namespace Go.Ab
abbrev DV.i (n : Int) : PA := .c (.int .i64 n)
abbrev DV.b (b : Bool) : PA := .c (.bool b)
abbrev DV.s (s : List UInt8) : PA := .c (.str s)
def ms (g : List UInt8 → Option (List PA)) : List PA → Option (List PA)
  | [.c (.str a)] => g a
  | _ => none
theorem ms_inv {g : List UInt8 → Option (List PA)} {args r : List PA} (h : ms g args = some r) : ∃ a, args = [.c (.str a)] ∧ g a = some r := by
  unfold ms at h
  split at h
  · exact ⟨_, rfl, h⟩
  cases h
theorem ms_eq {g : List UInt8 → Option (List PA)} {a : List UInt8} : ms g [.c (.str a)] = g a := rfl
def mss (g : List UInt8 → List UInt8 → Option (List PA)) : List PA → Option (List PA)
  | [.c (.str a), .c (.str b)] => g a b
  | _ => none
theorem mss_inv {g : List UInt8 → List UInt8 → Option (List PA)} {args r : List PA} (h : mss g args = some r) : ∃ a b, args = [.c (.str a), .c (.str b)] ∧ g a b = some r := by
  unfold mss at h
  split at h
  · exact ⟨_, _, rfl, h⟩
  cases h
theorem mss_eq {g : List UInt8 → List UInt8 → Option (List PA)} {a b : List UInt8} : mss g [.c (.str a), .c (.str b)] = g a b := rfl
def m1 (g : Int → Option (List PA)) : List PA → Option (List PA)
  | [.c (.int .i64 a)] => g a
  | _ => none
theorem m1_inv {g : Int → Option (List PA)} {args r : List PA} (h : m1 g args = some r) : ∃ a, args = [.c (.int .i64 a)] ∧ g a = some r := by
  unfold m1 at h
  split at h
  · exact ⟨_, rfl, h⟩
  cases h
theorem m1_eq {g : Int → Option (List PA)} {a : Int} : m1 g [.c (.int .i64 a)] = g a := rfl
def m0 (v : Option (List PA)) : List PA → Option (List PA)
  | [] => v
  | _ => none
theorem m0_inv {v : Option (List PA)} {args r : List PA} (h : m0 v args = some r) : args = [] ∧ v = some r := by
  unfold m0 at h
  split at h
  · exact ⟨rfl, h⟩
  cases h
def rowS (s : List UInt8) : List D := [.str s]
def decS1 : List D → Option (List UInt8)
  | [.str a] => some a
  | _ => none
def decS (es : List (List D)) : Option (List (List UInt8)) := es.mapM decS1
theorem decS1_inv {e : List D} {p : List UInt8} (h : decS1 e = some p) : e = rowS p := by
  unfold decS1 at h
  split at h
  · cases h; rfl
  cases h
theorem decS_inv : ∀ {es : List (List D)} {l : List (List UInt8)}, decS es = some l → es = l.map rowS
  | [], l, h => by simp [decS] at h; subst h; rfl
  | e :: es, l, h => by
    simp only [decS, List.mapM_cons, Option.bind_eq_bind, Option.bind_eq_some_iff, Option.pure_def, Option.some.injEq] at h
    obtain ⟨p, hp, ps, hps, rfl⟩ := h
    rw [decS1_inv hp, decS_inv (es := es) hps]
    rfl
theorem decS_map : ∀ (l : List (List UInt8)), decS (l.map rowS) = some l
  | [] => rfl
  | p :: l => by
    have := decS_map l
    simp only [decS] at this
    simp [decS, decS1, rowS, this]
def ml (g : List (List UInt8) → Option (List PA)) : List PA → Option (List PA)
  | [.c (.sl _ es)] => (decS es).bind g
  | _ => none
theorem ml_inv {g : List (List UInt8) → Option (List PA)} {args r : List PA} (h : ml g args = some r) : ∃ f l, args = [.c (.sl f (l.map rowS))] ∧ g l = some r := by
  unfold ml at h
  split at h
  · simp only [Option.bind_eq_some_iff] at h
    obtain ⟨l, hl, h⟩ := h
    exact ⟨_, l, by rw [decS_inv hl], h⟩
  cases h
theorem ml_eq {g : List (List UInt8) → Option (List PA)} {f : Bool} {l : List (List UInt8)} : ml g [.c (.sl f (l.map rowS))] = g l := by
  simp only [ml, decS_map, Option.bind_some]
def mls (g : List (List UInt8) → List UInt8 → Option (List PA)) : List PA → Option (List PA)
  | [.c (.sl _ es), .c (.str b)] => (decS es).bind fun l => g l b
  | _ => none
theorem mls_inv {g : List (List UInt8) → List UInt8 → Option (List PA)} {args r : List PA} (h : mls g args = some r) : ∃ f l b, args = [.c (.sl f (l.map rowS)), .c (.str b)] ∧ g l b = some r := by
  unfold mls at h
  split at h
  · simp only [Option.bind_eq_some_iff] at h
    obtain ⟨l, hl, h⟩ := h
    exact ⟨_, l, _, by rw [decS_inv hl], h⟩
  cases h
theorem mls_eq {g : List (List UInt8) → List UInt8 → Option (List PA)} {f : Bool} {l : List (List UInt8)} {b : List UInt8} : mls g [.c (.sl f (l.map rowS)), .c (.str b)] = g l b := by
  simp only [mls, decS_map, Option.bind_some]
abbrev W (n : Int) : Int := IntKind.i64.wrap n
def m2 (g : Int → Int → Option (List PA)) : List PA → Option (List PA)
  | [.c (.int .i64 a), .c (.int .i64 b)] => g a b
  | _ => none
def m3 (g : Int → Int → Int → Option (List PA)) : List PA → Option (List PA)
  | [.c (.int .i64 a), .c (.int .i64 b), .c (.int .i64 c)] => g a b c
  | _ => none
end Go.Ab
namespace Go.Ab
def spl (c : UInt8) : List UInt8 → List (List UInt8)
  | [] => [[]]
  | x :: r => if x = c then [] :: spl c r else match spl c r with
    | h :: t => (x :: h) :: t
    | [] => [[x]]
theorem spl_ne (c : UInt8) : ∀ l, spl c l ≠ []
  | [] => by simp [spl]
  | x :: r => by
    simp only [spl]
    split
    · simp
    split <;> simp
theorem splitK_eq (c : UInt8) : ∀ l : List UInt8, Lib.splitK [c] 0 (l.count c) l = spl c l
  | [] => rfl
  | x :: r => by
    have ih := splitK_eq c r
    by_cases hx : x = c
    · subst hx
      rw [List.count_cons_self]
      simp only [Lib.splitK, Lib.index_one, Lib.indexByte, beq_self_eq_true, if_true, spl]
      rw [← ih]
      rfl
    have hxc : (x == c) = false := by simpa using hx
    rw [List.count_cons_of_ne hx]
    simp only [spl, if_neg hx]
    by_cases hi : Lib.indexByte r c = -1
    · have hi' : Lib.indexByte (x :: r) c = -1 := by simp [Lib.indexByte, hxc, hi]
      have e1 : Lib.splitK [c] 0 (r.count c) r = [r] := by
        cases r.count c with
        | zero => rfl
        | succ k => simp [Lib.splitK, Lib.index_one, hi]
      have e2 : Lib.splitK [c] 0 (r.count c) (x :: r) = [x :: r] := by
        cases r.count c with
        | zero => rfl
        | succ k => simp [Lib.splitK, Lib.index_one, hi']
      rw [e2, ← ih, e1]
    have hge := Lib.indexByte_ge r c
    have hi' : Lib.indexByte (x :: r) c = Lib.indexByte r c + 1 := by simp [Lib.indexByte, hxc, hi]
    cases hk : r.count c with
    | zero =>
      exfalso
      rw [hk] at ih
      have hmem : c ∉ r := by rw [← List.count_eq_zero]; exact hk
      have : ∀ r : List UInt8, c ∉ r → Lib.indexByte r c = -1 := fun r => by
        induction r with
        | nil => intro _; rfl
        | cons y r ihr =>
          intro hm
          have hy : (y == c) = false := by
            simp only [List.mem_cons, not_or] at hm
            simpa using fun h : y = c => hm.1 h.symm
          simp [Lib.indexByte, hy, ihr (fun h => hm (List.mem_cons_of_mem _ h))]
      exact hi (this r hmem)
    | succ k =>
      rw [hk] at ih
      have b1 : (Lib.indexByte r c == -1) = false := by simpa using hi
      have b2 : (Lib.indexByte r c + 1 == -1) = false := by simp; omega
      simp only [Lib.splitK, Lib.index_one, hi', b1, b2, Bool.false_eq_true, if_false, List.length_singleton, Nat.add_zero] at ih ⊢
      rw [← ih, show (Lib.indexByte r c + 1).toNat = (Lib.indexByte r c).toNat + 1 by omega]
      rfl
theorem spl_append (c : UInt8) : ∀ (a b : List UInt8), c ∉ a → spl c (a ++ c :: b) = a :: spl c b
  | [], b, _ => by simp [spl]
  | x :: a, b, h => by
    have hx : x ≠ c := fun h1 => h (by rw [h1]; exact List.mem_cons_self)
    have ih := spl_append c a b (fun h1 => h (List.mem_cons_of_mem _ h1))
    simp only [List.cons_append, spl, if_neg hx, ih]
theorem spl_none (c : UInt8) : ∀ (a : List UInt8), c ∉ a → spl c a = [a]
  | [], _ => rfl
  | x :: a, h => by
    have hx : x ≠ c := fun h1 => h (by rw [h1]; exact List.mem_cons_self)
    have ih := spl_none c a (fun h1 => h (List.mem_cons_of_mem _ h1))
    simp only [spl, if_neg hx, ih]
theorem spl_join (c : UInt8) : ∀ l, List.intercalate [c] (spl c l) = l
  | [] => by simp [spl, List.intercalate]
  | x :: r => by
    have ih := spl_join c r
    simp only [spl]
    split
    · rename_i h
      subst h
      cases hs : spl x r with
      | nil => exact absurd hs (spl_ne x r)
      | cons h t => rw [hs] at ih; simpa [List.intercalate] using ih
    cases hs : spl c r with
    | nil => exact absurd hs (spl_ne c r)
    | cons h t =>
      rw [hs] at ih
      simp only
      rw [← ih]
      cases t <;> simp [List.intercalate]
theorem spl_len (c : UInt8) : ∀ l, (spl c l).length ≤ l.length + 1
  | [] => by simp [spl]
  | x :: r => by
    have ih := spl_len c r
    simp only [spl]
    split
    · simp; exact ih
    cases hs : spl c r with
    | nil => simp
    | cons q t => rw [hs] at ih; simp at ih ⊢; omega
end Go.Ab
namespace Go.Ab
def isDig (c : UInt8) : Bool := decide (48 ≤ c.toNat) && decide (c.toNat ≤ 57)
def valF (n : Nat) : List UInt8 → Nat
  | [] => n
  | c :: r => valF (10 * n + (c.toNat - 48)) r
abbrev val (l : List UInt8) : Nat := valF 0 l
theorem valF_append (a b : List UInt8) (n : Nat) : valF n (a ++ b) = valF (valF n a) b := by
  induction a generalizing n with
  | nil => rfl
  | cons c a ih =>
    rw [List.cons_append]
    show valF (10 * n + (c.toNat - 48)) (a ++ b) = valF (valF (10 * n + (c.toNat - 48)) a) b
    exact ih _
theorem val_snoc (a : List UInt8) (c : UInt8) : val (a ++ [c]) = 10 * val a + (c.toNat - 48) := by
  rw [val, valF_append]; rfl
theorem valF_le : ∀ (l : List UInt8) (n : Nat), n ≤ valF n l
  | [], n => Nat.le_refl _
  | c :: l, n => Nat.le_trans (by omega) (valF_le l _)
theorem trim_minus (s : List UInt8) : (∃ r, s = 45 :: r ∧ Lib.trimPrefix s [45] = r) ∨ ((∀ r, s ≠ 45 :: r) ∧ Lib.trimPrefix s [45] = s) := by
  cases s with
  | nil => right; exact ⟨by simp, rfl⟩
  | cons c r =>
    by_cases hc : c = 45
    · subst hc; left; exact ⟨r, rfl, by simp [Lib.trimPrefix, Lib.hasPrefix, List.isPrefixOf]⟩
    right
    refine ⟨fun r' h => hc (List.cons.inj h).1, ?_⟩
    have : ((45 : UInt8) == c) = false := by simpa using fun h : (45 : UInt8) = c => hc h.symm
    simp [Lib.trimPrefix, Lib.hasPrefix, List.isPrefixOf, this]
theorem head_app {a b : List UInt8} (h : a ≠ []) : (a ++ b).head? = a.head? := by
  cases a with
  | nil => exact absurd rfl h
  | cons x r => rfl
theorem dec_small {u : Nat} (h : u < 10) : Lib.decDigits u = [UInt8.ofNat (48 + u)] := by rw [Lib.decDigits]; simp [h]
theorem dec_big {u : Nat} (h : ¬ u < 10) : Lib.decDigits u = Lib.decDigits (u / 10) ++ [UInt8.ofNat (48 + u % 10)] := by rw [Lib.decDigits]; simp [h]
theorem ofNat_toNat {n : Nat} (h : n < 256) : (UInt8.ofNat n).toNat = n := by simp [UInt8.toNat_ofNat']; omega
theorem dec_spec : ∀ (n u : Nat), u < n → (Lib.decDigits u).all isDig = true ∧ val (Lib.decDigits u) = u ∧ Lib.decDigits u ≠ [] ∧ ((Lib.decDigits u).head? = some 48 → u = 0)
  | 0, u, h => by omega
  | n + 1, u, h => by
    by_cases hu : u < 10
    · rw [dec_small hu]
      have e := ofNat_toNat (n := 48 + u) (by omega)
      refine ⟨?_, ?_, by simp, fun h0 => ?_⟩
      · simp only [List.all_cons, List.all_nil, isDig, e, Bool.and_true, Bool.and_eq_true, decide_eq_true_eq]; omega
      · have : val [UInt8.ofNat (48 + u)] = 10 * 0 + ((UInt8.ofNat (48 + u)).toNat - 48) := rfl
        rw [this, e]; omega
      simp only [List.head?_cons, Option.some.injEq] at h0
      have := congrArg UInt8.toNat h0
      rw [e] at this
      have : 48 + u = 48 := this
      omega
    rw [dec_big hu]
    obtain ⟨h1, h2, h3, h4⟩ := dec_spec n (u / 10) (by omega)
    have e := ofNat_toNat (n := 48 + u % 10) (by omega)
    refine ⟨?_, ?_, by simp, fun h0 => ?_⟩
    · rw [List.all_append, h1]; simp only [List.all_cons, List.all_nil, isDig, e, Bool.true_and, Bool.and_true, Bool.and_eq_true, decide_eq_true_eq]; omega
    · rw [val_snoc, h2, e]; omega
    rw [head_app h3] at h0
    have := h4 h0
    omega
theorem itoa_spec (n : Int) : Lib.itoa n = if n < 0 then 45 :: Lib.decDigits n.natAbs else Lib.decDigits n.toNat := rfl
theorem dec_head {u : Nat} : (Lib.decDigits u).head? ≠ some 45 := fun h => by
  obtain ⟨h1, _, h3, _⟩ := dec_spec (u + 1) u (by omega)
  cases hd : Lib.decDigits u with
  | nil => exact h3 hd
  | cons c r =>
    rw [hd] at h h1
    simp only [List.head?_cons, Option.some.injEq] at h
    subst h
    simp [isDig] at h1
end Go.Ab
namespace Go.Ab
def plainB (c : UInt8) : Bool := decide (33 ≤ c.toNat) && decide (c.toNat ≤ 126) && !decide (c.toNat = 37)
def hexV (c : UInt8) : Int := if 48 ≤ c.toNat ∧ c.toNat ≤ 57 then (c.toNat : Int) - 48 else if 65 ≤ c.toNat ∧ c.toNat ≤ 70 then (c.toNat : Int) - 55 else -1
def byte2 (a b : UInt8) : UInt8 := UInt8.ofNat (16 * hexV a + hexV b).toNat
def okHex (c a b : UInt8) : Bool := decide (c.toNat = 37) && decide (0 ≤ hexV a) && decide (0 ≤ hexV b) && !plainB (byte2 a b)
def un : List UInt8 → Option (List UInt8)
  | [] => some []
  | [c] => if plainB c = true then some [c] else none
  | [c, d] => if plainB c = true then (un [d]).map (c :: ·) else none
  | c :: a :: b :: r => if plainB c = true then (un (a :: b :: r)).map (c :: ·) else if okHex c a b = true then (un r).map (byte2 a b :: ·) else none
def okF (c : UInt8) : Bool := decide (32 ≤ c.toNat) && decide (c.toNat ≤ 126)
def fieldsF (s : List UInt8) : Option (List (List UInt8)) × Int :=
  if 512 < s.length then (none, 4) else if s = [] then (none, 0) else
    if s.all okF = true ∧ [] ∉ spl 32 s then (some (spl 32 s), 0) else (none, 5)
end Go.Ab
namespace Go.Ab
theorem wU8 {n : Int} (h1 : 0 ≤ n) (h2 : n ≤ 255) : IntKind.u8.wrap n = n := by rw [IntKind.wrap_u8]; omega
theorem dec_asc {u v : List UInt8} {c : UInt8} (h : c.toNat < 128) : Utf8.decode ⟨(u ++ c :: v).toArray⟩ u.length = (c.toNat, 1) := by
  have hlt : u.length < (⟨(u ++ c :: v).toArray⟩ : ByteArray).size := by show u.length < (u ++ c :: v).toArray.size; simp
  have he : (⟨(u ++ c :: v).toArray⟩ : ByteArray)[u.length]'hlt = c := by
    show ((u ++ c :: v).toArray)[u.length]'_ = c
    simp
  rw [decode_ascii _ _ hlt (by rw [he]; exact h), he]
theorem dec_high {u v : List UInt8} {c : UInt8} (h : ¬ c.toNat < 128) : 128 ≤ (Utf8.decode ⟨(u ++ c :: v).toArray⟩ u.length).1 ∧ 1 ≤ (Utf8.decode ⟨(u ++ c :: v).toArray⟩ u.length).2 := by
  have hlt : u.length < (⟨(u ++ c :: v).toArray⟩ : ByteArray).size := by show u.length < (u ++ c :: v).toArray.size; simp
  have he : (⟨(u ++ c :: v).toArray⟩ : ByteArray)[u.length]'hlt = c := by
    show ((u ++ c :: v).toArray)[u.length]'_ = c
    simp
  exact decode_high _ _ hlt (by rw [he]; omega)
def letB (c : UInt8) : Bool := decide (97 ≤ c.toNat) && decide (c.toNat ≤ 122)
def digB (c : UInt8) : Bool := isDig c || decide (c.toNat = 45)
def nmAll : Bool → List UInt8 → Bool
  | _, [] => true
  | f, c :: r => (letB c || (!f && digB c)) && nmAll false r
def nameB (s : List UInt8) : Bool := decide (1 ≤ s.length) && decide (s.length ≤ 12) && nmAll true s
end Go.Ab
namespace Go.Ab
open Go.RowKit Go.Proofs Go.Proofs.YtbcklcmhmbfgnaaGreatDoor
abbrev powName : String := ((Rows.topFilesRow.laid.map fun x => x.1).drop 2).headD default
theorem cell_lt0 {w : World} {a : Addr} {v : Value} (h : w.cell? a = some v) : a.block < w.heap.size := by
  unfold World.cell? at h
  split at h
  · rename_i hb
    exact (Array.getElem?_eq_some_iff.1 hb).1
  cases h
theorem var_below {P : Program} {w w' : World} {n : String} {cs : Array Value} (hb : Below w.heap.size w w') (h : w.var? P n = some cs) : w'.var? P n = some cs := by
  unfold World.var? at h ⊢
  cases hg : P.globalNamed n with
  | none => rw [hg] at h; cases h
  | some g =>
    rw [hg] at h
    simp only [Option.bind_some] at h ⊢
    cases ho : w.heap[g]? with
    | none => rw [ho] at h; cases h
    | some o =>
      rw [hb.block g (Array.getElem?_eq_some_iff.1 ho).1]
      exact h
def wordsL : List (List UInt8) := [[], [99, 104, 97, 114, 103, 101], [99, 111, 114, 114, 101, 99, 116], [114, 101, 106, 101, 99, 116], [112, 97, 121]]
def Gt : Gl where
  f
    | 0 => some [.sl true (wordsL.map fun s => [.str s])]
    | _ => none
  inv w := Lib.TabIs Tryz.prog w powName .u64 Lib.pow10Tab ∧ ∃ m : Int, w.cell? ⟨1, 0, none⟩ = some (.int .i64 m)
  stable := fun w w' hb ⟨h1, m, h2⟩ => ⟨var_below hb h1, m, by rw [hb.cell (p := ⟨1, 0, none⟩) (cell_lt0 h2)]; exact h2⟩
abbrev wordsG : Nat := 0
theorem gloWords {tab : Tab} : gloA (ctx Tryz.prog Gt tab) 0 = .v (.c (.dptr [.sl true (wordsL.map fun s => [.str s])])) := rfl
end Go.Ab
