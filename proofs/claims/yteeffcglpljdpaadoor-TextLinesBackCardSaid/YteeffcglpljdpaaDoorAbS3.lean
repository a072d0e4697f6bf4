/-
  Strings on the abstract machine as equations: indexing, cutting, running over runes, bytes as a string. Pass ST as a fact to GO.
-/
import Derived.Test.YteeffcglpljdpaaDoorAbT
import Derived.Test.YteeffcglpljdpaaDoorAbS1
set_option linter.unusedSimpArgs false
set_option linter.unusedVariables false
namespace Go.Ab
open Go.RowKit Go.Proofs

variable {X : Ctx} {h : Hp}

def siO : Option UInt8 → Option AV
  | some b => some (.d (.int .u8 b.toNat))
  | none => none
def siI (i : Int) (o : Option UInt8) : Option AV := if 0 ≤ i then siO o else none
def siD (s : List UInt8) (i : Int) : Option TypeDesc → Option AV
  | some .string => siI i s[i.toNat]?
  | _ => none
theorem si_eq {e : TypeId} {s : List UInt8} {i : Int} (hd : X.P.underlying e = some .string) : X.indexA e (.v (.c (.d (.str s)))) i = siI i s[i.toNat]? := by
  unfold Ctx.indexA siI
  rw [hd, Option.bind_some]
  dsimp only
  generalize s[i.toNat]? = q
  cases q <;> rfl
theorem si_ok {i : Int} {o : Option UInt8} (h0 : (0 ≤ i) = True) : siI i o = siO o := by simp only [siI, if_pos (of_eq_true h0)]
theorem siO_some {b : UInt8} : siO (some b) = some (.d (.int .u8 b.toNat)) := rfl

def slS (s : List UInt8) (l u : Int) : Option D := if 0 ≤ l ∧ l ≤ u ∧ u ≤ s.length then some (.str ((s.drop l.toNat).take (u.toNat - l.toNat))) else none
theorem ss_eq {e : TypeId} {s : List UInt8} {lo hi : Option Int} (hd : X.P.underlying e = some .string) : X.sliceA e (.v (.c (.d (.str s)))) lo hi none = slS s (lo.getD 0) (hi.getD s.length) := by
  unfold Ctx.sliceA slS
  rw [hd, Option.bind_some]
  simp only [Option.isNone_none, true_and]
theorem ss_ok {s : List UInt8} {l u : Int} (h0 : (0 ≤ l) = True) (h1 : (l ≤ u) = True) (h2 : (u ≤ (s.length : Int)) = True) : slS s l u = some (.str ((s.drop l.toNat).take (u.toNat - l.toNat))) := by
  simp only [slS, if_pos (And.intro (of_eq_true h0) (And.intro (of_eq_true h1) (of_eq_true h2)))]
theorem gd_some {a b : Int} : (some a).getD b = a := rfl
theorem gd_none {b : Int} : (none : Option Int).getD b = b := rfl

def nxO (h : Hp) (id : Nat) : Option Ob → Option (AV × Hp)
  | some (.siter s pos) => if pos < s.length then some (.tup [.c (.d (.bool true)), .c (.d (.int .i64 pos)), .c (.d (.int .i32 (Utf8.decode ⟨s.toArray⟩ pos).1))], h.set id (.siter s (pos + (Utf8.decode ⟨s.toArray⟩ pos).2))) else some (.tup [.c (.d (.bool false))], h)
  | _ => none
theorem nx_eq {id : Nat} : X.nextA h (.v (.c (.it id))) true = nxO h id h[id]? := by
  unfold Ctx.nextA nxO
  dsimp only
  generalize h[id]? = q
  cases q with
  | none => rfl
  | some o => cases o <;> rfl
theorem nx_more {id pos : Nat} {s : List UInt8} (h1 : (pos < s.length) = True) : nxO h id (some (.siter s pos)) = some (.tup [.c (.d (.bool true)), .c (.d (.int .i64 pos)), .c (.d (.int .i32 (Utf8.decode ⟨s.toArray⟩ pos).1))], h.set id (.siter s (pos + (Utf8.decode ⟨s.toArray⟩ pos).2))) := by
  simp only [nxO, if_pos (of_eq_true h1)]
theorem nx_end {id pos : Nat} {s : List UInt8} (h1 : (pos < s.length) = False) : nxO h id (some (.siter s pos)) = some (.tup [.c (.d (.bool false))], h) := by
  simp only [nxO, h1, if_false]

def byR (b : UInt8) : List D := [.int .u8 b.toNat]
def cvU (b : Bool) (es : List (List D)) : Option D := if b then (bytesOf es).map .str else none
theorem cv_own {id : Nat} {es : List (List D)} {e : TypeId} : cvD X (.v (.c (.own id es))) (some (.slice e)) (some .string) = cvU (X.isU8 e) es := rfl
theorem cv_sl {f : Bool} {es : List (List D)} {e : TypeId} : cvD X (.v (.c (.d (.sl f es)))) (some (.slice e)) (some .string) = cvU (X.isU8 e) es := rfl
theorem u8_of {e : TypeId} (hd : X.P.underlying e = some (.int .u8)) : X.isU8 e = true := by unfold Ctx.isU8; rw [hd]
theorem bytesOf_map : ∀ l : List UInt8, bytesOf (l.map byR) = some l
  | [] => rfl
  | b :: l => by
    have h1 : byteOf (byR b) = some b := by
      have := b.toNat_lt
      simp only [byteOf, byR]
      rw [if_pos ⟨by omega, by omega⟩]
      simp
    simp only [List.map_cons, bytesOf, h1, bytesOf_map l, Option.bind_some]
theorem cvU_ok {l : List UInt8} : cvU true (l.map byR) = some (.str l) := by simp only [cvU, if_true, bytesOf_map, Option.map_some]

theorem ST : type_of% @si_ok ∧ type_of% @siO_some ∧ type_of% @ss_ok ∧ type_of% @gd_some ∧ type_of% @gd_none ∧ type_of% @nx_eq ∧ type_of% @nx_more ∧ type_of% @nx_end ∧ type_of% @cv_own ∧ type_of% @cvU_ok ∧ type_of% @List.toList_toArray.{0} := ⟨@si_ok, @siO_some, @ss_ok, @gd_some, @gd_none, @nx_eq, @nx_more, @nx_end, @cv_own, @cvU_ok, @List.toList_toArray⟩

end Go.Ab
