/-
  Texts of the layer and of the laws, put together: AbS2, AbS3.
-/
import Derived.Test.YtdoofgbeajkpaaaGreatDoorAbWP13
import Derived.Test.YtdoofgbeajkpaaaGreatDoorAbWP12
import Derived.Test.YtdoofgbeajkpaaaGreatDoorAbWP14
import Derived.Room.Shelf.Join48
set_option linter.unusedSimpArgs false
set_option linter.unusedVariables false
set_option maxRecDepth 100000
set_option linter.defProp false
namespace Go.Ab
open Go.RowKit Go.Proofs
def itoa_m : List PA → Option (List PA) := m1 fun n => if decide (-9223372036854775808 ≤ n ∧ n ≤ 9223372036854775807) = true then some [.c (.str (Lib.itoa n))] else none
def join_m : List PA → Option (List PA) := mls fun l p => if decide (l.length ≤ 140737488355328 ∧ (Lib.join l p).length ≤ 281474976710656) = true then some [.c (.str (Lib.join l p))] else none
theorem itoa_ok : PureC Tryz.prog Gt 129 itoa_m :=
  pure_i_s (fun vs w => enters_of Tryz.func129 (by kernel_rfl) rfl vs w) Lib.itoa (fun n => decide (-9223372036854775808 ≤ n ∧ n ≤ 9223372036854775807)) (fun n w hG h => by
    have h' := of_decide_eq_true h
    refine (Any.strconv_Itoa Tryz.laysM171 n h'.1 h'.2 w hG.1).mono fun e w' ⟨he, k, os, hw⟩ => ⟨he, ?_⟩
    rw [hw]
    exact below_grow w k os)
theorem join_ok : PureC Tryz.prog Gt 93 join_m :=
  pure_join (fun vs w => enters_of Tryz.func93 (by kernel_rfl) rfl vs w) Lib.join (fun l p => decide (l.length ≤ 140737488355328 ∧ (Lib.join l p).length ≤ 281474976710656))
    (fun a c p w _ => (Any.strings_Join_none Tryz.lays156 Tryz.Builder_Extra_156 a c p w).mono fun e w' ⟨he, hw⟩ => ⟨by rw [he]; simp [Lib.join, List.intercalate], hw ▸ Below.refl _ _⟩)
    (fun b o cap xs p w h hc hb hcap => by
      obtain ⟨h1, h2⟩ := of_decide_eq_true h
      exact Any.strings_Join_48 Tryz.lays156 Tryz.Builder_Extra_156 b o cap xs p w hc hb (by simpa using h1) hcap h2)
end Go.Ab
namespace Go.Ab
open Go.RowKit Go.Proofs
variable {X : Ctx} {h : Hp}
def siO : Option UInt8 → Option AV
  | some b => some (.d (.int .u8 b.toNat))
  | none => none
def siI (i : Int) (o : Option UInt8) : Option AV := if 0 ≤ i then siO o else none
theorem si_eq {e : TypeId} {s : List UInt8} {i : Int} (hd : X.P.underlying e = some .string) : X.indexA e (.v (.c (.d (.str s)))) i = siI i s[i.toNat]? := by
  unfold Ctx.indexA siI
  rw [hd, Option.bind_some]
  dsimp only
  generalize s[i.toNat]? = q
  cases q <;> rfl
theorem si_ok {i : Int} {o : Option UInt8} (h0 : (0 ≤ i) = True) : siI i o = siO o := by simp only [siI, if_pos (of_eq_true h0)]
theorem siO_some {b : UInt8} : siO (some b) = some (.d (.int .u8 b.toNat)) := rfl
theorem gd_some {a b : Int} : (some a).getD b = a := rfl
theorem gd_none {b : Int} : (none : Option Int).getD b = b := rfl
def nxO (h : Hp) (id : Nat) : Option Ob → Option (AV × Hp)
  | some (.siter s pos) => if pos < s.length then some (.tup [.c (.d (.bool true)), .c (.d (.int .i64 pos)), .c (.d (.int .i32 (Utf8.decode ⟨s.toArray⟩ pos).1))], h.set id (.siter s (pos + (Utf8.decode ⟨s.toArray⟩ pos).2))) else some (.tup [.c (.d (.bool false))], h)
  | _ => none
theorem nx_eq {id : Nat} : X.nextA h (.v (.c (.it id))) true = nxO h id h[id]? := by
  unfold Ctx.nextA nxO
  dsimp only
  generalize h[id]? = q
  cases q with
  | none => rfl
  | some o => cases o <;> rfl
theorem nx_more {id pos : Nat} {s : List UInt8} (h1 : (pos < s.length) = True) : nxO h id (some (.siter s pos)) = some (.tup [.c (.d (.bool true)), .c (.d (.int .i64 pos)), .c (.d (.int .i32 (Utf8.decode ⟨s.toArray⟩ pos).1))], h.set id (.siter s (pos + (Utf8.decode ⟨s.toArray⟩ pos).2))) := by
  simp only [nxO, if_pos (of_eq_true h1)]
theorem nx_end {id pos : Nat} {s : List UInt8} (h1 : (pos < s.length) = False) : nxO h id (some (.siter s pos)) = some (.tup [.c (.d (.bool false))], h) := by
  simp only [nxO, h1, if_false]
def byR (b : UInt8) : List D := [.int .u8 b.toNat]
def cvU (b : Bool) (es : List (List D)) : Option D := if b then (bytesOf es).map .str else none
theorem cv_own {id : Nat} {es : List (List D)} {e : TypeId} : cvD X (.v (.c (.own id es))) (some (.slice e)) (some .string) = cvU (X.isU8 e) es := rfl
theorem u8_of {e : TypeId} (hd : X.P.underlying e = some (.int .u8)) : X.isU8 e = true := by unfold Ctx.isU8; rw [hd]
theorem bytesOf_map : ∀ l : List UInt8, bytesOf (l.map byR) = some l
  | [] => rfl
  | b :: l => by
    have h1 : byteOf (byR b) = some b := by
      have := b.toNat_lt
      simp only [byteOf, byR]
      rw [if_pos ⟨by omega, by omega⟩]
      simp
    simp only [List.map_cons, bytesOf, h1, bytesOf_map l, Option.bind_some]
theorem cvU_ok {l : List UInt8} : cvU true (l.map byR) = some (.str l) := by simp only [cvU, if_true, bytesOf_map, Option.map_some]
def ST := Zk @si_ok <| Zk @siO_some <| Zk @gd_some <| Zk @gd_none <| Zk @nx_eq <| Zk @nx_more <| Zk @nx_end <| Zk @cv_own <| Zk @cvU_ok @List.toList_toArray.{0}
end Go.Ab
