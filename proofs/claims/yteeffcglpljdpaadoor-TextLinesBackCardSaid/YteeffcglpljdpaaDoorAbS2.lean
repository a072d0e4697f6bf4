/-
  The library's functions of this seat as plain functions.
-/
import Derived.Test.YteeffcglpljdpaaDoorAbT
import Derived.Test.YteeffcglpljdpaaDoorAbS1
import Derived.Test.YteeffcglpljdpaaDoorAbSh
import Derived.Room.Shelf.Join48
set_option linter.unusedSimpArgs false
set_option linter.unusedVariables false
namespace Go.Ab
open Go.RowKit Go.Proofs

def trimP_m : List PA → Option (List PA) := mss fun a b => if (true : Bool) = true then some [.c (.str (Lib.trimPrefix a b))] else none
def trimS_m : List PA → Option (List PA) := mss fun a b => if decide (a.length ≤ 4294967280) = true then some [.c (.str (Lib.trimSuffix a b))] else none
def ixb_m : List PA → Option (List PA) := msb fun a n => some [.c (.int .i64 (Lib.indexByte a n.toNat.toUInt8))]
def itoa_m : List PA → Option (List PA) := m1 fun n => if decide (-9223372036854775808 ≤ n ∧ n ≤ 9223372036854775807) = true then some [.c (.str (Lib.itoa n))] else none
def split_m : List PA → Option (List PA) := mss fun a b => if decide (a.length ≤ 4294967280 ∧ b.length = 1) = true then some [.c (.sl true ((spl (b.headD 0) a).map rowS))] else none
def join_m : List PA → Option (List PA) := mls fun l p => if decide (l.length ≤ 140737488355328 ∧ (Lib.join l p).length ≤ 281474976710656) = true then some [.c (.str (Lib.join l p))] else none

theorem trimP_ok : PureC Tryd.prog Gt 32 trimP_m :=
  pure_ss_s (fun vs w => enters_of Tryd.func32 (by kernel_rfl) rfl vs w) (fun _ _ => true) Lib.trimPrefix (fun s p w _ => Any.strings_TrimPrefix Tryd.lays101 s p w)
theorem trimS_ok : PureC Tryd.prog Gt 34 trimS_m :=
  pure_ss_s (fun vs w => enters_of Tryd.func34 (by kernel_rfl) rfl vs w) (fun a _ => decide (a.length ≤ 4294967280)) Lib.trimSuffix (fun s p w h => Any.strings_TrimSuffix Tryd.lays102 s p w (by
    have := of_decide_eq_true h
    have e : s.size = s.data.toList.length := Lib.size_eq _
    omega))
theorem ixb_ok : PureC Tryd.prog Gt 36 ixb_m :=
  pure_sb_i (fun vs w => enters_of Tryd.func36 (by kernel_rfl) rfl vs w) (fun a n => Lib.indexByte a n.toNat.toUInt8) (fun s n w => Any.strings_IndexByte Tryd.lays137 s n w)
theorem itoa_ok : PureC Tryd.prog Gt 33 itoa_m :=
  pure_i_s (fun vs w => enters_of Tryd.func33 (by kernel_rfl) rfl vs w) Lib.itoa (fun n => decide (-9223372036854775808 ≤ n ∧ n ≤ 9223372036854775807)) (fun n w hG h => by
    have h' := of_decide_eq_true h
    refine (Any.strconv_Itoa Tryd.laysM171 n h'.1 h'.2 w hG.1).mono fun e w' ⟨he, k, os, hw⟩ => ⟨he, ?_⟩
    rw [hw]
    exact below_grow w k os)

theorem one_byte {p : ByteArray} (h : p.data.toList.length = 1) : p.data.toList = [p.data.toList.headD 0] := by
  match hp : p.data.toList, h with
  | [x], _ => rfl

theorem split_ok : PureC Tryd.prog Gt 31 split_m :=
  pure_split (fun vs w => enters_of Tryd.func31 (by kernel_rfl) rfl vs w) (fun a b => decide (a.length ≤ 4294967280 ∧ b.length = 1)) (fun a b => spl (b.headD 0) a) (fun s p w hG h => by
    obtain ⟨h1, h2⟩ := of_decide_eq_true h
    obtain ⟨_, m, hm⟩ := hG
    have e1 : s.size = s.data.toList.length := Lib.size_eq _
    have e2 : p.size = p.data.toList.length := Lib.size_eq _
    refine (Any.strings_Split { Tryd.laysM146 with } Tryd.laysM146.i9 s p m w (by omega) hm (by omega)).mono fun e w' ⟨he, hw⟩ => ?_
    have hlen := Lib.splitB_all p (by omega) 0 _ s rfl
    refine ⟨_, _, ?_, ?_, hw⟩
    · rw [Lib.splitB_data, one_byte h2]
      show Lib.splitK [p.data.toList.headD 0] 0 (Lib.count s.data.toList p.data.toList) s.data.toList = spl _ s.data.toList
      rw [one_byte h2, List.headD_cons]
      have hc : Lib.count s.data.toList [p.data.toList.headD 0] = s.data.toList.count (p.data.toList.headD 0) := by
        rw [Lib.count_one]
      rw [hc]
      exact splitK_eq _ _
    · rw [he, hlen])

theorem join_ok : PureC Tryd.prog Gt 39 join_m :=
  pure_join (fun vs w => enters_of Tryd.func39 (by kernel_rfl) rfl vs w) Lib.join (fun l p => decide (l.length ≤ 140737488355328 ∧ (Lib.join l p).length ≤ 281474976710656))
    (fun a c p w _ => (Any.strings_Join_none Tryd.lays156 Tryd.Builder_Extra_156 a c p w).mono fun e w' ⟨he, hw⟩ => ⟨by rw [he]; simp [Lib.join, List.intercalate], hw ▸ Below.refl _ _⟩)
    (fun b o cap xs p w h hc hb hcap => by
      obtain ⟨h1, h2⟩ := of_decide_eq_true h
      exact Any.strings_Join_48 Tryd.lays156 Tryd.Builder_Extra_156 b o cap xs p w hc hb (by simpa using h1) hcap h2)

end Go.Ab
