/-
  Texts of the layer and of the laws, put together: AbW1, AbP2. No law is stated here.
-/
import Derived.Test.YtkneajcbgoaadaaDoorAbV23
import Derived.Test.YtkneajcbgoaadaaDoorAbV28
import Derived.Lib.Walk
import Derived.Lib.ItoaMem
import Derived.WalkKit
import Derived.BigCall
import Derived.BigGuard
set_option linter.unusedSimpArgs false
set_option linter.unusedVariables false
set_option maxRecDepth 100000

/-
  strconv.FormatUint at base 10: the numeral of any number of 64 bits.
-/
namespace Go.Ab
open Go.RowKit Go.Proofs Go.Lib Go.Sort

theorem holds_zero0 (w : World) (T : TypeId) (nd : Nat) (hs : nd ≤ 24) : Holds (fun (b : UInt8) => Value.int .u8 (b.toNat : Int)) (w.alloc (.cells zeros24 T)) w.heap.size 0 (Array.replicate nd (0 : UInt8)) := fun j hj => by
  have hj' : j < nd := by simpa using hj
  refine ⟨?_, World.frozen?_alloc_new _ _ _ _⟩
  rw [World.cell?_alloc_new, zeros24_at _ (by omega), getElem!_pos _ j hj]
  simp

theorem fin_zero (w : World) (o : Obj) (dk : Array UInt8) (k : Nat) : ∃ os, (putRow (fun (b : UInt8) => Value.int .u8 (b.toNat : Int)) (w.alloc o) w.heap.size 0 dk).drewN k = grow (w.drewN k) os := by
  rw [alloc_eq_grow]
  obtain ⟨os', _, e⟩ := putRow_grow_new (fun (b : UInt8) => Value.int .u8 (b.toNat : Int)) w #[o] w.heap.size 0 dk (Nat.le_refl _)
  exact ⟨os', by rw [e]; rfl⟩

theorem ntmpsU : Tryd.f67.ntmps = 32 := rfl

set_option maxHeartbeats 6400000 in
theorem ifmtU_walk (u : Nat) (hu64 : u < 18446744073709551616) (w : World) (htab : TabIs Tryd.prog w "internal/strconv.uint64pow10" .u64 pow10Tab) :
    Calls Tryd.prog 67 #[.int .u64 u, .int .i64 10] w fun e w' => e = .returned (.string ⟨(decDigits u).toArray⟩) ∧ ∃ k os, w' = grow (w.drewN k) os := by
  have L := Tryd.laysM246
  have mixed := L.mixed
  have t3 := Tryd.underlying3; have a3 := Tryd.isAgg3; have z3 := Tryd.sizeOf3; have v3 := Tryd.zeroValue3
  have t4 := Tryd.underlying4; have a4 := Tryd.isAgg4; have z4 := Tryd.sizeOf4; have v4 := Tryd.zeroValue4
  have t5 := Tryd.underlying5; have a5 := Tryd.isAgg5; have z5 := Tryd.sizeOf5; have v5 := Tryd.zeroValue5
  have t9 := Tryd.underlying9; have a9 := Tryd.isAgg9; have z9 := Tryd.sizeOf9; have v9 := Tryd.zeroValue9
  have t0 := Tryd.underlying0; have a0 := Tryd.isAgg0; have z0 := Tryd.sizeOf0; have v0 := Tryd.zeroValue0
  have t124 := Tryd.underlying38; have a124 := Tryd.isAgg38; have z124 := Tryd.sizeOf38; have v124 := Tryd.zeroValue38
  have t126 := Tryd.underlying79; have a126 := Tryd.isAgg79; have z126 := Tryd.sizeOf79; have v126 := Tryd.zeroValue79
  have t156 := Tryd.underlying100; have a156 := Tryd.isAgg100; have z156 := Tryd.sizeOf100; have v156 := Tryd.zeroValue100
  have e94 : ∀ args w, (callFunc 75 args).run Tryd.prog w = .ok (.enter 75 args) w := enters_of Tryd.func75 (by kernel_rfl) rfl
  have e95 : ∀ args w, (callFunc 76 args).run Tryd.prog w = .ok (.enter 76 args) w := enters_of Tryd.func76 (by kernel_rfl) rfl
  have e96 : ∀ args w, (callFunc 77 args).run Tryd.prog w = .ok (.enter 77 args) w := enters_of Tryd.func77 (by kernel_rfl) rfl
  by_cases hs : u < 100
  · have hsm : ∀ w, Calls Tryd.prog 75 #[.int .i64 (u : Int)] w fun e w' => e = .returned (.string ⟨(decDigits u).toArray⟩) ∧ w' = w := fun w => Any.internal_strconv_small { L with } u hs w
    go_enter Tryd.func67, ntmpsU
    go_wp2_with (go_at_fn 75; refine (hsm _).mono ?_; rintro e w' ⟨rfl, rfl⟩)
    go_ret
    exact ⟨rfl, 0, #[], by simp [World.drewN_zero]⟩
  · have hu1 : 1 ≤ u := by omega
    have hnd20 : nDigits u ≤ 20 := by have := numDigits_eq u hu1 hu64; split at this <;> omega
    have hb3 : nDigits u ≤ 24 := by omega
    have hal : Tryd.prog.arrayLen 100 = 24 := by simp [Program.arrayLen, t156]
    have hsl1 : ∀ W, (Instr.sliceAt 100 (.pointer (some ⟨w.heap.size, 0, none⟩)) none (some (.int .i64 (nDigits u : Int))) none).run Tryd.prog W = .ok (.slice (some ⟨w.heap.size, 0, none⟩) (nDigits u) 24) W := fun W => by
      rw [run_sliceAt_array_h W 100 ⟨w.heap.size, 0, none⟩ (by simp [Program.arrayLen, Program.elem, t156]) .i64 (nDigits u : Int) (by omega) (by rw [hal]; omega)]
      go_simp
    have hH0 := holds_zero0 w 100 (nDigits u) (by omega)
    have hfmt : Calls Tryd.prog 77 #[.slice (some ⟨w.heap.size, 0, none⟩) (Array.replicate (nDigits u) (0 : UInt8)).size 24, .int .u64 u] (w.alloc (.cells zeros24 100)) fun e w' =>
      e = .returned (.tuple #[]) ∧ ∃ (n v' : Nat) (dk : Array UInt8), w' = (putRow (fun (b : UInt8) => Value.int .u8 (b.toNat : Int)) (w.alloc (.cells zeros24 100)) w.heap.size 0 dk).drewN n ∧ FmtInv (Array.replicate (nDigits u) (0 : UInt8)).size u 0 v' dk :=
      Any.internal_strconv_formatBase10 { L with } w.heap.size 0 24 u (Array.replicate (nDigits u) 0) (w.alloc (.cells zeros24 100)) hH0 (by rw [Array.size_replicate]; exact lt_pow_nDigits u) hu64 (by rw [Array.size_replicate]; omega)
    rw [Array.size_replicate] at hfmt
    have hnum : ∀ w, TabIs Tryd.prog w "internal/strconv.uint64pow10" .u64 pow10Tab → Calls Tryd.prog 76 #[.int .u64 (u : Int)] w fun e w' => e = .returned (.int .i64 (nDigits u)) ∧ w' = w := fun w h => Any.internal_strconv_numDigits { L with } u hu1 hu64 w h
    have HH0 := Lib.hid hH0
    clear hH0 hal
    go_enter Tryd.func67, ntmpsU
    go_wp2_with (first
      | (go_at_fn 76; refine (hnum _ (tabIs_alloc htab _)).mono ?_; rintro e w' ⟨rfl, rfl⟩))
    go_at_fn 77
    refine hfmt.mono ?_
    rintro e w' ⟨rfl, k, v', dk, rfl, hF⟩
    have hcv : (convert 38 9 (.slice (some ⟨w.heap.size, 0, none⟩) (nDigits u) 24)).run Tryd.prog ((putRow (fun (b : UInt8) => Value.int .u8 (b.toNat : Int)) (w.alloc (.cells zeros24 100)) w.heap.size 0 dk).drewN k) = .ok (.string ⟨(decDigits u).toArray⟩) ((putRow (fun (b : UInt8) => Value.int .u8 (b.toNat : Int)) (w.alloc (.cells zeros24 100)) w.heap.size 0 dk).drewN k) := by
      have h := run_convert_bytes_back (P := Tryd.prog) ((putRow (fun (b : UInt8) => Value.int .u8 (b.toNat : Int)) (w.alloc (.cells zeros24 100)) w.heap.size 0 dk).drewN k) 38 9 5 ⟨w.heap.size, 0, none⟩ 24 (decDigits u) t124 t5 t9 (fun j hj => by
        rw [row_is_numeral hF j hj, add_plain, World.cell?_drewN]
        exact cell?_putRow (fun (b : UInt8) => Value.int .u8 (b.toNat : Int)) _ w.heap.size 0 _ dk HH0.out (by rw [hF.size, Array.size_replicate]) j (by rw [hF.size]; rw [decDigits_length] at hj; exact hj))
      rw [decDigits_length] at h
      exact h
    go_wp2
    go_ret
    obtain ⟨os, eo⟩ := fin_zero w (.cells zeros24 100) dk k
    exact ⟨rfl, k, os, eo⟩

end Go.Ab

/-
  What the functions of money compute: amounts written down.
-/
namespace Go.Ab
open Go.RowKit Go.Proofs

noncomputable section

def encU10 (a : Nat) : List PA := [.c (.int .u64 (a : Int)), .c (.int .i64 10)]
theorem encU10_inj (a b : Nat) (h : encU10 a = encU10 b) : a = b := by simp [encU10] at h; omega
def encU (a : Nat) : List PA := [.c (.int .u64 (a : Int))]
theorem encU_inj (a b : Nat) (h : encU a = encU b) : a = b := by simp [encU] at h; omega

def ifmtU_m : List PA → Option (List PA) := mE encU10 fun a => if decide (a ≤ 18446744073709551615) = true then some [.c (.str (Lib.decDigits a))] else none
def fmtU_m : List PA → Option (List PA) := mE encU10 fun a => if decide (a ≤ 18446744073709551615) = true then some [.c (.str (Lib.decDigits a))] else none
def msize_m : List PA → Option (List PA) := m1 fun n => if inI n = true then some [.c (.int .u64 (n.natAbs : Int))] else none
def mshow_m : List PA → Option (List PA) := m1 fun n => if inI n = true then some [.s (showF n)] else none
def rsize_m : List PA → Option (List PA) := m1 fun n => if inI n = true then some [.c (.int .u64 (n.natAbs : Int))] else none
def rdigits_m : List PA → Option (List PA) := mE encU fun a => if decide (a ≤ 18446744073709551615) = true then some [.s (Lib.decDigits a)] else none
def rshow_m : List PA → Option (List PA) := m1 fun n => if inI n = true then some [.s (showF n)] else none

theorem fmtU_at {a : Nat} (h : a ≤ 18446744073709551615) : fmtU_m [.c (.int .u64 (a : Int)), .c (.int .i64 10)] = some [.c (.str (Lib.decDigits a))] := by
  rw [fmtU_m, show ([.c (.int .u64 (a : Int)), .c (.int .i64 10)] : List PA) = encU10 a from rfl, mE_eq encU10_inj, if_pos (decide_eq_true h)]
theorem ifmtU_at {a : Nat} (h : a ≤ 18446744073709551615) : ifmtU_m [.c (.int .u64 (a : Int)), .c (.int .i64 10)] = some [.c (.str (Lib.decDigits a))] := by
  rw [ifmtU_m, show ([.c (.int .u64 (a : Int)), .c (.int .i64 10)] : List PA) = encU10 a from rfl, mE_eq encU10_inj, if_pos (decide_eq_true h)]
theorem rdigits_at {a : Nat} (h : a ≤ 18446744073709551615) : rdigits_m [.c (.int .u64 (a : Int))] = some [.s (Lib.decDigits a)] := by
  rw [rdigits_m, show ([.c (.int .u64 (a : Int))] : List PA) = encU a from rfl, mE_eq encU_inj, if_pos (decide_eq_true h)]

theorem ifmtU_ok : PureC Tryd.prog Gt 67 ifmtU_m := by
  refine ⟨fun vs w => enters_of Tryd.func67 (by kernel_rfl) rfl vs w, fun w F vs args r hlt hG hvs hrel hm => ?_⟩
  obtain ⟨a, rfl, hg⟩ := mE_inv hm
  split at hg
  · rename_i hc
    cases hg
    have hc := of_decide_eq_true hc
    have h1 : vs.getD 0 undef = .int .u64 (a : Int) := by
      have : Rd w F (vs.getD 0 undef) (.int .u64 (a : Int)) := hrel 0 _ rfl
      generalize vs.getD 0 undef = v at this
      cases this; rfl
    have h2 : vs.getD 1 undef = .int .i64 10 := by
      have : Rd w F (vs.getD 1 undef) (.int .i64 10) := hrel 1 _ rfl
      generalize vs.getD 1 undef = v at this
      cases this; rfl
    rw [two_args hvs, h1, h2]
    refine (ifmtU_walk a (by omega) w hG.2.1).mono fun e w' ⟨he, k, os, hw⟩ => ⟨_, he, str_rd _, ?_⟩
    rw [hw]
    exact below_grow w k os
  · cases hg

theorem fmtU_ok : PureC Tryd.prog Gt 52 fmtU_m := by
  refine pure_of_awp (X := ctx Tryd.prog Gt [(67, ifmtU_m)]) Tryd.func52 rfl rfl (by kernel_rfl) (by kernel_rfl) (AllOk.cons ifmtU_ok AllOk.nil).kok ?_
  intro args r h0
  obtain ⟨a, rfl, h⟩ := mE_inv h0
  refine ⟨Nat.le_of_ble_eq_true rfl, ?_⟩
  split at h
  · rename_i hc
    have hc := of_decide_eq_true hc
    cases h
    have f1 := ifmtU_at hc
    have hc := Nat.zero_add 0
    repeat' (first | (simp only [hc, Tryd.f52, encU10, SX, f1, AB, PL, RG, LP, TY, Nat.reduceEqDiff, Nat.reduceAdd, Nat.reduceSub, Nat.reduceMul, Nat.reduceLT, Nat.reduceLeDiff, Nat.reduceMod, Nat.reduceDiv, reduceCtorEq, Int.reduceEq, Int.reduceNe, Int.reduceLT, Int.reduceLE, Int.reduceNeg, Int.reduceToNat, Int.reduceAdd, Int.reduceSub, Int.reduceMul, ↓reduceIte, forall_const, eq_self, ne_eq, Option.some.injEq, beq_self_eq_true]) | refine fin_ndec (fun hc => ?_) (fun hc => ?_) | refine fin_dec (fun hc => ?_) (fun hc => ?_) | refine cnd_ndec (fun hc => ?_) (fun hc => ?_) | refine cnd_dec' (fun hc => ?_) (fun hc => ?_) | refine fin_nsplit (fun hc => ?_) (fun hc => ?_) | refine fin_split (fun hc => ?_) (fun hc => ?_) | refine cnd_nsplit (fun hc => ?_) (fun hc => ?_) | refine cnd_split (fun hc => ?_) (fun hc => ?_) | refine blk_exit_id ?_)
    all_goals simp
  · cases h

theorem msize_ok : PureC Tryd.prog Gt 51 msize_m := by
  refine pure_of_awp (X := ctx Tryd.prog Gt []) Tryd.func51 rfl rfl (by kernel_rfl) (by kernel_rfl) AllOk.nil.kok ?_
  intro args r h0
  obtain ⟨n, rfl, h⟩ := m1_inv h0
  refine ⟨Nat.le_of_ble_eq_true rfl, ?_⟩
  split at h
  · rename_i hn
    have hn := inI_iff.1 hn
    cases h
    by_cases hneg : n < 0
    · have w1 : IntKind.u64.wrap (0 - IntKind.u64.wrap n) = (n.natAbs : Int) := by rw [IntKind.wrap_u64, IntKind.wrap_u64]; omega
      have hc := Nat.zero_add 0
      repeat' (first | (simp only [hc, Tryd.f51, hneg, w1, AB, PL, RG, LP, TY, Nat.reduceEqDiff, Nat.reduceAdd, Nat.reduceSub, Nat.reduceMul, Nat.reduceLT, Nat.reduceLeDiff, Nat.reduceMod, Nat.reduceDiv, reduceCtorEq, Int.reduceEq, Int.reduceNe, Int.reduceLT, Int.reduceLE, Int.reduceNeg, Int.reduceToNat, Int.reduceAdd, Int.reduceSub, Int.reduceMul, ↓reduceIte, forall_const, eq_self, ne_eq, Option.some.injEq, beq_self_eq_true]) | refine fin_ndec (fun hc => ?_) (fun hc => ?_) | refine fin_dec (fun hc => ?_) (fun hc => ?_) | refine cnd_ndec (fun hc => ?_) (fun hc => ?_) | refine cnd_dec' (fun hc => ?_) (fun hc => ?_) | refine fin_nsplit (fun hc => ?_) (fun hc => ?_) | refine fin_split (fun hc => ?_) (fun hc => ?_) | refine cnd_nsplit (fun hc => ?_) (fun hc => ?_) | refine cnd_split (fun hc => ?_) (fun hc => ?_) | refine blk_exit_id ?_)
      all_goals simp
    · have w1 : IntKind.u64.wrap n = (n.natAbs : Int) := by rw [IntKind.wrap_u64]; omega
      have hc := Nat.zero_add 0
      repeat' (first | (simp only [hc, Tryd.f51, hneg, w1, AB, PL, RG, LP, TY, Nat.reduceEqDiff, Nat.reduceAdd, Nat.reduceSub, Nat.reduceMul, Nat.reduceLT, Nat.reduceLeDiff, Nat.reduceMod, Nat.reduceDiv, reduceCtorEq, Int.reduceEq, Int.reduceNe, Int.reduceLT, Int.reduceLE, Int.reduceNeg, Int.reduceToNat, Int.reduceAdd, Int.reduceSub, Int.reduceMul, ↓reduceIte, forall_const, eq_self, ne_eq, Option.some.injEq, beq_self_eq_true]) | refine fin_ndec (fun hc => ?_) (fun hc => ?_) | refine fin_dec (fun hc => ?_) (fun hc => ?_) | refine cnd_ndec (fun hc => ?_) (fun hc => ?_) | refine cnd_dec' (fun hc => ?_) (fun hc => ?_) | refine fin_nsplit (fun hc => ?_) (fun hc => ?_) | refine fin_split (fun hc => ?_) (fun hc => ?_) | refine cnd_nsplit (fun hc => ?_) (fun hc => ?_) | refine cnd_split (fun hc => ?_) (fun hc => ?_) | refine blk_exit_id ?_)
      all_goals simp
  · cases h

theorem rsize_ok : PureC Tryd.prog Gt 54 rsize_m := by
  refine pure_of_awp (X := ctx Tryd.prog Gt []) Tryd.func54 rfl rfl (by kernel_rfl) (by kernel_rfl) AllOk.nil.kok ?_
  intro args r h0
  obtain ⟨n, rfl, h⟩ := m1_inv h0
  refine ⟨Nat.le_of_ble_eq_true rfl, ?_⟩
  split at h
  · rename_i hn
    have hn := inI_iff.1 hn
    cases h
    by_cases hneg : n < 0
    · have w0 := wI (n := n + 1) (by omega) (by omega)
      have w2 := wI (n := 0 - (n + 1)) (by omega) (by omega)
      have w3 : IntKind.u64.wrap (0 - (n + 1)) = 0 - (n + 1) := by rw [IntKind.wrap_u64]; omega
      have w1 : IntKind.u64.wrap (0 - (n + 1) + 1) = (n.natAbs : Int) := by rw [IntKind.wrap_u64]; omega
      have hc := Nat.zero_add 0
      repeat' (first | (simp only [hc, Tryd.f54, hneg, w0, w2, w3, w1, AB, PL, RG, LP, TY, Nat.reduceEqDiff, Nat.reduceAdd, Nat.reduceSub, Nat.reduceMul, Nat.reduceLT, Nat.reduceLeDiff, Nat.reduceMod, Nat.reduceDiv, reduceCtorEq, Int.reduceEq, Int.reduceNe, Int.reduceLT, Int.reduceLE, Int.reduceNeg, Int.reduceToNat, Int.reduceAdd, Int.reduceSub, Int.reduceMul, ↓reduceIte, forall_const, eq_self, ne_eq, Option.some.injEq, beq_self_eq_true]) | refine fin_ndec (fun hc => ?_) (fun hc => ?_) | refine fin_dec (fun hc => ?_) (fun hc => ?_) | refine cnd_ndec (fun hc => ?_) (fun hc => ?_) | refine cnd_dec' (fun hc => ?_) (fun hc => ?_) | refine fin_nsplit (fun hc => ?_) (fun hc => ?_) | refine fin_split (fun hc => ?_) (fun hc => ?_) | refine cnd_nsplit (fun hc => ?_) (fun hc => ?_) | refine cnd_split (fun hc => ?_) (fun hc => ?_) | refine blk_exit_id ?_)
      all_goals simp
    · have w1 : IntKind.u64.wrap n = (n.natAbs : Int) := by rw [IntKind.wrap_u64]; omega
      have hc := Nat.zero_add 0
      repeat' (first | (simp only [hc, Tryd.f54, hneg, w1, AB, PL, RG, LP, TY, Nat.reduceEqDiff, Nat.reduceAdd, Nat.reduceSub, Nat.reduceMul, Nat.reduceLT, Nat.reduceLeDiff, Nat.reduceMod, Nat.reduceDiv, reduceCtorEq, Int.reduceEq, Int.reduceNe, Int.reduceLT, Int.reduceLE, Int.reduceNeg, Int.reduceToNat, Int.reduceAdd, Int.reduceSub, Int.reduceMul, ↓reduceIte, forall_const, eq_self, ne_eq, Option.some.injEq, beq_self_eq_true]) | refine fin_ndec (fun hc => ?_) (fun hc => ?_) | refine fin_dec (fun hc => ?_) (fun hc => ?_) | refine cnd_ndec (fun hc => ?_) (fun hc => ?_) | refine cnd_dec' (fun hc => ?_) (fun hc => ?_) | refine fin_nsplit (fun hc => ?_) (fun hc => ?_) | refine fin_split (fun hc => ?_) (fun hc => ?_) | refine cnd_nsplit (fun hc => ?_) (fun hc => ?_) | refine cnd_split (fun hc => ?_) (fun hc => ?_) | refine blk_exit_id ?_)
      all_goals simp
  · cases h

theorem by1 {n : Nat} (h : n < 10) : bytesOf [[.int .u8 (48 + (n : Int))]] = some [digU n] := by simp only [bytesOf, byte_dig n h, Option.bind_some]
theorem by2 {n m : Nat} (h : n < 10) (h2 : m < 10) : bytesOf [[.int .u8 (48 + (n : Int))], [.int .u8 (48 + (m : Int))]] = some [digU n, digU m] := by simp only [bytesOf, byte_dig n h, byte_dig m h2, Option.bind_some]
theorem cvU_by {es : List (List D)} {l : List UInt8} (h : bytesOf es = some l) : cvU true es = some (.str l) := by simp only [cvU, if_true, h, Option.map_some]

/-- By the depth of the calls. -/
def digK (k : Nat) : List PA → Option (List PA) := mE encU fun a => if decide (a < 10 ^ k ∧ a ≤ 18446744073709551615) = true then some [.s (Lib.decDigits a)] else none
theorem digK_at {k a : Nat} (h : a < 10 ^ k) (h2 : a ≤ 18446744073709551615) : digK k [.c (.int .u64 (a : Int))] = some [.s (Lib.decDigits a)] := by
  rw [digK, show ([.c (.int .u64 (a : Int))] : List PA) = encU a from rfl, mE_eq encU_inj, if_pos (decide_eq_true ⟨h, h2⟩)]
theorem dig_small {tab : Tab} {a : Nat} {Q : Ex → S → Prop} (ha : a < 10) (hQ : ∀ s, look s.t 2 = .v (.c (.d (.str (Lib.decDigits a)))) → Q .ret s) : ∀ {c : Code}, Tryd.f55.body = some c → awp (ctx Tryd.prog Gt tab) c ⟨argSlots 0 [.c (.int .u64 (a : Int))], []⟩ Q := by
  rintro c ⟨⟩
  have h1 : ((a : Int) < 10) = True := eq_true (by omega)
  have w1 : IntKind.u64.wrap (48 + (a : Int)) = 48 + (a : Int) := wU64 (by omega) (by omega)
  have w2 : IntKind.u8.wrap (48 + (a : Int)) = 48 + (a : Int) := wU8 (by omega) (by omega)
  have hb := cvU_by (by1 ha)
  have hd : Lib.decDigits a = [digU a] := by rw [dec_small ha, digU, Nat.mod_eq_of_lt ha]
  have hc := Nat.zero_add 0
  repeat' (first | (simp only [hc, SX, cv_sl, h1, w1, w2, hb, AB, PL, RG, LP, TY, Nat.reduceEqDiff, Nat.reduceAdd, Nat.reduceSub, Nat.reduceMul, Nat.reduceLT, Nat.reduceLeDiff, Nat.reduceMod, Nat.reduceDiv, reduceCtorEq, Int.reduceEq, Int.reduceNe, Int.reduceLT, Int.reduceLE, Int.reduceNeg, Int.reduceToNat, Int.reduceAdd, Int.reduceSub, Int.reduceMul, ↓reduceIte, forall_const, eq_self, ne_eq, Option.some.injEq, beq_self_eq_true]) | refine fin_ndec (fun hc => ?_) (fun hc => ?_) | refine fin_dec (fun hc => ?_) (fun hc => ?_) | refine cnd_ndec (fun hc => ?_) (fun hc => ?_) | refine cnd_dec' (fun hc => ?_) (fun hc => ?_) | refine fin_nsplit (fun hc => ?_) (fun hc => ?_) | refine fin_split (fun hc => ?_) (fun hc => ?_) | refine cnd_nsplit (fun hc => ?_) (fun hc => ?_) | refine cnd_split (fun hc => ?_) (fun hc => ?_) | refine blk_exit_id ?_)
  exact hQ _ (by rw [hd]; rfl)
theorem rdigits_k : ∀ k, PureC Tryd.prog Gt 55 (digK k)
  | 0 => by
    refine pure_of_awp (X := ctx Tryd.prog Gt []) Tryd.func55 rfl rfl (by kernel_rfl) (by kernel_rfl) AllOk.nil.kok ?_
    intro args r h0
    obtain ⟨a, rfl, h⟩ := mE_inv h0
    refine ⟨Nat.le_of_ble_eq_true rfl, ?_⟩
    split at h
    · rename_i hc
      obtain ⟨hc1, hc2⟩ := of_decide_eq_true hc
      cases h
      refine dig_small (by simp at hc1; omega) (fun s hs => ?_) rfl
      show resAll _ s [.tmp 2] = _
      simp [resAll, resOne, S.get, hs, AV.pa, AV.dv, C1.toD]
    · cases h
  | k + 1 => by
    refine pure_of_awp (X := ctx Tryd.prog Gt [(55, digK k)]) Tryd.func55 rfl rfl (by kernel_rfl) (by kernel_rfl) (AllOk.cons (rdigits_k k) AllOk.nil).kok ?_
    intro args r h0
    obtain ⟨a, rfl, h⟩ := mE_inv h0
    refine ⟨Nat.le_of_ble_eq_true rfl, ?_⟩
    split at h
    · rename_i hc
      obtain ⟨hc1, hc2⟩ := of_decide_eq_true hc
      cases h
      by_cases ha : a < 10
      · refine dig_small ha (fun s hs => ?_) rfl
        show resAll _ s [.tmp 2] = _
        simp [resAll, resOne, S.get, hs, AV.pa, AV.dv, C1.toD]
      · have h1 : ((a : Int) < 10) = False := eq_false (by omega)
        have f1 := digK_at (k := k) (a := a / 10) (by rw [Nat.pow_succ] at hc1; omega) (by omega)
        have w0 := wU64 (n := ((a / 10 : Nat) : Int)) (by omega) (by omega)
        have w1 : IntKind.u64.wrap (48 + ((a % 10 : Nat) : Int)) = 48 + ((a % 10 : Nat) : Int) := wU64 (by omega) (by omega)
        have w2 : IntKind.u8.wrap (48 + ((a % 10 : Nat) : Int)) = 48 + ((a % 10 : Nat) : Int) := wU8 (by omega) (by omega)
        have hb := cvU_by (by1 (n := a % 10) (by omega))
        have hd : Lib.decDigits a = Lib.decDigits (a / 10) ++ [digU (a % 10)] := by rw [dec_big ha, digU, Nat.mod_mod]
        have hl := dec_le 20 (a / 10) (by rw [p20]; omega) (by omega)
        have q1 := td10 a
        have q2 := tm10 a
        generalize a / 10 = x at *
        generalize a % 10 = y at *
        have k1 : ((Lib.decDigits x).length + 1 ≤ 4611686018427387904) = True := eq_true (by omega)
        generalize Lib.decDigits x = q at *
        generalize Lib.decDigits a = d at *
        have hc := Nat.zero_add 0
        repeat' (first | (simp only [hc, Tryd.f55, encU, SX, cv_sl, h1, q1, q2, w0, w1, w2, hb, f1, k1, AB, PL, RG, LP, TY, Nat.reduceEqDiff, Nat.reduceAdd, Nat.reduceSub, Nat.reduceMul, Nat.reduceLT, Nat.reduceLeDiff, Nat.reduceMod, Nat.reduceDiv, reduceCtorEq, Int.reduceEq, Int.reduceNe, Int.reduceLT, Int.reduceLE, Int.reduceNeg, Int.reduceToNat, Int.reduceAdd, Int.reduceSub, Int.reduceMul, ↓reduceIte, forall_const, eq_self, ne_eq, Option.some.injEq, beq_self_eq_true]) | refine fin_ndec (fun hc => ?_) (fun hc => ?_) | refine fin_dec (fun hc => ?_) (fun hc => ?_) | refine cnd_ndec (fun hc => ?_) (fun hc => ?_) | refine cnd_dec' (fun hc => ?_) (fun hc => ?_) | refine fin_nsplit (fun hc => ?_) (fun hc => ?_) | refine fin_split (fun hc => ?_) (fun hc => ?_) | refine cnd_nsplit (fun hc => ?_) (fun hc => ?_) | refine cnd_split (fun hc => ?_) (fun hc => ?_) | refine blk_exit_id ?_)
        all_goals simp [hd]
    · cases h
theorem rdigits_ok : PureC Tryd.prog Gt 55 rdigits_m := by
  have h := rdigits_k 20
  refine ⟨h.1, fun w F vs args r hlt hG hvs hrel hm => h.2 w F vs args r hlt hG hvs hrel ?_⟩
  obtain ⟨a, rfl, hg⟩ := mE_inv hm
  split at hg
  · rename_i hc
    have hc := of_decide_eq_true hc
    cases hg
    exact digK_at (by rw [p20]; omega) hc
  · cases hg

theorem mshow_ok : PureC Tryd.prog Gt 31 mshow_m := by
  refine pure_of_awp (X := ctx Tryd.prog Gt [(51, msize_m), (52, fmtU_m)]) Tryd.func31 rfl rfl (by kernel_rfl) (by kernel_rfl) (AllOk.cons msize_ok (AllOk.cons fmtU_ok AllOk.nil)).kok ?_
  intro args r h0
  obtain ⟨n, rfl, h⟩ := m1_inv h0
  refine ⟨Nat.le_of_ble_eq_true rfl, ?_⟩
  split at h
  · rename_i hn0
    have hn := inI_iff.1 hn0
    cases h
    have f0 : msize_m [.c (.int .i64 n)] = some [.c (.int .u64 (n.natAbs : Int))] := by rw [msize_m, m1_eq, if_pos hn0]
    have hu : n.natAbs ≤ 9223372036854775808 := by omega
    have hs : showF n = (if n < 0 then [45] else []) ++ (Lib.decDigits (n.natAbs / 100) ++ 46 :: [digU (n.natAbs / 10), digU n.natAbs]) := rfl
    generalize n.natAbs = u at *
    have f1 := fmtU_at (a := u / 100) (by omega)
    have hl := dec_le 20 (u / 100) (by rw [p20]; omega) (by omega)
    have e1 : u % 100 / 10 < 10 := by omega
    have e2 : u % 10 < 10 := by omega
    have g1 : digU (u % 100 / 10) = digU (u / 10) := by unfold digU; congr 2; omega
    have g2 : digU (u % 10) = digU u := by unfold digU; congr 2; omega
    have hb := cvU_by (by2 e1 e2)
    rw [g1, g2] at hb
    have w0 := wU64 (n := ((u / 100 : Nat) : Int)) (by omega) (by omega)
    have w1 := wU64 (n := ((u % 100 / 10 : Nat) : Int)) (by omega) (by omega)
    have w2 := wU8 (n := ((u % 100 / 10 : Nat) : Int)) (by omega) (by omega)
    have w3 := wU8 (n := ((u % 10 : Nat) : Int)) (by omega) (by omega)
    have w4 := wU8 (n := 48 + ((u % 100 / 10 : Nat) : Int)) (by omega) (by omega)
    have w5 := wU8 (n := 48 + ((u % 10 : Nat) : Int)) (by omega) (by omega)
    have w6 := wU64 (n := ((u % 10 : Nat) : Int)) (by omega) (by omega)
    have q1 := td100 u
    have q2 := tm100 u
    have q3 := td10 (u % 100)
    have q4 := tm10 u
    generalize Lib.decDigits (u / 100) = q at *
    generalize u / 100 = x1 at *
    generalize u % 100 / 10 = x2 at *
    generalize u % 100 = x3 at *
    generalize u % 10 = x4 at *
    have k1 : (q.length + 1 ≤ 4611686018427387904) = True := eq_true (by omega)
    have m1 : (q ++ [46]).length = q.length + 1 := by simp
    have k2 : (q.length + 1 + 2 ≤ 4611686018427387904) = True := eq_true (by omega)
    have k3 : (1 + (q ++ [46] ++ [digU (u / 10), digU u]).length ≤ 4611686018427387904) = True := eq_true (by simp; omega)
    by_cases hneg : n < 0
    · rw [if_pos hneg] at hs
      have hc := Nat.zero_add 0
      repeat' (first | (simp only [hc, Tryd.f31, SX, cv_sl, f0, f1, q1, q2, q3, q4, w0, w1, w2, w3, w4, w5, w6, hb, k1, m1, k2, k3, hneg, AB, PL, RG, LP, TY, Nat.reduceEqDiff, Nat.reduceAdd, Nat.reduceSub, Nat.reduceMul, Nat.reduceLT, Nat.reduceLeDiff, Nat.reduceMod, Nat.reduceDiv, reduceCtorEq, Int.reduceEq, Int.reduceNe, Int.reduceLT, Int.reduceLE, Int.reduceNeg, Int.reduceToNat, Int.reduceAdd, Int.reduceSub, Int.reduceMul, ↓reduceIte, forall_const, eq_self, ne_eq, Option.some.injEq, beq_self_eq_true]) | refine fin_ndec (fun hc => ?_) (fun hc => ?_) | refine fin_dec (fun hc => ?_) (fun hc => ?_) | refine cnd_ndec (fun hc => ?_) (fun hc => ?_) | refine cnd_dec' (fun hc => ?_) (fun hc => ?_) | refine fin_nsplit (fun hc => ?_) (fun hc => ?_) | refine fin_split (fun hc => ?_) (fun hc => ?_) | refine cnd_nsplit (fun hc => ?_) (fun hc => ?_) | refine cnd_split (fun hc => ?_) (fun hc => ?_) | refine blk_exit_id ?_)
      all_goals simp [hs]
    · rw [if_neg hneg] at hs
      have hc := Nat.zero_add 0
      repeat' (first | (simp only [hc, Tryd.f31, SX, cv_sl, f0, f1, q1, q2, q3, q4, w0, w1, w2, w3, w4, w5, w6, hb, k1, m1, k2, k3, hneg, AB, PL, RG, LP, TY, Nat.reduceEqDiff, Nat.reduceAdd, Nat.reduceSub, Nat.reduceMul, Nat.reduceLT, Nat.reduceLeDiff, Nat.reduceMod, Nat.reduceDiv, reduceCtorEq, Int.reduceEq, Int.reduceNe, Int.reduceLT, Int.reduceLE, Int.reduceNeg, Int.reduceToNat, Int.reduceAdd, Int.reduceSub, Int.reduceMul, ↓reduceIte, forall_const, eq_self, ne_eq, Option.some.injEq, beq_self_eq_true]) | refine fin_ndec (fun hc => ?_) (fun hc => ?_) | refine fin_dec (fun hc => ?_) (fun hc => ?_) | refine cnd_ndec (fun hc => ?_) (fun hc => ?_) | refine cnd_dec' (fun hc => ?_) (fun hc => ?_) | refine fin_nsplit (fun hc => ?_) (fun hc => ?_) | refine fin_split (fun hc => ?_) (fun hc => ?_) | refine cnd_nsplit (fun hc => ?_) (fun hc => ?_) | refine cnd_split (fun hc => ?_) (fun hc => ?_) | refine blk_exit_id ?_)
      all_goals simp [hs]
  · cases h

theorem rshow_ok : PureC Tryd.prog Gt 36 rshow_m := by
  refine pure_of_awp (X := ctx Tryd.prog Gt [(54, rsize_m), (55, rdigits_m)]) Tryd.func36 rfl rfl (by kernel_rfl) (by kernel_rfl) (AllOk.cons rsize_ok (AllOk.cons rdigits_ok AllOk.nil)).kok ?_
  intro args r h0
  obtain ⟨n, rfl, h⟩ := m1_inv h0
  refine ⟨Nat.le_of_ble_eq_true rfl, ?_⟩
  split at h
  · rename_i hn0
    have hn := inI_iff.1 hn0
    cases h
    have f0 : rsize_m [.c (.int .i64 n)] = some [.c (.int .u64 (n.natAbs : Int))] := by rw [rsize_m, m1_eq, if_pos hn0]
    have hu : n.natAbs ≤ 9223372036854775808 := by omega
    have hs : showF n = (if n < 0 then [45] else []) ++ (Lib.decDigits (n.natAbs / 100) ++ 46 :: [digU (n.natAbs / 10), digU n.natAbs]) := rfl
    generalize n.natAbs = u at *
    have f1 := rdigits_at (a := u / 100) (by omega)
    have f2 := rdigits_at (a := u / 10 % 10) (by omega)
    have f3 := rdigits_at (a := u % 10) (by omega)
    have hl := dec_le 20 (u / 100) (by rw [p20]; omega) (by omega)
    have d2 : Lib.decDigits (u / 10 % 10) = [digU (u / 10)] := by rw [dec_small (by omega), digU]
    have d3 : Lib.decDigits (u % 10) = [digU u] := by rw [dec_small (by omega), digU]
    rw [d2] at f2
    rw [d3] at f3
    have w0 := wU64 (n := ((u / 100 : Nat) : Int)) (by omega) (by omega)
    have w1 := wU64 (n := ((u / 10 : Nat) : Int)) (by omega) (by omega)
    have q1 := td100 u
    have q2 := td10 u
    have q3 := tm10 (u / 10)
    have q4 := tm10 u
    generalize Lib.decDigits (u / 100) = q at *
    generalize hy1 : digU (u / 10) = y1 at *
    generalize u / 100 = x1 at *
    generalize u / 10 % 10 = x2 at *
    generalize u / 10 = x3 at *
    generalize u % 10 = x4 at *
    have k1 : (q.length + 1 ≤ 4611686018427387904) = True := eq_true (by omega)
    have m1 : (q ++ [46]).length = q.length + 1 := by simp
    have m2 : (q ++ [46] ++ [y1]).length = q.length + 2 := by simp
    have k2 : (q.length + 1 + 1 ≤ 4611686018427387904) = True := eq_true (by omega)
    have k4 : (q.length + 2 + 1 ≤ 4611686018427387904) = True := eq_true (by omega)
    have k3 : (1 + (q ++ [46] ++ [y1] ++ [digU u]).length ≤ 4611686018427387904) = True := eq_true (by simp; omega)
    by_cases hneg : n < 0
    · rw [if_pos hneg] at hs
      have hc := Nat.zero_add 0
      repeat' (first | (simp only [hc, Tryd.f36, SX, f0, f1, f2, f3, q1, q2, q3, q4, w0, w1, k1, m1, m2, k2, k3, k4, hneg, AB, PL, RG, LP, TY, Nat.reduceEqDiff, Nat.reduceAdd, Nat.reduceSub, Nat.reduceMul, Nat.reduceLT, Nat.reduceLeDiff, Nat.reduceMod, Nat.reduceDiv, reduceCtorEq, Int.reduceEq, Int.reduceNe, Int.reduceLT, Int.reduceLE, Int.reduceNeg, Int.reduceToNat, Int.reduceAdd, Int.reduceSub, Int.reduceMul, ↓reduceIte, forall_const, eq_self, ne_eq, Option.some.injEq, beq_self_eq_true]) | refine fin_ndec (fun hc => ?_) (fun hc => ?_) | refine fin_dec (fun hc => ?_) (fun hc => ?_) | refine cnd_ndec (fun hc => ?_) (fun hc => ?_) | refine cnd_dec' (fun hc => ?_) (fun hc => ?_) | refine fin_nsplit (fun hc => ?_) (fun hc => ?_) | refine fin_split (fun hc => ?_) (fun hc => ?_) | refine cnd_nsplit (fun hc => ?_) (fun hc => ?_) | refine cnd_split (fun hc => ?_) (fun hc => ?_) | refine blk_exit_id ?_)
      all_goals simp [hs]
    · rw [if_neg hneg] at hs
      have hc := Nat.zero_add 0
      repeat' (first | (simp only [hc, Tryd.f36, SX, f0, f1, f2, f3, q1, q2, q3, q4, w0, w1, k1, m1, m2, k2, k3, k4, hneg, AB, PL, RG, LP, TY, Nat.reduceEqDiff, Nat.reduceAdd, Nat.reduceSub, Nat.reduceMul, Nat.reduceLT, Nat.reduceLeDiff, Nat.reduceMod, Nat.reduceDiv, reduceCtorEq, Int.reduceEq, Int.reduceNe, Int.reduceLT, Int.reduceLE, Int.reduceNeg, Int.reduceToNat, Int.reduceAdd, Int.reduceSub, Int.reduceMul, ↓reduceIte, forall_const, eq_self, ne_eq, Option.some.injEq, beq_self_eq_true]) | refine fin_ndec (fun hc => ?_) (fun hc => ?_) | refine fin_dec (fun hc => ?_) (fun hc => ?_) | refine cnd_ndec (fun hc => ?_) (fun hc => ?_) | refine cnd_dec' (fun hc => ?_) (fun hc => ?_) | refine fin_nsplit (fun hc => ?_) (fun hc => ?_) | refine fin_split (fun hc => ?_) (fun hc => ?_) | refine cnd_nsplit (fun hc => ?_) (fun hc => ?_) | refine cnd_split (fun hc => ?_) (fun hc => ?_) | refine blk_exit_id ?_)
      all_goals simp [hs]
  · cases h

theorem mshow_at {n : Int} (h : inI n = true) : mshow_m [.c (.int .i64 n)] = some [.s (showF n)] := by rw [mshow_m, m1_eq, if_pos h]
theorem rshow_at {n : Int} (h : inI n = true) : rshow_m [.c (.int .i64 n)] = some [.s (showF n)] := by rw [rshow_m, m1_eq, if_pos h]

end
end Go.Ab
