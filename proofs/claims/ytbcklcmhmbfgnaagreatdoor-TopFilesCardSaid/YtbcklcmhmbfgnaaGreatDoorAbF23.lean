/-
  Texts of the layer and of the laws, put together: AbQ1, AbW1, AbP2.
-/
import Derived.Test.YtbcklcmhmbfgnaaGreatDoorAbF21
import Derived.Test.YtbcklcmhmbfgnaaGreatDoorAbF22
import Derived.Test.YtbcklcmhmbfgnaaGreatDoorAbF20
import Derived.Test.YtbcklcmhmbfgnaaGreatDoorAbF19
import Derived.Test.YtbcklcmhmbfgnaaGreatDoorAbF16
import Derived.Lib.Walk
import Derived.Lib.ItoaMem
import Derived.WalkKit
import Derived.BigCall
import Derived.BigGuard
set_option linter.unusedSimpArgs false
set_option linter.unusedVariables false
set_option maxRecDepth 100000
namespace Go.Ab
open Go.RowKit Go.Proofs
def lineF (l : List (List UInt8)) : List UInt8 := Lib.join l [32] ++ [10]
theorem dec_le : ∀ (k u : Nat), u < 10 ^ k → 0 < k → (Lib.decDigits u).length ≤ k
  | 0, u, _, h => by omega
  | k + 1, u, hu, _ => by
    by_cases hs : u < 10
    · rw [dec_small hs]; simp
    rw [dec_big hs, List.length_append, List.length_singleton]
    have hk : 0 < k := by
      rcases Nat.eq_zero_or_pos k with rfl | h
      · simp at hu; omega
      exact h
    have := dec_le k (u / 10) (by rw [Nat.pow_succ] at hu; omega) hk
    omega
theorem p20 : (10 : Nat) ^ 20 = 100000000000000000000 := by decide
theorem itoa_le {n : Int} (h : inI n = true) : (Lib.itoa n).length ≤ 30 := by
  have h := inI_iff.1 h
  rw [itoa_spec]
  split
  · have := dec_le 20 n.natAbs (by rw [p20]; omega) (by omega)
    simp only [List.length_cons]; omega
  have := dec_le 20 n.toNat (by rw [p20]; omega) (by omega)
  omega
theorem show_le {n : Int} (h : inI n = true) : (showF n).length ≤ 30 := by
  have h := inI_iff.1 h
  have := dec_le 20 (n.natAbs / 100) (by rw [p20]; omega) (by omega)
  unfold showF
  split <;> (simp only [List.length_append, List.length_cons, List.length_nil]; omega)
theorem jt_le (m : Nat) : ∀ l : List (List UInt8), (∀ p ∈ l, p.length ≤ m) → (Lib.joinTail [32] l).length ≤ (m + 1) * l.length
  | [], _ => by simp [Lib.joinTail]
  | p :: l, h => by
    rw [jt_cons']
    have := jt_le m l (fun q hq => h q (List.mem_cons_of_mem _ hq))
    have hp := h p List.mem_cons_self
    simp only [List.length_append, List.length_cons, Nat.mul_add, Nat.mul_one]
    omega
where jt_cons' {p : List UInt8} {r : List (List UInt8)} : Lib.joinTail [32] (p :: r) = 32 :: p ++ Lib.joinTail [32] r := by simp [Lib.joinTail]
theorem join_le (m : Nat) (l : List (List UInt8)) (h : ∀ p ∈ l, p.length ≤ m) : (Lib.join l [32]).length ≤ (m + 1) * l.length := by
  cases l with
  | nil => simp [Lib.join, List.intercalate]
  | cons p l =>
    rw [Lib.join_cons]
    have := jt_le m l (fun q hq => h q (List.mem_cons_of_mem _ hq))
    have hp := h p List.mem_cons_self
    simp only [List.length_append, List.length_cons, Nat.mul_add, Nat.mul_one]
    omega
end Go.Ab
namespace Go.Ab
open Go.RowKit Go.Proofs Go.Lib Go.Sort
theorem holds_zero0 (w : World) (T : TypeId) (nd : Nat) (hs : nd ≤ 24) : Holds (fun (b : UInt8) => Value.int .u8 (b.toNat : Int)) (w.alloc (.cells zeros24 T)) w.heap.size 0 (Array.replicate nd (0 : UInt8)) := fun j hj => by
  have hj' : j < nd := by simpa using hj
  refine ⟨?_, World.frozen?_alloc_new _ _ _ _⟩
  rw [World.cell?_alloc_new, zeros24_at _ (by omega), getElem!_pos _ j hj]
  simp
theorem fin_zero (w : World) (o : Obj) (dk : Array UInt8) (k : Nat) : ∃ os, (putRow (fun (b : UInt8) => Value.int .u8 (b.toNat : Int)) (w.alloc o) w.heap.size 0 dk).drewN k = grow (w.drewN k) os := by
  rw [alloc_eq_grow]
  obtain ⟨os', _, e⟩ := putRow_grow_new (fun (b : UInt8) => Value.int .u8 (b.toNat : Int)) w #[o] w.heap.size 0 dk (Nat.le_refl _)
  exact ⟨os', by rw [e]; rfl⟩
theorem ntmpsU : Tryz.f70.ntmps = 32 := rfl
set_option maxHeartbeats 6400000 in
theorem ifmtU_walk (u : Nat) (hu64 : u < 18446744073709551616) (w : World) (htab : TabIs Tryz.prog w "internal/strconv.uint64pow10" .u64 pow10Tab) :
    Calls Tryz.prog 70 #[.int .u64 u, .int .i64 10] w fun e w' => e = .returned (.string ⟨(decDigits u).toArray⟩) ∧ ∃ k os, w' = grow (w.drewN k) os := by
  have L := Tryz.laysM246
  have mixed := L.mixed
  have t3 := Tryz.underlying3; have a3 := Tryz.isAgg3; have z3 := Tryz.sizeOf3; have v3 := Tryz.zeroValue3
  have t4 := Tryz.underlying4; have a4 := Tryz.isAgg4; have z4 := Tryz.sizeOf4; have v4 := Tryz.zeroValue4
  have t5 := Tryz.underlying5; have a5 := Tryz.isAgg5; have z5 := Tryz.sizeOf5; have v5 := Tryz.zeroValue5
  have t9 := Tryz.underlying9; have a9 := Tryz.isAgg9; have z9 := Tryz.sizeOf9; have v9 := Tryz.zeroValue9
  have t0 := Tryz.underlying0; have a0 := Tryz.isAgg0; have z0 := Tryz.sizeOf0; have v0 := Tryz.zeroValue0
  have t124 := Tryz.underlying62; have a124 := Tryz.isAgg62; have z124 := Tryz.sizeOf62; have v124 := Tryz.zeroValue62
  have t126 := Tryz.underlying98; have a126 := Tryz.isAgg98; have z126 := Tryz.sizeOf98; have v126 := Tryz.zeroValue98
  have t156 := Tryz.underlying134; have a156 := Tryz.isAgg134; have z156 := Tryz.sizeOf134; have v156 := Tryz.zeroValue134
  have e94 : ∀ args w, (callFunc 83 args).run Tryz.prog w = .ok (.enter 83 args) w := enters_of Tryz.func83 (by kernel_rfl) rfl
  have e95 : ∀ args w, (callFunc 84 args).run Tryz.prog w = .ok (.enter 84 args) w := enters_of Tryz.func84 (by kernel_rfl) rfl
  have e96 : ∀ args w, (callFunc 85 args).run Tryz.prog w = .ok (.enter 85 args) w := enters_of Tryz.func85 (by kernel_rfl) rfl
  by_cases hs : u < 100
  · have hsm : ∀ w, Calls Tryz.prog 83 #[.int .i64 (u : Int)] w fun e w' => e = .returned (.string ⟨(decDigits u).toArray⟩) ∧ w' = w := fun w => Any.internal_strconv_small { L with } u hs w
    go_enter Tryz.func70, ntmpsU
    go_wp2_with (go_at_fn 83; refine (hsm _).mono ?_; rintro e w' ⟨rfl, rfl⟩)
    go_ret
    exact ⟨rfl, 0, #[], by simp [World.drewN_zero]⟩
  have hu1 : 1 ≤ u := by omega
  have hnd20 : nDigits u ≤ 20 := by have := numDigits_eq u hu1 hu64; split at this <;> omega
  have hb3 : nDigits u ≤ 24 := by omega
  have hal : Tryz.prog.arrayLen 134 = 24 := by simp [Program.arrayLen, t156]
  have hsl1 : ∀ W, (Instr.sliceAt 134 (.pointer (some ⟨w.heap.size, 0, none⟩)) none (some (.int .i64 (nDigits u : Int))) none).run Tryz.prog W = .ok (.slice (some ⟨w.heap.size, 0, none⟩) (nDigits u) 24) W := fun W => by
    rw [run_sliceAt_array_h W 134 ⟨w.heap.size, 0, none⟩ (by simp [Program.arrayLen, Program.elem, t156]) .i64 (nDigits u : Int) (by omega) (by rw [hal]; omega)]
    go_simp
  have hH0 := holds_zero0 w 134 (nDigits u) (by omega)
  have hfmt : Calls Tryz.prog 85 #[.slice (some ⟨w.heap.size, 0, none⟩) (Array.replicate (nDigits u) (0 : UInt8)).size 24, .int .u64 u] (w.alloc (.cells zeros24 134)) fun e w' =>
    e = .returned (.tuple #[]) ∧ ∃ (n v' : Nat) (dk : Array UInt8), w' = (putRow (fun (b : UInt8) => Value.int .u8 (b.toNat : Int)) (w.alloc (.cells zeros24 134)) w.heap.size 0 dk).drewN n ∧ FmtInv (Array.replicate (nDigits u) (0 : UInt8)).size u 0 v' dk :=
    Any.internal_strconv_formatBase10 { L with } w.heap.size 0 24 u (Array.replicate (nDigits u) 0) (w.alloc (.cells zeros24 134)) hH0 (by rw [Array.size_replicate]; exact lt_pow_nDigits u) hu64 (by rw [Array.size_replicate]; omega)
  rw [Array.size_replicate] at hfmt
  have hnum : ∀ w, TabIs Tryz.prog w "internal/strconv.uint64pow10" .u64 pow10Tab → Calls Tryz.prog 84 #[.int .u64 (u : Int)] w fun e w' => e = .returned (.int .i64 (nDigits u)) ∧ w' = w := fun w h => Any.internal_strconv_numDigits { L with } u hu1 hu64 w h
  have HH0 := Lib.hid hH0
  clear hH0 hal
  go_enter Tryz.func70, ntmpsU
  go_wp2_with (first
    | (go_at_fn 84; refine (hnum _ (tabIs_alloc htab _)).mono ?_; rintro e w' ⟨rfl, rfl⟩))
  go_at_fn 85
  refine hfmt.mono ?_
  rintro e w' ⟨rfl, k, v', dk, rfl, hF⟩
  have hcv : (convert 62 9 (.slice (some ⟨w.heap.size, 0, none⟩) (nDigits u) 24)).run Tryz.prog ((putRow (fun (b : UInt8) => Value.int .u8 (b.toNat : Int)) (w.alloc (.cells zeros24 134)) w.heap.size 0 dk).drewN k) = .ok (.string ⟨(decDigits u).toArray⟩) ((putRow (fun (b : UInt8) => Value.int .u8 (b.toNat : Int)) (w.alloc (.cells zeros24 134)) w.heap.size 0 dk).drewN k) := by
    have h := run_convert_bytes_back (P := Tryz.prog) ((putRow (fun (b : UInt8) => Value.int .u8 (b.toNat : Int)) (w.alloc (.cells zeros24 134)) w.heap.size 0 dk).drewN k) 62 9 5 ⟨w.heap.size, 0, none⟩ 24 (decDigits u) t124 t5 t9 (fun j hj => by
      rw [row_is_numeral hF j hj, add_plain, World.cell?_drewN]
      exact cell?_putRow (fun (b : UInt8) => Value.int .u8 (b.toNat : Int)) _ w.heap.size 0 _ dk HH0.out (by rw [hF.size, Array.size_replicate]) j (by rw [hF.size]; rw [decDigits_length] at hj; exact hj))
    rw [decDigits_length] at h
    exact h
  go_wp2
  go_ret
  obtain ⟨os, eo⟩ := fin_zero w (.cells zeros24 134) dk k
  exact ⟨rfl, k, os, eo⟩
end Go.Ab
namespace Go.Ab
open Go.RowKit Go.Proofs
noncomputable section
def encU10 (a : Nat) : List PA := [.c (.int .u64 (a : Int)), .c (.int .i64 10)]
theorem encU10_inj (a b : Nat) (h : encU10 a = encU10 b) : a = b := by simp [encU10] at h; omega
def ifmtU_m : List PA → Option (List PA) := mE encU10 fun a => if decide (a ≤ 18446744073709551615) = true then some [.c (.str (Lib.decDigits a))] else none
def fmtU_m : List PA → Option (List PA) := mE encU10 fun a => if decide (a ≤ 18446744073709551615) = true then some [.c (.str (Lib.decDigits a))] else none
def msize_m : List PA → Option (List PA) := m1 fun n => if inI n = true then some [.c (.int .u64 (n.natAbs : Int))] else none
def mshow_m : List PA → Option (List PA) := m1 fun n => if inI n = true then some [.s (showF n)] else none
theorem fmtU_at {a : Nat} (h : a ≤ 18446744073709551615) : fmtU_m [.c (.int .u64 (a : Int)), .c (.int .i64 10)] = some [.c (.str (Lib.decDigits a))] := by
  rw [fmtU_m, show ([.c (.int .u64 (a : Int)), .c (.int .i64 10)] : List PA) = encU10 a from rfl, mE_eq encU10_inj, if_pos (decide_eq_true h)]
theorem ifmtU_at {a : Nat} (h : a ≤ 18446744073709551615) : ifmtU_m [.c (.int .u64 (a : Int)), .c (.int .i64 10)] = some [.c (.str (Lib.decDigits a))] := by
  rw [ifmtU_m, show ([.c (.int .u64 (a : Int)), .c (.int .i64 10)] : List PA) = encU10 a from rfl, mE_eq encU10_inj, if_pos (decide_eq_true h)]
theorem ifmtU_ok : PureC Tryz.prog Gt 70 ifmtU_m := by
  refine ⟨fun vs w => enters_of Tryz.func70 (by kernel_rfl) rfl vs w, fun w F vs args r hlt hG hvs hrel hm => ?_⟩
  obtain ⟨a, rfl, hg⟩ := mE_inv hm
  split at hg
  · rename_i hc
    cases hg
    have hc := of_decide_eq_true hc
    have h1 : vs.getD 0 undef = .int .u64 (a : Int) := by
      have : Rd w F (vs.getD 0 undef) (.int .u64 (a : Int)) := hrel 0 _ rfl
      generalize vs.getD 0 undef = v at this
      cases this; rfl
    have h2 : vs.getD 1 undef = .int .i64 10 := by
      have : Rd w F (vs.getD 1 undef) (.int .i64 10) := hrel 1 _ rfl
      generalize vs.getD 1 undef = v at this
      cases this; rfl
    rw [two_args hvs, h1, h2]
    refine (ifmtU_walk a (by omega) w hG.2.1).mono fun e w' ⟨he, k, os, hw⟩ => ⟨_, he, str_rd _, ?_⟩
    rw [hw]
    exact ⟨below_grow w k os, fun h => by cases h⟩
  cases hg
theorem fmtU_ok : PureC Tryz.prog Gt 50 fmtU_m := by
  refine pure_of_awp (X := ctx Tryz.prog Gt [(70, ifmtU_m)]) Tryz.func50 rfl rfl (by kernel_rfl) (by kernel_rfl) (AllOk.cons ifmtU_ok AllOk.nil).kok ?_
  intro args r h0
  obtain ⟨a, rfl, h⟩ := mE_inv h0
  refine ⟨Nat.le_of_ble_eq_true rfl, ?_⟩
  split at h
  · rename_i hc
    have hc := of_decide_eq_true hc
    cases h
    have f1 := ifmtU_at hc
    have hc := Nat.zero_add 0
    repeat' (first | simp only [hc, Tryz.f50, encU10, SX, f1, ZZ, simprocAttr, ↓reduceIte] | ((first | apply Za | apply Zb | apply Zc | apply Zd | apply Ze | apply Zf | apply Zg | apply Zh) <;> intro hc) | refine Zj ?_)
    all_goals simp
  cases h
theorem msize_ok : PureC Tryz.prog Gt 49 msize_m := by
  refine pure_of_awp (X := ctx Tryz.prog Gt []) Tryz.func49 rfl rfl (by kernel_rfl) (by kernel_rfl) AllOk.nil.kok ?_
  intro args r h0
  obtain ⟨n, rfl, h⟩ := m1_inv h0
  refine ⟨Nat.le_of_ble_eq_true rfl, ?_⟩
  split at h
  · rename_i hn
    have hn := inI_iff.1 hn
    cases h
    by_cases hneg : n < 0
    · have w1 : IntKind.u64.wrap (0 - IntKind.u64.wrap n) = (n.natAbs : Int) := by rw [IntKind.wrap_u64, IntKind.wrap_u64]; omega
      have hc := Nat.zero_add 0
      repeat' (first | simp only [hc, Tryz.f49, hneg, w1, ZZ, simprocAttr, ↓reduceIte] | ((first | apply Za | apply Zb | apply Zc | apply Zd | apply Ze | apply Zf | apply Zg | apply Zh) <;> intro hc) | refine Zj ?_)
      all_goals simp
    have w1 : IntKind.u64.wrap n = (n.natAbs : Int) := by rw [IntKind.wrap_u64]; omega
    have hc := Nat.zero_add 0
    repeat' (first | simp only [hc, Tryz.f49, hneg, w1, ZZ, simprocAttr, ↓reduceIte] | ((first | apply Za | apply Zb | apply Zc | apply Zd | apply Ze | apply Zf | apply Zg | apply Zh) <;> intro hc) | refine Zj ?_)
    all_goals simp
  cases h
theorem by2 {n m : Nat} (h : n < 10) (h2 : m < 10) : bytesOf [[.int .u8 (48 + (n : Int))], [.int .u8 (48 + (m : Int))]] = some [digU n, digU m] := by simp only [bytesOf, byte_dig n h, byte_dig m h2, Option.bind_some]
theorem cvU_by {es : List (List D)} {l : List UInt8} (h : bytesOf es = some l) : cvU true es = some (.str l) := by simp only [cvU, if_true, h, Option.map_some]
theorem mshow_ok : PureC Tryz.prog Gt 28 mshow_m := by
  refine pure_of_awp (X := ctx Tryz.prog Gt [(49, msize_m), (50, fmtU_m)]) Tryz.func28 rfl rfl (by kernel_rfl) (by kernel_rfl) (AllOk.cons msize_ok (AllOk.cons fmtU_ok AllOk.nil)).kok ?_
  intro args r h0
  obtain ⟨n, rfl, h⟩ := m1_inv h0
  refine ⟨Nat.le_of_ble_eq_true rfl, ?_⟩
  split at h
  · rename_i hn0
    have hn := inI_iff.1 hn0
    cases h
    have f0 : msize_m [.c (.int .i64 n)] = some [.c (.int .u64 (n.natAbs : Int))] := by rw [msize_m, m1_eq, if_pos hn0]
    have hu : n.natAbs ≤ 9223372036854775808 := by omega
    have hs : showF n = (if n < 0 then [45] else []) ++ (Lib.decDigits (n.natAbs / 100) ++ 46 :: [digU (n.natAbs / 10), digU n.natAbs]) := rfl
    generalize n.natAbs = u at *
    have f1 := fmtU_at (a := u / 100) (by omega)
    have hl := dec_le 20 (u / 100) (by rw [p20]; omega) (by omega)
    have e1 : u % 100 / 10 < 10 := by omega
    have e2 : u % 10 < 10 := by omega
    have g1 : digU (u % 100 / 10) = digU (u / 10) := by unfold digU; congr 2; omega
    have g2 : digU (u % 10) = digU u := by unfold digU; congr 2; omega
    have hb := cvU_by (by2 e1 e2)
    rw [g1, g2] at hb
    have w0 := wU64 (n := ((u / 100 : Nat) : Int)) (by omega) (by omega)
    have w1 := wU64 (n := ((u % 100 / 10 : Nat) : Int)) (by omega) (by omega)
    have w2 := wU8 (n := ((u % 100 / 10 : Nat) : Int)) (by omega) (by omega)
    have w3 := wU8 (n := ((u % 10 : Nat) : Int)) (by omega) (by omega)
    have w4 := wU8 (n := 48 + ((u % 100 / 10 : Nat) : Int)) (by omega) (by omega)
    have w5 := wU8 (n := 48 + ((u % 10 : Nat) : Int)) (by omega) (by omega)
    have w6 := wU64 (n := ((u % 10 : Nat) : Int)) (by omega) (by omega)
    have q1 := td100 u
    have q2 := tm100 u
    have q3 := td10 (u % 100)
    have q4 := tm10 u
    generalize Lib.decDigits (u / 100) = q at *
    generalize u / 100 = x1 at *
    generalize u % 100 / 10 = x2 at *
    generalize u % 100 = x3 at *
    generalize u % 10 = x4 at *
    have k1 : (q.length + 1 ≤ 4611686018427387904) = True := eq_true (by omega)
    have m1 : (q ++ [46]).length = q.length + 1 := by simp
    have k2 : (q.length + 1 + 2 ≤ 4611686018427387904) = True := eq_true (by omega)
    have k3 : (1 + (q ++ [46] ++ [digU (u / 10), digU u]).length ≤ 4611686018427387904) = True := eq_true (by simp; omega)
    by_cases hneg : n < 0
    · rw [if_pos hneg] at hs
      have hc := Nat.zero_add 0
      repeat' (first | simp only [hc, Tryz.f28, SX, cv_sl, f0, f1, q1, q2, q3, q4, w0, w1, w2, w3, w4, w5, w6, hb, k1, m1, k2, k3, hneg, ZZ, simprocAttr, ↓reduceIte] | ((first | apply Za | apply Zb | apply Zc | apply Zd | apply Ze | apply Zf | apply Zg | apply Zh) <;> intro hc) | refine Zj ?_)
      all_goals simp [hs]
    rw [if_neg hneg] at hs
    have hc := Nat.zero_add 0
    repeat' (first | simp only [hc, Tryz.f28, SX, cv_sl, f0, f1, q1, q2, q3, q4, w0, w1, w2, w3, w4, w5, w6, hb, k1, m1, k2, k3, hneg, ZZ, simprocAttr, ↓reduceIte] | ((first | apply Za | apply Zb | apply Zc | apply Zd | apply Ze | apply Zf | apply Zg | apply Zh) <;> intro hc) | refine Zj ?_)
    all_goals simp [hs]
  cases h
theorem mshow_at {n : Int} (h : inI n = true) : mshow_m [.c (.int .i64 n)] = some [.s (showF n)] := by rw [mshow_m, m1_eq, if_pos h]
end
end Go.Ab
