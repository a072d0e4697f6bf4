/-
  Texts of the layer and of the laws, put together: AbU7.
-/
import Derived.Test.YtdoofgbeajkpaaaGreatDoorAbWD26
import Derived.Test.YtdoofgbeajkpaaaGreatDoorAbWD21
set_option linter.unusedSimpArgs false
set_option linter.unusedVariables false
set_option maxRecDepth 100000
namespace Go.Ab
open Go.RowKit Go.Proofs
def Par.Ok (p : Par) : Prop := inI p.kind = true ∧ inI p.time = true ∧ inI p.til = true ∧ p.zone.length ≤ 1000000000 ∧ p.plate.length ≤ 1000000000
def plateB (s : List UInt8) : Bool := decide ((plF s).2 = 0 ∧ (plF s).1 = s)
def keyF (p : Par) : List UInt8 := Lib.itoa p.kind ++ [46] ++ p.zone ++ [46] ++ p.plate ++ [46] ++ Lib.itoa p.time ++ [46] ++ Lib.itoa p.til
def encP (p : Par) : List PA := [.agg p.row]
theorem encP_inj (a b : Par) (h : encP a = encP b) : a = b := Par.inj a b (by simpa [encP] using h)
theorem dec_leU : ∀ (k u : Nat), u < 10 ^ k → 0 < k → (Lib.decDigits u).length ≤ k
  | 0, u, _, h => by omega
  | k + 1, u, hu, _ => by
    by_cases hs : u < 10
    · rw [dec_small hs]; simp
    rw [dec_big hs, List.length_append, List.length_singleton]
    have hk : 0 < k := by
      rcases Nat.eq_zero_or_pos k with rfl | h
      · simp at hu; omega
      exact h
    have := dec_leU k (u / 10) (by rw [Nat.pow_succ] at hu; omega) hk
    omega
theorem p20U : (10 : Nat) ^ 20 = 100000000000000000000 := by decide
theorem itoa_leU {n : Int} (h : inI n = true) : (Lib.itoa n).length ≤ 30 := by
  have h := inI_iff.1 h
  rw [itoa_spec]
  split
  · have := dec_leU 20 n.natAbs (by rw [p20U]; omega) (by omega)
    simp only [List.length_cons]; omega
  have := dec_leU 20 n.toNat (by rw [p20U]; omega) (by omega)
  omega
noncomputable section
open Classical
def skey_m : List PA → Option (List PA) := mE encP fun p => if p.Ok then some [.c (.str (keyF p))] else none
def r7key_m : List PA → Option (List PA) := mE encP fun p => if p.Ok then some [.c (.str (keyF p))] else none
theorem tfmt_at {n : Int} (h : inI n = true) : tfmt_m [.c (.int .i64 n)] = some [.c (.str (Lib.itoa n))] := by rw [tfmt_m, m1_eq]; exact if_pos h
theorem rfmt_at {n : Int} (h : inI n = true) : rfmt_m [.c (.int .i64 n)] = some [.c (.str (Lib.itoa n))] := by rw [rfmt_m, m1_eq]; exact if_pos h
theorem pnorm_at {s : List UInt8} (h : s.length ≤ 1000000000) : pnorm_m [.c (.str s)] = some [.c (.str (plF s).1), .i (plF s).2] := by rw [pnorm_m, ms_eq]; exact if_pos (by simpa using h)
theorem rpnorm_at {s : List UInt8} (h : s.length ≤ 1000000000) : rpnorm_m [.c (.str s)] = some [.c (.str (plF s).1), .i (plF s).2] := by rw [rpnorm_m, ms_eq]; exact if_pos (by simpa using h)
theorem join5 (a b c d e : List UInt8) : Lib.join [a, b, c, d, e] [46] = a ++ [46] ++ b ++ [46] ++ c ++ [46] ++ d ++ [46] ++ e := by
  simp [Lib.join_cons, Lib.joinTail]
theorem skey_ok : PureC Tryz.prog Gt 47 skey_m := by
  refine pure_of_awp (X := ctx Tryz.prog Gt [(94, tfmt_m), (93, join_m)]) Tryz.func47 rfl rfl (by kernel_rfl) (by kernel_rfl) (AllOk.cons tfmt_ok (AllOk.cons join_ok AllOk.nil)).kok ?_
  intro args r h0
  obtain ⟨⟨kind, zone, plate, time, til⟩, rfl, h⟩ := mE_inv h0
  refine ⟨Nat.le_of_ble_eq_true rfl, ?_⟩
  split at h
  · rename_i hl
    obtain ⟨k1, k2, k3, k4, k5⟩ := hl
    dsimp only at h k1 k2 k3 k4 k5
    cases h
    have f1 := tfmt_at k1
    have f2 := tfmt_at k2
    have f3 := tfmt_at k3
    have b1 := itoa_leU k1
    have b2 := itoa_leU k2
    have b3 := itoa_leU k3
    have hk : keyF ⟨kind, zone, plate, time, til⟩ = Lib.itoa kind ++ [46] ++ zone ++ [46] ++ plate ++ [46] ++ Lib.itoa time ++ [46] ++ Lib.itoa til := rfl
    rw [hk]
    generalize Lib.itoa kind = a at *
    generalize Lib.itoa time = b at *
    generalize Lib.itoa til = c at *
    have f4 : join_m [.c (.sl true ([a, zone, plate, b, c].map rowS)), .c (.str [46])] = some [.c (.str (a ++ [46] ++ zone ++ [46] ++ plate ++ [46] ++ b ++ [46] ++ c))] := by
      rw [join_m, mls_eq, join5, if_pos (by simp only [List.length_append, List.length_cons, List.length_nil, decide_eq_true_eq]; omega)]
    simp only [List.map_cons, List.map_nil, rowS] at f4
    have hc := Nat.zero_add 0
    repeat' (first | simp only [hc, Tryz.f47, encP, Par.row, SX, f1, f2, f3, f4, ZZ, simprocAttr, ↓reduceIte] )
    all_goals simp
  cases h
theorem r7key_ok : PureC Tryz.prog Gt 62 r7key_m := by
  refine pure_of_awp (X := ctx Tryz.prog Gt [(109, rfmt_m)]) Tryz.func62 rfl rfl (by kernel_rfl) (by kernel_rfl) (AllOk.cons rfmt_ok AllOk.nil).kok ?_
  intro args r h0
  obtain ⟨⟨kind, zone, plate, time, til⟩, rfl, h⟩ := mE_inv h0
  refine ⟨Nat.le_of_ble_eq_true rfl, ?_⟩
  split at h
  · rename_i hl
    obtain ⟨k1, k2, k3, k4, k5⟩ := hl
    dsimp only at h k1 k2 k3 k4 k5
    cases h
    have f1 := rfmt_at k1
    have f2 := rfmt_at k2
    have f3 := rfmt_at k3
    have hk : keyF ⟨kind, zone, plate, time, til⟩ = Lib.itoa kind ++ [46] ++ zone ++ [46] ++ plate ++ [46] ++ Lib.itoa time ++ [46] ++ Lib.itoa til := rfl
    rw [hk]
    have b1 := itoa_leU k1
    have b2 := itoa_leU k2
    have b3 := itoa_leU k3
    generalize Lib.itoa kind = a at *
    generalize Lib.itoa time = b at *
    generalize Lib.itoa til = c at *
    have s1 : strA .add a [46] = some (.str (a ++ [46])) := s_add (by simp; omega)
    have s2 : strA .add (a ++ [46]) zone = some (.str (a ++ 46 :: zone)) := by rw [s_add (by simp; omega)]; simp
    have s3 : strA .add (a ++ 46 :: zone) [46] = some (.str (a ++ 46 :: (zone ++ [46]))) := by rw [s_add (by simp; omega)]; simp
    have s4 : strA .add (a ++ 46 :: (zone ++ [46])) plate = some (.str (a ++ 46 :: (zone ++ 46 :: plate))) := by rw [s_add (by simp; omega)]; simp
    have s5 : strA .add (a ++ 46 :: (zone ++ 46 :: plate)) [46] = some (.str (a ++ 46 :: (zone ++ 46 :: (plate ++ [46])))) := by rw [s_add (by simp; omega)]; simp
    have s6 : strA .add (a ++ 46 :: (zone ++ 46 :: (plate ++ [46]))) b = some (.str (a ++ 46 :: (zone ++ 46 :: (plate ++ 46 :: b)))) := by rw [s_add (by simp; omega)]; simp
    have s7 : strA .add (a ++ 46 :: (zone ++ 46 :: (plate ++ 46 :: b))) [46] = some (.str (a ++ 46 :: (zone ++ 46 :: (plate ++ 46 :: (b ++ [46]))))) := by rw [s_add (by simp; omega)]; simp
    have s8 : strA .add (a ++ 46 :: (zone ++ 46 :: (plate ++ 46 :: (b ++ [46])))) c = some (.str (a ++ 46 :: (zone ++ 46 :: (plate ++ 46 :: (b ++ 46 :: c))))) := by rw [s_add (by simp; omega)]; simp
    have hc := Nat.zero_add 0
    repeat' (first | simp only [hc, Tryz.f62, encP, Par.row, SX, f1, f2, f3, s1, s2, s3, s4, s5, s6, s7, s8, ZZ, simprocAttr, ↓reduceIte] )
    all_goals simp
  cases h
end
end Go.Ab
