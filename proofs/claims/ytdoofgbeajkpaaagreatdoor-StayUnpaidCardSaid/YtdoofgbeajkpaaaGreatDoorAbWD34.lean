/-
  Texts of the layer and of the laws, put together: AbI3, AbI4, AbJ1.
-/
import Derived.Test.YtdoofgbeajkpaaaGreatDoorAbWD33
import Derived.Test.YtdoofgbeajkpaaaGreatDoorAbWD20
import Derived.Test.YtdoofgbeajkpaaaGreatDoorAbWD23
import Derived.Test.YtdoofgbeajkpaaaGreatDoorAbWD25
import Derived.Test.YtdoofgbeajkpaaaGreatDoorAbWD30
import Derived.Test.YtdoofgbeajkpaaaGreatDoorAbWD28
import Derived.Test.YtdoofgbeajkpaaaGreatDoorAbWD22
set_option linter.unusedSimpArgs false
set_option linter.unusedVariables false
set_option maxRecDepth 100000
namespace Go.Ab
def cutB (hs : List Win) (m : Int) : Bool := decide (m = 0) || hs.any fun w => decide (w.f = m) || decide (w.t = m)
def cutsN (hs : List Win) : Nat → List Int
  | 0 => []
  | n + 1 => cutsN hs n ++ if cutB hs n = true then [(n : Int)] else []
def cutsF (hs : List Win) : List Int := cutsN hs 1440 ++ [1440]
def winM (w : Win) (d x : Int) : Bool := w.ok && (setB w.d (d % 7).toNat && (decide (w.f ≤ x) && decide (x < w.t)))
def hrsM (hs : List Win) (d x : Int) : Bool := hs.any fun w => winM w d x
def inHrs (hs : List Win) (t : Int) : Bool := hrsM hs (t / 86400) (t % 86400 / 60)
def gW (hs : List Win) (lo hi d : Int) (r : List Iv) (p : Iv) : List Iv :=
  if hrsM hs d p.1 = true ∧ lo < 86400 * d + 60 * p.2 ∧ 86400 * d + 60 * p.1 < hi then mkS r (max (86400 * d + 60 * p.1) lo, min (86400 * d + 60 * p.2) hi) else r
def dayW (hs : List Win) (lo hi d : Int) (r : List Iv) : List Iv := (pairs (cutsF hs)).foldl (gW hs lo hi d) r
def withR (hs : List Win) (lo hi : Int) : Nat → Int → List Iv → List Iv
  | 0, _, r => r
  | n + 1, d, r => withR hs lo hi n (d + 1) (dayW hs lo hi d r)
def nDays (i : Iv) : Nat := ((i.2 - 1) / 86400 - i.1 / 86400 + 1).toNat
def withF (hs : List Win) (i : Iv) : List Iv := if hs = [] then [i] else (withR hs i.1 i.2 (nDays i) (i.1 / 86400) []).reverse
def daysErr (i : Iv) : Int := if ivOk i = false then 12 else if 366 < (i.2 - 1) / 86400 - i.1 / 86400 + 1 then 3 else 0
theorem mem_cutsN {hs : List Win} {x : Int} : ∀ {n : Nat}, x ∈ cutsN hs n ↔ 0 ≤ x ∧ x < n ∧ cutB hs x = true
  | 0 => by
    simp only [cutsN, List.not_mem_nil, false_iff]
    rintro ⟨h1, h2, _⟩
    omega
  | n + 1 => by
    rw [cutsN, List.mem_append, mem_cutsN]
    constructor
    · rintro (⟨h1, h2, h3⟩ | h)
      · exact ⟨h1, by omega, h3⟩
      split at h
      · rename_i hc
        rw [List.mem_singleton] at h
        subst h
        exact ⟨by omega, by omega, hc⟩
      cases h
    rintro ⟨h1, h2, h3⟩
    by_cases hx : x < n
    · exact .inl ⟨h1, hx, h3⟩
    have : x = n := by omega
    subst this
    exact .inr (by rw [if_pos h3]; exact List.mem_singleton.2 rfl)
theorem cutsN_asc {hs : List Win} : ∀ {n : Nat}, (cutsN hs n).Pairwise (· < ·)
  | 0 => .nil
  | n + 1 => by
    rw [cutsN, List.pairwise_append]
    refine ⟨cutsN_asc, ?_, fun a ha b hb => ?_⟩
    · split
      · exact List.pairwise_singleton _ _
      exact .nil
    have h1 := mem_cutsN.1 ha
    split at hb
    · rw [List.mem_singleton] at hb
      omega
    cases hb
theorem cutsN_len {hs : List Win} : ∀ {n : Nat}, (cutsN hs n).length ≤ n
  | 0 => Nat.le_refl _
  | n + 1 => by
    rw [cutsN, List.length_append]
    have := @cutsN_len hs n
    split <;> simp <;> omega
theorem cutsF_asc {hs : List Win} : (cutsF hs).Pairwise (· < ·) := by
  rw [cutsF, List.pairwise_append]
  refine ⟨cutsN_asc, List.pairwise_singleton _ _, fun a ha b hb => ?_⟩
  have h1 := mem_cutsN.1 ha
  rw [List.mem_singleton] at hb
  omega
theorem cutsF_len {hs : List Win} : (cutsF hs).length ≤ 1441 := by
  have := @cutsN_len hs 1440
  rw [cutsF, List.length_append]
  simp
  omega
theorem mem_cutsF {hs : List Win} {x : Int} : x ∈ cutsF hs ↔ x = 1440 ∨ (0 ≤ x ∧ x < 1440 ∧ cutB hs x = true) := by
  rw [cutsF, List.mem_append, mem_cutsN, List.mem_singleton]
  exact Or.comm
theorem cutsF_bd {hs : List Win} {x : Int} (h : x ∈ cutsF hs) : 0 ≤ x ∧ x ≤ 1440 := by
  rcases mem_cutsF.1 h with h | h <;> omega
theorem cutsN_head {hs : List Win} : ∀ {n : Nat}, 0 < n → ∃ r, cutsN hs n = 0 :: r
  | 1, _ => by
    refine ⟨[], ?_⟩
    have : cutB hs ((0 : Nat) : Int) = true := by simp [cutB]
    simp only [cutsN, this, if_true, List.nil_append]
    rfl
  | n + 2, _ => by
    obtain ⟨r, hr⟩ := @cutsN_head hs (n + 1) (by omega)
    refine ⟨r ++ (if cutB hs ((n + 1 : Nat) : Int) = true then [((n + 1 : Nat) : Int)] else []), ?_⟩
    rw [cutsN, hr]
    rfl
theorem cutsF_head {hs : List Win} : ∃ r, cutsF hs = 0 :: r ∧ 1440 ∈ r := by
  obtain ⟨r, hr⟩ := @cutsN_head hs 1440 (by decide)
  refine ⟨r ++ [1440], by rw [cutsF, hr]; rfl, by simp⟩
theorem pairs_mem : ∀ {p : List Int} {i : Iv}, i ∈ pairs p → i.1 ∈ p ∧ i.2 ∈ p
  | [], i, h => by cases h
  | [a], i, h => by cases h
  | a :: b :: p, i, h => by
    rw [pairs] at h
    rcases List.mem_cons.1 h with rfl | h
    · exact ⟨List.mem_cons_self, List.mem_cons_of_mem _ List.mem_cons_self⟩
    have := pairs_mem h
    exact ⟨List.mem_cons_of_mem _ this.1, List.mem_cons_of_mem _ this.2⟩
theorem pairs_len : ∀ {p : List Int}, (pairs p).length ≤ p.length
  | [] => Nat.le_refl _
  | [a] => by simp [pairs]
  | a :: b :: p => by
    rw [pairs, List.length_cons, List.length_cons]
    have := @pairs_len (b :: p)
    omega
theorem hrsM_turn {hs : List Win} {d s u : Int} (h0 : 0 ≤ s) (hsu : s ≤ u) (h : ∀ x ∈ cutsF hs, ¬ (s < x ∧ x ≤ u)) : hrsM hs d s = hrsM hs d u := by
  have hw : ∀ w ∈ hs, winM w d s = winM w d u := fun w hw => by
    unfold winM
    by_cases hok : w.ok = true
    · rw [hok]
      have hv := validB_iff.1 hok
      have c1 : w.f ∈ cutsF hs := mem_cutsF.2 (.inr ⟨by omega, by omega, by
        rw [cutB, Bool.or_eq_true]
        exact .inr (List.any_eq_true.2 ⟨w, hw, by simp⟩)⟩)
      have c2 : w.t ∈ cutsF hs := by
        by_cases e : w.t = 1440
        · exact mem_cutsF.2 (.inl e)
        exact mem_cutsF.2 (.inr ⟨by omega, by omega, by
          rw [cutB, Bool.or_eq_true]
          exact .inr (List.any_eq_true.2 ⟨w, hw, by simp⟩)⟩)
      have k1 := h _ c1
      have k2 := h _ c2
      have e1 : decide (w.f ≤ s) = decide (w.f ≤ u) := decide_eq_decide.2 (by omega)
      have e2 : decide (s < w.t) = decide (u < w.t) := decide_eq_decide.2 (by omega)
      rw [e1, e2]
    have : w.ok = false := by simpa using hok
    rw [this]
    rfl
  unfold hrsM
  rw [Bool.eq_iff_iff, List.any_eq_true, List.any_eq_true]
  constructor
  · rintro ⟨w, h1, h2⟩
    exact ⟨w, h1, by rw [← hw w h1]; exact h2⟩
  rintro ⟨w, h1, h2⟩
  exact ⟨w, h1, by rw [hw w h1]; exact h2⟩
theorem day_pairs {hs : List Win} {d m : Int} (h0 : 0 ≤ m) (h1 : m < 1440) : (∃ p ∈ pairs (cutsF hs), hrsM hs d p.1 = true ∧ p.1 ≤ m ∧ m < p.2) ↔ hrsM hs d m = true := by
  obtain ⟨r, hr, hm⟩ := @cutsF_head hs
  have hasc := @cutsF_asc hs
  have := pairs_in (f := fun x => hrsM hs d x) (T := fun x => hrsM hs d x = true) (p := r) (a := 0) (t := m) (by rw [← hr]; exact hasc) h0 (fun _ _ => Iff.rfl) (fun s u k1 k2 k3 => by
    rw [hrsM_turn (hs := hs) k1 k2 fun x hx => by
      rw [hr] at hx
      rcases List.mem_cons.1 hx with rfl | hx
      · omega
      · exact k3 x hx])
  rw [← hr] at this
  constructor
  · rintro ⟨p, hp, k1, k2, k3⟩
    exact (this.1 ⟨p, List.mem_filter.2 ⟨hp, k1⟩, k2, k3⟩).1
  intro k
  obtain ⟨p, hp, k2, k3⟩ := this.2 ⟨k, 1440, hm, h1⟩
  have := List.mem_filter.1 hp
  exact ⟨p, this.1, this.2, k2, k3⟩
def segD (hs : List Win) (lo hi d : Int) : List Iv :=
  ((pairs (cutsF hs)).filter fun p => hrsM hs d p.1 && (decide (lo < 86400 * d + 60 * p.2) && decide (86400 * d + 60 * p.1 < hi))).map fun p => (max (86400 * d + 60 * p.1) lo, min (86400 * d + 60 * p.2) hi)
def segN (hs : List Win) (lo hi : Int) : Nat → Int → List Iv
  | 0, _ => []
  | n + 1, d => segD hs lo hi d ++ segN hs lo hi n (d + 1)
theorem dayW_seg {hs : List Win} {lo hi d : Int} {r : List Iv} : dayW hs lo hi d r = (segD hs lo hi d).foldl mkS r := by
  rw [dayW, segD, List.foldl_map, List.foldl_filter]
  congr 1
  funext r p
  simp only [gW, Bool.and_eq_true, decide_eq_true_eq]
theorem withR_seg {hs : List Win} {lo hi : Int} : ∀ {n : Nat} {d : Int} {r : List Iv}, withR hs lo hi n d r = (segN hs lo hi n d).foldl mkS r
  | 0, _, _ => rfl
  | n + 1, d, r => by rw [withR, withR_seg, segN, List.foldl_append, dayW_seg]
theorem segD_mem {hs : List Win} {lo hi d : Int} (hd : 0 ≤ d) {s : Iv} (h : s ∈ segD hs lo hi d) : 86400 * d ≤ s.1 ∧ s.2 ≤ 86400 * d + 86400 ∧ (lo < hi → s.1 < s.2) ∧ lo ≤ s.1 ∧ s.2 ≤ hi := by
  obtain ⟨p, hp, rfl⟩ := List.mem_map.1 h
  obtain ⟨h1, h2⟩ := List.mem_filter.1 hp
  simp only [Bool.and_eq_true, decide_eq_true_eq] at h2
  obtain ⟨m1, m2⟩ := pairs_mem h1
  have b1 := cutsF_bd m1
  have b2 := cutsF_bd m2
  have h3 := (pairs_asc (@cutsF_asc hs)).2 p h1
  dsimp only
  omega
theorem segD_asc {hs : List Win} {lo hi d : Int} : (segD hs lo hi d).Pairwise (fun a b => a.2 ≤ b.1) := by
  rw [segD, List.pairwise_map]
  refine ((pairs_asc (@cutsF_asc hs)).1.filter _).imp fun {a b} h => ?_
  dsimp only
  omega
theorem segN_mem {hs : List Win} {lo hi : Int} : ∀ {n : Nat} {d : Int}, 0 ≤ d → ∀ {s : Iv}, s ∈ segN hs lo hi n d → 86400 * d ≤ s.1 ∧ (lo < hi → s.1 < s.2)
  | 0, _, _, s, h => by cases h
  | n + 1, d, hd, s, h => by
    rcases List.mem_append.1 h with h | h
    · have := segD_mem hd h
      exact ⟨this.1, this.2.2.1⟩
    have := segN_mem (n := n) (d := d + 1) (by omega) h
    exact ⟨by omega, this.2⟩
theorem segN_asc {hs : List Win} {lo hi : Int} : ∀ {n : Nat} {d : Int}, 0 ≤ d → (segN hs lo hi n d).Pairwise (fun a b => a.2 ≤ b.1)
  | 0, _, _ => .nil
  | n + 1, d, hd => by
    rw [segN, List.pairwise_append]
    refine ⟨segD_asc, segN_asc (by omega), fun a ha b hb => ?_⟩
    have h1 := segD_mem hd ha
    have h2 := segN_mem (by omega) hb
    omega
theorem segD_in {hs : List Win} {lo hi d t : Int} (hd : 0 ≤ d) (h1 : lo ≤ t) (h2 : t < hi) (h3 : 86400 * d ≤ t) (h4 : t < 86400 * d + 86400) : inV (segD hs lo hi d) t ↔ inHrs hs t = true := by
  have e1 : t / 86400 = d := by omega
  have e2 : 0 ≤ t % 86400 / 60 ∧ t % 86400 / 60 < 1440 := by omega
  rw [inHrs, e1, ← day_pairs e2.1 e2.2]
  constructor
  · rintro ⟨s, hs', k1, k2⟩
    obtain ⟨p, hp, rfl⟩ := List.mem_map.1 hs'
    obtain ⟨g1, g2⟩ := List.mem_filter.1 hp
    simp only [Bool.and_eq_true, decide_eq_true_eq] at g2
    dsimp only at k1 k2
    exact ⟨p, g1, g2.1, by omega, by omega⟩
  rintro ⟨p, g1, g2, k1, k2⟩
  refine ⟨_, List.mem_map.2 ⟨p, List.mem_filter.2 ⟨g1, ?_⟩, rfl⟩, ?_, ?_⟩
  · simp only [Bool.and_eq_true, decide_eq_true_eq]
    exact ⟨g2, by omega, by omega⟩
  · dsimp only
    omega
  dsimp only
  omega
theorem segN_in {hs : List Win} {lo hi t : Int} (h1 : lo ≤ t) (h2 : t < hi) : ∀ {n : Nat} {d : Int}, 0 ≤ d → 86400 * d ≤ t → t < 86400 * (d + n) → (inV (segN hs lo hi n d) t ↔ inHrs hs t = true)
  | 0, d, _, h3, h4 => by omega
  | n + 1, d, hd, h3, h4 => by
    rw [segN, inV_append]
    by_cases ht : t < 86400 * d + 86400
    · rw [segD_in hd h1 h2 h3 ht]
      constructor
      · rintro (h | ⟨s, hs', k1, _⟩)
        · exact h
        have := segN_mem (by omega) hs'
        omega
      exact .inl
    rw [segN_in h1 h2 (n := n) (d := d + 1) (by omega) (by omega) (by omega)]
    constructor
    · rintro (⟨s, hs', _, k2⟩ | h)
      · have := segD_mem hd hs'
        omega
      exact h
    exact .inr
theorem segN_bd {hs : List Win} {lo hi : Int} : ∀ {n : Nat} {d : Int}, 0 ≤ d → ∀ {s : Iv}, s ∈ segN hs lo hi n d → lo ≤ s.1 ∧ s.2 ≤ hi
  | 0, _, _, s, h => by cases h
  | n + 1, d, hd, s, h => by
    rcases List.mem_append.1 h with h | h
    · have := segD_mem hd h
      exact this.2.2.2
    exact segN_bd (n := n) (d := d + 1) (by omega) h
def hrsB (hs : List Win) (t : Int) : Bool := hs.isEmpty || inHrs hs t
theorem withF_ok {hs : List Win} {i : Iv} (hi : ivOk i = true) : NF (withF hs i) ∧ ∀ t, inV (withF hs i) t ↔ (i.1 ≤ t ∧ t < i.2) ∧ hrsB hs t = true := by
  have hv := ivOk_iff.1 hi
  rw [withF]
  split
  · rename_i h
    subst h
    refine ⟨⟨List.pairwise_singleton _ _, fun j hj => ?_⟩, fun t => ?_⟩
    · rw [List.mem_singleton.1 hj]
      exact hv.2.1
    rw [inV_cons]
    constructor
    · rintro (h | h)
      · exact ⟨h, rfl⟩
      exact absurd h inV_nil
    exact fun h => .inl h.1
  rename_i hne
  have hd0 : 0 ≤ i.1 / 86400 := by omega
  rw [withR_seg]
  obtain ⟨k1, k2⟩ := glue_ok (q := segN hs i.1 i.2 (nDays i) (i.1 / 86400)) (segN_asc hd0) (fun s hs' => (segN_mem hd0 hs').2 hv.2.1)
  refine ⟨k1, fun t => ?_⟩
  have k3 := k2 t
  rw [glue] at k3
  rw [k3]
  have hn : (nDays i : Int) = (i.2 - 1) / 86400 - i.1 / 86400 + 1 := by
    rw [nDays]
    omega
  have hb : hrsB hs t = inHrs hs t := by
    cases hs with
    | nil => exact absurd rfl hne
    | cons w l => rfl
  rw [hb]
  constructor
  · intro h
    have hbd : i.1 ≤ t ∧ t < i.2 := by
      obtain ⟨s, hs', g1, g2⟩ := h
      have := segN_bd hd0 hs'
      omega
    exact ⟨hbd, (segN_in hbd.1 hbd.2 hd0 (by omega) (by rw [hn]; omega)).1 h⟩
  rintro ⟨hbd, h⟩
  exact (segN_in hbd.1 hbd.2 hd0 (by omega) (by rw [hn]; omega)).2 h
theorem gW_len {hs : List Win} {lo hi d : Int} {r : List Iv} {p : Iv} : (gW hs lo hi d r p).length ≤ r.length + 1 := by
  unfold gW
  split
  · cases r with
    | nil => simp [mkS]
    | cons q r => simp only [mkS]; split <;> simp
  omega
theorem foldW_len {hs : List Win} {lo hi d : Int} : ∀ {q r : List Iv}, (q.foldl (gW hs lo hi d) r).length ≤ r.length + q.length
  | [], r => by simp
  | p :: q, r => by
    have h1 := @foldW_len hs lo hi d q (gW hs lo hi d r p)
    have h2 := @gW_len hs lo hi d r p
    rw [List.foldl_cons, List.length_cons]
    omega
theorem withR_len {hs : List Win} {lo hi : Int} : ∀ {n : Nat} {d : Int} {r : List Iv}, (withR hs lo hi n d r).length ≤ r.length + 1441 * n
  | 0, _, _ => by simp [withR]
  | n + 1, d, r => by
    rw [withR]
    have h1 := @withR_len hs lo hi n (d + 1) (dayW hs lo hi d r)
    have h2 := @foldW_len hs lo hi d (pairs (cutsF hs)) r
    have h3 := @pairs_len (cutsF hs)
    have h4 := @cutsF_len hs
    rw [dayW] at *
    omega
end Go.Ab
namespace Go.Ab
def mrgI : List Iv → List Iv → List Iv
  | x :: a, y :: b => if x.1 ≤ y.1 then x :: mrgI a (y :: b) else y :: mrgI (x :: a) b
  | [], b => b
  | a, [] => a
termination_by a b => a.length + b.length
theorem mrgI_nil {b : List Iv} : mrgI [] b = b := by rw [mrgI.eq_def]
theorem mrgI_nil' : ∀ {a : List Iv}, mrgI a [] = a
  | [] => mrgI_nil
  | x :: a => by rw [mrgI.eq_def]
theorem mrgI_cons {x y : Iv} {a b : List Iv} : mrgI (x :: a) (y :: b) = if x.1 ≤ y.1 then x :: mrgI a (y :: b) else y :: mrgI (x :: a) b := by rw [mrgI.eq_def]
theorem mrgI_perm : ∀ {a b : List Iv}, (mrgI a b).Perm (a ++ b)
  | [], b => by rw [mrgI_nil]; exact .refl _
  | x :: a, [] => by rw [mrgI_nil', List.append_nil]
  | x :: a, y :: b => by
    rw [mrgI_cons]
    split
    · exact List.Perm.cons x mrgI_perm
    refine (List.Perm.cons y mrgI_perm).trans ?_
    exact (List.perm_middle (l₁ := x :: a) (l₂ := b) (a := y)).symm
termination_by a b => a.length + b.length
theorem mrgI_sorted : ∀ {a b : List Iv}, a.Pairwise (fun a b => a.1 ≤ b.1) → b.Pairwise (fun a b => a.1 ≤ b.1) → (mrgI a b).Pairwise (fun a b => a.1 ≤ b.1)
  | [], b, _, hb => by rw [mrgI_nil]; exact hb
  | x :: a, [], ha, _ => by rw [mrgI_nil']; exact ha
  | x :: a, y :: b, ha, hb => by
    have pa := List.pairwise_cons.1 ha
    have pb := List.pairwise_cons.1 hb
    rw [mrgI_cons]
    split
    · rename_i h
      refine List.pairwise_cons.2 ⟨fun z hz => ?_, mrgI_sorted pa.2 hb⟩
      rcases List.mem_append.1 (mrgI_perm.mem_iff.1 hz) with hz | hz
      · exact pa.1 z hz
      rcases List.mem_cons.1 hz with rfl | hz
      · exact h
      exact Int.le_trans h (pb.1 z hz)
    rename_i h
    refine List.pairwise_cons.2 ⟨fun z hz => ?_, mrgI_sorted ha pb.2⟩
    rcases List.mem_append.1 (mrgI_perm.mem_iff.1 hz) with hz | hz
    · rcases List.mem_cons.1 hz with rfl | hz
      · omega
      have := pa.1 z hz
      omega
    exact pb.1 z hz
termination_by a b => a.length + b.length
theorem NF.sorted : ∀ {l : List Iv}, NF l → l.Pairwise (fun a b => a.1 ≤ b.1)
  | [], _ => .nil
  | x :: l, h => List.pairwise_cons.2 ⟨fun y hy => by
      have h1 := (List.pairwise_cons.1 h.1).1 y hy
      have := h.head
      omega, NF.sorted h.tail⟩
def joinR (a b : List Iv) : List Iv := ((mrgI a b).foldl mkM []).reverse
theorem joinR_ok {a b : List Iv} (ha : NF a) (hb : NF b) : NF (joinR a b) ∧ ∀ t, inV (joinR a b) t ↔ inV a t ∨ inV b t := by
  have hm : ∀ i ∈ mrgI a b, i.1 < i.2 := fun i hi => by
    rcases List.mem_append.1 (mrgI_perm.mem_iff.1 hi) with h | h
    · exact ha.2 i h
    exact hb.2 i h
  obtain ⟨k1, k2⟩ := foldM_ok (r := []) (mrgI_sorted ha.sorted hb.sorted) hm ⟨.nil, fun _ h => by cases h⟩ (fun p hp => by cases hp)
  refine ⟨k1.nf, fun t => ?_⟩
  rw [joinR, inV_reverse, k2, ← inV_append (a := a) (b := b)]
  constructor
  · rintro (h | ⟨i, hi, h⟩)
    · exact absurd h inV_nil
    exact ⟨i, mrgI_perm.mem_iff.1 hi, h⟩
  rintro ⟨i, hi, h⟩
  exact .inr ⟨i, mrgI_perm.mem_iff.2 hi, h⟩
structure Pmt where
  name : List UInt8
  zone : List UInt8
  pf : Bool
  plates : List (List UInt8)
  v : Iv
  hf : Bool
  hrs : List Win
  most : Int
def listB (p : Pmt) (s : List UInt8) : Bool := decide ((plF s).2 = 0) && p.plates.any (· == (plF s).1)
theorem ival_ok {i : Iv} : ivalB i.1 i.2 = ivOk i := by simp only [ivOk, ivalB, Bool.and_assoc]
theorem spans_e {w : Win} {i : Iv} : (spansOf w.d w.f w.t i.1 i.2).2 = daysErr i := by
  unfold spansOf daysErr
  rw [ival_ok]
  by_cases hv : ivOk i = true
  · have hf : ¬ ivOk i = false := by rw [hv]; exact Bool.noConfusion
    by_cases h : 366 ≤ (i.2 - 1) / 86400 - i.1 / 86400
    · simp only [hv, h, if_true, if_pos (show 366 < (i.2 - 1) / 86400 - i.1 / 86400 + 1 by omega)]
      rfl
    simp only [hv, h, if_true, if_false, if_neg (show ¬ 366 < (i.2 - 1) / 86400 - i.1 / 86400 + 1 by omega)]
    split <;> rfl
  have hf : ivOk i = false := by simpa using hv
  rw [if_neg hv, if_pos hf]
theorem spans_in {w : Win} {i : Iv} (h : daysErr i = 0) {t : Int} : hasV ((spansOf w.d w.f w.t i.1 i.2).1.getD []) t ↔ (i.1 ≤ t ∧ t < i.2) ∧ inB w.d w.f w.t t = true := by
  have hv : ivOk i = true := by
    unfold daysErr at h
    split at h
    · cases h
    rename_i h'; simpa using h'
  have hb := ivOk_iff.1 hv
  cases hO : (spansOf w.d w.f w.t i.1 i.2).1 with
  | none =>
    have := spans_none hO t (spans_e.trans h)
    simp only [Option.getD_none, this]
    constructor
    · exact fun h => absurd h hasV_nil
    · rintro ⟨_, h⟩
      cases h
  | some l =>
    obtain ⟨h1, h2⟩ := spans_cover hO t
    have hok : ∀ {k : List Iv} {e : Int}, chk i.1 i.2 e k → ∀ j ∈ k, ivOk j = true := fun {k} => by
      induction k with
      | nil => exact fun _ j hj => by cases hj
      | cons a k ih =>
        intro e hc j hj
        obtain ⟨c1, c2, c3, _, c5⟩ := hc
        rcases List.mem_cons.1 hj with rfl | hj
        · exact ivOk_iff.2 ⟨by omega, c1, by omega⟩
        exact ih c5 j hj
    simp only [Option.getD_some]
    rw [hasV_ok (hok h1)]
    have hB : hasB t l = true ↔ inV l t := by
      simp only [hasB, List.any_eq_true, Bool.and_eq_true, decide_eq_true_eq, inV]
    rw [← hB, h2]
    simp only [Bool.and_eq_true, decide_eq_true_eq]
    constructor
    · rintro ⟨⟨a, b⟩, c⟩
      exact ⟨⟨b, c⟩, a⟩
    rintro ⟨⟨b, c⟩, a⟩
    exact ⟨⟨a, b⟩, c⟩
end Go.Ab
namespace Go.Ab
open Go.RowKit Go.Proofs Go.Lib Go.Sort
theorem rwI_inj (a b : Iv) (h : rwI a = rwI b) : a = b := by
  obtain ⟨a1, a2⟩ := a
  obtain ⟨b1, b2⟩ := b
  simpa [rwI] using h
theorem mapIv_inj {l k : List Iv} : l.map rwI = k.map rwI ↔ l = k := ⟨map_inj rwI_inj, fun h => by rw [h]⟩
def encV1 (i : Iv) : List PA := [.agg (rwI i)]
theorem encV1_inj (a b : Iv) (h : encV1 a = encV1 b) : a = b := rwI_inj a b (by simpa [encV1] using h)
def encV2 (p : Iv × Iv) : List PA := [.agg (rwI p.1), .agg (rwI p.2)]
theorem encV2_inj (a b : Iv × Iv) (h : encV2 a = encV2 b) : a = b := by
  simp only [encV2, List.cons.injEq, DV.agg.injEq, and_true] at h
  exact Prod.ext (rwI_inj _ _ h.1) (rwI_inj _ _ h.2)
theorem swo_from {α : Type} (g : α → Iv) : SWO (ltOf fun x y => ordI (g x).1 (g y).1) where
  irrefl x := decide_eq_false (by simp only [ordI]; (repeat' split) <;> omega)
  trans x y z h1 h2 := by
    have h1 := of_decide_eq_true h1
    have h2 := of_decide_eq_true h2
    refine decide_eq_true ?_
    simp only [ordI] at h1 h2 ⊢
    (repeat' split at h1) <;> (repeat' split at h2) <;> (repeat' split) <;> omega
  ntrans x y z h1 h2 := by
    have h1 := of_decide_eq_false h1
    have h2 := of_decide_eq_false h2
    refine decide_eq_false ?_
    simp only [ordI] at h1 h2 ⊢
    (repeat' split at h1) <;> (repeat' split at h2) <;> (repeat' split) <;> omega
def srtI (xs : List Iv) : List Iv := srtQ (fun x y : Iv => ordI x.1 y.1) xs
theorem srtI_ok (xs : List Iv) : (srtI xs).Perm xs ∧ (srtI xs).Pairwise (fun a b => a.1 ≤ b.1) := by
  obtain ⟨h1, h2⟩ := srtQ_ok (fun x y : Iv => ordI x.1 y.1) (swo_from (fun x : Iv => x)) xs
  refine ⟨h1, h2.imp fun {a b} h => ?_⟩
  simp only [ordI] at h
  (repeat' split at h) <;> omega
theorem srtI_len (xs : List Iv) : (srtI xs).length = xs.length := (srtI_ok xs).1.length_eq
theorem srtI_join (l : List Iv) : ((srtI (l.filter ivOk)).foldl mkM []).reverse = joinF l := join_any (srtI_ok _).1 (srtI_ok _).2
noncomputable section
open Classical
def spv_m : List PA → Option (List PA) := mE encV1 fun i => some [.b (ivOk i)]
def djn_m : List PA → Option (List PA) := mE encV2 fun p => some [.i (ordI p.1.1 p.2.1)]
theorem spv_ok : PureC Tryz.prog Gt 59 spv_m := by
  refine pure_of_awp (X := ctx Tryz.prog Gt []) Tryz.func59 rfl rfl (by kernel_rfl) (by kernel_rfl) AllOk.nil.kok ?_
  intro args r h0
  obtain ⟨⟨a, b⟩, rfl, h⟩ := mE_inv h0
  refine ⟨Nat.le_of_ble_eq_true rfl, ?_⟩
  cases h
  have hc := Nat.zero_add 0
  repeat' (first | simp only [hc, Tryz.f59, encV1, rwI, SX, ZZ, simprocAttr, ↓reduceIte] | ((first | apply Za | apply Zb | apply Zc | apply Zd | apply Ze | apply Zf | apply Zg | apply Zh) <;> intro hc) | refine Zj ?_)
  all_goals (simp_all [ivOk, DV.b, mxT]; try omega)
theorem spv_at {i : Iv} : spv_m [.agg (rwI i)] = some [.b (ivOk i)] := mE_eq encV1_inj (g := fun i => some [DV.b (ivOk i)]) (a := i)
theorem djn_ok : PureC Tryz.prog Gd 131 djn_m := by
  refine pure_of_awp (X := ctx Tryz.prog Gd [(86, dcI_m)]) Tryz.func131 rfl rfl (by kernel_rfl) (by kernel_rfl) (AllOk.cons dcI_ok AllOk.nil).kok ?_
  intro args r h0
  obtain ⟨⟨⟨a, b⟩, c, d⟩, rfl, h⟩ := mE_inv h0
  refine ⟨Nat.le_of_ble_eq_true rfl, ?_⟩
  cases h
  have f1 : dcI_m [.c (.int .i64 a), .c (.int .i64 c)] = some [.i (ordI a c)] := rfl
  have hc := Nat.zero_add 0
  repeat' (first | simp only [hc, Tryz.f131, encV2, rwI, GX, f1, ZZ, simprocAttr, ↓reduceIte] | ((first | apply Za | apply Zb | apply Zc | apply Zd | apply Ze | apply Zf | apply Zg | apply Zh) <;> intro hc) | refine Zj ?_)
  all_goals simp [DV.i]
theorem icd_inj : ∀ {a b : List Iv}, icd a = icd b → a = b
  | [], [], _ => rfl
  | [], y :: k, h => by simp [icd, rowIC] at h
  | x :: l, [], h => by simp [icd, rowIC] at h
  | x :: l, y :: k, h => by
    simp only [icd, List.flatMap_cons] at h
    obtain ⟨h1, h2⟩ := List.append_inj h rfl
    simp only [rowIC, List.cons.injEq, C1.d.injEq, D.int.injEq, true_and, and_true] at h1
    have e : x = y := Prod.ext h1.1 h1.2
    rw [e, icd_inj h2]
theorem icd_dec (l : List Iv) : (l.flatMap rwI).map C1.d = icd l := icd_enc l
def siR (p : Hp × Nat × List Iv) (args : List AV) (h : Hp) : Prop := args = [.v (.c (.msl p.2.1 p.2.2.length)), .v (.c (.fn 131 []))] ∧ h = p.1 ∧ p.1[p.2.1]? = some (.tok p.2.2.length 2 (some (icd p.2.2)))
theorem siR_inj {a b : Hp × Nat × List Iv} {args : List AV} {h : Hp} (ha : siR a args h) (hb : siR b args h) : b = a := by
  obtain ⟨a1, a2, a3⟩ := a
  obtain ⟨b1, b2, b3⟩ := b
  obtain ⟨h1, h2, h3⟩ := ha
  obtain ⟨g1, g2, g3⟩ := hb
  dsimp only at *
  subst h2 g2
  rw [h1] at g1
  simp only [List.cons.injEq, AV.v.injEq, V.c.injEq, C1.msl.injEq, and_true] at g1
  obtain ⟨rfl, g4⟩ := g1
  rw [h3] at g3
  simp only [Option.some.injEq, Ob.tok.injEq] at g3
  rw [icd_inj g3.2.2]
def sfIv_k : List AV → Hp → Option COut := kR siR fun p => if p.2.2.length ≤ 1000000000 then some (.ret (.tup []) (p.1.set p.2.1 (.tok p.2.2.length 2 (some (icd (srtI p.2.2)))))) else none
theorem sfIv_kok : ImpC Tryz.prog Gt 130 sfIv_k := by
  intro args h out h0
  obtain ⟨⟨h', id, ps⟩, ⟨rfl, rfl, hid⟩, hg⟩ := kR_inv h0
  dsimp only at hid hg ⊢
  split at hg
  · rename_i hl
    cases hg
    have hsim : ∀ (x : Iv), ∀ d ∈ rwI x, simD d = true := fun x d hd => by
      simp [rwI] at hd
      rcases hd with rfl | rfl <;> rfl
    have hm : ∀ x y : Iv, djn_m [.agg (rwI x), .agg (rwI y)] = some [.c (.int .i64 (ordI x.1 y.1))] := fun x y => mE_eq encV2_inj (g := fun p => some [DV.i (ordI p.1.1 p.2.1)]) (a := (x, y))
    have := fok_sortQ (G := Gt) Tryz.sortIv (k := 2) (by decide) Tryz.isAgg35 Tryz.sizeOf35 djn_ok (α := Iv) rwI (fun _ => rfl) hsim (fun x y => ordI x.1 y.1) hm (swo_from (fun x : Iv => x)) ps (by omega) (id := id) (h := h) (by rw [hid, icd_dec])
    rw [icd_dec] at this
    exact this
  cases hg
theorem sfIv_at {h : Hp} {id : Nat} {L : List Iv} (hid : h[id]? = some (.tok L.length 2 (some (icd L)))) (hl : L.length ≤ 1000000000) :
    sfIv_k [.v (.c (.msl id L.length)), .v (.c (.fn 131 []))] h = some (.ret (.tup []) (h.set id (.tok L.length 2 (some (icd (srtI L)))))) := by
  have := kR_eq (R := siR) (g := fun p : Hp × Nat × List Iv => if p.2.2.length ≤ 1000000000 then some (COut.ret (.tup []) (p.1.set p.2.1 (.tok p.2.2.length 2 (some (icd (srtI p.2.2)))))) else none) (a := (h, id, L))
    (args := [.v (.c (.msl id L.length)), .v (.c (.fn 131 []))]) (h := h) (fun b hb => by rw [siR_inj (a := (h, id, L)) ⟨rfl, rfl, hid⟩ hb]) ⟨rfl, rfl, hid⟩
  exact this.trans (if_pos hl)
end
end Go.Ab
