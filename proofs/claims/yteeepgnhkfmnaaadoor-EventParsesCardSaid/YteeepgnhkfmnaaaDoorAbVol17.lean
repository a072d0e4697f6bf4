/-
  Texts of the layer and of the laws, put together: AbM, AbE. No law is stated here.
-/
import Derived.Test.YteeepgnhkfmnaaaDoorAbVol10
import Derived.Test.YteeepgnhkfmnaaaDoorAbVol12
set_option linter.unusedSimpArgs false
set_option linter.unusedVariables false
set_option maxRecDepth 100000

/-
  Functions of plain data: the forms of their arguments.
-/
namespace Go.Ab

abbrev DV.i (n : Int) : PA := .c (.int .i64 n)
abbrev DV.b (b : Bool) : PA := .c (.bool b)
abbrev DV.s (s : List UInt8) : PA := .c (.str s)

/-! Arguments: forms. -/
def ms (g : List UInt8 → Option (List PA)) : List PA → Option (List PA)
  | [.c (.str a)] => g a
  | _ => none
theorem ms_inv {g : List UInt8 → Option (List PA)} {args r : List PA} (h : ms g args = some r) : ∃ a, args = [.c (.str a)] ∧ g a = some r := by
  unfold ms at h
  split at h
  · exact ⟨_, rfl, h⟩
  · cases h
theorem ms_eq {g : List UInt8 → Option (List PA)} {a : List UInt8} : ms g [.c (.str a)] = g a := rfl
def mss (g : List UInt8 → List UInt8 → Option (List PA)) : List PA → Option (List PA)
  | [.c (.str a), .c (.str b)] => g a b
  | _ => none
theorem mss_inv {g : List UInt8 → List UInt8 → Option (List PA)} {args r : List PA} (h : mss g args = some r) : ∃ a b, args = [.c (.str a), .c (.str b)] ∧ g a b = some r := by
  unfold mss at h
  split at h
  · exact ⟨_, _, rfl, h⟩
  · cases h
theorem mss_eq {g : List UInt8 → List UInt8 → Option (List PA)} {a b : List UInt8} : mss g [.c (.str a), .c (.str b)] = g a b := rfl
def msb (g : List UInt8 → Int → Option (List PA)) : List PA → Option (List PA)
  | [.c (.str a), .c (.int .u8 b)] => g a b
  | _ => none
theorem msb_inv {g : List UInt8 → Int → Option (List PA)} {args r : List PA} (h : msb g args = some r) : ∃ a b, args = [.c (.str a), .c (.int .u8 b)] ∧ g a b = some r := by
  unfold msb at h
  split at h
  · exact ⟨_, _, rfl, h⟩
  · cases h
theorem msb_eq {g : List UInt8 → Int → Option (List PA)} {a : List UInt8} {b : Int} : msb g [.c (.str a), .c (.int .u8 b)] = g a b := rfl
def m1 (g : Int → Option (List PA)) : List PA → Option (List PA)
  | [.c (.int .i64 a)] => g a
  | _ => none
theorem m1_inv {g : Int → Option (List PA)} {args r : List PA} (h : m1 g args = some r) : ∃ a, args = [.c (.int .i64 a)] ∧ g a = some r := by
  unfold m1 at h
  split at h
  · exact ⟨_, rfl, h⟩
  · cases h
theorem m1_eq {g : Int → Option (List PA)} {a : Int} : m1 g [.c (.int .i64 a)] = g a := rfl
def mb (g : Int → Option (List PA)) : List PA → Option (List PA)
  | [.c (.int .u8 a)] => g a
  | _ => none
theorem mb_inv {g : Int → Option (List PA)} {args r : List PA} (h : mb g args = some r) : ∃ a, args = [.c (.int .u8 a)] ∧ g a = some r := by
  unfold mb at h
  split at h
  · exact ⟨_, rfl, h⟩
  · cases h
theorem mb_eq {g : Int → Option (List PA)} {a : Int} : mb g [.c (.int .u8 a)] = g a := rfl
def m0 (v : Option (List PA)) : List PA → Option (List PA)
  | [] => v
  | _ => none
theorem m0_inv {v : Option (List PA)} {args r : List PA} (h : m0 v args = some r) : args = [] ∧ v = some r := by
  unfold m0 at h
  split at h
  · exact ⟨rfl, h⟩
  · cases h
theorem m0_eq {v : Option (List PA)} : m0 v [] = v := rfl

/-! Lists of texts. -/
def rowS (s : List UInt8) : List D := [.str s]
def decS1 : List D → Option (List UInt8)
  | [.str a] => some a
  | _ => none
def decS (es : List (List D)) : Option (List (List UInt8)) := es.mapM decS1
theorem decS1_inv {e : List D} {p : List UInt8} (h : decS1 e = some p) : e = rowS p := by
  unfold decS1 at h
  split at h
  · cases h; rfl
  · cases h
theorem decS_inv : ∀ {es : List (List D)} {l : List (List UInt8)}, decS es = some l → es = l.map rowS
  | [], l, h => by simp [decS] at h; subst h; rfl
  | e :: es, l, h => by
    simp only [decS, List.mapM_cons, Option.bind_eq_bind, Option.bind_eq_some_iff, Option.pure_def, Option.some.injEq] at h
    obtain ⟨p, hp, ps, hps, rfl⟩ := h
    rw [decS1_inv hp, decS_inv (es := es) hps]
    rfl
theorem decS_map : ∀ (l : List (List UInt8)), decS (l.map rowS) = some l
  | [] => rfl
  | p :: l => by
    have := decS_map l
    simp only [decS] at this
    simp [decS, decS1, rowS, this]
def ml (g : List (List UInt8) → Option (List PA)) : List PA → Option (List PA)
  | [.c (.sl _ es)] => (decS es).bind g
  | _ => none
theorem ml_inv {g : List (List UInt8) → Option (List PA)} {args r : List PA} (h : ml g args = some r) : ∃ f l, args = [.c (.sl f (l.map rowS))] ∧ g l = some r := by
  unfold ml at h
  split at h
  · simp only [Option.bind_eq_some_iff] at h
    obtain ⟨l, hl, h⟩ := h
    exact ⟨_, l, by rw [decS_inv hl], h⟩
  · cases h
theorem ml_eq {g : List (List UInt8) → Option (List PA)} {f : Bool} {l : List (List UInt8)} : ml g [.c (.sl f (l.map rowS))] = g l := by
  simp only [ml, decS_map, Option.bind_some]
def mls (g : List (List UInt8) → List UInt8 → Option (List PA)) : List PA → Option (List PA)
  | [.c (.sl _ es), .c (.str b)] => (decS es).bind fun l => g l b
  | _ => none
theorem mls_inv {g : List (List UInt8) → List UInt8 → Option (List PA)} {args r : List PA} (h : mls g args = some r) : ∃ f l b, args = [.c (.sl f (l.map rowS)), .c (.str b)] ∧ g l b = some r := by
  unfold mls at h
  split at h
  · simp only [Option.bind_eq_some_iff] at h
    obtain ⟨l, hl, h⟩ := h
    exact ⟨_, l, _, by rw [decS_inv hl], h⟩
  · cases h
theorem mls_eq {g : List (List UInt8) → List UInt8 → Option (List PA)} {f : Bool} {l : List (List UInt8)} {b : List UInt8} : mls g [.c (.sl f (l.map rowS)), .c (.str b)] = g l b := by
  simp only [mls, decS_map, Option.bind_some]
def mll (g : List (List UInt8) → List (List UInt8) → Option (List PA)) : List PA → Option (List PA)
  | [.c (.sl _ es), .c (.sl _ fs)] => (decS es).bind fun l => (decS fs).bind fun k => g l k
  | _ => none
theorem mll_inv {g : List (List UInt8) → List (List UInt8) → Option (List PA)} {args r : List PA} (h : mll g args = some r) : ∃ f e l k, args = [.c (.sl f (l.map rowS)), .c (.sl e (k.map rowS))] ∧ g l k = some r := by
  unfold mll at h
  split at h
  · simp only [Option.bind_eq_some_iff] at h
    obtain ⟨l, hl, k, hk, h⟩ := h
    exact ⟨_, _, l, k, by rw [decS_inv hl, decS_inv hk], h⟩
  · cases h
theorem mll_eq {g : List (List UInt8) → List (List UInt8) → Option (List PA)} {f e : Bool} {l k : List (List UInt8)} : mll g [.c (.sl f (l.map rowS)), .c (.sl e (k.map rowS))] = g l k := by
  simp only [mll, decS_map, Option.bind_some]
abbrev W (n : Int) : Int := IntKind.i64.wrap n

def m2 (g : Int → Int → Option (List PA)) : List PA → Option (List PA)
  | [.c (.int .i64 a), .c (.int .i64 b)] => g a b
  | _ => none
theorem m2_inv {g : Int → Int → Option (List PA)} {args r : List PA} (h : m2 g args = some r) : ∃ a b, args = [.c (.int .i64 a), .c (.int .i64 b)] ∧ g a b = some r := by
  unfold m2 at h
  split at h
  · exact ⟨_, _, rfl, h⟩
  · cases h
theorem m2_eq {g : Int → Int → Option (List PA)} {a b : Int} : m2 g [.c (.int .i64 a), .c (.int .i64 b)] = g a b := rfl
def m3 (g : Int → Int → Int → Option (List PA)) : List PA → Option (List PA)
  | [.c (.int .i64 a), .c (.int .i64 b), .c (.int .i64 c)] => g a b c
  | _ => none
theorem m3_inv {g : Int → Int → Int → Option (List PA)} {args r : List PA} (h : m3 g args = some r) : ∃ a b c, args = [.c (.int .i64 a), .c (.int .i64 b), .c (.int .i64 c)] ∧ g a b c = some r := by
  unfold m3 at h
  split at h
  · exact ⟨_, _, _, rfl, h⟩
  · cases h
theorem m3_eq {g : Int → Int → Int → Option (List PA)} {a b c : Int} : m3 g [.c (.int .i64 a), .c (.int .i64 b), .c (.int .i64 c)] = g a b c := rfl
theorem mEq : (∀ (g : Int → Option (List PA)) (a : Int), m1 g [.c (.int .i64 a)] = g a) ∧ (∀ (g : Int → Int → Option (List PA)) (a b : Int), m2 g [.c (.int .i64 a), .c (.int .i64 b)] = g a b) ∧
    (∀ (g : Int → Int → Int → Option (List PA)) (a b c : Int), m3 g [.c (.int .i64 a), .c (.int .i64 b), .c (.int .i64 c)] = g a b c) ∧ ∀ (v : Option (List PA)), m0 v [] = v := ⟨fun _ _ => rfl, fun _ _ _ => rfl, fun _ _ _ _ => rfl, fun _ => rfl⟩
def mis (g : Int → List UInt8 → Option (List PA)) : List PA → Option (List PA)
  | [.c (.int .i64 a), .c (.str b)] => g a b
  | _ => none
theorem mis_inv {g : Int → List UInt8 → Option (List PA)} {args r : List PA} (h : mis g args = some r) : ∃ a b, args = [.c (.int .i64 a), .c (.str b)] ∧ g a b = some r := by
  unfold mis at h
  split at h
  · exact ⟨_, _, rfl, h⟩
  · cases h
theorem mis_eq {g : Int → List UInt8 → Option (List PA)} {a : Int} {b : List UInt8} : mis g [.c (.int .i64 a), .c (.str b)] = g a b := rfl
def msi (g : List UInt8 → Int → Option (List PA)) : List PA → Option (List PA)
  | [.c (.str b), .c (.int .i64 a)] => g b a
  | _ => none
theorem msi_inv {g : List UInt8 → Int → Option (List PA)} {args r : List PA} (h : msi g args = some r) : ∃ b a, args = [.c (.str b), .c (.int .i64 a)] ∧ g b a = some r := by
  unfold msi at h
  split at h
  · exact ⟨_, _, rfl, h⟩
  · cases h
theorem msi_eq {g : List UInt8 → Int → Option (List PA)} {a : Int} {b : List UInt8} : msi g [.c (.str b), .c (.int .i64 a)] = g b a := rfl

end Go.Ab

/-
  Contracts through an encoding of the arguments, and rows of the program's own records.
-/
namespace Go.Ab

noncomputable section

open Classical in
/-- g at whatever stands in the relation with the arguments. -/
def mR {α : Type} (R : α → List PA → Prop) (g : α → Option (List PA)) (args : List PA) : Option (List PA) :=
  if h : ∃ a, R a args then g (Classical.choose h) else none

theorem mR_inv {α : Type} {R : α → List PA → Prop} {g : α → Option (List PA)} {args r : List PA} (h : mR R g args = some r) : ∃ a, R a args ∧ g a = some r := by
  unfold mR at h
  split at h
  · rename_i hx
    exact ⟨_, Classical.choose_spec hx, h⟩
  · cases h

theorem mR_eq {α : Type} {R : α → List PA → Prop} {g : α → Option (List PA)} {args : List PA} {a : α} (hu : ∀ b, R b args → g b = g a) (h : R a args) : mR R g args = g a := by
  unfold mR
  rw [dif_pos ⟨a, h⟩]
  exact hu _ (Classical.choose_spec (p := fun b => R b args) ⟨a, h⟩)

/-- The same, for arguments that are written down by a function. -/
def mE {α : Type} (enc : α → List PA) (g : α → Option (List PA)) (args : List PA) : Option (List PA) := mR (fun a args => args = enc a) g args

theorem mE_inv {α : Type} {enc : α → List PA} {g : α → Option (List PA)} {args r : List PA} (h : mE enc g args = some r) : ∃ a, args = enc a ∧ g a = some r := mR_inv h

theorem mE_eq {α : Type} {enc : α → List PA} (hi : ∀ a b, enc a = enc b → a = b) {g : α → Option (List PA)} {a : α} : mE enc g (enc a) = g a :=
  mR_eq (fun b hb => by rw [hi a b hb]) rfl

theorem map_inj {α β : Type} {f : α → β} (hf : ∀ a b, f a = f b → a = b) : ∀ {l k : List α}, l.map f = k.map f → l = k
  | [], [], _ => rfl
  | [], _ :: _, h => by simp at h
  | _ :: _, [], h => by simp at h
  | a :: l, b :: k, h => by
    simp only [List.map_cons, List.cons.injEq] at h
    rw [hf a b h.1, map_inj hf h.2]

theorem allD_map : ∀ (xs : List D), allD (xs.map .d) = some xs
  | [] => rfl
  | x :: xs => by rw [List.map_cons, allD_cons, allD_map xs]; rfl

/-- An aggregate of data that is left whole: its parts. -/
theorem drop_mapd {xs : List D} {k : Nat} : (xs.map C1.d).drop k = (xs.drop k).map .d := List.map_drop.symm
theorem take_mapd {xs : List D} {k : Nat} : (xs.map C1.d).take k = (xs.take k).map .d := List.map_take.symm
theorem get_mapd {xs : List D} {k : Nat} : (xs.map C1.d)[k]? = (xs[k]?).map .d := List.getElem?_map
theorem get_take {xs : List D} {k n : Nat} (h : (k < n) = True) : (xs.take n)[k]? = xs[k]? := by rw [List.getElem?_take, if_pos (of_eq_true h)]
theorem get_drop {xs : List D} {k n : Nat} : (xs.drop n)[k]? = xs[n + k]? := List.getElem?_drop
theorem len_mapd {xs : List D} : (xs.map C1.d).length = xs.length := List.length_map _
/-- For simp: aggregates left whole. -/
theorem WH : type_of% @allD_map ∧ type_of% @drop_mapd ∧ type_of% @take_mapd ∧ type_of% @get_mapd ∧ type_of% @get_take ∧ type_of% @get_drop ∧ type_of% @len_mapd :=
  ⟨@allD_map, @drop_mapd, @take_mapd, @get_mapd, @get_take, @get_drop, @len_mapd⟩

end
end Go.Ab
