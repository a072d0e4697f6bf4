/-
  Texts of the layer and of the laws, put together: AbE.
-/
import Derived.Test.YtdoofgbeajkpaaaGreatDoorAbWP12
import Derived.Test.YtdoofgbeajkpaaaGreatDoorAbWP10
set_option linter.unusedSimpArgs false
set_option linter.unusedVariables false
set_option maxRecDepth 100000
namespace Go.Ab
noncomputable section
open Classical in
def mR {α : Type} (R : α → List PA → Prop) (g : α → Option (List PA)) (args : List PA) : Option (List PA) :=
  if h : ∃ a, R a args then g (Classical.choose h) else none
theorem mR_inv {α : Type} {R : α → List PA → Prop} {g : α → Option (List PA)} {args r : List PA} (h : mR R g args = some r) : ∃ a, R a args ∧ g a = some r := by
  unfold mR at h
  split at h
  · rename_i hx
    exact ⟨_, Classical.choose_spec hx, h⟩
  cases h
theorem mR_eq {α : Type} {R : α → List PA → Prop} {g : α → Option (List PA)} {args : List PA} {a : α} (hu : ∀ b, R b args → g b = g a) (h : R a args) : mR R g args = g a := by
  unfold mR
  rw [dif_pos ⟨a, h⟩]
  exact hu _ (Classical.choose_spec (p := fun b => R b args) ⟨a, h⟩)
def mE {α : Type} (enc : α → List PA) (g : α → Option (List PA)) (args : List PA) : Option (List PA) := mR (fun a args => args = enc a) g args
theorem mE_inv {α : Type} {enc : α → List PA} {g : α → Option (List PA)} {args r : List PA} (h : mE enc g args = some r) : ∃ a, args = enc a ∧ g a = some r := mR_inv h
theorem mE_eq {α : Type} {enc : α → List PA} (hi : ∀ a b, enc a = enc b → a = b) {g : α → Option (List PA)} {a : α} : mE enc g (enc a) = g a :=
  mR_eq (fun b hb => by rw [hi a b hb]) rfl
theorem map_inj {α β : Type} {f : α → β} (hf : ∀ a b, f a = f b → a = b) : ∀ {l k : List α}, l.map f = k.map f → l = k
  | [], [], _ => rfl
  | [], _ :: _, h => by simp at h
  | _ :: _, [], h => by simp at h
  | a :: l, b :: k, h => by
    simp only [List.map_cons, List.cons.injEq] at h
    rw [hf a b h.1, map_inj hf h.2]
end
end Go.Ab
