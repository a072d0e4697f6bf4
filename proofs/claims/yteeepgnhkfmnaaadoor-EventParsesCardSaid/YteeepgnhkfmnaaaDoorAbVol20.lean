/-
  Texts of the layer and of the laws, put together: AbG. No law is stated here.
-/
import Derived.Test.YteeepgnhkfmnaaaDoorAbVol12
import Derived.Test.YteeepgnhkfmnaaaDoorRows
import Derived.Lib.LaidTab
import Derived.Shelf.Strconv.Itoa3
set_option linter.unusedSimpArgs false
set_option linter.unusedVariables false
set_option maxRecDepth 100000

/-
  The package variables of this seat: strconv's powers of ten, and an integer of bytealg's.
-/
namespace Go.Ab
open Go.RowKit Go.Proofs Go.Proofs.YteeepgnhkfmnaaaDoor

abbrev powName : String := ((Rows.eventPrintsRow.laid.map fun x => x.1).drop 2).headD default

theorem cell_lt0 {w : World} {a : Addr} {v : Value} (h : w.cell? a = some v) : a.block < w.heap.size := by
  unfold World.cell? at h
  split at h
  · rename_i hb
    exact (Array.getElem?_eq_some_iff.1 hb).1
  · cases h

theorem var_below {P : Program} {w w' : World} {n : String} {cs : Array Value} (hb : Below w.heap.size w w') (h : w.var? P n = some cs) : w'.var? P n = some cs := by
  unfold World.var? at h ⊢
  cases hg : P.globalNamed n with
  | none => rw [hg] at h; cases h
  | some g =>
    rw [hg] at h
    simp only [Option.bind_some] at h ⊢
    cases ho : w.heap[g]? with
    | none => rw [ho] at h; cases h
    | some o =>
      rw [hb.block g (Array.getElem?_eq_some_iff.1 ho).1]
      exact h

def Gt : Gl where
  f _ := none
  inv w := Lib.TabIs Tryd.prog w powName .u64 Lib.pow10Tab ∧ ∃ m : Int, w.cell? ⟨1, 0, none⟩ = some (.int .i64 m)
  stable := fun w w' hb ⟨h1, m, h2⟩ => ⟨var_below hb h1, m, by rw [hb.cell (p := ⟨1, 0, none⟩) (cell_lt0 h2)]; exact h2⟩

end Go.Ab
