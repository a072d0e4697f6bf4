/-
  How the environment goes on when one own object changes, or a new block comes: one law for all operations.
-/
import Derived.Test.YteeffcglpljdpaaDoorAb2
import Derived.Deep.AppendSrc
import Derived.Deep.MidRow
import Derived.Lib.Strings
set_option linter.unusedSimpArgs false
set_option linter.unusedVariables false
namespace Go.Ab
open Go.RowKit

theorem EnvOk.lt_len {A : Actn} {E : Env} {h : Hp} (hE : EnvOk A E h) {j : Nat} {b : Nat} (hj : j < h.length) (hb : E.ρ j = some b) : b < E.w.heap.size := (hE.base j b hj hb).2

/-- What becomes of the object id itself. -/
def KeepId (E : Env) (h : Hp) (E' : Env) (h' : Hp) (id : Nat) : Prop :=
  ∀ o, h[id]? = some o → match o with
    | .tok m z _ => ∃ m' c', h'[id]? = some (.tok m' z c') ∧ m ≤ m' ∧
        (m' = m → E'.ρ id = E.ρ id ∧ ∀ b vs T, E.ρ id = some b → E.w.heap[b]? = some (.cells vs T (0, 0)) → ∃ vs' T', E'.w.heap[b]? = some (.cells vs' T' (0, 0)) ∧ vs'.size = vs.size)
    | o => (∃ o', h'[id]? = some o' ∧ o'.kind = o.kind) ∧ E'.ρ id = E.ρ id

structure Stp (E : Env) (h : Hp) (id : Nat) (E' : Env) (h' : Hp) : Prop where
  os : E'.w.os = E.w.os
  tape : E'.w.tape = E.w.tape
  output : E'.w.output = E.w.output
  size : E.w.heap.size ≤ E'.w.heap.size
  blk : ∀ k, k < E.w.heap.size → ¬ (id < h.length ∧ E.ρ id = some k) → E'.w.heap[k]? = E.w.heap[k]?
  idle : id ≤ h.length
  len : h.length ≤ h'.length
  len' : h'.length ≤ max h.length (id + 1)
  ρ : ∀ j, j < h.length → j ≠ id → E'.ρ j = E.ρ j
  hh : ∀ j, j < h.length → j ≠ id → h'[j]? = h[j]?
  F : ∀ b o, E.F b o → E'.F b o
  F' : ∀ b o, E'.F b o → E.F b o ∨ (b < E'.w.heap.size ∧ (E.w.heap.size ≤ b ∨ (id < h.length ∧ E.ρ id = some b)))
  same : ∀ b o, E.F b o → E'.w.cell? ⟨b, o, none⟩ = E.w.cell? ⟨b, o, none⟩
  at' : ∀ b, id < h'.length → E'.ρ id = some b → b < E'.w.heap.size ∧ (E.w.heap.size ≤ b ∨ (id < h.length ∧ E.ρ id = some b))
  keep : KeepId E h E' h' id

theorem Stp.evo {A : Actn} {E E' : Env} {h h' : Hp} {id : Nat} (hE : EnvOk A E h) (st : Stp E h id E' h') : Evo h.length E h E' h' where
  frz := st.F
  same := st.same
  len := st.len
  keep j hj o ho hk := by
    by_cases hji : j = id
    · subst hji
      have := st.keep o ho
      cases o <;> first | exact absurd rfl hk | exact this
    · exact ⟨⟨o, by rw [st.hh j hj hji]; exact ho, rfl⟩, st.ρ j hj hji⟩
  tok j hj m z c hm := by
    by_cases hji : j = id
    · subst hji
      exact st.keep _ hm
    · refine ⟨m, c, by rw [st.hh j hj hji]; exact hm, Nat.le_refl _, fun _ => ⟨st.ρ j hj hji, fun b vs T hb hv => ?_⟩⟩
      refine ⟨vs, T, ?_, rfl⟩
      rw [st.blk b (hE.lt_len hj hb) (fun ⟨h1, h2⟩ => hji (hE.inj j id b hj h1 hb h2))]
      exact hv

theorem Ob.rel_other {A : Actn} {E E' : Env} {h h' : Hp} {id : Nat} (hE : EnvOk A E h) (st : Stp E h id E' h') {j : Nat} (hj : j < h.length) (hji : j ≠ id) {o : Ob} (hr : o.rel E h j) : o.rel E' h' j := by
  have ev := st.evo hE
  have hnew : ∀ b, E.ρ j = some b → ∀ o, E'.F b o → E.F b o := fun b hb o hf => by
    rcases st.F' b o hf with h1 | ⟨_, h2 | ⟨h3, h4⟩⟩
    · exact h1
    · have := hE.lt_len hj hb; omega
    · exact absurd (hE.inj j id b hj h3 hb h4) hji
  have hblk : ∀ b, E.ρ j = some b → E'.w.heap[b]? = E.w.heap[b]? := fun b hb =>
    st.blk b (hE.lt_len hj hb) (fun ⟨h1, h2⟩ => hji (hE.inj j id b hj h1 hb h2))
  cases o with
  | dead => exact hr
  | box cs =>
    obtain ⟨b, vs, T, hb, hv, hc, hf⟩ := hr
    exact ⟨b, vs, T, (st.ρ j hj hji).trans hb, (hblk b hb).trans hv, hc.evo ev (Nat.le_refl _), fun o ho => hf o (hnew b hb o ho)⟩
  | tok n z c =>
    cases c with
    | none =>
      obtain ⟨hz, h0 | ⟨b, vs, T, hb, hv, hs, hf⟩⟩ := hr
      · exact ⟨hz, .inl ⟨(st.ρ j hj hji).trans h0.1, h0.2⟩⟩
      · exact ⟨hz, .inr ⟨b, vs, T, (st.ρ j hj hji).trans hb, (hblk b hb).trans hv, hs, fun o ho hx => hf o ho (hnew b hb o hx)⟩⟩
    | some ds =>
      obtain ⟨hz, h0 | ⟨b, vs, T, hb, hv, hs, hc, hf⟩⟩ := hr
      · exact ⟨hz, .inl ⟨(st.ρ j hj hji).trans h0.1, h0.2⟩⟩
      · exact ⟨hz, .inr ⟨b, vs, T, (st.ρ j hj hji).trans hb, (hblk b hb).trans hv, hs, hc.evo ev (Nat.le_refl _), fun o hx => hf o (hnew b hb o hx)⟩⟩
  | siter s pos =>
    obtain ⟨b, hb, hv⟩ := hr
    exact ⟨b, (st.ρ j hj hji).trans hb, (hblk b hb).trans hv⟩
  | map es clock =>
    obtain ⟨b, ents, hb, hv, hl, hf, hx⟩ := hr
    exact ⟨b, ents, (st.ρ j hj hji).trans hb, (hblk b hb).trans hv, hl, fun o hx => hf o (hnew b hb o hx), fun j p hj => let ⟨e, he, h1, h2, h3⟩ := hx j p hj; ⟨e, he, h1, h2.evo ev, h3.evo ev⟩⟩

theorem Stp.ok {A : Actn} {E E' : Env} {h h' : Hp} {id : Nat} (hE : EnvOk A E h) (st : Stp E h id E' h') (hob : ∀ o : Ob, h'[id]? = some o → o.rel E' h' id) : EnvOk A E' h' := by
  have ev := st.evo hE
  have hlt : ∀ j, j < h'.length → j ≠ id → j < h.length := fun j hj hji => by
    have := st.len'; have := st.idle; omega
  have hidb : ∀ b, id < h.length → E.ρ id = some b → A.w0.heap.size ≤ b := fun b h1 h2 => (hE.base id b h1 h2).1
  have hsz := hE.below.size
  refine ⟨?_, ?_, ?_, ?_, ?_, ?_, ?_, ?_, hE.ginv⟩
  · exact hE.below.trans ⟨st.os, st.tape, st.output, st.size, fun k hk => st.blk k (by omega) (fun ⟨h1, h2⟩ => by have := hidb k h1 h2; omega)⟩
  · intro b o hf
    rcases st.F' b o hf with h1 | ⟨h2, _⟩
    · exact Nat.lt_of_lt_of_le (hE.lt b o h1) st.size
    · exact h2
  · intro b o hb hf
    rcases st.F' b o hf with h1 | ⟨_, h2 | ⟨h3, h4⟩⟩
    · exact hE.old b o hb h1
    · omega
    · have := hidb b h3 h4; omega
  · exact fun b o hf => st.F b o (hE.f0 b o hf)
  · intro i j b hi hj hbi hbj
    by_cases hii : i = id
    · by_cases hjj : j = id
      · rw [hii, hjj]
      · have hj' := hlt j hj hjj
        rw [st.ρ j hj' hjj] at hbj
        subst hii
        rcases (st.at' b hi hbi).2 with h1 | ⟨h1, h2⟩
        · have := hE.lt_len hj' hbj; omega
        · exact hE.inj i j b h1 hj' h2 hbj
    · have hi' := hlt i hi hii
      rw [st.ρ i hi' hii] at hbi
      by_cases hjj : j = id
      · subst hjj
        rcases (st.at' b hj hbj).2 with h1 | ⟨h1, h2⟩
        · have := hE.lt_len hi' hbi; omega
        · exact hE.inj i j b hi' h1 hbi h2
      · have hj' := hlt j hj hjj
        rw [st.ρ j hj' hjj] at hbj
        exact hE.inj i j b hi' hj' hbi hbj
  · intro i b hi hb
    by_cases hii : i = id
    · subst hii
      obtain ⟨h1, h2 | ⟨h2, h3⟩⟩ := st.at' b hi hb
      · exact ⟨by omega, h1⟩
      · exact ⟨hidb b h2 h3, h1⟩
    · have hi' := hlt i hi hii
      rw [st.ρ i hi' hii] at hb
      obtain ⟨h1, h2⟩ := hE.base i b hi' hb
      exact ⟨h1, Nat.lt_of_lt_of_le h2 st.size⟩
  · intro i o ho
    by_cases hii : i = id
    · subst hii; exact hob o ho
    · have hi' := hlt i (lt_of_get ho) hii
      rw [st.hh i hi' hii] at ho
      exact Ob.rel_other hE st hi' hii (hE.ob i o ho)
  · exact fun g xs hg => (hE.glob g xs hg).evo ev

/-! ### A new block -/

def Env.newOb (E : Env) (n : Nat) (w : World) : Env := { ρ := fun i => if i = n then some E.w.heap.size else E.ρ i, F := E.F, w }

theorem cell?_alloc_old (w : World) (o : Obj) (a : Addr) (h : a.block < w.heap.size) : (w.alloc o).cell? a = w.cell? a :=
  World.cell?_of_block (Below.heap_alloc w o a.block h)

/-- A new own object in a new block. -/
theorem Stp.new {A : Actn} {E : Env} {h : Hp} (hE : EnvOk A E h) (ob : Obj) (o : Ob) : Stp E h h.length (E.newOb h.length (E.w.alloc ob)) (h ++ [o]) where
  os := rfl
  tape := rfl
  output := rfl
  size := by simp [Env.newOb]
  blk k hk _ := Below.heap_alloc _ _ _ hk
  idle := Nat.le_refl _
  len := by simp
  len' := by simp
  ρ j hj hji := by simp [Env.newOb, hji]
  hh j hj _ := by simp [List.getElem?_append_left hj]
  F _ _ h := h
  F' _ _ h := .inl h
  same b o hf := cell?_alloc_old _ _ _ (hE.lt b o hf)
  at' b _ hb := by
    simp [Env.newOb] at hb
    subst hb
    exact ⟨by simp [Env.newOb], .inl (Nat.le_refl _)⟩
  keep o ho := by have := lt_of_get ho; omega

theorem new_at {E : Env} {h : Hp} {w : World} {o : Ob} : At (E.newOb h.length w) (h ++ [o]) o.kind h.length E.w.heap.size :=
  ⟨⟨o, by simp, rfl⟩, by simp [Env.newOb]⟩

/-- A new block, frozen at once: no object. -/
def Env.newFz (E : Env) (w : World) : Env := { ρ := E.ρ, F := fun b o => E.F b o ∨ (E.w.heap.size ≤ b ∧ b < w.heap.size), w }

theorem Stp.fz {A : Actn} {E : Env} {h : Hp} (hE : EnvOk A E h) (w : World) (hos : w.os = E.w.os) (ht : w.tape = E.w.tape) (ho : w.output = E.w.output)
    (hs : E.w.heap.size ≤ w.heap.size) (hblk : ∀ k, k < E.w.heap.size → w.heap[k]? = E.w.heap[k]?) : Stp E h h.length (E.newFz w) h where
  os := hos
  tape := ht
  output := ho
  size := hs
  blk k hk _ := hblk k hk
  idle := Nat.le_refl _
  len := Nat.le_refl _
  len' := by omega
  ρ _ _ _ := rfl
  hh _ _ _ := rfl
  F _ _ h := .inl h
  F' b o h := by
    rcases h with h | ⟨h1, h2⟩
    · exact .inl h
    · exact .inr ⟨h2, .inl (by omega)⟩
  same b o hf := World.cell?_of_block (hblk b (hE.lt b o hf))
  at' b hb _ := by omega
  keep o ho := by have := lt_of_get ho; omega

theorem Stp.fz_ok {A : Actn} {E E' : Env} {h : Hp} (hE : EnvOk A E h) (st : Stp E h h.length E' h) : EnvOk A E' h :=
  st.ok hE (fun o ho => by have := lt_of_get ho; omega)

end Go.Ab
