/-
  Texts of the layer and of the laws, put together: AbBd. No law is stated here.
-/
import Derived.Test.YtckjmdppjealdaaGreatDoorAbVol14
import Derived.Test.YtckjmdppjealdaaGreatDoorAbVol19
import Derived.Test.YtckjmdppjealdaaGreatDoorAbVol21
import Derived.Test.YtckjmdppjealdaaGreatDoorAbVol22
set_option linter.unusedSimpArgs false
set_option linter.unusedVariables false
set_option maxRecDepth 100000

/-
  strings.Builder: what WriteString, Len and String do to a builder of the caller's.
-/
namespace Go.Ab
open Go.RowKit Go.Proofs Go.Lib

def bCheck_k : List AV → Hp → Option COut := fun _ _ => none
def Ob.isB : Ob → Bool
  | .bld _ _ _ true => true
  | _ => false
/-- There is no other builder. -/
def soleB (h : Hp) (id : Nat) : Bool := h.zipIdx.all fun p => p.2 == id || !p.1.isB
def bGet (h : Hp) (id : Nat) : Option (List UInt8) := match h[id]? with
  | some (.bld T e l true) => if T = 121 ∧ e = 5 ∧ soleB h id = true then some l else none
  | _ => none
abbrev bOb (l : List UInt8) (on : Bool) : Ob := .bld 121 5 l on
def bwK (h : Hp) (id : Nat) (s : List UInt8) : Option (List UInt8) → Option COut
  | some l => if l.length + s.length ≤ 140737488355328 then some (.ret (.tup [.c (.d (.int .i64 s.length)), .c .nili]) (h.set id (bOb (l ++ s) true))) else none
  | none => none
def bWrite_k : List AV → Hp → Option COut := fun args h => match args with | [.v (.c (.ptr id 0)), .v (.c (.d (.str s)))] => bwK h id s (bGet h id) | _ => none

theorem bytes_cells (l : List UInt8) : (l.map fun x => Value.int .u8 x.toNat) = Lib.byteCells l := rfl

/-- What a call may have done to the blocks: b and g apart, those that were there are as they were. -/
structure Poked (w w' : World) (b : Nat) (g : Option Nat) : Prop where
  os : w'.os = w.os
  tape : w'.tape = w.tape
  output : w'.output = w.output
  size : w.heap.size ≤ w'.heap.size
  block : ∀ k, k < w.heap.size → k ≠ b → some k ≠ g → w'.heap[k]? = w.heap[k]?

theorem check_walk (b : Nat) (p v : Value) (w : World) (hb : w.heap[b]? = some (.cells #[p, v] 121 (0, 0))) (hp : p = .pointer none ∨ p = .pointer (some ⟨b, 0, none⟩)) :
    Calls Tryz.prog 119 #[.pointer (some ⟨b, 0, none⟩)] w fun e w' => e = .returned (.tuple #[]) ∧ w'.heap[b]? = some (.cells #[.pointer (some ⟨b, 0, none⟩), v] 121 (0, 0)) ∧ Poked w w' b none ∧ w'.heap.size = w.heap.size := by
  have c0 : w.cell? ⟨b, 0, none⟩ = some p := by rw [Lib.cell_of_heap hb]; rfl
  rcases hp with rfl | rfl
  · refine (Any.Builder_copyCheck_fresh { Tryz.lays156 with } Tryz.Builder_Extra_156.toX72 b w c0 (by simp [World.shape?, hb]; rfl) (Lib.frozen_of_heap hb 0)).mono ?_
    rintro e w' ⟨rfl, rfl⟩
    refine ⟨rfl, by simp [World.setCell, Array.getElem?_modify, hb], ⟨rfl, rfl, rfl, by simp [World.setCell], fun k _ hk _ => ?_⟩, by simp [World.setCell]⟩
    exact Below.heap_setCell _ _ _ _ (fun e => hk (by simp [e]))
  · refine (Any.Builder_copyCheck_used { Tryz.lays156 with } Tryz.Builder_Extra_156.toX72 b w c0).mono ?_
    rintro e w' ⟨rfl, rfl⟩
    exact ⟨rfl, hb, ⟨rfl, rfl, rfl, Nat.le_refl _, fun _ _ _ _ => rfl⟩, rfl⟩

/-- append(v, s...), v a slice of bytes of a block of its own. -/
theorem append_bytes {P : Program} {w : World} {t tx ty e : TypeId} {i : TypeInfo} (ht : P.underlying t = some (.slice e)) (hu : P.underlying tx = some .string) (hi : P.info? e = some i) (hz : i.zero = some (.int .u8 0)) (hs1 : i.size = 1) (hby : i.bytes = 1)
    {v : Value} {l : List UInt8} {s : ByteArray} (hown : w.ownsRow 0 e 1 v l.length (Lib.byteCells l)) (hlen : l.length + s.size ≤ 140737488355328) :
    ∃ v' w', (Builtin.append_ #[t, tx] ty #[v, .string s]).run P w = .ok v' w' ∧ w'.ownsRow 0 e 1 v' (l.length + s.size) (Lib.byteCells l ++ strCells s) ∧ w.grownBy w' v.ownBlock ∧ ∀ g, v'.ownBlock = some g → v.ownBlock = some g ∨ w.heap.size ≤ g := by
  obtain ⟨v', w', hr, h1, h2, h3⟩ := run_append_own_string (P := P) w 0 t tx ty e i ht hu hi hz hs1 hby v l.length _ hown s (by unfold maxLen; omega) hlen (Nat.zero_le _)
  refine ⟨v', w', hr, h1, h2, fun g hg => ?_⟩
  have hsrc : Src P i.size tx (.string s) s.size (Go.byteCells s) w := by rw [hs1]; exact Src.ofString w hu s
  have hgrow : ∀ base cap olds, v = .slice base l.length cap → cap < l.length + s.size → (Builtin.firstCells i.size l.length (.slice base l.length cap)).run P w.drew = .ok olds w.drew → w.heap.size ≤ g := by
    intro base cap olds hv hc ho
    subst hv
    have hrun := run_append_grow_src (P := P) w t tx ty e i _ ht hi hz base l.length cap olds.toList (by simpa using ho) (.string s) s.size _ hsrc hc (by omega) (growslice_fits hc (by rw [hby]; omega))
    rw [hr] at hrun
    cases hrun
    simp only [Value.ownBlock, Option.some.injEq] at hg
    omega
  rcases hown.2 with ⟨rfl, h0⟩ | ⟨k, cap, cur, rfl, _, hk, hnc, _, hcs, htk⟩
  · by_cases hs0 : s.size = 0
    · have := h3.2 ⟨rfl, hs0⟩
      subst this
      cases hg
    · rw [h0] at hgrow
      exact .inr (hgrow none 0 #[] rfl (by omega) (by simp [Builtin.firstCells]))
  · by_cases hroom : l.length + s.size ≤ cap
    · have hrun := run_append_room_src (P := P) w t tx ty e i ht hi k 0 l.length cap (.string s) s.size _ hsrc hroom
        (fun j hj => by
          rw [byteCells_length] at hj
          simp only [World.cell?, hk, Nat.zero_add, Option.isSome_none, Bool.false_eq_true, if_false]
          rw [Array.getElem?_eq_getElem (by rw [hs1]; omega)]
          rfl)
        (fun j hj => by simp [World.frozen?, hk])
      rw [hr] at hrun
      cases hrun
      exact .inl hg
    · refine .inr (hgrow _ cap (cur.toList.take l.length).toArray rfl (by omega) ?_)
      have hc : ∀ (j : Nat) (u : Value), (cur.toList.take l.length)[j]? = some u → w.drew.cell? ((⟨k, 0, none⟩ : Addr).add j) = some u := fun j u hj => by
        rw [List.getElem?_take] at hj
        split at hj
        · rw [Addr.add_lit, Nat.zero_add]
          have hk' : w.drew.heap[k]? = some (.cells cur e (0, 0)) := hk
          simp only [World.cell?, hk']
          simpa using hj
        · cases hj
      exact run_firstCells_some w.drew i.size l.length ⟨k, 0, none⟩ l.length cap _ (by simp [hs1]; omega) hc

theorem wpList_append_b {P : Program} {w w' : World} {ops : Array Oper} {rest : List Oper} {o : Oper} {a : Act} {Q : Exit → Act → World → Prop} (hgd : o.guard = none) (sl x : Operand) (t u : TypeId)
    (ho : o.op = .call { callee := .builtin .append, args := #[sl, x], argTypes := #[t, u] }) (v : Value) (s : ByteArray) (hs : a.eval sl = v) (hx : a.eval x = .string s) {v' : Value} (hr : (Builtin.append_ #[t, u] o.type #[v, .string s]).run P w = .ok v' w')
    (h : wpList P ops Q rest (a.put o.dst v') w') : wpList P ops Q (o :: rest) a w := by
  refine wpList_plain hgd fun K hK => ?_
  unfold Oper.wp execOp
  simp only [ho, resolve, invoke, builtin, Sem.run_bind, Sem.run_pure, Result.andThen_ok, List.map_toArray, List.map_cons, List.map_nil, hs, hx, hr]
  exact hK _ _ h

theorem ntmpsW : Tryz.f82.ntmps = 19 := rfl

set_option maxHeartbeats 2000000 in
set_option maxRecDepth 100000 in
theorem write_walk (b : Nat) (p v : Value) (l : List UInt8) (s : ByteArray) (w : World) (hb : w.heap[b]? = some (.cells #[p, v] 121 (0, 0))) (hp : p = .pointer none ∨ p = .pointer (some ⟨b, 0, none⟩))
    (hown : w.ownsRow 0 5 1 v l.length (Lib.byteCells l)) (hne : v.ownBlock ≠ some b) (hlen : l.length + s.size ≤ 140737488355328) :
    Calls Tryz.prog 82 #[.pointer (some ⟨b, 0, none⟩), .string s] w fun e w' => e = .returned (.tuple #[.int .i64 s.size, .nilIface]) ∧
      ∃ v', w'.heap[b]? = some (.cells #[.pointer (some ⟨b, 0, none⟩), v'] 121 (0, 0)) ∧ w'.ownsRow 0 5 1 v' (l.length + s.size) (Lib.byteCells l ++ strCells s) ∧
        v'.ownBlock ≠ some b ∧ (∀ g, v'.ownBlock = some g → v.ownBlock = some g ∨ w.heap.size ≤ g) ∧ Poked w w' b v.ownBlock := by
  obtain ⟨i0, hi, hz0, hz1, hz2⟩ := info_parts Tryz.Builder_Extra_156.infoByte
  have L := Tryz.lays156
  have mixed := L.mixed
  have t58 := Tryz.underlying121; have a58 := Tryz.isAgg121; have z58 := Tryz.sizeOf121; have v58 := Tryz.zeroValue121
  have t56 := Tryz.underlying118; have a56 := Tryz.isAgg118; have z56 := Tryz.sizeOf118; have v56 := Tryz.zeroValue118
  have t38 := Tryz.underlying119; have a38 := Tryz.isAgg119; have z38 := Tryz.sizeOf119; have v38 := Tryz.zeroValue119
  have t3 := Tryz.underlying3; have a3 := Tryz.isAgg3; have z3 := Tryz.sizeOf3; have v3 := Tryz.zeroValue3
  have t9 := Tryz.underlying9; have a9 := Tryz.isAgg9; have z9 := Tryz.sizeOf9; have v9 := Tryz.zeroValue9
  have e48 : ∀ args w, (callFunc 119 args).run Tryz.prog w = .ok (.enter 119 args) w := enters_of Tryz.func119 (by kernel_rfl) rfl
  go_enter Tryz.func82, ntmpsW
  go_wp2_with (go_at_fn 119; refine (check_walk b p v _ hb hp).mono ?_)
  rintro e w1 ⟨rfl, hb1, hpk, hsz⟩
  have c0 : w1.cell? ⟨b, 0, none⟩ = some (.pointer (some ⟨b, 0, none⟩)) := by rw [Lib.cell_of_heap hb1]; rfl
  have c1 : w1.cell? ⟨b, 1, none⟩ = some v := by rw [Lib.cell_of_heap hb1]; rfl
  have hown1 : w1.ownsRow 0 5 1 v l.length (Lib.byteCells l) := by
    refine ⟨hown.1, ?_⟩
    rcases hown.2 with h0 | ⟨g, cap, cur, rfl, q1, q2, q3⟩
    · exact .inl h0
    · refine .inr ⟨g, cap, cur, rfl, q1, ?_, q3⟩
      rw [hpk.block g (Array.getElem?_eq_some_iff.1 q2).1 (fun e => hne (by simp [Value.ownBlock, e])) (by simp)]
      exact q2
  obtain ⟨v', w2, hrun, hown2, hgrow, hnew⟩ := append_bytes (P := Tryz.prog) (w := w1) (ty := 119) Tryz.underlying119 Tryz.underlying9 hi hz0 hz1 hz2 hown1 hlen
  have hlt : b < w1.heap.size := (Array.getElem?_eq_some_iff.1 hb1).1
  have hb2 : w2.heap[b]? = some (.cells #[.pointer (some ⟨b, 0, none⟩), v] 121 (0, 0)) := by
    rw [hgrow.block b hlt (fun e => hne e.symm)]
    exact hb1
  have d0 : w2.cell? ⟨b, 0, none⟩ = some (.pointer (some ⟨b, 0, none⟩)) := by rw [Lib.cell_of_heap hb2]; rfl
  have d1 : w2.cell? ⟨b, 1, none⟩ = some v := by rw [Lib.cell_of_heap hb2]; rfl
  have f1 : w2.frozen? ⟨b, 1, none⟩ = false := Lib.frozen_of_heap hb2 1
  have hne2 : v'.ownBlock ≠ some b := fun e => by
    rcases hnew b e with h | h
    · exact hne h
    · omega
  obtain ⟨ao, n', cap, rfl⟩ : ∃ ao n' cap, v' = .slice ao n' cap := by
    rcases hown2.2 with ⟨hv, _⟩ | ⟨g, cap, cur, hv, _⟩
    · exact ⟨_, _, _, hv⟩
    · exact ⟨_, _, _, hv⟩
  go_wp2_with (at_builtin; refine wpList_append_b rfl _ _ 119 9 rfl v s rfl rfl hrun ?_)
  go_wp2
  go_ret2
  refine ⟨rfl, _, ?_, ?_, hne2, fun g hg => ?_, ?_⟩
  · simp [World.setCell, Array.getElem?_modify, hb2]
  · exact hown2.kept (row := some b) ⟨rfl, rfl, rfl, by simp [World.setCell], fun k _ hk => Below.heap_setCell _ _ _ _ (fun e => hk (by simp [e]))⟩ (Or.inr hne2)
  · rcases hnew g hg with h | h
    · exact .inl h
    · exact .inr (by omega)
  · refine ⟨hgrow.os.trans hpk.os, hgrow.tape.trans hpk.tape, hgrow.output.trans hpk.output, ?_, fun k hk hkb hkg => ?_⟩
    · show w.heap.size ≤ (w2.setCell _ _).heap.size
      have := hgrow.size
      simp [World.setCell]
      omega
    · rw [Below.heap_setCell _ _ _ _ (fun e => hkb (by simp [e]))]
      rw [hgrow.block k (by omega) hkg, hpk.block k hk hkb (by simp)]

def bsK (h : Hp) (id : Nat) : Option (List UInt8) → Option COut
  | some l => if l ≠ [] then some (.ret (.s l) (h.set id (bOb l false))) else none
  | none => none
def bString_k : List AV → Hp → Option COut := fun args h => match args with | [.v (.c (.ptr id 0))] => bsK h id (bGet h id) | _ => none
def blK (h : Hp) : Option (List UInt8) → Option COut
  | some l => some (.ret (.i l.length) h)
  | none => none
def bLen_k : List AV → Hp → Option COut := fun args h => match args with | [.v (.c (.ptr id 0))] => blK h (bGet h id) | _ => none

theorem ntmpsS : Tryz.f88.ntmps = 14 := rfl

set_option maxHeartbeats 2000000 in
set_option maxRecDepth 100000 in
theorem string_walk (b : Nat) (p v : Value) (l : List UInt8) (w : World) (hbk : w.heap[b]? = some (.cells #[p, v] 121 (0, 0))) (hown : w.ownsRow 0 5 1 v l.length (Lib.byteCells l)) (hne : v.ownBlock ≠ some b) (h0 : l ≠ []) :
    Calls Tryz.prog 88 #[.pointer (some ⟨b, 0, none⟩)] w fun e w' => e = .returned (.string ⟨l.toArray⟩) ∧ ∃ n, ∃ g, v.ownBlock = some g ∧ w' = (w.drewN n).freeze ⟨g, 0, none⟩ l.length := by
  have hl0 : l.length ≠ 0 := by simpa using h0
  obtain ⟨g, cap, cur, rfl, hbg, hg, hnc, hcm, hcs, htake⟩ : ∃ g cap cur, v = .slice (some ⟨g, 0, none⟩) l.length cap ∧ 0 ≤ g ∧ w.heap[g]? = some (.cells cur 5 (0, 0)) ∧ l.length ≤ cap ∧ cap ≤ maxLen ∧ cur.size = cap * 1 ∧ cur.toList.take (l.length * 1) = Lib.byteCells l := by
    rcases hown.2 with ⟨_, hz⟩ | ⟨g, cap, cur, hv, r⟩
    · exact absurd hz hl0
    · exact ⟨g, cap, cur, hv, r⟩
  have c1 : w.drew.cell? ⟨b, 1, none⟩ = some (.slice (some ⟨g, 0, none⟩) l.length cap) := by
    have : w.drew.heap[b]? = some (.cells #[p, .slice (some ⟨g, 0, none⟩) l.length cap] 121 (0, 0)) := hbk
    rw [Lib.cell_of_heap this]; rfl
  have hSD : (Builtin.unsafeSliceData_ #[119] 162 #[.slice (some ⟨g, 0, none⟩) l.length cap]).run Tryz.prog w.drew = .ok (.pointer (some ⟨g, 0, none⟩)) w.drew :=
    Lib.run_unsafeSliceData_row _ _ _ _ _ _ (by omega)
  have hUS : (Builtin.unsafeString_ #[162, 3] 9 #[.pointer (some ⟨g, 0, none⟩), .int .i64 l.length]).run Tryz.prog w.drew = .ok (.string ⟨l.toArray⟩) (w.drew.freeze ⟨g, 0, none⟩ l.length) := by
    refine Lib.run_unsafeString_row w.drew 162 3 9 5 Tryz.underlying162 Tryz.Builder_Extra_156.cellsByte g cur.size (by have hg' : w.drew.heap[g]? = some (.cells cur 5 (0, 0)) := hg; simp [World.shape?, hg']) l h0 (by omega) (by unfold maxLen at hcm; omega) ?_
    intro j x hx
    have := hown.cells (g := g) rfl j (.int .u8 x.toNat) (by simp [Lib.byteCells, hx])
    exact this
  have L := Tryz.lays156
  have mixed := L.mixed
  have t58 := Tryz.underlying121; have a58 := Tryz.isAgg121; have z58 := Tryz.sizeOf121; have v58 := Tryz.zeroValue121
  have t56 := Tryz.underlying118; have a56 := Tryz.isAgg118; have z56 := Tryz.sizeOf118; have v56 := Tryz.zeroValue118
  have t38 := Tryz.underlying119; have a38 := Tryz.isAgg119; have z38 := Tryz.sizeOf119; have v38 := Tryz.zeroValue119
  have t82 := Tryz.underlying162; have a82 := Tryz.isAgg162; have z82 := Tryz.sizeOf162; have v82 := Tryz.zeroValue162
  have t3 := Tryz.underlying3; have a3 := Tryz.isAgg3; have z3 := Tryz.sizeOf3; have v3 := Tryz.zeroValue3
  have t9 := Tryz.underlying9; have a9 := Tryz.isAgg9; have z9 := Tryz.sizeOf9; have v9 := Tryz.zeroValue9
  have t5 := Tryz.underlying5; have a5 := Tryz.isAgg5; have z5 := Tryz.sizeOf5; have v5 := Tryz.zeroValue5
  go_enter Tryz.func88, ntmpsS
  go_wp2
  go_region
  all_goals (go_wp2; go_ret; exact ⟨rfl, 1, g, rfl, rfl⟩)


/-! ### As contracts -/

theorem bGet_inv {h : Hp} {id : Nat} {l : List UInt8} (hg : bGet h id = some l) : h[id]? = some (bOb l true) ∧ ∀ (j : Nat) (o : Ob), h[j]? = some o → j ≠ id → o.isB = false := by
  unfold bGet at hg
  split at hg
  · rename_i hid
    split at hg
    · rename_i hc
      cases hg
      obtain ⟨rfl, rfl, hs⟩ := hc
      refine ⟨hid, fun j o hj hji => ?_⟩
      unfold soleB at hs
      rw [List.all_eq_true] at hs
      have := hs (o, j) (List.mem_zipIdx_iff_getElem?.2 hj)
      simp only [Bool.or_eq_true, beq_iff_eq, Bool.not_eq_true'] at this
      rcases this with h1 | h1
      · exact absurd h1 hji
      · exact h1
    · cases hg
  · cases hg

/-- The blocks of a builder are changed. -/
theorem bld_poke {A : Actn} {E : Env} {h : Hp} {id b : Nat} {o o' : Ob} {w' : World} {g : Option Nat} (hE : EnvOk A E h) (hid : h[id]? = some o) (hk : o.kind = 1) (hk' : o'.kind = 1) (hρ : E.ρ id = some b) (hf : ∀ x, ¬ E.F b x)
    (hg : ∀ k, g = some k → b < k ∧ (∀ x, ¬ E.F k x) ∧ ∀ j, j < h.length → E.ρ j ≠ some k) (pk : Poked E.w w' b g) (hsole : ∀ (j : Nat) (x : Ob), h[j]? = some x → j ≠ id → x.isB = false) (hdr : A.G.dr = true → E.w.drawn ≤ w'.drawn)
    (hob : Evo h.length E h { E with w := w' } (h.set id o') → o'.rel { E with w := w' } (h.set id o') id) :
    Evo h.length E h { E with w := w' } (h.set id o') ∧ EnvOk A { E with w := w' } (h.set id o') := by
  have hidl := lt_of_get hid
  have hblk : ∀ (k : Nat), k < E.w.heap.size → (∀ x, k = b → x) → (∀ x, g = some k → x) → w'.heap[k]? = E.w.heap[k]? := fun k hk h1 h2 => pk.block k hk (fun e => h1 False e) (fun e => h2 False e.symm)
  have hfz : ∀ k x, E.F k x → w'.heap[k]? = E.w.heap[k]? := fun k x hx => pk.block k (hE.lt k x hx) (fun e => hf x (e ▸ hx)) (fun e => (hg k e.symm).2.1 x hx)
  have hoth : ∀ j k, j < h.length → j ≠ id → E.ρ j = some k → w'.heap[k]? = E.w.heap[k]? := fun j k hj hji hb => pk.block k (hE.lt_len hj hb) (fun e => hji (hE.inj j id b hj hidl (e ▸ hb) hρ)) (fun e => (hg k e.symm).2.2 j hj hb)
  have ev : Evo h.length E h { E with w := w' } (h.set id o') := by
    refine ⟨fun _ _ h => h, fun k x hx => World.cell?_of_block (hfz k x hx), fun j hj x hx hxk => ⟨?_, rfl⟩, fun j hj m z c hm => ?_, by simp⟩
    · by_cases hji : j = id
      · subst hji
        rw [hid] at hx
        cases hx
        exact ⟨o', by simp [hidl], hk'.trans hk.symm⟩
      · exact ⟨x, by rw [List.getElem?_set_ne (Ne.symm hji)]; exact hx, rfl⟩
    · have hji : j ≠ id := by
        rintro rfl
        rw [hid] at hm
        cases hm
        cases hk
      refine ⟨m, c, by rw [List.getElem?_set_ne (Ne.symm hji)]; exact hm, Nat.le_refl _, fun _ => ⟨rfl, fun k vs T hb hv => ⟨vs, T, ?_, rfl⟩⟩⟩
      rw [hoth j k hj hji hb]
      exact hv
  refine ⟨ev, ?_⟩
  have hlen : (h.set id o').length = h.length := by simp
  have hbase := (hE.base id b hidl hρ).1
  refine ⟨?_, fun k x hx => Nat.lt_of_lt_of_le (hE.lt k x hx) pk.size, hE.old, hE.f0, fun i j k hi hj => hE.inj i j k (hlen ▸ hi) (hlen ▸ hj), fun i k hi hb => ?_, fun i x hx => ?_, fun gl xs hgl => (hE.glob gl xs hgl).evo ev, hE.ginv, fun hD => Nat.le_trans (hE.drw hD) (hdr hD)⟩
  · exact hE.below.trans ⟨pk.os, pk.tape, pk.output, pk.size, fun k hk => pk.block k (Nat.lt_of_lt_of_le hk hE.below.size) (fun e => by omega) (fun e => by have := (hg k e.symm).1; omega)⟩
  · obtain ⟨h1, h2⟩ := hE.base i k (hlen ▸ hi) hb
    exact ⟨h1, Nat.lt_of_lt_of_le h2 pk.size⟩
  · by_cases hii : i = id
    · subst hii
      simp [hidl] at hx
      subst hx
      exact hob ev
    · rw [List.getElem?_set_ne (Ne.symm hii)] at hx
      have hil := lt_of_get hx
      have hr := hE.ob i x hx
      cases x with
      | dead => exact hr
      | box cs =>
        obtain ⟨k, vs, T, hb, hv, hc, hf⟩ := hr
        exact ⟨k, vs, T, hb, (hoth i k hil hii hb).trans hv, hc.evo ev (Nat.le_refl _), hf⟩
      | tok n z c =>
        cases c with
        | none =>
          obtain ⟨hz, h0 | ⟨k, vs, T, hb, hv, hs, hf⟩⟩ := hr
          · exact ⟨hz, .inl h0⟩
          · exact ⟨hz, .inr ⟨k, vs, T, hb, (hoth i k hil hii hb).trans hv, hs, hf⟩⟩
        | some ds =>
          obtain ⟨hz, h0 | ⟨k, vs, T, hb, hv, hs, hc, hf⟩⟩ := hr
          · exact ⟨hz, .inl h0⟩
          · exact ⟨hz, .inr ⟨k, vs, T, hb, (hoth i k hil hii hb).trans hv, hs, hc.evo ev (Nat.le_refl _), hf⟩⟩
      | siter s pos =>
        obtain ⟨k, hb, hv⟩ := hr
        exact ⟨k, hb, (hoth i k hil hii hb).trans hv⟩
      | map es clock =>
        obtain ⟨k, ents, hb, hv, hl, hf, hx⟩ := hr
        exact ⟨k, ents, hb, (hoth i k hil hii hb).trans hv, hl, hf, fun j p hj => let ⟨e, he, h1, h2, h3⟩ := hx j p hj; ⟨e, he, h1, h2.evo ev, h3.evo ev⟩⟩
      | bld T e l on =>
        obtain ⟨k, hb, hf, _⟩ := hr
        have hoff := hsole i _ hx hii
        cases on with
        | true => cases hoff
        | false => exact ⟨k, hb, hf, fun h => by cases h⟩

/-- What a builder's object tells of memory. -/
theorem bld_inv {A : Actn} {E : Env} {h : Hp} {id : Nat} {l : List UInt8} (hE : EnvOk A E h) (hid : h[id]? = some (bOb l true)) :
    ∃ b p v, E.ρ id = some b ∧ (∀ x, ¬ E.F b x) ∧ BldAt E h 121 5 l b p v := by
  obtain ⟨b, hρ, hf, hx⟩ := hE.ob id _ hid
  obtain ⟨p, v, hx⟩ := hx rfl
  exact ⟨b, p, v, hρ, hf, hx⟩

theorem ptr_inv {E : Env} {h : Hp} {id b : Nat} {u : Value} (hr : (AV.v (.c (.ptr id 0))).rel E h u) (hρ : E.ρ id = some b) : u = .pointer (some ⟨b, 0, none⟩) := by
  obtain ⟨b', ⟨_, hb'⟩, hv⟩ := hr
  rw [hρ] at hb'
  cases hb'
  exact hv

theorem bWrite_kok : ImpC Tryz.prog Gt 82 bWrite_k := by
  intro args h out h0
  unfold bWrite_k at h0
  split at h0
  · rename_i id s
    unfold bwK at h0
    split at h0
    · rename_i l hg
      split at h0
      · rename_i hlen
        cases h0
        obtain ⟨hid, hsole⟩ := bGet_inv hg
        refine fok_of_end (X := ctx Tryz.prog Gt []) Tryz.func82 rfl rfl fun A E vs hG hE hs hrel => ?_
        obtain ⟨b, p, v, hρ, hf, hb, hp, hown, hT, hgg⟩ := bld_inv hE hid
        have h1 := ptr_inv (hrel 0 _ rfl) hρ
        obtain ⟨s', h2, rfl⟩ := rd_str (hrel 1 _ rfl)
        rw [two_args (vs := vs) (by simpa using hs), h1, h2]
        have hsz : s'.size = s'.data.toList.length := Lib.size_eq _
        have hne : v.ownBlock ≠ some b := fun e => by have := (hgg b e).2.1; omega
        refine (write_walk b p v l s' E.w hb hp hown hne (by omega)).mono ?_
        rintro e w' ⟨rfl, v', hb', hown', hne', hnew, pk⟩
        have hg2 : ∀ k, v.ownBlock = some k → b < k ∧ (∀ x, ¬ E.F k x) ∧ ∀ j, j < h.length → E.ρ j ≠ some k := fun k hk => let ⟨_, q2, q3, q4⟩ := hgg k hk; ⟨q2, q3, q4⟩
        have hbl : b < E.w.heap.size := (Array.getElem?_eq_some_iff.1 hb).1
        have hob : ∀ k, v'.ownBlock = some k → k < w'.heap.size ∧ b < k ∧ (∀ x, ¬ E.F k x) ∧ ∀ j, j < (h.set id (bOb (l ++ s'.data.toList) true)).length → E.ρ j ≠ some k := fun k hk => by
          have hk2 := (hown'.lt k hk).2
          refine ⟨hk2, ?_, fun x hx => ?_, fun j hj => ?_⟩
          · rcases hnew k hk with h3 | h3
            · exact (hgg k h3).2.1
            · omega
          · rcases hnew k hk with h3 | h3
            · exact (hgg k h3).2.2.1 x hx
            · have := hE.lt k x hx; omega
          · have hj' : j < h.length := by simpa using hj
            rcases hnew k hk with h3 | h3
            · exact (hgg k h3).2.2.2 j hj'
            · intro he
              have := (hE.base j k hj' he).2
              omega
        have hown2 : w'.ownsRow 0 5 1 v' (l ++ s'.data.toList).length ((l ++ s'.data.toList).map fun x => Value.int .u8 x.toNat) := by
          have : (l ++ s'.data.toList).length = l.length + s'.size := by rw [List.length_append, hsz]
          rw [this, List.map_append]
          exact hown'
        obtain ⟨ev, hok⟩ := bld_poke (o' := bOb (l ++ s'.data.toList) true) hE hid rfl rfl hρ hf hg2 pk hsole (fun hD => by rw [hG] at hD; exact Bool.noConfusion (show false = true from hD)) (fun ev => ⟨b, hρ, hf, fun _ => ⟨_, v', hb', .inr rfl, hown2, hT, hob⟩⟩)
        exact ⟨_, _, rfl, ev, hok, .inl ⟨_, _, rfl, rfl, [_, _], rfl, rfl, fun j x hj => by
          match j with
          | 0 => simp at hj; subst hj; exact ⟨_, rfl, by rw [hsz]; exact .int _ _⟩
          | 1 => simp at hj; subst hj; exact ⟨_, rfl, rfl⟩
          | j + 2 => simp at hj⟩⟩
      · cases h0
    · cases h0
  · cases h0

theorem frozen_blk {w : World} {g n k : Nat} (h : k ≠ g) : (w.freeze ⟨g, 0, none⟩ n).heap[k]? = w.heap[k]? := by
  unfold World.freeze
  split
  · rfl
  · simp only [Array.getElem?_modify]
    rw [if_neg (fun e => h e.symm)]

theorem bString_kok : ImpC Tryz.prog Gt 88 bString_k := by
  intro args h out h0
  unfold bString_k at h0
  split at h0
  · rename_i id
    unfold bsK at h0
    split at h0
    · rename_i l hg
      split at h0
      · rename_i hne0
        cases h0
        obtain ⟨hid, hsole⟩ := bGet_inv hg
        refine fok_of_end (X := ctx Tryz.prog Gt []) Tryz.func88 rfl rfl fun A E vs hG hE hs hrel => ?_
        obtain ⟨b, p, v, hρ, hf, hb, hp, hown, hT, hgg⟩ := bld_inv hE hid
        have h1 := ptr_inv (hrel 0 _ rfl) hρ
        rw [one_arg (vs := vs) (by simpa using hs), h1]
        have hne : v.ownBlock ≠ some b := fun e => by have := (hgg b e).2.1; omega
        refine (string_walk b p v l E.w hb hown hne hne0).mono ?_
        rintro e w' ⟨rfl, n, g, hg1, rfl⟩
        have pk : Poked E.w ((E.w.drewN n).freeze ⟨g, 0, none⟩ l.length) b (some g) := by
          refine ⟨?_, ?_, ?_, ?_, fun k hk hkb hkg => ?_⟩
          · unfold World.freeze; split <;> rfl
          · unfold World.freeze; split <;> rfl
          · unfold World.freeze; split <;> rfl
          · unfold World.freeze; split <;> simp
          · rw [frozen_blk (fun e => hkg (by rw [e]))]
            rfl
        obtain ⟨ev, hok⟩ := bld_poke (o' := bOb l false) (g := some g) hE hid rfl rfl hρ hf (fun k hk => by cases hk; exact let ⟨_, q2, q3, q4⟩ := hgg g hg1; ⟨q2, q3, q4⟩) pk hsole (fun hD => by rw [hG] at hD; exact Bool.noConfusion (show false = true from hD)) (fun ev => ⟨b, hρ, hf, fun h => by cases h⟩)
        exact ⟨_, _, rfl, ev, hok, .inl ⟨_, _, rfl, rfl, str_rd _⟩⟩
      · cases h0
    · cases h0
  · cases h0

theorem bLen_kok : ImpC Tryz.prog Gt 87 bLen_k := by
  intro args h out h0
  unfold bLen_k at h0
  split at h0
  · rename_i id
    unfold blK at h0
    split at h0
    · rename_i l hg
      cases h0
      obtain ⟨hid, hsole⟩ := bGet_inv hg
      refine fok_of_end (X := ctx Tryz.prog Gt []) Tryz.func87 rfl rfl fun A E vs hG hE hs hrel => ?_
      obtain ⟨b, p, v, hρ, hf, hb, hp, hown, hT, hgg⟩ := bld_inv hE hid
      have h1 := ptr_inv (hrel 0 _ rfl) hρ
      rw [one_arg (vs := vs) (by simpa using hs), h1]
      have hne : v.ownBlock ≠ some b := fun e => by have := (hgg b e).2.1; omega
      have hib : Lib.IsBuilder 121 5 0 b (Lib.byteCells l) E.w := by
        rcases hp with rfl | rfl
        · exact .inl ⟨Nat.zero_le _, v, hb, by rw [Lib.byteCells_length]; exact hown, hne⟩
        · exact .inr ⟨Nat.zero_le _, v, hb, by rw [Lib.byteCells_length]; exact hown, hne⟩
      refine (Any.Builder_Len { Tryz.lays170 with } 0 b (Lib.byteCells l) E.w hib).mono ?_
      rintro e w' ⟨rfl, rfl⟩
      exact ⟨E, h, rfl, Evo.refl (Nat.le_refl _), hE, .inl ⟨_, _, rfl, rfl, by rw [Lib.byteCells_length]; exact .int _ _⟩⟩
    · cases h0
  · cases h0

end Go.Ab
