/-
  How a function is evaluated: the code as equations for simp, and the tables of contracts.
-/
import Derived.Test.YteeffcglpljdpaaDoorAb12
set_option linter.unusedSimpArgs false
set_option linter.unusedVariables false
namespace Go.Ab
open Go.RowKit

abbrev Tab := List (FuncId × (List PA → Option (List PA)))

def tabM : Tab → FuncId → Option (List AV → Option AV)
  | [], _ => none
  | (k, m) :: r, f => if k = f then some (pureM m) else tabM r f

def ctx (P : Program) (G : Gl) (tab : Tab) : Ctx := ⟨P, G, tabM tab, fun _ _ _ => none⟩

theorem ctx_P {P : Program} {G : Gl} {tab : Tab} : (ctx P G tab).P = P := rfl
theorem ctx_G {P : Program} {G : Gl} {tab : Tab} : (ctx P G tab).G = G := rfl
theorem ctx_M {P : Program} {G : Gl} {tab : Tab} {f : FuncId} : (ctx P G tab).M f = tabM tab f := rfl

inductive AllOk (P : Program) (G : Gl) : Tab → Prop where
  | nil : AllOk P G []
  | cons {f : FuncId} {m : List PA → Option (List PA)} {r : Tab} (h : PureC P G f m) (hr : AllOk P G r) : AllOk P G ((f, m) :: r)

theorem AllOk.get {P : Program} {G : Gl} {tab : Tab} (h : AllOk P G tab) {f : FuncId} {g : List AV → Option AV} (hg : tabM tab f = some g) : ∃ m, g = pureM m ∧ PureC P G f m := by
  induction h with
  | nil => cases hg
  | cons h hr ih =>
    simp only [tabM] at hg
    split at hg
    · rename_i he
      subst he
      cases hg
      exact ⟨_, rfl, h⟩
    · exact ih hg

theorem AllOk.kok {P : Program} {G : Gl} {tab : Tab} (h : AllOk P G tab) : KOk (ctx P G tab) := by
  intro f args hp out ho
  simp only [hdl, ctx_M] at ho
  cases hm : tabM tab f with
  | none => simp [hm, ctx] at ho
  | some g =>
    simp only [hm, Option.map_eq_some_iff] at ho
    obtain ⟨v, hv, rfl⟩ := ho
    obtain ⟨m, rfl, hp⟩ := h.get hm
    exact fok_of_pure hp hv

/-! ### Regions as equations -/

def goOp (X : Ctx) (ops : Array Oper) (dst : Option Nat) (r : List Oper) (t : List (Nat × AV)) : Option OpR → Option (Ex × S)
  | none => none
  | some (.val v h) => runOps X ops r ((⟨t, h⟩ : S).putO dst v)
  | some (.skip h) => runOps X ops r ((⟨t, h⟩ : S).putO dst .top)
  | some (.pan x h) => some (.pan x, ⟨t, h⟩)

def goOn (X : Ctx) (ops : Array Oper) (o : Oper) (r : List Oper) (t : List (Nat × AV)) (h : Hp) : Option Bool → Option (Ex × S)
  | none => none
  | some true => goOp X ops o.dst r t (opR X (X.ev ⟨t, h⟩) h o)
  | some false => runOps X ops r ((⟨t, h⟩ : S).putO o.dst (.tup []))

theorem runOps_cons (X : Ctx) (ops : Array Oper) (o : Oper) (r : List Oper) (t : List (Nat × AV)) (h : Hp) :
    runOps X ops (o :: r) ⟨t, h⟩ = goOn X ops o r t h (wantA ops o ⟨t, h⟩) := by
  simp only [runOps]
  cases wantA ops o ⟨t, h⟩ with
  | none => rfl
  | some b =>
    cases b with
    | false => rfl
    | true =>
      simp only [Option.bind_some, if_true, goOn, stepA, opA]
      cases opR X (X.ev ⟨t, h⟩) h o with
      | none => rfl
      | some u => cases u <;> rfl

theorem runOps_nil (X : Ctx) (ops : Array Oper) (t : List (Nat × AV)) (h : Hp) : runOps X ops [] ⟨t, h⟩ = some (.normal, ⟨t, h⟩) := rfl

@[congr] theorem goOn_congr {X : Ctx} {ops : Array Oper} {o : Oper} {r : List Oper} {t : List (Nat × AV)} {h : Hp} {a b : Option Bool} (e : a = b) : goOn X ops o r t h a = goOn X ops o r t h b := by rw [e]
@[congr] theorem goOp_congr {X : Ctx} {ops : Array Oper} {d : Option Nat} {r : List Oper} {t : List (Nat × AV)} {a b : Option OpR} (e : a = b) : goOp X ops d r t a = goOp X ops d r t b := by rw [e]
@[congr] theorem runOps_congr {X : Ctx} {ops : Array Oper} {l : List Oper} {s s' : S} (e : s = s') : runOps X ops l s = runOps X ops l s' := by rw [e]

theorem goOn_true {X : Ctx} {ops : Array Oper} {op : Op} {dst : Option Nat} {ty : TypeId} {pos : String} {after : Array Edge} {guard : Option (Nat × Bool)} {r : List Oper} {t : List (Nat × AV)} {h : Hp} : goOn X ops ⟨dst, op, ty, pos, after, guard⟩ r t h (some true) = goOp X ops dst r t (opR X (X.ev ⟨t, h⟩) h ⟨dst, op, ty, pos, after, guard⟩) := rfl
theorem goOn_false {X : Ctx} {ops : Array Oper} {op : Op} {dst : Option Nat} {ty : TypeId} {pos : String} {after : Array Edge} {guard : Option (Nat × Bool)} {r : List Oper} {t : List (Nat × AV)} {h : Hp} : goOn X ops ⟨dst, op, ty, pos, after, guard⟩ r t h (some false) = runOps X ops r ((⟨t, h⟩ : S).putO dst (.tup [])) := rfl
theorem goOp_some {X : Ctx} {ops : Array Oper} {d : Nat} {r : List Oper} {t : List (Nat × AV)} {v : AV} {h : Hp} : goOp X ops (some d) r t (some (.val v h)) = runOps X ops r ⟨(d, v) :: t, h⟩ := rfl
theorem goOp_none {X : Ctx} {ops : Array Oper} {r : List Oper} {t : List (Nat × AV)} {v : AV} {h : Hp} : goOp X ops none r t (some (.val v h)) = runOps X ops r ⟨t, h⟩ := rfl
theorem goOp_skip {X : Ctx} {ops : Array Oper} {r : List Oper} {t : List (Nat × AV)} {h : Hp} : goOp X ops none r t (some (.skip h)) = runOps X ops r ⟨t, h⟩ := rfl
theorem goOp_skip' {X : Ctx} {ops : Array Oper} {d : Nat} {r : List Oper} {t : List (Nat × AV)} {h : Hp} : goOp X ops (some d) r t (some (.skip h)) = runOps X ops r ⟨(d, .top) :: t, h⟩ := rfl
theorem goOp_pan {X : Ctx} {ops : Array Oper} {d : Option Nat} {r : List Oper} {t : List (Nat × AV)} {x : C1} {h : Hp} : goOp X ops d r t (some (.pan x h)) = some (.pan x, ⟨t, h⟩) := rfl

theorem putO_some {t : List (Nat × AV)} {h : Hp} {d : Nat} {v : AV} : (⟨t, h⟩ : S).putO (some d) v = ⟨(d, v) :: t, h⟩ := rfl
theorem putO_none {t : List (Nat × AV)} {h : Hp} {v : AV} : (⟨t, h⟩ : S).putO none v = ⟨t, h⟩ := rfl

/-- What stands behind a region. -/
def fin (d : Bool) (Q : Ex → S → Prop) : Option (Ex × S) → Prop
  | none => False
  | some (.normal, s) => Q .normal s
  | some (ex, s) => d = false ∧ Q ex s

/-- What stands behind the first of two. -/
def seqQ (X : Ctx) (y : Code) (Q : Ex → S → Prop) : Ex → S → Prop
  | .normal, s => awp X y s Q
  | ex, s => Q ex s

/-- A branch. -/
def cnd (v : AV) (A B : Prop) : Prop := ∃ b, v = .b b ∧ (b = true → A) ∧ (b = false → B)

@[congr] theorem awp_congr {X : Ctx} {c : Code} {s : S} {Q : Ex → S → Prop} : awp X c s Q = awp X c s Q := rfl
@[congr] theorem seqQ_congr {X : Ctx} {c : Code} {e : Ex} {s : S} {Q : Ex → S → Prop} : seqQ X c Q e s = seqQ X c Q e s := rfl
@[congr] theorem blk_congr {n i : Nat} {e : Ex} {s : S} {Q : Ex → S → Prop} : blk n i Q e s = blk n i Q e s := rfl
@[congr] theorem fin_congr {d : Bool} {Q : Ex → S → Prop} {a b : Option (Ex × S)} (e : a = b) : fin d Q a = fin d Q b := by rw [e]
@[congr] theorem cnd_congr {v v' : AV} {A B : Prop} (e : v = v') : cnd v A B = cnd v' A B := by rw [e]

theorem awp_region {X : Ctx} {i : Nat} {ops : Array Oper} {d : Bool} {s : S} {Q : Ex → S → Prop} : awp X (.region i ops d) s Q = fin d Q (runOps X ops ops.toList s) := by
  apply propext
  simp only [awp]
  constructor
  · rintro ⟨ex, s', h, hd, hq⟩
    rw [h]
    cases ex with
    | normal => exact hq
    | _ => cases d <;> first | exact ⟨rfl, hq⟩ | exact absurd (hd rfl) (by simp)
  · intro h
    cases hr : runOps X ops ops.toList s with
    | none => rw [hr] at h; exact h.elim
    | some p =>
      obtain ⟨ex, s'⟩ := p
      rw [hr] at h
      refine ⟨ex, s', rfl, ?_, ?_⟩
      · intro hd
        subst hd
        cases ex with
        | normal => rfl
        | _ => exact absurd h.1 (by simp)
      · cases ex with
        | normal => exact h
        | _ => exact h.2

theorem awp_region' {X : Ctx} {i : Nat} {l : List Oper} {d : Bool} {t : List (Nat × AV)} {h : Hp} {Q : Ex → S → Prop} : awp X (.region i l.toArray d) ⟨t, h⟩ Q = fin d Q (runOps X l.toArray l ⟨t, h⟩) := awp_region
theorem awp_seq {X : Ctx} {x y : Code} {t : List (Nat × AV)} {h : Hp} {Q : Ex → S → Prop} : awp X (.seq x y) ⟨t, h⟩ Q = awp X x ⟨t, h⟩ (seqQ X y Q) := by
  simp only [awp]
  congr 1
  funext ex s'
  cases ex <;> rfl
theorem awp_skip {X : Ctx} {s : S} {Q : Ex → S → Prop} : awp X .skip s Q = Q .normal s := rfl
theorem awp_exit {X : Ctx} {i : Nat} {s : S} {Q : Ex → S → Prop} : awp X (.exit i) s Q = Q (.exit i) s := rfl
theorem awp_ret {X : Ctx} {s : S} {Q : Ex → S → Prop} : awp X .ret s Q = Q .ret s := rfl
theorem awp_block {X : Ctx} {i : Nat} {c : Code} {t : List (Nat × AV)} {h : Hp} {Q : Ex → S → Prop} : awp X (.block i c) ⟨t, h⟩ Q = awp X c ⟨t, h⟩ (blk h.length i Q) := rfl
theorem awp_cond {X : Ctx} {c : Operand} {x y : Code} {t : List (Nat × AV)} {h : Hp} {Q : Ex → S → Prop} : awp X (.cond c x y) ⟨t, h⟩ Q = cnd (X.ev ⟨t, h⟩ c) (awp X x ⟨t, h⟩ Q) (awp X y ⟨t, h⟩ Q) := rfl

theorem fin_normal {d : Bool} {Q : Ex → S → Prop} {s : S} : fin d Q (some (.normal, s)) = Q .normal s := rfl
theorem fin_pan {d : Bool} {Q : Ex → S → Prop} {x : C1} {s : S} : fin d Q (some (.pan x, s)) = (d = false ∧ Q (.pan x) s) := rfl
theorem seqQ_normal {X : Ctx} {y : Code} {Q : Ex → S → Prop} {s : S} : seqQ X y Q .normal s = awp X y s Q := rfl
theorem seqQ_ret {X : Ctx} {y : Code} {Q : Ex → S → Prop} {s : S} : seqQ X y Q .ret s = Q .ret s := rfl
theorem seqQ_exit {X : Ctx} {y : Code} {Q : Ex → S → Prop} {i : Nat} {s : S} : seqQ X y Q (.exit i) s = Q (.exit i) s := rfl
theorem seqQ_pan {X : Ctx} {y : Code} {Q : Ex → S → Prop} {x : C1} {s : S} : seqQ X y Q (.pan x) s = Q (.pan x) s := rfl
theorem blk_normal {n i : Nat} {Q : Ex → S → Prop} {s : S} : blk n i Q .normal s = Q .normal s := rfl
theorem blk_ret {n i : Nat} {Q : Ex → S → Prop} {s : S} : blk n i Q .ret s = Q .ret s := rfl
theorem blk_pan {n i : Nat} {Q : Ex → S → Prop} {x : C1} {s : S} : blk n i Q (.pan x) s = Q (.pan x) s := rfl
theorem Wk.refl {n : Nat} {s : S} : Wk n s s := fun _ E _ _ hn h => ⟨E, Evo.refl hn, h⟩
theorem blk_exit_id {n i : Nat} {Q : Ex → S → Prop} {s : S} (h : Q .normal s) : blk n i Q (.exit i) s := by
  simp only [blk, if_true]
  exact ⟨s, Wk.refl, h⟩
theorem blk_exit_wk {n i : Nat} {Q : Ex → S → Prop} {s s' : S} (hw : Wk n s s') (h : Q .normal s') : blk n i Q (.exit i) s := by
  simp only [blk, if_true]
  exact ⟨s', hw, h⟩
theorem blk_exit_ne {n i j : Nat} (hn : (j = i) = False) {Q : Ex → S → Prop} {s : S} : blk n i Q (.exit j) s = Q (.exit j) s := by simp [blk, hn]
theorem cnd_b {b : Bool} {A B : Prop} : cnd (.b b) A B = ((b = true → A) ∧ (b = false → B)) := by
  apply propext
  constructor
  · rintro ⟨b', h, h1, h2⟩
    cases h
    exact ⟨h1, h2⟩
  · exact fun h => ⟨b, rfl, h⟩
theorem cnd_true {A B : Prop} : cnd (.v (.c (.d (.bool true)))) A B = A := by rw [cnd_b]; simp
theorem cnd_false {A B : Prop} : cnd (.v (.c (.d (.bool false)))) A B = B := by rw [cnd_b]; simp
theorem cnd_dec {p : Prop} [Decidable p] {A B : Prop} : cnd (.v (.c (.d (.bool (decide p))))) A B = ((p → A) ∧ (¬ p → B)) := by rw [cnd_b]; simp

/-- A branch whose condition is some bool. -/
theorem cnd_bool {b : Bool} {A B : Prop} : cnd (.v (.c (.d (.bool b)))) A B = ((b = true → A) ∧ (b = false → B)) := cnd_b

theorem awp_mono {X : Ctx} : ∀ (c : Code) (s : S) (Q Q' : Ex → S → Prop), (∀ ex s, Q ex s → Q' ex s) → awp X c s Q → awp X c s Q'
  | .skip, s, Q, Q', h, ha => h _ _ ha
  | .exit _, s, Q, Q', h, ha => h _ _ ha
  | .ret, s, Q, Q', h, ha => h _ _ ha
  | .region _ _ _, s, Q, Q', h, ⟨ex, s', h1, h2, h3⟩ => ⟨ex, s', h1, h2, h _ _ h3⟩
  | .seq x y, s, Q, Q', h, ha => awp_mono x s _ _ (fun ex s' hq => by cases ex <;> first | exact awp_mono y s' _ _ h hq | exact h _ _ hq) ha
  | .cond _ x y, s, Q, Q', h, ⟨b, h1, h2, h3⟩ => ⟨b, h1, fun hb => awp_mono x s _ _ h (h2 hb), fun hb => awp_mono y s _ _ h (h3 hb)⟩
  | .block i c, s, Q, Q', h, ha => awp_mono c s _ _ (fun ex s' hq => by
      cases ex with
      | exit j =>
        simp only [blk] at hq ⊢
        split at hq
        · rename_i hj
          rw [if_pos hj]
          obtain ⟨s2, h1, h2⟩ := hq
          exact ⟨s2, h1, h _ _ h2⟩
        · rename_i hj
          rw [if_neg hj]
          exact h _ _ hq
      | _ => exact h _ _ hq) ha
  | .loop c, s, Q, Q', h, ⟨σ, I, sta, μ, h1, h2⟩ => ⟨σ, I, sta, μ, h1, fun x hx => awp_mono c _ _ _ (fun ex s' hq => by
      cases ex with
      | normal => exact hq
      | _ => exact h _ _ hq) (h2 x hx)⟩
  | .rangeFunc _ _ _ _, _, _, _, _, ha => ha.elim
  | .scope _, _, _, _, _, ha => ha.elim
  | .label _, _, _, _, _, ha => ha.elim
  | .goto _, _, _, _, _, ha => ha.elim
  | .refuse _, _, _, _, _, ha => ha.elim

end Go.Ab
