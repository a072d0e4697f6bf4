/-
  Texts of the layer and of the laws, put together: Ab14.
-/
import Derived.Test.YtdoofgbeajkpaaaGreatDoorAbWP8
set_option linter.unusedSimpArgs false
set_option linter.unusedVariables false
set_option maxRecDepth 100000
set_option linter.defProp false
namespace Go.Ab
theorem Zk {a b : Prop} (x : a) (y : b) : a ∧ b := ⟨x, y⟩
open Go.RowKit
section
variable {X : Ctx} {ρ : Operand → AV} {h : Hp} {dst : Option Nat} {ty : TypeId} {pos : String} {after : Array Edge} {guard : Option (Nat × Bool)} {t : List (Nat × AV)}
theorem ev_tmp {n : Nat} : X.ev ⟨t, h⟩ (.tmp n) = look t n := rfl
theorem ev_const {s : S} {v : Value} : X.ev s (.const v) = litV v := rfl
theorem ev_fun {s : S} {f : FuncId} : X.ev s (.func f) = .v (.c (.fn f [])) := rfl
theorem lit_bool {b : Bool} : litV (.bool b) = .v (.c (.d (.bool b))) := rfl
theorem lit_int {k : IntKind} {n : Int} : litV (.int k n) = .v (.c (.d (.int k n))) := rfl
theorem lit_str {s : ByteArray} : litV (.string s) = .v (.c (.d (.str s.data.toList))) := rfl
theorem lit_nil : litV (.slice none 0 0) = .v (.c (.d (.sl true []))) := rfl
def pickR (c a b : AV) (h : Hp) : Option OpR := match c with
  | .v (.c (.d (.bool t))) => some (.val (if t then a else b) h)
  | _ => none
def ckR (x : AV) (h : Hp) : Option OpR := match x with
  | .v (.c (.ptr id off)) => some (.val (.v (.c (.ptr id off))) h)
  | .v (.c (.dptr xs)) => some (.val (.v (.c (.dptr xs))) h)
  | .v (.c (.bptr id n off)) => some (.val (.v (.c (.bptr id n off))) h)
  | _ => none
def fldP (off n : Nat) (x : AV) (h : Hp) : Option OpR := if n = 0 then none else match x with
  | .v (.c (.ptr id o)) => some (.val (.v (.c (.ptr id (o + off)))) h)
  | .v (.c (.dptr xs)) => some (.val (.v (.c (.dptr (xs.drop off)))) h)
  | .v (.c (.bptr id m o)) => some (.val (.v (.c (.bptr id m (o + off)))) h)
  | _ => none
def fldA (X : Ctx) (d : Option TypeDesc) (x : AV) (f : Nat) (h : Hp) : Option OpR := match d with
  | some (.struct fs) => (fs[f]?).bind fun fd => (X.size fd.type).bind fun n => fldP fd.offset n x h
  | _ => none
def extR (x : AV) (i : Nat) (h : Hp) : Option OpR := match x with
  | .tup xs => (xs[i]?).map fun x => .val (.v x) h
  | _ => none
def clR (X : Ctx) (h : Hp) (f : AV) (args : List AV) : Option OpR := match f with
  | .v (.c (.fn f caps)) => match X.M f with
    | some m => (m (args ++ caps.map fun p => .v (.c (.ptr p.1 p.2)))).map fun v => .val v h
    | none => match X.N f with
      | some m => (m (args ++ caps.map fun p => .v (.c (.ptr p.1 p.2)))).map fun r => (r.at h).op
      | none => (X.K f (args ++ caps.map fun p => .v (.c (.ptr p.1 p.2))) h).map COut.op
  | _ => none
theorem op_move {x : Operand} : opR X ρ h ⟨dst, .move x, ty, pos, after, guard⟩ = some (.val (ρ x) h) := rfl
theorem op_assign {x : Operand} : opR X ρ h ⟨dst, .assign x, ty, pos, after, guard⟩ = some (.val (ρ x) h) := rfl
theorem op_pick {c a b : Operand} : opR X ρ h ⟨dst, .pick c a b, ty, pos, after, guard⟩ = pickR (ρ c) (ρ a) (ρ b) h := rfl
theorem op_alloc {e : TypeId} : opR X ρ h ⟨dst, .alloc e, ty, pos, after, guard⟩ = (X.zero e).bind fun z => (z.cs).map fun cs => .val (.v (.c (.ptr h.length 0))) (h ++ [newA X.B e cs]) := rfl
theorem new_none {e : TypeId} {cs : List C1} : newA none e cs = .box cs := rfl
theorem op_box {e : TypeId} {x : Operand} : opR X ρ h ⟨dst, .box e x, ty, pos, after, guard⟩ = ((ρ x).cs).map fun cs => .val (.v (.c (.ptr h.length 0))) (h ++ [.box cs]) := rfl
theorem op_build {e : TypeId} {ps : List (Nat × Operand)} : opR X ρ h ⟨dst, .build e ps.toArray, ty, pos, after, guard⟩ = (X.buildA e (ps.map fun p => (p.1, ρ p.2))).map fun v => .val v h := rfl
def bsU (X : Ctx) (h : Hp) (e : TypeId) (n : Nat) (ps : List (Nat × AV)) : Bool → Option OpR
  | true => (X.buildMA h e n ps).map fun p => .val p.1 p.2
  | false => (X.buildSliceA e n ps).map fun v => .val v h
def uD (X : Ctx) : Option TypeDesc → Bool
  | some (.slice e) => X.U e
  | _ => false
def uL : List TypeId → TypeId → Bool
  | [], _ => false
  | a :: l, e => if a = e then true else uL l e
theorem uL_nil {e : TypeId} : uL [] e = false := rfl
theorem uL_cons {a e : TypeId} {l : List TypeId} : uL (a :: l) e = if a = e then true else uL l e := rfl
theorem op_buildSlice {e : TypeId} {n : Nat} {ps : List (Nat × Operand)} : opR X ρ h ⟨dst, .buildSlice e n ps.toArray, ty, pos, after, guard⟩ = bsU X h e n (ps.map fun p => (p.1, ρ p.2)) (X.uS e n) := by
  show (if X.uS e n = true then _ else _) = _
  cases X.uS e n <;> rfl
theorem uS_eq {e : TypeId} {n : Nat} : X.uS e (n + 1) = uD X (X.P.underlying e) := by
  unfold Ctx.uS uD
  cases X.P.underlying e with
  | none => rfl
  | some d => cases d <;> rfl
theorem uS_zero {e : TypeId} : X.uS e 0 = false := rfl
theorem uD_sl {e : TypeId} : uD X (some (.slice e)) = X.U e := rfl
theorem bs_t {e : TypeId} {n : Nat} {ps : List (Nat × AV)} : bsU X h e n ps true = (X.buildMA h e n ps).map fun p => .val p.1 p.2 := rfl
theorem bs_f {e : TypeId} {n : Nat} {ps : List (Nat × AV)} : bsU X h e n ps false = (X.buildSliceA e n ps).map fun v => .val v h := rfl
theorem op_load {e : TypeId} {a : Operand} : opR X ρ h ⟨dst, .load e a, ty, pos, after, guard⟩ = (X.loadA h e (ρ a)).map fun v => .val v h := rfl
theorem op_store {e : TypeId} {a x : Operand} : opR X ρ h ⟨dst, .store e a x, ty, pos, after, guard⟩ = (X.storeA h e (ρ a) (ρ x)).map fun h' => .skip h' := rfl
theorem op_nilCheck {x : Operand} : opR X ρ h ⟨dst, .nilCheck x, ty, pos, after, guard⟩ = ckR (ρ x) h := rfl
theorem op_binOp {op : BinOp} {e c : TypeId} {x y : Operand} (hn : nilY y = false) : opR X ρ h ⟨dst, .binOp op e x y c, ty, pos, after, guard⟩ = (X.binA op e (ρ x) (ρ y)).map fun d => .val (.d d) h := by
  show (if nilY y = true then _ else _) = _
  rw [hn]
  rfl
theorem op_binNil {op : BinOp} {e c : TypeId} {x : Operand} : opR X ρ h ⟨dst, .binOp op e x (.const (.slice none 0 0)) c, ty, pos, after, guard⟩ = (nilS op (X.P.underlying e) (ρ x)).map fun c => .val (.v (.c c)) h := rfl
theorem nilY_t {n : Nat} : nilY (.tmp n) = false := rfl
theorem nilY_i {k : IntKind} {n : Int} : nilY (.const (.int k n)) = false := rfl
theorem nilY_s {s : ByteArray} : nilY (.const (.string s)) = false := rfl
theorem nilS_sl {op : BinOp} {e : TypeId} {f : Bool} {es : List (List D)} : nilS op (some (.slice e)) (.v (.c (.d (.sl f es)))) = nilE op es.isEmpty := rfl
theorem nilE_et : nilE .eql true = some .ub := rfl
theorem nilE_ef : nilE .eql false = some (.d (.bool false)) := rfl
theorem op_unOp {op : UnOp} {e : TypeId} {x : Operand} : opR X ρ h ⟨dst, .unOp op e x, ty, pos, after, guard⟩ = (unA op (ρ x)).map fun d => .val (.d d) h := rfl
theorem op_convert {a b : TypeId} {x : Operand} : opR X ρ h ⟨dst, .convert a b x, ty, pos, after, guard⟩ = (X.convA a b (ρ x)).map fun d => .val (.d d) h := rfl
def slW (X : Ctx) (h : Hp) (e : TypeId) (x : AV) (l u m : Option Int) : Bool → Option OpR
  | true => (X.sliceU h e x l u m).map fun c => .val (.v (.c c)) h
  | false => (X.sliceA e x l u m).map fun d => .val (.d d) h
theorem op_slice {e : TypeId} {x : Operand} {lo hi mx : Option Operand} : opR X ρ h ⟨dst, .slice e x lo hi mx, ty, pos, after, guard⟩ = (optI ρ lo).bind fun l => (optI ρ hi).bind fun u => (optI ρ mx).bind fun m => slW X h e (ρ x) l u m (uTD X (X.P.underlying e)) := by
  show ((optI ρ lo).bind fun l => (optI ρ hi).bind fun u => (optI ρ mx).bind fun m => if uTD X (X.P.underlying e) = true then _ else _) = _
  cases uTD X (X.P.underlying e) <;> rfl
theorem uTD_sl {e : TypeId} : uTD X (some (.slice e)) = X.U e := rfl
theorem slW_t {e : TypeId} {x : AV} {l u m : Option Int} : slW X h e x l u m true = (X.sliceU h e x l u m).map fun c => .val (.v (.c c)) h := rfl
theorem slW_f {e : TypeId} {x : AV} {l u m : Option Int} : slW X h e x l u m false = (X.sliceA e x l u m).map fun d => .val (.d d) h := rfl
@[congr] theorem slW_congr {e : TypeId} {x : AV} {l u m : Option Int} {a b : Bool} (e1 : a = b) : slW X h e x l u m a = slW X h e x l u m b := by rw [e1]
theorem su_msl {e : TypeId} {id n : Nat} {l u : Option Int} : X.sliceU h e (.v (.c (.msl id n))) l u none = msD X h id n 0 n l u (X.P.underlying e) := rfl
theorem msD_sl {e : TypeId} {id m o n : Nat} {l u : Option Int} : msD X h id m o n l u (some (.slice e)) = msP id m o n l u (X.size e) h[id]? := rfl
theorem msP_ok {id m o n z : Nat} {l u : Option Int} {ds : List C1} : msP id m o n l u (some z) (some (.tok m z (some ds))) = msC id m o n z l u := by simp [msP]
theorem msC_ok {id m o n z : Nat} {l u : Option Int} (h1 : (0 ≤ l.getD 0) = True) (h2 : (l.getD 0 < u.getD n) = True) (h3 : (u.getD n ≤ n) = True) : msC id m o n z l u = some (.mso id m (o + (l.getD 0).toNat * z) ((u.getD n).toNat - (l.getD 0).toNat)) := by
  unfold msC
  rw [if_pos ⟨of_eq_true h1, of_eq_true h2, of_eq_true h3⟩]
theorem bi_clear {e : TypeId} {x : AV} : builtinA X h .clear [e] [x] = (X.clearA h e x).map fun h' => .val (.tup []) h' := rfl
theorem cl_mso {e : TypeId} {id m o n : Nat} : X.clearA h e (.v (.c (.mso id m o n))) = clD X h id m o n (X.P.underlying e) := rfl
theorem clD_sl {e : TypeId} {id m o n : Nat} : clD X h id m o n (some (.slice e)) = clO h id m o n (X.size e) ((X.zero e).bind AV.cs) h[id]? := rfl
theorem clO_ok {id m o n z : Nat} {zc ds : List C1} (h1 : (zc.length = z) = True) (h2 : (0 < n) = True) (h3 : (o + n * z ≤ ds.length) = True) : clO h id m o n (some z) (some zc) (some (.tok m z (some ds))) = some (h.set id (.tok m z (some (setAt ds o (repC n zc))))) := by
  simp only [clO]
  rw [if_pos ⟨trivial, trivial, of_eq_true h1, of_eq_true h2, of_eq_true h3⟩]
def MO := Zk @su_msl <| Zk @msD_sl <| Zk @msP_ok <| Zk @bi_clear <| Zk @cl_mso @clD_sl
theorem op_fieldAddr {e : TypeId} {x : Operand} {f : Nat} : opR X ρ h ⟨dst, .fieldAddr e x f, ty, pos, after, guard⟩ = fldA X (X.P.underlying e) (ρ x) f h := by
  unfold opR fldA
  dsimp only
  cases X.P.underlying e with
  | none => rfl
  | some d => cases d <;> rfl
theorem op_indexAddr {e : TypeId} {x i : Operand} : opR X ρ h ⟨dst, .indexAddr e x i, ty, pos, after, guard⟩ = (intOfA (ρ i)).bind fun n => (X.indexAddrM h e (ρ x) n).map fun c => .val (.v (.c c)) h := rfl
theorem op_index {e : TypeId} {x i : Operand} : opR X ρ h ⟨dst, .index e x i, ty, pos, after, guard⟩ = (intOfA (ρ i)).bind fun n => (X.indexA e (ρ x) n).map fun v => .val v h := rfl
theorem op_extract {x : Operand} {i : Nat} : opR X ρ h ⟨dst, .extract x i, ty, pos, after, guard⟩ = extR (ρ x) i h := rfl
theorem op_call {f : Operand} {l : List Operand} {ts : Array TypeId} : opR X ρ h ⟨dst, .call ⟨.value f, l.toArray, ts⟩, ty, pos, after, guard⟩ = clR X h (ρ f) (l.map ρ) := rfl
theorem op_built {b : Builtin} {l : List Operand} {ts : List TypeId} : opR X ρ h ⟨dst, .call ⟨.builtin b, l.toArray, ts.toArray⟩, ty, pos, after, guard⟩ = builtinA X h b ts (l.map ρ) := rfl
theorem op_makeMap {e : TypeId} : opR X ρ h ⟨dst, .makeMap e none, ty, pos, after, guard⟩ = some (.val (.v (.c (.mp h.length))) (h ++ [.map [] 0])) := rfl
theorem op_lookup {e : TypeId} {x i : Operand} {ok : Bool} : opR X ρ h ⟨dst, .lookup e x i ok, ty, pos, after, guard⟩ = (X.lookupA h e (ρ x) (ρ i) ok).map fun v => .val v h := rfl
theorem op_mapUpdate {e : TypeId} {m k v : Operand} : opR X ρ h ⟨dst, .mapUpdate e m k v, ty, pos, after, guard⟩ = (X.updateA h e (ρ m) (ρ k) (ρ v)).map fun h' => .skip h' := rfl
def rngR (d : Option TypeDesc) (x : AV) (h : Hp) : Option OpR := match d, x with
  | some .string, .v (.c (.d (.str s))) => some (.val (.v (.c (.it h.length))) (h ++ [.siter s 0]))
  | _, _ => none
theorem op_range {e : TypeId} {x : Operand} : opR X ρ h ⟨dst, .range e x, ty, pos, after, guard⟩ = rngR (X.P.underlying e) (ρ x) h := by
  unfold opR rngR
  dsimp only
  cases X.P.underlying e with
  | none => rfl
  | some d => cases d <;> first | rfl | (cases ρ x with
    | v y => cases y with
      | c z => cases z with
        | d w => cases w <;> rfl
        | _ => rfl
      | _ => rfl
    | _ => rfl)
theorem op_makeSlice {e : TypeId} {l c : Operand} : opR X ρ h ⟨dst, .makeSlice e l c, ty, pos, after, guard⟩ = (intOfA (ρ l)).bind fun n => (intOfA (ρ c)).bind fun k => (X.makeA h e n k).map fun p => .val p.1 p.2 := rfl
theorem op_next {x : Operand} {str : Bool} : opR X ρ h ⟨dst, .next x str, ty, pos, after, guard⟩ = (X.nextA h (ρ x) str).map fun p => .val p.1 p.2 := rfl
theorem rng_str {l : List UInt8} : rngR (some .string) (.v (.c (.d (.str l)))) h = some (.val (.v (.c (.it h.length))) (h ++ [.siter l 0])) := rfl
theorem ex_tup {xs : List V} {i : Nat} : extR (.tup xs) i h = (xs[i]?).map fun x => .val (.v x) h := rfl
theorem pick_b {b : Bool} {x y : AV} : pickR (.v (.c (.d (.bool b)))) x y h = some (.val (if b then x else y) h) := rfl
theorem ck_ptr {id off : Nat} : ckR (.v (.c (.ptr id off))) h = some (.val (.v (.c (.ptr id off))) h) := rfl
theorem fldP_ptr {off n id o : Nat} (hn : (n = 0) = False) : fldP off n (.v (.c (.ptr id o))) h = some (.val (.v (.c (.ptr id (o + off)))) h) := by simp [fldP, hn]
theorem fldP_dptr {off n : Nat} {xs : List D} (hn : (n = 0) = False) : fldP off n (.v (.c (.dptr xs))) h = some (.val (.v (.c (.dptr (xs.drop off)))) h) := by simp [fldP, hn]
theorem fldP_bptr {off n id m o : Nat} (hn : (n = 0) = False) : fldP off n (.v (.c (.bptr id m o))) h = some (.val (.v (.c (.bptr id m (o + off)))) h) := by simp [fldP, hn]
theorem want_none {ops : Array Oper} {op : Op} {s : S} : wantA ops ⟨dst, op, ty, pos, after, none⟩ s = some true := rfl
def wB (w : Bool) : AV → Option Bool
  | .v (.c (.d (.bool b))) => some (b == w)
  | .tup [] => some false
  | _ => none
def wAt (ops : Array Oper) (j : Nat) : Option Nat := (ops[j]?).bind (·.dst)
def wR (w : Bool) (s : S) : Option Nat → Option Bool
  | some t => wB w (s.get t)
  | none => none
theorem want_some {ops : Array Oper} {op : Op} {s : S} {j : Nat} {w : Bool} : wantA ops ⟨dst, op, ty, pos, after, some (j, w)⟩ s = wR w s (wAt ops j) := by
  unfold wantA wR wAt
  cases hj : (ops[j]?).bind (·.dst) with
  | none => simp only [hj]; rfl
  | some t =>
    simp only [hj, Option.map_some, Option.bind_some]
    cases s.get t with
    | v x => cases x with
      | c c => cases c with
        | d x => cases x <;> rfl
        | _ => rfl
      | _ => rfl
    | tup l => cases l <;> rfl
theorem wB_skp {w : Bool} : wB w (.tup []) = some false := rfl
theorem wR_some {w : Bool} {n : Nat} : wR w ⟨t, h⟩ (some n) = wB w (look t n) := rfl
theorem wB_t {b : Bool} : wB true (.v (.c (.d (.bool b)))) = some b := by cases b <;> rfl
theorem wB_f {b : Bool} : wB false (.v (.c (.d (.bool b)))) = some (!b) := by cases b <;> rfl
theorem look_here {k : Nat} {v : AV} {r : List (Nat × AV)} : look ((k, v) :: r) k = v := by simp [look]
theorem look_next {k n : Nat} {v : AV} {r : List (Nat × AV)} (hn : (k = n) = False) : look ((k, v) :: r) n = look r n := by simp [look, hn]
theorem bin_int {op : BinOp} {e : TypeId} {k k' : IntKind} {a b : Int} : X.binA op e (.v (.c (.d (.int k a)))) (.v (.c (.d (.int k' b)))) = intA op k k' a b := rfl
theorem bin_str {op : BinOp} {e : TypeId} {a b : List UInt8} : X.binA op e (.v (.c (.d (.str a)))) (.v (.c (.d (.str b)))) = strA op a b := rfl
def bbD (op : BinOp) (a b : Bool) : Option TypeDesc → Option D
  | some .bool => boolA op a b
  | _ => none
theorem bin_bool {op : BinOp} {e : TypeId} {a b : Bool} : X.binA op e (.v (.c (.d (.bool a)))) (.v (.c (.d (.bool b)))) = bbD op a b (X.P.underlying e) := by
  unfold Ctx.binA bbD
  cases X.P.underlying e with
  | none => rfl
  | some d => cases d <;> rfl
theorem bb_bool {op : BinOp} {a b : Bool} : bbD op a b (some .bool) = boolA op a b := rfl
theorem i_add {k : IntKind} {a b : Int} : intA .add k k a b = some (.int k (k.wrap (a + b))) := by simp [intA]
theorem i_sub {k : IntKind} {a b : Int} : intA .sub k k a b = some (.int k (k.wrap (a - b))) := by simp [intA]
theorem i_mul {k : IntKind} {a b : Int} : intA .mul k k a b = some (.int k (k.wrap (a * b))) := by simp [intA]
theorem i_quo {k : IntKind} {a b : Int} (hb : (b = 0) = False) : intA .quo k k a b = some (.int k (k.wrap (a.tdiv b))) := by simp [intA, hb]
theorem i_rem {k : IntKind} {a b : Int} (hb : (b = 0) = False) : intA .rem k k a b = some (.int k (a.tmod b)) := by simp [intA, hb]
theorem i_shr {k k' : IntKind} {a b : Int} (hb : (b < 0) = False) : intA .shr k k' a b = some (.int k (a.fdiv (2 ^ (min b.toNat k.bits)))) := by simp [intA, hb]
theorem i_and {k : IntKind} {a b : Int} : intA .and k k a b = some (.int k (bits .and k a b)) := by simp [intA]
theorem bits64 : IntKind.i64.bits = 64 := rfl
theorem i_eql {k : IntKind} {a b : Int} : intA .eql k k a b = some (.bool (decide (a = b))) := by simp [intA, cmpI]; rfl
theorem i_neq {k : IntKind} {a b : Int} : intA .neq k k a b = some (.bool (decide (a ≠ b))) := by simp [intA, cmpI, bne]; rfl
theorem i_lss {k : IntKind} {a b : Int} : intA .lss k k a b = some (.bool (decide (a < b))) := by simp [intA, cmpI]
theorem i_leq {k : IntKind} {a b : Int} : intA .leq k k a b = some (.bool (decide (a ≤ b))) := by simp [intA, cmpI]
theorem i_gtr {k : IntKind} {a b : Int} : intA .gtr k k a b = some (.bool (decide (b < a))) := by simp [intA, cmpI]
theorem i_geq {k : IntKind} {a b : Int} : intA .geq k k a b = some (.bool (decide (b ≤ a))) := by simp [intA, cmpI]
theorem s_eql {a b : List UInt8} : strA .eql a b = some (.bool (a == b)) := rfl
theorem s_neq {a b : List UInt8} : strA .neq a b = some (.bool (!(a == b))) := rfl
theorem s_lss {a b : List UInt8} : strA .lss a b = some (.bool (Op.bytesLess a b)) := rfl
theorem b_neq {a b : Bool} : boolA .neq a b = some (.bool (!(a == b))) := rfl
theorem un_not {b : Bool} : unA .not (.v (.c (.d (.bool b)))) = some (.bool (!b)) := rfl
theorem intOf_i {k : IntKind} {n : Int} : intOfA (.v (.c (.d (.int k n)))) = some n := rfl
theorem optI_none : optI ρ none = some none := rfl
theorem optI_some {x : Operand} : optI ρ (some x) = (intOfA (ρ x)).map some := rfl
def ldB (X : Ctx) (t : TypeId) (off : Nat) : Option Ob → Option AV
  | some (.box cs) => (X.part t cs off).map .v
  | _ => none
def ldM (X : Ctx) (t : TypeId) (n off : Nat) : Option Ob → Option AV
  | some (.tok m _ (some ds)) => if n = m then (X.part t ds off).map .v else none
  | _ => none
theorem ld_ptr {e : TypeId} {id off : Nat} : X.loadA h e (.v (.c (.ptr id off))) = ldB X e off h[id]? := by
  unfold Ctx.loadA ldB
  dsimp only
  generalize h[id]? = q
  cases q with
  | none => rfl
  | some o => cases o <;> rfl
theorem ldB_box {e : TypeId} {off : Nat} {cs : List C1} : ldB X e off (some (.box cs)) = (X.part e cs off).map .v := rfl
theorem ld_dptr {e : TypeId} {xs : List D} : X.loadA h e (.v (.c (.dptr xs))) = (X.part e (xs.map .d) 0).map .v := rfl
theorem ld_bptr {e : TypeId} {id n off : Nat} : X.loadA h e (.v (.c (.bptr id n off))) = ldM X e n off h[id]? := by
  unfold Ctx.loadA ldM
  dsimp only
  generalize h[id]? = q
  cases q with
  | none => rfl
  | some o => cases o with
    | tok m z c => cases c <;> rfl
    | _ => rfl
theorem ldM_tok {e : TypeId} {n off z : Nat} {ds : List C1} : ldM X e n off (some (.tok n z (some ds))) = (X.part e ds off).map .v := by simp [ldM]
def stB (X : Ctx) (h : Hp) (t : TypeId) (id off : Nat) (v : AV) : Option Ob → Option Hp
  | some (.box cs) => (v.cs).bind fun xs => (X.size t).bind fun n => if xs.length = n ∧ off + n ≤ cs.length then some (h.set id (.box (setAt cs off xs))) else none
  | _ => none
def stM (X : Ctx) (h : Hp) (t : TypeId) (id n off : Nat) (v : AV) : Option Ob → Option Hp
  | some (.tok m z (some ds)) => (v.cs).bind fun xs => (X.size t).bind fun k => if n = m ∧ xs.length = k ∧ off + k ≤ ds.length then some (h.set id (.tok m z (some (setAt ds off xs)))) else none
  | _ => none
theorem st_ptr {e : TypeId} {id off : Nat} {v : AV} : X.storeA h e (.v (.c (.ptr id off))) v = stB X h e id off v h[id]? := by
  unfold Ctx.storeA stB
  dsimp only
  generalize h[id]? = q
  cases q with
  | none => rfl
  | some o => cases o <;> rfl
theorem st_bptr {e : TypeId} {id n off : Nat} {v : AV} : X.storeA h e (.v (.c (.bptr id n off))) v = stM X h e id n off v h[id]? := by
  unfold Ctx.storeA stM
  dsimp only
  generalize h[id]? = q
  cases q with
  | none => rfl
  | some o => cases o with
    | tok m z c => cases c <;> rfl
    | _ => rfl
def stO (h : Hp) (id off : Nat) (cs : List C1) : Option (List C1) → Option Nat → Option Hp
  | some xs, some n => if xs.length = n ∧ off + n ≤ cs.length then some (h.set id (.box (setAt cs off xs))) else none
  | _, _ => none
theorem stB_box {e : TypeId} {id off : Nat} {v : AV} {cs : List C1} : stB X h e id off v (some (.box cs)) = stO h id off cs v.cs (X.size e) := by
  unfold stB stO
  cases v.cs with
  | none => rfl
  | some xs => cases X.size e <;> rfl
theorem stO_ok {id off n : Nat} {cs xs : List C1} (h1 : (xs.length = n) = True) (h2 : (off + n ≤ cs.length) = True) : stO h id off cs (some xs) (some n) = some (h.set id (.box (setAt cs off xs))) := by
  simp only [stO, if_pos (And.intro (of_eq_true h1) (of_eq_true h2))]
def stP (h : Hp) (id off m z : Nat) (ds : List C1) : Option (List C1) → Option Nat → Option Hp
  | some dx, some k => if dx.length = k ∧ off + k ≤ ds.length then some (h.set id (.tok m z (some (setAt ds off dx)))) else none
  | _, _ => none
theorem stM_tok {e : TypeId} {id n off z : Nat} {v : AV} {ds : List C1} : stM X h e id n off v (some (.tok n z (some ds))) = stP h id off n z ds v.cs (X.size e) := by
  unfold stM stP
  cases v.cs with
  | none => rfl
  | some xs =>
    simp only [Option.bind_some]
    cases X.size e with
    | none => rfl
    | some k => simp
theorem stP_ok {id off m z k : Nat} {ds dx : List C1} (h1 : (dx.length = k) = True) (h2 : (off + k ≤ ds.length) = True) : stP h id off m z ds (some dx) (some k) = some (h.set id (.tok m z (some (setAt ds off dx)))) := by
  simp only [stP, if_pos (And.intro (of_eq_true h1) (of_eq_true h2))]
def ixS (e : Option Nat) (i : Int) (es : List (List D)) : Option C1 := e.bind fun z => if 0 ≤ i then (es[i.toNat]?).bind fun r => if r.length = z then some (.dptr r) else none else none
def ixO (z : Nat) : Option (List D) → Option C1
  | some r => if r.length = z then some (.dptr r) else none
  | none => none
theorem ixS_ok {z : Nat} {i : Int} {es : List (List D)} (h0 : (0 ≤ i) = True) : ixS (some z) i es = ixO z es[i.toNat]? := by
  simp only [ixS, Option.bind_some, if_pos (of_eq_true h0), ixO]
  cases es[i.toNat]? <;> rfl
theorem ixO_some {z : Nat} {r : List D} (hr : (r.length = z) = True) : ixO z (some r) = some (.dptr r) := by
  simp only [ixO, if_pos (of_eq_true hr)]
def ixA (z : Option Nat) (n : Nat) (i : Int) (f : Nat → C1) : Option C1 := z.bind fun z => if 0 ≤ i ∧ i < n then some (f (i.toNat * z)) else none
def ixM (id n : Nat) (z : Option Nat) (i : Int) : Option Ob → Option C1
  | some (.tok m z' (some _)) => if n = m ∧ 0 ≤ i ∧ i < n ∧ z = some z' then some (.bptr id n (i.toNat * z')) else none
  | _ => none
theorem ixM_ok {id n z : Nat} {i : Int} {ds : List C1} (h1 : (0 ≤ i) = True) (h2 : (i < (n : Int)) = True) : ixM id n (some z) i (some (.tok n z (some ds))) = some (.bptr id n (i.toNat * z)) := by
  simp only [ixM]
  rw [if_pos ⟨trivial, of_eq_true h1, of_eq_true h2, trivial⟩]
def ixN (id k o n : Nat) (z : Option Nat) (i : Int) : Option Ob → Option C1
  | some (.tok m z' (some _)) => if k = m ∧ 0 ≤ i ∧ i < n ∧ z = some z' then some (.bptr id k (o + i.toNat * z')) else none
  | _ => none
theorem ixN_ok {id m o n z : Nat} {i : Int} {ds : List C1} (h1 : (0 ≤ i) = True) (h2 : (i < (n : Int)) = True) : ixN id m o n (some z) i (some (.tok m z (some ds))) = some (.bptr id m (o + i.toNat * z)) := by
  simp only [ixN]
  rw [if_pos ⟨trivial, of_eq_true h1, of_eq_true h2, trivial⟩]
def ixP (ps : List (Nat × Nat)) (i : Int) (z : Option Nat) : Option C1 := z.bind fun z => if z = 1 ∧ 0 ≤ i ∧ i < (ps.length : Int) then some (.ppt (ps.drop i.toNat)) else none
def ixD (X : Ctx) (h : Hp) (x : AV) (i : Int) : Option TypeDesc → Option C1
  | some (.slice e) => match x with
    | .v (.c (.msl id n)) => ixM id n (X.size e) i h[id]?
    | .v (.c (.mso id m o n)) => ixN id m o n (X.size e) i h[id]?
    | .v (.c (.psl ps)) => ixP ps i (X.size e)
    | .v (.c c) => (c.elems).bind fun es => ixS (X.size e) i es
    | _ => none
  | some (.array n e) => match x with
    | .v (.c (.dptr xs)) => ixA (X.size e) n i fun o => .dptr (xs.drop o)
    | .v (.c (.ptr id off)) => ixA (X.size e) n i fun o => .ptr id (off + o)
    | _ => none
  | _ => none
theorem ix_eq {e : TypeId} {x : AV} {i : Int} : X.indexAddrM h e x i = ixD X h x i (X.P.underlying e) := by
  unfold Ctx.indexAddrM Ctx.indexAddrA ixD
  cases X.P.underlying e with
  | none => cases x with
    | tup => rfl
    | v y => cases y with
      | c c => cases c <;> rfl
      | agg => rfl
  | some d => cases x with
    | tup => cases d <;> rfl
    | v y => cases y with
      | agg => cases d <;> rfl
      | c c => cases c <;> cases d <;> first
        | rfl
        | (rename_i id k o n e
           simp only [ixN]
           generalize h[id]? = q
           cases q with
           | none => rfl
           | some o => cases o with
             | tok m z c => cases c <;> rfl
             | _ => rfl)
        | (rename_i id n e
           simp only [ixM]
           generalize h[id]? = q
           cases q with
           | none => rfl
           | some o => cases o with
             | tok m z c => cases c <;> rfl
             | _ => rfl)
theorem ix_sl {e : TypeId} {f : Bool} {es : List (List D)} {i : Int} : ixD X h (.v (.c (.d (.sl f es)))) i (some (.slice e)) = ixS (X.size e) i es := rfl
theorem ix_msl {e : TypeId} {id n : Nat} {i : Int} : ixD X h (.v (.c (.msl id n))) i (some (.slice e)) = ixM id n (X.size e) i h[id]? := rfl
theorem ix_mso {e : TypeId} {id m o n : Nat} {i : Int} : ixD X h (.v (.c (.mso id m o n))) i (some (.slice e)) = ixN id m o n (X.size e) i h[id]? := rfl
def lnM (n : Nat) : Option Ob → Option AV
  | some (.tok m _ _) => if n = m then some (.i n) else none
  | _ => none
def lnD (h : Hp) (x : AV) : Option TypeDesc → Option AV
  | some .string => match x with | .v (.c (.d (.str s))) => some (.i s.length) | _ => none
  | some (.slice _) => match x with
    | .v (.c (.msl id n)) => lnM n h[id]?
    | .v (.c (.mso _ _ _ n)) => some (.i n)
    | .v (.c (.psl ps)) => some (.i ps.length)
    | .v (.c c) => (c.elems).map fun es => .i es.length
    | _ => none
  | some (.array n _) => match x with
    | .v (.c (.msl _ _)) => none
    | .v (.c (.mp _)) => none
    | .v (.c (.mso _ _ _ _)) => none
    | _ => some (.i n)
  | some (.map _ _) => match x with
    | .v (.c (.mp id)) => (match h[id]? with
      | some (.map es _) => some (.i es.length)
      | _ => none)
    | _ => none
  | _ => none
theorem len_eq {e : TypeId} {x : AV} : X.lenM h e x = lnD h x (X.P.underlying e) := by
  unfold Ctx.lenM Ctx.lenA lnD
  cases X.P.underlying e with
  | none => cases x with
    | tup => rfl
    | v y => cases y with
      | c c => cases c <;> rfl
      | agg => rfl
  | some d => cases x with
    | tup => cases d <;> rfl
    | v y => cases y with
      | agg => cases d <;> rfl
      | c c => cases c <;> cases d <;> first
        | rfl
        | (rename_i q; cases q <;> rfl)
        | (rename_i id n e
           simp only [lnM]
           generalize h[id]? = q
           cases q with
           | none => rfl
           | some o => cases o <;> rfl)
        | (rename_i id k e
           generalize h[id]? = q
           cases q with
           | none => rfl
           | some o => cases o <;> rfl)
theorem len_sl {e : TypeId} {f : Bool} {es : List (List D)} : lnD h (.v (.c (.d (.sl f es)))) (some (.slice e)) = some (.i es.length) := rfl
theorem len_own {e : TypeId} {id : Nat} {es : List (List D)} : lnD h (.v (.c (.own id es))) (some (.slice e)) = some (.i es.length) := rfl
theorem len_msl {e : TypeId} {id n : Nat} : lnD h (.v (.c (.msl id n))) (some (.slice e)) = lnM n h[id]? := rfl
theorem len_mso {e : TypeId} {id m o n : Nat} : lnD h (.v (.c (.mso id m o n))) (some (.slice e)) = some (.i n) := rfl
theorem len_str {l : List UInt8} : lnD h (.v (.c (.d (.str l)))) (some .string) = some (.i l.length) := rfl
theorem lnM_tok {n z : Nat} {c : Option (List C1)} : lnM n (some (.tok n z c)) = some (.i n) := by simp [lnM]
theorem bi_len {e : TypeId} {x : AV} : builtinA X h .len [e] [x] = (X.lenM h e x).map fun v => .val v h := rfl
theorem bi_delete {e : TypeId} {ts : List TypeId} {x i : AV} : builtinA X h .delete (e :: ts) [x, i] = (X.deleteA h e x i).map fun h' => .val (.tup []) h' := rfl
theorem bi_min {ts : List TypeId} {x : AV} {r : List AV} : builtinA X h .min ts (x :: r) = (foldO minA x r).map fun v => .val v h := by
  cases ts with
  | nil => rfl
  | cons t ts => cases ts <;> rfl
theorem bi_max {ts : List TypeId} {x : AV} {r : List AV} : builtinA X h .max ts (x :: r) = (foldO maxA x r).map fun v => .val v h := by
  cases ts with
  | nil => rfl
  | cons t ts => cases ts <;> rfl
def apR (b : Bool) (r : Option (AV × Hp)) : Option OpR := if b then r.map fun p => .val p.1 p.2 else none
theorem bi_append {e e' : TypeId} {x y : AV} : builtinA X h .append [e, e'] [x, y] = apR (okSrc (X.P.underlying e') y) (X.appendA h e x y) := rfl
theorem apR_true {r : Option (AV × Hp)} : apR true r = r.map fun p => .val p.1 p.2 := rfl
theorem src_sl {e : TypeId} {f : Bool} {es : List (List D)} : okSrc (some (.slice e)) (.v (.c (.d (.sl f es)))) = true := rfl
theorem fold_nil {f : AV → AV → Option AV} {x : AV} : foldO f x [] = some x := rfl
theorem fold_cons {f : AV → AV → Option AV} {x y : AV} {r : List AV} : foldO f x (y :: r) = (f x y).bind fun c => foldO f c r := rfl
theorem min_int {k k' : IntKind} {x y : Int} : minA (.v (.c (.d (.int k x)))) (.v (.c (.d (.int k' y)))) = some (.d (.int k (if y < x then y else x))) := rfl
theorem max_int {k k' : IntKind} {x y : Int} : maxA (.v (.c (.d (.int k x)))) (.v (.c (.d (.int k' y)))) = some (.d (.int k (if y > x then y else x))) := rfl
def allLen (z : Nat) (ys : List (List D)) : Prop := ∀ r ∈ ys, r.length = z
theorem allLen_nil {z : Nat} : allLen z [] = True := by simp [allLen]
theorem allLen_cons {z : Nat} {r : List D} {ys : List (List D)} : allLen z (r :: ys) = (r.length = z ∧ allLen z ys) := by simp [allLen]
open Classical in
noncomputable def apTok (h : Hp) (id z b : Nat) (es ys : List (List D)) : Option Ob → Option (AV × Hp)
  | some (.tok n z' none) => if es.length = n ∧ z' = z ∧ allLen z' ys ∧ (es.length + ys.length) * b ≤ 140737488355328 ∧ es.length + ys.length ≤ 4611686018427387904 then
      some (.v (.c (.own id (es ++ ys))), h.set id (.tok (es.length + ys.length) z' none)) else none
  | _ => none
noncomputable def apMsl (h : Hp) (id n z b : Nat) : Option (Nat × List C1) → Option Ob → Option (AV × Hp)
  | some p, some (.tok m z' (some ds)) => if n = m ∧ z' = z ∧ (m + p.1) * b ≤ 140737488355328 ∧ m + p.1 ≤ 4611686018427387904 then
      some (.v (.c (.msl id (m + p.1))), h.set id (.tok (m + p.1) z' (some (ds ++ p.2)))) else none
  | _, _ => none
open Classical in
noncomputable def apSl (h : Hp) (z b : Nat) (es ys : List (List D)) : Option (AV × Hp) :=
  if allLen z es ∧ allLen z ys ∧ (es.length + ys.length) * b ≤ 140737488355328 ∧ es.length + ys.length ≤ 4611686018427387904 then
    (if ys.length = 0 then some (.d (.sl true es), h) else some (.v (.c (.own h.length (es ++ ys))), h ++ [.tok (es.length + ys.length) z none])) else none
def apNew (h : Hp) (z b : Nat) (es : List (List D)) : Option (Nat × List C1) → Option (AV × Hp)
  | some p => if es.isEmpty = true ∧ p.1 * b ≤ 140737488355328 ∧ p.1 ≤ 4611686018427387904 then some (.v (.c (.msl h.length p.1)), h ++ [.tok p.1 z (some p.2)]) else none
  | none => none
noncomputable def apSlO (h : Hp) (z b : Nat) (es : List (List D)) : Option (List (List D)) → Option (AV × Hp)
  | some ys => apSl h z b es ys
  | none => none
noncomputable def apTokO (h : Hp) (id z b : Nat) (es : List (List D)) (o : Option Ob) : Option (List (List D)) → Option (AV × Hp)
  | some ys => apTok h id z b es ys o
  | none => none
noncomputable def apZ (h : Hp) (u : Bool) (x y : C1) : Option (Nat × Nat) → Option (AV × Hp)
  | some (z, b) => match x with
    | .own id es => apTokO h id z b es h[id]? y.source
    | .msl id n => apMsl h id n z b (y.srcM h z) h[id]?
    | .d (.sl true es) => if u = true then apNew h z b es (y.srcM h z) else apSlO h z b es y.source
    | _ => none
  | _ => none
noncomputable def apT (X : Ctx) (h : Hp) (x y : C1) : Option TypeDesc → Option (AV × Hp)
  | some (.slice e) => apZ h (X.U e) x y (X.apz e)
  | _ => none
theorem ap_eq {e : TypeId} {x y : C1} : X.appendA h e (.v (.c x)) (.v (.c y)) = apT X h x y (X.P.underlying e) := by
  unfold Ctx.appendA apT
  cases X.P.underlying e with
  | none => rfl
  | some d =>
    cases d <;> try rfl
    rename_i e
    simp only [Ctx.apz, apZ]
    cases X.P.info? e with
    | none => rfl
    | some i =>
      simp only [Option.bind_some]
      cases i.zero with
      | none => rfl
      | some z =>
        simp only [Option.bind_some]
        by_cases hc : z.cells.size = i.size ∧ 0 < i.size
        · rw [if_pos hc, if_pos hc]
          cases x <;> try rfl
          · rename_i x
            cases x <;> try rfl
            rename_i f es
            cases f <;> try rfl
            simp only []
            by_cases hu : X.U e = true
            · rw [if_pos hu, if_pos hu]
              cases y.srcM h i.size <;> rfl
            rw [if_neg hu, if_neg hu]
            cases y.source with
            | none => rfl
            | some ys =>
              simp only [Option.bind_some, apSlO, apSl, allLen]
              congr
          · rename_i id es
            cases y.source with
            | none => rfl
            | some ys =>
              simp only [Option.bind_some, apTokO, apTok, allLen]
              cases h[id]? with
              | none => rfl
              | some o => cases o with
                | tok n z' c => cases c <;> (try rfl) <;> (simp only []; congr)
                | _ => rfl
          rename_i id n
          simp only []
          cases y.srcM h i.size with
          | none => cases h[id]? <;> rfl
          | some p =>
            simp only [Option.bind_some, apMsl]
            cases h[id]? with
            | none => rfl
            | some o => cases o with
              | tok n z' c => cases c <;> rfl
              | _ => rfl
        rw [if_neg hc, if_neg hc]
theorem ap_sl {x y : C1} {e : TypeId} : apT X h x y (some (.slice e)) = apZ h (X.U e) x y (X.apz e) := rfl
theorem ap_own {u : Bool} {id z b : Nat} {es : List (List D)} {y : C1} : apZ h u (.own id es) y (some (z, b)) = apTokO h id z b es h[id]? y.source := rfl
theorem ap_msl {u : Bool} {id n z b : Nat} {y : C1} : apZ h u (.msl id n) y (some (z, b)) = apMsl h id n z b (y.srcM h z) h[id]? := rfl
theorem ap_d {z b : Nat} {es : List (List D)} {y : C1} : apZ h false (.d (.sl true es)) y (some (z, b)) = apSlO h z b es y.source := rfl
theorem ap_new {z b : Nat} {es : List (List D)} {y : C1} : apZ h true (.d (.sl true es)) y (some (z, b)) = apNew h z b es (y.srcM h z) := rfl
theorem apSlO_some {z b : Nat} {es ys : List (List D)} : apSlO h z b es (some ys) = apSl h z b es ys := rfl
theorem apTokO_some {id z b : Nat} {es ys : List (List D)} {o : Option Ob} : apTokO h id z b es o (some ys) = apTok h id z b es ys o := rfl
theorem apTok_ok {id n z b : Nat} {es ys : List (List D)} (h1 : (es.length = n) = True) (h2 : allLen z ys = True) (h3 : ((es.length + ys.length) * b ≤ 140737488355328) = True) (h4 : (es.length + ys.length ≤ 4611686018427387904) = True) :
    apTok h id z b es ys (some (.tok n z none)) = some (.v (.c (.own id (es ++ ys))), h.set id (.tok (es.length + ys.length) z none)) := by
  simp only [apTok]
  rw [if_pos ⟨of_eq_true h1, rfl, of_eq_true h2, of_eq_true h3, of_eq_true h4⟩]
theorem apMsl_ok {id n z b k : Nat} {cs ds : List C1} (h3 : ((n + k) * b ≤ 140737488355328) = True) (h4 : (n + k ≤ 4611686018427387904) = True) :
    apMsl h id n z b (some (k, cs)) (some (.tok n z (some ds))) = some (.v (.c (.msl id (n + k))), h.set id (.tok (n + k) z (some (ds ++ cs)))) := by
  simp only [apMsl]
  rw [if_pos ⟨trivial, trivial, of_eq_true h3, of_eq_true h4⟩]
theorem apNew_ok {z b k : Nat} {cs : List C1} (h3 : (k * b ≤ 140737488355328) = True) (h4 : (k ≤ 4611686018427387904) = True) :
    apNew h z b [] (some (k, cs)) = some (.v (.c (.msl h.length k)), h ++ [.tok k z (some cs)]) := by
  simp only [apNew]
  rw [if_pos ⟨rfl, of_eq_true h3, of_eq_true h4⟩]
theorem sm_sl {z : Nat} {f : Bool} {es : List (List D)} : C1.srcM h z (.d (.sl f es)) = srS z (some es) := rfl
theorem sm_msl {z id n : Nat} : C1.srcM h z (.msl id n) = msS z n h[id]? := rfl
theorem srS_ok {z : Nat} {ys : List (List D)} (h2 : allLen z ys = True) : srS z (some ys) = some (ys.length, ys.flatten.map .d) := by
  simp only [srS]
  rw [if_pos (show ∀ r ∈ ys, r.length = z from of_eq_true h2)]
theorem msS_ok {z n : Nat} {cs : List C1} : msS z n (some (.tok n z (some cs))) = some (n, cs) := by
  simp only [msS]
  rw [if_pos ⟨trivial, trivial⟩]
theorem src_msl' {e : TypeId} {i n : Nat} : okSrc (some (.slice e)) (.v (.c (.msl i n))) = true := rfl
theorem source_sl {f : Bool} {es : List (List D)} : C1.source (.d (.sl f es)) = some es := rfl
def cvD (X : Ctx) (x : AV) : Option TypeDesc → Option TypeDesc → Option D
  | some ds, some dd => match dd, x with
    | .int k, .v (.c (.d (.int _ n))) => some (.int k (k.wrap n))
    | .string, .v (.c (.d (.str s))) => some (.str s)
    | .string, .v (.c c) => (match ds with
      | .slice e => if X.isU8 e then (c.elems).bind fun es => (bytesOf es).map .str else none
      | _ => none)
    | .slice e, .v (.c (.d (.str s))) => if X.isU8 e ∧ s.length ≤ 4611686018427387904 then some (.sl false (s.map fun b => [.int .u8 b.toNat])) else none
    | _, _ => none
  | _, _ => none
theorem cv_eq {a b : TypeId} {x : AV} : X.convA a b x = cvD X x (X.P.underlying a) (X.P.underlying b) := by
  unfold Ctx.convA cvD
  cases X.P.underlying a with
  | none => rfl
  | some da => cases X.P.underlying b <;> rfl
theorem bld_eq {e : TypeId} {ps : List (Nat × AV)} : X.buildA e ps = (X.place e).bind fun pl => (X.zero e).bind fun z => (z.cs).bind fun cs => (fillA pl cs ps).map fun r => .v (.agg r) := rfl
def bsC (X : Ctx) (n : Nat) (ps : List (Nat × AV)) (z : Nat) (zc : List C1) : Option AV :=
  if zc.length = z ∧ 0 < z ∧ n * z ≤ 1048576 then
    (fillA (fun i => some (i * z, z)) ((List.range (n * z)).map fun j => zc.getD (j % z) .top) ps).bind fun cs => bsOut z n cs (allD cs)
  else none
def bsD (X : Ctx) (n : Nat) (ps : List (Nat × AV)) : Option TypeDesc → Option AV
  | some (.slice e) => (X.size e).bind fun z => (X.zero e).bind fun zr => (zr.cs).bind fun zc => bsC X n ps z zc
  | _ => none
def bmC (h : Hp) (n : Nat) (ps : List (Nat × AV)) (z : Nat) (zc : List C1) : Option (AV × Hp) :=
  if zc.length = z ∧ 0 < z ∧ 0 < n ∧ n * z ≤ 1048576 then
    (fillA (fun i => some (i * z, z)) ((List.range (n * z)).map fun j => zc.getD (j % z) .top) ps).map fun cs => (.v (.c (.msl h.length n)), h ++ [.tok n z (some cs)])
  else none
def bmD (X : Ctx) (h : Hp) (n : Nat) (ps : List (Nat × AV)) : Option TypeDesc → Option (AV × Hp)
  | some (.slice e) => (X.size e).bind fun z => (X.zero e).bind fun zr => (zr.cs).bind fun zc => bmC h n ps z zc
  | _ => none
theorem bm_eq {e : TypeId} {n : Nat} {ps : List (Nat × AV)} : X.buildMA h e n ps = bmD X h n ps (X.P.underlying e) := by
  unfold Ctx.buildMA bmD
  cases X.P.underlying e with
  | none => rfl
  | some d => cases d <;> rfl
theorem bm_sl {e : TypeId} {n : Nat} {ps : List (Nat × AV)} : bmD X h n ps (some (.slice e)) = (X.size e).bind fun z => (X.zero e).bind fun zr => (zr.cs).bind fun zc => bmC h n ps z zc := rfl
theorem bmC_ok {n z : Nat} {ps : List (Nat × AV)} {zc : List C1} (h1 : (zc.length = z) = True) (h2 : (0 < z) = True) (h3 : (0 < n) = True) (h4 : (n * z ≤ 1048576) = True) :
    bmC h n ps z zc = (fillA (fun i => some (i * z, z)) ((List.range (n * z)).map fun j => zc.getD (j % z) .top) ps).map fun cs => (.v (.c (.msl h.length n)), h ++ [.tok n z (some cs)]) := by
  simp only [bmC]
  rw [if_pos ⟨of_eq_true h1, of_eq_true h2, of_eq_true h3, of_eq_true h4⟩]
theorem bs_eq {e : TypeId} {n : Nat} {ps : List (Nat × AV)} : X.buildSliceA e n ps = bsD X n ps (X.P.underlying e) := by
  unfold Ctx.buildSliceA bsD
  cases X.P.underlying e with
  | none => rfl
  | some d => cases d <;> rfl
theorem bs_sl {e : TypeId} {n : Nat} {ps : List (Nat × AV)} : bsD X n ps (some (.slice e)) = (X.size e).bind fun z => (X.zero e).bind fun zr => (zr.cs).bind fun zc => bsC X n ps z zc := rfl
theorem bsC_ok {n z : Nat} {ps : List (Nat × AV)} {zc : List C1} (h1 : (zc.length = z) = True) (h2 : (0 < z) = True) (h3 : (n * z ≤ 1048576) = True) :
    bsC X n ps z zc = (fillA (fun i => some (i * z, z)) ((List.range (n * z)).map fun j => zc.getD (j % z) .top) ps).bind fun cs => bsOut z n cs (allD cs) := by
  simp only [bsC, if_pos (And.intro (of_eq_true h1) (And.intro (of_eq_true h2) (of_eq_true h3)))]
theorem bsOut_some {z n : Nat} {cs : List C1} {ds : List D} : bsOut z n cs (some ds) = some (.d (.sl true (chunk z n ds))) := rfl
theorem chunk_zero {z : Nat} {l : List D} : chunk z 0 l = [] := rfl
theorem chunk_succ {z n : Nat} {l : List D} : chunk z (n + 1) l = l.take z :: chunk z n (l.drop z) := rfl
theorem fill_nil {pl : Nat → Option (Nat × Nat)} {cs : List C1} : fillA pl cs [] = some cs := rfl
def fillO (pl : Nat → Option (Nat × Nat)) (cs : List C1) (rest : List (Nat × AV)) (p : Option (Nat × Nat)) (xs : Option (List C1)) : Option (List C1) :=
  p.bind fun p => xs.bind fun xs => if xs.length = p.2 ∧ p.1 + p.2 ≤ cs.length then fillA pl (setAt cs p.1 xs) rest else none
theorem fill_cons {pl : Nat → Option (Nat × Nat)} {cs : List C1} {i : Nat} {v : AV} {rest : List (Nat × AV)} : fillA pl cs ((i, v) :: rest) = fillO pl cs rest (pl i) v.cs := rfl
theorem fillO_some {pl : Nat → Option (Nat × Nat)} {cs xs : List C1} {rest : List (Nat × AV)} {o n : Nat} (h1 : (xs.length = n) = True) (h2 : (o + n ≤ cs.length) = True) : fillO pl cs rest (some (o, n)) (some xs) = fillA pl (setAt cs o xs) rest := by
  simp only [fillO, Option.bind_some]
  rw [if_pos ⟨of_eq_true h1, of_eq_true h2⟩]
theorem setAt_eq {cs xs : List C1} {o : Nat} : setAt cs o xs = cs.take o ++ (xs ++ cs.drop (o + xs.length)) := rfl
theorem cs_agg {xs : List C1} : AV.cs (.v (.agg xs)) = some xs := rfl
theorem cs_d {x : D} : AV.cs (.v (.c (.d x))) = some [.d x] := rfl
theorem cs_own {i : Nat} {es : List (List D)} : AV.cs (.v (.c (.own i es))) = some [.own i es] := rfl
def partD (cs : List C1) (off : Nat) : Option Bool → Option Nat → Option V
  | some true, some n => if off + n ≤ cs.length then some (.agg ((cs.drop off).take n)) else none
  | some false, _ => (cs[off]?).map .c
  | _, _ => none
theorem part_eq {e : TypeId} {cs : List C1} {off : Nat} : X.part e cs off = partD cs off (X.isAgg e) (X.size e) := by
  unfold Ctx.part partD
  cases X.isAgg e with
  | none => rfl
  | some b => cases b with
    | false => rfl
    | true => cases X.size e <;> rfl
theorem partD_t {cs : List C1} {off n : Nat} (hl : (off + n ≤ cs.length) = True) : partD cs off (some true) (some n) = some (.agg ((cs.drop off).take n)) := by
  simp only [partD, if_pos (of_eq_true hl)]
theorem partD_f {cs : List C1} {off : Nat} {n : Option Nat} : partD cs off (some false) n = (cs[off]?).map .c := by
  cases n <;> rfl
theorem toD_d {x : D} : C1.toD (.d x) = some x := rfl
theorem toD_own {i : Nat} {es : List (List D)} : C1.toD (.own i es) = some (.sl false es) := rfl
theorem pa_c {c : C1} : AV.dv (.v (.c c)) = c.toD.map .c := rfl
theorem pa_agg {cs : List C1} : AV.dv (.v (.agg cs)) = (allD cs).map .agg := rfl
theorem PAav_c {x : D} : DV.av (.c x) = .v (.c (.d x)) := rfl
theorem PAav_agg {xs : List D} : DV.av (.agg xs) = .v (.agg (xs.map .d)) := rfl
theorem PAV_c {x : D} : DV.V (.c x) = .c (.d x) := rfl
theorem PAV_agg {xs : List D} : DV.V (.agg xs) = .agg (xs.map .d) := rfl
theorem resV_one {x : PA} : resV [x] = x.av := rfl
theorem resV_two {x y : PA} {l : List PA} : resV (x :: y :: l) = .tup ((x :: y :: l).map DV.V) := rfl
theorem Rets_ret {rs : List ResultVar} {r : List PA} {s : S} : Rets X rs r .ret s = (resAll X s rs = some r) := rfl
theorem resOne_tmp {k : Nat} : resOne X ⟨t, h⟩ (.tmp k) = (look t k).dv := rfl
theorem resOne_cell {k : Nat} {e : TypeId} : resOne X ⟨t, h⟩ (.cell k e) = (X.loadA h e (look t k)).bind AV.dv := rfl
theorem fin_dec {ops : Array Oper} {o : Oper} {r : List Oper} {d : Bool} {Q : Ex → S → Prop} {p : Prop} [Decidable p] (h1 : p → fin d Q (goOn X ops o r t h (some true))) (h2 : ¬ p → fin d Q (goOn X ops o r t h (some false))) :
    fin d Q (goOn X ops o r t h (some (decide p))) := by
  by_cases hp : p
  · simpa [hp] using h1 hp
  simpa [hp] using h2 hp
theorem fin_ndec {ops : Array Oper} {o : Oper} {r : List Oper} {d : Bool} {Q : Ex → S → Prop} {p : Prop} [Decidable p] (h1 : p → fin d Q (goOn X ops o r t h (some false))) (h2 : ¬ p → fin d Q (goOn X ops o r t h (some true))) :
    fin d Q (goOn X ops o r t h (some (!decide p))) := by
  by_cases hp : p
  · simpa [hp] using h1 hp
  simpa [hp] using h2 hp
theorem fin_split {ops : Array Oper} {o : Oper} {r : List Oper} {d : Bool} {Q : Ex → S → Prop} {b : Bool} (h1 : b = true → fin d Q (goOn X ops o r t h (some true))) (h2 : b = false → fin d Q (goOn X ops o r t h (some false))) :
    fin d Q (goOn X ops o r t h (some b)) := by cases b with | false => exact h2 rfl | true => exact h1 rfl
theorem fin_nsplit {ops : Array Oper} {o : Oper} {r : List Oper} {d : Bool} {Q : Ex → S → Prop} {b : Bool} (h1 : b = true → fin d Q (goOn X ops o r t h (some false))) (h2 : b = false → fin d Q (goOn X ops o r t h (some true))) :
    fin d Q (goOn X ops o r t h (some (!b))) := by cases b with | false => exact h2 rfl | true => exact h1 rfl
theorem cnd_dec' {p : Prop} [Decidable p] {A B : Prop} (h1 : p → A) (h2 : ¬ p → B) : cnd (.v (.c (.d (.bool (decide p))))) A B := by rw [cnd_dec]; exact ⟨h1, h2⟩
theorem cnd_ndec {p : Prop} [Decidable p] {A B : Prop} (h1 : p → B) (h2 : ¬ p → A) : cnd (.v (.c (.d (.bool (!decide p))))) A B := by
  rw [cnd_bool]
  refine ⟨fun h => h2 (by simpa using h), fun h => h1 (by simpa using h)⟩
theorem cnd_split {b : Bool} {A B : Prop} (h1 : b = true → A) (h2 : b = false → B) : cnd (.v (.c (.d (.bool b)))) A B := by rw [cnd_bool]; exact ⟨h1, h2⟩
theorem cnd_nsplit {b : Bool} {A B : Prop} (h1 : b = true → B) (h2 : b = false → A) : cnd (.v (.c (.d (.bool (!b))))) A B := by
  rw [cnd_bool]
  refine ⟨fun h => h2 (by simpa using h), fun h => h1 (by simpa using h)⟩
theorem tab_nil {f : FuncId} : tabM [] f = none := rfl
theorem tab_here {k : FuncId} {m : List PA → Option (List PA)} {r : Tab} : tabM ((k, m) :: r) k = some (pureM m) := by simp [tabM]
theorem tab_next {k f : FuncId} {m : List PA → Option (List PA)} {r : Tab} (hn : (k = f) = False) : tabM ((k, m) :: r) f = tabM r f := by simp [tabM, hn]
theorem pure_eq {m : List PA → Option (List PA)} {args : List AV} : pureM m args = (allPA args).bind fun ps => (m ps).map resV := rfl
theorem allPA_nil : allPA [] = some [] := rfl
theorem allPA_cons {x : AV} {r : List AV} : allPA (x :: r) = (x.dv).bind fun p => (allPA r).map fun ps => p :: ps := rfl
theorem allD_nil : allD [] = some [] := rfl
theorem allD_cons {x : C1} {r : List C1} : allD (x :: r) = (x.toD).bind fun d => (allD r).bind fun ds => some (d :: ds) := rfl
theorem argSlots_nil {k : Nat} : argSlots k [] = [] := rfl
theorem argSlots_cons {k : Nat} {x : PA} {r : List PA} : argSlots k (x :: r) = (k, x.av) :: argSlots (k + 1) r := rfl
theorem resAll_nil {s : S} : resAll X s [] = some [] := rfl
theorem resAll_cons {s : S} {x : ResultVar} {rs : List ResultVar} : resAll X s (x :: rs) = (resOne X s x).bind fun p => (resAll X s rs).map fun ps => p :: ps := rfl
theorem wAt_eq {l : List Oper} {j : Nat} : wAt l.toArray j = (l[j]?).bind (·.dst) := by simp [wAt]
def clM (X : Ctx) (h : Hp) (f : FuncId) (args : List AV) : Option (List AV → Option AV) → Option OpR
  | some m => (m args).map fun v => .val v h
  | none => match X.N f with
    | some m => (m args).map fun r => (r.at h).op
    | none => (X.K f args h).map COut.op
theorem cl_eq {f : FuncId} {args : List AV} : clR X h (.v (.c (.fn f []))) args = clM X h f args (X.M f) := by
  simp only [clR, List.map_nil, List.append_nil]
  cases X.M f <;> rfl
theorem clM_some {f : FuncId} {args : List AV} {m : List AV → Option AV} : clM X h f args (some m) = (m args).map fun v => .val v h := rfl
theorem goOn_t {ops : Array Oper} {op : Op} {r : List Oper} : goOn X ops ⟨dst, op, ty, pos, after, guard⟩ r t h (some true) = goOp X ops dst r t (opR X (X.ev ⟨t, h⟩) h ⟨dst, op, ty, pos, after, guard⟩) := rfl
theorem goOn_f {ops : Array Oper} {op : Op} {r : List Oper} : goOn X ops ⟨dst, op, ty, pos, after, guard⟩ r t h (some false) = runOps X ops r ((⟨t, h⟩ : S).putO dst (.tup [])) := rfl
end
theorem rng0 : List.range 0 = [] := rfl
theorem rng1 : List.range 1 = [0] := rfl
theorem rng2 : List.range 2 = [0, 1] := rfl
theorem rng3 : List.range 3 = [0, 1, 2] := rfl
theorem rng5 : List.range 5 = [0, 1, 2, 3, 4] := rfl
theorem rng7 : List.range 7 = [0, 1, 2, 3, 4, 5, 6] := rfl
theorem rng10 : List.range 10 = [0, 1, 2, 3, 4, 5, 6, 7, 8, 9] := rfl
def AB := Zk @awp_seq <| Zk @awp_region' <| Zk @awp_skip <| Zk @awp_exit <| Zk @awp_ret <| Zk @awp_block <| Zk @awp_cond <| Zk @fin_normal <| Zk @seqQ_normal <| Zk @seqQ_ret <| Zk @seqQ_exit <| Zk @blk_normal <| Zk @blk_ret <| Zk @blk_exit_ne <| Zk @cnd_true <| Zk @cnd_false <| Zk @runOps_cons <| Zk @runOps_nil <| Zk @goOp_some <| Zk @goOp_none <| Zk @goOp_skip <| Zk @putO_some <| Zk @want_none <| Zk @want_some <| Zk @wR_some <| Zk @wB_t <| Zk @wB_f <| Zk @wB_skp <| Zk @ev_tmp <| Zk @ev_const <| Zk @ev_fun <| Zk @lit_bool <| Zk @lit_int <| Zk @lit_str <| Zk @lit_nil <| Zk @look_here <| Zk @look_next <| Zk @op_move <| Zk @op_assign <| Zk @op_pick <| Zk @op_alloc <| Zk @op_box <| Zk @op_build <| Zk @op_buildSlice <| Zk @op_load <| Zk @op_store <| Zk @op_nilCheck <| Zk @op_binOp <| Zk @op_unOp <| Zk @op_convert <| Zk @op_slice <| Zk @op_fieldAddr <| Zk @op_indexAddr <| Zk @op_index <| Zk @op_extract <| Zk @op_call <| Zk @op_built <| Zk @ex_tup <| Zk @pick_b <| Zk @ck_ptr <| Zk @fldP_ptr <| Zk @fldP_dptr <| Zk @bin_int <| Zk @bin_str <| Zk @i_add <| Zk @i_sub <| Zk @i_mul <| Zk @i_quo <| Zk @i_rem <| Zk @i_shr <| Zk @i_eql <| Zk @i_neq <| Zk @i_lss <| Zk @i_leq <| Zk @i_gtr <| Zk @i_geq <| Zk @s_eql <| Zk @s_neq <| Zk @s_lss <| Zk @b_neq <| Zk @un_not <| Zk @intOf_i <| Zk @optI_none <| Zk @optI_some <| Zk @cs_agg <| Zk @cs_d <| Zk @cs_own <| Zk @toD_d <| Zk @toD_own <| Zk @pa_c <| Zk @pa_agg <| Zk @PAav_c <| Zk @PAav_agg <| Zk @PAV_c <| Zk @PAV_agg <| Zk @resV_one <| Zk @resV_two <| Zk @Rets_ret <| Zk @resOne_tmp <| Zk @resOne_cell <| Zk @ctx_P <| Zk @ctx_M <| Zk @ctx_B <| Zk @new_none <| Zk @tab_here <| Zk @tab_next <| Zk @pure_eq <| Zk @allPA_nil <| Zk @allPA_cons <| Zk @allD_nil <| Zk @allD_cons <| Zk @argSlots_nil <| Zk @argSlots_cons <| Zk @resAll_nil <| Zk @resAll_cons <| Zk @wAt_eq <| Zk @cl_eq <| Zk @clM_some <| Zk @goOn_t <| Zk @goOn_f <| Zk @op_makeMap <| Zk @op_lookup <| Zk @op_mapUpdate <| Zk @op_range <| Zk @op_next <| Zk @rng_str <| Zk @fldP_bptr <| Zk @ld_ptr <| Zk @ldB_box <| Zk @ld_dptr <| Zk @ld_bptr <| Zk @ldM_tok <| Zk @st_ptr <| Zk @st_bptr <| Zk @stB_box <| Zk @ix_sl <| Zk @ix_msl <| Zk @ix_mso <| Zk @ixN_ok <| Zk @uTD_sl <| Zk @slW_t <| Zk @slW_f <| Zk @len_sl <| Zk @len_own <| Zk @len_str <| Zk @len_msl <| Zk @len_mso <| Zk @lnM_tok <| Zk @bi_len <| Zk @bi_delete <| Zk @bi_min <| Zk @bi_max <| Zk @bi_append <| Zk @apR_true <| Zk @src_sl <| Zk @fold_nil <| Zk @fold_cons <| Zk @min_int <| Zk @max_int <| Zk @fill_nil <| Zk @fill_cons <| Zk @fillO_some <| Zk @setAt_eq <| Zk @ix_eq <| Zk @ixS_ok <| Zk @ixO_some <| Zk @ixM_ok <| Zk @len_eq <| Zk @bin_bool <| Zk @bb_bool <| Zk @part_eq <| Zk @partD_t <| Zk @partD_f <| Zk @stO_ok <| Zk @stM_tok <| Zk @stP_ok <| Zk @allLen_nil <| Zk @allLen_cons <| Zk @ap_eq <| Zk @ap_sl <| Zk @ap_own <| Zk @bm_eq <| Zk @bm_sl <| Zk @bmC_ok <| Zk @uS_eq <| Zk @uD_sl <| Zk @uL_nil <| Zk @uL_cons <| Zk @bs_t <| Zk @bs_f <| Zk @ap_new <| Zk @apNew_ok <| Zk @apSlO_some <| Zk @apTokO_some <| Zk @sm_sl <| Zk @sm_msl <| Zk @srS_ok <| Zk @msS_ok <| Zk @src_msl' <| Zk @uS_zero <| Zk @op_binNil <| Zk @nilY_t <| Zk @nilY_i <| Zk @nilY_s <| Zk @nilS_sl <| Zk @nilE_et <| Zk @nilE_ef <| Zk @cnd_ub <| Zk @ctx_U <| Zk @ctx_E <| Zk @Bool.false_and <| Zk @Bool.true_and <| Zk @ap_msl <| Zk @ap_d <| Zk @apTok_ok <| Zk @apMsl_ok <| Zk @source_sl <| Zk @cv_eq <| Zk @bld_eq <| Zk @bs_eq <| Zk @bs_sl <| Zk @bsC_ok <| Zk @chunk_zero <| Zk @i_and <| Zk @bits64 @bsOut_some
def PL := Zk @Option.bind_some.{0, 0} <| Zk @Option.map_some.{0, 0} <| Zk @List.map_cons.{0, 0} <| Zk @List.map_nil.{0, 0} <| Zk @List.getElem?_cons_zero.{0} <| Zk @List.getElem?_cons_succ.{0} <| Zk @List.append_nil.{0} <| Zk @List.nil_append.{0} <| Zk @List.cons_append.{0} <| Zk @List.length_cons.{0} <| Zk @List.length_nil.{0} <| Zk @List.drop_succ_cons.{0} <| Zk @List.drop_zero.{0} <| Zk @List.take_succ_cons.{0} <| Zk @List.take_zero.{0} <| Zk @List.getD_cons_zero.{0} <| Zk @List.getD_cons_succ.{0} <| Zk @List.set_cons_zero.{0} <| Zk @List.set_cons_succ.{0} <| Zk @List.flatten_cons.{0} <| Zk @List.flatten_nil.{0} <| Zk @Int.toNat_natCast <| Zk @Nat.zero_add <| Zk @Nat.add_zero <| Zk @Bool.not_true <| Zk @Bool.not_false <| Zk @Bool.false_eq_true <| Zk @decide_true <| Zk @decide_false <| Zk @not_true_eq_false <| Zk @not_false_eq_true <| Zk @and_true @Int.cast_ofNat_Int
def RG := Zk @rng0 <| Zk @rng1 <| Zk @rng2 <| Zk @rng3 <| Zk @rng5 <| Zk @rng7 <| Zk @rng10 @chunk_succ
end Go.Ab
