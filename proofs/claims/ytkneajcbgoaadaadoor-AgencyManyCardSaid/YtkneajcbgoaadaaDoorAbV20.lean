/-
  Texts of the layer and of the laws, put together: AbT. No law is stated here.
-/
import Derived.Test.YtkneajcbgoaadaaDoorChecked
import Derived.Test.YtkneajcbgoaadaaDoorAbV19
import Derived.KernelRfl
set_option linter.unusedSimpArgs false
set_option linter.unusedVariables false
set_option maxRecDepth 100000

/-
  The types of this seat's program, as equations. Written by tools/types.py.
-/
set_option maxRecDepth 200000
namespace Go.Ab
open Go.RowKit Go.Proofs
section
variable {tab : Tab} {x : AV} {h : Hp}
theorem Ty.sz3 : (ctx Tryd.prog Gt tab).size 3 = some 1 := by kernel_rfl
theorem Ty.ag3 : (ctx Tryd.prog Gt tab).isAgg 3 = some false := by kernel_rfl
theorem Ty.nf3 : (ctx Tryd.prog Gt tab).isIf 3 = some false := by kernel_rfl
theorem Ty.zr3 : (ctx Tryd.prog Gt tab).zero 3 = some (.v (.c (.d (.int .i64 0)))) := by kernel_rfl
theorem Ty.ap3 : (ctx Tryd.prog Gt tab).apz 3 = some (1, 8) := by kernel_rfl
theorem Ty.un3 : Tryd.prog.underlying 3 = some (Go.TypeDesc.int Go.IntKind.i64) := by kernel_rfl
theorem Ty.sz4 : (ctx Tryd.prog Gt tab).size 4 = some 1 := by kernel_rfl
theorem Ty.ag4 : (ctx Tryd.prog Gt tab).isAgg 4 = some false := by kernel_rfl
theorem Ty.zr4 : (ctx Tryd.prog Gt tab).zero 4 = some (.v (.c (.d (.bool false)))) := by kernel_rfl
theorem Ty.ap4 : (ctx Tryd.prog Gt tab).apz 4 = some (1, 1) := by kernel_rfl
theorem Ty.un4 : Tryd.prog.underlying 4 = some Go.TypeDesc.bool := by kernel_rfl
theorem Ty.sz5 : (ctx Tryd.prog Gt tab).size 5 = some 1 := by kernel_rfl
theorem Ty.ag5 : (ctx Tryd.prog Gt tab).isAgg 5 = some false := by kernel_rfl
theorem Ty.nf5 : (ctx Tryd.prog Gt tab).isIf 5 = some false := by kernel_rfl
theorem Ty.zr5 : (ctx Tryd.prog Gt tab).zero 5 = some (.v (.c (.d (.int .u8 0)))) := by kernel_rfl
theorem Ty.ap5 : (ctx Tryd.prog Gt tab).apz 5 = some (1, 1) := by kernel_rfl
theorem Ty.un5 : Tryd.prog.underlying 5 = some (Go.TypeDesc.int Go.IntKind.u8) := by kernel_rfl
theorem Ty.sz9 : (ctx Tryd.prog Gt tab).size 9 = some 1 := by kernel_rfl
theorem Ty.ag9 : (ctx Tryd.prog Gt tab).isAgg 9 = some false := by kernel_rfl
theorem Ty.zr9 : (ctx Tryd.prog Gt tab).zero 9 = some (.v (.c (.d (.str [])))) := by kernel_rfl
theorem Ty.ap9 : (ctx Tryd.prog Gt tab).apz 9 = some (1, 16) := by kernel_rfl
theorem Ty.un9 : Tryd.prog.underlying 9 = some Go.TypeDesc.string := by kernel_rfl
theorem Ty.sz20 : (ctx Tryd.prog Gt tab).size 20 = some 1 := by kernel_rfl
theorem Ty.ag20 : (ctx Tryd.prog Gt tab).isAgg 20 = some false := by kernel_rfl
theorem Ty.if20 : (ctx Tryd.prog Gt tab).ifT 20 = some true := by kernel_rfl
theorem Ty.zr20 : (ctx Tryd.prog Gt tab).zero 20 = some (.v (.c .nili)) := by kernel_rfl
theorem Ty.ap20 : (ctx Tryd.prog Gt tab).apz 20 = some (1, 16) := by kernel_rfl
theorem Ty.sz21 : (ctx Tryd.prog Gt tab).size 21 = some 1 := by kernel_rfl
theorem Ty.ag21 : (ctx Tryd.prog Gt tab).isAgg 21 = some false := by kernel_rfl
theorem Ty.nf21 : (ctx Tryd.prog Gt tab).isIf 21 = some false := by kernel_rfl
theorem Ty.zr21 : (ctx Tryd.prog Gt tab).zero 21 = some (.v (.c (.d (.int .i32 0)))) := by kernel_rfl
theorem Ty.ap21 : (ctx Tryd.prog Gt tab).apz 21 = some (1, 4) := by kernel_rfl
theorem Ty.un21 : Tryd.prog.underlying 21 = some (Go.TypeDesc.int Go.IntKind.i32) := by kernel_rfl
theorem Ty.sz22 : (ctx Tryd.prog Gt tab).size 22 = some 1 := by kernel_rfl
theorem Ty.ag22 : (ctx Tryd.prog Gt tab).isAgg 22 = some false := by kernel_rfl
theorem Ty.zr22 : (ctx Tryd.prog Gt tab).zero 22 = some (.v (.c (.d (.sl true [])))) := by kernel_rfl
theorem Ty.ap22 : (ctx Tryd.prog Gt tab).apz 22 = some (1, 24) := by kernel_rfl
theorem Ty.un22 : Tryd.prog.underlying 22 = some (Go.TypeDesc.slice 40) := by kernel_rfl
theorem Ty.sz24 : (ctx Tryd.prog Gt tab).size 24 = some 4 := by kernel_rfl
theorem Ty.ag24 : (ctx Tryd.prog Gt tab).isAgg 24 = some true := by kernel_rfl
theorem Ty.nf24 : (ctx Tryd.prog Gt tab).isIf 24 = some false := by kernel_rfl
theorem Ty.zr24 : (ctx Tryd.prog Gt tab).zero 24 = some (.v (.agg [.d (.str []), .d (.str []), .d (.int .i64 0), .d (.sl true [])])) := by kernel_rfl
theorem Ty.ap24 : (ctx Tryd.prog Gt tab).apz 24 = some (4, 64) := by kernel_rfl
theorem Ty.fd24_0 : fld (ctx Tryd.prog Gt tab) (Tryd.prog.underlying 24) x 0 h = fldV (ctx Tryd.prog Gt tab) 9 0 x h := by kernel_rfl
theorem Ty.fa24_0 : fldA (ctx Tryd.prog Gt tab) (Tryd.prog.underlying 24) x 0 h = fldP 0 1 x h := by kernel_rfl
theorem Ty.fd24_1 : fld (ctx Tryd.prog Gt tab) (Tryd.prog.underlying 24) x 1 h = fldV (ctx Tryd.prog Gt tab) 9 1 x h := by kernel_rfl
theorem Ty.fa24_1 : fldA (ctx Tryd.prog Gt tab) (Tryd.prog.underlying 24) x 1 h = fldP 1 1 x h := by kernel_rfl
theorem Ty.fd24_2 : fld (ctx Tryd.prog Gt tab) (Tryd.prog.underlying 24) x 2 h = fldV (ctx Tryd.prog Gt tab) 3 2 x h := by kernel_rfl
theorem Ty.fa24_2 : fldA (ctx Tryd.prog Gt tab) (Tryd.prog.underlying 24) x 2 h = fldP 2 1 x h := by kernel_rfl
theorem Ty.fd24_3 : fld (ctx Tryd.prog Gt tab) (Tryd.prog.underlying 24) x 3 h = fldV (ctx Tryd.prog Gt tab) 22 3 x h := by kernel_rfl
theorem Ty.fa24_3 : fldA (ctx Tryd.prog Gt tab) (Tryd.prog.underlying 24) x 3 h = fldP 3 1 x h := by kernel_rfl
theorem Ty.pl24 : (ctx Tryd.prog Gt tab).place 24 = some fun i => [(0, 1), (1, 1), (2, 1), (3, 1)][i]? := by kernel_rfl
theorem Ty.sz26 : (ctx Tryd.prog Gt tab).size 26 = some 1 := by kernel_rfl
theorem Ty.ag26 : (ctx Tryd.prog Gt tab).isAgg 26 = some false := by kernel_rfl
theorem Ty.nf26 : (ctx Tryd.prog Gt tab).isIf 26 = some false := by kernel_rfl
theorem Ty.zr26 : (ctx Tryd.prog Gt tab).zero 26 = some (.v (.c (.d (.int .i64 0)))) := by kernel_rfl
theorem Ty.ap26 : (ctx Tryd.prog Gt tab).apz 26 = some (1, 8) := by kernel_rfl
theorem Ty.un26 : Tryd.prog.underlying 26 = some (Go.TypeDesc.int Go.IntKind.i64) := by kernel_rfl
theorem Ty.sz38 : (ctx Tryd.prog Gt tab).size 38 = some 1 := by kernel_rfl
theorem Ty.ag38 : (ctx Tryd.prog Gt tab).isAgg 38 = some false := by kernel_rfl
theorem Ty.zr38 : (ctx Tryd.prog Gt tab).zero 38 = some (.v (.c (.d (.sl true [])))) := by kernel_rfl
theorem Ty.ap38 : (ctx Tryd.prog Gt tab).apz 38 = some (1, 24) := by kernel_rfl
theorem Ty.un38 : Tryd.prog.underlying 38 = some (Go.TypeDesc.slice 5) := by kernel_rfl
theorem Ty.sz40 : (ctx Tryd.prog Gt tab).size 40 = some 5 := by kernel_rfl
theorem Ty.ag40 : (ctx Tryd.prog Gt tab).isAgg 40 = some true := by kernel_rfl
theorem Ty.nf40 : (ctx Tryd.prog Gt tab).isIf 40 = some false := by kernel_rfl
theorem Ty.ft40 : (ctx Tryd.prog Gt tab).flat 40 = some [.i .i64, .s, .i .i64, .i .i64, .i .i64] := by kernel_rfl
theorem Ty.zr40 : (ctx Tryd.prog Gt tab).zero 40 = some (.v (.agg [.d (.int .i64 0), .d (.str []), .d (.int .i64 0), .d (.int .i64 0), .d (.int .i64 0)])) := by kernel_rfl
theorem Ty.ap40 : (ctx Tryd.prog Gt tab).apz 40 = some (5, 48) := by kernel_rfl
theorem Ty.fd40_0 : fld (ctx Tryd.prog Gt tab) (Tryd.prog.underlying 40) x 0 h = fldV (ctx Tryd.prog Gt tab) 3 0 x h := by kernel_rfl
theorem Ty.fa40_0 : fldA (ctx Tryd.prog Gt tab) (Tryd.prog.underlying 40) x 0 h = fldP 0 1 x h := by kernel_rfl
theorem Ty.fd40_1 : fld (ctx Tryd.prog Gt tab) (Tryd.prog.underlying 40) x 1 h = fldV (ctx Tryd.prog Gt tab) 9 1 x h := by kernel_rfl
theorem Ty.fa40_1 : fldA (ctx Tryd.prog Gt tab) (Tryd.prog.underlying 40) x 1 h = fldP 1 1 x h := by kernel_rfl
theorem Ty.fd40_2 : fld (ctx Tryd.prog Gt tab) (Tryd.prog.underlying 40) x 2 h = fldV (ctx Tryd.prog Gt tab) 3 2 x h := by kernel_rfl
theorem Ty.fa40_2 : fldA (ctx Tryd.prog Gt tab) (Tryd.prog.underlying 40) x 2 h = fldP 2 1 x h := by kernel_rfl
theorem Ty.fd40_3 : fld (ctx Tryd.prog Gt tab) (Tryd.prog.underlying 40) x 3 h = fldV (ctx Tryd.prog Gt tab) 3 3 x h := by kernel_rfl
theorem Ty.fa40_3 : fldA (ctx Tryd.prog Gt tab) (Tryd.prog.underlying 40) x 3 h = fldP 3 1 x h := by kernel_rfl
theorem Ty.fd40_4 : fld (ctx Tryd.prog Gt tab) (Tryd.prog.underlying 40) x 4 h = fldV (ctx Tryd.prog Gt tab) 3 4 x h := by kernel_rfl
theorem Ty.fa40_4 : fldA (ctx Tryd.prog Gt tab) (Tryd.prog.underlying 40) x 4 h = fldP 4 1 x h := by kernel_rfl
theorem Ty.pl40 : (ctx Tryd.prog Gt tab).place 40 = some fun i => [(0, 1), (1, 1), (2, 1), (3, 1), (4, 1)][i]? := by kernel_rfl
theorem Ty.sz45 : (ctx Tryd.prog Gt tab).size 45 = some 1 := by kernel_rfl
theorem Ty.ag45 : (ctx Tryd.prog Gt tab).isAgg 45 = some false := by kernel_rfl
theorem Ty.nf45 : (ctx Tryd.prog Gt tab).isIf 45 = some false := by kernel_rfl
theorem Ty.zr45 : (ctx Tryd.prog Gt tab).zero 45 = some (.v (.c (.d (.int .u16 0)))) := by kernel_rfl
theorem Ty.ap45 : (ctx Tryd.prog Gt tab).apz 45 = some (1, 2) := by kernel_rfl
theorem Ty.un45 : Tryd.prog.underlying 45 = some (Go.TypeDesc.int Go.IntKind.u16) := by kernel_rfl
theorem Ty.sz49 : (ctx Tryd.prog Gt tab).size 49 = some 1 := by kernel_rfl
theorem Ty.ag49 : (ctx Tryd.prog Gt tab).isAgg 49 = some false := by kernel_rfl
theorem Ty.zr49 : (ctx Tryd.prog Gt tab).zero 49 = some (.v (.c (.d (.sl true [])))) := by kernel_rfl
theorem Ty.ap49 : (ctx Tryd.prog Gt tab).apz 49 = some (1, 24) := by kernel_rfl
theorem Ty.un49 : Tryd.prog.underlying 49 = some (Go.TypeDesc.slice 3) := by kernel_rfl
theorem Ty.sz56 : (ctx Tryd.prog Gt tab).size 56 = some 1 := by kernel_rfl
theorem Ty.ag56 : (ctx Tryd.prog Gt tab).isAgg 56 = some false := by kernel_rfl
theorem Ty.pt56 : (ctx Tryd.prog Gt tab).ptT 56 = some true := by kernel_rfl
theorem Ty.zr56 : (ctx Tryd.prog Gt tab).zero 56 = some (.v (.c .nilp)) := by kernel_rfl
theorem Ty.ap56 : (ctx Tryd.prog Gt tab).apz 56 = some (1, 8) := by kernel_rfl
theorem Ty.sz58 : (ctx Tryd.prog Gt tab).size 58 = some 2 := by kernel_rfl
theorem Ty.ag58 : (ctx Tryd.prog Gt tab).isAgg 58 = some true := by kernel_rfl
theorem Ty.nf58 : (ctx Tryd.prog Gt tab).isIf 58 = some false := by kernel_rfl
theorem Ty.zr58 : (ctx Tryd.prog Gt tab).zero 58 = some (.v (.agg [.nilp, .d (.sl true [])])) := by kernel_rfl
theorem Ty.ap58 : (ctx Tryd.prog Gt tab).apz 58 = some (2, 32) := by kernel_rfl
theorem Ty.fd58_0 : fld (ctx Tryd.prog Gt tab) (Tryd.prog.underlying 58) x 0 h = fldV (ctx Tryd.prog Gt tab) 56 0 x h := by kernel_rfl
theorem Ty.fa58_0 : fldA (ctx Tryd.prog Gt tab) (Tryd.prog.underlying 58) x 0 h = fldP 0 1 x h := by kernel_rfl
theorem Ty.fd58_1 : fld (ctx Tryd.prog Gt tab) (Tryd.prog.underlying 58) x 1 h = fldV (ctx Tryd.prog Gt tab) 38 1 x h := by kernel_rfl
theorem Ty.fa58_1 : fldA (ctx Tryd.prog Gt tab) (Tryd.prog.underlying 58) x 1 h = fldP 1 1 x h := by kernel_rfl
theorem Ty.pl58 : (ctx Tryd.prog Gt tab).place 58 = some fun i => [(0, 1), (1, 1)][i]? := by kernel_rfl
theorem Ty.sz65 : (ctx Tryd.prog Gt tab).size 65 = some 1 := by kernel_rfl
theorem Ty.ag65 : (ctx Tryd.prog Gt tab).isAgg 65 = some false := by kernel_rfl
theorem Ty.zr65 : (ctx Tryd.prog Gt tab).zero 65 = some (.v (.c (.d (.sl true [])))) := by kernel_rfl
theorem Ty.ap65 : (ctx Tryd.prog Gt tab).apz 65 = some (1, 24) := by kernel_rfl
theorem Ty.un65 : Tryd.prog.underlying 65 = some (Go.TypeDesc.slice 9) := by kernel_rfl
theorem Ty.sz69 : (ctx Tryd.prog Gt tab).size 69 = some 1 := by kernel_rfl
theorem Ty.ag69 : (ctx Tryd.prog Gt tab).isAgg 69 = some false := by kernel_rfl
theorem Ty.pt69 : (ctx Tryd.prog Gt tab).ptT 69 = some true := by kernel_rfl
theorem Ty.zr69 : (ctx Tryd.prog Gt tab).zero 69 = some (.v (.c .nilp)) := by kernel_rfl
theorem Ty.ap69 : (ctx Tryd.prog Gt tab).apz 69 = some (1, 8) := by kernel_rfl
theorem Ty.sz71 : (ctx Tryd.prog Gt tab).size 71 = some 6 := by kernel_rfl
theorem Ty.ag71 : (ctx Tryd.prog Gt tab).isAgg 71 = some true := by kernel_rfl
theorem Ty.nf71 : (ctx Tryd.prog Gt tab).isIf 71 = some false := by kernel_rfl
theorem Ty.zr71 : (ctx Tryd.prog Gt tab).zero 71 = some (.v (.agg [.d (.str []), .d (.str []), .d (.int .i64 0), .d (.sl true []), .d (.bool false), .d (.bool false)])) := by kernel_rfl
theorem Ty.ap71 : (ctx Tryd.prog Gt tab).apz 71 = some (6, 72) := by kernel_rfl
theorem Ty.fd71_0 : fld (ctx Tryd.prog Gt tab) (Tryd.prog.underlying 71) x 0 h = fldV (ctx Tryd.prog Gt tab) 24 0 x h := by kernel_rfl
theorem Ty.fa71_0 : fldA (ctx Tryd.prog Gt tab) (Tryd.prog.underlying 71) x 0 h = fldP 0 4 x h := by kernel_rfl
theorem Ty.fd71_1 : fld (ctx Tryd.prog Gt tab) (Tryd.prog.underlying 71) x 1 h = fldV (ctx Tryd.prog Gt tab) 4 4 x h := by kernel_rfl
theorem Ty.fa71_1 : fldA (ctx Tryd.prog Gt tab) (Tryd.prog.underlying 71) x 1 h = fldP 4 1 x h := by kernel_rfl
theorem Ty.fd71_2 : fld (ctx Tryd.prog Gt tab) (Tryd.prog.underlying 71) x 2 h = fldV (ctx Tryd.prog Gt tab) 4 5 x h := by kernel_rfl
theorem Ty.fa71_2 : fldA (ctx Tryd.prog Gt tab) (Tryd.prog.underlying 71) x 2 h = fldP 5 1 x h := by kernel_rfl
theorem Ty.pl71 : (ctx Tryd.prog Gt tab).place 71 = some fun i => [(0, 4), (4, 1), (5, 1)][i]? := by kernel_rfl
theorem Ty.sz79 : (ctx Tryd.prog Gt tab).size 79 = some 1 := by kernel_rfl
theorem Ty.ag79 : (ctx Tryd.prog Gt tab).isAgg 79 = some false := by kernel_rfl
theorem Ty.nf79 : (ctx Tryd.prog Gt tab).isIf 79 = some false := by kernel_rfl
theorem Ty.zr79 : (ctx Tryd.prog Gt tab).zero 79 = some (.v (.c (.d (.int .u64 0)))) := by kernel_rfl
theorem Ty.ap79 : (ctx Tryd.prog Gt tab).apz 79 = some (1, 8) := by kernel_rfl
theorem Ty.un79 : Tryd.prog.underlying 79 = some (Go.TypeDesc.int Go.IntKind.u64) := by kernel_rfl
theorem Ty.sz85 : (ctx Tryd.prog Gt tab).size 85 = some 1 := by kernel_rfl
theorem Ty.ag85 : (ctx Tryd.prog Gt tab).isAgg 85 = some true := by kernel_rfl
theorem Ty.nf85 : (ctx Tryd.prog Gt tab).isIf 85 = some false := by kernel_rfl
theorem Ty.ft85 : (ctx Tryd.prog Gt tab).flat 85 = some [.i .i64] := by kernel_rfl
theorem Ty.zr85 : (ctx Tryd.prog Gt tab).zero 85 = some (.v (.agg [.d (.int .i64 0)])) := by kernel_rfl
theorem Ty.ap85 : (ctx Tryd.prog Gt tab).apz 85 = some (1, 8) := by kernel_rfl
theorem Ty.fd85_0 : fld (ctx Tryd.prog Gt tab) (Tryd.prog.underlying 85) x 0 h = fldV (ctx Tryd.prog Gt tab) 26 0 x h := by kernel_rfl
theorem Ty.fa85_0 : fldA (ctx Tryd.prog Gt tab) (Tryd.prog.underlying 85) x 0 h = fldP 0 1 x h := by kernel_rfl
theorem Ty.pl85 : (ctx Tryd.prog Gt tab).place 85 = some fun i => [(0, 1)][i]? := by kernel_rfl
end

/-- All of them, for simp. -/
theorem TY : type_of% @Ty.sz3 ∧
  type_of% @Ty.ag3 ∧
  type_of% @Ty.nf3 ∧
  type_of% @Ty.zr3 ∧
  type_of% @Ty.ap3 ∧
  type_of% @Ty.un3 ∧
  type_of% @Ty.sz4 ∧
  type_of% @Ty.ag4 ∧
  type_of% @Ty.zr4 ∧
  type_of% @Ty.ap4 ∧
  type_of% @Ty.un4 ∧
  type_of% @Ty.sz5 ∧
  type_of% @Ty.ag5 ∧
  type_of% @Ty.nf5 ∧
  type_of% @Ty.zr5 ∧
  type_of% @Ty.ap5 ∧
  type_of% @Ty.un5 ∧
  type_of% @Ty.sz9 ∧
  type_of% @Ty.ag9 ∧
  type_of% @Ty.zr9 ∧
  type_of% @Ty.ap9 ∧
  type_of% @Ty.un9 ∧
  type_of% @Ty.sz20 ∧
  type_of% @Ty.ag20 ∧
  type_of% @Ty.if20 ∧
  type_of% @Ty.zr20 ∧
  type_of% @Ty.ap20 ∧
  type_of% @Ty.sz21 ∧
  type_of% @Ty.ag21 ∧
  type_of% @Ty.nf21 ∧
  type_of% @Ty.zr21 ∧
  type_of% @Ty.ap21 ∧
  type_of% @Ty.un21 ∧
  type_of% @Ty.sz22 ∧
  type_of% @Ty.ag22 ∧
  type_of% @Ty.zr22 ∧
  type_of% @Ty.ap22 ∧
  type_of% @Ty.un22 ∧
  type_of% @Ty.sz24 ∧
  type_of% @Ty.ag24 ∧
  type_of% @Ty.nf24 ∧
  type_of% @Ty.zr24 ∧
  type_of% @Ty.ap24 ∧
  type_of% @Ty.fd24_0 ∧
  type_of% @Ty.fa24_0 ∧
  type_of% @Ty.fd24_1 ∧
  type_of% @Ty.fa24_1 ∧
  type_of% @Ty.fd24_2 ∧
  type_of% @Ty.fa24_2 ∧
  type_of% @Ty.fd24_3 ∧
  type_of% @Ty.fa24_3 ∧
  type_of% @Ty.pl24 ∧
  type_of% @Ty.sz26 ∧
  type_of% @Ty.ag26 ∧
  type_of% @Ty.nf26 ∧
  type_of% @Ty.zr26 ∧
  type_of% @Ty.ap26 ∧
  type_of% @Ty.un26 ∧
  type_of% @Ty.sz38 ∧
  type_of% @Ty.ag38 ∧
  type_of% @Ty.zr38 ∧
  type_of% @Ty.ap38 ∧
  type_of% @Ty.un38 ∧
  type_of% @Ty.sz40 ∧
  type_of% @Ty.ag40 ∧
  type_of% @Ty.nf40 ∧
  type_of% @Ty.ft40 ∧
  type_of% @Ty.zr40 ∧
  type_of% @Ty.ap40 ∧
  type_of% @Ty.fd40_0 ∧
  type_of% @Ty.fa40_0 ∧
  type_of% @Ty.fd40_1 ∧
  type_of% @Ty.fa40_1 ∧
  type_of% @Ty.fd40_2 ∧
  type_of% @Ty.fa40_2 ∧
  type_of% @Ty.fd40_3 ∧
  type_of% @Ty.fa40_3 ∧
  type_of% @Ty.fd40_4 ∧
  type_of% @Ty.fa40_4 ∧
  type_of% @Ty.pl40 ∧
  type_of% @Ty.sz45 ∧
  type_of% @Ty.ag45 ∧
  type_of% @Ty.nf45 ∧
  type_of% @Ty.zr45 ∧
  type_of% @Ty.ap45 ∧
  type_of% @Ty.un45 ∧
  type_of% @Ty.sz49 ∧
  type_of% @Ty.ag49 ∧
  type_of% @Ty.zr49 ∧
  type_of% @Ty.ap49 ∧
  type_of% @Ty.un49 ∧
  type_of% @Ty.sz56 ∧
  type_of% @Ty.ag56 ∧
  type_of% @Ty.pt56 ∧
  type_of% @Ty.zr56 ∧
  type_of% @Ty.ap56 ∧
  type_of% @Ty.sz58 ∧
  type_of% @Ty.ag58 ∧
  type_of% @Ty.nf58 ∧
  type_of% @Ty.zr58 ∧
  type_of% @Ty.ap58 ∧
  type_of% @Ty.fd58_0 ∧
  type_of% @Ty.fa58_0 ∧
  type_of% @Ty.fd58_1 ∧
  type_of% @Ty.fa58_1 ∧
  type_of% @Ty.pl58 ∧
  type_of% @Ty.sz65 ∧
  type_of% @Ty.ag65 ∧
  type_of% @Ty.zr65 ∧
  type_of% @Ty.ap65 ∧
  type_of% @Ty.un65 ∧
  type_of% @Ty.sz69 ∧
  type_of% @Ty.ag69 ∧
  type_of% @Ty.pt69 ∧
  type_of% @Ty.zr69 ∧
  type_of% @Ty.ap69 ∧
  type_of% @Ty.sz71 ∧
  type_of% @Ty.ag71 ∧
  type_of% @Ty.nf71 ∧
  type_of% @Ty.zr71 ∧
  type_of% @Ty.ap71 ∧
  type_of% @Ty.fd71_0 ∧
  type_of% @Ty.fa71_0 ∧
  type_of% @Ty.fd71_1 ∧
  type_of% @Ty.fa71_1 ∧
  type_of% @Ty.fd71_2 ∧
  type_of% @Ty.fa71_2 ∧
  type_of% @Ty.pl71 ∧
  type_of% @Ty.sz79 ∧
  type_of% @Ty.ag79 ∧
  type_of% @Ty.nf79 ∧
  type_of% @Ty.zr79 ∧
  type_of% @Ty.ap79 ∧
  type_of% @Ty.un79 ∧
  type_of% @Ty.sz85 ∧
  type_of% @Ty.ag85 ∧
  type_of% @Ty.nf85 ∧
  type_of% @Ty.ft85 ∧
  type_of% @Ty.zr85 ∧
  type_of% @Ty.ap85 ∧
  type_of% @Ty.fd85_0 ∧
  type_of% @Ty.fa85_0 ∧
  type_of% @Ty.pl85 :=
  ⟨@Ty.sz3, @Ty.ag3, @Ty.nf3, @Ty.zr3, @Ty.ap3, @Ty.un3, @Ty.sz4, @Ty.ag4, @Ty.zr4, @Ty.ap4, @Ty.un4, @Ty.sz5, @Ty.ag5, @Ty.nf5, @Ty.zr5, @Ty.ap5, @Ty.un5, @Ty.sz9, @Ty.ag9, @Ty.zr9, @Ty.ap9, @Ty.un9, @Ty.sz20, @Ty.ag20, @Ty.if20, @Ty.zr20, @Ty.ap20, @Ty.sz21, @Ty.ag21, @Ty.nf21, @Ty.zr21, @Ty.ap21, @Ty.un21, @Ty.sz22, @Ty.ag22, @Ty.zr22, @Ty.ap22, @Ty.un22, @Ty.sz24, @Ty.ag24, @Ty.nf24, @Ty.zr24, @Ty.ap24, @Ty.fd24_0, @Ty.fa24_0, @Ty.fd24_1, @Ty.fa24_1, @Ty.fd24_2, @Ty.fa24_2, @Ty.fd24_3, @Ty.fa24_3, @Ty.pl24, @Ty.sz26, @Ty.ag26, @Ty.nf26, @Ty.zr26, @Ty.ap26, @Ty.un26, @Ty.sz38, @Ty.ag38, @Ty.zr38, @Ty.ap38, @Ty.un38, @Ty.sz40, @Ty.ag40, @Ty.nf40, @Ty.ft40, @Ty.zr40, @Ty.ap40, @Ty.fd40_0, @Ty.fa40_0, @Ty.fd40_1, @Ty.fa40_1, @Ty.fd40_2, @Ty.fa40_2, @Ty.fd40_3, @Ty.fa40_3, @Ty.fd40_4, @Ty.fa40_4, @Ty.pl40, @Ty.sz45, @Ty.ag45, @Ty.nf45, @Ty.zr45, @Ty.ap45, @Ty.un45, @Ty.sz49, @Ty.ag49, @Ty.zr49, @Ty.ap49, @Ty.un49, @Ty.sz56, @Ty.ag56, @Ty.pt56, @Ty.zr56, @Ty.ap56, @Ty.sz58, @Ty.ag58, @Ty.nf58, @Ty.zr58, @Ty.ap58, @Ty.fd58_0, @Ty.fa58_0, @Ty.fd58_1, @Ty.fa58_1, @Ty.pl58, @Ty.sz65, @Ty.ag65, @Ty.zr65, @Ty.ap65, @Ty.un65, @Ty.sz69, @Ty.ag69, @Ty.pt69, @Ty.zr69, @Ty.ap69, @Ty.sz71, @Ty.ag71, @Ty.nf71, @Ty.zr71, @Ty.ap71, @Ty.fd71_0, @Ty.fa71_0, @Ty.fd71_1, @Ty.fa71_1, @Ty.fd71_2, @Ty.fa71_2, @Ty.pl71, @Ty.sz79, @Ty.ag79, @Ty.nf79, @Ty.zr79, @Ty.ap79, @Ty.un79, @Ty.sz85, @Ty.ag85, @Ty.nf85, @Ty.ft85, @Ty.zr85, @Ty.ap85, @Ty.fd85_0, @Ty.fa85_0, @Ty.pl85⟩

end Go.Ab
