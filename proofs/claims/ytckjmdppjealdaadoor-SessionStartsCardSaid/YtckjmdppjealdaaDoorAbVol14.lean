/-
  Texts of the layer and of the laws, put together: AbT. No law is stated here.
-/
import Derived.Test.YtckjmdppjealdaaDoorChecked
import Derived.Test.YtckjmdppjealdaaDoorAbVol13
import Derived.KernelRfl
set_option linter.unusedSimpArgs false
set_option linter.unusedVariables false
set_option maxRecDepth 100000

/-
  The types of this seat's program, as equations. Written by tools/types.py.
-/
set_option maxRecDepth 200000
namespace Go.Ab
open Go.RowKit Go.Proofs
section
variable {tab : Tab} {x : AV} {h : Hp}
theorem Ty.sz3 : (ctx Tryd.prog Gt tab).size 3 = some 1 := by kernel_rfl
theorem Ty.ag3 : (ctx Tryd.prog Gt tab).isAgg 3 = some false := by kernel_rfl
theorem Ty.nf3 : (ctx Tryd.prog Gt tab).isIf 3 = some false := by kernel_rfl
theorem Ty.zr3 : (ctx Tryd.prog Gt tab).zero 3 = some (.v (.c (.d (.int .i64 0)))) := by kernel_rfl
theorem Ty.ap3 : (ctx Tryd.prog Gt tab).apz 3 = some (1, 8) := by kernel_rfl
theorem Ty.un3 : Tryd.prog.underlying 3 = some (Go.TypeDesc.int Go.IntKind.i64) := by kernel_rfl
theorem Ty.sz4 : (ctx Tryd.prog Gt tab).size 4 = some 1 := by kernel_rfl
theorem Ty.ag4 : (ctx Tryd.prog Gt tab).isAgg 4 = some false := by kernel_rfl
theorem Ty.zr4 : (ctx Tryd.prog Gt tab).zero 4 = some (.v (.c (.d (.bool false)))) := by kernel_rfl
theorem Ty.ap4 : (ctx Tryd.prog Gt tab).apz 4 = some (1, 1) := by kernel_rfl
theorem Ty.un4 : Tryd.prog.underlying 4 = some Go.TypeDesc.bool := by kernel_rfl
theorem Ty.sz5 : (ctx Tryd.prog Gt tab).size 5 = some 1 := by kernel_rfl
theorem Ty.ag5 : (ctx Tryd.prog Gt tab).isAgg 5 = some false := by kernel_rfl
theorem Ty.nf5 : (ctx Tryd.prog Gt tab).isIf 5 = some false := by kernel_rfl
theorem Ty.zr5 : (ctx Tryd.prog Gt tab).zero 5 = some (.v (.c (.d (.int .u8 0)))) := by kernel_rfl
theorem Ty.ap5 : (ctx Tryd.prog Gt tab).apz 5 = some (1, 1) := by kernel_rfl
theorem Ty.un5 : Tryd.prog.underlying 5 = some (Go.TypeDesc.int Go.IntKind.u8) := by kernel_rfl
theorem Ty.sz9 : (ctx Tryd.prog Gt tab).size 9 = some 1 := by kernel_rfl
theorem Ty.ag9 : (ctx Tryd.prog Gt tab).isAgg 9 = some false := by kernel_rfl
theorem Ty.zr9 : (ctx Tryd.prog Gt tab).zero 9 = some (.v (.c (.d (.str [])))) := by kernel_rfl
theorem Ty.ap9 : (ctx Tryd.prog Gt tab).apz 9 = some (1, 16) := by kernel_rfl
theorem Ty.un9 : Tryd.prog.underlying 9 = some Go.TypeDesc.string := by kernel_rfl
theorem Ty.sz21 : (ctx Tryd.prog Gt tab).size 21 = some 1 := by kernel_rfl
theorem Ty.ag21 : (ctx Tryd.prog Gt tab).isAgg 21 = some false := by kernel_rfl
theorem Ty.nf21 : (ctx Tryd.prog Gt tab).isIf 21 = some false := by kernel_rfl
theorem Ty.zr21 : (ctx Tryd.prog Gt tab).zero 21 = some (.v (.c (.d (.int .i32 0)))) := by kernel_rfl
theorem Ty.ap21 : (ctx Tryd.prog Gt tab).apz 21 = some (1, 4) := by kernel_rfl
theorem Ty.un21 : Tryd.prog.underlying 21 = some (Go.TypeDesc.int Go.IntKind.i32) := by kernel_rfl
theorem Ty.sz23 : (ctx Tryd.prog Gt tab).size 23 = some 5 := by kernel_rfl
theorem Ty.ag23 : (ctx Tryd.prog Gt tab).isAgg 23 = some true := by kernel_rfl
theorem Ty.nf23 : (ctx Tryd.prog Gt tab).isIf 23 = some false := by kernel_rfl
theorem Ty.ft23 : (ctx Tryd.prog Gt tab).flat 23 = some [.i .i64, .s, .s, .i .i64, .i .i64] := by kernel_rfl
theorem Ty.zr23 : (ctx Tryd.prog Gt tab).zero 23 = some (.v (.agg [.d (.int .i64 0), .d (.str []), .d (.str []), .d (.int .i64 0), .d (.int .i64 0)])) := by kernel_rfl
theorem Ty.ap23 : (ctx Tryd.prog Gt tab).apz 23 = some (5, 56) := by kernel_rfl
theorem Ty.fd23_0 : fld (ctx Tryd.prog Gt tab) (Tryd.prog.underlying 23) x 0 h = fldV (ctx Tryd.prog Gt tab) 3 0 x h := by kernel_rfl
theorem Ty.fa23_0 : fldA (ctx Tryd.prog Gt tab) (Tryd.prog.underlying 23) x 0 h = fldP 0 1 x h := by kernel_rfl
theorem Ty.fd23_1 : fld (ctx Tryd.prog Gt tab) (Tryd.prog.underlying 23) x 1 h = fldV (ctx Tryd.prog Gt tab) 9 1 x h := by kernel_rfl
theorem Ty.fa23_1 : fldA (ctx Tryd.prog Gt tab) (Tryd.prog.underlying 23) x 1 h = fldP 1 1 x h := by kernel_rfl
theorem Ty.fd23_2 : fld (ctx Tryd.prog Gt tab) (Tryd.prog.underlying 23) x 2 h = fldV (ctx Tryd.prog Gt tab) 9 2 x h := by kernel_rfl
theorem Ty.fa23_2 : fldA (ctx Tryd.prog Gt tab) (Tryd.prog.underlying 23) x 2 h = fldP 2 1 x h := by kernel_rfl
theorem Ty.fd23_3 : fld (ctx Tryd.prog Gt tab) (Tryd.prog.underlying 23) x 3 h = fldV (ctx Tryd.prog Gt tab) 3 3 x h := by kernel_rfl
theorem Ty.fa23_3 : fldA (ctx Tryd.prog Gt tab) (Tryd.prog.underlying 23) x 3 h = fldP 3 1 x h := by kernel_rfl
theorem Ty.fd23_4 : fld (ctx Tryd.prog Gt tab) (Tryd.prog.underlying 23) x 4 h = fldV (ctx Tryd.prog Gt tab) 3 4 x h := by kernel_rfl
theorem Ty.fa23_4 : fldA (ctx Tryd.prog Gt tab) (Tryd.prog.underlying 23) x 4 h = fldP 4 1 x h := by kernel_rfl
theorem Ty.pl23 : (ctx Tryd.prog Gt tab).place 23 = some fun i => [(0, 1), (1, 1), (2, 1), (3, 1), (4, 1)][i]? := by kernel_rfl
theorem Ty.sz24 : (ctx Tryd.prog Gt tab).size 24 = some 1 := by kernel_rfl
theorem Ty.ag24 : (ctx Tryd.prog Gt tab).isAgg 24 = some false := by kernel_rfl
theorem Ty.zr24 : (ctx Tryd.prog Gt tab).zero 24 = some (.v (.c (.d (.sl true [])))) := by kernel_rfl
theorem Ty.ap24 : (ctx Tryd.prog Gt tab).apz 24 = some (1, 24) := by kernel_rfl
theorem Ty.un24 : Tryd.prog.underlying 24 = some (Go.TypeDesc.slice 40) := by kernel_rfl
theorem Ty.sz28 : (ctx Tryd.prog Gt tab).size 28 = some 1 := by kernel_rfl
theorem Ty.ag28 : (ctx Tryd.prog Gt tab).isAgg 28 = some false := by kernel_rfl
theorem Ty.nf28 : (ctx Tryd.prog Gt tab).isIf 28 = some false := by kernel_rfl
theorem Ty.zr28 : (ctx Tryd.prog Gt tab).zero 28 = some (.v (.c (.d (.int .i64 0)))) := by kernel_rfl
theorem Ty.ap28 : (ctx Tryd.prog Gt tab).apz 28 = some (1, 8) := by kernel_rfl
theorem Ty.un28 : Tryd.prog.underlying 28 = some (Go.TypeDesc.int Go.IntKind.i64) := by kernel_rfl
theorem Ty.sz33 : (ctx Tryd.prog Gt tab).size 33 = some 1 := by kernel_rfl
theorem Ty.ag33 : (ctx Tryd.prog Gt tab).isAgg 33 = some false := by kernel_rfl
theorem Ty.zr33 : (ctx Tryd.prog Gt tab).zero 33 = some (.v (.c (.d (.sl true [])))) := by kernel_rfl
theorem Ty.ap33 : (ctx Tryd.prog Gt tab).apz 33 = some (1, 24) := by kernel_rfl
theorem Ty.un33 : Tryd.prog.underlying 33 = some (Go.TypeDesc.slice 23) := by kernel_rfl
theorem Ty.sz37 : (ctx Tryd.prog Gt tab).size 37 = some 1 := by kernel_rfl
theorem Ty.ag37 : (ctx Tryd.prog Gt tab).isAgg 37 = some false := by kernel_rfl
theorem Ty.zr37 : (ctx Tryd.prog Gt tab).zero 37 = some (.v (.c (.d (.sl true [])))) := by kernel_rfl
theorem Ty.ap37 : (ctx Tryd.prog Gt tab).apz 37 = some (1, 24) := by kernel_rfl
theorem Ty.un37 : Tryd.prog.underlying 37 = some (Go.TypeDesc.slice 98) := by kernel_rfl
theorem Ty.sz38 : (ctx Tryd.prog Gt tab).size 38 = some 1 := by kernel_rfl
theorem Ty.ag38 : (ctx Tryd.prog Gt tab).isAgg 38 = some false := by kernel_rfl
theorem Ty.zr38 : (ctx Tryd.prog Gt tab).zero 38 = some (.v (.c (.d (.sl true [])))) := by kernel_rfl
theorem Ty.ap38 : (ctx Tryd.prog Gt tab).apz 38 = some (1, 24) := by kernel_rfl
theorem Ty.un38 : Tryd.prog.underlying 38 = some (Go.TypeDesc.slice 59) := by kernel_rfl
theorem Ty.sz40 : (ctx Tryd.prog Gt tab).size 40 = some 7 := by kernel_rfl
theorem Ty.ag40 : (ctx Tryd.prog Gt tab).isAgg 40 = some true := by kernel_rfl
theorem Ty.nf40 : (ctx Tryd.prog Gt tab).isIf 40 = some false := by kernel_rfl
theorem Ty.zr40 : (ctx Tryd.prog Gt tab).zero 40 = some (.v (.agg [.d (.str []), .d (.sl true []), .d (.sl true []), .d (.int .i64 0), .d (.int .i64 0), .d (.int .i64 0), .d (.int .i64 0)])) := by kernel_rfl
theorem Ty.ap40 : (ctx Tryd.prog Gt tab).apz 40 = some (7, 96) := by kernel_rfl
theorem Ty.fd40_0 : fld (ctx Tryd.prog Gt tab) (Tryd.prog.underlying 40) x 0 h = fldV (ctx Tryd.prog Gt tab) 9 0 x h := by kernel_rfl
theorem Ty.fa40_0 : fldA (ctx Tryd.prog Gt tab) (Tryd.prog.underlying 40) x 0 h = fldP 0 1 x h := by kernel_rfl
theorem Ty.fd40_1 : fld (ctx Tryd.prog Gt tab) (Tryd.prog.underlying 40) x 1 h = fldV (ctx Tryd.prog Gt tab) 37 1 x h := by kernel_rfl
theorem Ty.fa40_1 : fldA (ctx Tryd.prog Gt tab) (Tryd.prog.underlying 40) x 1 h = fldP 1 1 x h := by kernel_rfl
theorem Ty.fd40_2 : fld (ctx Tryd.prog Gt tab) (Tryd.prog.underlying 40) x 2 h = fldV (ctx Tryd.prog Gt tab) 38 2 x h := by kernel_rfl
theorem Ty.fa40_2 : fldA (ctx Tryd.prog Gt tab) (Tryd.prog.underlying 40) x 2 h = fldP 2 1 x h := by kernel_rfl
theorem Ty.fd40_3 : fld (ctx Tryd.prog Gt tab) (Tryd.prog.underlying 40) x 3 h = fldV (ctx Tryd.prog Gt tab) 3 3 x h := by kernel_rfl
theorem Ty.fa40_3 : fldA (ctx Tryd.prog Gt tab) (Tryd.prog.underlying 40) x 3 h = fldP 3 1 x h := by kernel_rfl
theorem Ty.fd40_4 : fld (ctx Tryd.prog Gt tab) (Tryd.prog.underlying 40) x 4 h = fldV (ctx Tryd.prog Gt tab) 3 4 x h := by kernel_rfl
theorem Ty.fa40_4 : fldA (ctx Tryd.prog Gt tab) (Tryd.prog.underlying 40) x 4 h = fldP 4 1 x h := by kernel_rfl
theorem Ty.fd40_5 : fld (ctx Tryd.prog Gt tab) (Tryd.prog.underlying 40) x 5 h = fldV (ctx Tryd.prog Gt tab) 3 5 x h := by kernel_rfl
theorem Ty.fa40_5 : fldA (ctx Tryd.prog Gt tab) (Tryd.prog.underlying 40) x 5 h = fldP 5 1 x h := by kernel_rfl
theorem Ty.fd40_6 : fld (ctx Tryd.prog Gt tab) (Tryd.prog.underlying 40) x 6 h = fldV (ctx Tryd.prog Gt tab) 3 6 x h := by kernel_rfl
theorem Ty.fa40_6 : fldA (ctx Tryd.prog Gt tab) (Tryd.prog.underlying 40) x 6 h = fldP 6 1 x h := by kernel_rfl
theorem Ty.pl40 : (ctx Tryd.prog Gt tab).place 40 = some fun i => [(0, 1), (1, 1), (2, 1), (3, 1), (4, 1), (5, 1), (6, 1)][i]? := by kernel_rfl
theorem Ty.sz41 : (ctx Tryd.prog Gt tab).size 41 = some 1 := by kernel_rfl
theorem Ty.ag41 : (ctx Tryd.prog Gt tab).isAgg 41 = some false := by kernel_rfl
theorem Ty.zr41 : (ctx Tryd.prog Gt tab).zero 41 = some (.v (.c (.d (.sl true [])))) := by kernel_rfl
theorem Ty.ap41 : (ctx Tryd.prog Gt tab).apz 41 = some (1, 24) := by kernel_rfl
theorem Ty.un41 : Tryd.prog.underlying 41 = some (Go.TypeDesc.slice 3) := by kernel_rfl
theorem Ty.sz43 : (ctx Tryd.prog Gt tab).size 43 = some 7 := by kernel_rfl
theorem Ty.ag43 : (ctx Tryd.prog Gt tab).isAgg 43 = some true := by kernel_rfl
theorem Ty.nf43 : (ctx Tryd.prog Gt tab).isIf 43 = some false := by kernel_rfl
theorem Ty.zr43 : (ctx Tryd.prog Gt tab).zero 43 = some (.v (.agg [.d (.str []), .d (.str []), .d (.str []), .d (.int .i64 0), .d (.int .i64 0), .d (.int .i64 0), .d (.sl true [])])) := by kernel_rfl
theorem Ty.ap43 : (ctx Tryd.prog Gt tab).apz 43 = some (7, 96) := by kernel_rfl
theorem Ty.fd43_0 : fld (ctx Tryd.prog Gt tab) (Tryd.prog.underlying 43) x 0 h = fldV (ctx Tryd.prog Gt tab) 9 0 x h := by kernel_rfl
theorem Ty.fa43_0 : fldA (ctx Tryd.prog Gt tab) (Tryd.prog.underlying 43) x 0 h = fldP 0 1 x h := by kernel_rfl
theorem Ty.fd43_1 : fld (ctx Tryd.prog Gt tab) (Tryd.prog.underlying 43) x 1 h = fldV (ctx Tryd.prog Gt tab) 9 1 x h := by kernel_rfl
theorem Ty.fa43_1 : fldA (ctx Tryd.prog Gt tab) (Tryd.prog.underlying 43) x 1 h = fldP 1 1 x h := by kernel_rfl
theorem Ty.fd43_2 : fld (ctx Tryd.prog Gt tab) (Tryd.prog.underlying 43) x 2 h = fldV (ctx Tryd.prog Gt tab) 9 2 x h := by kernel_rfl
theorem Ty.fa43_2 : fldA (ctx Tryd.prog Gt tab) (Tryd.prog.underlying 43) x 2 h = fldP 2 1 x h := by kernel_rfl
theorem Ty.fd43_3 : fld (ctx Tryd.prog Gt tab) (Tryd.prog.underlying 43) x 3 h = fldV (ctx Tryd.prog Gt tab) 3 3 x h := by kernel_rfl
theorem Ty.fa43_3 : fldA (ctx Tryd.prog Gt tab) (Tryd.prog.underlying 43) x 3 h = fldP 3 1 x h := by kernel_rfl
theorem Ty.fd43_4 : fld (ctx Tryd.prog Gt tab) (Tryd.prog.underlying 43) x 4 h = fldV (ctx Tryd.prog Gt tab) 3 4 x h := by kernel_rfl
theorem Ty.fa43_4 : fldA (ctx Tryd.prog Gt tab) (Tryd.prog.underlying 43) x 4 h = fldP 4 1 x h := by kernel_rfl
theorem Ty.fd43_5 : fld (ctx Tryd.prog Gt tab) (Tryd.prog.underlying 43) x 5 h = fldV (ctx Tryd.prog Gt tab) 3 5 x h := by kernel_rfl
theorem Ty.fa43_5 : fldA (ctx Tryd.prog Gt tab) (Tryd.prog.underlying 43) x 5 h = fldP 5 1 x h := by kernel_rfl
theorem Ty.fd43_6 : fld (ctx Tryd.prog Gt tab) (Tryd.prog.underlying 43) x 6 h = fldV (ctx Tryd.prog Gt tab) 41 6 x h := by kernel_rfl
theorem Ty.fa43_6 : fldA (ctx Tryd.prog Gt tab) (Tryd.prog.underlying 43) x 6 h = fldP 6 1 x h := by kernel_rfl
theorem Ty.pl43 : (ctx Tryd.prog Gt tab).place 43 = some fun i => [(0, 1), (1, 1), (2, 1), (3, 1), (4, 1), (5, 1), (6, 1)][i]? := by kernel_rfl
theorem Ty.sz45 : (ctx Tryd.prog Gt tab).size 45 = some 2 := by kernel_rfl
theorem Ty.ag45 : (ctx Tryd.prog Gt tab).isAgg 45 = some true := by kernel_rfl
theorem Ty.nf45 : (ctx Tryd.prog Gt tab).isIf 45 = some false := by kernel_rfl
theorem Ty.ft45 : (ctx Tryd.prog Gt tab).flat 45 = some [.i .i64, .i .i64] := by kernel_rfl
theorem Ty.zr45 : (ctx Tryd.prog Gt tab).zero 45 = some (.v (.agg [.d (.int .i64 0), .d (.int .i64 0)])) := by kernel_rfl
theorem Ty.ap45 : (ctx Tryd.prog Gt tab).apz 45 = some (2, 16) := by kernel_rfl
theorem Ty.fd45_0 : fld (ctx Tryd.prog Gt tab) (Tryd.prog.underlying 45) x 0 h = fldV (ctx Tryd.prog Gt tab) 3 0 x h := by kernel_rfl
theorem Ty.fa45_0 : fldA (ctx Tryd.prog Gt tab) (Tryd.prog.underlying 45) x 0 h = fldP 0 1 x h := by kernel_rfl
theorem Ty.fd45_1 : fld (ctx Tryd.prog Gt tab) (Tryd.prog.underlying 45) x 1 h = fldV (ctx Tryd.prog Gt tab) 3 1 x h := by kernel_rfl
theorem Ty.fa45_1 : fldA (ctx Tryd.prog Gt tab) (Tryd.prog.underlying 45) x 1 h = fldP 1 1 x h := by kernel_rfl
theorem Ty.pl45 : (ctx Tryd.prog Gt tab).place 45 = some fun i => [(0, 1), (1, 1)][i]? := by kernel_rfl
theorem Ty.sz48 : (ctx Tryd.prog Gt tab).size 48 = some 1 := by kernel_rfl
theorem Ty.ag48 : (ctx Tryd.prog Gt tab).isAgg 48 = some false := by kernel_rfl
theorem Ty.zr48 : (ctx Tryd.prog Gt tab).zero 48 = some (.v (.c (.d (.sl true [])))) := by kernel_rfl
theorem Ty.ap48 : (ctx Tryd.prog Gt tab).apz 48 = some (1, 24) := by kernel_rfl
theorem Ty.un48 : Tryd.prog.underlying 48 = some (Go.TypeDesc.slice 43) := by kernel_rfl
theorem Ty.sz49 : (ctx Tryd.prog Gt tab).size 49 = some 1 := by kernel_rfl
theorem Ty.ag49 : (ctx Tryd.prog Gt tab).isAgg 49 = some false := by kernel_rfl
theorem Ty.zr49 : (ctx Tryd.prog Gt tab).zero 49 = some (.v (.c (.d (.sl true [])))) := by kernel_rfl
theorem Ty.ap49 : (ctx Tryd.prog Gt tab).apz 49 = some (1, 24) := by kernel_rfl
theorem Ty.un49 : Tryd.prog.underlying 49 = some (Go.TypeDesc.slice 57) := by kernel_rfl
theorem Ty.sz57 : (ctx Tryd.prog Gt tab).size 57 = some 2 := by kernel_rfl
theorem Ty.ag57 : (ctx Tryd.prog Gt tab).isAgg 57 = some true := by kernel_rfl
theorem Ty.nf57 : (ctx Tryd.prog Gt tab).isIf 57 = some false := by kernel_rfl
theorem Ty.ft57 : (ctx Tryd.prog Gt tab).flat 57 = some [.s, .i .i64] := by kernel_rfl
theorem Ty.zr57 : (ctx Tryd.prog Gt tab).zero 57 = some (.v (.agg [.d (.str []), .d (.int .i64 0)])) := by kernel_rfl
theorem Ty.ap57 : (ctx Tryd.prog Gt tab).apz 57 = some (2, 24) := by kernel_rfl
theorem Ty.fd57_0 : fld (ctx Tryd.prog Gt tab) (Tryd.prog.underlying 57) x 0 h = fldV (ctx Tryd.prog Gt tab) 9 0 x h := by kernel_rfl
theorem Ty.fa57_0 : fldA (ctx Tryd.prog Gt tab) (Tryd.prog.underlying 57) x 0 h = fldP 0 1 x h := by kernel_rfl
theorem Ty.fd57_1 : fld (ctx Tryd.prog Gt tab) (Tryd.prog.underlying 57) x 1 h = fldV (ctx Tryd.prog Gt tab) 3 1 x h := by kernel_rfl
theorem Ty.fa57_1 : fldA (ctx Tryd.prog Gt tab) (Tryd.prog.underlying 57) x 1 h = fldP 1 1 x h := by kernel_rfl
theorem Ty.pl57 : (ctx Tryd.prog Gt tab).place 57 = some fun i => [(0, 1), (1, 1)][i]? := by kernel_rfl
theorem Ty.sz59 : (ctx Tryd.prog Gt tab).size 59 = some 3 := by kernel_rfl
theorem Ty.ag59 : (ctx Tryd.prog Gt tab).isAgg 59 = some true := by kernel_rfl
theorem Ty.nf59 : (ctx Tryd.prog Gt tab).isIf 59 = some false := by kernel_rfl
theorem Ty.ft59 : (ctx Tryd.prog Gt tab).flat 59 = some [.i .i64, .i .i64, .i .i64] := by kernel_rfl
theorem Ty.zr59 : (ctx Tryd.prog Gt tab).zero 59 = some (.v (.agg [.d (.int .i64 0), .d (.int .i64 0), .d (.int .i64 0)])) := by kernel_rfl
theorem Ty.ap59 : (ctx Tryd.prog Gt tab).apz 59 = some (3, 24) := by kernel_rfl
theorem Ty.fd59_0 : fld (ctx Tryd.prog Gt tab) (Tryd.prog.underlying 59) x 0 h = fldV (ctx Tryd.prog Gt tab) 3 0 x h := by kernel_rfl
theorem Ty.fa59_0 : fldA (ctx Tryd.prog Gt tab) (Tryd.prog.underlying 59) x 0 h = fldP 0 1 x h := by kernel_rfl
theorem Ty.fd59_1 : fld (ctx Tryd.prog Gt tab) (Tryd.prog.underlying 59) x 1 h = fldV (ctx Tryd.prog Gt tab) 3 1 x h := by kernel_rfl
theorem Ty.fa59_1 : fldA (ctx Tryd.prog Gt tab) (Tryd.prog.underlying 59) x 1 h = fldP 1 1 x h := by kernel_rfl
theorem Ty.fd59_2 : fld (ctx Tryd.prog Gt tab) (Tryd.prog.underlying 59) x 2 h = fldV (ctx Tryd.prog Gt tab) 3 2 x h := by kernel_rfl
theorem Ty.fa59_2 : fldA (ctx Tryd.prog Gt tab) (Tryd.prog.underlying 59) x 2 h = fldP 2 1 x h := by kernel_rfl
theorem Ty.pl59 : (ctx Tryd.prog Gt tab).place 59 = some fun i => [(0, 1), (1, 1), (2, 1)][i]? := by kernel_rfl
theorem Ty.sz71 : (ctx Tryd.prog Gt tab).size 71 = some 1 := by kernel_rfl
theorem Ty.ag71 : (ctx Tryd.prog Gt tab).isAgg 71 = some false := by kernel_rfl
theorem Ty.zr71 : (ctx Tryd.prog Gt tab).zero 71 = some (.v (.c (.d (.sl true [])))) := by kernel_rfl
theorem Ty.ap71 : (ctx Tryd.prog Gt tab).apz 71 = some (1, 24) := by kernel_rfl
theorem Ty.un71 : Tryd.prog.underlying 71 = some (Go.TypeDesc.slice 9) := by kernel_rfl
theorem Ty.sz83 : (ctx Tryd.prog Gt tab).size 83 = some 1 := by kernel_rfl
theorem Ty.ag83 : (ctx Tryd.prog Gt tab).isAgg 83 = some false := by kernel_rfl
theorem Ty.zr83 : (ctx Tryd.prog Gt tab).zero 83 = some (.v (.c (.d (.sl true [])))) := by kernel_rfl
theorem Ty.ap83 : (ctx Tryd.prog Gt tab).apz 83 = some (1, 24) := by kernel_rfl
theorem Ty.un83 : Tryd.prog.underlying 83 = some (Go.TypeDesc.slice 5) := by kernel_rfl
theorem Ty.sz84 : (ctx Tryd.prog Gt tab).size 84 = some 1 := by kernel_rfl
theorem Ty.ag84 : (ctx Tryd.prog Gt tab).isAgg 84 = some false := by kernel_rfl
theorem Ty.pt84 : (ctx Tryd.prog Gt tab).ptT 84 = some true := by kernel_rfl
theorem Ty.zr84 : (ctx Tryd.prog Gt tab).zero 84 = some (.v (.c .nilp)) := by kernel_rfl
theorem Ty.ap84 : (ctx Tryd.prog Gt tab).apz 84 = some (1, 8) := by kernel_rfl
theorem Ty.sz86 : (ctx Tryd.prog Gt tab).size 86 = some 2 := by kernel_rfl
theorem Ty.ag86 : (ctx Tryd.prog Gt tab).isAgg 86 = some true := by kernel_rfl
theorem Ty.nf86 : (ctx Tryd.prog Gt tab).isIf 86 = some false := by kernel_rfl
theorem Ty.zr86 : (ctx Tryd.prog Gt tab).zero 86 = some (.v (.agg [.nilp, .d (.sl true [])])) := by kernel_rfl
theorem Ty.ap86 : (ctx Tryd.prog Gt tab).apz 86 = some (2, 32) := by kernel_rfl
theorem Ty.fd86_0 : fld (ctx Tryd.prog Gt tab) (Tryd.prog.underlying 86) x 0 h = fldV (ctx Tryd.prog Gt tab) 84 0 x h := by kernel_rfl
theorem Ty.fa86_0 : fldA (ctx Tryd.prog Gt tab) (Tryd.prog.underlying 86) x 0 h = fldP 0 1 x h := by kernel_rfl
theorem Ty.fd86_1 : fld (ctx Tryd.prog Gt tab) (Tryd.prog.underlying 86) x 1 h = fldV (ctx Tryd.prog Gt tab) 83 1 x h := by kernel_rfl
theorem Ty.fa86_1 : fldA (ctx Tryd.prog Gt tab) (Tryd.prog.underlying 86) x 1 h = fldP 1 1 x h := by kernel_rfl
theorem Ty.pl86 : (ctx Tryd.prog Gt tab).place 86 = some fun i => [(0, 1), (1, 1)][i]? := by kernel_rfl
theorem Ty.sz95 : (ctx Tryd.prog Gt tab).size 95 = some 1 := by kernel_rfl
theorem Ty.ag95 : (ctx Tryd.prog Gt tab).isAgg 95 = some false := by kernel_rfl
theorem Ty.nf95 : (ctx Tryd.prog Gt tab).isIf 95 = some false := by kernel_rfl
theorem Ty.zr95 : (ctx Tryd.prog Gt tab).zero 95 = some (.v (.c (.d (.int .u64 0)))) := by kernel_rfl
theorem Ty.ap95 : (ctx Tryd.prog Gt tab).apz 95 = some (1, 8) := by kernel_rfl
theorem Ty.un95 : Tryd.prog.underlying 95 = some (Go.TypeDesc.int Go.IntKind.u64) := by kernel_rfl
theorem Ty.sz98 : (ctx Tryd.prog Gt tab).size 98 = some 3 := by kernel_rfl
theorem Ty.ag98 : (ctx Tryd.prog Gt tab).isAgg 98 = some true := by kernel_rfl
theorem Ty.nf98 : (ctx Tryd.prog Gt tab).isIf 98 = some false := by kernel_rfl
theorem Ty.ft98 : (ctx Tryd.prog Gt tab).flat 98 = some [.i .i64, .i .i64, .i .i64] := by kernel_rfl
theorem Ty.zr98 : (ctx Tryd.prog Gt tab).zero 98 = some (.v (.agg [.d (.int .i64 0), .d (.int .i64 0), .d (.int .i64 0)])) := by kernel_rfl
theorem Ty.ap98 : (ctx Tryd.prog Gt tab).apz 98 = some (3, 24) := by kernel_rfl
theorem Ty.fd98_0 : fld (ctx Tryd.prog Gt tab) (Tryd.prog.underlying 98) x 0 h = fldV (ctx Tryd.prog Gt tab) 3 0 x h := by kernel_rfl
theorem Ty.fa98_0 : fldA (ctx Tryd.prog Gt tab) (Tryd.prog.underlying 98) x 0 h = fldP 0 1 x h := by kernel_rfl
theorem Ty.fd98_1 : fld (ctx Tryd.prog Gt tab) (Tryd.prog.underlying 98) x 1 h = fldV (ctx Tryd.prog Gt tab) 3 1 x h := by kernel_rfl
theorem Ty.fa98_1 : fldA (ctx Tryd.prog Gt tab) (Tryd.prog.underlying 98) x 1 h = fldP 1 1 x h := by kernel_rfl
theorem Ty.fd98_2 : fld (ctx Tryd.prog Gt tab) (Tryd.prog.underlying 98) x 2 h = fldV (ctx Tryd.prog Gt tab) 3 2 x h := by kernel_rfl
theorem Ty.fa98_2 : fldA (ctx Tryd.prog Gt tab) (Tryd.prog.underlying 98) x 2 h = fldP 2 1 x h := by kernel_rfl
theorem Ty.pl98 : (ctx Tryd.prog Gt tab).place 98 = some fun i => [(0, 1), (1, 1), (2, 1)][i]? := by kernel_rfl
theorem Ty.sz110 : (ctx Tryd.prog Gt tab).size 110 = some 1 := by kernel_rfl
theorem Ty.ag110 : (ctx Tryd.prog Gt tab).isAgg 110 = some false := by kernel_rfl
theorem Ty.nf110 : (ctx Tryd.prog Gt tab).isIf 110 = some false := by kernel_rfl
theorem Ty.zr110 : (ctx Tryd.prog Gt tab).zero 110 = some (.v (.c (.d (.int .i64 0)))) := by kernel_rfl
theorem Ty.ap110 : (ctx Tryd.prog Gt tab).apz 110 = some (1, 8) := by kernel_rfl
theorem Ty.un110 : Tryd.prog.underlying 110 = some (Go.TypeDesc.int Go.IntKind.i64) := by kernel_rfl
theorem Ty.sz125 : (ctx Tryd.prog Gt tab).size 125 = some 1 := by kernel_rfl
theorem Ty.ag125 : (ctx Tryd.prog Gt tab).isAgg 125 = some false := by kernel_rfl
theorem Ty.nf125 : (ctx Tryd.prog Gt tab).isIf 125 = some false := by kernel_rfl
theorem Ty.zr125 : (ctx Tryd.prog Gt tab).zero 125 = some (.v (.c (.d (.int .u64 0)))) := by kernel_rfl
theorem Ty.ap125 : (ctx Tryd.prog Gt tab).apz 125 = some (1, 8) := by kernel_rfl
theorem Ty.un125 : Tryd.prog.underlying 125 = some (Go.TypeDesc.int Go.IntKind.u64) := by kernel_rfl
theorem Ty.sz129 : (ctx Tryd.prog Gt tab).size 129 = some 1 := by kernel_rfl
theorem Ty.ag129 : (ctx Tryd.prog Gt tab).isAgg 129 = some false := by kernel_rfl
theorem Ty.pt129 : (ctx Tryd.prog Gt tab).ptT 129 = some true := by kernel_rfl
theorem Ty.zr129 : (ctx Tryd.prog Gt tab).zero 129 = some (.v (.c .nilp)) := by kernel_rfl
theorem Ty.ap129 : (ctx Tryd.prog Gt tab).apz 129 = some (1, 8) := by kernel_rfl
end

/-- All of them, for simp. -/
theorem TY : type_of% @Ty.sz3 ∧
  type_of% @Ty.ag3 ∧
  type_of% @Ty.nf3 ∧
  type_of% @Ty.zr3 ∧
  type_of% @Ty.ap3 ∧
  type_of% @Ty.un3 ∧
  type_of% @Ty.sz4 ∧
  type_of% @Ty.ag4 ∧
  type_of% @Ty.zr4 ∧
  type_of% @Ty.ap4 ∧
  type_of% @Ty.un4 ∧
  type_of% @Ty.sz5 ∧
  type_of% @Ty.ag5 ∧
  type_of% @Ty.nf5 ∧
  type_of% @Ty.zr5 ∧
  type_of% @Ty.ap5 ∧
  type_of% @Ty.un5 ∧
  type_of% @Ty.sz9 ∧
  type_of% @Ty.ag9 ∧
  type_of% @Ty.zr9 ∧
  type_of% @Ty.ap9 ∧
  type_of% @Ty.un9 ∧
  type_of% @Ty.sz21 ∧
  type_of% @Ty.ag21 ∧
  type_of% @Ty.nf21 ∧
  type_of% @Ty.zr21 ∧
  type_of% @Ty.ap21 ∧
  type_of% @Ty.un21 ∧
  type_of% @Ty.sz23 ∧
  type_of% @Ty.ag23 ∧
  type_of% @Ty.nf23 ∧
  type_of% @Ty.ft23 ∧
  type_of% @Ty.zr23 ∧
  type_of% @Ty.ap23 ∧
  type_of% @Ty.fd23_0 ∧
  type_of% @Ty.fa23_0 ∧
  type_of% @Ty.fd23_1 ∧
  type_of% @Ty.fa23_1 ∧
  type_of% @Ty.fd23_2 ∧
  type_of% @Ty.fa23_2 ∧
  type_of% @Ty.fd23_3 ∧
  type_of% @Ty.fa23_3 ∧
  type_of% @Ty.fd23_4 ∧
  type_of% @Ty.fa23_4 ∧
  type_of% @Ty.pl23 ∧
  type_of% @Ty.sz24 ∧
  type_of% @Ty.ag24 ∧
  type_of% @Ty.zr24 ∧
  type_of% @Ty.ap24 ∧
  type_of% @Ty.un24 ∧
  type_of% @Ty.sz28 ∧
  type_of% @Ty.ag28 ∧
  type_of% @Ty.nf28 ∧
  type_of% @Ty.zr28 ∧
  type_of% @Ty.ap28 ∧
  type_of% @Ty.un28 ∧
  type_of% @Ty.sz33 ∧
  type_of% @Ty.ag33 ∧
  type_of% @Ty.zr33 ∧
  type_of% @Ty.ap33 ∧
  type_of% @Ty.un33 ∧
  type_of% @Ty.sz37 ∧
  type_of% @Ty.ag37 ∧
  type_of% @Ty.zr37 ∧
  type_of% @Ty.ap37 ∧
  type_of% @Ty.un37 ∧
  type_of% @Ty.sz38 ∧
  type_of% @Ty.ag38 ∧
  type_of% @Ty.zr38 ∧
  type_of% @Ty.ap38 ∧
  type_of% @Ty.un38 ∧
  type_of% @Ty.sz40 ∧
  type_of% @Ty.ag40 ∧
  type_of% @Ty.nf40 ∧
  type_of% @Ty.zr40 ∧
  type_of% @Ty.ap40 ∧
  type_of% @Ty.fd40_0 ∧
  type_of% @Ty.fa40_0 ∧
  type_of% @Ty.fd40_1 ∧
  type_of% @Ty.fa40_1 ∧
  type_of% @Ty.fd40_2 ∧
  type_of% @Ty.fa40_2 ∧
  type_of% @Ty.fd40_3 ∧
  type_of% @Ty.fa40_3 ∧
  type_of% @Ty.fd40_4 ∧
  type_of% @Ty.fa40_4 ∧
  type_of% @Ty.fd40_5 ∧
  type_of% @Ty.fa40_5 ∧
  type_of% @Ty.fd40_6 ∧
  type_of% @Ty.fa40_6 ∧
  type_of% @Ty.pl40 ∧
  type_of% @Ty.sz41 ∧
  type_of% @Ty.ag41 ∧
  type_of% @Ty.zr41 ∧
  type_of% @Ty.ap41 ∧
  type_of% @Ty.un41 ∧
  type_of% @Ty.sz43 ∧
  type_of% @Ty.ag43 ∧
  type_of% @Ty.nf43 ∧
  type_of% @Ty.zr43 ∧
  type_of% @Ty.ap43 ∧
  type_of% @Ty.fd43_0 ∧
  type_of% @Ty.fa43_0 ∧
  type_of% @Ty.fd43_1 ∧
  type_of% @Ty.fa43_1 ∧
  type_of% @Ty.fd43_2 ∧
  type_of% @Ty.fa43_2 ∧
  type_of% @Ty.fd43_3 ∧
  type_of% @Ty.fa43_3 ∧
  type_of% @Ty.fd43_4 ∧
  type_of% @Ty.fa43_4 ∧
  type_of% @Ty.fd43_5 ∧
  type_of% @Ty.fa43_5 ∧
  type_of% @Ty.fd43_6 ∧
  type_of% @Ty.fa43_6 ∧
  type_of% @Ty.pl43 ∧
  type_of% @Ty.sz45 ∧
  type_of% @Ty.ag45 ∧
  type_of% @Ty.nf45 ∧
  type_of% @Ty.ft45 ∧
  type_of% @Ty.zr45 ∧
  type_of% @Ty.ap45 ∧
  type_of% @Ty.fd45_0 ∧
  type_of% @Ty.fa45_0 ∧
  type_of% @Ty.fd45_1 ∧
  type_of% @Ty.fa45_1 ∧
  type_of% @Ty.pl45 ∧
  type_of% @Ty.sz48 ∧
  type_of% @Ty.ag48 ∧
  type_of% @Ty.zr48 ∧
  type_of% @Ty.ap48 ∧
  type_of% @Ty.un48 ∧
  type_of% @Ty.sz49 ∧
  type_of% @Ty.ag49 ∧
  type_of% @Ty.zr49 ∧
  type_of% @Ty.ap49 ∧
  type_of% @Ty.un49 ∧
  type_of% @Ty.sz57 ∧
  type_of% @Ty.ag57 ∧
  type_of% @Ty.nf57 ∧
  type_of% @Ty.ft57 ∧
  type_of% @Ty.zr57 ∧
  type_of% @Ty.ap57 ∧
  type_of% @Ty.fd57_0 ∧
  type_of% @Ty.fa57_0 ∧
  type_of% @Ty.fd57_1 ∧
  type_of% @Ty.fa57_1 ∧
  type_of% @Ty.pl57 ∧
  type_of% @Ty.sz59 ∧
  type_of% @Ty.ag59 ∧
  type_of% @Ty.nf59 ∧
  type_of% @Ty.ft59 ∧
  type_of% @Ty.zr59 ∧
  type_of% @Ty.ap59 ∧
  type_of% @Ty.fd59_0 ∧
  type_of% @Ty.fa59_0 ∧
  type_of% @Ty.fd59_1 ∧
  type_of% @Ty.fa59_1 ∧
  type_of% @Ty.fd59_2 ∧
  type_of% @Ty.fa59_2 ∧
  type_of% @Ty.pl59 ∧
  type_of% @Ty.sz71 ∧
  type_of% @Ty.ag71 ∧
  type_of% @Ty.zr71 ∧
  type_of% @Ty.ap71 ∧
  type_of% @Ty.un71 ∧
  type_of% @Ty.sz83 ∧
  type_of% @Ty.ag83 ∧
  type_of% @Ty.zr83 ∧
  type_of% @Ty.ap83 ∧
  type_of% @Ty.un83 ∧
  type_of% @Ty.sz84 ∧
  type_of% @Ty.ag84 ∧
  type_of% @Ty.pt84 ∧
  type_of% @Ty.zr84 ∧
  type_of% @Ty.ap84 ∧
  type_of% @Ty.sz86 ∧
  type_of% @Ty.ag86 ∧
  type_of% @Ty.nf86 ∧
  type_of% @Ty.zr86 ∧
  type_of% @Ty.ap86 ∧
  type_of% @Ty.fd86_0 ∧
  type_of% @Ty.fa86_0 ∧
  type_of% @Ty.fd86_1 ∧
  type_of% @Ty.fa86_1 ∧
  type_of% @Ty.pl86 ∧
  type_of% @Ty.sz95 ∧
  type_of% @Ty.ag95 ∧
  type_of% @Ty.nf95 ∧
  type_of% @Ty.zr95 ∧
  type_of% @Ty.ap95 ∧
  type_of% @Ty.un95 ∧
  type_of% @Ty.sz98 ∧
  type_of% @Ty.ag98 ∧
  type_of% @Ty.nf98 ∧
  type_of% @Ty.ft98 ∧
  type_of% @Ty.zr98 ∧
  type_of% @Ty.ap98 ∧
  type_of% @Ty.fd98_0 ∧
  type_of% @Ty.fa98_0 ∧
  type_of% @Ty.fd98_1 ∧
  type_of% @Ty.fa98_1 ∧
  type_of% @Ty.fd98_2 ∧
  type_of% @Ty.fa98_2 ∧
  type_of% @Ty.pl98 ∧
  type_of% @Ty.sz110 ∧
  type_of% @Ty.ag110 ∧
  type_of% @Ty.nf110 ∧
  type_of% @Ty.zr110 ∧
  type_of% @Ty.ap110 ∧
  type_of% @Ty.un110 ∧
  type_of% @Ty.sz125 ∧
  type_of% @Ty.ag125 ∧
  type_of% @Ty.nf125 ∧
  type_of% @Ty.zr125 ∧
  type_of% @Ty.ap125 ∧
  type_of% @Ty.un125 ∧
  type_of% @Ty.sz129 ∧
  type_of% @Ty.ag129 ∧
  type_of% @Ty.pt129 ∧
  type_of% @Ty.zr129 ∧
  type_of% @Ty.ap129 :=
  ⟨@Ty.sz3, @Ty.ag3, @Ty.nf3, @Ty.zr3, @Ty.ap3, @Ty.un3, @Ty.sz4, @Ty.ag4, @Ty.zr4, @Ty.ap4, @Ty.un4, @Ty.sz5, @Ty.ag5, @Ty.nf5, @Ty.zr5, @Ty.ap5, @Ty.un5, @Ty.sz9, @Ty.ag9, @Ty.zr9, @Ty.ap9, @Ty.un9, @Ty.sz21, @Ty.ag21, @Ty.nf21, @Ty.zr21, @Ty.ap21, @Ty.un21, @Ty.sz23, @Ty.ag23, @Ty.nf23, @Ty.ft23, @Ty.zr23, @Ty.ap23, @Ty.fd23_0, @Ty.fa23_0, @Ty.fd23_1, @Ty.fa23_1, @Ty.fd23_2, @Ty.fa23_2, @Ty.fd23_3, @Ty.fa23_3, @Ty.fd23_4, @Ty.fa23_4, @Ty.pl23, @Ty.sz24, @Ty.ag24, @Ty.zr24, @Ty.ap24, @Ty.un24, @Ty.sz28, @Ty.ag28, @Ty.nf28, @Ty.zr28, @Ty.ap28, @Ty.un28, @Ty.sz33, @Ty.ag33, @Ty.zr33, @Ty.ap33, @Ty.un33, @Ty.sz37, @Ty.ag37, @Ty.zr37, @Ty.ap37, @Ty.un37, @Ty.sz38, @Ty.ag38, @Ty.zr38, @Ty.ap38, @Ty.un38, @Ty.sz40, @Ty.ag40, @Ty.nf40, @Ty.zr40, @Ty.ap40, @Ty.fd40_0, @Ty.fa40_0, @Ty.fd40_1, @Ty.fa40_1, @Ty.fd40_2, @Ty.fa40_2, @Ty.fd40_3, @Ty.fa40_3, @Ty.fd40_4, @Ty.fa40_4, @Ty.fd40_5, @Ty.fa40_5, @Ty.fd40_6, @Ty.fa40_6, @Ty.pl40, @Ty.sz41, @Ty.ag41, @Ty.zr41, @Ty.ap41, @Ty.un41, @Ty.sz43, @Ty.ag43, @Ty.nf43, @Ty.zr43, @Ty.ap43, @Ty.fd43_0, @Ty.fa43_0, @Ty.fd43_1, @Ty.fa43_1, @Ty.fd43_2, @Ty.fa43_2, @Ty.fd43_3, @Ty.fa43_3, @Ty.fd43_4, @Ty.fa43_4, @Ty.fd43_5, @Ty.fa43_5, @Ty.fd43_6, @Ty.fa43_6, @Ty.pl43, @Ty.sz45, @Ty.ag45, @Ty.nf45, @Ty.ft45, @Ty.zr45, @Ty.ap45, @Ty.fd45_0, @Ty.fa45_0, @Ty.fd45_1, @Ty.fa45_1, @Ty.pl45, @Ty.sz48, @Ty.ag48, @Ty.zr48, @Ty.ap48, @Ty.un48, @Ty.sz49, @Ty.ag49, @Ty.zr49, @Ty.ap49, @Ty.un49, @Ty.sz57, @Ty.ag57, @Ty.nf57, @Ty.ft57, @Ty.zr57, @Ty.ap57, @Ty.fd57_0, @Ty.fa57_0, @Ty.fd57_1, @Ty.fa57_1, @Ty.pl57, @Ty.sz59, @Ty.ag59, @Ty.nf59, @Ty.ft59, @Ty.zr59, @Ty.ap59, @Ty.fd59_0, @Ty.fa59_0, @Ty.fd59_1, @Ty.fa59_1, @Ty.fd59_2, @Ty.fa59_2, @Ty.pl59, @Ty.sz71, @Ty.ag71, @Ty.zr71, @Ty.ap71, @Ty.un71, @Ty.sz83, @Ty.ag83, @Ty.zr83, @Ty.ap83, @Ty.un83, @Ty.sz84, @Ty.ag84, @Ty.pt84, @Ty.zr84, @Ty.ap84, @Ty.sz86, @Ty.ag86, @Ty.nf86, @Ty.zr86, @Ty.ap86, @Ty.fd86_0, @Ty.fa86_0, @Ty.fd86_1, @Ty.fa86_1, @Ty.pl86, @Ty.sz95, @Ty.ag95, @Ty.nf95, @Ty.zr95, @Ty.ap95, @Ty.un95, @Ty.sz98, @Ty.ag98, @Ty.nf98, @Ty.ft98, @Ty.zr98, @Ty.ap98, @Ty.fd98_0, @Ty.fa98_0, @Ty.fd98_1, @Ty.fa98_1, @Ty.fd98_2, @Ty.fa98_2, @Ty.pl98, @Ty.sz110, @Ty.ag110, @Ty.nf110, @Ty.zr110, @Ty.ap110, @Ty.un110, @Ty.sz125, @Ty.ag125, @Ty.nf125, @Ty.zr125, @Ty.ap125, @Ty.un125, @Ty.sz129, @Ty.ag129, @Ty.pt129, @Ty.zr129, @Ty.ap129⟩

end Go.Ab
