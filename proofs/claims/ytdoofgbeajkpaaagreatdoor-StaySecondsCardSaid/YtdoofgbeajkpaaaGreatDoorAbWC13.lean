/-
  Texts of the layer and of the laws, put together: AbT.
-/
import Derived.Test.YtdoofgbeajkpaaaGreatDoorChecked
import Derived.Test.YtdoofgbeajkpaaaGreatDoorAbWC12
import Derived.KernelRfl
set_option linter.unusedSimpArgs false
set_option linter.unusedVariables false
set_option maxRecDepth 100000
set_option maxRecDepth 200000
namespace Go.Ab
open Go.RowKit Go.Proofs
section
variable {tab : Tab} {x : AV} {h : Hp}
theorem Ty.sz3 : (ctx Tryz.prog Gt tab).size 3 = some 1 := by kernel_rfl
theorem Ty.ag3 : (ctx Tryz.prog Gt tab).isAgg 3 = some false := by kernel_rfl
theorem Ty.nf3 : (ctx Tryz.prog Gt tab).isIf 3 = some false := by kernel_rfl
theorem Ty.zr3 : (ctx Tryz.prog Gt tab).zero 3 = some (.v (.c (.d (.int .i64 0)))) := by kernel_rfl
theorem Ty.ap3 : (ctx Tryz.prog Gt tab).apz 3 = some (1, 8) := by kernel_rfl
theorem Ty.un3 : Tryz.prog.underlying 3 = some (Go.TypeDesc.int Go.IntKind.i64) := by kernel_rfl
theorem Ty.sz4 : (ctx Tryz.prog Gt tab).size 4 = some 1 := by kernel_rfl
theorem Ty.ag4 : (ctx Tryz.prog Gt tab).isAgg 4 = some false := by kernel_rfl
theorem Ty.zr4 : (ctx Tryz.prog Gt tab).zero 4 = some (.v (.c (.d (.bool false)))) := by kernel_rfl
theorem Ty.ap4 : (ctx Tryz.prog Gt tab).apz 4 = some (1, 1) := by kernel_rfl
theorem Ty.un4 : Tryz.prog.underlying 4 = some Go.TypeDesc.bool := by kernel_rfl
theorem Ty.sz5 : (ctx Tryz.prog Gt tab).size 5 = some 1 := by kernel_rfl
theorem Ty.ag5 : (ctx Tryz.prog Gt tab).isAgg 5 = some false := by kernel_rfl
theorem Ty.nf5 : (ctx Tryz.prog Gt tab).isIf 5 = some false := by kernel_rfl
theorem Ty.zr5 : (ctx Tryz.prog Gt tab).zero 5 = some (.v (.c (.d (.int .u8 0)))) := by kernel_rfl
theorem Ty.ap5 : (ctx Tryz.prog Gt tab).apz 5 = some (1, 1) := by kernel_rfl
theorem Ty.un5 : Tryz.prog.underlying 5 = some (Go.TypeDesc.int Go.IntKind.u8) := by kernel_rfl
theorem Ty.sz9 : (ctx Tryz.prog Gt tab).size 9 = some 1 := by kernel_rfl
theorem Ty.ag9 : (ctx Tryz.prog Gt tab).isAgg 9 = some false := by kernel_rfl
theorem Ty.zr9 : (ctx Tryz.prog Gt tab).zero 9 = some (.v (.c (.d (.str [])))) := by kernel_rfl
theorem Ty.ap9 : (ctx Tryz.prog Gt tab).apz 9 = some (1, 16) := by kernel_rfl
theorem Ty.un9 : Tryz.prog.underlying 9 = some Go.TypeDesc.string := by kernel_rfl
theorem Ty.sz21 : (ctx Tryz.prog Gt tab).size 21 = some 1 := by kernel_rfl
theorem Ty.ag21 : (ctx Tryz.prog Gt tab).isAgg 21 = some false := by kernel_rfl
theorem Ty.nf21 : (ctx Tryz.prog Gt tab).isIf 21 = some false := by kernel_rfl
theorem Ty.zr21 : (ctx Tryz.prog Gt tab).zero 21 = some (.v (.c (.d (.int .i32 0)))) := by kernel_rfl
theorem Ty.ap21 : (ctx Tryz.prog Gt tab).apz 21 = some (1, 4) := by kernel_rfl
theorem Ty.un21 : Tryz.prog.underlying 21 = some (Go.TypeDesc.int Go.IntKind.i32) := by kernel_rfl
theorem Ty.sz22 : (ctx Tryz.prog Gt tab).size 22 = some 1 := by kernel_rfl
theorem Ty.ag22 : (ctx Tryz.prog Gt tab).isAgg 22 = some false := by kernel_rfl
theorem Ty.zr22 : (ctx Tryz.prog Gt tab).zero 22 = some (.v (.c (.d (.sl true [])))) := by kernel_rfl
theorem Ty.ap22 : (ctx Tryz.prog Gt tab).apz 22 = some (1, 24) := by kernel_rfl
theorem Ty.un22 : Tryz.prog.underlying 22 = some (Go.TypeDesc.slice 41) := by kernel_rfl
theorem Ty.sz23 : (ctx Tryz.prog Gt tab).size 23 = some 1 := by kernel_rfl
theorem Ty.ag23 : (ctx Tryz.prog Gt tab).isAgg 23 = some false := by kernel_rfl
theorem Ty.zr23 : (ctx Tryz.prog Gt tab).zero 23 = some (.v (.c (.d (.sl true [])))) := by kernel_rfl
theorem Ty.ap23 : (ctx Tryz.prog Gt tab).apz 23 = some (1, 24) := by kernel_rfl
theorem Ty.un23 : Tryz.prog.underlying 23 = some (Go.TypeDesc.slice 51) := by kernel_rfl
theorem Ty.sz24 : (ctx Tryz.prog Gt tab).size 24 = some 1 := by kernel_rfl
theorem Ty.ag24 : (ctx Tryz.prog Gt tab).isAgg 24 = some false := by kernel_rfl
theorem Ty.zr24 : (ctx Tryz.prog Gt tab).zero 24 = some (.v (.c (.d (.sl true [])))) := by kernel_rfl
theorem Ty.ap24 : (ctx Tryz.prog Gt tab).apz 24 = some (1, 24) := by kernel_rfl
theorem Ty.un24 : Tryz.prog.underlying 24 = some (Go.TypeDesc.slice 79) := by kernel_rfl
theorem Ty.sz27 : (ctx Tryz.prog Gt tab).size 27 = some 1 := by kernel_rfl
theorem Ty.ag27 : (ctx Tryz.prog Gt tab).isAgg 27 = some false := by kernel_rfl
theorem Ty.zr27 : (ctx Tryz.prog Gt tab).zero 27 = some (.v (.c (.d (.sl true [])))) := by kernel_rfl
theorem Ty.ap27 : (ctx Tryz.prog Gt tab).apz 27 = some (1, 24) := by kernel_rfl
theorem Ty.un27 : Tryz.prog.underlying 27 = some (Go.TypeDesc.slice 48) := by kernel_rfl
theorem Ty.sz28 : (ctx Tryz.prog Gt tab).size 28 = some 1 := by kernel_rfl
theorem Ty.ag28 : (ctx Tryz.prog Gt tab).isAgg 28 = some false := by kernel_rfl
theorem Ty.zr28 : (ctx Tryz.prog Gt tab).zero 28 = some (.v (.c (.d (.sl true [])))) := by kernel_rfl
theorem Ty.ap28 : (ctx Tryz.prog Gt tab).apz 28 = some (1, 24) := by kernel_rfl
theorem Ty.un28 : Tryz.prog.underlying 28 = some (Go.TypeDesc.slice 93) := by kernel_rfl
theorem Ty.sz31 : (ctx Tryz.prog Gt tab).size 31 = some 1 := by kernel_rfl
theorem Ty.ag31 : (ctx Tryz.prog Gt tab).isAgg 31 = some false := by kernel_rfl
theorem Ty.zr31 : (ctx Tryz.prog Gt tab).zero 31 = some (.v (.c (.d (.sl true [])))) := by kernel_rfl
theorem Ty.ap31 : (ctx Tryz.prog Gt tab).apz 31 = some (1, 24) := by kernel_rfl
theorem Ty.un31 : Tryz.prog.underlying 31 = some (Go.TypeDesc.slice 37) := by kernel_rfl
theorem Ty.sz35 : (ctx Tryz.prog Gt tab).size 35 = some 2 := by kernel_rfl
theorem Ty.ag35 : (ctx Tryz.prog Gt tab).isAgg 35 = some true := by kernel_rfl
theorem Ty.nf35 : (ctx Tryz.prog Gt tab).isIf 35 = some false := by kernel_rfl
theorem Ty.ft35 : (ctx Tryz.prog Gt tab).flat 35 = some [.i .i64, .i .i64] := by kernel_rfl
theorem Ty.zr35 : (ctx Tryz.prog Gt tab).zero 35 = some (.v (.agg [.d (.int .i64 0), .d (.int .i64 0)])) := by kernel_rfl
theorem Ty.ap35 : (ctx Tryz.prog Gt tab).apz 35 = some (2, 16) := by kernel_rfl
theorem Ty.fd35_0 : fld (ctx Tryz.prog Gt tab) (Tryz.prog.underlying 35) x 0 h = fldV (ctx Tryz.prog Gt tab) 3 0 x h := by kernel_rfl
theorem Ty.fa35_0 : fldA (ctx Tryz.prog Gt tab) (Tryz.prog.underlying 35) x 0 h = fldP 0 1 x h := by kernel_rfl
theorem Ty.fd35_1 : fld (ctx Tryz.prog Gt tab) (Tryz.prog.underlying 35) x 1 h = fldV (ctx Tryz.prog Gt tab) 3 1 x h := by kernel_rfl
theorem Ty.fa35_1 : fldA (ctx Tryz.prog Gt tab) (Tryz.prog.underlying 35) x 1 h = fldP 1 1 x h := by kernel_rfl
theorem Ty.pl35 : (ctx Tryz.prog Gt tab).place 35 = some fun i => [(0, 1), (1, 1)][i]? := by kernel_rfl
theorem Ty.sz37 : (ctx Tryz.prog Gt tab).size 37 = some 5 := by kernel_rfl
theorem Ty.ag37 : (ctx Tryz.prog Gt tab).isAgg 37 = some true := by kernel_rfl
theorem Ty.nf37 : (ctx Tryz.prog Gt tab).isIf 37 = some false := by kernel_rfl
theorem Ty.ft37 : (ctx Tryz.prog Gt tab).flat 37 = some [.s, .s, .s, .i .i64, .i .i64] := by kernel_rfl
theorem Ty.zr37 : (ctx Tryz.prog Gt tab).zero 37 = some (.v (.agg [.d (.str []), .d (.str []), .d (.str []), .d (.int .i64 0), .d (.int .i64 0)])) := by kernel_rfl
theorem Ty.ap37 : (ctx Tryz.prog Gt tab).apz 37 = some (5, 64) := by kernel_rfl
theorem Ty.fd37_0 : fld (ctx Tryz.prog Gt tab) (Tryz.prog.underlying 37) x 0 h = fldV (ctx Tryz.prog Gt tab) 9 0 x h := by kernel_rfl
theorem Ty.fa37_0 : fldA (ctx Tryz.prog Gt tab) (Tryz.prog.underlying 37) x 0 h = fldP 0 1 x h := by kernel_rfl
theorem Ty.fd37_1 : fld (ctx Tryz.prog Gt tab) (Tryz.prog.underlying 37) x 1 h = fldV (ctx Tryz.prog Gt tab) 9 1 x h := by kernel_rfl
theorem Ty.fa37_1 : fldA (ctx Tryz.prog Gt tab) (Tryz.prog.underlying 37) x 1 h = fldP 1 1 x h := by kernel_rfl
theorem Ty.fd37_2 : fld (ctx Tryz.prog Gt tab) (Tryz.prog.underlying 37) x 2 h = fldV (ctx Tryz.prog Gt tab) 9 2 x h := by kernel_rfl
theorem Ty.fa37_2 : fldA (ctx Tryz.prog Gt tab) (Tryz.prog.underlying 37) x 2 h = fldP 2 1 x h := by kernel_rfl
theorem Ty.fd37_3 : fld (ctx Tryz.prog Gt tab) (Tryz.prog.underlying 37) x 3 h = fldV (ctx Tryz.prog Gt tab) 35 3 x h := by kernel_rfl
theorem Ty.fa37_3 : fldA (ctx Tryz.prog Gt tab) (Tryz.prog.underlying 37) x 3 h = fldP 3 2 x h := by kernel_rfl
theorem Ty.pl37 : (ctx Tryz.prog Gt tab).place 37 = some fun i => [(0, 1), (1, 1), (2, 1), (3, 2)][i]? := by kernel_rfl
theorem Ty.sz38 : (ctx Tryz.prog Gt tab).size 38 = some 1 := by kernel_rfl
theorem Ty.ag38 : (ctx Tryz.prog Gt tab).isAgg 38 = some false := by kernel_rfl
theorem Ty.zr38 : (ctx Tryz.prog Gt tab).zero 38 = some (.v (.c (.d (.sl true [])))) := by kernel_rfl
theorem Ty.ap38 : (ctx Tryz.prog Gt tab).apz 38 = some (1, 24) := by kernel_rfl
theorem Ty.un38 : Tryz.prog.underlying 38 = some (Go.TypeDesc.slice 108) := by kernel_rfl
theorem Ty.sz39 : (ctx Tryz.prog Gt tab).size 39 = some 1 := by kernel_rfl
theorem Ty.ag39 : (ctx Tryz.prog Gt tab).isAgg 39 = some false := by kernel_rfl
theorem Ty.zr39 : (ctx Tryz.prog Gt tab).zero 39 = some (.v (.c (.d (.sl true [])))) := by kernel_rfl
theorem Ty.ap39 : (ctx Tryz.prog Gt tab).apz 39 = some (1, 24) := by kernel_rfl
theorem Ty.un39 : Tryz.prog.underlying 39 = some (Go.TypeDesc.slice 87) := by kernel_rfl
theorem Ty.sz41 : (ctx Tryz.prog Gt tab).size 41 = some 7 := by kernel_rfl
theorem Ty.ag41 : (ctx Tryz.prog Gt tab).isAgg 41 = some true := by kernel_rfl
theorem Ty.nf41 : (ctx Tryz.prog Gt tab).isIf 41 = some false := by kernel_rfl
theorem Ty.zr41 : (ctx Tryz.prog Gt tab).zero 41 = some (.v (.agg [.d (.str []), .d (.sl true []), .d (.sl true []), .d (.int .i64 0), .d (.int .i64 0), .d (.int .i64 0), .d (.int .i64 0)])) := by kernel_rfl
theorem Ty.ap41 : (ctx Tryz.prog Gt tab).apz 41 = some (7, 96) := by kernel_rfl
theorem Ty.fd41_0 : fld (ctx Tryz.prog Gt tab) (Tryz.prog.underlying 41) x 0 h = fldV (ctx Tryz.prog Gt tab) 9 0 x h := by kernel_rfl
theorem Ty.fa41_0 : fldA (ctx Tryz.prog Gt tab) (Tryz.prog.underlying 41) x 0 h = fldP 0 1 x h := by kernel_rfl
theorem Ty.fd41_1 : fld (ctx Tryz.prog Gt tab) (Tryz.prog.underlying 41) x 1 h = fldV (ctx Tryz.prog Gt tab) 38 1 x h := by kernel_rfl
theorem Ty.fa41_1 : fldA (ctx Tryz.prog Gt tab) (Tryz.prog.underlying 41) x 1 h = fldP 1 1 x h := by kernel_rfl
theorem Ty.fd41_2 : fld (ctx Tryz.prog Gt tab) (Tryz.prog.underlying 41) x 2 h = fldV (ctx Tryz.prog Gt tab) 39 2 x h := by kernel_rfl
theorem Ty.fa41_2 : fldA (ctx Tryz.prog Gt tab) (Tryz.prog.underlying 41) x 2 h = fldP 2 1 x h := by kernel_rfl
theorem Ty.fd41_3 : fld (ctx Tryz.prog Gt tab) (Tryz.prog.underlying 41) x 3 h = fldV (ctx Tryz.prog Gt tab) 3 3 x h := by kernel_rfl
theorem Ty.fa41_3 : fldA (ctx Tryz.prog Gt tab) (Tryz.prog.underlying 41) x 3 h = fldP 3 1 x h := by kernel_rfl
theorem Ty.fd41_4 : fld (ctx Tryz.prog Gt tab) (Tryz.prog.underlying 41) x 4 h = fldV (ctx Tryz.prog Gt tab) 3 4 x h := by kernel_rfl
theorem Ty.fa41_4 : fldA (ctx Tryz.prog Gt tab) (Tryz.prog.underlying 41) x 4 h = fldP 4 1 x h := by kernel_rfl
theorem Ty.fd41_5 : fld (ctx Tryz.prog Gt tab) (Tryz.prog.underlying 41) x 5 h = fldV (ctx Tryz.prog Gt tab) 3 5 x h := by kernel_rfl
theorem Ty.fa41_5 : fldA (ctx Tryz.prog Gt tab) (Tryz.prog.underlying 41) x 5 h = fldP 5 1 x h := by kernel_rfl
theorem Ty.fd41_6 : fld (ctx Tryz.prog Gt tab) (Tryz.prog.underlying 41) x 6 h = fldV (ctx Tryz.prog Gt tab) 3 6 x h := by kernel_rfl
theorem Ty.fa41_6 : fldA (ctx Tryz.prog Gt tab) (Tryz.prog.underlying 41) x 6 h = fldP 6 1 x h := by kernel_rfl
theorem Ty.pl41 : (ctx Tryz.prog Gt tab).place 41 = some fun i => [(0, 1), (1, 1), (2, 1), (3, 1), (4, 1), (5, 1), (6, 1)][i]? := by kernel_rfl
theorem Ty.sz46 : (ctx Tryz.prog Gt tab).size 46 = some 1 := by kernel_rfl
theorem Ty.ag46 : (ctx Tryz.prog Gt tab).isAgg 46 = some false := by kernel_rfl
theorem Ty.zr46 : (ctx Tryz.prog Gt tab).zero 46 = some (.v (.c (.d (.sl true [])))) := by kernel_rfl
theorem Ty.ap46 : (ctx Tryz.prog Gt tab).apz 46 = some (1, 24) := by kernel_rfl
theorem Ty.un46 : Tryz.prog.underlying 46 = some (Go.TypeDesc.slice 3) := by kernel_rfl
theorem Ty.sz48 : (ctx Tryz.prog Gt tab).size 48 = some 7 := by kernel_rfl
theorem Ty.ag48 : (ctx Tryz.prog Gt tab).isAgg 48 = some true := by kernel_rfl
theorem Ty.nf48 : (ctx Tryz.prog Gt tab).isIf 48 = some false := by kernel_rfl
theorem Ty.zr48 : (ctx Tryz.prog Gt tab).zero 48 = some (.v (.agg [.d (.str []), .d (.str []), .d (.str []), .d (.int .i64 0), .d (.int .i64 0), .d (.int .i64 0), .d (.sl true [])])) := by kernel_rfl
theorem Ty.ap48 : (ctx Tryz.prog Gt tab).apz 48 = some (7, 96) := by kernel_rfl
theorem Ty.fd48_0 : fld (ctx Tryz.prog Gt tab) (Tryz.prog.underlying 48) x 0 h = fldV (ctx Tryz.prog Gt tab) 9 0 x h := by kernel_rfl
theorem Ty.fa48_0 : fldA (ctx Tryz.prog Gt tab) (Tryz.prog.underlying 48) x 0 h = fldP 0 1 x h := by kernel_rfl
theorem Ty.fd48_1 : fld (ctx Tryz.prog Gt tab) (Tryz.prog.underlying 48) x 1 h = fldV (ctx Tryz.prog Gt tab) 9 1 x h := by kernel_rfl
theorem Ty.fa48_1 : fldA (ctx Tryz.prog Gt tab) (Tryz.prog.underlying 48) x 1 h = fldP 1 1 x h := by kernel_rfl
theorem Ty.fd48_2 : fld (ctx Tryz.prog Gt tab) (Tryz.prog.underlying 48) x 2 h = fldV (ctx Tryz.prog Gt tab) 9 2 x h := by kernel_rfl
theorem Ty.fa48_2 : fldA (ctx Tryz.prog Gt tab) (Tryz.prog.underlying 48) x 2 h = fldP 2 1 x h := by kernel_rfl
theorem Ty.fd48_3 : fld (ctx Tryz.prog Gt tab) (Tryz.prog.underlying 48) x 3 h = fldV (ctx Tryz.prog Gt tab) 3 3 x h := by kernel_rfl
theorem Ty.fa48_3 : fldA (ctx Tryz.prog Gt tab) (Tryz.prog.underlying 48) x 3 h = fldP 3 1 x h := by kernel_rfl
theorem Ty.fd48_4 : fld (ctx Tryz.prog Gt tab) (Tryz.prog.underlying 48) x 4 h = fldV (ctx Tryz.prog Gt tab) 3 4 x h := by kernel_rfl
theorem Ty.fa48_4 : fldA (ctx Tryz.prog Gt tab) (Tryz.prog.underlying 48) x 4 h = fldP 4 1 x h := by kernel_rfl
theorem Ty.fd48_5 : fld (ctx Tryz.prog Gt tab) (Tryz.prog.underlying 48) x 5 h = fldV (ctx Tryz.prog Gt tab) 3 5 x h := by kernel_rfl
theorem Ty.fa48_5 : fldA (ctx Tryz.prog Gt tab) (Tryz.prog.underlying 48) x 5 h = fldP 5 1 x h := by kernel_rfl
theorem Ty.fd48_6 : fld (ctx Tryz.prog Gt tab) (Tryz.prog.underlying 48) x 6 h = fldV (ctx Tryz.prog Gt tab) 46 6 x h := by kernel_rfl
theorem Ty.fa48_6 : fldA (ctx Tryz.prog Gt tab) (Tryz.prog.underlying 48) x 6 h = fldP 6 1 x h := by kernel_rfl
theorem Ty.pl48 : (ctx Tryz.prog Gt tab).place 48 = some fun i => [(0, 1), (1, 1), (2, 1), (3, 1), (4, 1), (5, 1), (6, 1)][i]? := by kernel_rfl
theorem Ty.sz49 : (ctx Tryz.prog Gt tab).size 49 = some 1 := by kernel_rfl
theorem Ty.ag49 : (ctx Tryz.prog Gt tab).isAgg 49 = some false := by kernel_rfl
theorem Ty.zr49 : (ctx Tryz.prog Gt tab).zero 49 = some (.v (.c (.d (.sl true [])))) := by kernel_rfl
theorem Ty.ap49 : (ctx Tryz.prog Gt tab).apz 49 = some (1, 24) := by kernel_rfl
theorem Ty.un49 : Tryz.prog.underlying 49 = some (Go.TypeDesc.slice 9) := by kernel_rfl
theorem Ty.sz51 : (ctx Tryz.prog Gt tab).size 51 = some 7 := by kernel_rfl
theorem Ty.ag51 : (ctx Tryz.prog Gt tab).isAgg 51 = some true := by kernel_rfl
theorem Ty.nf51 : (ctx Tryz.prog Gt tab).isIf 51 = some false := by kernel_rfl
theorem Ty.zr51 : (ctx Tryz.prog Gt tab).zero 51 = some (.v (.agg [.d (.str []), .d (.str []), .d (.sl true []), .d (.int .i64 0), .d (.int .i64 0), .d (.sl true []), .d (.int .i64 0)])) := by kernel_rfl
theorem Ty.ap51 : (ctx Tryz.prog Gt tab).apz 51 = some (7, 104) := by kernel_rfl
theorem Ty.fd51_0 : fld (ctx Tryz.prog Gt tab) (Tryz.prog.underlying 51) x 0 h = fldV (ctx Tryz.prog Gt tab) 9 0 x h := by kernel_rfl
theorem Ty.fa51_0 : fldA (ctx Tryz.prog Gt tab) (Tryz.prog.underlying 51) x 0 h = fldP 0 1 x h := by kernel_rfl
theorem Ty.fd51_1 : fld (ctx Tryz.prog Gt tab) (Tryz.prog.underlying 51) x 1 h = fldV (ctx Tryz.prog Gt tab) 9 1 x h := by kernel_rfl
theorem Ty.fa51_1 : fldA (ctx Tryz.prog Gt tab) (Tryz.prog.underlying 51) x 1 h = fldP 1 1 x h := by kernel_rfl
theorem Ty.fd51_2 : fld (ctx Tryz.prog Gt tab) (Tryz.prog.underlying 51) x 2 h = fldV (ctx Tryz.prog Gt tab) 49 2 x h := by kernel_rfl
theorem Ty.fa51_2 : fldA (ctx Tryz.prog Gt tab) (Tryz.prog.underlying 51) x 2 h = fldP 2 1 x h := by kernel_rfl
theorem Ty.fd51_3 : fld (ctx Tryz.prog Gt tab) (Tryz.prog.underlying 51) x 3 h = fldV (ctx Tryz.prog Gt tab) 35 3 x h := by kernel_rfl
theorem Ty.fa51_3 : fldA (ctx Tryz.prog Gt tab) (Tryz.prog.underlying 51) x 3 h = fldP 3 2 x h := by kernel_rfl
theorem Ty.fd51_4 : fld (ctx Tryz.prog Gt tab) (Tryz.prog.underlying 51) x 4 h = fldV (ctx Tryz.prog Gt tab) 38 5 x h := by kernel_rfl
theorem Ty.fa51_4 : fldA (ctx Tryz.prog Gt tab) (Tryz.prog.underlying 51) x 4 h = fldP 5 1 x h := by kernel_rfl
theorem Ty.fd51_5 : fld (ctx Tryz.prog Gt tab) (Tryz.prog.underlying 51) x 5 h = fldV (ctx Tryz.prog Gt tab) 3 6 x h := by kernel_rfl
theorem Ty.fa51_5 : fldA (ctx Tryz.prog Gt tab) (Tryz.prog.underlying 51) x 5 h = fldP 6 1 x h := by kernel_rfl
theorem Ty.pl51 : (ctx Tryz.prog Gt tab).place 51 = some fun i => [(0, 1), (1, 1), (2, 1), (3, 2), (5, 1), (6, 1)][i]? := by kernel_rfl
theorem Ty.sz53 : (ctx Tryz.prog Gt tab).size 53 = some 1 := by kernel_rfl
theorem Ty.ag53 : (ctx Tryz.prog Gt tab).isAgg 53 = some false := by kernel_rfl
theorem Ty.zr53 : (ctx Tryz.prog Gt tab).zero 53 = some (.v (.c (.d (.sl true [])))) := by kernel_rfl
theorem Ty.ap53 : (ctx Tryz.prog Gt tab).apz 53 = some (1, 24) := by kernel_rfl
theorem Ty.un53 : Tryz.prog.underlying 53 = some (Go.TypeDesc.slice 35) := by kernel_rfl
theorem Ty.sz54 : (ctx Tryz.prog Gt tab).size 54 = some 1 := by kernel_rfl
theorem Ty.ag54 : (ctx Tryz.prog Gt tab).isAgg 54 = some false := by kernel_rfl
theorem Ty.nf54 : (ctx Tryz.prog Gt tab).isIf 54 = some false := by kernel_rfl
theorem Ty.zr54 : (ctx Tryz.prog Gt tab).zero 54 = some (.v (.c (.d (.int .i64 0)))) := by kernel_rfl
theorem Ty.ap54 : (ctx Tryz.prog Gt tab).apz 54 = some (1, 8) := by kernel_rfl
theorem Ty.un54 : Tryz.prog.underlying 54 = some (Go.TypeDesc.int Go.IntKind.i64) := by kernel_rfl
theorem Ty.sz65 : (ctx Tryz.prog Gt tab).size 65 = some 3 := by kernel_rfl
theorem Ty.ag65 : (ctx Tryz.prog Gt tab).isAgg 65 = some true := by kernel_rfl
theorem Ty.nf65 : (ctx Tryz.prog Gt tab).isIf 65 = some false := by kernel_rfl
theorem Ty.zr65 : (ctx Tryz.prog Gt tab).zero 65 = some (.v (.agg [.d (.sl true []), .d (.sl true []), .d (.sl true [])])) := by kernel_rfl
theorem Ty.ap65 : (ctx Tryz.prog Gt tab).apz 65 = some (3, 72) := by kernel_rfl
theorem Ty.fd65_0 : fld (ctx Tryz.prog Gt tab) (Tryz.prog.underlying 65) x 0 h = fldV (ctx Tryz.prog Gt tab) 22 0 x h := by kernel_rfl
theorem Ty.fa65_0 : fldA (ctx Tryz.prog Gt tab) (Tryz.prog.underlying 65) x 0 h = fldP 0 1 x h := by kernel_rfl
theorem Ty.fd65_1 : fld (ctx Tryz.prog Gt tab) (Tryz.prog.underlying 65) x 1 h = fldV (ctx Tryz.prog Gt tab) 27 1 x h := by kernel_rfl
theorem Ty.fa65_1 : fldA (ctx Tryz.prog Gt tab) (Tryz.prog.underlying 65) x 1 h = fldP 1 1 x h := by kernel_rfl
theorem Ty.fd65_2 : fld (ctx Tryz.prog Gt tab) (Tryz.prog.underlying 65) x 2 h = fldV (ctx Tryz.prog Gt tab) 23 2 x h := by kernel_rfl
theorem Ty.fa65_2 : fldA (ctx Tryz.prog Gt tab) (Tryz.prog.underlying 65) x 2 h = fldP 2 1 x h := by kernel_rfl
theorem Ty.pl65 : (ctx Tryz.prog Gt tab).place 65 = some fun i => [(0, 1), (1, 1), (2, 1)][i]? := by kernel_rfl
theorem Ty.sz79 : (ctx Tryz.prog Gt tab).size 79 = some 5 := by kernel_rfl
theorem Ty.ag79 : (ctx Tryz.prog Gt tab).isAgg 79 = some true := by kernel_rfl
theorem Ty.nf79 : (ctx Tryz.prog Gt tab).isIf 79 = some false := by kernel_rfl
theorem Ty.ft79 : (ctx Tryz.prog Gt tab).flat 79 = some [.i .i64, .s, .s, .i .i64, .i .i64] := by kernel_rfl
theorem Ty.zr79 : (ctx Tryz.prog Gt tab).zero 79 = some (.v (.agg [.d (.int .i64 0), .d (.str []), .d (.str []), .d (.int .i64 0), .d (.int .i64 0)])) := by kernel_rfl
theorem Ty.ap79 : (ctx Tryz.prog Gt tab).apz 79 = some (5, 56) := by kernel_rfl
theorem Ty.fd79_0 : fld (ctx Tryz.prog Gt tab) (Tryz.prog.underlying 79) x 0 h = fldV (ctx Tryz.prog Gt tab) 3 0 x h := by kernel_rfl
theorem Ty.fa79_0 : fldA (ctx Tryz.prog Gt tab) (Tryz.prog.underlying 79) x 0 h = fldP 0 1 x h := by kernel_rfl
theorem Ty.fd79_1 : fld (ctx Tryz.prog Gt tab) (Tryz.prog.underlying 79) x 1 h = fldV (ctx Tryz.prog Gt tab) 9 1 x h := by kernel_rfl
theorem Ty.fa79_1 : fldA (ctx Tryz.prog Gt tab) (Tryz.prog.underlying 79) x 1 h = fldP 1 1 x h := by kernel_rfl
theorem Ty.fd79_2 : fld (ctx Tryz.prog Gt tab) (Tryz.prog.underlying 79) x 2 h = fldV (ctx Tryz.prog Gt tab) 9 2 x h := by kernel_rfl
theorem Ty.fa79_2 : fldA (ctx Tryz.prog Gt tab) (Tryz.prog.underlying 79) x 2 h = fldP 2 1 x h := by kernel_rfl
theorem Ty.fd79_3 : fld (ctx Tryz.prog Gt tab) (Tryz.prog.underlying 79) x 3 h = fldV (ctx Tryz.prog Gt tab) 3 3 x h := by kernel_rfl
theorem Ty.fa79_3 : fldA (ctx Tryz.prog Gt tab) (Tryz.prog.underlying 79) x 3 h = fldP 3 1 x h := by kernel_rfl
theorem Ty.fd79_4 : fld (ctx Tryz.prog Gt tab) (Tryz.prog.underlying 79) x 4 h = fldV (ctx Tryz.prog Gt tab) 3 4 x h := by kernel_rfl
theorem Ty.fa79_4 : fldA (ctx Tryz.prog Gt tab) (Tryz.prog.underlying 79) x 4 h = fldP 4 1 x h := by kernel_rfl
theorem Ty.pl79 : (ctx Tryz.prog Gt tab).place 79 = some fun i => [(0, 1), (1, 1), (2, 1), (3, 1), (4, 1)][i]? := by kernel_rfl
theorem Ty.sz87 : (ctx Tryz.prog Gt tab).size 87 = some 3 := by kernel_rfl
theorem Ty.ag87 : (ctx Tryz.prog Gt tab).isAgg 87 = some true := by kernel_rfl
theorem Ty.nf87 : (ctx Tryz.prog Gt tab).isIf 87 = some false := by kernel_rfl
theorem Ty.ft87 : (ctx Tryz.prog Gt tab).flat 87 = some [.i .i64, .i .i64, .i .i64] := by kernel_rfl
theorem Ty.zr87 : (ctx Tryz.prog Gt tab).zero 87 = some (.v (.agg [.d (.int .i64 0), .d (.int .i64 0), .d (.int .i64 0)])) := by kernel_rfl
theorem Ty.ap87 : (ctx Tryz.prog Gt tab).apz 87 = some (3, 24) := by kernel_rfl
theorem Ty.fd87_0 : fld (ctx Tryz.prog Gt tab) (Tryz.prog.underlying 87) x 0 h = fldV (ctx Tryz.prog Gt tab) 3 0 x h := by kernel_rfl
theorem Ty.fa87_0 : fldA (ctx Tryz.prog Gt tab) (Tryz.prog.underlying 87) x 0 h = fldP 0 1 x h := by kernel_rfl
theorem Ty.fd87_1 : fld (ctx Tryz.prog Gt tab) (Tryz.prog.underlying 87) x 1 h = fldV (ctx Tryz.prog Gt tab) 3 1 x h := by kernel_rfl
theorem Ty.fa87_1 : fldA (ctx Tryz.prog Gt tab) (Tryz.prog.underlying 87) x 1 h = fldP 1 1 x h := by kernel_rfl
theorem Ty.fd87_2 : fld (ctx Tryz.prog Gt tab) (Tryz.prog.underlying 87) x 2 h = fldV (ctx Tryz.prog Gt tab) 3 2 x h := by kernel_rfl
theorem Ty.fa87_2 : fldA (ctx Tryz.prog Gt tab) (Tryz.prog.underlying 87) x 2 h = fldP 2 1 x h := by kernel_rfl
theorem Ty.pl87 : (ctx Tryz.prog Gt tab).place 87 = some fun i => [(0, 1), (1, 1), (2, 1)][i]? := by kernel_rfl
theorem Ty.sz93 : (ctx Tryz.prog Gt tab).size 93 = some 2 := by kernel_rfl
theorem Ty.ag93 : (ctx Tryz.prog Gt tab).isAgg 93 = some true := by kernel_rfl
theorem Ty.nf93 : (ctx Tryz.prog Gt tab).isIf 93 = some false := by kernel_rfl
theorem Ty.ft93 : (ctx Tryz.prog Gt tab).flat 93 = some [.s, .i .i64] := by kernel_rfl
theorem Ty.zr93 : (ctx Tryz.prog Gt tab).zero 93 = some (.v (.agg [.d (.str []), .d (.int .i64 0)])) := by kernel_rfl
theorem Ty.ap93 : (ctx Tryz.prog Gt tab).apz 93 = some (2, 24) := by kernel_rfl
theorem Ty.fd93_0 : fld (ctx Tryz.prog Gt tab) (Tryz.prog.underlying 93) x 0 h = fldV (ctx Tryz.prog Gt tab) 9 0 x h := by kernel_rfl
theorem Ty.fa93_0 : fldA (ctx Tryz.prog Gt tab) (Tryz.prog.underlying 93) x 0 h = fldP 0 1 x h := by kernel_rfl
theorem Ty.fd93_1 : fld (ctx Tryz.prog Gt tab) (Tryz.prog.underlying 93) x 1 h = fldV (ctx Tryz.prog Gt tab) 3 1 x h := by kernel_rfl
theorem Ty.fa93_1 : fldA (ctx Tryz.prog Gt tab) (Tryz.prog.underlying 93) x 1 h = fldP 1 1 x h := by kernel_rfl
theorem Ty.pl93 : (ctx Tryz.prog Gt tab).place 93 = some fun i => [(0, 1), (1, 1)][i]? := by kernel_rfl
theorem Ty.sz94 : (ctx Tryz.prog Gt tab).size 94 = some 1 := by kernel_rfl
theorem Ty.ag94 : (ctx Tryz.prog Gt tab).isAgg 94 = some false := by kernel_rfl
theorem Ty.zr94 : (ctx Tryz.prog Gt tab).zero 94 = some (.v (.c .nilm)) := by kernel_rfl
theorem Ty.ap94 : (ctx Tryz.prog Gt tab).apz 94 = some (1, 8) := by kernel_rfl
theorem Ty.un94 : Tryz.prog.underlying 94 = some (Go.TypeDesc.map 3 3) := by kernel_rfl
theorem Ty.mt94 : (ctx Tryz.prog Gt tab).mapTy 94 = some (KTy.int Go.IntKind.i64, 3) := by kernel_rfl
theorem Ty.sz95 : (ctx Tryz.prog Gt tab).size 95 = some 1 := by kernel_rfl
theorem Ty.ag95 : (ctx Tryz.prog Gt tab).isAgg 95 = some false := by kernel_rfl
theorem Ty.zr95 : (ctx Tryz.prog Gt tab).zero 95 = some (.v (.c .nilm)) := by kernel_rfl
theorem Ty.ap95 : (ctx Tryz.prog Gt tab).apz 95 = some (1, 8) := by kernel_rfl
theorem Ty.mt95 : (ctx Tryz.prog Gt tab).mapTy 95 = some (KTy.agg [.s, .s], 3) := by kernel_rfl
theorem Ty.un95 : Tryz.prog.underlying 95 = some (Go.TypeDesc.map 100 3) := by kernel_rfl
theorem Ty.sz97 : (ctx Tryz.prog Gt tab).size 97 = some 4 := by kernel_rfl
theorem Ty.ag97 : (ctx Tryz.prog Gt tab).isAgg 97 = some true := by kernel_rfl
theorem Ty.nf97 : (ctx Tryz.prog Gt tab).isIf 97 = some false := by kernel_rfl
theorem Ty.zr97 : (ctx Tryz.prog Gt tab).zero 97 = some (.v (.agg [.d (.sl true []), .d (.sl true []), .nilm, .nilm])) := by kernel_rfl
theorem Ty.ap97 : (ctx Tryz.prog Gt tab).apz 97 = some (4, 64) := by kernel_rfl
theorem Ty.fd97_0 : fld (ctx Tryz.prog Gt tab) (Tryz.prog.underlying 97) x 0 h = fldV (ctx Tryz.prog Gt tab) 24 0 x h := by kernel_rfl
theorem Ty.fa97_0 : fldA (ctx Tryz.prog Gt tab) (Tryz.prog.underlying 97) x 0 h = fldP 0 1 x h := by kernel_rfl
theorem Ty.fd97_1 : fld (ctx Tryz.prog Gt tab) (Tryz.prog.underlying 97) x 1 h = fldV (ctx Tryz.prog Gt tab) 46 1 x h := by kernel_rfl
theorem Ty.fa97_1 : fldA (ctx Tryz.prog Gt tab) (Tryz.prog.underlying 97) x 1 h = fldP 1 1 x h := by kernel_rfl
theorem Ty.fd97_2 : fld (ctx Tryz.prog Gt tab) (Tryz.prog.underlying 97) x 2 h = fldV (ctx Tryz.prog Gt tab) 94 2 x h := by kernel_rfl
theorem Ty.fa97_2 : fldA (ctx Tryz.prog Gt tab) (Tryz.prog.underlying 97) x 2 h = fldP 2 1 x h := by kernel_rfl
theorem Ty.fd97_3 : fld (ctx Tryz.prog Gt tab) (Tryz.prog.underlying 97) x 3 h = fldV (ctx Tryz.prog Gt tab) 95 3 x h := by kernel_rfl
theorem Ty.fa97_3 : fldA (ctx Tryz.prog Gt tab) (Tryz.prog.underlying 97) x 3 h = fldP 3 1 x h := by kernel_rfl
theorem Ty.pl97 : (ctx Tryz.prog Gt tab).place 97 = some fun i => [(0, 1), (1, 1), (2, 1), (3, 1)][i]? := by kernel_rfl
theorem Ty.sz100 : (ctx Tryz.prog Gt tab).size 100 = some 2 := by kernel_rfl
theorem Ty.ag100 : (ctx Tryz.prog Gt tab).isAgg 100 = some true := by kernel_rfl
theorem Ty.nf100 : (ctx Tryz.prog Gt tab).isIf 100 = some false := by kernel_rfl
theorem Ty.ft100 : (ctx Tryz.prog Gt tab).flat 100 = some [.s, .s] := by kernel_rfl
theorem Ty.zr100 : (ctx Tryz.prog Gt tab).zero 100 = some (.v (.agg [.d (.str []), .d (.str [])])) := by kernel_rfl
theorem Ty.ap100 : (ctx Tryz.prog Gt tab).apz 100 = some (2, 32) := by kernel_rfl
theorem Ty.fd100_0 : fld (ctx Tryz.prog Gt tab) (Tryz.prog.underlying 100) x 0 h = fldV (ctx Tryz.prog Gt tab) 9 0 x h := by kernel_rfl
theorem Ty.fa100_0 : fldA (ctx Tryz.prog Gt tab) (Tryz.prog.underlying 100) x 0 h = fldP 0 1 x h := by kernel_rfl
theorem Ty.fd100_1 : fld (ctx Tryz.prog Gt tab) (Tryz.prog.underlying 100) x 1 h = fldV (ctx Tryz.prog Gt tab) 9 1 x h := by kernel_rfl
theorem Ty.fa100_1 : fldA (ctx Tryz.prog Gt tab) (Tryz.prog.underlying 100) x 1 h = fldP 1 1 x h := by kernel_rfl
theorem Ty.pl100 : (ctx Tryz.prog Gt tab).place 100 = some fun i => [(0, 1), (1, 1)][i]? := by kernel_rfl
theorem Ty.sz108 : (ctx Tryz.prog Gt tab).size 108 = some 3 := by kernel_rfl
theorem Ty.ag108 : (ctx Tryz.prog Gt tab).isAgg 108 = some true := by kernel_rfl
theorem Ty.nf108 : (ctx Tryz.prog Gt tab).isIf 108 = some false := by kernel_rfl
theorem Ty.ft108 : (ctx Tryz.prog Gt tab).flat 108 = some [.i .i64, .i .i64, .i .i64] := by kernel_rfl
theorem Ty.zr108 : (ctx Tryz.prog Gt tab).zero 108 = some (.v (.agg [.d (.int .i64 0), .d (.int .i64 0), .d (.int .i64 0)])) := by kernel_rfl
theorem Ty.ap108 : (ctx Tryz.prog Gt tab).apz 108 = some (3, 24) := by kernel_rfl
theorem Ty.fd108_0 : fld (ctx Tryz.prog Gt tab) (Tryz.prog.underlying 108) x 0 h = fldV (ctx Tryz.prog Gt tab) 3 0 x h := by kernel_rfl
theorem Ty.fa108_0 : fldA (ctx Tryz.prog Gt tab) (Tryz.prog.underlying 108) x 0 h = fldP 0 1 x h := by kernel_rfl
theorem Ty.fd108_1 : fld (ctx Tryz.prog Gt tab) (Tryz.prog.underlying 108) x 1 h = fldV (ctx Tryz.prog Gt tab) 3 1 x h := by kernel_rfl
theorem Ty.fa108_1 : fldA (ctx Tryz.prog Gt tab) (Tryz.prog.underlying 108) x 1 h = fldP 1 1 x h := by kernel_rfl
theorem Ty.fd108_2 : fld (ctx Tryz.prog Gt tab) (Tryz.prog.underlying 108) x 2 h = fldV (ctx Tryz.prog Gt tab) 3 2 x h := by kernel_rfl
theorem Ty.fa108_2 : fldA (ctx Tryz.prog Gt tab) (Tryz.prog.underlying 108) x 2 h = fldP 2 1 x h := by kernel_rfl
theorem Ty.pl108 : (ctx Tryz.prog Gt tab).place 108 = some fun i => [(0, 1), (1, 1), (2, 1)][i]? := by kernel_rfl
theorem Ty.sz140 : (ctx Tryz.prog Gt tab).size 140 = some 1 := by kernel_rfl
theorem Ty.ag140 : (ctx Tryz.prog Gt tab).isAgg 140 = some false := by kernel_rfl
theorem Ty.pt140 : (ctx Tryz.prog Gt tab).ptT 140 = some true := by kernel_rfl
theorem Ty.zr140 : (ctx Tryz.prog Gt tab).zero 140 = some (.v (.c .nilp)) := by kernel_rfl
theorem Ty.ap140 : (ctx Tryz.prog Gt tab).apz 140 = some (1, 8) := by kernel_rfl
theorem Ty.sz148 : (ctx Tryz.prog Gt tab).size 148 = some 1 := by kernel_rfl
theorem Ty.ag148 : (ctx Tryz.prog Gt tab).isAgg 148 = some false := by kernel_rfl
theorem Ty.zr148 : (ctx Tryz.prog Gt tab).zero 148 = some (.v (.c (.d (.sl true [])))) := by kernel_rfl
theorem Ty.ap148 : (ctx Tryz.prog Gt tab).apz 148 = some (1, 24) := by kernel_rfl
theorem Ty.un148 : Tryz.prog.underlying 148 = some (Go.TypeDesc.slice 5) := by kernel_rfl
theorem Ty.sz156 : (ctx Tryz.prog Gt tab).size 156 = some 1 := by kernel_rfl
theorem Ty.ag156 : (ctx Tryz.prog Gt tab).isAgg 156 = some false := by kernel_rfl
theorem Ty.nf156 : (ctx Tryz.prog Gt tab).isIf 156 = some false := by kernel_rfl
theorem Ty.zr156 : (ctx Tryz.prog Gt tab).zero 156 = some (.v (.c (.d (.int .u64 0)))) := by kernel_rfl
theorem Ty.ap156 : (ctx Tryz.prog Gt tab).apz 156 = some (1, 8) := by kernel_rfl
theorem Ty.un156 : Tryz.prog.underlying 156 = some (Go.TypeDesc.int Go.IntKind.u64) := by kernel_rfl
theorem Ty.sz158 : (ctx Tryz.prog Gt tab).size 158 = some 1 := by kernel_rfl
theorem Ty.ag158 : (ctx Tryz.prog Gt tab).isAgg 158 = some false := by kernel_rfl
theorem Ty.pt158 : (ctx Tryz.prog Gt tab).ptT 158 = some true := by kernel_rfl
theorem Ty.zr158 : (ctx Tryz.prog Gt tab).zero 158 = some (.v (.c .nilp)) := by kernel_rfl
theorem Ty.ap158 : (ctx Tryz.prog Gt tab).apz 158 = some (1, 8) := by kernel_rfl
theorem Ty.sz160 : (ctx Tryz.prog Gt tab).size 160 = some 2 := by kernel_rfl
theorem Ty.ag160 : (ctx Tryz.prog Gt tab).isAgg 160 = some true := by kernel_rfl
theorem Ty.nf160 : (ctx Tryz.prog Gt tab).isIf 160 = some false := by kernel_rfl
theorem Ty.zr160 : (ctx Tryz.prog Gt tab).zero 160 = some (.v (.agg [.nilp, .d (.sl true [])])) := by kernel_rfl
theorem Ty.ap160 : (ctx Tryz.prog Gt tab).apz 160 = some (2, 32) := by kernel_rfl
theorem Ty.fd160_0 : fld (ctx Tryz.prog Gt tab) (Tryz.prog.underlying 160) x 0 h = fldV (ctx Tryz.prog Gt tab) 158 0 x h := by kernel_rfl
theorem Ty.fa160_0 : fldA (ctx Tryz.prog Gt tab) (Tryz.prog.underlying 160) x 0 h = fldP 0 1 x h := by kernel_rfl
theorem Ty.fd160_1 : fld (ctx Tryz.prog Gt tab) (Tryz.prog.underlying 160) x 1 h = fldV (ctx Tryz.prog Gt tab) 148 1 x h := by kernel_rfl
theorem Ty.fa160_1 : fldA (ctx Tryz.prog Gt tab) (Tryz.prog.underlying 160) x 1 h = fldP 1 1 x h := by kernel_rfl
theorem Ty.pl160 : (ctx Tryz.prog Gt tab).place 160 = some fun i => [(0, 1), (1, 1)][i]? := by kernel_rfl
theorem Ty.sz166 : (ctx Tryz.prog Gt tab).size 166 = some 1 := by kernel_rfl
theorem Ty.ag166 : (ctx Tryz.prog Gt tab).isAgg 166 = some false := by kernel_rfl
theorem Ty.zr166 : (ctx Tryz.prog Gt tab).zero 166 = some (.v (.c (.d (.sl true [])))) := by kernel_rfl
theorem Ty.ap166 : (ctx Tryz.prog Gt tab).apz 166 = some (1, 24) := by kernel_rfl
theorem Ty.un166 : Tryz.prog.underlying 166 = some (Go.TypeDesc.slice 53) := by kernel_rfl
theorem Ty.sz174 : (ctx Tryz.prog Gt tab).size 174 = some 1 := by kernel_rfl
theorem Ty.ag174 : (ctx Tryz.prog Gt tab).isAgg 174 = some false := by kernel_rfl
theorem Ty.nf174 : (ctx Tryz.prog Gt tab).isIf 174 = some false := by kernel_rfl
theorem Ty.zr174 : (ctx Tryz.prog Gt tab).zero 174 = some (.v (.c (.d (.int .i64 0)))) := by kernel_rfl
theorem Ty.ap174 : (ctx Tryz.prog Gt tab).apz 174 = some (1, 8) := by kernel_rfl
theorem Ty.un174 : Tryz.prog.underlying 174 = some (Go.TypeDesc.int Go.IntKind.i64) := by kernel_rfl
theorem Ty.sz187 : (ctx Tryz.prog Gt tab).size 187 = some 1 := by kernel_rfl
theorem Ty.ag187 : (ctx Tryz.prog Gt tab).isAgg 187 = some false := by kernel_rfl
theorem Ty.nf187 : (ctx Tryz.prog Gt tab).isIf 187 = some false := by kernel_rfl
theorem Ty.zr187 : (ctx Tryz.prog Gt tab).zero 187 = some (.v (.c (.d (.int .u64 0)))) := by kernel_rfl
theorem Ty.ap187 : (ctx Tryz.prog Gt tab).apz 187 = some (1, 8) := by kernel_rfl
theorem Ty.un187 : Tryz.prog.underlying 187 = some (Go.TypeDesc.int Go.IntKind.u64) := by kernel_rfl
theorem Ty.sz191 : (ctx Tryz.prog Gt tab).size 191 = some 1 := by kernel_rfl
theorem Ty.ag191 : (ctx Tryz.prog Gt tab).isAgg 191 = some false := by kernel_rfl
theorem Ty.pt191 : (ctx Tryz.prog Gt tab).ptT 191 = some true := by kernel_rfl
theorem Ty.zr191 : (ctx Tryz.prog Gt tab).zero 191 = some (.v (.c .nilp)) := by kernel_rfl
theorem Ty.ap191 : (ctx Tryz.prog Gt tab).apz 191 = some (1, 8) := by kernel_rfl
end
theorem TY : type_of% @Ty.sz3 ∧
  type_of% @Ty.ag3 ∧
  type_of% @Ty.nf3 ∧
  type_of% @Ty.zr3 ∧
  type_of% @Ty.ap3 ∧
  type_of% @Ty.un3 ∧
  type_of% @Ty.sz4 ∧
  type_of% @Ty.ag4 ∧
  type_of% @Ty.zr4 ∧
  type_of% @Ty.ap4 ∧
  type_of% @Ty.un4 ∧
  type_of% @Ty.sz5 ∧
  type_of% @Ty.ag5 ∧
  type_of% @Ty.nf5 ∧
  type_of% @Ty.zr5 ∧
  type_of% @Ty.ap5 ∧
  type_of% @Ty.un5 ∧
  type_of% @Ty.sz9 ∧
  type_of% @Ty.ag9 ∧
  type_of% @Ty.zr9 ∧
  type_of% @Ty.ap9 ∧
  type_of% @Ty.un9 ∧
  type_of% @Ty.sz21 ∧
  type_of% @Ty.ag21 ∧
  type_of% @Ty.nf21 ∧
  type_of% @Ty.zr21 ∧
  type_of% @Ty.ap21 ∧
  type_of% @Ty.un21 ∧
  type_of% @Ty.sz22 ∧
  type_of% @Ty.ag22 ∧
  type_of% @Ty.zr22 ∧
  type_of% @Ty.ap22 ∧
  type_of% @Ty.un22 ∧
  type_of% @Ty.sz23 ∧
  type_of% @Ty.ag23 ∧
  type_of% @Ty.zr23 ∧
  type_of% @Ty.ap23 ∧
  type_of% @Ty.un23 ∧
  type_of% @Ty.sz24 ∧
  type_of% @Ty.ag24 ∧
  type_of% @Ty.zr24 ∧
  type_of% @Ty.ap24 ∧
  type_of% @Ty.un24 ∧
  type_of% @Ty.sz27 ∧
  type_of% @Ty.ag27 ∧
  type_of% @Ty.zr27 ∧
  type_of% @Ty.ap27 ∧
  type_of% @Ty.un27 ∧
  type_of% @Ty.sz28 ∧
  type_of% @Ty.ag28 ∧
  type_of% @Ty.zr28 ∧
  type_of% @Ty.ap28 ∧
  type_of% @Ty.un28 ∧
  type_of% @Ty.sz31 ∧
  type_of% @Ty.ag31 ∧
  type_of% @Ty.zr31 ∧
  type_of% @Ty.ap31 ∧
  type_of% @Ty.un31 ∧
  type_of% @Ty.sz35 ∧
  type_of% @Ty.ag35 ∧
  type_of% @Ty.nf35 ∧
  type_of% @Ty.ft35 ∧
  type_of% @Ty.zr35 ∧
  type_of% @Ty.ap35 ∧
  type_of% @Ty.fd35_0 ∧
  type_of% @Ty.fa35_0 ∧
  type_of% @Ty.fd35_1 ∧
  type_of% @Ty.fa35_1 ∧
  type_of% @Ty.pl35 ∧
  type_of% @Ty.sz37 ∧
  type_of% @Ty.ag37 ∧
  type_of% @Ty.nf37 ∧
  type_of% @Ty.ft37 ∧
  type_of% @Ty.zr37 ∧
  type_of% @Ty.ap37 ∧
  type_of% @Ty.fd37_0 ∧
  type_of% @Ty.fa37_0 ∧
  type_of% @Ty.fd37_1 ∧
  type_of% @Ty.fa37_1 ∧
  type_of% @Ty.fd37_2 ∧
  type_of% @Ty.fa37_2 ∧
  type_of% @Ty.fd37_3 ∧
  type_of% @Ty.fa37_3 ∧
  type_of% @Ty.pl37 ∧
  type_of% @Ty.sz38 ∧
  type_of% @Ty.ag38 ∧
  type_of% @Ty.zr38 ∧
  type_of% @Ty.ap38 ∧
  type_of% @Ty.un38 ∧
  type_of% @Ty.sz39 ∧
  type_of% @Ty.ag39 ∧
  type_of% @Ty.zr39 ∧
  type_of% @Ty.ap39 ∧
  type_of% @Ty.un39 ∧
  type_of% @Ty.sz41 ∧
  type_of% @Ty.ag41 ∧
  type_of% @Ty.nf41 ∧
  type_of% @Ty.zr41 ∧
  type_of% @Ty.ap41 ∧
  type_of% @Ty.fd41_0 ∧
  type_of% @Ty.fa41_0 ∧
  type_of% @Ty.fd41_1 ∧
  type_of% @Ty.fa41_1 ∧
  type_of% @Ty.fd41_2 ∧
  type_of% @Ty.fa41_2 ∧
  type_of% @Ty.fd41_3 ∧
  type_of% @Ty.fa41_3 ∧
  type_of% @Ty.fd41_4 ∧
  type_of% @Ty.fa41_4 ∧
  type_of% @Ty.fd41_5 ∧
  type_of% @Ty.fa41_5 ∧
  type_of% @Ty.fd41_6 ∧
  type_of% @Ty.fa41_6 ∧
  type_of% @Ty.pl41 ∧
  type_of% @Ty.sz46 ∧
  type_of% @Ty.ag46 ∧
  type_of% @Ty.zr46 ∧
  type_of% @Ty.ap46 ∧
  type_of% @Ty.un46 ∧
  type_of% @Ty.sz48 ∧
  type_of% @Ty.ag48 ∧
  type_of% @Ty.nf48 ∧
  type_of% @Ty.zr48 ∧
  type_of% @Ty.ap48 ∧
  type_of% @Ty.fd48_0 ∧
  type_of% @Ty.fa48_0 ∧
  type_of% @Ty.fd48_1 ∧
  type_of% @Ty.fa48_1 ∧
  type_of% @Ty.fd48_2 ∧
  type_of% @Ty.fa48_2 ∧
  type_of% @Ty.fd48_3 ∧
  type_of% @Ty.fa48_3 ∧
  type_of% @Ty.fd48_4 ∧
  type_of% @Ty.fa48_4 ∧
  type_of% @Ty.fd48_5 ∧
  type_of% @Ty.fa48_5 ∧
  type_of% @Ty.fd48_6 ∧
  type_of% @Ty.fa48_6 ∧
  type_of% @Ty.pl48 ∧
  type_of% @Ty.sz49 ∧
  type_of% @Ty.ag49 ∧
  type_of% @Ty.zr49 ∧
  type_of% @Ty.ap49 ∧
  type_of% @Ty.un49 ∧
  type_of% @Ty.sz51 ∧
  type_of% @Ty.ag51 ∧
  type_of% @Ty.nf51 ∧
  type_of% @Ty.zr51 ∧
  type_of% @Ty.ap51 ∧
  type_of% @Ty.fd51_0 ∧
  type_of% @Ty.fa51_0 ∧
  type_of% @Ty.fd51_1 ∧
  type_of% @Ty.fa51_1 ∧
  type_of% @Ty.fd51_2 ∧
  type_of% @Ty.fa51_2 ∧
  type_of% @Ty.fd51_3 ∧
  type_of% @Ty.fa51_3 ∧
  type_of% @Ty.fd51_4 ∧
  type_of% @Ty.fa51_4 ∧
  type_of% @Ty.fd51_5 ∧
  type_of% @Ty.fa51_5 ∧
  type_of% @Ty.pl51 ∧
  type_of% @Ty.sz53 ∧
  type_of% @Ty.ag53 ∧
  type_of% @Ty.zr53 ∧
  type_of% @Ty.ap53 ∧
  type_of% @Ty.un53 ∧
  type_of% @Ty.sz54 ∧
  type_of% @Ty.ag54 ∧
  type_of% @Ty.nf54 ∧
  type_of% @Ty.zr54 ∧
  type_of% @Ty.ap54 ∧
  type_of% @Ty.un54 ∧
  type_of% @Ty.sz65 ∧
  type_of% @Ty.ag65 ∧
  type_of% @Ty.nf65 ∧
  type_of% @Ty.zr65 ∧
  type_of% @Ty.ap65 ∧
  type_of% @Ty.fd65_0 ∧
  type_of% @Ty.fa65_0 ∧
  type_of% @Ty.fd65_1 ∧
  type_of% @Ty.fa65_1 ∧
  type_of% @Ty.fd65_2 ∧
  type_of% @Ty.fa65_2 ∧
  type_of% @Ty.pl65 ∧
  type_of% @Ty.sz79 ∧
  type_of% @Ty.ag79 ∧
  type_of% @Ty.nf79 ∧
  type_of% @Ty.ft79 ∧
  type_of% @Ty.zr79 ∧
  type_of% @Ty.ap79 ∧
  type_of% @Ty.fd79_0 ∧
  type_of% @Ty.fa79_0 ∧
  type_of% @Ty.fd79_1 ∧
  type_of% @Ty.fa79_1 ∧
  type_of% @Ty.fd79_2 ∧
  type_of% @Ty.fa79_2 ∧
  type_of% @Ty.fd79_3 ∧
  type_of% @Ty.fa79_3 ∧
  type_of% @Ty.fd79_4 ∧
  type_of% @Ty.fa79_4 ∧
  type_of% @Ty.pl79 ∧
  type_of% @Ty.sz87 ∧
  type_of% @Ty.ag87 ∧
  type_of% @Ty.nf87 ∧
  type_of% @Ty.ft87 ∧
  type_of% @Ty.zr87 ∧
  type_of% @Ty.ap87 ∧
  type_of% @Ty.fd87_0 ∧
  type_of% @Ty.fa87_0 ∧
  type_of% @Ty.fd87_1 ∧
  type_of% @Ty.fa87_1 ∧
  type_of% @Ty.fd87_2 ∧
  type_of% @Ty.fa87_2 ∧
  type_of% @Ty.pl87 ∧
  type_of% @Ty.sz93 ∧
  type_of% @Ty.ag93 ∧
  type_of% @Ty.nf93 ∧
  type_of% @Ty.ft93 ∧
  type_of% @Ty.zr93 ∧
  type_of% @Ty.ap93 ∧
  type_of% @Ty.fd93_0 ∧
  type_of% @Ty.fa93_0 ∧
  type_of% @Ty.fd93_1 ∧
  type_of% @Ty.fa93_1 ∧
  type_of% @Ty.pl93 ∧
  type_of% @Ty.sz94 ∧
  type_of% @Ty.ag94 ∧
  type_of% @Ty.zr94 ∧
  type_of% @Ty.ap94 ∧
  type_of% @Ty.un94 ∧
  type_of% @Ty.mt94 ∧
  type_of% @Ty.sz95 ∧
  type_of% @Ty.ag95 ∧
  type_of% @Ty.zr95 ∧
  type_of% @Ty.ap95 ∧
  type_of% @Ty.un95 ∧
  type_of% @Ty.mt95 ∧
  type_of% @Ty.sz97 ∧
  type_of% @Ty.ag97 ∧
  type_of% @Ty.nf97 ∧
  type_of% @Ty.zr97 ∧
  type_of% @Ty.ap97 ∧
  type_of% @Ty.fd97_0 ∧
  type_of% @Ty.fa97_0 ∧
  type_of% @Ty.fd97_1 ∧
  type_of% @Ty.fa97_1 ∧
  type_of% @Ty.fd97_2 ∧
  type_of% @Ty.fa97_2 ∧
  type_of% @Ty.fd97_3 ∧
  type_of% @Ty.fa97_3 ∧
  type_of% @Ty.pl97 ∧
  type_of% @Ty.sz100 ∧
  type_of% @Ty.ag100 ∧
  type_of% @Ty.nf100 ∧
  type_of% @Ty.ft100 ∧
  type_of% @Ty.zr100 ∧
  type_of% @Ty.ap100 ∧
  type_of% @Ty.fd100_0 ∧
  type_of% @Ty.fa100_0 ∧
  type_of% @Ty.fd100_1 ∧
  type_of% @Ty.fa100_1 ∧
  type_of% @Ty.pl100 ∧
  type_of% @Ty.sz108 ∧
  type_of% @Ty.ag108 ∧
  type_of% @Ty.nf108 ∧
  type_of% @Ty.ft108 ∧
  type_of% @Ty.zr108 ∧
  type_of% @Ty.ap108 ∧
  type_of% @Ty.fd108_0 ∧
  type_of% @Ty.fa108_0 ∧
  type_of% @Ty.fd108_1 ∧
  type_of% @Ty.fa108_1 ∧
  type_of% @Ty.fd108_2 ∧
  type_of% @Ty.fa108_2 ∧
  type_of% @Ty.pl108 ∧
  type_of% @Ty.sz140 ∧
  type_of% @Ty.ag140 ∧
  type_of% @Ty.pt140 ∧
  type_of% @Ty.zr140 ∧
  type_of% @Ty.ap140 ∧
  type_of% @Ty.sz148 ∧
  type_of% @Ty.ag148 ∧
  type_of% @Ty.zr148 ∧
  type_of% @Ty.ap148 ∧
  type_of% @Ty.un148 ∧
  type_of% @Ty.sz156 ∧
  type_of% @Ty.ag156 ∧
  type_of% @Ty.nf156 ∧
  type_of% @Ty.zr156 ∧
  type_of% @Ty.ap156 ∧
  type_of% @Ty.un156 ∧
  type_of% @Ty.sz158 ∧
  type_of% @Ty.ag158 ∧
  type_of% @Ty.pt158 ∧
  type_of% @Ty.zr158 ∧
  type_of% @Ty.ap158 ∧
  type_of% @Ty.sz160 ∧
  type_of% @Ty.ag160 ∧
  type_of% @Ty.nf160 ∧
  type_of% @Ty.zr160 ∧
  type_of% @Ty.ap160 ∧
  type_of% @Ty.fd160_0 ∧
  type_of% @Ty.fa160_0 ∧
  type_of% @Ty.fd160_1 ∧
  type_of% @Ty.fa160_1 ∧
  type_of% @Ty.pl160 ∧
  type_of% @Ty.sz166 ∧
  type_of% @Ty.ag166 ∧
  type_of% @Ty.zr166 ∧
  type_of% @Ty.ap166 ∧
  type_of% @Ty.un166 ∧
  type_of% @Ty.sz174 ∧
  type_of% @Ty.ag174 ∧
  type_of% @Ty.nf174 ∧
  type_of% @Ty.zr174 ∧
  type_of% @Ty.ap174 ∧
  type_of% @Ty.un174 ∧
  type_of% @Ty.sz187 ∧
  type_of% @Ty.ag187 ∧
  type_of% @Ty.nf187 ∧
  type_of% @Ty.zr187 ∧
  type_of% @Ty.ap187 ∧
  type_of% @Ty.un187 ∧
  type_of% @Ty.sz191 ∧
  type_of% @Ty.ag191 ∧
  type_of% @Ty.pt191 ∧
  type_of% @Ty.zr191 ∧
  type_of% @Ty.ap191 :=
  ⟨@Ty.sz3, @Ty.ag3, @Ty.nf3, @Ty.zr3, @Ty.ap3, @Ty.un3, @Ty.sz4, @Ty.ag4, @Ty.zr4, @Ty.ap4, @Ty.un4, @Ty.sz5, @Ty.ag5, @Ty.nf5, @Ty.zr5, @Ty.ap5, @Ty.un5, @Ty.sz9, @Ty.ag9, @Ty.zr9, @Ty.ap9, @Ty.un9, @Ty.sz21, @Ty.ag21, @Ty.nf21, @Ty.zr21, @Ty.ap21, @Ty.un21, @Ty.sz22, @Ty.ag22, @Ty.zr22, @Ty.ap22, @Ty.un22, @Ty.sz23, @Ty.ag23, @Ty.zr23, @Ty.ap23, @Ty.un23, @Ty.sz24, @Ty.ag24, @Ty.zr24, @Ty.ap24, @Ty.un24, @Ty.sz27, @Ty.ag27, @Ty.zr27, @Ty.ap27, @Ty.un27, @Ty.sz28, @Ty.ag28, @Ty.zr28, @Ty.ap28, @Ty.un28, @Ty.sz31, @Ty.ag31, @Ty.zr31, @Ty.ap31, @Ty.un31, @Ty.sz35, @Ty.ag35, @Ty.nf35, @Ty.ft35, @Ty.zr35, @Ty.ap35, @Ty.fd35_0, @Ty.fa35_0, @Ty.fd35_1, @Ty.fa35_1, @Ty.pl35, @Ty.sz37, @Ty.ag37, @Ty.nf37, @Ty.ft37, @Ty.zr37, @Ty.ap37, @Ty.fd37_0, @Ty.fa37_0, @Ty.fd37_1, @Ty.fa37_1, @Ty.fd37_2, @Ty.fa37_2, @Ty.fd37_3, @Ty.fa37_3, @Ty.pl37, @Ty.sz38, @Ty.ag38, @Ty.zr38, @Ty.ap38, @Ty.un38, @Ty.sz39, @Ty.ag39, @Ty.zr39, @Ty.ap39, @Ty.un39, @Ty.sz41, @Ty.ag41, @Ty.nf41, @Ty.zr41, @Ty.ap41, @Ty.fd41_0, @Ty.fa41_0, @Ty.fd41_1, @Ty.fa41_1, @Ty.fd41_2, @Ty.fa41_2, @Ty.fd41_3, @Ty.fa41_3, @Ty.fd41_4, @Ty.fa41_4, @Ty.fd41_5, @Ty.fa41_5, @Ty.fd41_6, @Ty.fa41_6, @Ty.pl41, @Ty.sz46, @Ty.ag46, @Ty.zr46, @Ty.ap46, @Ty.un46, @Ty.sz48, @Ty.ag48, @Ty.nf48, @Ty.zr48, @Ty.ap48, @Ty.fd48_0, @Ty.fa48_0, @Ty.fd48_1, @Ty.fa48_1, @Ty.fd48_2, @Ty.fa48_2, @Ty.fd48_3, @Ty.fa48_3, @Ty.fd48_4, @Ty.fa48_4, @Ty.fd48_5, @Ty.fa48_5, @Ty.fd48_6, @Ty.fa48_6, @Ty.pl48, @Ty.sz49, @Ty.ag49, @Ty.zr49, @Ty.ap49, @Ty.un49, @Ty.sz51, @Ty.ag51, @Ty.nf51, @Ty.zr51, @Ty.ap51, @Ty.fd51_0, @Ty.fa51_0, @Ty.fd51_1, @Ty.fa51_1, @Ty.fd51_2, @Ty.fa51_2, @Ty.fd51_3, @Ty.fa51_3, @Ty.fd51_4, @Ty.fa51_4, @Ty.fd51_5, @Ty.fa51_5, @Ty.pl51, @Ty.sz53, @Ty.ag53, @Ty.zr53, @Ty.ap53, @Ty.un53, @Ty.sz54, @Ty.ag54, @Ty.nf54, @Ty.zr54, @Ty.ap54, @Ty.un54, @Ty.sz65, @Ty.ag65, @Ty.nf65, @Ty.zr65, @Ty.ap65, @Ty.fd65_0, @Ty.fa65_0, @Ty.fd65_1, @Ty.fa65_1, @Ty.fd65_2, @Ty.fa65_2, @Ty.pl65, @Ty.sz79, @Ty.ag79, @Ty.nf79, @Ty.ft79, @Ty.zr79, @Ty.ap79, @Ty.fd79_0, @Ty.fa79_0, @Ty.fd79_1, @Ty.fa79_1, @Ty.fd79_2, @Ty.fa79_2, @Ty.fd79_3, @Ty.fa79_3, @Ty.fd79_4, @Ty.fa79_4, @Ty.pl79, @Ty.sz87, @Ty.ag87, @Ty.nf87, @Ty.ft87, @Ty.zr87, @Ty.ap87, @Ty.fd87_0, @Ty.fa87_0, @Ty.fd87_1, @Ty.fa87_1, @Ty.fd87_2, @Ty.fa87_2, @Ty.pl87, @Ty.sz93, @Ty.ag93, @Ty.nf93, @Ty.ft93, @Ty.zr93, @Ty.ap93, @Ty.fd93_0, @Ty.fa93_0, @Ty.fd93_1, @Ty.fa93_1, @Ty.pl93, @Ty.sz94, @Ty.ag94, @Ty.zr94, @Ty.ap94, @Ty.un94, @Ty.mt94, @Ty.sz95, @Ty.ag95, @Ty.zr95, @Ty.ap95, @Ty.un95, @Ty.mt95, @Ty.sz97, @Ty.ag97, @Ty.nf97, @Ty.zr97, @Ty.ap97, @Ty.fd97_0, @Ty.fa97_0, @Ty.fd97_1, @Ty.fa97_1, @Ty.fd97_2, @Ty.fa97_2, @Ty.fd97_3, @Ty.fa97_3, @Ty.pl97, @Ty.sz100, @Ty.ag100, @Ty.nf100, @Ty.ft100, @Ty.zr100, @Ty.ap100, @Ty.fd100_0, @Ty.fa100_0, @Ty.fd100_1, @Ty.fa100_1, @Ty.pl100, @Ty.sz108, @Ty.ag108, @Ty.nf108, @Ty.ft108, @Ty.zr108, @Ty.ap108, @Ty.fd108_0, @Ty.fa108_0, @Ty.fd108_1, @Ty.fa108_1, @Ty.fd108_2, @Ty.fa108_2, @Ty.pl108, @Ty.sz140, @Ty.ag140, @Ty.pt140, @Ty.zr140, @Ty.ap140, @Ty.sz148, @Ty.ag148, @Ty.zr148, @Ty.ap148, @Ty.un148, @Ty.sz156, @Ty.ag156, @Ty.nf156, @Ty.zr156, @Ty.ap156, @Ty.un156, @Ty.sz158, @Ty.ag158, @Ty.pt158, @Ty.zr158, @Ty.ap158, @Ty.sz160, @Ty.ag160, @Ty.nf160, @Ty.zr160, @Ty.ap160, @Ty.fd160_0, @Ty.fa160_0, @Ty.fd160_1, @Ty.fa160_1, @Ty.pl160, @Ty.sz166, @Ty.ag166, @Ty.zr166, @Ty.ap166, @Ty.un166, @Ty.sz174, @Ty.ag174, @Ty.nf174, @Ty.zr174, @Ty.ap174, @Ty.un174, @Ty.sz187, @Ty.ag187, @Ty.nf187, @Ty.zr187, @Ty.ap187, @Ty.un187, @Ty.sz191, @Ty.ag191, @Ty.pt191, @Ty.zr191, @Ty.ap191⟩
end Go.Ab
namespace Go.Ab
theorem ZZ : type_of% @AB ∧ type_of% @PL ∧ type_of% @RG ∧ type_of% @LP ∧ type_of% @TY := ⟨@AB, @PL, @RG, @LP, @TY⟩
theorem ZF.{u} {b : Prop} (α : Sort u) [Nonempty α] : (∀ _ : α, b) ↔ b := forall_const α
theorem ZE.{u} {α : Sort u} (a : α) : (a = a) = True := eq_self a
theorem ZN.{u} {α : Sort u} (a b : α) : (a ≠ b) = ¬ a = b := rfl
theorem ZI.{u} {α : Type u} (a b : α) : (some a = some b) = (a = b) := Option.some.injEq a b
theorem ZB.{u} {α : Type u} [BEq α] [ReflBEq α] (a : α) : (a == a) = true := beq_self_eq_true a
theorem Za : type_of% @fin_ndec := @fin_ndec
theorem Zb : type_of% @fin_dec := @fin_dec
theorem Zc : type_of% @cnd_ndec := @cnd_ndec
theorem Zd : type_of% @cnd_dec' := @cnd_dec'
theorem Ze : type_of% @fin_nsplit := @fin_nsplit
theorem Zf : type_of% @fin_split := @fin_split
theorem Zg : type_of% @cnd_nsplit := @cnd_nsplit
theorem Zh : type_of% @cnd_split := @cnd_split
theorem Zi : type_of% @seqS_id := @seqS_id
theorem Zj : type_of% @blk_exit_id := @blk_exit_id
end Go.Ab
