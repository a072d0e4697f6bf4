/-
  Texts of the layer and of the laws, put together: AbT.
-/
import Derived.Test.YtdoofgbeajkpaaaGreatDoorChecked
import Derived.Test.YtdoofgbeajkpaaaGreatDoorAbWP12
import Derived.KernelRfl
set_option linter.unusedSimpArgs false
set_option linter.unusedVariables false
set_option maxRecDepth 100000
set_option linter.defProp false
set_option maxRecDepth 200000
namespace Go.Ab
open Go.RowKit Go.Proofs
section
variable {tab : Tab} {x : AV} {h : Hp}
theorem Ty.sz3 : (ctx Tryz.prog Gt tab).size 3 = some 1 := by kernel_rfl
theorem Ty.ag3 : (ctx Tryz.prog Gt tab).isAgg 3 = some false := by kernel_rfl
theorem Ty.zr3 : (ctx Tryz.prog Gt tab).zero 3 = some (.v (.c (.d (.int .i64 0)))) := by kernel_rfl
theorem Ty.ap3 : (ctx Tryz.prog Gt tab).apz 3 = some (1, 8) := by kernel_rfl
theorem Ty.sz4 : (ctx Tryz.prog Gt tab).size 4 = some 1 := by kernel_rfl
theorem Ty.ag4 : (ctx Tryz.prog Gt tab).isAgg 4 = some false := by kernel_rfl
theorem Ty.zr4 : (ctx Tryz.prog Gt tab).zero 4 = some (.v (.c (.d (.bool false)))) := by kernel_rfl
theorem Ty.un4 : Tryz.prog.underlying 4 = some Go.TypeDesc.bool := by kernel_rfl
theorem Ty.sz5 : (ctx Tryz.prog Gt tab).size 5 = some 1 := by kernel_rfl
theorem Ty.zr5 : (ctx Tryz.prog Gt tab).zero 5 = some (.v (.c (.d (.int .u8 0)))) := by kernel_rfl
theorem Ty.ap5 : (ctx Tryz.prog Gt tab).apz 5 = some (1, 1) := by kernel_rfl
theorem Ty.un5 : Tryz.prog.underlying 5 = some (Go.TypeDesc.int Go.IntKind.u8) := by kernel_rfl
theorem Ty.sz9 : (ctx Tryz.prog Gt tab).size 9 = some 1 := by kernel_rfl
theorem Ty.ag9 : (ctx Tryz.prog Gt tab).isAgg 9 = some false := by kernel_rfl
theorem Ty.zr9 : (ctx Tryz.prog Gt tab).zero 9 = some (.v (.c (.d (.str [])))) := by kernel_rfl
theorem Ty.un9 : Tryz.prog.underlying 9 = some Go.TypeDesc.string := by kernel_rfl
theorem Ty.un22 : Tryz.prog.underlying 22 = some (Go.TypeDesc.slice 41) := by kernel_rfl
theorem Ty.un23 : Tryz.prog.underlying 23 = some (Go.TypeDesc.slice 51) := by kernel_rfl
theorem Ty.sz24 : (ctx Tryz.prog Gt tab).size 24 = some 1 := by kernel_rfl
theorem Ty.ag24 : (ctx Tryz.prog Gt tab).isAgg 24 = some false := by kernel_rfl
theorem Ty.un24 : Tryz.prog.underlying 24 = some (Go.TypeDesc.slice 79) := by kernel_rfl
theorem Ty.un27 : Tryz.prog.underlying 27 = some (Go.TypeDesc.slice 48) := by kernel_rfl
theorem Ty.un28 : Tryz.prog.underlying 28 = some (Go.TypeDesc.slice 93) := by kernel_rfl
theorem Ty.un31 : Tryz.prog.underlying 31 = some (Go.TypeDesc.slice 37) := by kernel_rfl
theorem Ty.sz35 : (ctx Tryz.prog Gt tab).size 35 = some 2 := by kernel_rfl
theorem Ty.ag35 : (ctx Tryz.prog Gt tab).isAgg 35 = some true := by kernel_rfl
theorem Ty.ft35 : (ctx Tryz.prog Gt tab).flat 35 = some [.i .i64, .i .i64] := by kernel_rfl
theorem Ty.zr35 : (ctx Tryz.prog Gt tab).zero 35 = some (.v (.agg [.d (.int .i64 0), .d (.int .i64 0)])) := by kernel_rfl
theorem Ty.ap35 : (ctx Tryz.prog Gt tab).apz 35 = some (2, 16) := by kernel_rfl
theorem Ty.fa35_0 : fldA (ctx Tryz.prog Gt tab) (Tryz.prog.underlying 35) x 0 h = fldP 0 1 x h := by kernel_rfl
theorem Ty.fa35_1 : fldA (ctx Tryz.prog Gt tab) (Tryz.prog.underlying 35) x 1 h = fldP 1 1 x h := by kernel_rfl
theorem Ty.pl35 : (ctx Tryz.prog Gt tab).place 35 = some fun i => [(0, 1), (1, 1)][i]? := by kernel_rfl
theorem Ty.sz37 : (ctx Tryz.prog Gt tab).size 37 = some 5 := by kernel_rfl
theorem Ty.ag37 : (ctx Tryz.prog Gt tab).isAgg 37 = some true := by kernel_rfl
theorem Ty.zr37 : (ctx Tryz.prog Gt tab).zero 37 = some (.v (.agg [.d (.str []), .d (.str []), .d (.str []), .d (.int .i64 0), .d (.int .i64 0)])) := by kernel_rfl
theorem Ty.ap37 : (ctx Tryz.prog Gt tab).apz 37 = some (5, 64) := by kernel_rfl
theorem Ty.fa37_0 : fldA (ctx Tryz.prog Gt tab) (Tryz.prog.underlying 37) x 0 h = fldP 0 1 x h := by kernel_rfl
theorem Ty.fa37_1 : fldA (ctx Tryz.prog Gt tab) (Tryz.prog.underlying 37) x 1 h = fldP 1 1 x h := by kernel_rfl
theorem Ty.fa37_2 : fldA (ctx Tryz.prog Gt tab) (Tryz.prog.underlying 37) x 2 h = fldP 2 1 x h := by kernel_rfl
theorem Ty.fa37_3 : fldA (ctx Tryz.prog Gt tab) (Tryz.prog.underlying 37) x 3 h = fldP 3 2 x h := by kernel_rfl
theorem Ty.pl37 : (ctx Tryz.prog Gt tab).place 37 = some fun i => [(0, 1), (1, 1), (2, 1), (3, 2)][i]? := by kernel_rfl
theorem Ty.sz38 : (ctx Tryz.prog Gt tab).size 38 = some 1 := by kernel_rfl
theorem Ty.ag38 : (ctx Tryz.prog Gt tab).isAgg 38 = some false := by kernel_rfl
theorem Ty.un38 : Tryz.prog.underlying 38 = some (Go.TypeDesc.slice 108) := by kernel_rfl
theorem Ty.sz39 : (ctx Tryz.prog Gt tab).size 39 = some 1 := by kernel_rfl
theorem Ty.ag39 : (ctx Tryz.prog Gt tab).isAgg 39 = some false := by kernel_rfl
theorem Ty.un39 : Tryz.prog.underlying 39 = some (Go.TypeDesc.slice 87) := by kernel_rfl
theorem Ty.sz41 : (ctx Tryz.prog Gt tab).size 41 = some 7 := by kernel_rfl
theorem Ty.ag41 : (ctx Tryz.prog Gt tab).isAgg 41 = some true := by kernel_rfl
theorem Ty.zr41 : (ctx Tryz.prog Gt tab).zero 41 = some (.v (.agg [.d (.str []), .d (.sl true []), .d (.sl true []), .d (.int .i64 0), .d (.int .i64 0), .d (.int .i64 0), .d (.int .i64 0)])) := by kernel_rfl
theorem Ty.fa41_0 : fldA (ctx Tryz.prog Gt tab) (Tryz.prog.underlying 41) x 0 h = fldP 0 1 x h := by kernel_rfl
theorem Ty.fa41_1 : fldA (ctx Tryz.prog Gt tab) (Tryz.prog.underlying 41) x 1 h = fldP 1 1 x h := by kernel_rfl
theorem Ty.fa41_2 : fldA (ctx Tryz.prog Gt tab) (Tryz.prog.underlying 41) x 2 h = fldP 2 1 x h := by kernel_rfl
theorem Ty.fa41_3 : fldA (ctx Tryz.prog Gt tab) (Tryz.prog.underlying 41) x 3 h = fldP 3 1 x h := by kernel_rfl
theorem Ty.fa41_4 : fldA (ctx Tryz.prog Gt tab) (Tryz.prog.underlying 41) x 4 h = fldP 4 1 x h := by kernel_rfl
theorem Ty.fa41_5 : fldA (ctx Tryz.prog Gt tab) (Tryz.prog.underlying 41) x 5 h = fldP 5 1 x h := by kernel_rfl
theorem Ty.fa41_6 : fldA (ctx Tryz.prog Gt tab) (Tryz.prog.underlying 41) x 6 h = fldP 6 1 x h := by kernel_rfl
theorem Ty.pl41 : (ctx Tryz.prog Gt tab).place 41 = some fun i => [(0, 1), (1, 1), (2, 1), (3, 1), (4, 1), (5, 1), (6, 1)][i]? := by kernel_rfl
theorem Ty.sz46 : (ctx Tryz.prog Gt tab).size 46 = some 1 := by kernel_rfl
theorem Ty.ag46 : (ctx Tryz.prog Gt tab).isAgg 46 = some false := by kernel_rfl
theorem Ty.un46 : Tryz.prog.underlying 46 = some (Go.TypeDesc.slice 3) := by kernel_rfl
theorem Ty.sz48 : (ctx Tryz.prog Gt tab).size 48 = some 7 := by kernel_rfl
theorem Ty.ag48 : (ctx Tryz.prog Gt tab).isAgg 48 = some true := by kernel_rfl
theorem Ty.zr48 : (ctx Tryz.prog Gt tab).zero 48 = some (.v (.agg [.d (.str []), .d (.str []), .d (.str []), .d (.int .i64 0), .d (.int .i64 0), .d (.int .i64 0), .d (.sl true [])])) := by kernel_rfl
theorem Ty.ap48 : (ctx Tryz.prog Gt tab).apz 48 = some (7, 96) := by kernel_rfl
theorem Ty.fa48_1 : fldA (ctx Tryz.prog Gt tab) (Tryz.prog.underlying 48) x 1 h = fldP 1 1 x h := by kernel_rfl
theorem Ty.fa48_2 : fldA (ctx Tryz.prog Gt tab) (Tryz.prog.underlying 48) x 2 h = fldP 2 1 x h := by kernel_rfl
theorem Ty.fa48_3 : fldA (ctx Tryz.prog Gt tab) (Tryz.prog.underlying 48) x 3 h = fldP 3 1 x h := by kernel_rfl
theorem Ty.fa48_4 : fldA (ctx Tryz.prog Gt tab) (Tryz.prog.underlying 48) x 4 h = fldP 4 1 x h := by kernel_rfl
theorem Ty.fa48_5 : fldA (ctx Tryz.prog Gt tab) (Tryz.prog.underlying 48) x 5 h = fldP 5 1 x h := by kernel_rfl
theorem Ty.fa48_6 : fldA (ctx Tryz.prog Gt tab) (Tryz.prog.underlying 48) x 6 h = fldP 6 1 x h := by kernel_rfl
theorem Ty.pl48 : (ctx Tryz.prog Gt tab).place 48 = some fun i => [(0, 1), (1, 1), (2, 1), (3, 1), (4, 1), (5, 1), (6, 1)][i]? := by kernel_rfl
theorem Ty.sz49 : (ctx Tryz.prog Gt tab).size 49 = some 1 := by kernel_rfl
theorem Ty.ag49 : (ctx Tryz.prog Gt tab).isAgg 49 = some false := by kernel_rfl
theorem Ty.un49 : Tryz.prog.underlying 49 = some (Go.TypeDesc.slice 9) := by kernel_rfl
theorem Ty.sz51 : (ctx Tryz.prog Gt tab).size 51 = some 7 := by kernel_rfl
theorem Ty.ag51 : (ctx Tryz.prog Gt tab).isAgg 51 = some true := by kernel_rfl
theorem Ty.zr51 : (ctx Tryz.prog Gt tab).zero 51 = some (.v (.agg [.d (.str []), .d (.str []), .d (.sl true []), .d (.int .i64 0), .d (.int .i64 0), .d (.sl true []), .d (.int .i64 0)])) := by kernel_rfl
theorem Ty.fa51_0 : fldA (ctx Tryz.prog Gt tab) (Tryz.prog.underlying 51) x 0 h = fldP 0 1 x h := by kernel_rfl
theorem Ty.fa51_1 : fldA (ctx Tryz.prog Gt tab) (Tryz.prog.underlying 51) x 1 h = fldP 1 1 x h := by kernel_rfl
theorem Ty.fa51_2 : fldA (ctx Tryz.prog Gt tab) (Tryz.prog.underlying 51) x 2 h = fldP 2 1 x h := by kernel_rfl
theorem Ty.fa51_3 : fldA (ctx Tryz.prog Gt tab) (Tryz.prog.underlying 51) x 3 h = fldP 3 2 x h := by kernel_rfl
theorem Ty.fa51_4 : fldA (ctx Tryz.prog Gt tab) (Tryz.prog.underlying 51) x 4 h = fldP 5 1 x h := by kernel_rfl
theorem Ty.fa51_5 : fldA (ctx Tryz.prog Gt tab) (Tryz.prog.underlying 51) x 5 h = fldP 6 1 x h := by kernel_rfl
theorem Ty.sz53 : (ctx Tryz.prog Gt tab).size 53 = some 1 := by kernel_rfl
theorem Ty.ag53 : (ctx Tryz.prog Gt tab).isAgg 53 = some false := by kernel_rfl
theorem Ty.zr53 : (ctx Tryz.prog Gt tab).zero 53 = some (.v (.c (.d (.sl true [])))) := by kernel_rfl
theorem Ty.un53 : Tryz.prog.underlying 53 = some (Go.TypeDesc.slice 35) := by kernel_rfl
theorem Ty.sz54 : (ctx Tryz.prog Gt tab).size 54 = some 1 := by kernel_rfl
theorem Ty.ag54 : (ctx Tryz.prog Gt tab).isAgg 54 = some false := by kernel_rfl
theorem Ty.zr54 : (ctx Tryz.prog Gt tab).zero 54 = some (.v (.c (.d (.int .i64 0)))) := by kernel_rfl
theorem Ty.sz79 : (ctx Tryz.prog Gt tab).size 79 = some 5 := by kernel_rfl
theorem Ty.ag79 : (ctx Tryz.prog Gt tab).isAgg 79 = some true := by kernel_rfl
theorem Ty.ft79 : (ctx Tryz.prog Gt tab).flat 79 = some [.i .i64, .s, .s, .i .i64, .i .i64] := by kernel_rfl
theorem Ty.zr79 : (ctx Tryz.prog Gt tab).zero 79 = some (.v (.agg [.d (.int .i64 0), .d (.str []), .d (.str []), .d (.int .i64 0), .d (.int .i64 0)])) := by kernel_rfl
theorem Ty.ap79 : (ctx Tryz.prog Gt tab).apz 79 = some (5, 56) := by kernel_rfl
theorem Ty.fa79_0 : fldA (ctx Tryz.prog Gt tab) (Tryz.prog.underlying 79) x 0 h = fldP 0 1 x h := by kernel_rfl
theorem Ty.fa79_1 : fldA (ctx Tryz.prog Gt tab) (Tryz.prog.underlying 79) x 1 h = fldP 1 1 x h := by kernel_rfl
theorem Ty.fa79_2 : fldA (ctx Tryz.prog Gt tab) (Tryz.prog.underlying 79) x 2 h = fldP 2 1 x h := by kernel_rfl
theorem Ty.fa79_3 : fldA (ctx Tryz.prog Gt tab) (Tryz.prog.underlying 79) x 3 h = fldP 3 1 x h := by kernel_rfl
theorem Ty.fa79_4 : fldA (ctx Tryz.prog Gt tab) (Tryz.prog.underlying 79) x 4 h = fldP 4 1 x h := by kernel_rfl
theorem Ty.pl79 : (ctx Tryz.prog Gt tab).place 79 = some fun i => [(0, 1), (1, 1), (2, 1), (3, 1), (4, 1)][i]? := by kernel_rfl
theorem Ty.sz87 : (ctx Tryz.prog Gt tab).size 87 = some 3 := by kernel_rfl
theorem Ty.ag87 : (ctx Tryz.prog Gt tab).isAgg 87 = some true := by kernel_rfl
theorem Ty.zr87 : (ctx Tryz.prog Gt tab).zero 87 = some (.v (.agg [.d (.int .i64 0), .d (.int .i64 0), .d (.int .i64 0)])) := by kernel_rfl
theorem Ty.ap87 : (ctx Tryz.prog Gt tab).apz 87 = some (3, 24) := by kernel_rfl
theorem Ty.fa87_0 : fldA (ctx Tryz.prog Gt tab) (Tryz.prog.underlying 87) x 0 h = fldP 0 1 x h := by kernel_rfl
theorem Ty.fa87_1 : fldA (ctx Tryz.prog Gt tab) (Tryz.prog.underlying 87) x 1 h = fldP 1 1 x h := by kernel_rfl
theorem Ty.fa87_2 : fldA (ctx Tryz.prog Gt tab) (Tryz.prog.underlying 87) x 2 h = fldP 2 1 x h := by kernel_rfl
theorem Ty.pl87 : (ctx Tryz.prog Gt tab).place 87 = some fun i => [(0, 1), (1, 1), (2, 1)][i]? := by kernel_rfl
theorem Ty.sz93 : (ctx Tryz.prog Gt tab).size 93 = some 2 := by kernel_rfl
theorem Ty.zr93 : (ctx Tryz.prog Gt tab).zero 93 = some (.v (.agg [.d (.str []), .d (.int .i64 0)])) := by kernel_rfl
theorem Ty.ap93 : (ctx Tryz.prog Gt tab).apz 93 = some (2, 24) := by kernel_rfl
theorem Ty.pl93 : (ctx Tryz.prog Gt tab).place 93 = some fun i => [(0, 1), (1, 1)][i]? := by kernel_rfl
theorem Ty.sz94 : (ctx Tryz.prog Gt tab).size 94 = some 1 := by kernel_rfl
theorem Ty.ag94 : (ctx Tryz.prog Gt tab).isAgg 94 = some false := by kernel_rfl
theorem Ty.mt94 : (ctx Tryz.prog Gt tab).mapTy 94 = some (KTy.int Go.IntKind.i64, 3) := by kernel_rfl
theorem Ty.sz95 : (ctx Tryz.prog Gt tab).size 95 = some 1 := by kernel_rfl
theorem Ty.ag95 : (ctx Tryz.prog Gt tab).isAgg 95 = some false := by kernel_rfl
theorem Ty.mt95 : (ctx Tryz.prog Gt tab).mapTy 95 = some (KTy.agg [.s, .s], 3) := by kernel_rfl
theorem Ty.sz97 : (ctx Tryz.prog Gt tab).size 97 = some 4 := by kernel_rfl
theorem Ty.zr97 : (ctx Tryz.prog Gt tab).zero 97 = some (.v (.agg [.d (.sl true []), .d (.sl true []), .nilm, .nilm])) := by kernel_rfl
theorem Ty.fa97_0 : fldA (ctx Tryz.prog Gt tab) (Tryz.prog.underlying 97) x 0 h = fldP 0 1 x h := by kernel_rfl
theorem Ty.fa97_1 : fldA (ctx Tryz.prog Gt tab) (Tryz.prog.underlying 97) x 1 h = fldP 1 1 x h := by kernel_rfl
theorem Ty.fa97_2 : fldA (ctx Tryz.prog Gt tab) (Tryz.prog.underlying 97) x 2 h = fldP 2 1 x h := by kernel_rfl
theorem Ty.fa97_3 : fldA (ctx Tryz.prog Gt tab) (Tryz.prog.underlying 97) x 3 h = fldP 3 1 x h := by kernel_rfl
theorem Ty.pl97 : (ctx Tryz.prog Gt tab).place 97 = some fun i => [(0, 1), (1, 1), (2, 1), (3, 1)][i]? := by kernel_rfl
theorem Ty.sz100 : (ctx Tryz.prog Gt tab).size 100 = some 2 := by kernel_rfl
theorem Ty.ag100 : (ctx Tryz.prog Gt tab).isAgg 100 = some true := by kernel_rfl
theorem Ty.zr100 : (ctx Tryz.prog Gt tab).zero 100 = some (.v (.agg [.d (.str []), .d (.str [])])) := by kernel_rfl
theorem Ty.pl100 : (ctx Tryz.prog Gt tab).place 100 = some fun i => [(0, 1), (1, 1)][i]? := by kernel_rfl
theorem Ty.sz108 : (ctx Tryz.prog Gt tab).size 108 = some 3 := by kernel_rfl
theorem Ty.ag108 : (ctx Tryz.prog Gt tab).isAgg 108 = some true := by kernel_rfl
theorem Ty.zr108 : (ctx Tryz.prog Gt tab).zero 108 = some (.v (.agg [.d (.int .i64 0), .d (.int .i64 0), .d (.int .i64 0)])) := by kernel_rfl
theorem Ty.ap108 : (ctx Tryz.prog Gt tab).apz 108 = some (3, 24) := by kernel_rfl
theorem Ty.fa108_0 : fldA (ctx Tryz.prog Gt tab) (Tryz.prog.underlying 108) x 0 h = fldP 0 1 x h := by kernel_rfl
theorem Ty.fa108_1 : fldA (ctx Tryz.prog Gt tab) (Tryz.prog.underlying 108) x 1 h = fldP 1 1 x h := by kernel_rfl
theorem Ty.fa108_2 : fldA (ctx Tryz.prog Gt tab) (Tryz.prog.underlying 108) x 2 h = fldP 2 1 x h := by kernel_rfl
theorem Ty.pl108 : (ctx Tryz.prog Gt tab).place 108 = some fun i => [(0, 1), (1, 1), (2, 1)][i]? := by kernel_rfl
theorem Ty.un148 : Tryz.prog.underlying 148 = some (Go.TypeDesc.slice 5) := by kernel_rfl
theorem Ty.un166 : Tryz.prog.underlying 166 = some (Go.TypeDesc.slice 53) := by kernel_rfl
end
def TY := Zk @Ty.sz3 <| Zk @Ty.ag3 <| Zk @Ty.zr3 <| Zk @Ty.ap3 <| Zk @Ty.sz4 <| Zk @Ty.ag4 <| Zk @Ty.zr4 <| Zk @Ty.un4 <| Zk @Ty.sz5 <| Zk @Ty.zr5 <| Zk @Ty.ap5 <| Zk @Ty.un5 <| Zk @Ty.sz9 <| Zk @Ty.ag9 <| Zk @Ty.zr9 <| Zk @Ty.un9 <| Zk @Ty.un22 <| Zk @Ty.un23 <| Zk @Ty.sz24 <| Zk @Ty.ag24 <| Zk @Ty.un24 <| Zk @Ty.un27 <| Zk @Ty.un28 <| Zk @Ty.un31 <| Zk @Ty.sz35 <| Zk @Ty.ag35 <| Zk @Ty.ft35 <| Zk @Ty.zr35 <| Zk @Ty.ap35 <| Zk @Ty.fa35_0 <| Zk @Ty.fa35_1 <| Zk @Ty.pl35 <| Zk @Ty.sz37 <| Zk @Ty.ag37 <| Zk @Ty.zr37 <| Zk @Ty.ap37 <| Zk @Ty.fa37_0 <| Zk @Ty.fa37_1 <| Zk @Ty.fa37_2 <| Zk @Ty.fa37_3 <| Zk @Ty.pl37 <| Zk @Ty.sz38 <| Zk @Ty.ag38 <| Zk @Ty.un38 <| Zk @Ty.sz39 <| Zk @Ty.ag39 <| Zk @Ty.un39 <| Zk @Ty.sz41 <| Zk @Ty.ag41 <| Zk @Ty.zr41 <| Zk @Ty.fa41_0 <| Zk @Ty.fa41_1 <| Zk @Ty.fa41_2 <| Zk @Ty.fa41_3 <| Zk @Ty.fa41_4 <| Zk @Ty.fa41_5 <| Zk @Ty.fa41_6 <| Zk @Ty.pl41 <| Zk @Ty.sz46 <| Zk @Ty.ag46 <| Zk @Ty.un46 <| Zk @Ty.sz48 <| Zk @Ty.ag48 <| Zk @Ty.zr48 <| Zk @Ty.ap48 <| Zk @Ty.fa48_1 <| Zk @Ty.fa48_2 <| Zk @Ty.fa48_3 <| Zk @Ty.fa48_4 <| Zk @Ty.fa48_5 <| Zk @Ty.fa48_6 <| Zk @Ty.pl48 <| Zk @Ty.sz49 <| Zk @Ty.ag49 <| Zk @Ty.un49 <| Zk @Ty.sz51 <| Zk @Ty.ag51 <| Zk @Ty.zr51 <| Zk @Ty.fa51_0 <| Zk @Ty.fa51_1 <| Zk @Ty.fa51_2 <| Zk @Ty.fa51_3 <| Zk @Ty.fa51_4 <| Zk @Ty.fa51_5 <| Zk @Ty.sz53 <| Zk @Ty.ag53 <| Zk @Ty.zr53 <| Zk @Ty.un53 <| Zk @Ty.sz54 <| Zk @Ty.ag54 <| Zk @Ty.zr54 <| Zk @Ty.sz79 <| Zk @Ty.ag79 <| Zk @Ty.ft79 <| Zk @Ty.zr79 <| Zk @Ty.ap79 <| Zk @Ty.fa79_0 <| Zk @Ty.fa79_1 <| Zk @Ty.fa79_2 <| Zk @Ty.fa79_3 <| Zk @Ty.fa79_4 <| Zk @Ty.pl79 <| Zk @Ty.sz87 <| Zk @Ty.ag87 <| Zk @Ty.zr87 <| Zk @Ty.ap87 <| Zk @Ty.fa87_0 <| Zk @Ty.fa87_1 <| Zk @Ty.fa87_2 <| Zk @Ty.pl87 <| Zk @Ty.sz93 <| Zk @Ty.zr93 <| Zk @Ty.ap93 <| Zk @Ty.pl93 <| Zk @Ty.sz94 <| Zk @Ty.ag94 <| Zk @Ty.mt94 <| Zk @Ty.sz95 <| Zk @Ty.ag95 <| Zk @Ty.mt95 <| Zk @Ty.sz97 <| Zk @Ty.zr97 <| Zk @Ty.fa97_0 <| Zk @Ty.fa97_1 <| Zk @Ty.fa97_2 <| Zk @Ty.fa97_3 <| Zk @Ty.pl97 <| Zk @Ty.sz100 <| Zk @Ty.ag100 <| Zk @Ty.zr100 <| Zk @Ty.pl100 <| Zk @Ty.sz108 <| Zk @Ty.ag108 <| Zk @Ty.zr108 <| Zk @Ty.ap108 <| Zk @Ty.fa108_0 <| Zk @Ty.fa108_1 <| Zk @Ty.fa108_2 <| Zk @Ty.pl108 <| Zk @Ty.un148 @Ty.un166
end Go.Ab
namespace Go.Ab
theorem ZF {b : Prop} (α : Type) [Nonempty α] : (∀ _ : α, b) ↔ b := forall_const α
theorem ZP {b : Prop} (α : Prop) [Nonempty α] : (∀ _ : α, b) ↔ b := forall_const α
theorem ZE {α : Type} (a : α) : (a = a) = True := eq_self a
theorem ZN {α : Type} (a b : α) : (a ≠ b) = ¬ a = b := rfl
theorem ZI {α : Type} (a b : α) : (some a = some b) = (a = b) := Option.some.injEq a b
theorem ZB {α : Type} [BEq α] [ReflBEq α] (a : α) : (a == a) = true := beq_self_eq_true a
def ZZ := Zk @AB <| Zk @PL <| Zk @RG <| Zk @LP <| Zk @TY <| Zk @ZF <| Zk @ZP <| Zk @ZE <| Zk @ZN <| Zk @ZI @ZB
theorem Za : type_of% @fin_ndec := @fin_ndec
theorem Zb : type_of% @fin_dec := @fin_dec
theorem Zc : type_of% @cnd_ndec := @cnd_ndec
theorem Zd : type_of% @cnd_dec' := @cnd_dec'
theorem Ze : type_of% @fin_nsplit := @fin_nsplit
theorem Zf : type_of% @fin_split := @fin_split
theorem Zg : type_of% @cnd_nsplit := @cnd_nsplit
theorem Zh : type_of% @cnd_split := @cnd_split
theorem Zi : type_of% @seqS_id := @seqS_id
theorem Zj : type_of% @blk_exit_id := @blk_exit_id
end Go.Ab
