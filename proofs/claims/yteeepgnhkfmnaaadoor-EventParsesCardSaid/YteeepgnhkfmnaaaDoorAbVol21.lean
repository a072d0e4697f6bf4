/-
  Texts of the layer and of the laws, put together: AbT. No law is stated here.
-/
import Derived.Test.YteeepgnhkfmnaaaDoorChecked
import Derived.Test.YteeepgnhkfmnaaaDoorAbVol20
import Derived.KernelRfl
set_option linter.unusedSimpArgs false
set_option linter.unusedVariables false
set_option maxRecDepth 100000

/-
  The types of this seat's program, as equations. Written by tools/types.py.
-/
set_option maxRecDepth 200000
namespace Go.Ab
open Go.RowKit Go.Proofs
section
variable {tab : Tab} {x : AV} {h : Hp}
theorem Ty.sz3 : (ctx Tryd.prog Gt tab).size 3 = some 1 := by kernel_rfl
theorem Ty.ag3 : (ctx Tryd.prog Gt tab).isAgg 3 = some false := by kernel_rfl
theorem Ty.nf3 : (ctx Tryd.prog Gt tab).isIf 3 = some false := by kernel_rfl
theorem Ty.zr3 : (ctx Tryd.prog Gt tab).zero 3 = some (.v (.c (.d (.int .i64 0)))) := by kernel_rfl
theorem Ty.ap3 : (ctx Tryd.prog Gt tab).apz 3 = some (1, 8) := by kernel_rfl
theorem Ty.un3 : Tryd.prog.underlying 3 = some (Go.TypeDesc.int Go.IntKind.i64) := by kernel_rfl
theorem Ty.sz4 : (ctx Tryd.prog Gt tab).size 4 = some 1 := by kernel_rfl
theorem Ty.ag4 : (ctx Tryd.prog Gt tab).isAgg 4 = some false := by kernel_rfl
theorem Ty.zr4 : (ctx Tryd.prog Gt tab).zero 4 = some (.v (.c (.d (.bool false)))) := by kernel_rfl
theorem Ty.ap4 : (ctx Tryd.prog Gt tab).apz 4 = some (1, 1) := by kernel_rfl
theorem Ty.un4 : Tryd.prog.underlying 4 = some Go.TypeDesc.bool := by kernel_rfl
theorem Ty.sz5 : (ctx Tryd.prog Gt tab).size 5 = some 1 := by kernel_rfl
theorem Ty.ag5 : (ctx Tryd.prog Gt tab).isAgg 5 = some false := by kernel_rfl
theorem Ty.nf5 : (ctx Tryd.prog Gt tab).isIf 5 = some false := by kernel_rfl
theorem Ty.zr5 : (ctx Tryd.prog Gt tab).zero 5 = some (.v (.c (.d (.int .u8 0)))) := by kernel_rfl
theorem Ty.ap5 : (ctx Tryd.prog Gt tab).apz 5 = some (1, 1) := by kernel_rfl
theorem Ty.un5 : Tryd.prog.underlying 5 = some (Go.TypeDesc.int Go.IntKind.u8) := by kernel_rfl
theorem Ty.sz9 : (ctx Tryd.prog Gt tab).size 9 = some 1 := by kernel_rfl
theorem Ty.ag9 : (ctx Tryd.prog Gt tab).isAgg 9 = some false := by kernel_rfl
theorem Ty.zr9 : (ctx Tryd.prog Gt tab).zero 9 = some (.v (.c (.d (.str [])))) := by kernel_rfl
theorem Ty.ap9 : (ctx Tryd.prog Gt tab).apz 9 = some (1, 16) := by kernel_rfl
theorem Ty.un9 : Tryd.prog.underlying 9 = some Go.TypeDesc.string := by kernel_rfl
theorem Ty.sz20 : (ctx Tryd.prog Gt tab).size 20 = some 1 := by kernel_rfl
theorem Ty.ag20 : (ctx Tryd.prog Gt tab).isAgg 20 = some false := by kernel_rfl
theorem Ty.if20 : (ctx Tryd.prog Gt tab).ifT 20 = some true := by kernel_rfl
theorem Ty.zr20 : (ctx Tryd.prog Gt tab).zero 20 = some (.v (.c .nili)) := by kernel_rfl
theorem Ty.ap20 : (ctx Tryd.prog Gt tab).apz 20 = some (1, 16) := by kernel_rfl
theorem Ty.sz23 : (ctx Tryd.prog Gt tab).size 23 = some 7 := by kernel_rfl
theorem Ty.ag23 : (ctx Tryd.prog Gt tab).isAgg 23 = some true := by kernel_rfl
theorem Ty.nf23 : (ctx Tryd.prog Gt tab).isIf 23 = some false := by kernel_rfl
theorem Ty.ft23 : (ctx Tryd.prog Gt tab).flat 23 = some [.s, .i .i64, .i .i64, .s, .s, .i .i64, .i .i64] := by kernel_rfl
theorem Ty.zr23 : (ctx Tryd.prog Gt tab).zero 23 = some (.v (.agg [.d (.str []), .d (.int .i64 0), .d (.int .i64 0), .d (.str []), .d (.str []), .d (.int .i64 0), .d (.int .i64 0)])) := by kernel_rfl
theorem Ty.ap23 : (ctx Tryd.prog Gt tab).apz 23 = some (7, 80) := by kernel_rfl
theorem Ty.fd23_0 : fld (ctx Tryd.prog Gt tab) (Tryd.prog.underlying 23) x 0 h = fldV (ctx Tryd.prog Gt tab) 9 0 x h := by kernel_rfl
theorem Ty.fa23_0 : fldA (ctx Tryd.prog Gt tab) (Tryd.prog.underlying 23) x 0 h = fldP 0 1 x h := by kernel_rfl
theorem Ty.fd23_1 : fld (ctx Tryd.prog Gt tab) (Tryd.prog.underlying 23) x 1 h = fldV (ctx Tryd.prog Gt tab) 3 1 x h := by kernel_rfl
theorem Ty.fa23_1 : fldA (ctx Tryd.prog Gt tab) (Tryd.prog.underlying 23) x 1 h = fldP 1 1 x h := by kernel_rfl
theorem Ty.fd23_2 : fld (ctx Tryd.prog Gt tab) (Tryd.prog.underlying 23) x 2 h = fldV (ctx Tryd.prog Gt tab) 3 2 x h := by kernel_rfl
theorem Ty.fa23_2 : fldA (ctx Tryd.prog Gt tab) (Tryd.prog.underlying 23) x 2 h = fldP 2 1 x h := by kernel_rfl
theorem Ty.fd23_3 : fld (ctx Tryd.prog Gt tab) (Tryd.prog.underlying 23) x 3 h = fldV (ctx Tryd.prog Gt tab) 9 3 x h := by kernel_rfl
theorem Ty.fa23_3 : fldA (ctx Tryd.prog Gt tab) (Tryd.prog.underlying 23) x 3 h = fldP 3 1 x h := by kernel_rfl
theorem Ty.fd23_4 : fld (ctx Tryd.prog Gt tab) (Tryd.prog.underlying 23) x 4 h = fldV (ctx Tryd.prog Gt tab) 9 4 x h := by kernel_rfl
theorem Ty.fa23_4 : fldA (ctx Tryd.prog Gt tab) (Tryd.prog.underlying 23) x 4 h = fldP 4 1 x h := by kernel_rfl
theorem Ty.fd23_5 : fld (ctx Tryd.prog Gt tab) (Tryd.prog.underlying 23) x 5 h = fldV (ctx Tryd.prog Gt tab) 3 5 x h := by kernel_rfl
theorem Ty.fa23_5 : fldA (ctx Tryd.prog Gt tab) (Tryd.prog.underlying 23) x 5 h = fldP 5 1 x h := by kernel_rfl
theorem Ty.fd23_6 : fld (ctx Tryd.prog Gt tab) (Tryd.prog.underlying 23) x 6 h = fldV (ctx Tryd.prog Gt tab) 3 6 x h := by kernel_rfl
theorem Ty.fa23_6 : fldA (ctx Tryd.prog Gt tab) (Tryd.prog.underlying 23) x 6 h = fldP 6 1 x h := by kernel_rfl
theorem Ty.pl23 : (ctx Tryd.prog Gt tab).place 23 = some fun i => [(0, 1), (1, 1), (2, 1), (3, 1), (4, 1), (5, 1), (6, 1)][i]? := by kernel_rfl
theorem Ty.sz25 : (ctx Tryd.prog Gt tab).size 25 = some 5 := by kernel_rfl
theorem Ty.ag25 : (ctx Tryd.prog Gt tab).isAgg 25 = some true := by kernel_rfl
theorem Ty.nf25 : (ctx Tryd.prog Gt tab).isIf 25 = some false := by kernel_rfl
theorem Ty.ft25 : (ctx Tryd.prog Gt tab).flat 25 = some [.i .i64, .s, .s, .i .i64, .i .i64] := by kernel_rfl
theorem Ty.zr25 : (ctx Tryd.prog Gt tab).zero 25 = some (.v (.agg [.d (.int .i64 0), .d (.str []), .d (.str []), .d (.int .i64 0), .d (.int .i64 0)])) := by kernel_rfl
theorem Ty.ap25 : (ctx Tryd.prog Gt tab).apz 25 = some (5, 56) := by kernel_rfl
theorem Ty.fd25_0 : fld (ctx Tryd.prog Gt tab) (Tryd.prog.underlying 25) x 0 h = fldV (ctx Tryd.prog Gt tab) 3 0 x h := by kernel_rfl
theorem Ty.fa25_0 : fldA (ctx Tryd.prog Gt tab) (Tryd.prog.underlying 25) x 0 h = fldP 0 1 x h := by kernel_rfl
theorem Ty.fd25_1 : fld (ctx Tryd.prog Gt tab) (Tryd.prog.underlying 25) x 1 h = fldV (ctx Tryd.prog Gt tab) 9 1 x h := by kernel_rfl
theorem Ty.fa25_1 : fldA (ctx Tryd.prog Gt tab) (Tryd.prog.underlying 25) x 1 h = fldP 1 1 x h := by kernel_rfl
theorem Ty.fd25_2 : fld (ctx Tryd.prog Gt tab) (Tryd.prog.underlying 25) x 2 h = fldV (ctx Tryd.prog Gt tab) 9 2 x h := by kernel_rfl
theorem Ty.fa25_2 : fldA (ctx Tryd.prog Gt tab) (Tryd.prog.underlying 25) x 2 h = fldP 2 1 x h := by kernel_rfl
theorem Ty.fd25_3 : fld (ctx Tryd.prog Gt tab) (Tryd.prog.underlying 25) x 3 h = fldV (ctx Tryd.prog Gt tab) 3 3 x h := by kernel_rfl
theorem Ty.fa25_3 : fldA (ctx Tryd.prog Gt tab) (Tryd.prog.underlying 25) x 3 h = fldP 3 1 x h := by kernel_rfl
theorem Ty.fd25_4 : fld (ctx Tryd.prog Gt tab) (Tryd.prog.underlying 25) x 4 h = fldV (ctx Tryd.prog Gt tab) 3 4 x h := by kernel_rfl
theorem Ty.fa25_4 : fldA (ctx Tryd.prog Gt tab) (Tryd.prog.underlying 25) x 4 h = fldP 4 1 x h := by kernel_rfl
theorem Ty.pl25 : (ctx Tryd.prog Gt tab).place 25 = some fun i => [(0, 1), (1, 1), (2, 1), (3, 1), (4, 1)][i]? := by kernel_rfl
theorem Ty.sz27 : (ctx Tryd.prog Gt tab).size 27 = some 16 := by kernel_rfl
theorem Ty.ag27 : (ctx Tryd.prog Gt tab).isAgg 27 = some true := by kernel_rfl
theorem Ty.nf27 : (ctx Tryd.prog Gt tab).isIf 27 = some false := by kernel_rfl
theorem Ty.ft27 : (ctx Tryd.prog Gt tab).flat 27 = some [.i .i64, .s, .i .i64, .i .i64, .s, .s, .i .i64, .i .i64, .i .i64, .s, .s, .i .i64, .i .i64, .i .i64, .s, .i .i64] := by kernel_rfl
theorem Ty.zr27 : (ctx Tryd.prog Gt tab).zero 27 = some (.v (.agg [.d (.int .i64 0), .d (.str []), .d (.int .i64 0), .d (.int .i64 0), .d (.str []), .d (.str []), .d (.int .i64 0), .d (.int .i64 0), .d (.int .i64 0), .d (.str []), .d (.str []), .d (.int .i64 0), .d (.int .i64 0), .d (.int .i64 0), .d (.str []), .d (.int .i64 0)])) := by kernel_rfl
theorem Ty.ap27 : (ctx Tryd.prog Gt tab).apz 27 = some (16, 176) := by kernel_rfl
theorem Ty.fd27_0 : fld (ctx Tryd.prog Gt tab) (Tryd.prog.underlying 27) x 0 h = fldV (ctx Tryd.prog Gt tab) 3 0 x h := by kernel_rfl
theorem Ty.fa27_0 : fldA (ctx Tryd.prog Gt tab) (Tryd.prog.underlying 27) x 0 h = fldP 0 1 x h := by kernel_rfl
theorem Ty.fd27_1 : fld (ctx Tryd.prog Gt tab) (Tryd.prog.underlying 27) x 1 h = fldV (ctx Tryd.prog Gt tab) 23 1 x h := by kernel_rfl
theorem Ty.fa27_1 : fldA (ctx Tryd.prog Gt tab) (Tryd.prog.underlying 27) x 1 h = fldP 1 7 x h := by kernel_rfl
theorem Ty.fd27_2 : fld (ctx Tryd.prog Gt tab) (Tryd.prog.underlying 27) x 2 h = fldV (ctx Tryd.prog Gt tab) 25 8 x h := by kernel_rfl
theorem Ty.fa27_2 : fldA (ctx Tryd.prog Gt tab) (Tryd.prog.underlying 27) x 2 h = fldP 8 5 x h := by kernel_rfl
theorem Ty.fd27_3 : fld (ctx Tryd.prog Gt tab) (Tryd.prog.underlying 27) x 3 h = fldV (ctx Tryd.prog Gt tab) 3 13 x h := by kernel_rfl
theorem Ty.fa27_3 : fldA (ctx Tryd.prog Gt tab) (Tryd.prog.underlying 27) x 3 h = fldP 13 1 x h := by kernel_rfl
theorem Ty.fd27_4 : fld (ctx Tryd.prog Gt tab) (Tryd.prog.underlying 27) x 4 h = fldV (ctx Tryd.prog Gt tab) 9 14 x h := by kernel_rfl
theorem Ty.fa27_4 : fldA (ctx Tryd.prog Gt tab) (Tryd.prog.underlying 27) x 4 h = fldP 14 1 x h := by kernel_rfl
theorem Ty.fd27_5 : fld (ctx Tryd.prog Gt tab) (Tryd.prog.underlying 27) x 5 h = fldV (ctx Tryd.prog Gt tab) 3 15 x h := by kernel_rfl
theorem Ty.fa27_5 : fldA (ctx Tryd.prog Gt tab) (Tryd.prog.underlying 27) x 5 h = fldP 15 1 x h := by kernel_rfl
theorem Ty.pl27 : (ctx Tryd.prog Gt tab).place 27 = some fun i => [(0, 1), (1, 7), (8, 5), (13, 1), (14, 1), (15, 1)][i]? := by kernel_rfl
theorem Ty.sz29 : (ctx Tryd.prog Gt tab).size 29 = some 1 := by kernel_rfl
theorem Ty.ag29 : (ctx Tryd.prog Gt tab).isAgg 29 = some false := by kernel_rfl
theorem Ty.nf29 : (ctx Tryd.prog Gt tab).isIf 29 = some false := by kernel_rfl
theorem Ty.zr29 : (ctx Tryd.prog Gt tab).zero 29 = some (.v (.c (.d (.int .i64 0)))) := by kernel_rfl
theorem Ty.ap29 : (ctx Tryd.prog Gt tab).apz 29 = some (1, 8) := by kernel_rfl
theorem Ty.un29 : Tryd.prog.underlying 29 = some (Go.TypeDesc.int Go.IntKind.i64) := by kernel_rfl
theorem Ty.sz41 : (ctx Tryd.prog Gt tab).size 41 = some 1 := by kernel_rfl
theorem Ty.ag41 : (ctx Tryd.prog Gt tab).isAgg 41 = some false := by kernel_rfl
theorem Ty.zr41 : (ctx Tryd.prog Gt tab).zero 41 = some (.v (.c (.d (.sl true [])))) := by kernel_rfl
theorem Ty.ap41 : (ctx Tryd.prog Gt tab).apz 41 = some (1, 24) := by kernel_rfl
theorem Ty.un41 : Tryd.prog.underlying 41 = some (Go.TypeDesc.slice 5) := by kernel_rfl
theorem Ty.sz56 : (ctx Tryd.prog Gt tab).size 56 = some 1 := by kernel_rfl
theorem Ty.ag56 : (ctx Tryd.prog Gt tab).isAgg 56 = some false := by kernel_rfl
theorem Ty.zr56 : (ctx Tryd.prog Gt tab).zero 56 = some (.v (.c (.d (.sl true [])))) := by kernel_rfl
theorem Ty.ap56 : (ctx Tryd.prog Gt tab).apz 56 = some (1, 24) := by kernel_rfl
theorem Ty.un56 : Tryd.prog.underlying 56 = some (Go.TypeDesc.slice 63) := by kernel_rfl
theorem Ty.sz59 : (ctx Tryd.prog Gt tab).size 59 = some 1 := by kernel_rfl
theorem Ty.ag59 : (ctx Tryd.prog Gt tab).isAgg 59 = some false := by kernel_rfl
theorem Ty.pt59 : (ctx Tryd.prog Gt tab).ptT 59 = some true := by kernel_rfl
theorem Ty.zr59 : (ctx Tryd.prog Gt tab).zero 59 = some (.v (.c .nilp)) := by kernel_rfl
theorem Ty.ap59 : (ctx Tryd.prog Gt tab).apz 59 = some (1, 8) := by kernel_rfl
theorem Ty.sz60 : (ctx Tryd.prog Gt tab).size 60 = some 1 := by kernel_rfl
theorem Ty.ag60 : (ctx Tryd.prog Gt tab).isAgg 60 = some false := by kernel_rfl
theorem Ty.pt60 : (ctx Tryd.prog Gt tab).ptT 60 = some true := by kernel_rfl
theorem Ty.zr60 : (ctx Tryd.prog Gt tab).zero 60 = some (.v (.c .nilp)) := by kernel_rfl
theorem Ty.ap60 : (ctx Tryd.prog Gt tab).apz 60 = some (1, 8) := by kernel_rfl
theorem Ty.sz61 : (ctx Tryd.prog Gt tab).size 61 = some 1 := by kernel_rfl
theorem Ty.ag61 : (ctx Tryd.prog Gt tab).isAgg 61 = some false := by kernel_rfl
theorem Ty.pt61 : (ctx Tryd.prog Gt tab).ptT 61 = some true := by kernel_rfl
theorem Ty.zr61 : (ctx Tryd.prog Gt tab).zero 61 = some (.v (.c .nilp)) := by kernel_rfl
theorem Ty.ap61 : (ctx Tryd.prog Gt tab).apz 61 = some (1, 8) := by kernel_rfl
theorem Ty.sz63 : (ctx Tryd.prog Gt tab).size 63 = some 2 := by kernel_rfl
theorem Ty.ag63 : (ctx Tryd.prog Gt tab).isAgg 63 = some true := by kernel_rfl
theorem Ty.nf63 : (ctx Tryd.prog Gt tab).isIf 63 = some false := by kernel_rfl
theorem Ty.zr63 : (ctx Tryd.prog Gt tab).zero 63 = some (.v (.agg [.nilp, .nilp])) := by kernel_rfl
theorem Ty.ap63 : (ctx Tryd.prog Gt tab).apz 63 = some (2, 16) := by kernel_rfl
theorem Ty.fd63_0 : fld (ctx Tryd.prog Gt tab) (Tryd.prog.underlying 63) x 0 h = fldV (ctx Tryd.prog Gt tab) 60 0 x h := by kernel_rfl
theorem Ty.fa63_0 : fldA (ctx Tryd.prog Gt tab) (Tryd.prog.underlying 63) x 0 h = fldP 0 1 x h := by kernel_rfl
theorem Ty.fd63_1 : fld (ctx Tryd.prog Gt tab) (Tryd.prog.underlying 63) x 1 h = fldV (ctx Tryd.prog Gt tab) 61 1 x h := by kernel_rfl
theorem Ty.fa63_1 : fldA (ctx Tryd.prog Gt tab) (Tryd.prog.underlying 63) x 1 h = fldP 1 1 x h := by kernel_rfl
theorem Ty.pl63 : (ctx Tryd.prog Gt tab).place 63 = some fun i => [(0, 1), (1, 1)][i]? := by kernel_rfl
theorem Ty.sz67 : (ctx Tryd.prog Gt tab).size 67 = some 1 := by kernel_rfl
theorem Ty.ag67 : (ctx Tryd.prog Gt tab).isAgg 67 = some false := by kernel_rfl
theorem Ty.zr67 : (ctx Tryd.prog Gt tab).zero 67 = some (.v (.c (.d (.sl true [])))) := by kernel_rfl
theorem Ty.ap67 : (ctx Tryd.prog Gt tab).apz 67 = some (1, 24) := by kernel_rfl
theorem Ty.un67 : Tryd.prog.underlying 67 = some (Go.TypeDesc.slice 9) := by kernel_rfl
theorem Ty.sz77 : (ctx Tryd.prog Gt tab).size 77 = some 3 := by kernel_rfl
theorem Ty.ag77 : (ctx Tryd.prog Gt tab).isAgg 77 = some true := by kernel_rfl
theorem Ty.nf77 : (ctx Tryd.prog Gt tab).isIf 77 = some false := by kernel_rfl
theorem Ty.zr77 : (ctx Tryd.prog Gt tab).zero 77 = some (.v (.agg [.d (.sl true []), .d (.int .i64 0), .d (.bool false)])) := by kernel_rfl
theorem Ty.ap77 : (ctx Tryd.prog Gt tab).apz 77 = some (3, 40) := by kernel_rfl
theorem Ty.fd77_0 : fld (ctx Tryd.prog Gt tab) (Tryd.prog.underlying 77) x 0 h = fldV (ctx Tryd.prog Gt tab) 67 0 x h := by kernel_rfl
theorem Ty.fa77_0 : fldA (ctx Tryd.prog Gt tab) (Tryd.prog.underlying 77) x 0 h = fldP 0 1 x h := by kernel_rfl
theorem Ty.fd77_1 : fld (ctx Tryd.prog Gt tab) (Tryd.prog.underlying 77) x 1 h = fldV (ctx Tryd.prog Gt tab) 3 1 x h := by kernel_rfl
theorem Ty.fa77_1 : fldA (ctx Tryd.prog Gt tab) (Tryd.prog.underlying 77) x 1 h = fldP 1 1 x h := by kernel_rfl
theorem Ty.fd77_2 : fld (ctx Tryd.prog Gt tab) (Tryd.prog.underlying 77) x 2 h = fldV (ctx Tryd.prog Gt tab) 4 2 x h := by kernel_rfl
theorem Ty.fa77_2 : fldA (ctx Tryd.prog Gt tab) (Tryd.prog.underlying 77) x 2 h = fldP 2 1 x h := by kernel_rfl
theorem Ty.pl77 : (ctx Tryd.prog Gt tab).place 77 = some fun i => [(0, 1), (1, 1), (2, 1)][i]? := by kernel_rfl
theorem Ty.sz85 : (ctx Tryd.prog Gt tab).size 85 = some 3 := by kernel_rfl
theorem Ty.ag85 : (ctx Tryd.prog Gt tab).isAgg 85 = some true := by kernel_rfl
theorem Ty.nf85 : (ctx Tryd.prog Gt tab).isIf 85 = some false := by kernel_rfl
theorem Ty.zr85 : (ctx Tryd.prog Gt tab).zero 85 = some (.v (.agg [.d (.sl true []), .d (.int .i64 0), .d (.int .i64 0)])) := by kernel_rfl
theorem Ty.ap85 : (ctx Tryd.prog Gt tab).apz 85 = some (3, 40) := by kernel_rfl
theorem Ty.fd85_0 : fld (ctx Tryd.prog Gt tab) (Tryd.prog.underlying 85) x 0 h = fldV (ctx Tryd.prog Gt tab) 41 0 x h := by kernel_rfl
theorem Ty.fa85_0 : fldA (ctx Tryd.prog Gt tab) (Tryd.prog.underlying 85) x 0 h = fldP 0 1 x h := by kernel_rfl
theorem Ty.fd85_1 : fld (ctx Tryd.prog Gt tab) (Tryd.prog.underlying 85) x 1 h = fldV (ctx Tryd.prog Gt tab) 3 1 x h := by kernel_rfl
theorem Ty.fa85_1 : fldA (ctx Tryd.prog Gt tab) (Tryd.prog.underlying 85) x 1 h = fldP 1 1 x h := by kernel_rfl
theorem Ty.fd85_2 : fld (ctx Tryd.prog Gt tab) (Tryd.prog.underlying 85) x 2 h = fldV (ctx Tryd.prog Gt tab) 3 2 x h := by kernel_rfl
theorem Ty.fa85_2 : fldA (ctx Tryd.prog Gt tab) (Tryd.prog.underlying 85) x 2 h = fldP 2 1 x h := by kernel_rfl
theorem Ty.pl85 : (ctx Tryd.prog Gt tab).place 85 = some fun i => [(0, 1), (1, 1), (2, 1)][i]? := by kernel_rfl
theorem Ty.sz94 : (ctx Tryd.prog Gt tab).size 94 = some 1 := by kernel_rfl
theorem Ty.ag94 : (ctx Tryd.prog Gt tab).isAgg 94 = some false := by kernel_rfl
theorem Ty.pt94 : (ctx Tryd.prog Gt tab).ptT 94 = some true := by kernel_rfl
theorem Ty.zr94 : (ctx Tryd.prog Gt tab).zero 94 = some (.v (.c .nilp)) := by kernel_rfl
theorem Ty.ap94 : (ctx Tryd.prog Gt tab).apz 94 = some (1, 8) := by kernel_rfl
theorem Ty.sz98 : (ctx Tryd.prog Gt tab).size 98 = some 1 := by kernel_rfl
theorem Ty.ag98 : (ctx Tryd.prog Gt tab).isAgg 98 = some false := by kernel_rfl
theorem Ty.nf98 : (ctx Tryd.prog Gt tab).isIf 98 = some false := by kernel_rfl
theorem Ty.zr98 : (ctx Tryd.prog Gt tab).zero 98 = some (.v (.c (.d (.int .u64 0)))) := by kernel_rfl
theorem Ty.ap98 : (ctx Tryd.prog Gt tab).apz 98 = some (1, 8) := by kernel_rfl
theorem Ty.un98 : Tryd.prog.underlying 98 = some (Go.TypeDesc.int Go.IntKind.u64) := by kernel_rfl
theorem Ty.sz104 : (ctx Tryd.prog Gt tab).size 104 = some 1 := by kernel_rfl
theorem Ty.ag104 : (ctx Tryd.prog Gt tab).isAgg 104 = some false := by kernel_rfl
theorem Ty.pt104 : (ctx Tryd.prog Gt tab).ptT 104 = some true := by kernel_rfl
theorem Ty.zr104 : (ctx Tryd.prog Gt tab).zero 104 = some (.v (.c .nilp)) := by kernel_rfl
theorem Ty.ap104 : (ctx Tryd.prog Gt tab).apz 104 = some (1, 8) := by kernel_rfl
theorem Ty.sz109 : (ctx Tryd.prog Gt tab).size 109 = some 1 := by kernel_rfl
theorem Ty.ag109 : (ctx Tryd.prog Gt tab).isAgg 109 = some false := by kernel_rfl
theorem Ty.zr109 : (ctx Tryd.prog Gt tab).zero 109 = some (.v (.c (.d (.sl true [])))) := by kernel_rfl
theorem Ty.ap109 : (ctx Tryd.prog Gt tab).apz 109 = some (1, 24) := by kernel_rfl
theorem Ty.un109 : Tryd.prog.underlying 109 = some (Go.TypeDesc.slice 56) := by kernel_rfl
theorem Ty.sz110 : (ctx Tryd.prog Gt tab).size 110 = some 1 := by kernel_rfl
theorem Ty.ag110 : (ctx Tryd.prog Gt tab).isAgg 110 = some false := by kernel_rfl
theorem Ty.zr110 : (ctx Tryd.prog Gt tab).zero 110 = some (.v (.c (.d (.sl true [])))) := by kernel_rfl
theorem Ty.ap110 : (ctx Tryd.prog Gt tab).apz 110 = some (1, 24) := by kernel_rfl
theorem Ty.un110 : Tryd.prog.underlying 110 = some (Go.TypeDesc.slice 61) := by kernel_rfl
theorem Ty.sz111 : (ctx Tryd.prog Gt tab).size 111 = some 1 := by kernel_rfl
theorem Ty.ag111 : (ctx Tryd.prog Gt tab).isAgg 111 = some false := by kernel_rfl
theorem Ty.zr111 : (ctx Tryd.prog Gt tab).zero 111 = some (.v (.c (.d (.sl true [])))) := by kernel_rfl
theorem Ty.ap111 : (ctx Tryd.prog Gt tab).apz 111 = some (1, 24) := by kernel_rfl
theorem Ty.un111 : Tryd.prog.underlying 111 = some (Go.TypeDesc.slice 60) := by kernel_rfl
theorem Ty.sz115 : (ctx Tryd.prog Gt tab).size 115 = some 1 := by kernel_rfl
theorem Ty.ag115 : (ctx Tryd.prog Gt tab).isAgg 115 = some false := by kernel_rfl
theorem Ty.pt115 : (ctx Tryd.prog Gt tab).ptT 115 = some true := by kernel_rfl
theorem Ty.zr115 : (ctx Tryd.prog Gt tab).zero 115 = some (.v (.c .nilp)) := by kernel_rfl
theorem Ty.ap115 : (ctx Tryd.prog Gt tab).apz 115 = some (1, 8) := by kernel_rfl
theorem Ty.sz118 : (ctx Tryd.prog Gt tab).size 118 = some 2 := by kernel_rfl
theorem Ty.ag118 : (ctx Tryd.prog Gt tab).isAgg 118 = some true := by kernel_rfl
theorem Ty.nf118 : (ctx Tryd.prog Gt tab).isIf 118 = some false := by kernel_rfl
theorem Ty.zr118 : (ctx Tryd.prog Gt tab).zero 118 = some (.v (.agg [.d (.sl true []), .d (.int .i64 0)])) := by kernel_rfl
theorem Ty.ap118 : (ctx Tryd.prog Gt tab).apz 118 = some (2, 32) := by kernel_rfl
theorem Ty.fd118_0 : fld (ctx Tryd.prog Gt tab) (Tryd.prog.underlying 118) x 0 h = fldV (ctx Tryd.prog Gt tab) 41 0 x h := by kernel_rfl
theorem Ty.fa118_0 : fldA (ctx Tryd.prog Gt tab) (Tryd.prog.underlying 118) x 0 h = fldP 0 1 x h := by kernel_rfl
theorem Ty.fd118_1 : fld (ctx Tryd.prog Gt tab) (Tryd.prog.underlying 118) x 1 h = fldV (ctx Tryd.prog Gt tab) 3 1 x h := by kernel_rfl
theorem Ty.fa118_1 : fldA (ctx Tryd.prog Gt tab) (Tryd.prog.underlying 118) x 1 h = fldP 1 1 x h := by kernel_rfl
theorem Ty.pl118 : (ctx Tryd.prog Gt tab).place 118 = some fun i => [(0, 1), (1, 1)][i]? := by kernel_rfl
end

/-- All of them, for simp. -/
theorem TY : type_of% @Ty.sz3 ∧
  type_of% @Ty.ag3 ∧
  type_of% @Ty.nf3 ∧
  type_of% @Ty.zr3 ∧
  type_of% @Ty.ap3 ∧
  type_of% @Ty.un3 ∧
  type_of% @Ty.sz4 ∧
  type_of% @Ty.ag4 ∧
  type_of% @Ty.zr4 ∧
  type_of% @Ty.ap4 ∧
  type_of% @Ty.un4 ∧
  type_of% @Ty.sz5 ∧
  type_of% @Ty.ag5 ∧
  type_of% @Ty.nf5 ∧
  type_of% @Ty.zr5 ∧
  type_of% @Ty.ap5 ∧
  type_of% @Ty.un5 ∧
  type_of% @Ty.sz9 ∧
  type_of% @Ty.ag9 ∧
  type_of% @Ty.zr9 ∧
  type_of% @Ty.ap9 ∧
  type_of% @Ty.un9 ∧
  type_of% @Ty.sz20 ∧
  type_of% @Ty.ag20 ∧
  type_of% @Ty.if20 ∧
  type_of% @Ty.zr20 ∧
  type_of% @Ty.ap20 ∧
  type_of% @Ty.sz23 ∧
  type_of% @Ty.ag23 ∧
  type_of% @Ty.nf23 ∧
  type_of% @Ty.ft23 ∧
  type_of% @Ty.zr23 ∧
  type_of% @Ty.ap23 ∧
  type_of% @Ty.fd23_0 ∧
  type_of% @Ty.fa23_0 ∧
  type_of% @Ty.fd23_1 ∧
  type_of% @Ty.fa23_1 ∧
  type_of% @Ty.fd23_2 ∧
  type_of% @Ty.fa23_2 ∧
  type_of% @Ty.fd23_3 ∧
  type_of% @Ty.fa23_3 ∧
  type_of% @Ty.fd23_4 ∧
  type_of% @Ty.fa23_4 ∧
  type_of% @Ty.fd23_5 ∧
  type_of% @Ty.fa23_5 ∧
  type_of% @Ty.fd23_6 ∧
  type_of% @Ty.fa23_6 ∧
  type_of% @Ty.pl23 ∧
  type_of% @Ty.sz25 ∧
  type_of% @Ty.ag25 ∧
  type_of% @Ty.nf25 ∧
  type_of% @Ty.ft25 ∧
  type_of% @Ty.zr25 ∧
  type_of% @Ty.ap25 ∧
  type_of% @Ty.fd25_0 ∧
  type_of% @Ty.fa25_0 ∧
  type_of% @Ty.fd25_1 ∧
  type_of% @Ty.fa25_1 ∧
  type_of% @Ty.fd25_2 ∧
  type_of% @Ty.fa25_2 ∧
  type_of% @Ty.fd25_3 ∧
  type_of% @Ty.fa25_3 ∧
  type_of% @Ty.fd25_4 ∧
  type_of% @Ty.fa25_4 ∧
  type_of% @Ty.pl25 ∧
  type_of% @Ty.sz27 ∧
  type_of% @Ty.ag27 ∧
  type_of% @Ty.nf27 ∧
  type_of% @Ty.ft27 ∧
  type_of% @Ty.zr27 ∧
  type_of% @Ty.ap27 ∧
  type_of% @Ty.fd27_0 ∧
  type_of% @Ty.fa27_0 ∧
  type_of% @Ty.fd27_1 ∧
  type_of% @Ty.fa27_1 ∧
  type_of% @Ty.fd27_2 ∧
  type_of% @Ty.fa27_2 ∧
  type_of% @Ty.fd27_3 ∧
  type_of% @Ty.fa27_3 ∧
  type_of% @Ty.fd27_4 ∧
  type_of% @Ty.fa27_4 ∧
  type_of% @Ty.fd27_5 ∧
  type_of% @Ty.fa27_5 ∧
  type_of% @Ty.pl27 ∧
  type_of% @Ty.sz29 ∧
  type_of% @Ty.ag29 ∧
  type_of% @Ty.nf29 ∧
  type_of% @Ty.zr29 ∧
  type_of% @Ty.ap29 ∧
  type_of% @Ty.un29 ∧
  type_of% @Ty.sz41 ∧
  type_of% @Ty.ag41 ∧
  type_of% @Ty.zr41 ∧
  type_of% @Ty.ap41 ∧
  type_of% @Ty.un41 ∧
  type_of% @Ty.sz56 ∧
  type_of% @Ty.ag56 ∧
  type_of% @Ty.zr56 ∧
  type_of% @Ty.ap56 ∧
  type_of% @Ty.un56 ∧
  type_of% @Ty.sz59 ∧
  type_of% @Ty.ag59 ∧
  type_of% @Ty.pt59 ∧
  type_of% @Ty.zr59 ∧
  type_of% @Ty.ap59 ∧
  type_of% @Ty.sz60 ∧
  type_of% @Ty.ag60 ∧
  type_of% @Ty.pt60 ∧
  type_of% @Ty.zr60 ∧
  type_of% @Ty.ap60 ∧
  type_of% @Ty.sz61 ∧
  type_of% @Ty.ag61 ∧
  type_of% @Ty.pt61 ∧
  type_of% @Ty.zr61 ∧
  type_of% @Ty.ap61 ∧
  type_of% @Ty.sz63 ∧
  type_of% @Ty.ag63 ∧
  type_of% @Ty.nf63 ∧
  type_of% @Ty.zr63 ∧
  type_of% @Ty.ap63 ∧
  type_of% @Ty.fd63_0 ∧
  type_of% @Ty.fa63_0 ∧
  type_of% @Ty.fd63_1 ∧
  type_of% @Ty.fa63_1 ∧
  type_of% @Ty.pl63 ∧
  type_of% @Ty.sz67 ∧
  type_of% @Ty.ag67 ∧
  type_of% @Ty.zr67 ∧
  type_of% @Ty.ap67 ∧
  type_of% @Ty.un67 ∧
  type_of% @Ty.sz77 ∧
  type_of% @Ty.ag77 ∧
  type_of% @Ty.nf77 ∧
  type_of% @Ty.zr77 ∧
  type_of% @Ty.ap77 ∧
  type_of% @Ty.fd77_0 ∧
  type_of% @Ty.fa77_0 ∧
  type_of% @Ty.fd77_1 ∧
  type_of% @Ty.fa77_1 ∧
  type_of% @Ty.fd77_2 ∧
  type_of% @Ty.fa77_2 ∧
  type_of% @Ty.pl77 ∧
  type_of% @Ty.sz85 ∧
  type_of% @Ty.ag85 ∧
  type_of% @Ty.nf85 ∧
  type_of% @Ty.zr85 ∧
  type_of% @Ty.ap85 ∧
  type_of% @Ty.fd85_0 ∧
  type_of% @Ty.fa85_0 ∧
  type_of% @Ty.fd85_1 ∧
  type_of% @Ty.fa85_1 ∧
  type_of% @Ty.fd85_2 ∧
  type_of% @Ty.fa85_2 ∧
  type_of% @Ty.pl85 ∧
  type_of% @Ty.sz94 ∧
  type_of% @Ty.ag94 ∧
  type_of% @Ty.pt94 ∧
  type_of% @Ty.zr94 ∧
  type_of% @Ty.ap94 ∧
  type_of% @Ty.sz98 ∧
  type_of% @Ty.ag98 ∧
  type_of% @Ty.nf98 ∧
  type_of% @Ty.zr98 ∧
  type_of% @Ty.ap98 ∧
  type_of% @Ty.un98 ∧
  type_of% @Ty.sz104 ∧
  type_of% @Ty.ag104 ∧
  type_of% @Ty.pt104 ∧
  type_of% @Ty.zr104 ∧
  type_of% @Ty.ap104 ∧
  type_of% @Ty.sz109 ∧
  type_of% @Ty.ag109 ∧
  type_of% @Ty.zr109 ∧
  type_of% @Ty.ap109 ∧
  type_of% @Ty.un109 ∧
  type_of% @Ty.sz110 ∧
  type_of% @Ty.ag110 ∧
  type_of% @Ty.zr110 ∧
  type_of% @Ty.ap110 ∧
  type_of% @Ty.un110 ∧
  type_of% @Ty.sz111 ∧
  type_of% @Ty.ag111 ∧
  type_of% @Ty.zr111 ∧
  type_of% @Ty.ap111 ∧
  type_of% @Ty.un111 ∧
  type_of% @Ty.sz115 ∧
  type_of% @Ty.ag115 ∧
  type_of% @Ty.pt115 ∧
  type_of% @Ty.zr115 ∧
  type_of% @Ty.ap115 ∧
  type_of% @Ty.sz118 ∧
  type_of% @Ty.ag118 ∧
  type_of% @Ty.nf118 ∧
  type_of% @Ty.zr118 ∧
  type_of% @Ty.ap118 ∧
  type_of% @Ty.fd118_0 ∧
  type_of% @Ty.fa118_0 ∧
  type_of% @Ty.fd118_1 ∧
  type_of% @Ty.fa118_1 ∧
  type_of% @Ty.pl118 :=
  ⟨@Ty.sz3, @Ty.ag3, @Ty.nf3, @Ty.zr3, @Ty.ap3, @Ty.un3, @Ty.sz4, @Ty.ag4, @Ty.zr4, @Ty.ap4, @Ty.un4, @Ty.sz5, @Ty.ag5, @Ty.nf5, @Ty.zr5, @Ty.ap5, @Ty.un5, @Ty.sz9, @Ty.ag9, @Ty.zr9, @Ty.ap9, @Ty.un9, @Ty.sz20, @Ty.ag20, @Ty.if20, @Ty.zr20, @Ty.ap20, @Ty.sz23, @Ty.ag23, @Ty.nf23, @Ty.ft23, @Ty.zr23, @Ty.ap23, @Ty.fd23_0, @Ty.fa23_0, @Ty.fd23_1, @Ty.fa23_1, @Ty.fd23_2, @Ty.fa23_2, @Ty.fd23_3, @Ty.fa23_3, @Ty.fd23_4, @Ty.fa23_4, @Ty.fd23_5, @Ty.fa23_5, @Ty.fd23_6, @Ty.fa23_6, @Ty.pl23, @Ty.sz25, @Ty.ag25, @Ty.nf25, @Ty.ft25, @Ty.zr25, @Ty.ap25, @Ty.fd25_0, @Ty.fa25_0, @Ty.fd25_1, @Ty.fa25_1, @Ty.fd25_2, @Ty.fa25_2, @Ty.fd25_3, @Ty.fa25_3, @Ty.fd25_4, @Ty.fa25_4, @Ty.pl25, @Ty.sz27, @Ty.ag27, @Ty.nf27, @Ty.ft27, @Ty.zr27, @Ty.ap27, @Ty.fd27_0, @Ty.fa27_0, @Ty.fd27_1, @Ty.fa27_1, @Ty.fd27_2, @Ty.fa27_2, @Ty.fd27_3, @Ty.fa27_3, @Ty.fd27_4, @Ty.fa27_4, @Ty.fd27_5, @Ty.fa27_5, @Ty.pl27, @Ty.sz29, @Ty.ag29, @Ty.nf29, @Ty.zr29, @Ty.ap29, @Ty.un29, @Ty.sz41, @Ty.ag41, @Ty.zr41, @Ty.ap41, @Ty.un41, @Ty.sz56, @Ty.ag56, @Ty.zr56, @Ty.ap56, @Ty.un56, @Ty.sz59, @Ty.ag59, @Ty.pt59, @Ty.zr59, @Ty.ap59, @Ty.sz60, @Ty.ag60, @Ty.pt60, @Ty.zr60, @Ty.ap60, @Ty.sz61, @Ty.ag61, @Ty.pt61, @Ty.zr61, @Ty.ap61, @Ty.sz63, @Ty.ag63, @Ty.nf63, @Ty.zr63, @Ty.ap63, @Ty.fd63_0, @Ty.fa63_0, @Ty.fd63_1, @Ty.fa63_1, @Ty.pl63, @Ty.sz67, @Ty.ag67, @Ty.zr67, @Ty.ap67, @Ty.un67, @Ty.sz77, @Ty.ag77, @Ty.nf77, @Ty.zr77, @Ty.ap77, @Ty.fd77_0, @Ty.fa77_0, @Ty.fd77_1, @Ty.fa77_1, @Ty.fd77_2, @Ty.fa77_2, @Ty.pl77, @Ty.sz85, @Ty.ag85, @Ty.nf85, @Ty.zr85, @Ty.ap85, @Ty.fd85_0, @Ty.fa85_0, @Ty.fd85_1, @Ty.fa85_1, @Ty.fd85_2, @Ty.fa85_2, @Ty.pl85, @Ty.sz94, @Ty.ag94, @Ty.pt94, @Ty.zr94, @Ty.ap94, @Ty.sz98, @Ty.ag98, @Ty.nf98, @Ty.zr98, @Ty.ap98, @Ty.un98, @Ty.sz104, @Ty.ag104, @Ty.pt104, @Ty.zr104, @Ty.ap104, @Ty.sz109, @Ty.ag109, @Ty.zr109, @Ty.ap109, @Ty.un109, @Ty.sz110, @Ty.ag110, @Ty.zr110, @Ty.ap110, @Ty.un110, @Ty.sz111, @Ty.ag111, @Ty.zr111, @Ty.ap111, @Ty.un111, @Ty.sz115, @Ty.ag115, @Ty.pt115, @Ty.zr115, @Ty.ap115, @Ty.sz118, @Ty.ag118, @Ty.nf118, @Ty.zr118, @Ty.ap118, @Ty.fd118_0, @Ty.fa118_0, @Ty.fd118_1, @Ty.fa118_1, @Ty.pl118⟩

end Go.Ab
