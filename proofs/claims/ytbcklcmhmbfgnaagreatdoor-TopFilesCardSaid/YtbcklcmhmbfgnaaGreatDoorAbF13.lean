/-
  Texts of the layer and of the laws, put together: AbT.
-/
import Derived.Test.YtbcklcmhmbfgnaaGreatDoorChecked
import Derived.Test.YtbcklcmhmbfgnaaGreatDoorAbF12
import Derived.KernelRfl
set_option linter.unusedSimpArgs false
set_option linter.unusedVariables false
set_option maxRecDepth 100000
set_option linter.defProp false
set_option maxRecDepth 200000
namespace Go.Ab
open Go.RowKit Go.Proofs
section
variable {tab : Tab} {x : AV} {h : Hp}
theorem Ty.sz3 : (ctx Tryz.prog Gt tab).size 3 = some 1 := by kernel_rfl
theorem Ty.ag3 : (ctx Tryz.prog Gt tab).isAgg 3 = some false := by kernel_rfl
theorem Ty.nf3 : (ctx Tryz.prog Gt tab).isIf 3 = some false := by kernel_rfl
theorem Ty.zr3 : (ctx Tryz.prog Gt tab).zero 3 = some (.v (.c (.d (.int .i64 0)))) := by kernel_rfl
theorem Ty.ap3 : (ctx Tryz.prog Gt tab).apz 3 = some (1, 8) := by kernel_rfl
theorem Ty.un3 : Tryz.prog.underlying 3 = some (Go.TypeDesc.int Go.IntKind.i64) := by kernel_rfl
theorem Ty.sz4 : (ctx Tryz.prog Gt tab).size 4 = some 1 := by kernel_rfl
theorem Ty.ag4 : (ctx Tryz.prog Gt tab).isAgg 4 = some false := by kernel_rfl
theorem Ty.zr4 : (ctx Tryz.prog Gt tab).zero 4 = some (.v (.c (.d (.bool false)))) := by kernel_rfl
theorem Ty.ap4 : (ctx Tryz.prog Gt tab).apz 4 = some (1, 1) := by kernel_rfl
theorem Ty.un4 : Tryz.prog.underlying 4 = some Go.TypeDesc.bool := by kernel_rfl
theorem Ty.sz5 : (ctx Tryz.prog Gt tab).size 5 = some 1 := by kernel_rfl
theorem Ty.ag5 : (ctx Tryz.prog Gt tab).isAgg 5 = some false := by kernel_rfl
theorem Ty.nf5 : (ctx Tryz.prog Gt tab).isIf 5 = some false := by kernel_rfl
theorem Ty.zr5 : (ctx Tryz.prog Gt tab).zero 5 = some (.v (.c (.d (.int .u8 0)))) := by kernel_rfl
theorem Ty.ap5 : (ctx Tryz.prog Gt tab).apz 5 = some (1, 1) := by kernel_rfl
theorem Ty.un5 : Tryz.prog.underlying 5 = some (Go.TypeDesc.int Go.IntKind.u8) := by kernel_rfl
theorem Ty.sz9 : (ctx Tryz.prog Gt tab).size 9 = some 1 := by kernel_rfl
theorem Ty.ag9 : (ctx Tryz.prog Gt tab).isAgg 9 = some false := by kernel_rfl
theorem Ty.zr9 : (ctx Tryz.prog Gt tab).zero 9 = some (.v (.c (.d (.str [])))) := by kernel_rfl
theorem Ty.ap9 : (ctx Tryz.prog Gt tab).apz 9 = some (1, 16) := by kernel_rfl
theorem Ty.un9 : Tryz.prog.underlying 9 = some Go.TypeDesc.string := by kernel_rfl
theorem Ty.sz20 : (ctx Tryz.prog Gt tab).size 20 = some 1 := by kernel_rfl
theorem Ty.ag20 : (ctx Tryz.prog Gt tab).isAgg 20 = some false := by kernel_rfl
theorem Ty.if20 : (ctx Tryz.prog Gt tab).ifT 20 = some true := by kernel_rfl
theorem Ty.zr20 : (ctx Tryz.prog Gt tab).zero 20 = some (.v (.c .nili)) := by kernel_rfl
theorem Ty.ap20 : (ctx Tryz.prog Gt tab).apz 20 = some (1, 16) := by kernel_rfl
theorem Ty.sz21 : (ctx Tryz.prog Gt tab).size 21 = some 1 := by kernel_rfl
theorem Ty.ag21 : (ctx Tryz.prog Gt tab).isAgg 21 = some false := by kernel_rfl
theorem Ty.nf21 : (ctx Tryz.prog Gt tab).isIf 21 = some false := by kernel_rfl
theorem Ty.zr21 : (ctx Tryz.prog Gt tab).zero 21 = some (.v (.c (.d (.int .i32 0)))) := by kernel_rfl
theorem Ty.ap21 : (ctx Tryz.prog Gt tab).apz 21 = some (1, 4) := by kernel_rfl
theorem Ty.un21 : Tryz.prog.underlying 21 = some (Go.TypeDesc.int Go.IntKind.i32) := by kernel_rfl
theorem Ty.sz22 : (ctx Tryz.prog Gt tab).size 22 = some 1 := by kernel_rfl
theorem Ty.ag22 : (ctx Tryz.prog Gt tab).isAgg 22 = some false := by kernel_rfl
theorem Ty.zr22 : (ctx Tryz.prog Gt tab).zero 22 = some (.v (.c (.d (.sl true [])))) := by kernel_rfl
theorem Ty.ap22 : (ctx Tryz.prog Gt tab).apz 22 = some (1, 24) := by kernel_rfl
theorem Ty.un22 : Tryz.prog.underlying 22 = some (Go.TypeDesc.slice 36) := by kernel_rfl
theorem Ty.sz25 : (ctx Tryz.prog Gt tab).size 25 = some 1 := by kernel_rfl
theorem Ty.ag25 : (ctx Tryz.prog Gt tab).isAgg 25 = some false := by kernel_rfl
theorem Ty.zr25 : (ctx Tryz.prog Gt tab).zero 25 = some (.v (.c (.d (.sl true [])))) := by kernel_rfl
theorem Ty.ap25 : (ctx Tryz.prog Gt tab).apz 25 = some (1, 24) := by kernel_rfl
theorem Ty.un25 : Tryz.prog.underlying 25 = some (Go.TypeDesc.slice 33) := by kernel_rfl
theorem Ty.sz26 : (ctx Tryz.prog Gt tab).size 26 = some 1 := by kernel_rfl
theorem Ty.ag26 : (ctx Tryz.prog Gt tab).isAgg 26 = some false := by kernel_rfl
theorem Ty.zr26 : (ctx Tryz.prog Gt tab).zero 26 = some (.v (.c (.d (.sl true [])))) := by kernel_rfl
theorem Ty.ap26 : (ctx Tryz.prog Gt tab).apz 26 = some (1, 24) := by kernel_rfl
theorem Ty.un26 : Tryz.prog.underlying 26 = some (Go.TypeDesc.slice 52) := by kernel_rfl
theorem Ty.sz28 : (ctx Tryz.prog Gt tab).size 28 = some 6 := by kernel_rfl
theorem Ty.ag28 : (ctx Tryz.prog Gt tab).isAgg 28 = some true := by kernel_rfl
theorem Ty.nf28 : (ctx Tryz.prog Gt tab).isIf 28 = some false := by kernel_rfl
theorem Ty.zr28 : (ctx Tryz.prog Gt tab).zero 28 = some (.v (.agg [.d (.str []), .d (.int .i64 0), .d (.int .i64 0), .d (.sl true []), .d (.sl true []), .d (.sl true [])])) := by kernel_rfl
theorem Ty.ap28 : (ctx Tryz.prog Gt tab).apz 28 = some (6, 104) := by kernel_rfl
theorem Ty.fd28_0 : fld (ctx Tryz.prog Gt tab) (Tryz.prog.underlying 28) x 0 h = fldV (ctx Tryz.prog Gt tab) 9 0 x h := by kernel_rfl
theorem Ty.fa28_0 : fldA (ctx Tryz.prog Gt tab) (Tryz.prog.underlying 28) x 0 h = fldP 0 1 x h := by kernel_rfl
theorem Ty.fd28_1 : fld (ctx Tryz.prog Gt tab) (Tryz.prog.underlying 28) x 1 h = fldV (ctx Tryz.prog Gt tab) 3 1 x h := by kernel_rfl
theorem Ty.fa28_1 : fldA (ctx Tryz.prog Gt tab) (Tryz.prog.underlying 28) x 1 h = fldP 1 1 x h := by kernel_rfl
theorem Ty.fd28_2 : fld (ctx Tryz.prog Gt tab) (Tryz.prog.underlying 28) x 2 h = fldV (ctx Tryz.prog Gt tab) 3 2 x h := by kernel_rfl
theorem Ty.fa28_2 : fldA (ctx Tryz.prog Gt tab) (Tryz.prog.underlying 28) x 2 h = fldP 2 1 x h := by kernel_rfl
theorem Ty.fd28_3 : fld (ctx Tryz.prog Gt tab) (Tryz.prog.underlying 28) x 3 h = fldV (ctx Tryz.prog Gt tab) 25 3 x h := by kernel_rfl
theorem Ty.fa28_3 : fldA (ctx Tryz.prog Gt tab) (Tryz.prog.underlying 28) x 3 h = fldP 3 1 x h := by kernel_rfl
theorem Ty.fd28_4 : fld (ctx Tryz.prog Gt tab) (Tryz.prog.underlying 28) x 4 h = fldV (ctx Tryz.prog Gt tab) 26 4 x h := by kernel_rfl
theorem Ty.fa28_4 : fldA (ctx Tryz.prog Gt tab) (Tryz.prog.underlying 28) x 4 h = fldP 4 1 x h := by kernel_rfl
theorem Ty.fd28_5 : fld (ctx Tryz.prog Gt tab) (Tryz.prog.underlying 28) x 5 h = fldV (ctx Tryz.prog Gt tab) 26 5 x h := by kernel_rfl
theorem Ty.fa28_5 : fldA (ctx Tryz.prog Gt tab) (Tryz.prog.underlying 28) x 5 h = fldP 5 1 x h := by kernel_rfl
theorem Ty.pl28 : (ctx Tryz.prog Gt tab).place 28 = some fun i => [(0, 1), (1, 1), (2, 1), (3, 1), (4, 1), (5, 1)][i]? := by kernel_rfl
theorem Ty.sz29 : (ctx Tryz.prog Gt tab).size 29 = some 1 := by kernel_rfl
theorem Ty.ag29 : (ctx Tryz.prog Gt tab).isAgg 29 = some false := by kernel_rfl
theorem Ty.nf29 : (ctx Tryz.prog Gt tab).isIf 29 = some false := by kernel_rfl
theorem Ty.zr29 : (ctx Tryz.prog Gt tab).zero 29 = some (.v (.c (.d (.int .i64 0)))) := by kernel_rfl
theorem Ty.ap29 : (ctx Tryz.prog Gt tab).apz 29 = some (1, 8) := by kernel_rfl
theorem Ty.un29 : Tryz.prog.underlying 29 = some (Go.TypeDesc.int Go.IntKind.i64) := by kernel_rfl
theorem Ty.sz33 : (ctx Tryz.prog Gt tab).size 33 = some 4 := by kernel_rfl
theorem Ty.ag33 : (ctx Tryz.prog Gt tab).isAgg 33 = some true := by kernel_rfl
theorem Ty.nf33 : (ctx Tryz.prog Gt tab).isIf 33 = some false := by kernel_rfl
theorem Ty.zr33 : (ctx Tryz.prog Gt tab).zero 33 = some (.v (.agg [.d (.str []), .d (.str []), .d (.int .i64 0), .d (.sl true [])])) := by kernel_rfl
theorem Ty.ap33 : (ctx Tryz.prog Gt tab).apz 33 = some (4, 64) := by kernel_rfl
theorem Ty.fd33_0 : fld (ctx Tryz.prog Gt tab) (Tryz.prog.underlying 33) x 0 h = fldV (ctx Tryz.prog Gt tab) 9 0 x h := by kernel_rfl
theorem Ty.fa33_0 : fldA (ctx Tryz.prog Gt tab) (Tryz.prog.underlying 33) x 0 h = fldP 0 1 x h := by kernel_rfl
theorem Ty.fd33_1 : fld (ctx Tryz.prog Gt tab) (Tryz.prog.underlying 33) x 1 h = fldV (ctx Tryz.prog Gt tab) 9 1 x h := by kernel_rfl
theorem Ty.fa33_1 : fldA (ctx Tryz.prog Gt tab) (Tryz.prog.underlying 33) x 1 h = fldP 1 1 x h := by kernel_rfl
theorem Ty.fd33_2 : fld (ctx Tryz.prog Gt tab) (Tryz.prog.underlying 33) x 2 h = fldV (ctx Tryz.prog Gt tab) 3 2 x h := by kernel_rfl
theorem Ty.fa33_2 : fldA (ctx Tryz.prog Gt tab) (Tryz.prog.underlying 33) x 2 h = fldP 2 1 x h := by kernel_rfl
theorem Ty.fd33_3 : fld (ctx Tryz.prog Gt tab) (Tryz.prog.underlying 33) x 3 h = fldV (ctx Tryz.prog Gt tab) 26 3 x h := by kernel_rfl
theorem Ty.fa33_3 : fldA (ctx Tryz.prog Gt tab) (Tryz.prog.underlying 33) x 3 h = fldP 3 1 x h := by kernel_rfl
theorem Ty.pl33 : (ctx Tryz.prog Gt tab).place 33 = some fun i => [(0, 1), (1, 1), (2, 1), (3, 1)][i]? := by kernel_rfl
theorem Ty.sz34 : (ctx Tryz.prog Gt tab).size 34 = some 1 := by kernel_rfl
theorem Ty.ag34 : (ctx Tryz.prog Gt tab).isAgg 34 = some false := by kernel_rfl
theorem Ty.zr34 : (ctx Tryz.prog Gt tab).zero 34 = some (.v (.c (.d (.sl true [])))) := by kernel_rfl
theorem Ty.ap34 : (ctx Tryz.prog Gt tab).apz 34 = some (1, 24) := by kernel_rfl
theorem Ty.un34 : Tryz.prog.underlying 34 = some (Go.TypeDesc.slice 4) := by kernel_rfl
theorem Ty.sz36 : (ctx Tryz.prog Gt tab).size 36 = some 3 := by kernel_rfl
theorem Ty.ag36 : (ctx Tryz.prog Gt tab).isAgg 36 = some true := by kernel_rfl
theorem Ty.nf36 : (ctx Tryz.prog Gt tab).isIf 36 = some false := by kernel_rfl
theorem Ty.zr36 : (ctx Tryz.prog Gt tab).zero 36 = some (.v (.agg [.d (.int .i64 0), .d (.sl true []), .d (.sl true [])])) := by kernel_rfl
theorem Ty.ap36 : (ctx Tryz.prog Gt tab).apz 36 = some (3, 56) := by kernel_rfl
theorem Ty.fd36_0 : fld (ctx Tryz.prog Gt tab) (Tryz.prog.underlying 36) x 0 h = fldV (ctx Tryz.prog Gt tab) 3 0 x h := by kernel_rfl
theorem Ty.fa36_0 : fldA (ctx Tryz.prog Gt tab) (Tryz.prog.underlying 36) x 0 h = fldP 0 1 x h := by kernel_rfl
theorem Ty.fd36_1 : fld (ctx Tryz.prog Gt tab) (Tryz.prog.underlying 36) x 1 h = fldV (ctx Tryz.prog Gt tab) 26 1 x h := by kernel_rfl
theorem Ty.fa36_1 : fldA (ctx Tryz.prog Gt tab) (Tryz.prog.underlying 36) x 1 h = fldP 1 1 x h := by kernel_rfl
theorem Ty.fd36_2 : fld (ctx Tryz.prog Gt tab) (Tryz.prog.underlying 36) x 2 h = fldV (ctx Tryz.prog Gt tab) 34 2 x h := by kernel_rfl
theorem Ty.fa36_2 : fldA (ctx Tryz.prog Gt tab) (Tryz.prog.underlying 36) x 2 h = fldP 2 1 x h := by kernel_rfl
theorem Ty.pl36 : (ctx Tryz.prog Gt tab).place 36 = some fun i => [(0, 1), (1, 1), (2, 1)][i]? := by kernel_rfl
theorem Ty.sz52 : (ctx Tryz.prog Gt tab).size 52 = some 5 := by kernel_rfl
theorem Ty.ag52 : (ctx Tryz.prog Gt tab).isAgg 52 = some true := by kernel_rfl
theorem Ty.nf52 : (ctx Tryz.prog Gt tab).isIf 52 = some false := by kernel_rfl
theorem Ty.ft52 : (ctx Tryz.prog Gt tab).flat 52 = some [.i .i64, .s, .i .i64, .i .i64, .i .i64] := by kernel_rfl
theorem Ty.zr52 : (ctx Tryz.prog Gt tab).zero 52 = some (.v (.agg [.d (.int .i64 0), .d (.str []), .d (.int .i64 0), .d (.int .i64 0), .d (.int .i64 0)])) := by kernel_rfl
theorem Ty.ap52 : (ctx Tryz.prog Gt tab).apz 52 = some (5, 48) := by kernel_rfl
theorem Ty.fd52_0 : fld (ctx Tryz.prog Gt tab) (Tryz.prog.underlying 52) x 0 h = fldV (ctx Tryz.prog Gt tab) 3 0 x h := by kernel_rfl
theorem Ty.fa52_0 : fldA (ctx Tryz.prog Gt tab) (Tryz.prog.underlying 52) x 0 h = fldP 0 1 x h := by kernel_rfl
theorem Ty.fd52_1 : fld (ctx Tryz.prog Gt tab) (Tryz.prog.underlying 52) x 1 h = fldV (ctx Tryz.prog Gt tab) 9 1 x h := by kernel_rfl
theorem Ty.fa52_1 : fldA (ctx Tryz.prog Gt tab) (Tryz.prog.underlying 52) x 1 h = fldP 1 1 x h := by kernel_rfl
theorem Ty.fd52_2 : fld (ctx Tryz.prog Gt tab) (Tryz.prog.underlying 52) x 2 h = fldV (ctx Tryz.prog Gt tab) 3 2 x h := by kernel_rfl
theorem Ty.fa52_2 : fldA (ctx Tryz.prog Gt tab) (Tryz.prog.underlying 52) x 2 h = fldP 2 1 x h := by kernel_rfl
theorem Ty.fd52_3 : fld (ctx Tryz.prog Gt tab) (Tryz.prog.underlying 52) x 3 h = fldV (ctx Tryz.prog Gt tab) 3 3 x h := by kernel_rfl
theorem Ty.fa52_3 : fldA (ctx Tryz.prog Gt tab) (Tryz.prog.underlying 52) x 3 h = fldP 3 1 x h := by kernel_rfl
theorem Ty.fd52_4 : fld (ctx Tryz.prog Gt tab) (Tryz.prog.underlying 52) x 4 h = fldV (ctx Tryz.prog Gt tab) 3 4 x h := by kernel_rfl
theorem Ty.fa52_4 : fldA (ctx Tryz.prog Gt tab) (Tryz.prog.underlying 52) x 4 h = fldP 4 1 x h := by kernel_rfl
theorem Ty.pl52 : (ctx Tryz.prog Gt tab).place 52 = some fun i => [(0, 1), (1, 1), (2, 1), (3, 1), (4, 1)][i]? := by kernel_rfl
theorem Ty.sz61 : (ctx Tryz.prog Gt tab).size 61 = some 1 := by kernel_rfl
theorem Ty.ag61 : (ctx Tryz.prog Gt tab).isAgg 61 = some false := by kernel_rfl
theorem Ty.pt61 : (ctx Tryz.prog Gt tab).ptT 61 = some true := by kernel_rfl
theorem Ty.zr61 : (ctx Tryz.prog Gt tab).zero 61 = some (.v (.c .nilp)) := by kernel_rfl
theorem Ty.ap61 : (ctx Tryz.prog Gt tab).apz 61 = some (1, 8) := by kernel_rfl
theorem Ty.sz62 : (ctx Tryz.prog Gt tab).size 62 = some 1 := by kernel_rfl
theorem Ty.ag62 : (ctx Tryz.prog Gt tab).isAgg 62 = some false := by kernel_rfl
theorem Ty.zr62 : (ctx Tryz.prog Gt tab).zero 62 = some (.v (.c (.d (.sl true [])))) := by kernel_rfl
theorem Ty.ap62 : (ctx Tryz.prog Gt tab).apz 62 = some (1, 24) := by kernel_rfl
theorem Ty.un62 : Tryz.prog.underlying 62 = some (Go.TypeDesc.slice 5) := by kernel_rfl
theorem Ty.sz64 : (ctx Tryz.prog Gt tab).size 64 = some 2 := by kernel_rfl
theorem Ty.ag64 : (ctx Tryz.prog Gt tab).isAgg 64 = some true := by kernel_rfl
theorem Ty.nf64 : (ctx Tryz.prog Gt tab).isIf 64 = some false := by kernel_rfl
theorem Ty.zr64 : (ctx Tryz.prog Gt tab).zero 64 = some (.v (.agg [.nilp, .d (.sl true [])])) := by kernel_rfl
theorem Ty.ap64 : (ctx Tryz.prog Gt tab).apz 64 = some (2, 32) := by kernel_rfl
theorem Ty.fd64_0 : fld (ctx Tryz.prog Gt tab) (Tryz.prog.underlying 64) x 0 h = fldV (ctx Tryz.prog Gt tab) 61 0 x h := by kernel_rfl
theorem Ty.fa64_0 : fldA (ctx Tryz.prog Gt tab) (Tryz.prog.underlying 64) x 0 h = fldP 0 1 x h := by kernel_rfl
theorem Ty.fd64_1 : fld (ctx Tryz.prog Gt tab) (Tryz.prog.underlying 64) x 1 h = fldV (ctx Tryz.prog Gt tab) 62 1 x h := by kernel_rfl
theorem Ty.fa64_1 : fldA (ctx Tryz.prog Gt tab) (Tryz.prog.underlying 64) x 1 h = fldP 1 1 x h := by kernel_rfl
theorem Ty.pl64 : (ctx Tryz.prog Gt tab).place 64 = some fun i => [(0, 1), (1, 1)][i]? := by kernel_rfl
theorem Ty.sz71 : (ctx Tryz.prog Gt tab).size 71 = some 1 := by kernel_rfl
theorem Ty.ag71 : (ctx Tryz.prog Gt tab).isAgg 71 = some false := by kernel_rfl
theorem Ty.zr71 : (ctx Tryz.prog Gt tab).zero 71 = some (.v (.c (.d (.sl true [])))) := by kernel_rfl
theorem Ty.ap71 : (ctx Tryz.prog Gt tab).apz 71 = some (1, 24) := by kernel_rfl
theorem Ty.un71 : Tryz.prog.underlying 71 = some (Go.TypeDesc.slice 9) := by kernel_rfl
theorem Ty.sz76 : (ctx Tryz.prog Gt tab).size 76 = some 1 := by kernel_rfl
theorem Ty.ag76 : (ctx Tryz.prog Gt tab).isAgg 76 = some false := by kernel_rfl
theorem Ty.pt76 : (ctx Tryz.prog Gt tab).ptT 76 = some true := by kernel_rfl
theorem Ty.zr76 : (ctx Tryz.prog Gt tab).zero 76 = some (.v (.c .nilp)) := by kernel_rfl
theorem Ty.ap76 : (ctx Tryz.prog Gt tab).apz 76 = some (1, 8) := by kernel_rfl
theorem Ty.sz78 : (ctx Tryz.prog Gt tab).size 78 = some 6 := by kernel_rfl
theorem Ty.ag78 : (ctx Tryz.prog Gt tab).isAgg 78 = some true := by kernel_rfl
theorem Ty.nf78 : (ctx Tryz.prog Gt tab).isIf 78 = some false := by kernel_rfl
theorem Ty.zr78 : (ctx Tryz.prog Gt tab).zero 78 = some (.v (.agg [.d (.str []), .d (.str []), .d (.int .i64 0), .d (.sl true []), .d (.bool false), .d (.bool false)])) := by kernel_rfl
theorem Ty.ap78 : (ctx Tryz.prog Gt tab).apz 78 = some (6, 72) := by kernel_rfl
theorem Ty.fd78_0 : fld (ctx Tryz.prog Gt tab) (Tryz.prog.underlying 78) x 0 h = fldV (ctx Tryz.prog Gt tab) 33 0 x h := by kernel_rfl
theorem Ty.fa78_0 : fldA (ctx Tryz.prog Gt tab) (Tryz.prog.underlying 78) x 0 h = fldP 0 4 x h := by kernel_rfl
theorem Ty.fd78_1 : fld (ctx Tryz.prog Gt tab) (Tryz.prog.underlying 78) x 1 h = fldV (ctx Tryz.prog Gt tab) 4 4 x h := by kernel_rfl
theorem Ty.fa78_1 : fldA (ctx Tryz.prog Gt tab) (Tryz.prog.underlying 78) x 1 h = fldP 4 1 x h := by kernel_rfl
theorem Ty.fd78_2 : fld (ctx Tryz.prog Gt tab) (Tryz.prog.underlying 78) x 2 h = fldV (ctx Tryz.prog Gt tab) 4 5 x h := by kernel_rfl
theorem Ty.fa78_2 : fldA (ctx Tryz.prog Gt tab) (Tryz.prog.underlying 78) x 2 h = fldP 5 1 x h := by kernel_rfl
theorem Ty.pl78 : (ctx Tryz.prog Gt tab).place 78 = some fun i => [(0, 4), (4, 1), (5, 1)][i]? := by kernel_rfl
theorem Ty.sz83 : (ctx Tryz.prog Gt tab).size 83 = some 1 := by kernel_rfl
theorem Ty.ag83 : (ctx Tryz.prog Gt tab).isAgg 83 = some false := by kernel_rfl
theorem Ty.zr83 : (ctx Tryz.prog Gt tab).zero 83 = some (.v (.c (.d (.sl true [])))) := by kernel_rfl
theorem Ty.ap83 : (ctx Tryz.prog Gt tab).apz 83 = some (1, 24) := by kernel_rfl
theorem Ty.un83 : Tryz.prog.underlying 83 = some (Go.TypeDesc.slice 118) := by kernel_rfl
theorem Ty.sz96 : (ctx Tryz.prog Gt tab).size 96 = some 1 := by kernel_rfl
theorem Ty.ag96 : (ctx Tryz.prog Gt tab).isAgg 96 = some false := by kernel_rfl
theorem Ty.zr96 : (ctx Tryz.prog Gt tab).zero 96 = some (.v (.c (.d (.sl true [])))) := by kernel_rfl
theorem Ty.ap96 : (ctx Tryz.prog Gt tab).apz 96 = some (1, 24) := by kernel_rfl
theorem Ty.un96 : Tryz.prog.underlying 96 = some (Go.TypeDesc.slice 3) := by kernel_rfl
theorem Ty.sz98 : (ctx Tryz.prog Gt tab).size 98 = some 1 := by kernel_rfl
theorem Ty.ag98 : (ctx Tryz.prog Gt tab).isAgg 98 = some false := by kernel_rfl
theorem Ty.nf98 : (ctx Tryz.prog Gt tab).isIf 98 = some false := by kernel_rfl
theorem Ty.zr98 : (ctx Tryz.prog Gt tab).zero 98 = some (.v (.c (.d (.int .u64 0)))) := by kernel_rfl
theorem Ty.ap98 : (ctx Tryz.prog Gt tab).apz 98 = some (1, 8) := by kernel_rfl
theorem Ty.un98 : Tryz.prog.underlying 98 = some (Go.TypeDesc.int Go.IntKind.u64) := by kernel_rfl
theorem Ty.sz103 : (ctx Tryz.prog Gt tab).size 103 = some 1 := by kernel_rfl
theorem Ty.ag103 : (ctx Tryz.prog Gt tab).isAgg 103 = some true := by kernel_rfl
theorem Ty.nf103 : (ctx Tryz.prog Gt tab).isIf 103 = some false := by kernel_rfl
theorem Ty.ft103 : (ctx Tryz.prog Gt tab).flat 103 = some [.i .i64] := by kernel_rfl
theorem Ty.zr103 : (ctx Tryz.prog Gt tab).zero 103 = some (.v (.agg [.d (.int .i64 0)])) := by kernel_rfl
theorem Ty.ap103 : (ctx Tryz.prog Gt tab).apz 103 = some (1, 8) := by kernel_rfl
theorem Ty.fd103_0 : fld (ctx Tryz.prog Gt tab) (Tryz.prog.underlying 103) x 0 h = fldV (ctx Tryz.prog Gt tab) 29 0 x h := by kernel_rfl
theorem Ty.fa103_0 : fldA (ctx Tryz.prog Gt tab) (Tryz.prog.underlying 103) x 0 h = fldP 0 1 x h := by kernel_rfl
theorem Ty.pl103 : (ctx Tryz.prog Gt tab).place 103 = some fun i => [(0, 1)][i]? := by kernel_rfl
theorem Ty.sz110 : (ctx Tryz.prog Gt tab).size 110 = some 1 := by kernel_rfl
theorem Ty.ag110 : (ctx Tryz.prog Gt tab).isAgg 110 = some false := by kernel_rfl
theorem Ty.zr110 : (ctx Tryz.prog Gt tab).zero 110 = some (.v (.c .nilm)) := by kernel_rfl
theorem Ty.ap110 : (ctx Tryz.prog Gt tab).apz 110 = some (1, 8) := by kernel_rfl
theorem Ty.un110 : Tryz.prog.underlying 110 = some (Go.TypeDesc.map 9 3) := by kernel_rfl
theorem Ty.mt110 : (ctx Tryz.prog Gt tab).mapTy 110 = some (KTy.string, 3) := by kernel_rfl
theorem Ty.sz112 : (ctx Tryz.prog Gt tab).size 112 = some 1 := by kernel_rfl
theorem Ty.ag112 : (ctx Tryz.prog Gt tab).isAgg 112 = some false := by kernel_rfl
theorem Ty.zr112 : (ctx Tryz.prog Gt tab).zero 112 = some (.v (.c .nilm)) := by kernel_rfl
theorem Ty.ap112 : (ctx Tryz.prog Gt tab).apz 112 = some (1, 8) := by kernel_rfl
theorem Ty.un112 : Tryz.prog.underlying 112 = some (Go.TypeDesc.map 9 4) := by kernel_rfl
theorem Ty.mt112 : (ctx Tryz.prog Gt tab).mapTy 112 = some (KTy.string, 4) := by kernel_rfl
theorem Ty.sz118 : (ctx Tryz.prog Gt tab).size 118 = some 3 := by kernel_rfl
theorem Ty.ag118 : (ctx Tryz.prog Gt tab).isAgg 118 = some true := by kernel_rfl
theorem Ty.nf118 : (ctx Tryz.prog Gt tab).isIf 118 = some false := by kernel_rfl
theorem Ty.ft118 : (ctx Tryz.prog Gt tab).flat 118 = some [.s, .i .i64, .i .i64] := by kernel_rfl
theorem Ty.zr118 : (ctx Tryz.prog Gt tab).zero 118 = some (.v (.agg [.d (.str []), .d (.int .i64 0), .d (.int .i64 0)])) := by kernel_rfl
theorem Ty.ap118 : (ctx Tryz.prog Gt tab).apz 118 = some (3, 32) := by kernel_rfl
theorem Ty.fd118_0 : fld (ctx Tryz.prog Gt tab) (Tryz.prog.underlying 118) x 0 h = fldV (ctx Tryz.prog Gt tab) 9 0 x h := by kernel_rfl
theorem Ty.fa118_0 : fldA (ctx Tryz.prog Gt tab) (Tryz.prog.underlying 118) x 0 h = fldP 0 1 x h := by kernel_rfl
theorem Ty.fd118_1 : fld (ctx Tryz.prog Gt tab) (Tryz.prog.underlying 118) x 1 h = fldV (ctx Tryz.prog Gt tab) 3 1 x h := by kernel_rfl
theorem Ty.fa118_1 : fldA (ctx Tryz.prog Gt tab) (Tryz.prog.underlying 118) x 1 h = fldP 1 1 x h := by kernel_rfl
theorem Ty.fd118_2 : fld (ctx Tryz.prog Gt tab) (Tryz.prog.underlying 118) x 2 h = fldV (ctx Tryz.prog Gt tab) 3 2 x h := by kernel_rfl
theorem Ty.fa118_2 : fldA (ctx Tryz.prog Gt tab) (Tryz.prog.underlying 118) x 2 h = fldP 2 1 x h := by kernel_rfl
theorem Ty.pl118 : (ctx Tryz.prog Gt tab).place 118 = some fun i => [(0, 1), (1, 1), (2, 1)][i]? := by kernel_rfl
theorem Ty.sz121 : (ctx Tryz.prog Gt tab).size 121 = some 1 := by kernel_rfl
theorem Ty.ag121 : (ctx Tryz.prog Gt tab).isAgg 121 = some true := by kernel_rfl
theorem Ty.nf121 : (ctx Tryz.prog Gt tab).isIf 121 = some false := by kernel_rfl
theorem Ty.ft121 : (ctx Tryz.prog Gt tab).flat 121 = some [.i .i64] := by kernel_rfl
theorem Ty.zr121 : (ctx Tryz.prog Gt tab).zero 121 = some (.v (.agg [.d (.int .i64 0)])) := by kernel_rfl
theorem Ty.ap121 : (ctx Tryz.prog Gt tab).apz 121 = some (1, 8) := by kernel_rfl
theorem Ty.fd121_0 : fld (ctx Tryz.prog Gt tab) (Tryz.prog.underlying 121) x 0 h = fldV (ctx Tryz.prog Gt tab) 3 0 x h := by kernel_rfl
theorem Ty.fa121_0 : fldA (ctx Tryz.prog Gt tab) (Tryz.prog.underlying 121) x 0 h = fldP 0 1 x h := by kernel_rfl
theorem Ty.pl121 : (ctx Tryz.prog Gt tab).place 121 = some fun i => [(0, 1)][i]? := by kernel_rfl
theorem Ty.sz141 : (ctx Tryz.prog Gt tab).size 141 = some 1 := by kernel_rfl
theorem Ty.ag141 : (ctx Tryz.prog Gt tab).isAgg 141 = some false := by kernel_rfl
theorem Ty.nf141 : (ctx Tryz.prog Gt tab).isIf 141 = some false := by kernel_rfl
theorem Ty.zr141 : (ctx Tryz.prog Gt tab).zero 141 = some (.v (.c (.d (.int .u64 0)))) := by kernel_rfl
theorem Ty.ap141 : (ctx Tryz.prog Gt tab).apz 141 = some (1, 8) := by kernel_rfl
theorem Ty.un141 : Tryz.prog.underlying 141 = some (Go.TypeDesc.int Go.IntKind.u64) := by kernel_rfl
theorem Ty.sz161 : (ctx Tryz.prog Gt tab).size 161 = some 1 := by kernel_rfl
theorem Ty.ag161 : (ctx Tryz.prog Gt tab).isAgg 161 = some false := by kernel_rfl
theorem Ty.nf161 : (ctx Tryz.prog Gt tab).isIf 161 = some false := by kernel_rfl
theorem Ty.zr161 : (ctx Tryz.prog Gt tab).zero 161 = some (.v (.c (.d (.int .i64 0)))) := by kernel_rfl
theorem Ty.ap161 : (ctx Tryz.prog Gt tab).apz 161 = some (1, 8) := by kernel_rfl
theorem Ty.un161 : Tryz.prog.underlying 161 = some (Go.TypeDesc.int Go.IntKind.i64) := by kernel_rfl
theorem Ty.sz176 : (ctx Tryz.prog Gt tab).size 176 = some 1 := by kernel_rfl
theorem Ty.ag176 : (ctx Tryz.prog Gt tab).isAgg 176 = some false := by kernel_rfl
theorem Ty.nf176 : (ctx Tryz.prog Gt tab).isIf 176 = some false := by kernel_rfl
theorem Ty.zr176 : (ctx Tryz.prog Gt tab).zero 176 = some (.v (.c (.d (.int .u64 0)))) := by kernel_rfl
theorem Ty.ap176 : (ctx Tryz.prog Gt tab).apz 176 = some (1, 8) := by kernel_rfl
theorem Ty.un176 : Tryz.prog.underlying 176 = some (Go.TypeDesc.int Go.IntKind.u64) := by kernel_rfl
theorem Ty.sz180 : (ctx Tryz.prog Gt tab).size 180 = some 1 := by kernel_rfl
theorem Ty.ag180 : (ctx Tryz.prog Gt tab).isAgg 180 = some false := by kernel_rfl
theorem Ty.pt180 : (ctx Tryz.prog Gt tab).ptT 180 = some true := by kernel_rfl
theorem Ty.zr180 : (ctx Tryz.prog Gt tab).zero 180 = some (.v (.c .nilp)) := by kernel_rfl
theorem Ty.ap180 : (ctx Tryz.prog Gt tab).apz 180 = some (1, 8) := by kernel_rfl
end
def TY := Zk @Ty.sz3 <| Zk @Ty.ag3 <| Zk @Ty.nf3 <| Zk @Ty.zr3 <| Zk @Ty.ap3 <| Zk @Ty.un3 <| Zk @Ty.sz4 <| Zk @Ty.ag4 <| Zk @Ty.zr4 <| Zk @Ty.ap4 <| Zk @Ty.un4 <| Zk @Ty.sz5 <| Zk @Ty.ag5 <| Zk @Ty.nf5 <| Zk @Ty.zr5 <| Zk @Ty.ap5 <| Zk @Ty.un5 <| Zk @Ty.sz9 <| Zk @Ty.ag9 <| Zk @Ty.zr9 <| Zk @Ty.ap9 <| Zk @Ty.un9 <| Zk @Ty.sz20 <| Zk @Ty.ag20 <| Zk @Ty.if20 <| Zk @Ty.zr20 <| Zk @Ty.ap20 <| Zk @Ty.sz21 <| Zk @Ty.ag21 <| Zk @Ty.nf21 <| Zk @Ty.zr21 <| Zk @Ty.ap21 <| Zk @Ty.un21 <| Zk @Ty.sz22 <| Zk @Ty.ag22 <| Zk @Ty.zr22 <| Zk @Ty.ap22 <| Zk @Ty.un22 <| Zk @Ty.sz25 <| Zk @Ty.ag25 <| Zk @Ty.zr25 <| Zk @Ty.ap25 <| Zk @Ty.un25 <| Zk @Ty.sz26 <| Zk @Ty.ag26 <| Zk @Ty.zr26 <| Zk @Ty.ap26 <| Zk @Ty.un26 <| Zk @Ty.sz28 <| Zk @Ty.ag28 <| Zk @Ty.nf28 <| Zk @Ty.zr28 <| Zk @Ty.ap28 <| Zk @Ty.fd28_0 <| Zk @Ty.fa28_0 <| Zk @Ty.fd28_1 <| Zk @Ty.fa28_1 <| Zk @Ty.fd28_2 <| Zk @Ty.fa28_2 <| Zk @Ty.fd28_3 <| Zk @Ty.fa28_3 <| Zk @Ty.fd28_4 <| Zk @Ty.fa28_4 <| Zk @Ty.fd28_5 <| Zk @Ty.fa28_5 <| Zk @Ty.pl28 <| Zk @Ty.sz29 <| Zk @Ty.ag29 <| Zk @Ty.nf29 <| Zk @Ty.zr29 <| Zk @Ty.ap29 <| Zk @Ty.un29 <| Zk @Ty.sz33 <| Zk @Ty.ag33 <| Zk @Ty.nf33 <| Zk @Ty.zr33 <| Zk @Ty.ap33 <| Zk @Ty.fd33_0 <| Zk @Ty.fa33_0 <| Zk @Ty.fd33_1 <| Zk @Ty.fa33_1 <| Zk @Ty.fd33_2 <| Zk @Ty.fa33_2 <| Zk @Ty.fd33_3 <| Zk @Ty.fa33_3 <| Zk @Ty.pl33 <| Zk @Ty.sz34 <| Zk @Ty.ag34 <| Zk @Ty.zr34 <| Zk @Ty.ap34 <| Zk @Ty.un34 <| Zk @Ty.sz36 <| Zk @Ty.ag36 <| Zk @Ty.nf36 <| Zk @Ty.zr36 <| Zk @Ty.ap36 <| Zk @Ty.fd36_0 <| Zk @Ty.fa36_0 <| Zk @Ty.fd36_1 <| Zk @Ty.fa36_1 <| Zk @Ty.fd36_2 <| Zk @Ty.fa36_2 <| Zk @Ty.pl36 <| Zk @Ty.sz52 <| Zk @Ty.ag52 <| Zk @Ty.nf52 <| Zk @Ty.ft52 <| Zk @Ty.zr52 <| Zk @Ty.ap52 <| Zk @Ty.fd52_0 <| Zk @Ty.fa52_0 <| Zk @Ty.fd52_1 <| Zk @Ty.fa52_1 <| Zk @Ty.fd52_2 <| Zk @Ty.fa52_2 <| Zk @Ty.fd52_3 <| Zk @Ty.fa52_3 <| Zk @Ty.fd52_4 <| Zk @Ty.fa52_4 <| Zk @Ty.pl52 <| Zk @Ty.sz61 <| Zk @Ty.ag61 <| Zk @Ty.pt61 <| Zk @Ty.zr61 <| Zk @Ty.ap61 <| Zk @Ty.sz62 <| Zk @Ty.ag62 <| Zk @Ty.zr62 <| Zk @Ty.ap62 <| Zk @Ty.un62 <| Zk @Ty.sz64 <| Zk @Ty.ag64 <| Zk @Ty.nf64 <| Zk @Ty.zr64 <| Zk @Ty.ap64 <| Zk @Ty.fd64_0 <| Zk @Ty.fa64_0 <| Zk @Ty.fd64_1 <| Zk @Ty.fa64_1 <| Zk @Ty.pl64 <| Zk @Ty.sz71 <| Zk @Ty.ag71 <| Zk @Ty.zr71 <| Zk @Ty.ap71 <| Zk @Ty.un71 <| Zk @Ty.sz76 <| Zk @Ty.ag76 <| Zk @Ty.pt76 <| Zk @Ty.zr76 <| Zk @Ty.ap76 <| Zk @Ty.sz78 <| Zk @Ty.ag78 <| Zk @Ty.nf78 <| Zk @Ty.zr78 <| Zk @Ty.ap78 <| Zk @Ty.fd78_0 <| Zk @Ty.fa78_0 <| Zk @Ty.fd78_1 <| Zk @Ty.fa78_1 <| Zk @Ty.fd78_2 <| Zk @Ty.fa78_2 <| Zk @Ty.pl78 <| Zk @Ty.sz83 <| Zk @Ty.ag83 <| Zk @Ty.zr83 <| Zk @Ty.ap83 <| Zk @Ty.un83 <| Zk @Ty.sz96 <| Zk @Ty.ag96 <| Zk @Ty.zr96 <| Zk @Ty.ap96 <| Zk @Ty.un96 <| Zk @Ty.sz98 <| Zk @Ty.ag98 <| Zk @Ty.nf98 <| Zk @Ty.zr98 <| Zk @Ty.ap98 <| Zk @Ty.un98 <| Zk @Ty.sz103 <| Zk @Ty.ag103 <| Zk @Ty.nf103 <| Zk @Ty.ft103 <| Zk @Ty.zr103 <| Zk @Ty.ap103 <| Zk @Ty.fd103_0 <| Zk @Ty.fa103_0 <| Zk @Ty.pl103 <| Zk @Ty.sz110 <| Zk @Ty.ag110 <| Zk @Ty.zr110 <| Zk @Ty.ap110 <| Zk @Ty.un110 <| Zk @Ty.mt110 <| Zk @Ty.sz112 <| Zk @Ty.ag112 <| Zk @Ty.zr112 <| Zk @Ty.ap112 <| Zk @Ty.un112 <| Zk @Ty.mt112 <| Zk @Ty.sz118 <| Zk @Ty.ag118 <| Zk @Ty.nf118 <| Zk @Ty.ft118 <| Zk @Ty.zr118 <| Zk @Ty.ap118 <| Zk @Ty.fd118_0 <| Zk @Ty.fa118_0 <| Zk @Ty.fd118_1 <| Zk @Ty.fa118_1 <| Zk @Ty.fd118_2 <| Zk @Ty.fa118_2 <| Zk @Ty.pl118 <| Zk @Ty.sz121 <| Zk @Ty.ag121 <| Zk @Ty.nf121 <| Zk @Ty.ft121 <| Zk @Ty.zr121 <| Zk @Ty.ap121 <| Zk @Ty.fd121_0 <| Zk @Ty.fa121_0 <| Zk @Ty.pl121 <| Zk @Ty.sz141 <| Zk @Ty.ag141 <| Zk @Ty.nf141 <| Zk @Ty.zr141 <| Zk @Ty.ap141 <| Zk @Ty.un141 <| Zk @Ty.sz161 <| Zk @Ty.ag161 <| Zk @Ty.nf161 <| Zk @Ty.zr161 <| Zk @Ty.ap161 <| Zk @Ty.un161 <| Zk @Ty.sz176 <| Zk @Ty.ag176 <| Zk @Ty.nf176 <| Zk @Ty.zr176 <| Zk @Ty.ap176 <| Zk @Ty.un176 <| Zk @Ty.sz180 <| Zk @Ty.ag180 <| Zk @Ty.pt180 <| Zk @Ty.zr180 @Ty.ap180
end Go.Ab
namespace Go.Ab
theorem ZF {b : Prop} (α : Type) [Nonempty α] : (∀ _ : α, b) ↔ b := forall_const α
theorem ZP {b : Prop} (α : Prop) [Nonempty α] : (∀ _ : α, b) ↔ b := forall_const α
theorem ZE {α : Type} (a : α) : (a = a) = True := eq_self a
theorem ZN {α : Type} (a b : α) : (a ≠ b) = ¬ a = b := rfl
theorem ZI {α : Type} (a b : α) : (some a = some b) = (a = b) := Option.some.injEq a b
theorem ZB {α : Type} [BEq α] [ReflBEq α] (a : α) : (a == a) = true := beq_self_eq_true a
def ZZ := Zk @AB <| Zk @PL <| Zk @RG <| Zk @LP <| Zk @TY <| Zk @ZF <| Zk @ZP <| Zk @ZE <| Zk @ZN <| Zk @ZI @ZB
theorem Za : type_of% @fin_ndec := @fin_ndec
theorem Zb : type_of% @fin_dec := @fin_dec
theorem Zc : type_of% @cnd_ndec := @cnd_ndec
theorem Zd : type_of% @cnd_dec' := @cnd_dec'
theorem Ze : type_of% @fin_nsplit := @fin_nsplit
theorem Zf : type_of% @fin_split := @fin_split
theorem Zg : type_of% @cnd_nsplit := @cnd_nsplit
theorem Zh : type_of% @cnd_split := @cnd_split
theorem Zi : type_of% @seqS_id := @seqS_id
theorem Zj : type_of% @blk_exit_id := @blk_exit_id
end Go.Ab
