/-
  Texts of the layer and of the laws, put together: AbT. No law is stated here.
-/
import Derived.Test.YtfokeholingnjaaDoorChecked
import Derived.Test.YtfokeholingnjaaDoorAbV17
import Derived.KernelRfl
set_option linter.unusedSimpArgs false
set_option linter.unusedVariables false
set_option maxRecDepth 100000

/-
  The types of this seat's program, as equations. Written by tools/types.py.
-/
set_option maxRecDepth 200000
namespace Go.Ab
open Go.RowKit Go.Proofs
section
variable {tab : Tab} {x : AV} {h : Hp}
theorem Ty.sz3 : (ctx Tryd.prog Gt tab).size 3 = some 1 := by kernel_rfl
theorem Ty.ag3 : (ctx Tryd.prog Gt tab).isAgg 3 = some false := by kernel_rfl
theorem Ty.zr3 : (ctx Tryd.prog Gt tab).zero 3 = some (.v (.c (.d (.int .i64 0)))) := by kernel_rfl
theorem Ty.ap3 : (ctx Tryd.prog Gt tab).apz 3 = some (1, 8) := by kernel_rfl
theorem Ty.un3 : Tryd.prog.underlying 3 = some (Go.TypeDesc.int Go.IntKind.i64) := by kernel_rfl
theorem Ty.sz4 : (ctx Tryd.prog Gt tab).size 4 = some 1 := by kernel_rfl
theorem Ty.ag4 : (ctx Tryd.prog Gt tab).isAgg 4 = some false := by kernel_rfl
theorem Ty.zr4 : (ctx Tryd.prog Gt tab).zero 4 = some (.v (.c (.d (.bool false)))) := by kernel_rfl
theorem Ty.ap4 : (ctx Tryd.prog Gt tab).apz 4 = some (1, 1) := by kernel_rfl
theorem Ty.un4 : Tryd.prog.underlying 4 = some Go.TypeDesc.bool := by kernel_rfl
theorem Ty.sz5 : (ctx Tryd.prog Gt tab).size 5 = some 1 := by kernel_rfl
theorem Ty.ag5 : (ctx Tryd.prog Gt tab).isAgg 5 = some false := by kernel_rfl
theorem Ty.zr5 : (ctx Tryd.prog Gt tab).zero 5 = some (.v (.c (.d (.int .u8 0)))) := by kernel_rfl
theorem Ty.ap5 : (ctx Tryd.prog Gt tab).apz 5 = some (1, 1) := by kernel_rfl
theorem Ty.un5 : Tryd.prog.underlying 5 = some (Go.TypeDesc.int Go.IntKind.u8) := by kernel_rfl
theorem Ty.sz9 : (ctx Tryd.prog Gt tab).size 9 = some 1 := by kernel_rfl
theorem Ty.ag9 : (ctx Tryd.prog Gt tab).isAgg 9 = some false := by kernel_rfl
theorem Ty.zr9 : (ctx Tryd.prog Gt tab).zero 9 = some (.v (.c (.d (.str [])))) := by kernel_rfl
theorem Ty.ap9 : (ctx Tryd.prog Gt tab).apz 9 = some (1, 16) := by kernel_rfl
theorem Ty.un9 : Tryd.prog.underlying 9 = some Go.TypeDesc.string := by kernel_rfl
theorem Ty.sz22 : (ctx Tryd.prog Gt tab).size 22 = some 1 := by kernel_rfl
theorem Ty.ag22 : (ctx Tryd.prog Gt tab).isAgg 22 = some false := by kernel_rfl
theorem Ty.zr22 : (ctx Tryd.prog Gt tab).zero 22 = some (.v (.c (.d (.sl true [])))) := by kernel_rfl
theorem Ty.ap22 : (ctx Tryd.prog Gt tab).apz 22 = some (1, 24) := by kernel_rfl
theorem Ty.un22 : Tryd.prog.underlying 22 = some (Go.TypeDesc.slice 86) := by kernel_rfl
theorem Ty.sz24 : (ctx Tryd.prog Gt tab).size 24 = some 7 := by kernel_rfl
theorem Ty.ag24 : (ctx Tryd.prog Gt tab).isAgg 24 = some true := by kernel_rfl
theorem Ty.zr24 : (ctx Tryd.prog Gt tab).zero 24 = some (.v (.agg [.d (.str []), .d (.str []), .d (.str []), .d (.int .i64 0), .d (.int .i64 0), .d (.sl true []), .d (.int .i64 0)])) := by kernel_rfl
theorem Ty.ap24 : (ctx Tryd.prog Gt tab).apz 24 = some (7, 96) := by kernel_rfl
theorem Ty.fd24_0 : fld (ctx Tryd.prog Gt tab) (Tryd.prog.underlying 24) x 0 h = fldV (ctx Tryd.prog Gt tab) 9 0 x h := by kernel_rfl
theorem Ty.fa24_0 : fldA (ctx Tryd.prog Gt tab) (Tryd.prog.underlying 24) x 0 h = fldP 0 1 x h := by kernel_rfl
theorem Ty.fd24_1 : fld (ctx Tryd.prog Gt tab) (Tryd.prog.underlying 24) x 1 h = fldV (ctx Tryd.prog Gt tab) 9 1 x h := by kernel_rfl
theorem Ty.fa24_1 : fldA (ctx Tryd.prog Gt tab) (Tryd.prog.underlying 24) x 1 h = fldP 1 1 x h := by kernel_rfl
theorem Ty.fd24_2 : fld (ctx Tryd.prog Gt tab) (Tryd.prog.underlying 24) x 2 h = fldV (ctx Tryd.prog Gt tab) 9 2 x h := by kernel_rfl
theorem Ty.fa24_2 : fldA (ctx Tryd.prog Gt tab) (Tryd.prog.underlying 24) x 2 h = fldP 2 1 x h := by kernel_rfl
theorem Ty.fd24_3 : fld (ctx Tryd.prog Gt tab) (Tryd.prog.underlying 24) x 3 h = fldV (ctx Tryd.prog Gt tab) 3 3 x h := by kernel_rfl
theorem Ty.fa24_3 : fldA (ctx Tryd.prog Gt tab) (Tryd.prog.underlying 24) x 3 h = fldP 3 1 x h := by kernel_rfl
theorem Ty.fd24_4 : fld (ctx Tryd.prog Gt tab) (Tryd.prog.underlying 24) x 4 h = fldV (ctx Tryd.prog Gt tab) 3 4 x h := by kernel_rfl
theorem Ty.fa24_4 : fldA (ctx Tryd.prog Gt tab) (Tryd.prog.underlying 24) x 4 h = fldP 4 1 x h := by kernel_rfl
theorem Ty.fd24_5 : fld (ctx Tryd.prog Gt tab) (Tryd.prog.underlying 24) x 5 h = fldV (ctx Tryd.prog Gt tab) 22 5 x h := by kernel_rfl
theorem Ty.fa24_5 : fldA (ctx Tryd.prog Gt tab) (Tryd.prog.underlying 24) x 5 h = fldP 5 1 x h := by kernel_rfl
theorem Ty.fd24_6 : fld (ctx Tryd.prog Gt tab) (Tryd.prog.underlying 24) x 6 h = fldV (ctx Tryd.prog Gt tab) 3 6 x h := by kernel_rfl
theorem Ty.fa24_6 : fldA (ctx Tryd.prog Gt tab) (Tryd.prog.underlying 24) x 6 h = fldP 6 1 x h := by kernel_rfl
theorem Ty.pl24 : (ctx Tryd.prog Gt tab).place 24 = some fun i => [(0, 1), (1, 1), (2, 1), (3, 1), (4, 1), (5, 1), (6, 1)][i]? := by kernel_rfl
theorem Ty.sz28 : (ctx Tryd.prog Gt tab).size 28 = some 1 := by kernel_rfl
theorem Ty.ag28 : (ctx Tryd.prog Gt tab).isAgg 28 = some false := by kernel_rfl
theorem Ty.zr28 : (ctx Tryd.prog Gt tab).zero 28 = some (.v (.c (.d (.sl true [])))) := by kernel_rfl
theorem Ty.ap28 : (ctx Tryd.prog Gt tab).apz 28 = some (1, 24) := by kernel_rfl
theorem Ty.un28 : Tryd.prog.underlying 28 = some (Go.TypeDesc.slice 201) := by kernel_rfl
theorem Ty.sz29 : (ctx Tryd.prog Gt tab).size 29 = some 1 := by kernel_rfl
theorem Ty.ag29 : (ctx Tryd.prog Gt tab).isAgg 29 = some false := by kernel_rfl
theorem Ty.zr29 : (ctx Tryd.prog Gt tab).zero 29 = some (.v (.c (.d (.sl true [])))) := by kernel_rfl
theorem Ty.ap29 : (ctx Tryd.prog Gt tab).apz 29 = some (1, 24) := by kernel_rfl
theorem Ty.un29 : Tryd.prog.underlying 29 = some (Go.TypeDesc.slice 203) := by kernel_rfl
theorem Ty.sz31 : (ctx Tryd.prog Gt tab).size 31 = some 2 := by kernel_rfl
theorem Ty.ag31 : (ctx Tryd.prog Gt tab).isAgg 31 = some true := by kernel_rfl
theorem Ty.zr31 : (ctx Tryd.prog Gt tab).zero 31 = some (.v (.agg [.d (.sl true []), .d (.sl true [])])) := by kernel_rfl
theorem Ty.ap31 : (ctx Tryd.prog Gt tab).apz 31 = some (2, 48) := by kernel_rfl
theorem Ty.fd31_0 : fld (ctx Tryd.prog Gt tab) (Tryd.prog.underlying 31) x 0 h = fldV (ctx Tryd.prog Gt tab) 28 0 x h := by kernel_rfl
theorem Ty.fa31_0 : fldA (ctx Tryd.prog Gt tab) (Tryd.prog.underlying 31) x 0 h = fldP 0 1 x h := by kernel_rfl
theorem Ty.fd31_1 : fld (ctx Tryd.prog Gt tab) (Tryd.prog.underlying 31) x 1 h = fldV (ctx Tryd.prog Gt tab) 29 1 x h := by kernel_rfl
theorem Ty.fa31_1 : fldA (ctx Tryd.prog Gt tab) (Tryd.prog.underlying 31) x 1 h = fldP 1 1 x h := by kernel_rfl
theorem Ty.pl31 : (ctx Tryd.prog Gt tab).place 31 = some fun i => [(0, 1), (1, 1)][i]? := by kernel_rfl
theorem Ty.sz32 : (ctx Tryd.prog Gt tab).size 32 = some 1 := by kernel_rfl
theorem Ty.ag32 : (ctx Tryd.prog Gt tab).isAgg 32 = some false := by kernel_rfl
theorem Ty.zr32 : (ctx Tryd.prog Gt tab).zero 32 = some (.v (.c (.d (.sl true [])))) := by kernel_rfl
theorem Ty.ap32 : (ctx Tryd.prog Gt tab).apz 32 = some (1, 24) := by kernel_rfl
theorem Ty.un32 : Tryd.prog.underlying 32 = some (Go.TypeDesc.slice 205) := by kernel_rfl
theorem Ty.sz34 : (ctx Tryd.prog Gt tab).size 34 = some 3 := by kernel_rfl
theorem Ty.ag34 : (ctx Tryd.prog Gt tab).isAgg 34 = some true := by kernel_rfl
theorem Ty.zr34 : (ctx Tryd.prog Gt tab).zero 34 = some (.v (.agg [.d (.sl true []), .d (.sl true []), .d (.sl true [])])) := by kernel_rfl
theorem Ty.ap34 : (ctx Tryd.prog Gt tab).apz 34 = some (3, 72) := by kernel_rfl
theorem Ty.fd34_0 : fld (ctx Tryd.prog Gt tab) (Tryd.prog.underlying 34) x 0 h = fldV (ctx Tryd.prog Gt tab) 31 0 x h := by kernel_rfl
theorem Ty.fa34_0 : fldA (ctx Tryd.prog Gt tab) (Tryd.prog.underlying 34) x 0 h = fldP 0 2 x h := by kernel_rfl
theorem Ty.fd34_1 : fld (ctx Tryd.prog Gt tab) (Tryd.prog.underlying 34) x 1 h = fldV (ctx Tryd.prog Gt tab) 32 2 x h := by kernel_rfl
theorem Ty.fa34_1 : fldA (ctx Tryd.prog Gt tab) (Tryd.prog.underlying 34) x 1 h = fldP 2 1 x h := by kernel_rfl
theorem Ty.pl34 : (ctx Tryd.prog Gt tab).place 34 = some fun i => [(0, 2), (2, 1)][i]? := by kernel_rfl
theorem Ty.sz35 : (ctx Tryd.prog Gt tab).size 35 = some 1 := by kernel_rfl
theorem Ty.ag35 : (ctx Tryd.prog Gt tab).isAgg 35 = some false := by kernel_rfl
theorem Ty.zr35 : (ctx Tryd.prog Gt tab).zero 35 = some (.v (.c (.d (.sl true [])))) := by kernel_rfl
theorem Ty.ap35 : (ctx Tryd.prog Gt tab).apz 35 = some (1, 24) := by kernel_rfl
theorem Ty.un35 : Tryd.prog.underlying 35 = some (Go.TypeDesc.slice 209) := by kernel_rfl
theorem Ty.sz36 : (ctx Tryd.prog Gt tab).size 36 = some 1 := by kernel_rfl
theorem Ty.ag36 : (ctx Tryd.prog Gt tab).isAgg 36 = some false := by kernel_rfl
theorem Ty.zr36 : (ctx Tryd.prog Gt tab).zero 36 = some (.v (.c (.d (.sl true [])))) := by kernel_rfl
theorem Ty.ap36 : (ctx Tryd.prog Gt tab).apz 36 = some (1, 24) := by kernel_rfl
theorem Ty.un36 : Tryd.prog.underlying 36 = some (Go.TypeDesc.slice 211) := by kernel_rfl
theorem Ty.sz37 : (ctx Tryd.prog Gt tab).size 37 = some 1 := by kernel_rfl
theorem Ty.ag37 : (ctx Tryd.prog Gt tab).isAgg 37 = some false := by kernel_rfl
theorem Ty.zr37 : (ctx Tryd.prog Gt tab).zero 37 = some (.v (.c (.d (.sl true [])))) := by kernel_rfl
theorem Ty.ap37 : (ctx Tryd.prog Gt tab).apz 37 = some (1, 24) := by kernel_rfl
theorem Ty.un37 : Tryd.prog.underlying 37 = some (Go.TypeDesc.slice 213) := by kernel_rfl
theorem Ty.sz38 : (ctx Tryd.prog Gt tab).size 38 = some 1 := by kernel_rfl
theorem Ty.ag38 : (ctx Tryd.prog Gt tab).isAgg 38 = some false := by kernel_rfl
theorem Ty.zr38 : (ctx Tryd.prog Gt tab).zero 38 = some (.v (.c (.d (.sl true [])))) := by kernel_rfl
theorem Ty.ap38 : (ctx Tryd.prog Gt tab).apz 38 = some (1, 24) := by kernel_rfl
theorem Ty.un38 : Tryd.prog.underlying 38 = some (Go.TypeDesc.slice 219) := by kernel_rfl
theorem Ty.sz39 : (ctx Tryd.prog Gt tab).size 39 = some 1 := by kernel_rfl
theorem Ty.ag39 : (ctx Tryd.prog Gt tab).isAgg 39 = some false := by kernel_rfl
theorem Ty.zr39 : (ctx Tryd.prog Gt tab).zero 39 = some (.v (.c (.d (.sl true [])))) := by kernel_rfl
theorem Ty.ap39 : (ctx Tryd.prog Gt tab).apz 39 = some (1, 24) := by kernel_rfl
theorem Ty.un39 : Tryd.prog.underlying 39 = some (Go.TypeDesc.slice 3) := by kernel_rfl
theorem Ty.sz41 : (ctx Tryd.prog Gt tab).size 41 = some 4 := by kernel_rfl
theorem Ty.ag41 : (ctx Tryd.prog Gt tab).isAgg 41 = some true := by kernel_rfl
theorem Ty.zr41 : (ctx Tryd.prog Gt tab).zero 41 = some (.v (.agg [.d (.int .i64 0), .d (.sl true []), .d (.sl true []), .d (.sl true [])])) := by kernel_rfl
theorem Ty.ap41 : (ctx Tryd.prog Gt tab).apz 41 = some (4, 80) := by kernel_rfl
theorem Ty.fd41_0 : fld (ctx Tryd.prog Gt tab) (Tryd.prog.underlying 41) x 0 h = fldV (ctx Tryd.prog Gt tab) 3 0 x h := by kernel_rfl
theorem Ty.fa41_0 : fldA (ctx Tryd.prog Gt tab) (Tryd.prog.underlying 41) x 0 h = fldP 0 1 x h := by kernel_rfl
theorem Ty.fd41_1 : fld (ctx Tryd.prog Gt tab) (Tryd.prog.underlying 41) x 1 h = fldV (ctx Tryd.prog Gt tab) 39 1 x h := by kernel_rfl
theorem Ty.fa41_1 : fldA (ctx Tryd.prog Gt tab) (Tryd.prog.underlying 41) x 1 h = fldP 1 1 x h := by kernel_rfl
theorem Ty.fd41_2 : fld (ctx Tryd.prog Gt tab) (Tryd.prog.underlying 41) x 2 h = fldV (ctx Tryd.prog Gt tab) 39 2 x h := by kernel_rfl
theorem Ty.fa41_2 : fldA (ctx Tryd.prog Gt tab) (Tryd.prog.underlying 41) x 2 h = fldP 2 1 x h := by kernel_rfl
theorem Ty.fd41_3 : fld (ctx Tryd.prog Gt tab) (Tryd.prog.underlying 41) x 3 h = fldV (ctx Tryd.prog Gt tab) 39 3 x h := by kernel_rfl
theorem Ty.fa41_3 : fldA (ctx Tryd.prog Gt tab) (Tryd.prog.underlying 41) x 3 h = fldP 3 1 x h := by kernel_rfl
theorem Ty.pl41 : (ctx Tryd.prog Gt tab).place 41 = some fun i => [(0, 1), (1, 1), (2, 1), (3, 1)][i]? := by kernel_rfl
theorem Ty.sz42 : (ctx Tryd.prog Gt tab).size 42 = some 1 := by kernel_rfl
theorem Ty.ag42 : (ctx Tryd.prog Gt tab).isAgg 42 = some false := by kernel_rfl
theorem Ty.zr42 : (ctx Tryd.prog Gt tab).zero 42 = some (.v (.c (.d (.sl true [])))) := by kernel_rfl
theorem Ty.ap42 : (ctx Tryd.prog Gt tab).apz 42 = some (1, 24) := by kernel_rfl
theorem Ty.un42 : Tryd.prog.underlying 42 = some (Go.TypeDesc.slice 223) := by kernel_rfl
theorem Ty.sz43 : (ctx Tryd.prog Gt tab).size 43 = some 1 := by kernel_rfl
theorem Ty.ag43 : (ctx Tryd.prog Gt tab).isAgg 43 = some false := by kernel_rfl
theorem Ty.zr43 : (ctx Tryd.prog Gt tab).zero 43 = some (.v (.c (.d (.sl true [])))) := by kernel_rfl
theorem Ty.ap43 : (ctx Tryd.prog Gt tab).apz 43 = some (1, 24) := by kernel_rfl
theorem Ty.un43 : Tryd.prog.underlying 43 = some (Go.TypeDesc.slice 225) := by kernel_rfl
theorem Ty.sz44 : (ctx Tryd.prog Gt tab).size 44 = some 1 := by kernel_rfl
theorem Ty.ag44 : (ctx Tryd.prog Gt tab).isAgg 44 = some false := by kernel_rfl
theorem Ty.zr44 : (ctx Tryd.prog Gt tab).zero 44 = some (.v (.c (.d (.sl true [])))) := by kernel_rfl
theorem Ty.ap44 : (ctx Tryd.prog Gt tab).apz 44 = some (1, 24) := by kernel_rfl
theorem Ty.un44 : Tryd.prog.underlying 44 = some (Go.TypeDesc.slice 229) := by kernel_rfl
theorem Ty.sz45 : (ctx Tryd.prog Gt tab).size 45 = some 1 := by kernel_rfl
theorem Ty.ag45 : (ctx Tryd.prog Gt tab).isAgg 45 = some false := by kernel_rfl
theorem Ty.zr45 : (ctx Tryd.prog Gt tab).zero 45 = some (.v (.c (.d (.sl true [])))) := by kernel_rfl
theorem Ty.ap45 : (ctx Tryd.prog Gt tab).apz 45 = some (1, 24) := by kernel_rfl
theorem Ty.un45 : Tryd.prog.underlying 45 = some (Go.TypeDesc.slice 231) := by kernel_rfl
theorem Ty.sz46 : (ctx Tryd.prog Gt tab).size 46 = some 1 := by kernel_rfl
theorem Ty.ag46 : (ctx Tryd.prog Gt tab).isAgg 46 = some false := by kernel_rfl
theorem Ty.zr46 : (ctx Tryd.prog Gt tab).zero 46 = some (.v (.c (.d (.sl true [])))) := by kernel_rfl
theorem Ty.ap46 : (ctx Tryd.prog Gt tab).apz 46 = some (1, 24) := by kernel_rfl
theorem Ty.un46 : Tryd.prog.underlying 46 = some (Go.TypeDesc.slice 107) := by kernel_rfl
theorem Ty.sz47 : (ctx Tryd.prog Gt tab).size 47 = some 1 := by kernel_rfl
theorem Ty.ag47 : (ctx Tryd.prog Gt tab).isAgg 47 = some false := by kernel_rfl
theorem Ty.zr47 : (ctx Tryd.prog Gt tab).zero 47 = some (.v (.c (.d (.sl true [])))) := by kernel_rfl
theorem Ty.ap47 : (ctx Tryd.prog Gt tab).apz 47 = some (1, 24) := by kernel_rfl
theorem Ty.un47 : Tryd.prog.underlying 47 = some (Go.TypeDesc.slice 233) := by kernel_rfl
theorem Ty.sz49 : (ctx Tryd.prog Gt tab).size 49 = some 3 := by kernel_rfl
theorem Ty.ag49 : (ctx Tryd.prog Gt tab).isAgg 49 = some true := by kernel_rfl
theorem Ty.zr49 : (ctx Tryd.prog Gt tab).zero 49 = some (.v (.agg [.d (.sl true []), .d (.sl true []), .d (.int .i64 0)])) := by kernel_rfl
theorem Ty.ap49 : (ctx Tryd.prog Gt tab).apz 49 = some (3, 56) := by kernel_rfl
theorem Ty.fd49_0 : fld (ctx Tryd.prog Gt tab) (Tryd.prog.underlying 49) x 0 h = fldV (ctx Tryd.prog Gt tab) 39 0 x h := by kernel_rfl
theorem Ty.fa49_0 : fldA (ctx Tryd.prog Gt tab) (Tryd.prog.underlying 49) x 0 h = fldP 0 1 x h := by kernel_rfl
theorem Ty.fd49_1 : fld (ctx Tryd.prog Gt tab) (Tryd.prog.underlying 49) x 1 h = fldV (ctx Tryd.prog Gt tab) 39 1 x h := by kernel_rfl
theorem Ty.fa49_1 : fldA (ctx Tryd.prog Gt tab) (Tryd.prog.underlying 49) x 1 h = fldP 1 1 x h := by kernel_rfl
theorem Ty.fd49_2 : fld (ctx Tryd.prog Gt tab) (Tryd.prog.underlying 49) x 2 h = fldV (ctx Tryd.prog Gt tab) 3 2 x h := by kernel_rfl
theorem Ty.fa49_2 : fldA (ctx Tryd.prog Gt tab) (Tryd.prog.underlying 49) x 2 h = fldP 2 1 x h := by kernel_rfl
theorem Ty.pl49 : (ctx Tryd.prog Gt tab).place 49 = some fun i => [(0, 1), (1, 1), (2, 1)][i]? := by kernel_rfl
theorem Ty.sz50 : (ctx Tryd.prog Gt tab).size 50 = some 1 := by kernel_rfl
theorem Ty.ag50 : (ctx Tryd.prog Gt tab).isAgg 50 = some false := by kernel_rfl
theorem Ty.zr50 : (ctx Tryd.prog Gt tab).zero 50 = some (.v (.c (.d (.sl true [])))) := by kernel_rfl
theorem Ty.ap50 : (ctx Tryd.prog Gt tab).apz 50 = some (1, 24) := by kernel_rfl
theorem Ty.un50 : Tryd.prog.underlying 50 = some (Go.TypeDesc.slice 235) := by kernel_rfl
theorem Ty.sz52 : (ctx Tryd.prog Gt tab).size 52 = some 25 := by kernel_rfl
theorem Ty.ag52 : (ctx Tryd.prog Gt tab).isAgg 52 = some true := by kernel_rfl
theorem Ty.zr52 : (ctx Tryd.prog Gt tab).zero 52 = some (.v (.agg [.d (.sl true []), .d (.sl true []), .d (.sl true []), .d (.sl true []), .d (.sl true []), .d (.sl true []), .d (.int .i64 0), .d (.int .i64 0), .d (.sl true []), .d (.int .i64 0), .d (.sl true []), .d (.sl true []), .d (.sl true []), .d (.sl true []), .d (.sl true []), .d (.sl true []), .d (.sl true []), .d (.sl true []), .d (.sl true []), .d (.sl true []), .d (.sl true []), .d (.sl true []), .d (.int .i64 0), .d (.sl true []), .d (.str [])])) := by kernel_rfl
theorem Ty.ap52 : (ctx Tryd.prog Gt tab).apz 52 = some (25, 528) := by kernel_rfl
theorem Ty.fd52_0 : fld (ctx Tryd.prog Gt tab) (Tryd.prog.underlying 52) x 0 h = fldV (ctx Tryd.prog Gt tab) 34 0 x h := by kernel_rfl
theorem Ty.fa52_0 : fldA (ctx Tryd.prog Gt tab) (Tryd.prog.underlying 52) x 0 h = fldP 0 3 x h := by kernel_rfl
theorem Ty.fd52_1 : fld (ctx Tryd.prog Gt tab) (Tryd.prog.underlying 52) x 1 h = fldV (ctx Tryd.prog Gt tab) 35 3 x h := by kernel_rfl
theorem Ty.fa52_1 : fldA (ctx Tryd.prog Gt tab) (Tryd.prog.underlying 52) x 1 h = fldP 3 1 x h := by kernel_rfl
theorem Ty.fd52_2 : fld (ctx Tryd.prog Gt tab) (Tryd.prog.underlying 52) x 2 h = fldV (ctx Tryd.prog Gt tab) 36 4 x h := by kernel_rfl
theorem Ty.fa52_2 : fldA (ctx Tryd.prog Gt tab) (Tryd.prog.underlying 52) x 2 h = fldP 4 1 x h := by kernel_rfl
theorem Ty.fd52_3 : fld (ctx Tryd.prog Gt tab) (Tryd.prog.underlying 52) x 3 h = fldV (ctx Tryd.prog Gt tab) 37 5 x h := by kernel_rfl
theorem Ty.fa52_3 : fldA (ctx Tryd.prog Gt tab) (Tryd.prog.underlying 52) x 3 h = fldP 5 1 x h := by kernel_rfl
theorem Ty.fd52_4 : fld (ctx Tryd.prog Gt tab) (Tryd.prog.underlying 52) x 4 h = fldV (ctx Tryd.prog Gt tab) 3 6 x h := by kernel_rfl
theorem Ty.fa52_4 : fldA (ctx Tryd.prog Gt tab) (Tryd.prog.underlying 52) x 4 h = fldP 6 1 x h := by kernel_rfl
theorem Ty.fd52_5 : fld (ctx Tryd.prog Gt tab) (Tryd.prog.underlying 52) x 5 h = fldV (ctx Tryd.prog Gt tab) 3 7 x h := by kernel_rfl
theorem Ty.fa52_5 : fldA (ctx Tryd.prog Gt tab) (Tryd.prog.underlying 52) x 5 h = fldP 7 1 x h := by kernel_rfl
theorem Ty.fd52_6 : fld (ctx Tryd.prog Gt tab) (Tryd.prog.underlying 52) x 6 h = fldV (ctx Tryd.prog Gt tab) 38 8 x h := by kernel_rfl
theorem Ty.fa52_6 : fldA (ctx Tryd.prog Gt tab) (Tryd.prog.underlying 52) x 6 h = fldP 8 1 x h := by kernel_rfl
theorem Ty.fd52_7 : fld (ctx Tryd.prog Gt tab) (Tryd.prog.underlying 52) x 7 h = fldV (ctx Tryd.prog Gt tab) 41 9 x h := by kernel_rfl
theorem Ty.fa52_7 : fldA (ctx Tryd.prog Gt tab) (Tryd.prog.underlying 52) x 7 h = fldP 9 4 x h := by kernel_rfl
theorem Ty.fd52_8 : fld (ctx Tryd.prog Gt tab) (Tryd.prog.underlying 52) x 8 h = fldV (ctx Tryd.prog Gt tab) 42 13 x h := by kernel_rfl
theorem Ty.fa52_8 : fldA (ctx Tryd.prog Gt tab) (Tryd.prog.underlying 52) x 8 h = fldP 13 1 x h := by kernel_rfl
theorem Ty.fd52_9 : fld (ctx Tryd.prog Gt tab) (Tryd.prog.underlying 52) x 9 h = fldV (ctx Tryd.prog Gt tab) 43 14 x h := by kernel_rfl
theorem Ty.fa52_9 : fldA (ctx Tryd.prog Gt tab) (Tryd.prog.underlying 52) x 9 h = fldP 14 1 x h := by kernel_rfl
theorem Ty.fd52_10 : fld (ctx Tryd.prog Gt tab) (Tryd.prog.underlying 52) x 10 h = fldV (ctx Tryd.prog Gt tab) 44 15 x h := by kernel_rfl
theorem Ty.fa52_10 : fldA (ctx Tryd.prog Gt tab) (Tryd.prog.underlying 52) x 10 h = fldP 15 1 x h := by kernel_rfl
theorem Ty.fd52_11 : fld (ctx Tryd.prog Gt tab) (Tryd.prog.underlying 52) x 11 h = fldV (ctx Tryd.prog Gt tab) 45 16 x h := by kernel_rfl
theorem Ty.fa52_11 : fldA (ctx Tryd.prog Gt tab) (Tryd.prog.underlying 52) x 11 h = fldP 16 1 x h := by kernel_rfl
theorem Ty.fd52_12 : fld (ctx Tryd.prog Gt tab) (Tryd.prog.underlying 52) x 12 h = fldV (ctx Tryd.prog Gt tab) 46 17 x h := by kernel_rfl
theorem Ty.fa52_12 : fldA (ctx Tryd.prog Gt tab) (Tryd.prog.underlying 52) x 12 h = fldP 17 1 x h := by kernel_rfl
theorem Ty.fd52_13 : fld (ctx Tryd.prog Gt tab) (Tryd.prog.underlying 52) x 13 h = fldV (ctx Tryd.prog Gt tab) 47 18 x h := by kernel_rfl
theorem Ty.fa52_13 : fldA (ctx Tryd.prog Gt tab) (Tryd.prog.underlying 52) x 13 h = fldP 18 1 x h := by kernel_rfl
theorem Ty.fd52_14 : fld (ctx Tryd.prog Gt tab) (Tryd.prog.underlying 52) x 14 h = fldV (ctx Tryd.prog Gt tab) 39 19 x h := by kernel_rfl
theorem Ty.fa52_14 : fldA (ctx Tryd.prog Gt tab) (Tryd.prog.underlying 52) x 14 h = fldP 19 1 x h := by kernel_rfl
theorem Ty.fd52_15 : fld (ctx Tryd.prog Gt tab) (Tryd.prog.underlying 52) x 15 h = fldV (ctx Tryd.prog Gt tab) 49 20 x h := by kernel_rfl
theorem Ty.fa52_15 : fldA (ctx Tryd.prog Gt tab) (Tryd.prog.underlying 52) x 15 h = fldP 20 3 x h := by kernel_rfl
theorem Ty.fd52_16 : fld (ctx Tryd.prog Gt tab) (Tryd.prog.underlying 52) x 16 h = fldV (ctx Tryd.prog Gt tab) 50 23 x h := by kernel_rfl
theorem Ty.fa52_16 : fldA (ctx Tryd.prog Gt tab) (Tryd.prog.underlying 52) x 16 h = fldP 23 1 x h := by kernel_rfl
theorem Ty.fd52_17 : fld (ctx Tryd.prog Gt tab) (Tryd.prog.underlying 52) x 17 h = fldV (ctx Tryd.prog Gt tab) 9 24 x h := by kernel_rfl
theorem Ty.fa52_17 : fldA (ctx Tryd.prog Gt tab) (Tryd.prog.underlying 52) x 17 h = fldP 24 1 x h := by kernel_rfl
theorem Ty.pl52 : (ctx Tryd.prog Gt tab).place 52 = some fun i => [(0, 3), (3, 1), (4, 1), (5, 1), (6, 1), (7, 1), (8, 1), (9, 4), (13, 1), (14, 1), (15, 1), (16, 1), (17, 1), (18, 1), (19, 1), (20, 3), (23, 1), (24, 1)][i]? := by kernel_rfl
theorem Ty.sz53 : (ctx Tryd.prog Gt tab).size 53 = some 1 := by kernel_rfl
theorem Ty.ag53 : (ctx Tryd.prog Gt tab).isAgg 53 = some false := by kernel_rfl
theorem Ty.zr53 : (ctx Tryd.prog Gt tab).zero 53 = some (.v (.c (.d (.sl true [])))) := by kernel_rfl
theorem Ty.ap53 : (ctx Tryd.prog Gt tab).apz 53 = some (1, 24) := by kernel_rfl
theorem Ty.un53 : Tryd.prog.underlying 53 = some (Go.TypeDesc.slice 239) := by kernel_rfl
theorem Ty.sz54 : (ctx Tryd.prog Gt tab).size 54 = some 1 := by kernel_rfl
theorem Ty.ag54 : (ctx Tryd.prog Gt tab).isAgg 54 = some false := by kernel_rfl
theorem Ty.zr54 : (ctx Tryd.prog Gt tab).zero 54 = some (.v (.c (.d (.sl true [])))) := by kernel_rfl
theorem Ty.ap54 : (ctx Tryd.prog Gt tab).apz 54 = some (1, 24) := by kernel_rfl
theorem Ty.un54 : Tryd.prog.underlying 54 = some (Go.TypeDesc.slice 241) := by kernel_rfl
theorem Ty.sz55 : (ctx Tryd.prog Gt tab).size 55 = some 1 := by kernel_rfl
theorem Ty.ag55 : (ctx Tryd.prog Gt tab).isAgg 55 = some false := by kernel_rfl
theorem Ty.zr55 : (ctx Tryd.prog Gt tab).zero 55 = some (.v (.c (.d (.sl true [])))) := by kernel_rfl
theorem Ty.ap55 : (ctx Tryd.prog Gt tab).apz 55 = some (1, 24) := by kernel_rfl
theorem Ty.un55 : Tryd.prog.underlying 55 = some (Go.TypeDesc.slice 243) := by kernel_rfl
theorem Ty.sz56 : (ctx Tryd.prog Gt tab).size 56 = some 1 := by kernel_rfl
theorem Ty.ag56 : (ctx Tryd.prog Gt tab).isAgg 56 = some false := by kernel_rfl
theorem Ty.zr56 : (ctx Tryd.prog Gt tab).zero 56 = some (.v (.c (.d (.sl true [])))) := by kernel_rfl
theorem Ty.ap56 : (ctx Tryd.prog Gt tab).apz 56 = some (1, 24) := by kernel_rfl
theorem Ty.un56 : Tryd.prog.underlying 56 = some (Go.TypeDesc.slice 246) := by kernel_rfl
theorem Ty.sz57 : (ctx Tryd.prog Gt tab).size 57 = some 1 := by kernel_rfl
theorem Ty.ag57 : (ctx Tryd.prog Gt tab).isAgg 57 = some false := by kernel_rfl
theorem Ty.zr57 : (ctx Tryd.prog Gt tab).zero 57 = some (.v (.c (.d (.sl true [])))) := by kernel_rfl
theorem Ty.ap57 : (ctx Tryd.prog Gt tab).apz 57 = some (1, 24) := by kernel_rfl
theorem Ty.un57 : Tryd.prog.underlying 57 = some (Go.TypeDesc.slice 249) := by kernel_rfl
theorem Ty.sz58 : (ctx Tryd.prog Gt tab).size 58 = some 1 := by kernel_rfl
theorem Ty.ag58 : (ctx Tryd.prog Gt tab).isAgg 58 = some false := by kernel_rfl
theorem Ty.zr58 : (ctx Tryd.prog Gt tab).zero 58 = some (.v (.c (.d (.sl true [])))) := by kernel_rfl
theorem Ty.ap58 : (ctx Tryd.prog Gt tab).apz 58 = some (1, 24) := by kernel_rfl
theorem Ty.un58 : Tryd.prog.underlying 58 = some (Go.TypeDesc.slice 251) := by kernel_rfl
theorem Ty.sz59 : (ctx Tryd.prog Gt tab).size 59 = some 1 := by kernel_rfl
theorem Ty.ag59 : (ctx Tryd.prog Gt tab).isAgg 59 = some false := by kernel_rfl
theorem Ty.zr59 : (ctx Tryd.prog Gt tab).zero 59 = some (.v (.c (.d (.sl true [])))) := by kernel_rfl
theorem Ty.ap59 : (ctx Tryd.prog Gt tab).apz 59 = some (1, 24) := by kernel_rfl
theorem Ty.un59 : Tryd.prog.underlying 59 = some (Go.TypeDesc.slice 24) := by kernel_rfl
theorem Ty.sz60 : (ctx Tryd.prog Gt tab).size 60 = some 1 := by kernel_rfl
theorem Ty.ag60 : (ctx Tryd.prog Gt tab).isAgg 60 = some false := by kernel_rfl
theorem Ty.zr60 : (ctx Tryd.prog Gt tab).zero 60 = some (.v (.c (.d (.sl true [])))) := by kernel_rfl
theorem Ty.ap60 : (ctx Tryd.prog Gt tab).apz 60 = some (1, 24) := by kernel_rfl
theorem Ty.un60 : Tryd.prog.underlying 60 = some (Go.TypeDesc.slice 253) := by kernel_rfl
theorem Ty.sz62 : (ctx Tryd.prog Gt tab).size 62 = some 6 := by kernel_rfl
theorem Ty.ag62 : (ctx Tryd.prog Gt tab).isAgg 62 = some true := by kernel_rfl
theorem Ty.zr62 : (ctx Tryd.prog Gt tab).zero 62 = some (.v (.agg [.d (.sl true []), .d (.sl true []), .d (.sl true []), .d (.sl true []), .d (.sl true []), .d (.sl true [])])) := by kernel_rfl
theorem Ty.ap62 : (ctx Tryd.prog Gt tab).apz 62 = some (6, 144) := by kernel_rfl
theorem Ty.fd62_0 : fld (ctx Tryd.prog Gt tab) (Tryd.prog.underlying 62) x 0 h = fldV (ctx Tryd.prog Gt tab) 56 0 x h := by kernel_rfl
theorem Ty.fa62_0 : fldA (ctx Tryd.prog Gt tab) (Tryd.prog.underlying 62) x 0 h = fldP 0 1 x h := by kernel_rfl
theorem Ty.fd62_1 : fld (ctx Tryd.prog Gt tab) (Tryd.prog.underlying 62) x 1 h = fldV (ctx Tryd.prog Gt tab) 54 1 x h := by kernel_rfl
theorem Ty.fa62_1 : fldA (ctx Tryd.prog Gt tab) (Tryd.prog.underlying 62) x 1 h = fldP 1 1 x h := by kernel_rfl
theorem Ty.fd62_2 : fld (ctx Tryd.prog Gt tab) (Tryd.prog.underlying 62) x 2 h = fldV (ctx Tryd.prog Gt tab) 57 2 x h := by kernel_rfl
theorem Ty.fa62_2 : fldA (ctx Tryd.prog Gt tab) (Tryd.prog.underlying 62) x 2 h = fldP 2 1 x h := by kernel_rfl
theorem Ty.fd62_3 : fld (ctx Tryd.prog Gt tab) (Tryd.prog.underlying 62) x 3 h = fldV (ctx Tryd.prog Gt tab) 58 3 x h := by kernel_rfl
theorem Ty.fa62_3 : fldA (ctx Tryd.prog Gt tab) (Tryd.prog.underlying 62) x 3 h = fldP 3 1 x h := by kernel_rfl
theorem Ty.fd62_4 : fld (ctx Tryd.prog Gt tab) (Tryd.prog.underlying 62) x 4 h = fldV (ctx Tryd.prog Gt tab) 59 4 x h := by kernel_rfl
theorem Ty.fa62_4 : fldA (ctx Tryd.prog Gt tab) (Tryd.prog.underlying 62) x 4 h = fldP 4 1 x h := by kernel_rfl
theorem Ty.fd62_5 : fld (ctx Tryd.prog Gt tab) (Tryd.prog.underlying 62) x 5 h = fldV (ctx Tryd.prog Gt tab) 60 5 x h := by kernel_rfl
theorem Ty.fa62_5 : fldA (ctx Tryd.prog Gt tab) (Tryd.prog.underlying 62) x 5 h = fldP 5 1 x h := by kernel_rfl
theorem Ty.pl62 : (ctx Tryd.prog Gt tab).place 62 = some fun i => [(0, 1), (1, 1), (2, 1), (3, 1), (4, 1), (5, 1)][i]? := by kernel_rfl
theorem Ty.sz63 : (ctx Tryd.prog Gt tab).size 63 = some 1 := by kernel_rfl
theorem Ty.ag63 : (ctx Tryd.prog Gt tab).isAgg 63 = some false := by kernel_rfl
theorem Ty.zr63 : (ctx Tryd.prog Gt tab).zero 63 = some (.v (.c (.d (.sl true [])))) := by kernel_rfl
theorem Ty.ap63 : (ctx Tryd.prog Gt tab).apz 63 = some (1, 24) := by kernel_rfl
theorem Ty.un63 : Tryd.prog.underlying 63 = some (Go.TypeDesc.slice 98) := by kernel_rfl
theorem Ty.sz65 : (ctx Tryd.prog Gt tab).size 65 = some 1 := by kernel_rfl
theorem Ty.ag65 : (ctx Tryd.prog Gt tab).isAgg 65 = some true := by kernel_rfl
theorem Ty.zr65 : (ctx Tryd.prog Gt tab).zero 65 = some (.v (.agg [.d (.sl true [])])) := by kernel_rfl
theorem Ty.ap65 : (ctx Tryd.prog Gt tab).apz 65 = some (1, 24) := by kernel_rfl
theorem Ty.fd65_0 : fld (ctx Tryd.prog Gt tab) (Tryd.prog.underlying 65) x 0 h = fldV (ctx Tryd.prog Gt tab) 63 0 x h := by kernel_rfl
theorem Ty.fa65_0 : fldA (ctx Tryd.prog Gt tab) (Tryd.prog.underlying 65) x 0 h = fldP 0 1 x h := by kernel_rfl
theorem Ty.pl65 : (ctx Tryd.prog Gt tab).place 65 = some fun i => [(0, 1)][i]? := by kernel_rfl
theorem Ty.sz67 : (ctx Tryd.prog Gt tab).size 67 = some 2 := by kernel_rfl
theorem Ty.ag67 : (ctx Tryd.prog Gt tab).isAgg 67 = some true := by kernel_rfl
theorem Ty.zr67 : (ctx Tryd.prog Gt tab).zero 67 = some (.v (.agg [.d (.sl true []), .d (.sl true [])])) := by kernel_rfl
theorem Ty.ap67 : (ctx Tryd.prog Gt tab).apz 67 = some (2, 48) := by kernel_rfl
theorem Ty.fd67_0 : fld (ctx Tryd.prog Gt tab) (Tryd.prog.underlying 67) x 0 h = fldV (ctx Tryd.prog Gt tab) 65 0 x h := by kernel_rfl
theorem Ty.fa67_0 : fldA (ctx Tryd.prog Gt tab) (Tryd.prog.underlying 67) x 0 h = fldP 0 1 x h := by kernel_rfl
theorem Ty.fd67_1 : fld (ctx Tryd.prog Gt tab) (Tryd.prog.underlying 67) x 1 h = fldV (ctx Tryd.prog Gt tab) 59 1 x h := by kernel_rfl
theorem Ty.fa67_1 : fldA (ctx Tryd.prog Gt tab) (Tryd.prog.underlying 67) x 1 h = fldP 1 1 x h := by kernel_rfl
theorem Ty.pl67 : (ctx Tryd.prog Gt tab).place 67 = some fun i => [(0, 1), (1, 1)][i]? := by kernel_rfl
theorem Ty.sz68 : (ctx Tryd.prog Gt tab).size 68 = some 1 := by kernel_rfl
theorem Ty.ag68 : (ctx Tryd.prog Gt tab).isAgg 68 = some false := by kernel_rfl
theorem Ty.zr68 : (ctx Tryd.prog Gt tab).zero 68 = some (.v (.c (.d (.sl true [])))) := by kernel_rfl
theorem Ty.ap68 : (ctx Tryd.prog Gt tab).apz 68 = some (1, 24) := by kernel_rfl
theorem Ty.un68 : Tryd.prog.underlying 68 = some (Go.TypeDesc.slice 95) := by kernel_rfl
theorem Ty.sz70 : (ctx Tryd.prog Gt tab).size 70 = some 39 := by kernel_rfl
theorem Ty.ag70 : (ctx Tryd.prog Gt tab).isAgg 70 = some true := by kernel_rfl
theorem Ty.zr70 : (ctx Tryd.prog Gt tab).zero 70 = some (.v (.agg [.d (.sl true []), .d (.sl true []), .d (.sl true []), .d (.sl true []), .d (.sl true []), .d (.sl true []), .d (.int .i64 0), .d (.int .i64 0), .d (.sl true []), .d (.int .i64 0), .d (.sl true []), .d (.sl true []), .d (.sl true []), .d (.sl true []), .d (.sl true []), .d (.sl true []), .d (.sl true []), .d (.sl true []), .d (.sl true []), .d (.sl true []), .d (.sl true []), .d (.sl true []), .d (.int .i64 0), .d (.sl true []), .d (.str []), .d (.sl true []), .d (.sl true []), .d (.sl true []), .d (.int .i64 0), .d (.sl true []), .d (.sl true []), .d (.sl true []), .d (.sl true []), .d (.sl true []), .d (.sl true []), .d (.sl true []), .d (.sl true []), .d (.sl true []), .d (.int .i64 0)])) := by kernel_rfl
theorem Ty.ap70 : (ctx Tryd.prog Gt tab).apz 70 = some (39, 832) := by kernel_rfl
theorem Ty.fd70_0 : fld (ctx Tryd.prog Gt tab) (Tryd.prog.underlying 70) x 0 h = fldV (ctx Tryd.prog Gt tab) 52 0 x h := by kernel_rfl
theorem Ty.fa70_0 : fldA (ctx Tryd.prog Gt tab) (Tryd.prog.underlying 70) x 0 h = fldP 0 25 x h := by kernel_rfl
theorem Ty.fd70_1 : fld (ctx Tryd.prog Gt tab) (Tryd.prog.underlying 70) x 1 h = fldV (ctx Tryd.prog Gt tab) 53 25 x h := by kernel_rfl
theorem Ty.fa70_1 : fldA (ctx Tryd.prog Gt tab) (Tryd.prog.underlying 70) x 1 h = fldP 25 1 x h := by kernel_rfl
theorem Ty.fd70_2 : fld (ctx Tryd.prog Gt tab) (Tryd.prog.underlying 70) x 2 h = fldV (ctx Tryd.prog Gt tab) 54 26 x h := by kernel_rfl
theorem Ty.fa70_2 : fldA (ctx Tryd.prog Gt tab) (Tryd.prog.underlying 70) x 2 h = fldP 26 1 x h := by kernel_rfl
theorem Ty.fd70_3 : fld (ctx Tryd.prog Gt tab) (Tryd.prog.underlying 70) x 3 h = fldV (ctx Tryd.prog Gt tab) 55 27 x h := by kernel_rfl
theorem Ty.fa70_3 : fldA (ctx Tryd.prog Gt tab) (Tryd.prog.underlying 70) x 3 h = fldP 27 1 x h := by kernel_rfl
theorem Ty.fd70_4 : fld (ctx Tryd.prog Gt tab) (Tryd.prog.underlying 70) x 4 h = fldV (ctx Tryd.prog Gt tab) 3 28 x h := by kernel_rfl
theorem Ty.fa70_4 : fldA (ctx Tryd.prog Gt tab) (Tryd.prog.underlying 70) x 4 h = fldP 28 1 x h := by kernel_rfl
theorem Ty.fd70_5 : fld (ctx Tryd.prog Gt tab) (Tryd.prog.underlying 70) x 5 h = fldV (ctx Tryd.prog Gt tab) 62 29 x h := by kernel_rfl
theorem Ty.fa70_5 : fldA (ctx Tryd.prog Gt tab) (Tryd.prog.underlying 70) x 5 h = fldP 29 6 x h := by kernel_rfl
theorem Ty.fd70_6 : fld (ctx Tryd.prog Gt tab) (Tryd.prog.underlying 70) x 6 h = fldV (ctx Tryd.prog Gt tab) 67 35 x h := by kernel_rfl
theorem Ty.fa70_6 : fldA (ctx Tryd.prog Gt tab) (Tryd.prog.underlying 70) x 6 h = fldP 35 2 x h := by kernel_rfl
theorem Ty.fd70_7 : fld (ctx Tryd.prog Gt tab) (Tryd.prog.underlying 70) x 7 h = fldV (ctx Tryd.prog Gt tab) 68 37 x h := by kernel_rfl
theorem Ty.fa70_7 : fldA (ctx Tryd.prog Gt tab) (Tryd.prog.underlying 70) x 7 h = fldP 37 1 x h := by kernel_rfl
theorem Ty.fd70_8 : fld (ctx Tryd.prog Gt tab) (Tryd.prog.underlying 70) x 8 h = fldV (ctx Tryd.prog Gt tab) 3 38 x h := by kernel_rfl
theorem Ty.fa70_8 : fldA (ctx Tryd.prog Gt tab) (Tryd.prog.underlying 70) x 8 h = fldP 38 1 x h := by kernel_rfl
theorem Ty.pl70 : (ctx Tryd.prog Gt tab).place 70 = some fun i => [(0, 25), (25, 1), (26, 1), (27, 1), (28, 1), (29, 6), (35, 2), (37, 1), (38, 1)][i]? := by kernel_rfl
theorem Ty.sz72 : (ctx Tryd.prog Gt tab).size 72 = some 1 := by kernel_rfl
theorem Ty.ag72 : (ctx Tryd.prog Gt tab).isAgg 72 = some false := by kernel_rfl
theorem Ty.zr72 : (ctx Tryd.prog Gt tab).zero 72 = some (.v (.c (.d (.int .i64 0)))) := by kernel_rfl
theorem Ty.ap72 : (ctx Tryd.prog Gt tab).apz 72 = some (1, 8) := by kernel_rfl
theorem Ty.un72 : Tryd.prog.underlying 72 = some (Go.TypeDesc.int Go.IntKind.i64) := by kernel_rfl
theorem Ty.sz86 : (ctx Tryd.prog Gt tab).size 86 = some 2 := by kernel_rfl
theorem Ty.ag86 : (ctx Tryd.prog Gt tab).isAgg 86 = some true := by kernel_rfl
theorem Ty.zr86 : (ctx Tryd.prog Gt tab).zero 86 = some (.v (.agg [.d (.str []), .d (.int .i64 0)])) := by kernel_rfl
theorem Ty.ap86 : (ctx Tryd.prog Gt tab).apz 86 = some (2, 24) := by kernel_rfl
theorem Ty.fd86_0 : fld (ctx Tryd.prog Gt tab) (Tryd.prog.underlying 86) x 0 h = fldV (ctx Tryd.prog Gt tab) 9 0 x h := by kernel_rfl
theorem Ty.fa86_0 : fldA (ctx Tryd.prog Gt tab) (Tryd.prog.underlying 86) x 0 h = fldP 0 1 x h := by kernel_rfl
theorem Ty.fd86_1 : fld (ctx Tryd.prog Gt tab) (Tryd.prog.underlying 86) x 1 h = fldV (ctx Tryd.prog Gt tab) 3 1 x h := by kernel_rfl
theorem Ty.fa86_1 : fldA (ctx Tryd.prog Gt tab) (Tryd.prog.underlying 86) x 1 h = fldP 1 1 x h := by kernel_rfl
theorem Ty.pl86 : (ctx Tryd.prog Gt tab).place 86 = some fun i => [(0, 1), (1, 1)][i]? := by kernel_rfl
theorem Ty.sz91 : (ctx Tryd.prog Gt tab).size 91 = some 1 := by kernel_rfl
theorem Ty.ag91 : (ctx Tryd.prog Gt tab).isAgg 91 = some false := by kernel_rfl
theorem Ty.zr91 : (ctx Tryd.prog Gt tab).zero 91 = some (.v (.c (.d (.sl true [])))) := by kernel_rfl
theorem Ty.ap91 : (ctx Tryd.prog Gt tab).apz 91 = some (1, 24) := by kernel_rfl
theorem Ty.un91 : Tryd.prog.underlying 91 = some (Go.TypeDesc.slice 9) := by kernel_rfl
theorem Ty.sz93 : (ctx Tryd.prog Gt tab).size 93 = some 3 := by kernel_rfl
theorem Ty.ag93 : (ctx Tryd.prog Gt tab).isAgg 93 = some true := by kernel_rfl
theorem Ty.zr93 : (ctx Tryd.prog Gt tab).zero 93 = some (.v (.agg [.d (.int .i64 0), .d (.int .i64 0), .d (.int .i64 0)])) := by kernel_rfl
theorem Ty.ap93 : (ctx Tryd.prog Gt tab).apz 93 = some (3, 24) := by kernel_rfl
theorem Ty.fd93_0 : fld (ctx Tryd.prog Gt tab) (Tryd.prog.underlying 93) x 0 h = fldV (ctx Tryd.prog Gt tab) 3 0 x h := by kernel_rfl
theorem Ty.fa93_0 : fldA (ctx Tryd.prog Gt tab) (Tryd.prog.underlying 93) x 0 h = fldP 0 1 x h := by kernel_rfl
theorem Ty.fd93_1 : fld (ctx Tryd.prog Gt tab) (Tryd.prog.underlying 93) x 1 h = fldV (ctx Tryd.prog Gt tab) 3 1 x h := by kernel_rfl
theorem Ty.fa93_1 : fldA (ctx Tryd.prog Gt tab) (Tryd.prog.underlying 93) x 1 h = fldP 1 1 x h := by kernel_rfl
theorem Ty.fd93_2 : fld (ctx Tryd.prog Gt tab) (Tryd.prog.underlying 93) x 2 h = fldV (ctx Tryd.prog Gt tab) 3 2 x h := by kernel_rfl
theorem Ty.fa93_2 : fldA (ctx Tryd.prog Gt tab) (Tryd.prog.underlying 93) x 2 h = fldP 2 1 x h := by kernel_rfl
theorem Ty.pl93 : (ctx Tryd.prog Gt tab).place 93 = some fun i => [(0, 1), (1, 1), (2, 1)][i]? := by kernel_rfl
theorem Ty.sz95 : (ctx Tryd.prog Gt tab).size 95 = some 12 := by kernel_rfl
theorem Ty.ag95 : (ctx Tryd.prog Gt tab).isAgg 95 = some true := by kernel_rfl
theorem Ty.zr95 : (ctx Tryd.prog Gt tab).zero 95 = some (.v (.agg [.d (.str []), .d (.str []), .d (.str []), .d (.int .i64 0), .d (.int .i64 0), .d (.int .i64 0), .d (.int .i64 0), .d (.int .i64 0), .d (.int .i64 0), .d (.int .i64 0), .d (.int .i64 0), .d (.int .i64 0)])) := by kernel_rfl
theorem Ty.ap95 : (ctx Tryd.prog Gt tab).apz 95 = some (12, 120) := by kernel_rfl
theorem Ty.fd95_0 : fld (ctx Tryd.prog Gt tab) (Tryd.prog.underlying 95) x 0 h = fldV (ctx Tryd.prog Gt tab) 9 0 x h := by kernel_rfl
theorem Ty.fa95_0 : fldA (ctx Tryd.prog Gt tab) (Tryd.prog.underlying 95) x 0 h = fldP 0 1 x h := by kernel_rfl
theorem Ty.fd95_1 : fld (ctx Tryd.prog Gt tab) (Tryd.prog.underlying 95) x 1 h = fldV (ctx Tryd.prog Gt tab) 9 1 x h := by kernel_rfl
theorem Ty.fa95_1 : fldA (ctx Tryd.prog Gt tab) (Tryd.prog.underlying 95) x 1 h = fldP 1 1 x h := by kernel_rfl
theorem Ty.fd95_2 : fld (ctx Tryd.prog Gt tab) (Tryd.prog.underlying 95) x 2 h = fldV (ctx Tryd.prog Gt tab) 9 2 x h := by kernel_rfl
theorem Ty.fa95_2 : fldA (ctx Tryd.prog Gt tab) (Tryd.prog.underlying 95) x 2 h = fldP 2 1 x h := by kernel_rfl
theorem Ty.fd95_3 : fld (ctx Tryd.prog Gt tab) (Tryd.prog.underlying 95) x 3 h = fldV (ctx Tryd.prog Gt tab) 3 3 x h := by kernel_rfl
theorem Ty.fa95_3 : fldA (ctx Tryd.prog Gt tab) (Tryd.prog.underlying 95) x 3 h = fldP 3 1 x h := by kernel_rfl
theorem Ty.fd95_4 : fld (ctx Tryd.prog Gt tab) (Tryd.prog.underlying 95) x 4 h = fldV (ctx Tryd.prog Gt tab) 3 4 x h := by kernel_rfl
theorem Ty.fa95_4 : fldA (ctx Tryd.prog Gt tab) (Tryd.prog.underlying 95) x 4 h = fldP 4 1 x h := by kernel_rfl
theorem Ty.fd95_5 : fld (ctx Tryd.prog Gt tab) (Tryd.prog.underlying 95) x 5 h = fldV (ctx Tryd.prog Gt tab) 3 5 x h := by kernel_rfl
theorem Ty.fa95_5 : fldA (ctx Tryd.prog Gt tab) (Tryd.prog.underlying 95) x 5 h = fldP 5 1 x h := by kernel_rfl
theorem Ty.fd95_6 : fld (ctx Tryd.prog Gt tab) (Tryd.prog.underlying 95) x 6 h = fldV (ctx Tryd.prog Gt tab) 3 6 x h := by kernel_rfl
theorem Ty.fa95_6 : fldA (ctx Tryd.prog Gt tab) (Tryd.prog.underlying 95) x 6 h = fldP 6 1 x h := by kernel_rfl
theorem Ty.fd95_7 : fld (ctx Tryd.prog Gt tab) (Tryd.prog.underlying 95) x 7 h = fldV (ctx Tryd.prog Gt tab) 3 7 x h := by kernel_rfl
theorem Ty.fa95_7 : fldA (ctx Tryd.prog Gt tab) (Tryd.prog.underlying 95) x 7 h = fldP 7 1 x h := by kernel_rfl
theorem Ty.fd95_8 : fld (ctx Tryd.prog Gt tab) (Tryd.prog.underlying 95) x 8 h = fldV (ctx Tryd.prog Gt tab) 3 8 x h := by kernel_rfl
theorem Ty.fa95_8 : fldA (ctx Tryd.prog Gt tab) (Tryd.prog.underlying 95) x 8 h = fldP 8 1 x h := by kernel_rfl
theorem Ty.fd95_9 : fld (ctx Tryd.prog Gt tab) (Tryd.prog.underlying 95) x 9 h = fldV (ctx Tryd.prog Gt tab) 93 9 x h := by kernel_rfl
theorem Ty.fa95_9 : fldA (ctx Tryd.prog Gt tab) (Tryd.prog.underlying 95) x 9 h = fldP 9 3 x h := by kernel_rfl
theorem Ty.pl95 : (ctx Tryd.prog Gt tab).place 95 = some fun i => [(0, 1), (1, 1), (2, 1), (3, 1), (4, 1), (5, 1), (6, 1), (7, 1), (8, 1), (9, 3)][i]? := by kernel_rfl
theorem Ty.sz96 : (ctx Tryd.prog Gt tab).size 96 = some 1 := by kernel_rfl
theorem Ty.ag96 : (ctx Tryd.prog Gt tab).isAgg 96 = some false := by kernel_rfl
theorem Ty.zr96 : (ctx Tryd.prog Gt tab).zero 96 = some (.v (.c (.d (.sl true [])))) := by kernel_rfl
theorem Ty.ap96 : (ctx Tryd.prog Gt tab).apz 96 = some (1, 24) := by kernel_rfl
theorem Ty.un96 : Tryd.prog.underlying 96 = some (Go.TypeDesc.slice 100) := by kernel_rfl
theorem Ty.sz98 : (ctx Tryd.prog Gt tab).size 98 = some 3 := by kernel_rfl
theorem Ty.ag98 : (ctx Tryd.prog Gt tab).isAgg 98 = some true := by kernel_rfl
theorem Ty.zr98 : (ctx Tryd.prog Gt tab).zero 98 = some (.v (.agg [.d (.str []), .d (.int .i64 0), .d (.sl true [])])) := by kernel_rfl
theorem Ty.ap98 : (ctx Tryd.prog Gt tab).apz 98 = some (3, 48) := by kernel_rfl
theorem Ty.fd98_0 : fld (ctx Tryd.prog Gt tab) (Tryd.prog.underlying 98) x 0 h = fldV (ctx Tryd.prog Gt tab) 9 0 x h := by kernel_rfl
theorem Ty.fa98_0 : fldA (ctx Tryd.prog Gt tab) (Tryd.prog.underlying 98) x 0 h = fldP 0 1 x h := by kernel_rfl
theorem Ty.fd98_1 : fld (ctx Tryd.prog Gt tab) (Tryd.prog.underlying 98) x 1 h = fldV (ctx Tryd.prog Gt tab) 3 1 x h := by kernel_rfl
theorem Ty.fa98_1 : fldA (ctx Tryd.prog Gt tab) (Tryd.prog.underlying 98) x 1 h = fldP 1 1 x h := by kernel_rfl
theorem Ty.fd98_2 : fld (ctx Tryd.prog Gt tab) (Tryd.prog.underlying 98) x 2 h = fldV (ctx Tryd.prog Gt tab) 96 2 x h := by kernel_rfl
theorem Ty.fa98_2 : fldA (ctx Tryd.prog Gt tab) (Tryd.prog.underlying 98) x 2 h = fldP 2 1 x h := by kernel_rfl
theorem Ty.pl98 : (ctx Tryd.prog Gt tab).place 98 = some fun i => [(0, 1), (1, 1), (2, 1)][i]? := by kernel_rfl
theorem Ty.sz100 : (ctx Tryd.prog Gt tab).size 100 = some 2 := by kernel_rfl
theorem Ty.ag100 : (ctx Tryd.prog Gt tab).isAgg 100 = some true := by kernel_rfl
theorem Ty.zr100 : (ctx Tryd.prog Gt tab).zero 100 = some (.v (.agg [.d (.str []), .d (.int .i64 0)])) := by kernel_rfl
theorem Ty.ap100 : (ctx Tryd.prog Gt tab).apz 100 = some (2, 24) := by kernel_rfl
theorem Ty.fd100_0 : fld (ctx Tryd.prog Gt tab) (Tryd.prog.underlying 100) x 0 h = fldV (ctx Tryd.prog Gt tab) 9 0 x h := by kernel_rfl
theorem Ty.fa100_0 : fldA (ctx Tryd.prog Gt tab) (Tryd.prog.underlying 100) x 0 h = fldP 0 1 x h := by kernel_rfl
theorem Ty.fd100_1 : fld (ctx Tryd.prog Gt tab) (Tryd.prog.underlying 100) x 1 h = fldV (ctx Tryd.prog Gt tab) 3 1 x h := by kernel_rfl
theorem Ty.fa100_1 : fldA (ctx Tryd.prog Gt tab) (Tryd.prog.underlying 100) x 1 h = fldP 1 1 x h := by kernel_rfl
theorem Ty.pl100 : (ctx Tryd.prog Gt tab).place 100 = some fun i => [(0, 1), (1, 1)][i]? := by kernel_rfl
theorem Ty.sz103 : (ctx Tryd.prog Gt tab).size 103 = some 1 := by kernel_rfl
theorem Ty.ag103 : (ctx Tryd.prog Gt tab).isAgg 103 = some false := by kernel_rfl
theorem Ty.zr103 : (ctx Tryd.prog Gt tab).zero 103 = some (.v (.c (.d (.sl true [])))) := by kernel_rfl
theorem Ty.ap103 : (ctx Tryd.prog Gt tab).apz 103 = some (1, 24) := by kernel_rfl
theorem Ty.un103 : Tryd.prog.underlying 103 = some (Go.TypeDesc.slice 255) := by kernel_rfl
theorem Ty.sz105 : (ctx Tryd.prog Gt tab).size 105 = some 4 := by kernel_rfl
theorem Ty.ag105 : (ctx Tryd.prog Gt tab).isAgg 105 = some true := by kernel_rfl
theorem Ty.zr105 : (ctx Tryd.prog Gt tab).zero 105 = some (.v (.agg [.d (.int .i64 0), .d (.int .i64 0), .d (.int .i64 0), .d (.int .i64 0)])) := by kernel_rfl
theorem Ty.ap105 : (ctx Tryd.prog Gt tab).apz 105 = some (4, 32) := by kernel_rfl
theorem Ty.fd105_0 : fld (ctx Tryd.prog Gt tab) (Tryd.prog.underlying 105) x 0 h = fldV (ctx Tryd.prog Gt tab) 3 0 x h := by kernel_rfl
theorem Ty.fa105_0 : fldA (ctx Tryd.prog Gt tab) (Tryd.prog.underlying 105) x 0 h = fldP 0 1 x h := by kernel_rfl
theorem Ty.fd105_1 : fld (ctx Tryd.prog Gt tab) (Tryd.prog.underlying 105) x 1 h = fldV (ctx Tryd.prog Gt tab) 3 1 x h := by kernel_rfl
theorem Ty.fa105_1 : fldA (ctx Tryd.prog Gt tab) (Tryd.prog.underlying 105) x 1 h = fldP 1 1 x h := by kernel_rfl
theorem Ty.fd105_2 : fld (ctx Tryd.prog Gt tab) (Tryd.prog.underlying 105) x 2 h = fldV (ctx Tryd.prog Gt tab) 3 2 x h := by kernel_rfl
theorem Ty.fa105_2 : fldA (ctx Tryd.prog Gt tab) (Tryd.prog.underlying 105) x 2 h = fldP 2 1 x h := by kernel_rfl
theorem Ty.fd105_3 : fld (ctx Tryd.prog Gt tab) (Tryd.prog.underlying 105) x 3 h = fldV (ctx Tryd.prog Gt tab) 3 3 x h := by kernel_rfl
theorem Ty.fa105_3 : fldA (ctx Tryd.prog Gt tab) (Tryd.prog.underlying 105) x 3 h = fldP 3 1 x h := by kernel_rfl
theorem Ty.pl105 : (ctx Tryd.prog Gt tab).place 105 = some fun i => [(0, 1), (1, 1), (2, 1), (3, 1)][i]? := by kernel_rfl
theorem Ty.sz107 : (ctx Tryd.prog Gt tab).size 107 = some 9 := by kernel_rfl
theorem Ty.ag107 : (ctx Tryd.prog Gt tab).isAgg 107 = some true := by kernel_rfl
theorem Ty.zr107 : (ctx Tryd.prog Gt tab).zero 107 = some (.v (.agg [.d (.str []), .d (.str []), .d (.bool false), .d (.sl true []), .d (.int .i64 0), .d (.int .i64 0), .d (.int .i64 0), .d (.int .i64 0), .d (.bool false)])) := by kernel_rfl
theorem Ty.ap107 : (ctx Tryd.prog Gt tab).apz 107 = some (9, 104) := by kernel_rfl
theorem Ty.fd107_0 : fld (ctx Tryd.prog Gt tab) (Tryd.prog.underlying 107) x 0 h = fldV (ctx Tryd.prog Gt tab) 9 0 x h := by kernel_rfl
theorem Ty.fa107_0 : fldA (ctx Tryd.prog Gt tab) (Tryd.prog.underlying 107) x 0 h = fldP 0 1 x h := by kernel_rfl
theorem Ty.fd107_1 : fld (ctx Tryd.prog Gt tab) (Tryd.prog.underlying 107) x 1 h = fldV (ctx Tryd.prog Gt tab) 9 1 x h := by kernel_rfl
theorem Ty.fa107_1 : fldA (ctx Tryd.prog Gt tab) (Tryd.prog.underlying 107) x 1 h = fldP 1 1 x h := by kernel_rfl
theorem Ty.fd107_2 : fld (ctx Tryd.prog Gt tab) (Tryd.prog.underlying 107) x 2 h = fldV (ctx Tryd.prog Gt tab) 4 2 x h := by kernel_rfl
theorem Ty.fa107_2 : fldA (ctx Tryd.prog Gt tab) (Tryd.prog.underlying 107) x 2 h = fldP 2 1 x h := by kernel_rfl
theorem Ty.fd107_3 : fld (ctx Tryd.prog Gt tab) (Tryd.prog.underlying 107) x 3 h = fldV (ctx Tryd.prog Gt tab) 103 3 x h := by kernel_rfl
theorem Ty.fa107_3 : fldA (ctx Tryd.prog Gt tab) (Tryd.prog.underlying 107) x 3 h = fldP 3 1 x h := by kernel_rfl
theorem Ty.fd107_4 : fld (ctx Tryd.prog Gt tab) (Tryd.prog.underlying 107) x 4 h = fldV (ctx Tryd.prog Gt tab) 105 4 x h := by kernel_rfl
theorem Ty.fa107_4 : fldA (ctx Tryd.prog Gt tab) (Tryd.prog.underlying 107) x 4 h = fldP 4 4 x h := by kernel_rfl
theorem Ty.fd107_5 : fld (ctx Tryd.prog Gt tab) (Tryd.prog.underlying 107) x 5 h = fldV (ctx Tryd.prog Gt tab) 4 8 x h := by kernel_rfl
theorem Ty.fa107_5 : fldA (ctx Tryd.prog Gt tab) (Tryd.prog.underlying 107) x 5 h = fldP 8 1 x h := by kernel_rfl
theorem Ty.pl107 : (ctx Tryd.prog Gt tab).place 107 = some fun i => [(0, 1), (1, 1), (2, 1), (3, 1), (4, 4), (8, 1)][i]? := by kernel_rfl
theorem Ty.sz124 : (ctx Tryd.prog Gt tab).size 124 = some 1 := by kernel_rfl
theorem Ty.ag124 : (ctx Tryd.prog Gt tab).isAgg 124 = some false := by kernel_rfl
theorem Ty.zr124 : (ctx Tryd.prog Gt tab).zero 124 = some (.v (.c (.d (.sl true [])))) := by kernel_rfl
theorem Ty.ap124 : (ctx Tryd.prog Gt tab).apz 124 = some (1, 24) := by kernel_rfl
theorem Ty.un124 : Tryd.prog.underlying 124 = some (Go.TypeDesc.slice 5) := by kernel_rfl
theorem Ty.sz126 : (ctx Tryd.prog Gt tab).size 126 = some 1 := by kernel_rfl
theorem Ty.ag126 : (ctx Tryd.prog Gt tab).isAgg 126 = some false := by kernel_rfl
theorem Ty.zr126 : (ctx Tryd.prog Gt tab).zero 126 = some (.v (.c (.d (.int .u64 0)))) := by kernel_rfl
theorem Ty.ap126 : (ctx Tryd.prog Gt tab).apz 126 = some (1, 8) := by kernel_rfl
theorem Ty.un126 : Tryd.prog.underlying 126 = some (Go.TypeDesc.int Go.IntKind.u64) := by kernel_rfl
theorem Ty.sz150 : (ctx Tryd.prog Gt tab).size 150 = some 1 := by kernel_rfl
theorem Ty.ag150 : (ctx Tryd.prog Gt tab).isAgg 150 = some false := by kernel_rfl
theorem Ty.zr150 : (ctx Tryd.prog Gt tab).zero 150 = some (.v (.c .nilm)) := by kernel_rfl
theorem Ty.ap150 : (ctx Tryd.prog Gt tab).apz 150 = some (1, 8) := by kernel_rfl
theorem Ty.un150 : Tryd.prog.underlying 150 = some (Go.TypeDesc.map 9 3) := by kernel_rfl
theorem Ty.mt150 : (ctx Tryd.prog Gt tab).mapTy 150 = some (Go.TypeDesc.string, 3) := by kernel_rfl
theorem Ty.sz152 : (ctx Tryd.prog Gt tab).size 152 = some 1 := by kernel_rfl
theorem Ty.ag152 : (ctx Tryd.prog Gt tab).isAgg 152 = some false := by kernel_rfl
theorem Ty.zr152 : (ctx Tryd.prog Gt tab).zero 152 = some (.v (.c .nilm)) := by kernel_rfl
theorem Ty.ap152 : (ctx Tryd.prog Gt tab).apz 152 = some (1, 8) := by kernel_rfl
theorem Ty.un152 : Tryd.prog.underlying 152 = some (Go.TypeDesc.map 3 4) := by kernel_rfl
theorem Ty.mt152 : (ctx Tryd.prog Gt tab).mapTy 152 = some (Go.TypeDesc.int Go.IntKind.i64, 4) := by kernel_rfl
theorem Ty.sz156 : (ctx Tryd.prog Gt tab).size 156 = some 24 := by kernel_rfl
theorem Ty.ag156 : (ctx Tryd.prog Gt tab).isAgg 156 = some true := by kernel_rfl
theorem Ty.zr156 : (ctx Tryd.prog Gt tab).zero 156 = some (.v (.agg [.d (.int .u8 0), .d (.int .u8 0), .d (.int .u8 0), .d (.int .u8 0), .d (.int .u8 0), .d (.int .u8 0), .d (.int .u8 0), .d (.int .u8 0), .d (.int .u8 0), .d (.int .u8 0), .d (.int .u8 0), .d (.int .u8 0), .d (.int .u8 0), .d (.int .u8 0), .d (.int .u8 0), .d (.int .u8 0), .d (.int .u8 0), .d (.int .u8 0), .d (.int .u8 0), .d (.int .u8 0), .d (.int .u8 0), .d (.int .u8 0), .d (.int .u8 0), .d (.int .u8 0)])) := by kernel_rfl
theorem Ty.ap156 : (ctx Tryd.prog Gt tab).apz 156 = some (24, 24) := by kernel_rfl
theorem Ty.pl156 : (ctx Tryd.prog Gt tab).place 156 = some fun i => some (i * 1, 1) := by kernel_rfl
theorem Ty.un156 : Tryd.prog.underlying 156 = some (Go.TypeDesc.array 24 5) := by kernel_rfl
theorem Ty.sz161 : (ctx Tryd.prog Gt tab).size 161 = some 12 := by kernel_rfl
theorem Ty.ag161 : (ctx Tryd.prog Gt tab).isAgg 161 = some true := by kernel_rfl
theorem Ty.zr161 : (ctx Tryd.prog Gt tab).zero 161 = some (.v (.agg [.d (.int .i64 0), .d (.int .i64 0), .d (.int .i64 0), .d (.int .i64 0), .d (.int .i64 0), .d (.int .i64 0), .d (.int .i64 0), .d (.int .i64 0), .d (.int .i64 0), .d (.int .i64 0), .d (.int .i64 0), .d (.int .i64 0)])) := by kernel_rfl
theorem Ty.ap161 : (ctx Tryd.prog Gt tab).apz 161 = some (12, 96) := by kernel_rfl
theorem Ty.pl161 : (ctx Tryd.prog Gt tab).place 161 = some fun i => some (i * 1, 1) := by kernel_rfl
theorem Ty.un161 : Tryd.prog.underlying 161 = some (Go.TypeDesc.array 12 3) := by kernel_rfl
theorem Ty.sz215 : (ctx Tryd.prog Gt tab).size 215 = some 2 := by kernel_rfl
theorem Ty.ag215 : (ctx Tryd.prog Gt tab).isAgg 215 = some true := by kernel_rfl
theorem Ty.zr215 : (ctx Tryd.prog Gt tab).zero 215 = some (.v (.agg [.d (.int .i64 0), .d (.int .i64 0)])) := by kernel_rfl
theorem Ty.ap215 : (ctx Tryd.prog Gt tab).apz 215 = some (2, 16) := by kernel_rfl
theorem Ty.fd215_0 : fld (ctx Tryd.prog Gt tab) (Tryd.prog.underlying 215) x 0 h = fldV (ctx Tryd.prog Gt tab) 3 0 x h := by kernel_rfl
theorem Ty.fa215_0 : fldA (ctx Tryd.prog Gt tab) (Tryd.prog.underlying 215) x 0 h = fldP 0 1 x h := by kernel_rfl
theorem Ty.fd215_1 : fld (ctx Tryd.prog Gt tab) (Tryd.prog.underlying 215) x 1 h = fldV (ctx Tryd.prog Gt tab) 3 1 x h := by kernel_rfl
theorem Ty.fa215_1 : fldA (ctx Tryd.prog Gt tab) (Tryd.prog.underlying 215) x 1 h = fldP 1 1 x h := by kernel_rfl
theorem Ty.pl215 : (ctx Tryd.prog Gt tab).place 215 = some fun i => [(0, 1), (1, 1)][i]? := by kernel_rfl
theorem Ty.sz255 : (ctx Tryd.prog Gt tab).size 255 = some 4 := by kernel_rfl
theorem Ty.ag255 : (ctx Tryd.prog Gt tab).isAgg 255 = some true := by kernel_rfl
theorem Ty.zr255 : (ctx Tryd.prog Gt tab).zero 255 = some (.v (.agg [.d (.str []), .d (.str []), .d (.int .i64 0), .d (.int .i64 0)])) := by kernel_rfl
theorem Ty.ap255 : (ctx Tryd.prog Gt tab).apz 255 = some (4, 48) := by kernel_rfl
theorem Ty.fd255_0 : fld (ctx Tryd.prog Gt tab) (Tryd.prog.underlying 255) x 0 h = fldV (ctx Tryd.prog Gt tab) 9 0 x h := by kernel_rfl
theorem Ty.fa255_0 : fldA (ctx Tryd.prog Gt tab) (Tryd.prog.underlying 255) x 0 h = fldP 0 1 x h := by kernel_rfl
theorem Ty.fd255_1 : fld (ctx Tryd.prog Gt tab) (Tryd.prog.underlying 255) x 1 h = fldV (ctx Tryd.prog Gt tab) 9 1 x h := by kernel_rfl
theorem Ty.fa255_1 : fldA (ctx Tryd.prog Gt tab) (Tryd.prog.underlying 255) x 1 h = fldP 1 1 x h := by kernel_rfl
theorem Ty.fd255_2 : fld (ctx Tryd.prog Gt tab) (Tryd.prog.underlying 255) x 2 h = fldV (ctx Tryd.prog Gt tab) 215 2 x h := by kernel_rfl
theorem Ty.fa255_2 : fldA (ctx Tryd.prog Gt tab) (Tryd.prog.underlying 255) x 2 h = fldP 2 2 x h := by kernel_rfl
theorem Ty.pl255 : (ctx Tryd.prog Gt tab).place 255 = some fun i => [(0, 1), (1, 1), (2, 2)][i]? := by kernel_rfl
end

/-- All of them, for simp. -/
theorem TY : type_of% @Ty.sz3 ∧
  type_of% @Ty.ag3 ∧
  type_of% @Ty.zr3 ∧
  type_of% @Ty.ap3 ∧
  type_of% @Ty.un3 ∧
  type_of% @Ty.sz4 ∧
  type_of% @Ty.ag4 ∧
  type_of% @Ty.zr4 ∧
  type_of% @Ty.ap4 ∧
  type_of% @Ty.un4 ∧
  type_of% @Ty.sz5 ∧
  type_of% @Ty.ag5 ∧
  type_of% @Ty.zr5 ∧
  type_of% @Ty.ap5 ∧
  type_of% @Ty.un5 ∧
  type_of% @Ty.sz9 ∧
  type_of% @Ty.ag9 ∧
  type_of% @Ty.zr9 ∧
  type_of% @Ty.ap9 ∧
  type_of% @Ty.un9 ∧
  type_of% @Ty.sz22 ∧
  type_of% @Ty.ag22 ∧
  type_of% @Ty.zr22 ∧
  type_of% @Ty.ap22 ∧
  type_of% @Ty.un22 ∧
  type_of% @Ty.sz24 ∧
  type_of% @Ty.ag24 ∧
  type_of% @Ty.zr24 ∧
  type_of% @Ty.ap24 ∧
  type_of% @Ty.fd24_0 ∧
  type_of% @Ty.fa24_0 ∧
  type_of% @Ty.fd24_1 ∧
  type_of% @Ty.fa24_1 ∧
  type_of% @Ty.fd24_2 ∧
  type_of% @Ty.fa24_2 ∧
  type_of% @Ty.fd24_3 ∧
  type_of% @Ty.fa24_3 ∧
  type_of% @Ty.fd24_4 ∧
  type_of% @Ty.fa24_4 ∧
  type_of% @Ty.fd24_5 ∧
  type_of% @Ty.fa24_5 ∧
  type_of% @Ty.fd24_6 ∧
  type_of% @Ty.fa24_6 ∧
  type_of% @Ty.pl24 ∧
  type_of% @Ty.sz28 ∧
  type_of% @Ty.ag28 ∧
  type_of% @Ty.zr28 ∧
  type_of% @Ty.ap28 ∧
  type_of% @Ty.un28 ∧
  type_of% @Ty.sz29 ∧
  type_of% @Ty.ag29 ∧
  type_of% @Ty.zr29 ∧
  type_of% @Ty.ap29 ∧
  type_of% @Ty.un29 ∧
  type_of% @Ty.sz31 ∧
  type_of% @Ty.ag31 ∧
  type_of% @Ty.zr31 ∧
  type_of% @Ty.ap31 ∧
  type_of% @Ty.fd31_0 ∧
  type_of% @Ty.fa31_0 ∧
  type_of% @Ty.fd31_1 ∧
  type_of% @Ty.fa31_1 ∧
  type_of% @Ty.pl31 ∧
  type_of% @Ty.sz32 ∧
  type_of% @Ty.ag32 ∧
  type_of% @Ty.zr32 ∧
  type_of% @Ty.ap32 ∧
  type_of% @Ty.un32 ∧
  type_of% @Ty.sz34 ∧
  type_of% @Ty.ag34 ∧
  type_of% @Ty.zr34 ∧
  type_of% @Ty.ap34 ∧
  type_of% @Ty.fd34_0 ∧
  type_of% @Ty.fa34_0 ∧
  type_of% @Ty.fd34_1 ∧
  type_of% @Ty.fa34_1 ∧
  type_of% @Ty.pl34 ∧
  type_of% @Ty.sz35 ∧
  type_of% @Ty.ag35 ∧
  type_of% @Ty.zr35 ∧
  type_of% @Ty.ap35 ∧
  type_of% @Ty.un35 ∧
  type_of% @Ty.sz36 ∧
  type_of% @Ty.ag36 ∧
  type_of% @Ty.zr36 ∧
  type_of% @Ty.ap36 ∧
  type_of% @Ty.un36 ∧
  type_of% @Ty.sz37 ∧
  type_of% @Ty.ag37 ∧
  type_of% @Ty.zr37 ∧
  type_of% @Ty.ap37 ∧
  type_of% @Ty.un37 ∧
  type_of% @Ty.sz38 ∧
  type_of% @Ty.ag38 ∧
  type_of% @Ty.zr38 ∧
  type_of% @Ty.ap38 ∧
  type_of% @Ty.un38 ∧
  type_of% @Ty.sz39 ∧
  type_of% @Ty.ag39 ∧
  type_of% @Ty.zr39 ∧
  type_of% @Ty.ap39 ∧
  type_of% @Ty.un39 ∧
  type_of% @Ty.sz41 ∧
  type_of% @Ty.ag41 ∧
  type_of% @Ty.zr41 ∧
  type_of% @Ty.ap41 ∧
  type_of% @Ty.fd41_0 ∧
  type_of% @Ty.fa41_0 ∧
  type_of% @Ty.fd41_1 ∧
  type_of% @Ty.fa41_1 ∧
  type_of% @Ty.fd41_2 ∧
  type_of% @Ty.fa41_2 ∧
  type_of% @Ty.fd41_3 ∧
  type_of% @Ty.fa41_3 ∧
  type_of% @Ty.pl41 ∧
  type_of% @Ty.sz42 ∧
  type_of% @Ty.ag42 ∧
  type_of% @Ty.zr42 ∧
  type_of% @Ty.ap42 ∧
  type_of% @Ty.un42 ∧
  type_of% @Ty.sz43 ∧
  type_of% @Ty.ag43 ∧
  type_of% @Ty.zr43 ∧
  type_of% @Ty.ap43 ∧
  type_of% @Ty.un43 ∧
  type_of% @Ty.sz44 ∧
  type_of% @Ty.ag44 ∧
  type_of% @Ty.zr44 ∧
  type_of% @Ty.ap44 ∧
  type_of% @Ty.un44 ∧
  type_of% @Ty.sz45 ∧
  type_of% @Ty.ag45 ∧
  type_of% @Ty.zr45 ∧
  type_of% @Ty.ap45 ∧
  type_of% @Ty.un45 ∧
  type_of% @Ty.sz46 ∧
  type_of% @Ty.ag46 ∧
  type_of% @Ty.zr46 ∧
  type_of% @Ty.ap46 ∧
  type_of% @Ty.un46 ∧
  type_of% @Ty.sz47 ∧
  type_of% @Ty.ag47 ∧
  type_of% @Ty.zr47 ∧
  type_of% @Ty.ap47 ∧
  type_of% @Ty.un47 ∧
  type_of% @Ty.sz49 ∧
  type_of% @Ty.ag49 ∧
  type_of% @Ty.zr49 ∧
  type_of% @Ty.ap49 ∧
  type_of% @Ty.fd49_0 ∧
  type_of% @Ty.fa49_0 ∧
  type_of% @Ty.fd49_1 ∧
  type_of% @Ty.fa49_1 ∧
  type_of% @Ty.fd49_2 ∧
  type_of% @Ty.fa49_2 ∧
  type_of% @Ty.pl49 ∧
  type_of% @Ty.sz50 ∧
  type_of% @Ty.ag50 ∧
  type_of% @Ty.zr50 ∧
  type_of% @Ty.ap50 ∧
  type_of% @Ty.un50 ∧
  type_of% @Ty.sz52 ∧
  type_of% @Ty.ag52 ∧
  type_of% @Ty.zr52 ∧
  type_of% @Ty.ap52 ∧
  type_of% @Ty.fd52_0 ∧
  type_of% @Ty.fa52_0 ∧
  type_of% @Ty.fd52_1 ∧
  type_of% @Ty.fa52_1 ∧
  type_of% @Ty.fd52_2 ∧
  type_of% @Ty.fa52_2 ∧
  type_of% @Ty.fd52_3 ∧
  type_of% @Ty.fa52_3 ∧
  type_of% @Ty.fd52_4 ∧
  type_of% @Ty.fa52_4 ∧
  type_of% @Ty.fd52_5 ∧
  type_of% @Ty.fa52_5 ∧
  type_of% @Ty.fd52_6 ∧
  type_of% @Ty.fa52_6 ∧
  type_of% @Ty.fd52_7 ∧
  type_of% @Ty.fa52_7 ∧
  type_of% @Ty.fd52_8 ∧
  type_of% @Ty.fa52_8 ∧
  type_of% @Ty.fd52_9 ∧
  type_of% @Ty.fa52_9 ∧
  type_of% @Ty.fd52_10 ∧
  type_of% @Ty.fa52_10 ∧
  type_of% @Ty.fd52_11 ∧
  type_of% @Ty.fa52_11 ∧
  type_of% @Ty.fd52_12 ∧
  type_of% @Ty.fa52_12 ∧
  type_of% @Ty.fd52_13 ∧
  type_of% @Ty.fa52_13 ∧
  type_of% @Ty.fd52_14 ∧
  type_of% @Ty.fa52_14 ∧
  type_of% @Ty.fd52_15 ∧
  type_of% @Ty.fa52_15 ∧
  type_of% @Ty.fd52_16 ∧
  type_of% @Ty.fa52_16 ∧
  type_of% @Ty.fd52_17 ∧
  type_of% @Ty.fa52_17 ∧
  type_of% @Ty.pl52 ∧
  type_of% @Ty.sz53 ∧
  type_of% @Ty.ag53 ∧
  type_of% @Ty.zr53 ∧
  type_of% @Ty.ap53 ∧
  type_of% @Ty.un53 ∧
  type_of% @Ty.sz54 ∧
  type_of% @Ty.ag54 ∧
  type_of% @Ty.zr54 ∧
  type_of% @Ty.ap54 ∧
  type_of% @Ty.un54 ∧
  type_of% @Ty.sz55 ∧
  type_of% @Ty.ag55 ∧
  type_of% @Ty.zr55 ∧
  type_of% @Ty.ap55 ∧
  type_of% @Ty.un55 ∧
  type_of% @Ty.sz56 ∧
  type_of% @Ty.ag56 ∧
  type_of% @Ty.zr56 ∧
  type_of% @Ty.ap56 ∧
  type_of% @Ty.un56 ∧
  type_of% @Ty.sz57 ∧
  type_of% @Ty.ag57 ∧
  type_of% @Ty.zr57 ∧
  type_of% @Ty.ap57 ∧
  type_of% @Ty.un57 ∧
  type_of% @Ty.sz58 ∧
  type_of% @Ty.ag58 ∧
  type_of% @Ty.zr58 ∧
  type_of% @Ty.ap58 ∧
  type_of% @Ty.un58 ∧
  type_of% @Ty.sz59 ∧
  type_of% @Ty.ag59 ∧
  type_of% @Ty.zr59 ∧
  type_of% @Ty.ap59 ∧
  type_of% @Ty.un59 ∧
  type_of% @Ty.sz60 ∧
  type_of% @Ty.ag60 ∧
  type_of% @Ty.zr60 ∧
  type_of% @Ty.ap60 ∧
  type_of% @Ty.un60 ∧
  type_of% @Ty.sz62 ∧
  type_of% @Ty.ag62 ∧
  type_of% @Ty.zr62 ∧
  type_of% @Ty.ap62 ∧
  type_of% @Ty.fd62_0 ∧
  type_of% @Ty.fa62_0 ∧
  type_of% @Ty.fd62_1 ∧
  type_of% @Ty.fa62_1 ∧
  type_of% @Ty.fd62_2 ∧
  type_of% @Ty.fa62_2 ∧
  type_of% @Ty.fd62_3 ∧
  type_of% @Ty.fa62_3 ∧
  type_of% @Ty.fd62_4 ∧
  type_of% @Ty.fa62_4 ∧
  type_of% @Ty.fd62_5 ∧
  type_of% @Ty.fa62_5 ∧
  type_of% @Ty.pl62 ∧
  type_of% @Ty.sz63 ∧
  type_of% @Ty.ag63 ∧
  type_of% @Ty.zr63 ∧
  type_of% @Ty.ap63 ∧
  type_of% @Ty.un63 ∧
  type_of% @Ty.sz65 ∧
  type_of% @Ty.ag65 ∧
  type_of% @Ty.zr65 ∧
  type_of% @Ty.ap65 ∧
  type_of% @Ty.fd65_0 ∧
  type_of% @Ty.fa65_0 ∧
  type_of% @Ty.pl65 ∧
  type_of% @Ty.sz67 ∧
  type_of% @Ty.ag67 ∧
  type_of% @Ty.zr67 ∧
  type_of% @Ty.ap67 ∧
  type_of% @Ty.fd67_0 ∧
  type_of% @Ty.fa67_0 ∧
  type_of% @Ty.fd67_1 ∧
  type_of% @Ty.fa67_1 ∧
  type_of% @Ty.pl67 ∧
  type_of% @Ty.sz68 ∧
  type_of% @Ty.ag68 ∧
  type_of% @Ty.zr68 ∧
  type_of% @Ty.ap68 ∧
  type_of% @Ty.un68 ∧
  type_of% @Ty.sz70 ∧
  type_of% @Ty.ag70 ∧
  type_of% @Ty.zr70 ∧
  type_of% @Ty.ap70 ∧
  type_of% @Ty.fd70_0 ∧
  type_of% @Ty.fa70_0 ∧
  type_of% @Ty.fd70_1 ∧
  type_of% @Ty.fa70_1 ∧
  type_of% @Ty.fd70_2 ∧
  type_of% @Ty.fa70_2 ∧
  type_of% @Ty.fd70_3 ∧
  type_of% @Ty.fa70_3 ∧
  type_of% @Ty.fd70_4 ∧
  type_of% @Ty.fa70_4 ∧
  type_of% @Ty.fd70_5 ∧
  type_of% @Ty.fa70_5 ∧
  type_of% @Ty.fd70_6 ∧
  type_of% @Ty.fa70_6 ∧
  type_of% @Ty.fd70_7 ∧
  type_of% @Ty.fa70_7 ∧
  type_of% @Ty.fd70_8 ∧
  type_of% @Ty.fa70_8 ∧
  type_of% @Ty.pl70 ∧
  type_of% @Ty.sz72 ∧
  type_of% @Ty.ag72 ∧
  type_of% @Ty.zr72 ∧
  type_of% @Ty.ap72 ∧
  type_of% @Ty.un72 ∧
  type_of% @Ty.sz86 ∧
  type_of% @Ty.ag86 ∧
  type_of% @Ty.zr86 ∧
  type_of% @Ty.ap86 ∧
  type_of% @Ty.fd86_0 ∧
  type_of% @Ty.fa86_0 ∧
  type_of% @Ty.fd86_1 ∧
  type_of% @Ty.fa86_1 ∧
  type_of% @Ty.pl86 ∧
  type_of% @Ty.sz91 ∧
  type_of% @Ty.ag91 ∧
  type_of% @Ty.zr91 ∧
  type_of% @Ty.ap91 ∧
  type_of% @Ty.un91 ∧
  type_of% @Ty.sz93 ∧
  type_of% @Ty.ag93 ∧
  type_of% @Ty.zr93 ∧
  type_of% @Ty.ap93 ∧
  type_of% @Ty.fd93_0 ∧
  type_of% @Ty.fa93_0 ∧
  type_of% @Ty.fd93_1 ∧
  type_of% @Ty.fa93_1 ∧
  type_of% @Ty.fd93_2 ∧
  type_of% @Ty.fa93_2 ∧
  type_of% @Ty.pl93 ∧
  type_of% @Ty.sz95 ∧
  type_of% @Ty.ag95 ∧
  type_of% @Ty.zr95 ∧
  type_of% @Ty.ap95 ∧
  type_of% @Ty.fd95_0 ∧
  type_of% @Ty.fa95_0 ∧
  type_of% @Ty.fd95_1 ∧
  type_of% @Ty.fa95_1 ∧
  type_of% @Ty.fd95_2 ∧
  type_of% @Ty.fa95_2 ∧
  type_of% @Ty.fd95_3 ∧
  type_of% @Ty.fa95_3 ∧
  type_of% @Ty.fd95_4 ∧
  type_of% @Ty.fa95_4 ∧
  type_of% @Ty.fd95_5 ∧
  type_of% @Ty.fa95_5 ∧
  type_of% @Ty.fd95_6 ∧
  type_of% @Ty.fa95_6 ∧
  type_of% @Ty.fd95_7 ∧
  type_of% @Ty.fa95_7 ∧
  type_of% @Ty.fd95_8 ∧
  type_of% @Ty.fa95_8 ∧
  type_of% @Ty.fd95_9 ∧
  type_of% @Ty.fa95_9 ∧
  type_of% @Ty.pl95 ∧
  type_of% @Ty.sz96 ∧
  type_of% @Ty.ag96 ∧
  type_of% @Ty.zr96 ∧
  type_of% @Ty.ap96 ∧
  type_of% @Ty.un96 ∧
  type_of% @Ty.sz98 ∧
  type_of% @Ty.ag98 ∧
  type_of% @Ty.zr98 ∧
  type_of% @Ty.ap98 ∧
  type_of% @Ty.fd98_0 ∧
  type_of% @Ty.fa98_0 ∧
  type_of% @Ty.fd98_1 ∧
  type_of% @Ty.fa98_1 ∧
  type_of% @Ty.fd98_2 ∧
  type_of% @Ty.fa98_2 ∧
  type_of% @Ty.pl98 ∧
  type_of% @Ty.sz100 ∧
  type_of% @Ty.ag100 ∧
  type_of% @Ty.zr100 ∧
  type_of% @Ty.ap100 ∧
  type_of% @Ty.fd100_0 ∧
  type_of% @Ty.fa100_0 ∧
  type_of% @Ty.fd100_1 ∧
  type_of% @Ty.fa100_1 ∧
  type_of% @Ty.pl100 ∧
  type_of% @Ty.sz103 ∧
  type_of% @Ty.ag103 ∧
  type_of% @Ty.zr103 ∧
  type_of% @Ty.ap103 ∧
  type_of% @Ty.un103 ∧
  type_of% @Ty.sz105 ∧
  type_of% @Ty.ag105 ∧
  type_of% @Ty.zr105 ∧
  type_of% @Ty.ap105 ∧
  type_of% @Ty.fd105_0 ∧
  type_of% @Ty.fa105_0 ∧
  type_of% @Ty.fd105_1 ∧
  type_of% @Ty.fa105_1 ∧
  type_of% @Ty.fd105_2 ∧
  type_of% @Ty.fa105_2 ∧
  type_of% @Ty.fd105_3 ∧
  type_of% @Ty.fa105_3 ∧
  type_of% @Ty.pl105 ∧
  type_of% @Ty.sz107 ∧
  type_of% @Ty.ag107 ∧
  type_of% @Ty.zr107 ∧
  type_of% @Ty.ap107 ∧
  type_of% @Ty.fd107_0 ∧
  type_of% @Ty.fa107_0 ∧
  type_of% @Ty.fd107_1 ∧
  type_of% @Ty.fa107_1 ∧
  type_of% @Ty.fd107_2 ∧
  type_of% @Ty.fa107_2 ∧
  type_of% @Ty.fd107_3 ∧
  type_of% @Ty.fa107_3 ∧
  type_of% @Ty.fd107_4 ∧
  type_of% @Ty.fa107_4 ∧
  type_of% @Ty.fd107_5 ∧
  type_of% @Ty.fa107_5 ∧
  type_of% @Ty.pl107 ∧
  type_of% @Ty.sz124 ∧
  type_of% @Ty.ag124 ∧
  type_of% @Ty.zr124 ∧
  type_of% @Ty.ap124 ∧
  type_of% @Ty.un124 ∧
  type_of% @Ty.sz126 ∧
  type_of% @Ty.ag126 ∧
  type_of% @Ty.zr126 ∧
  type_of% @Ty.ap126 ∧
  type_of% @Ty.un126 ∧
  type_of% @Ty.sz150 ∧
  type_of% @Ty.ag150 ∧
  type_of% @Ty.zr150 ∧
  type_of% @Ty.ap150 ∧
  type_of% @Ty.un150 ∧
  type_of% @Ty.mt150 ∧
  type_of% @Ty.sz152 ∧
  type_of% @Ty.ag152 ∧
  type_of% @Ty.zr152 ∧
  type_of% @Ty.ap152 ∧
  type_of% @Ty.un152 ∧
  type_of% @Ty.mt152 ∧
  type_of% @Ty.sz156 ∧
  type_of% @Ty.ag156 ∧
  type_of% @Ty.zr156 ∧
  type_of% @Ty.ap156 ∧
  type_of% @Ty.pl156 ∧
  type_of% @Ty.un156 ∧
  type_of% @Ty.sz161 ∧
  type_of% @Ty.ag161 ∧
  type_of% @Ty.zr161 ∧
  type_of% @Ty.ap161 ∧
  type_of% @Ty.pl161 ∧
  type_of% @Ty.un161 ∧
  type_of% @Ty.sz215 ∧
  type_of% @Ty.ag215 ∧
  type_of% @Ty.zr215 ∧
  type_of% @Ty.ap215 ∧
  type_of% @Ty.fd215_0 ∧
  type_of% @Ty.fa215_0 ∧
  type_of% @Ty.fd215_1 ∧
  type_of% @Ty.fa215_1 ∧
  type_of% @Ty.pl215 ∧
  type_of% @Ty.sz255 ∧
  type_of% @Ty.ag255 ∧
  type_of% @Ty.zr255 ∧
  type_of% @Ty.ap255 ∧
  type_of% @Ty.fd255_0 ∧
  type_of% @Ty.fa255_0 ∧
  type_of% @Ty.fd255_1 ∧
  type_of% @Ty.fa255_1 ∧
  type_of% @Ty.fd255_2 ∧
  type_of% @Ty.fa255_2 ∧
  type_of% @Ty.pl255 :=
  ⟨@Ty.sz3, @Ty.ag3, @Ty.zr3, @Ty.ap3, @Ty.un3, @Ty.sz4, @Ty.ag4, @Ty.zr4, @Ty.ap4, @Ty.un4, @Ty.sz5, @Ty.ag5, @Ty.zr5, @Ty.ap5, @Ty.un5, @Ty.sz9, @Ty.ag9, @Ty.zr9, @Ty.ap9, @Ty.un9, @Ty.sz22, @Ty.ag22, @Ty.zr22, @Ty.ap22, @Ty.un22, @Ty.sz24, @Ty.ag24, @Ty.zr24, @Ty.ap24, @Ty.fd24_0, @Ty.fa24_0, @Ty.fd24_1, @Ty.fa24_1, @Ty.fd24_2, @Ty.fa24_2, @Ty.fd24_3, @Ty.fa24_3, @Ty.fd24_4, @Ty.fa24_4, @Ty.fd24_5, @Ty.fa24_5, @Ty.fd24_6, @Ty.fa24_6, @Ty.pl24, @Ty.sz28, @Ty.ag28, @Ty.zr28, @Ty.ap28, @Ty.un28, @Ty.sz29, @Ty.ag29, @Ty.zr29, @Ty.ap29, @Ty.un29, @Ty.sz31, @Ty.ag31, @Ty.zr31, @Ty.ap31, @Ty.fd31_0, @Ty.fa31_0, @Ty.fd31_1, @Ty.fa31_1, @Ty.pl31, @Ty.sz32, @Ty.ag32, @Ty.zr32, @Ty.ap32, @Ty.un32, @Ty.sz34, @Ty.ag34, @Ty.zr34, @Ty.ap34, @Ty.fd34_0, @Ty.fa34_0, @Ty.fd34_1, @Ty.fa34_1, @Ty.pl34, @Ty.sz35, @Ty.ag35, @Ty.zr35, @Ty.ap35, @Ty.un35, @Ty.sz36, @Ty.ag36, @Ty.zr36, @Ty.ap36, @Ty.un36, @Ty.sz37, @Ty.ag37, @Ty.zr37, @Ty.ap37, @Ty.un37, @Ty.sz38, @Ty.ag38, @Ty.zr38, @Ty.ap38, @Ty.un38, @Ty.sz39, @Ty.ag39, @Ty.zr39, @Ty.ap39, @Ty.un39, @Ty.sz41, @Ty.ag41, @Ty.zr41, @Ty.ap41, @Ty.fd41_0, @Ty.fa41_0, @Ty.fd41_1, @Ty.fa41_1, @Ty.fd41_2, @Ty.fa41_2, @Ty.fd41_3, @Ty.fa41_3, @Ty.pl41, @Ty.sz42, @Ty.ag42, @Ty.zr42, @Ty.ap42, @Ty.un42, @Ty.sz43, @Ty.ag43, @Ty.zr43, @Ty.ap43, @Ty.un43, @Ty.sz44, @Ty.ag44, @Ty.zr44, @Ty.ap44, @Ty.un44, @Ty.sz45, @Ty.ag45, @Ty.zr45, @Ty.ap45, @Ty.un45, @Ty.sz46, @Ty.ag46, @Ty.zr46, @Ty.ap46, @Ty.un46, @Ty.sz47, @Ty.ag47, @Ty.zr47, @Ty.ap47, @Ty.un47, @Ty.sz49, @Ty.ag49, @Ty.zr49, @Ty.ap49, @Ty.fd49_0, @Ty.fa49_0, @Ty.fd49_1, @Ty.fa49_1, @Ty.fd49_2, @Ty.fa49_2, @Ty.pl49, @Ty.sz50, @Ty.ag50, @Ty.zr50, @Ty.ap50, @Ty.un50, @Ty.sz52, @Ty.ag52, @Ty.zr52, @Ty.ap52, @Ty.fd52_0, @Ty.fa52_0, @Ty.fd52_1, @Ty.fa52_1, @Ty.fd52_2, @Ty.fa52_2, @Ty.fd52_3, @Ty.fa52_3, @Ty.fd52_4, @Ty.fa52_4, @Ty.fd52_5, @Ty.fa52_5, @Ty.fd52_6, @Ty.fa52_6, @Ty.fd52_7, @Ty.fa52_7, @Ty.fd52_8, @Ty.fa52_8, @Ty.fd52_9, @Ty.fa52_9, @Ty.fd52_10, @Ty.fa52_10, @Ty.fd52_11, @Ty.fa52_11, @Ty.fd52_12, @Ty.fa52_12, @Ty.fd52_13, @Ty.fa52_13, @Ty.fd52_14, @Ty.fa52_14, @Ty.fd52_15, @Ty.fa52_15, @Ty.fd52_16, @Ty.fa52_16, @Ty.fd52_17, @Ty.fa52_17, @Ty.pl52, @Ty.sz53, @Ty.ag53, @Ty.zr53, @Ty.ap53, @Ty.un53, @Ty.sz54, @Ty.ag54, @Ty.zr54, @Ty.ap54, @Ty.un54, @Ty.sz55, @Ty.ag55, @Ty.zr55, @Ty.ap55, @Ty.un55, @Ty.sz56, @Ty.ag56, @Ty.zr56, @Ty.ap56, @Ty.un56, @Ty.sz57, @Ty.ag57, @Ty.zr57, @Ty.ap57, @Ty.un57, @Ty.sz58, @Ty.ag58, @Ty.zr58, @Ty.ap58, @Ty.un58, @Ty.sz59, @Ty.ag59, @Ty.zr59, @Ty.ap59, @Ty.un59, @Ty.sz60, @Ty.ag60, @Ty.zr60, @Ty.ap60, @Ty.un60, @Ty.sz62, @Ty.ag62, @Ty.zr62, @Ty.ap62, @Ty.fd62_0, @Ty.fa62_0, @Ty.fd62_1, @Ty.fa62_1, @Ty.fd62_2, @Ty.fa62_2, @Ty.fd62_3, @Ty.fa62_3, @Ty.fd62_4, @Ty.fa62_4, @Ty.fd62_5, @Ty.fa62_5, @Ty.pl62, @Ty.sz63, @Ty.ag63, @Ty.zr63, @Ty.ap63, @Ty.un63, @Ty.sz65, @Ty.ag65, @Ty.zr65, @Ty.ap65, @Ty.fd65_0, @Ty.fa65_0, @Ty.pl65, @Ty.sz67, @Ty.ag67, @Ty.zr67, @Ty.ap67, @Ty.fd67_0, @Ty.fa67_0, @Ty.fd67_1, @Ty.fa67_1, @Ty.pl67, @Ty.sz68, @Ty.ag68, @Ty.zr68, @Ty.ap68, @Ty.un68, @Ty.sz70, @Ty.ag70, @Ty.zr70, @Ty.ap70, @Ty.fd70_0, @Ty.fa70_0, @Ty.fd70_1, @Ty.fa70_1, @Ty.fd70_2, @Ty.fa70_2, @Ty.fd70_3, @Ty.fa70_3, @Ty.fd70_4, @Ty.fa70_4, @Ty.fd70_5, @Ty.fa70_5, @Ty.fd70_6, @Ty.fa70_6, @Ty.fd70_7, @Ty.fa70_7, @Ty.fd70_8, @Ty.fa70_8, @Ty.pl70, @Ty.sz72, @Ty.ag72, @Ty.zr72, @Ty.ap72, @Ty.un72, @Ty.sz86, @Ty.ag86, @Ty.zr86, @Ty.ap86, @Ty.fd86_0, @Ty.fa86_0, @Ty.fd86_1, @Ty.fa86_1, @Ty.pl86, @Ty.sz91, @Ty.ag91, @Ty.zr91, @Ty.ap91, @Ty.un91, @Ty.sz93, @Ty.ag93, @Ty.zr93, @Ty.ap93, @Ty.fd93_0, @Ty.fa93_0, @Ty.fd93_1, @Ty.fa93_1, @Ty.fd93_2, @Ty.fa93_2, @Ty.pl93, @Ty.sz95, @Ty.ag95, @Ty.zr95, @Ty.ap95, @Ty.fd95_0, @Ty.fa95_0, @Ty.fd95_1, @Ty.fa95_1, @Ty.fd95_2, @Ty.fa95_2, @Ty.fd95_3, @Ty.fa95_3, @Ty.fd95_4, @Ty.fa95_4, @Ty.fd95_5, @Ty.fa95_5, @Ty.fd95_6, @Ty.fa95_6, @Ty.fd95_7, @Ty.fa95_7, @Ty.fd95_8, @Ty.fa95_8, @Ty.fd95_9, @Ty.fa95_9, @Ty.pl95, @Ty.sz96, @Ty.ag96, @Ty.zr96, @Ty.ap96, @Ty.un96, @Ty.sz98, @Ty.ag98, @Ty.zr98, @Ty.ap98, @Ty.fd98_0, @Ty.fa98_0, @Ty.fd98_1, @Ty.fa98_1, @Ty.fd98_2, @Ty.fa98_2, @Ty.pl98, @Ty.sz100, @Ty.ag100, @Ty.zr100, @Ty.ap100, @Ty.fd100_0, @Ty.fa100_0, @Ty.fd100_1, @Ty.fa100_1, @Ty.pl100, @Ty.sz103, @Ty.ag103, @Ty.zr103, @Ty.ap103, @Ty.un103, @Ty.sz105, @Ty.ag105, @Ty.zr105, @Ty.ap105, @Ty.fd105_0, @Ty.fa105_0, @Ty.fd105_1, @Ty.fa105_1, @Ty.fd105_2, @Ty.fa105_2, @Ty.fd105_3, @Ty.fa105_3, @Ty.pl105, @Ty.sz107, @Ty.ag107, @Ty.zr107, @Ty.ap107, @Ty.fd107_0, @Ty.fa107_0, @Ty.fd107_1, @Ty.fa107_1, @Ty.fd107_2, @Ty.fa107_2, @Ty.fd107_3, @Ty.fa107_3, @Ty.fd107_4, @Ty.fa107_4, @Ty.fd107_5, @Ty.fa107_5, @Ty.pl107, @Ty.sz124, @Ty.ag124, @Ty.zr124, @Ty.ap124, @Ty.un124, @Ty.sz126, @Ty.ag126, @Ty.zr126, @Ty.ap126, @Ty.un126, @Ty.sz150, @Ty.ag150, @Ty.zr150, @Ty.ap150, @Ty.un150, @Ty.mt150, @Ty.sz152, @Ty.ag152, @Ty.zr152, @Ty.ap152, @Ty.un152, @Ty.mt152, @Ty.sz156, @Ty.ag156, @Ty.zr156, @Ty.ap156, @Ty.pl156, @Ty.un156, @Ty.sz161, @Ty.ag161, @Ty.zr161, @Ty.ap161, @Ty.pl161, @Ty.un161, @Ty.sz215, @Ty.ag215, @Ty.zr215, @Ty.ap215, @Ty.fd215_0, @Ty.fa215_0, @Ty.fd215_1, @Ty.fa215_1, @Ty.pl215, @Ty.sz255, @Ty.ag255, @Ty.zr255, @Ty.ap255, @Ty.fd255_0, @Ty.fa255_0, @Ty.fd255_1, @Ty.fa255_1, @Ty.fd255_2, @Ty.fa255_2, @Ty.pl255⟩

end Go.Ab
