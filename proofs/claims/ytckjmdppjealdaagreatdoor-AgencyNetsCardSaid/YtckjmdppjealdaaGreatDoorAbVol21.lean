/-
  Texts of the layer and of the laws, put together: AbT. No law is stated here.
-/
import Derived.Test.YtckjmdppjealdaaGreatDoorChecked
import Derived.Test.YtckjmdppjealdaaGreatDoorAbVol20
import Derived.KernelRfl
set_option linter.unusedSimpArgs false
set_option linter.unusedVariables false
set_option maxRecDepth 100000

/-
  The types of this seat's program, as equations. Written by tools/types.py.
-/
set_option maxRecDepth 200000
namespace Go.Ab
open Go.RowKit Go.Proofs
section
variable {tab : Tab} {x : AV} {h : Hp}
theorem Ty.sz3 : (ctx Tryz.prog Gt tab).size 3 = some 1 := by kernel_rfl
theorem Ty.ag3 : (ctx Tryz.prog Gt tab).isAgg 3 = some false := by kernel_rfl
theorem Ty.nf3 : (ctx Tryz.prog Gt tab).isIf 3 = some false := by kernel_rfl
theorem Ty.zr3 : (ctx Tryz.prog Gt tab).zero 3 = some (.v (.c (.d (.int .i64 0)))) := by kernel_rfl
theorem Ty.ap3 : (ctx Tryz.prog Gt tab).apz 3 = some (1, 8) := by kernel_rfl
theorem Ty.un3 : Tryz.prog.underlying 3 = some (Go.TypeDesc.int Go.IntKind.i64) := by kernel_rfl
theorem Ty.sz4 : (ctx Tryz.prog Gt tab).size 4 = some 1 := by kernel_rfl
theorem Ty.ag4 : (ctx Tryz.prog Gt tab).isAgg 4 = some false := by kernel_rfl
theorem Ty.zr4 : (ctx Tryz.prog Gt tab).zero 4 = some (.v (.c (.d (.bool false)))) := by kernel_rfl
theorem Ty.ap4 : (ctx Tryz.prog Gt tab).apz 4 = some (1, 1) := by kernel_rfl
theorem Ty.un4 : Tryz.prog.underlying 4 = some Go.TypeDesc.bool := by kernel_rfl
theorem Ty.sz5 : (ctx Tryz.prog Gt tab).size 5 = some 1 := by kernel_rfl
theorem Ty.ag5 : (ctx Tryz.prog Gt tab).isAgg 5 = some false := by kernel_rfl
theorem Ty.nf5 : (ctx Tryz.prog Gt tab).isIf 5 = some false := by kernel_rfl
theorem Ty.zr5 : (ctx Tryz.prog Gt tab).zero 5 = some (.v (.c (.d (.int .u8 0)))) := by kernel_rfl
theorem Ty.ap5 : (ctx Tryz.prog Gt tab).apz 5 = some (1, 1) := by kernel_rfl
theorem Ty.un5 : Tryz.prog.underlying 5 = some (Go.TypeDesc.int Go.IntKind.u8) := by kernel_rfl
theorem Ty.sz9 : (ctx Tryz.prog Gt tab).size 9 = some 1 := by kernel_rfl
theorem Ty.ag9 : (ctx Tryz.prog Gt tab).isAgg 9 = some false := by kernel_rfl
theorem Ty.zr9 : (ctx Tryz.prog Gt tab).zero 9 = some (.v (.c (.d (.str [])))) := by kernel_rfl
theorem Ty.ap9 : (ctx Tryz.prog Gt tab).apz 9 = some (1, 16) := by kernel_rfl
theorem Ty.un9 : Tryz.prog.underlying 9 = some Go.TypeDesc.string := by kernel_rfl
theorem Ty.sz20 : (ctx Tryz.prog Gt tab).size 20 = some 1 := by kernel_rfl
theorem Ty.ag20 : (ctx Tryz.prog Gt tab).isAgg 20 = some false := by kernel_rfl
theorem Ty.if20 : (ctx Tryz.prog Gt tab).ifT 20 = some true := by kernel_rfl
theorem Ty.zr20 : (ctx Tryz.prog Gt tab).zero 20 = some (.v (.c .nili)) := by kernel_rfl
theorem Ty.ap20 : (ctx Tryz.prog Gt tab).apz 20 = some (1, 16) := by kernel_rfl
theorem Ty.sz21 : (ctx Tryz.prog Gt tab).size 21 = some 1 := by kernel_rfl
theorem Ty.ag21 : (ctx Tryz.prog Gt tab).isAgg 21 = some false := by kernel_rfl
theorem Ty.nf21 : (ctx Tryz.prog Gt tab).isIf 21 = some false := by kernel_rfl
theorem Ty.zr21 : (ctx Tryz.prog Gt tab).zero 21 = some (.v (.c (.d (.int .i32 0)))) := by kernel_rfl
theorem Ty.ap21 : (ctx Tryz.prog Gt tab).apz 21 = some (1, 4) := by kernel_rfl
theorem Ty.un21 : Tryz.prog.underlying 21 = some (Go.TypeDesc.int Go.IntKind.i32) := by kernel_rfl
theorem Ty.sz22 : (ctx Tryz.prog Gt tab).size 22 = some 1 := by kernel_rfl
theorem Ty.ag22 : (ctx Tryz.prog Gt tab).isAgg 22 = some false := by kernel_rfl
theorem Ty.zr22 : (ctx Tryz.prog Gt tab).zero 22 = some (.v (.c (.d (.sl true [])))) := by kernel_rfl
theorem Ty.ap22 : (ctx Tryz.prog Gt tab).apz 22 = some (1, 24) := by kernel_rfl
theorem Ty.un22 : Tryz.prog.underlying 22 = some (Go.TypeDesc.slice 60) := by kernel_rfl
theorem Ty.sz24 : (ctx Tryz.prog Gt tab).size 24 = some 5 := by kernel_rfl
theorem Ty.ag24 : (ctx Tryz.prog Gt tab).isAgg 24 = some true := by kernel_rfl
theorem Ty.nf24 : (ctx Tryz.prog Gt tab).isIf 24 = some false := by kernel_rfl
theorem Ty.ft24 : (ctx Tryz.prog Gt tab).flat 24 = some [.i .i64, .s, .s, .i .i64, .i .i64] := by kernel_rfl
theorem Ty.zr24 : (ctx Tryz.prog Gt tab).zero 24 = some (.v (.agg [.d (.int .i64 0), .d (.str []), .d (.str []), .d (.int .i64 0), .d (.int .i64 0)])) := by kernel_rfl
theorem Ty.ap24 : (ctx Tryz.prog Gt tab).apz 24 = some (5, 56) := by kernel_rfl
theorem Ty.fd24_0 : fld (ctx Tryz.prog Gt tab) (Tryz.prog.underlying 24) x 0 h = fldV (ctx Tryz.prog Gt tab) 3 0 x h := by kernel_rfl
theorem Ty.fa24_0 : fldA (ctx Tryz.prog Gt tab) (Tryz.prog.underlying 24) x 0 h = fldP 0 1 x h := by kernel_rfl
theorem Ty.fd24_1 : fld (ctx Tryz.prog Gt tab) (Tryz.prog.underlying 24) x 1 h = fldV (ctx Tryz.prog Gt tab) 9 1 x h := by kernel_rfl
theorem Ty.fa24_1 : fldA (ctx Tryz.prog Gt tab) (Tryz.prog.underlying 24) x 1 h = fldP 1 1 x h := by kernel_rfl
theorem Ty.fd24_2 : fld (ctx Tryz.prog Gt tab) (Tryz.prog.underlying 24) x 2 h = fldV (ctx Tryz.prog Gt tab) 9 2 x h := by kernel_rfl
theorem Ty.fa24_2 : fldA (ctx Tryz.prog Gt tab) (Tryz.prog.underlying 24) x 2 h = fldP 2 1 x h := by kernel_rfl
theorem Ty.fd24_3 : fld (ctx Tryz.prog Gt tab) (Tryz.prog.underlying 24) x 3 h = fldV (ctx Tryz.prog Gt tab) 3 3 x h := by kernel_rfl
theorem Ty.fa24_3 : fldA (ctx Tryz.prog Gt tab) (Tryz.prog.underlying 24) x 3 h = fldP 3 1 x h := by kernel_rfl
theorem Ty.fd24_4 : fld (ctx Tryz.prog Gt tab) (Tryz.prog.underlying 24) x 4 h = fldV (ctx Tryz.prog Gt tab) 3 4 x h := by kernel_rfl
theorem Ty.fa24_4 : fldA (ctx Tryz.prog Gt tab) (Tryz.prog.underlying 24) x 4 h = fldP 4 1 x h := by kernel_rfl
theorem Ty.pl24 : (ctx Tryz.prog Gt tab).place 24 = some fun i => [(0, 1), (1, 1), (2, 1), (3, 1), (4, 1)][i]? := by kernel_rfl
theorem Ty.sz25 : (ctx Tryz.prog Gt tab).size 25 = some 1 := by kernel_rfl
theorem Ty.ag25 : (ctx Tryz.prog Gt tab).isAgg 25 = some false := by kernel_rfl
theorem Ty.zr25 : (ctx Tryz.prog Gt tab).zero 25 = some (.v (.c (.d (.sl true [])))) := by kernel_rfl
theorem Ty.ap25 : (ctx Tryz.prog Gt tab).apz 25 = some (1, 24) := by kernel_rfl
theorem Ty.un25 : Tryz.prog.underlying 25 = some (Go.TypeDesc.slice 57) := by kernel_rfl
theorem Ty.sz30 : (ctx Tryz.prog Gt tab).size 30 = some 1 := by kernel_rfl
theorem Ty.ag30 : (ctx Tryz.prog Gt tab).isAgg 30 = some false := by kernel_rfl
theorem Ty.nf30 : (ctx Tryz.prog Gt tab).isIf 30 = some false := by kernel_rfl
theorem Ty.zr30 : (ctx Tryz.prog Gt tab).zero 30 = some (.v (.c (.d (.int .i64 0)))) := by kernel_rfl
theorem Ty.ap30 : (ctx Tryz.prog Gt tab).apz 30 = some (1, 8) := by kernel_rfl
theorem Ty.un30 : Tryz.prog.underlying 30 = some (Go.TypeDesc.int Go.IntKind.i64) := by kernel_rfl
theorem Ty.sz37 : (ctx Tryz.prog Gt tab).size 37 = some 1 := by kernel_rfl
theorem Ty.ag37 : (ctx Tryz.prog Gt tab).isAgg 37 = some false := by kernel_rfl
theorem Ty.zr37 : (ctx Tryz.prog Gt tab).zero 37 = some (.v (.c (.d (.sl true [])))) := by kernel_rfl
theorem Ty.ap37 : (ctx Tryz.prog Gt tab).apz 37 = some (1, 24) := by kernel_rfl
theorem Ty.un37 : Tryz.prog.underlying 37 = some (Go.TypeDesc.slice 24) := by kernel_rfl
theorem Ty.sz39 : (ctx Tryz.prog Gt tab).size 39 = some 1 := by kernel_rfl
theorem Ty.ag39 : (ctx Tryz.prog Gt tab).isAgg 39 = some false := by kernel_rfl
theorem Ty.zr39 : (ctx Tryz.prog Gt tab).zero 39 = some (.v (.c (.d (.sl true [])))) := by kernel_rfl
theorem Ty.ap39 : (ctx Tryz.prog Gt tab).apz 39 = some (1, 24) := by kernel_rfl
theorem Ty.un39 : Tryz.prog.underlying 39 = some (Go.TypeDesc.slice 66) := by kernel_rfl
theorem Ty.sz44 : (ctx Tryz.prog Gt tab).size 44 = some 1 := by kernel_rfl
theorem Ty.ag44 : (ctx Tryz.prog Gt tab).isAgg 44 = some false := by kernel_rfl
theorem Ty.zr44 : (ctx Tryz.prog Gt tab).zero 44 = some (.v (.c (.d (.sl true [])))) := by kernel_rfl
theorem Ty.ap44 : (ctx Tryz.prog Gt tab).apz 44 = some (1, 24) := by kernel_rfl
theorem Ty.un44 : Tryz.prog.underlying 44 = some (Go.TypeDesc.slice 52) := by kernel_rfl
theorem Ty.sz50 : (ctx Tryz.prog Gt tab).size 50 = some 1 := by kernel_rfl
theorem Ty.ag50 : (ctx Tryz.prog Gt tab).isAgg 50 = some false := by kernel_rfl
theorem Ty.zr50 : (ctx Tryz.prog Gt tab).zero 50 = some (.v (.c (.d (.sl true [])))) := by kernel_rfl
theorem Ty.ap50 : (ctx Tryz.prog Gt tab).apz 50 = some (1, 24) := by kernel_rfl
theorem Ty.un50 : Tryz.prog.underlying 50 = some (Go.TypeDesc.slice 9) := by kernel_rfl
theorem Ty.sz52 : (ctx Tryz.prog Gt tab).size 52 = some 5 := by kernel_rfl
theorem Ty.ag52 : (ctx Tryz.prog Gt tab).isAgg 52 = some true := by kernel_rfl
theorem Ty.nf52 : (ctx Tryz.prog Gt tab).isIf 52 = some false := by kernel_rfl
theorem Ty.ft52 : (ctx Tryz.prog Gt tab).flat 52 = some [.i .i64, .s, .i .i64, .i .i64, .i .i64] := by kernel_rfl
theorem Ty.zr52 : (ctx Tryz.prog Gt tab).zero 52 = some (.v (.agg [.d (.int .i64 0), .d (.str []), .d (.int .i64 0), .d (.int .i64 0), .d (.int .i64 0)])) := by kernel_rfl
theorem Ty.ap52 : (ctx Tryz.prog Gt tab).apz 52 = some (5, 48) := by kernel_rfl
theorem Ty.fd52_0 : fld (ctx Tryz.prog Gt tab) (Tryz.prog.underlying 52) x 0 h = fldV (ctx Tryz.prog Gt tab) 3 0 x h := by kernel_rfl
theorem Ty.fa52_0 : fldA (ctx Tryz.prog Gt tab) (Tryz.prog.underlying 52) x 0 h = fldP 0 1 x h := by kernel_rfl
theorem Ty.fd52_1 : fld (ctx Tryz.prog Gt tab) (Tryz.prog.underlying 52) x 1 h = fldV (ctx Tryz.prog Gt tab) 9 1 x h := by kernel_rfl
theorem Ty.fa52_1 : fldA (ctx Tryz.prog Gt tab) (Tryz.prog.underlying 52) x 1 h = fldP 1 1 x h := by kernel_rfl
theorem Ty.fd52_2 : fld (ctx Tryz.prog Gt tab) (Tryz.prog.underlying 52) x 2 h = fldV (ctx Tryz.prog Gt tab) 3 2 x h := by kernel_rfl
theorem Ty.fa52_2 : fldA (ctx Tryz.prog Gt tab) (Tryz.prog.underlying 52) x 2 h = fldP 2 1 x h := by kernel_rfl
theorem Ty.fd52_3 : fld (ctx Tryz.prog Gt tab) (Tryz.prog.underlying 52) x 3 h = fldV (ctx Tryz.prog Gt tab) 3 3 x h := by kernel_rfl
theorem Ty.fa52_3 : fldA (ctx Tryz.prog Gt tab) (Tryz.prog.underlying 52) x 3 h = fldP 3 1 x h := by kernel_rfl
theorem Ty.fd52_4 : fld (ctx Tryz.prog Gt tab) (Tryz.prog.underlying 52) x 4 h = fldV (ctx Tryz.prog Gt tab) 3 4 x h := by kernel_rfl
theorem Ty.fa52_4 : fldA (ctx Tryz.prog Gt tab) (Tryz.prog.underlying 52) x 4 h = fldP 4 1 x h := by kernel_rfl
theorem Ty.pl52 : (ctx Tryz.prog Gt tab).place 52 = some fun i => [(0, 1), (1, 1), (2, 1), (3, 1), (4, 1)][i]? := by kernel_rfl
theorem Ty.sz54 : (ctx Tryz.prog Gt tab).size 54 = some 1 := by kernel_rfl
theorem Ty.ag54 : (ctx Tryz.prog Gt tab).isAgg 54 = some false := by kernel_rfl
theorem Ty.zr54 : (ctx Tryz.prog Gt tab).zero 54 = some (.v (.c (.d (.sl true [])))) := by kernel_rfl
theorem Ty.ap54 : (ctx Tryz.prog Gt tab).apz 54 = some (1, 24) := by kernel_rfl
theorem Ty.un54 : Tryz.prog.underlying 54 = some (Go.TypeDesc.slice 141) := by kernel_rfl
theorem Ty.sz55 : (ctx Tryz.prog Gt tab).size 55 = some 1 := by kernel_rfl
theorem Ty.ag55 : (ctx Tryz.prog Gt tab).isAgg 55 = some false := by kernel_rfl
theorem Ty.zr55 : (ctx Tryz.prog Gt tab).zero 55 = some (.v (.c (.d (.sl true [])))) := by kernel_rfl
theorem Ty.ap55 : (ctx Tryz.prog Gt tab).apz 55 = some (1, 24) := by kernel_rfl
theorem Ty.un55 : Tryz.prog.underlying 55 = some (Go.TypeDesc.slice 62) := by kernel_rfl
theorem Ty.sz57 : (ctx Tryz.prog Gt tab).size 57 = some 7 := by kernel_rfl
theorem Ty.ag57 : (ctx Tryz.prog Gt tab).isAgg 57 = some true := by kernel_rfl
theorem Ty.nf57 : (ctx Tryz.prog Gt tab).isIf 57 = some false := by kernel_rfl
theorem Ty.zr57 : (ctx Tryz.prog Gt tab).zero 57 = some (.v (.agg [.d (.str []), .d (.sl true []), .d (.sl true []), .d (.int .i64 0), .d (.int .i64 0), .d (.int .i64 0), .d (.int .i64 0)])) := by kernel_rfl
theorem Ty.ap57 : (ctx Tryz.prog Gt tab).apz 57 = some (7, 96) := by kernel_rfl
theorem Ty.fd57_0 : fld (ctx Tryz.prog Gt tab) (Tryz.prog.underlying 57) x 0 h = fldV (ctx Tryz.prog Gt tab) 9 0 x h := by kernel_rfl
theorem Ty.fa57_0 : fldA (ctx Tryz.prog Gt tab) (Tryz.prog.underlying 57) x 0 h = fldP 0 1 x h := by kernel_rfl
theorem Ty.fd57_1 : fld (ctx Tryz.prog Gt tab) (Tryz.prog.underlying 57) x 1 h = fldV (ctx Tryz.prog Gt tab) 54 1 x h := by kernel_rfl
theorem Ty.fa57_1 : fldA (ctx Tryz.prog Gt tab) (Tryz.prog.underlying 57) x 1 h = fldP 1 1 x h := by kernel_rfl
theorem Ty.fd57_2 : fld (ctx Tryz.prog Gt tab) (Tryz.prog.underlying 57) x 2 h = fldV (ctx Tryz.prog Gt tab) 55 2 x h := by kernel_rfl
theorem Ty.fa57_2 : fldA (ctx Tryz.prog Gt tab) (Tryz.prog.underlying 57) x 2 h = fldP 2 1 x h := by kernel_rfl
theorem Ty.fd57_3 : fld (ctx Tryz.prog Gt tab) (Tryz.prog.underlying 57) x 3 h = fldV (ctx Tryz.prog Gt tab) 3 3 x h := by kernel_rfl
theorem Ty.fa57_3 : fldA (ctx Tryz.prog Gt tab) (Tryz.prog.underlying 57) x 3 h = fldP 3 1 x h := by kernel_rfl
theorem Ty.fd57_4 : fld (ctx Tryz.prog Gt tab) (Tryz.prog.underlying 57) x 4 h = fldV (ctx Tryz.prog Gt tab) 3 4 x h := by kernel_rfl
theorem Ty.fa57_4 : fldA (ctx Tryz.prog Gt tab) (Tryz.prog.underlying 57) x 4 h = fldP 4 1 x h := by kernel_rfl
theorem Ty.fd57_5 : fld (ctx Tryz.prog Gt tab) (Tryz.prog.underlying 57) x 5 h = fldV (ctx Tryz.prog Gt tab) 3 5 x h := by kernel_rfl
theorem Ty.fa57_5 : fldA (ctx Tryz.prog Gt tab) (Tryz.prog.underlying 57) x 5 h = fldP 5 1 x h := by kernel_rfl
theorem Ty.fd57_6 : fld (ctx Tryz.prog Gt tab) (Tryz.prog.underlying 57) x 6 h = fldV (ctx Tryz.prog Gt tab) 3 6 x h := by kernel_rfl
theorem Ty.fa57_6 : fldA (ctx Tryz.prog Gt tab) (Tryz.prog.underlying 57) x 6 h = fldP 6 1 x h := by kernel_rfl
theorem Ty.pl57 : (ctx Tryz.prog Gt tab).place 57 = some fun i => [(0, 1), (1, 1), (2, 1), (3, 1), (4, 1), (5, 1), (6, 1)][i]? := by kernel_rfl
theorem Ty.sz58 : (ctx Tryz.prog Gt tab).size 58 = some 1 := by kernel_rfl
theorem Ty.ag58 : (ctx Tryz.prog Gt tab).isAgg 58 = some false := by kernel_rfl
theorem Ty.zr58 : (ctx Tryz.prog Gt tab).zero 58 = some (.v (.c (.d (.sl true [])))) := by kernel_rfl
theorem Ty.ap58 : (ctx Tryz.prog Gt tab).apz 58 = some (1, 24) := by kernel_rfl
theorem Ty.un58 : Tryz.prog.underlying 58 = some (Go.TypeDesc.slice 3) := by kernel_rfl
theorem Ty.sz60 : (ctx Tryz.prog Gt tab).size 60 = some 7 := by kernel_rfl
theorem Ty.ag60 : (ctx Tryz.prog Gt tab).isAgg 60 = some true := by kernel_rfl
theorem Ty.nf60 : (ctx Tryz.prog Gt tab).isIf 60 = some false := by kernel_rfl
theorem Ty.zr60 : (ctx Tryz.prog Gt tab).zero 60 = some (.v (.agg [.d (.str []), .d (.str []), .d (.str []), .d (.int .i64 0), .d (.int .i64 0), .d (.int .i64 0), .d (.sl true [])])) := by kernel_rfl
theorem Ty.ap60 : (ctx Tryz.prog Gt tab).apz 60 = some (7, 96) := by kernel_rfl
theorem Ty.fd60_0 : fld (ctx Tryz.prog Gt tab) (Tryz.prog.underlying 60) x 0 h = fldV (ctx Tryz.prog Gt tab) 9 0 x h := by kernel_rfl
theorem Ty.fa60_0 : fldA (ctx Tryz.prog Gt tab) (Tryz.prog.underlying 60) x 0 h = fldP 0 1 x h := by kernel_rfl
theorem Ty.fd60_1 : fld (ctx Tryz.prog Gt tab) (Tryz.prog.underlying 60) x 1 h = fldV (ctx Tryz.prog Gt tab) 9 1 x h := by kernel_rfl
theorem Ty.fa60_1 : fldA (ctx Tryz.prog Gt tab) (Tryz.prog.underlying 60) x 1 h = fldP 1 1 x h := by kernel_rfl
theorem Ty.fd60_2 : fld (ctx Tryz.prog Gt tab) (Tryz.prog.underlying 60) x 2 h = fldV (ctx Tryz.prog Gt tab) 9 2 x h := by kernel_rfl
theorem Ty.fa60_2 : fldA (ctx Tryz.prog Gt tab) (Tryz.prog.underlying 60) x 2 h = fldP 2 1 x h := by kernel_rfl
theorem Ty.fd60_3 : fld (ctx Tryz.prog Gt tab) (Tryz.prog.underlying 60) x 3 h = fldV (ctx Tryz.prog Gt tab) 3 3 x h := by kernel_rfl
theorem Ty.fa60_3 : fldA (ctx Tryz.prog Gt tab) (Tryz.prog.underlying 60) x 3 h = fldP 3 1 x h := by kernel_rfl
theorem Ty.fd60_4 : fld (ctx Tryz.prog Gt tab) (Tryz.prog.underlying 60) x 4 h = fldV (ctx Tryz.prog Gt tab) 3 4 x h := by kernel_rfl
theorem Ty.fa60_4 : fldA (ctx Tryz.prog Gt tab) (Tryz.prog.underlying 60) x 4 h = fldP 4 1 x h := by kernel_rfl
theorem Ty.fd60_5 : fld (ctx Tryz.prog Gt tab) (Tryz.prog.underlying 60) x 5 h = fldV (ctx Tryz.prog Gt tab) 3 5 x h := by kernel_rfl
theorem Ty.fa60_5 : fldA (ctx Tryz.prog Gt tab) (Tryz.prog.underlying 60) x 5 h = fldP 5 1 x h := by kernel_rfl
theorem Ty.fd60_6 : fld (ctx Tryz.prog Gt tab) (Tryz.prog.underlying 60) x 6 h = fldV (ctx Tryz.prog Gt tab) 58 6 x h := by kernel_rfl
theorem Ty.fa60_6 : fldA (ctx Tryz.prog Gt tab) (Tryz.prog.underlying 60) x 6 h = fldP 6 1 x h := by kernel_rfl
theorem Ty.pl60 : (ctx Tryz.prog Gt tab).place 60 = some fun i => [(0, 1), (1, 1), (2, 1), (3, 1), (4, 1), (5, 1), (6, 1)][i]? := by kernel_rfl
theorem Ty.sz62 : (ctx Tryz.prog Gt tab).size 62 = some 3 := by kernel_rfl
theorem Ty.ag62 : (ctx Tryz.prog Gt tab).isAgg 62 = some true := by kernel_rfl
theorem Ty.nf62 : (ctx Tryz.prog Gt tab).isIf 62 = some false := by kernel_rfl
theorem Ty.ft62 : (ctx Tryz.prog Gt tab).flat 62 = some [.i .i64, .i .i64, .i .i64] := by kernel_rfl
theorem Ty.zr62 : (ctx Tryz.prog Gt tab).zero 62 = some (.v (.agg [.d (.int .i64 0), .d (.int .i64 0), .d (.int .i64 0)])) := by kernel_rfl
theorem Ty.ap62 : (ctx Tryz.prog Gt tab).apz 62 = some (3, 24) := by kernel_rfl
theorem Ty.fd62_0 : fld (ctx Tryz.prog Gt tab) (Tryz.prog.underlying 62) x 0 h = fldV (ctx Tryz.prog Gt tab) 3 0 x h := by kernel_rfl
theorem Ty.fa62_0 : fldA (ctx Tryz.prog Gt tab) (Tryz.prog.underlying 62) x 0 h = fldP 0 1 x h := by kernel_rfl
theorem Ty.fd62_1 : fld (ctx Tryz.prog Gt tab) (Tryz.prog.underlying 62) x 1 h = fldV (ctx Tryz.prog Gt tab) 3 1 x h := by kernel_rfl
theorem Ty.fa62_1 : fldA (ctx Tryz.prog Gt tab) (Tryz.prog.underlying 62) x 1 h = fldP 1 1 x h := by kernel_rfl
theorem Ty.fd62_2 : fld (ctx Tryz.prog Gt tab) (Tryz.prog.underlying 62) x 2 h = fldV (ctx Tryz.prog Gt tab) 3 2 x h := by kernel_rfl
theorem Ty.fa62_2 : fldA (ctx Tryz.prog Gt tab) (Tryz.prog.underlying 62) x 2 h = fldP 2 1 x h := by kernel_rfl
theorem Ty.pl62 : (ctx Tryz.prog Gt tab).place 62 = some fun i => [(0, 1), (1, 1), (2, 1)][i]? := by kernel_rfl
theorem Ty.sz66 : (ctx Tryz.prog Gt tab).size 66 = some 2 := by kernel_rfl
theorem Ty.ag66 : (ctx Tryz.prog Gt tab).isAgg 66 = some true := by kernel_rfl
theorem Ty.nf66 : (ctx Tryz.prog Gt tab).isIf 66 = some false := by kernel_rfl
theorem Ty.ft66 : (ctx Tryz.prog Gt tab).flat 66 = some [.s, .i .i64] := by kernel_rfl
theorem Ty.zr66 : (ctx Tryz.prog Gt tab).zero 66 = some (.v (.agg [.d (.str []), .d (.int .i64 0)])) := by kernel_rfl
theorem Ty.ap66 : (ctx Tryz.prog Gt tab).apz 66 = some (2, 24) := by kernel_rfl
theorem Ty.fd66_0 : fld (ctx Tryz.prog Gt tab) (Tryz.prog.underlying 66) x 0 h = fldV (ctx Tryz.prog Gt tab) 9 0 x h := by kernel_rfl
theorem Ty.fa66_0 : fldA (ctx Tryz.prog Gt tab) (Tryz.prog.underlying 66) x 0 h = fldP 0 1 x h := by kernel_rfl
theorem Ty.fd66_1 : fld (ctx Tryz.prog Gt tab) (Tryz.prog.underlying 66) x 1 h = fldV (ctx Tryz.prog Gt tab) 3 1 x h := by kernel_rfl
theorem Ty.fa66_1 : fldA (ctx Tryz.prog Gt tab) (Tryz.prog.underlying 66) x 1 h = fldP 1 1 x h := by kernel_rfl
theorem Ty.pl66 : (ctx Tryz.prog Gt tab).place 66 = some fun i => [(0, 1), (1, 1)][i]? := by kernel_rfl
theorem Ty.sz68 : (ctx Tryz.prog Gt tab).size 68 = some 2 := by kernel_rfl
theorem Ty.ag68 : (ctx Tryz.prog Gt tab).isAgg 68 = some true := by kernel_rfl
theorem Ty.nf68 : (ctx Tryz.prog Gt tab).isIf 68 = some false := by kernel_rfl
theorem Ty.ft68 : (ctx Tryz.prog Gt tab).flat 68 = some [.i .i64, .i .i64] := by kernel_rfl
theorem Ty.zr68 : (ctx Tryz.prog Gt tab).zero 68 = some (.v (.agg [.d (.int .i64 0), .d (.int .i64 0)])) := by kernel_rfl
theorem Ty.ap68 : (ctx Tryz.prog Gt tab).apz 68 = some (2, 16) := by kernel_rfl
theorem Ty.fd68_0 : fld (ctx Tryz.prog Gt tab) (Tryz.prog.underlying 68) x 0 h = fldV (ctx Tryz.prog Gt tab) 3 0 x h := by kernel_rfl
theorem Ty.fa68_0 : fldA (ctx Tryz.prog Gt tab) (Tryz.prog.underlying 68) x 0 h = fldP 0 1 x h := by kernel_rfl
theorem Ty.fd68_1 : fld (ctx Tryz.prog Gt tab) (Tryz.prog.underlying 68) x 1 h = fldV (ctx Tryz.prog Gt tab) 3 1 x h := by kernel_rfl
theorem Ty.fa68_1 : fldA (ctx Tryz.prog Gt tab) (Tryz.prog.underlying 68) x 1 h = fldP 1 1 x h := by kernel_rfl
theorem Ty.pl68 : (ctx Tryz.prog Gt tab).place 68 = some fun i => [(0, 1), (1, 1)][i]? := by kernel_rfl
theorem Ty.sz82 : (ctx Tryz.prog Gt tab).size 82 = some 1 := by kernel_rfl
theorem Ty.ag82 : (ctx Tryz.prog Gt tab).isAgg 82 = some false := by kernel_rfl
theorem Ty.zr82 : (ctx Tryz.prog Gt tab).zero 82 = some (.v (.c .nilm)) := by kernel_rfl
theorem Ty.ap82 : (ctx Tryz.prog Gt tab).apz 82 = some (1, 8) := by kernel_rfl
theorem Ty.un82 : Tryz.prog.underlying 82 = some (Go.TypeDesc.map 9 3) := by kernel_rfl
theorem Ty.mt82 : (ctx Tryz.prog Gt tab).mapTy 82 = some (Go.TypeDesc.string, 3) := by kernel_rfl
theorem Ty.sz91 : (ctx Tryz.prog Gt tab).size 91 = some 4 := by kernel_rfl
theorem Ty.ag91 : (ctx Tryz.prog Gt tab).isAgg 91 = some true := by kernel_rfl
theorem Ty.nf91 : (ctx Tryz.prog Gt tab).isIf 91 = some false := by kernel_rfl
theorem Ty.zr91 : (ctx Tryz.prog Gt tab).zero 91 = some (.v (.agg [.d (.str []), .d (.str []), .d (.int .i64 0), .d (.sl true [])])) := by kernel_rfl
theorem Ty.ap91 : (ctx Tryz.prog Gt tab).apz 91 = some (4, 64) := by kernel_rfl
theorem Ty.fd91_0 : fld (ctx Tryz.prog Gt tab) (Tryz.prog.underlying 91) x 0 h = fldV (ctx Tryz.prog Gt tab) 9 0 x h := by kernel_rfl
theorem Ty.fa91_0 : fldA (ctx Tryz.prog Gt tab) (Tryz.prog.underlying 91) x 0 h = fldP 0 1 x h := by kernel_rfl
theorem Ty.fd91_1 : fld (ctx Tryz.prog Gt tab) (Tryz.prog.underlying 91) x 1 h = fldV (ctx Tryz.prog Gt tab) 9 1 x h := by kernel_rfl
theorem Ty.fa91_1 : fldA (ctx Tryz.prog Gt tab) (Tryz.prog.underlying 91) x 1 h = fldP 1 1 x h := by kernel_rfl
theorem Ty.fd91_2 : fld (ctx Tryz.prog Gt tab) (Tryz.prog.underlying 91) x 2 h = fldV (ctx Tryz.prog Gt tab) 3 2 x h := by kernel_rfl
theorem Ty.fa91_2 : fldA (ctx Tryz.prog Gt tab) (Tryz.prog.underlying 91) x 2 h = fldP 2 1 x h := by kernel_rfl
theorem Ty.fd91_3 : fld (ctx Tryz.prog Gt tab) (Tryz.prog.underlying 91) x 3 h = fldV (ctx Tryz.prog Gt tab) 44 3 x h := by kernel_rfl
theorem Ty.fa91_3 : fldA (ctx Tryz.prog Gt tab) (Tryz.prog.underlying 91) x 3 h = fldP 3 1 x h := by kernel_rfl
theorem Ty.pl91 : (ctx Tryz.prog Gt tab).place 91 = some fun i => [(0, 1), (1, 1), (2, 1), (3, 1)][i]? := by kernel_rfl
theorem Ty.sz115 : (ctx Tryz.prog Gt tab).size 115 = some 1 := by kernel_rfl
theorem Ty.ag115 : (ctx Tryz.prog Gt tab).isAgg 115 = some false := by kernel_rfl
theorem Ty.nf115 : (ctx Tryz.prog Gt tab).isIf 115 = some false := by kernel_rfl
theorem Ty.zr115 : (ctx Tryz.prog Gt tab).zero 115 = some (.v (.c (.d (.int .u64 0)))) := by kernel_rfl
theorem Ty.ap115 : (ctx Tryz.prog Gt tab).apz 115 = some (1, 8) := by kernel_rfl
theorem Ty.un115 : Tryz.prog.underlying 115 = some (Go.TypeDesc.int Go.IntKind.u64) := by kernel_rfl
theorem Ty.sz118 : (ctx Tryz.prog Gt tab).size 118 = some 1 := by kernel_rfl
theorem Ty.ag118 : (ctx Tryz.prog Gt tab).isAgg 118 = some false := by kernel_rfl
theorem Ty.pt118 : (ctx Tryz.prog Gt tab).ptT 118 = some true := by kernel_rfl
theorem Ty.zr118 : (ctx Tryz.prog Gt tab).zero 118 = some (.v (.c .nilp)) := by kernel_rfl
theorem Ty.ap118 : (ctx Tryz.prog Gt tab).apz 118 = some (1, 8) := by kernel_rfl
theorem Ty.sz119 : (ctx Tryz.prog Gt tab).size 119 = some 1 := by kernel_rfl
theorem Ty.ag119 : (ctx Tryz.prog Gt tab).isAgg 119 = some false := by kernel_rfl
theorem Ty.zr119 : (ctx Tryz.prog Gt tab).zero 119 = some (.v (.c (.d (.sl true [])))) := by kernel_rfl
theorem Ty.ap119 : (ctx Tryz.prog Gt tab).apz 119 = some (1, 24) := by kernel_rfl
theorem Ty.un119 : Tryz.prog.underlying 119 = some (Go.TypeDesc.slice 5) := by kernel_rfl
theorem Ty.sz121 : (ctx Tryz.prog Gt tab).size 121 = some 2 := by kernel_rfl
theorem Ty.ag121 : (ctx Tryz.prog Gt tab).isAgg 121 = some true := by kernel_rfl
theorem Ty.nf121 : (ctx Tryz.prog Gt tab).isIf 121 = some false := by kernel_rfl
theorem Ty.zr121 : (ctx Tryz.prog Gt tab).zero 121 = some (.v (.agg [.nilp, .d (.sl true [])])) := by kernel_rfl
theorem Ty.ap121 : (ctx Tryz.prog Gt tab).apz 121 = some (2, 32) := by kernel_rfl
theorem Ty.fd121_0 : fld (ctx Tryz.prog Gt tab) (Tryz.prog.underlying 121) x 0 h = fldV (ctx Tryz.prog Gt tab) 118 0 x h := by kernel_rfl
theorem Ty.fa121_0 : fldA (ctx Tryz.prog Gt tab) (Tryz.prog.underlying 121) x 0 h = fldP 0 1 x h := by kernel_rfl
theorem Ty.fd121_1 : fld (ctx Tryz.prog Gt tab) (Tryz.prog.underlying 121) x 1 h = fldV (ctx Tryz.prog Gt tab) 119 1 x h := by kernel_rfl
theorem Ty.fa121_1 : fldA (ctx Tryz.prog Gt tab) (Tryz.prog.underlying 121) x 1 h = fldP 1 1 x h := by kernel_rfl
theorem Ty.pl121 : (ctx Tryz.prog Gt tab).place 121 = some fun i => [(0, 1), (1, 1)][i]? := by kernel_rfl
theorem Ty.sz132 : (ctx Tryz.prog Gt tab).size 132 = some 1 := by kernel_rfl
theorem Ty.ag132 : (ctx Tryz.prog Gt tab).isAgg 132 = some false := by kernel_rfl
theorem Ty.pt132 : (ctx Tryz.prog Gt tab).ptT 132 = some true := by kernel_rfl
theorem Ty.zr132 : (ctx Tryz.prog Gt tab).zero 132 = some (.v (.c .nilp)) := by kernel_rfl
theorem Ty.ap132 : (ctx Tryz.prog Gt tab).apz 132 = some (1, 8) := by kernel_rfl
theorem Ty.sz134 : (ctx Tryz.prog Gt tab).size 134 = some 6 := by kernel_rfl
theorem Ty.ag134 : (ctx Tryz.prog Gt tab).isAgg 134 = some true := by kernel_rfl
theorem Ty.nf134 : (ctx Tryz.prog Gt tab).isIf 134 = some false := by kernel_rfl
theorem Ty.zr134 : (ctx Tryz.prog Gt tab).zero 134 = some (.v (.agg [.d (.str []), .d (.str []), .d (.int .i64 0), .d (.sl true []), .d (.bool false), .d (.bool false)])) := by kernel_rfl
theorem Ty.ap134 : (ctx Tryz.prog Gt tab).apz 134 = some (6, 72) := by kernel_rfl
theorem Ty.fd134_0 : fld (ctx Tryz.prog Gt tab) (Tryz.prog.underlying 134) x 0 h = fldV (ctx Tryz.prog Gt tab) 91 0 x h := by kernel_rfl
theorem Ty.fa134_0 : fldA (ctx Tryz.prog Gt tab) (Tryz.prog.underlying 134) x 0 h = fldP 0 4 x h := by kernel_rfl
theorem Ty.fd134_1 : fld (ctx Tryz.prog Gt tab) (Tryz.prog.underlying 134) x 1 h = fldV (ctx Tryz.prog Gt tab) 4 4 x h := by kernel_rfl
theorem Ty.fa134_1 : fldA (ctx Tryz.prog Gt tab) (Tryz.prog.underlying 134) x 1 h = fldP 4 1 x h := by kernel_rfl
theorem Ty.fd134_2 : fld (ctx Tryz.prog Gt tab) (Tryz.prog.underlying 134) x 2 h = fldV (ctx Tryz.prog Gt tab) 4 5 x h := by kernel_rfl
theorem Ty.fa134_2 : fldA (ctx Tryz.prog Gt tab) (Tryz.prog.underlying 134) x 2 h = fldP 5 1 x h := by kernel_rfl
theorem Ty.pl134 : (ctx Tryz.prog Gt tab).place 134 = some fun i => [(0, 4), (4, 1), (5, 1)][i]? := by kernel_rfl
theorem Ty.sz141 : (ctx Tryz.prog Gt tab).size 141 = some 3 := by kernel_rfl
theorem Ty.ag141 : (ctx Tryz.prog Gt tab).isAgg 141 = some true := by kernel_rfl
theorem Ty.nf141 : (ctx Tryz.prog Gt tab).isIf 141 = some false := by kernel_rfl
theorem Ty.ft141 : (ctx Tryz.prog Gt tab).flat 141 = some [.i .i64, .i .i64, .i .i64] := by kernel_rfl
theorem Ty.zr141 : (ctx Tryz.prog Gt tab).zero 141 = some (.v (.agg [.d (.int .i64 0), .d (.int .i64 0), .d (.int .i64 0)])) := by kernel_rfl
theorem Ty.ap141 : (ctx Tryz.prog Gt tab).apz 141 = some (3, 24) := by kernel_rfl
theorem Ty.fd141_0 : fld (ctx Tryz.prog Gt tab) (Tryz.prog.underlying 141) x 0 h = fldV (ctx Tryz.prog Gt tab) 3 0 x h := by kernel_rfl
theorem Ty.fa141_0 : fldA (ctx Tryz.prog Gt tab) (Tryz.prog.underlying 141) x 0 h = fldP 0 1 x h := by kernel_rfl
theorem Ty.fd141_1 : fld (ctx Tryz.prog Gt tab) (Tryz.prog.underlying 141) x 1 h = fldV (ctx Tryz.prog Gt tab) 3 1 x h := by kernel_rfl
theorem Ty.fa141_1 : fldA (ctx Tryz.prog Gt tab) (Tryz.prog.underlying 141) x 1 h = fldP 1 1 x h := by kernel_rfl
theorem Ty.fd141_2 : fld (ctx Tryz.prog Gt tab) (Tryz.prog.underlying 141) x 2 h = fldV (ctx Tryz.prog Gt tab) 3 2 x h := by kernel_rfl
theorem Ty.fa141_2 : fldA (ctx Tryz.prog Gt tab) (Tryz.prog.underlying 141) x 2 h = fldP 2 1 x h := by kernel_rfl
theorem Ty.pl141 : (ctx Tryz.prog Gt tab).place 141 = some fun i => [(0, 1), (1, 1), (2, 1)][i]? := by kernel_rfl
theorem Ty.sz148 : (ctx Tryz.prog Gt tab).size 148 = some 1 := by kernel_rfl
theorem Ty.ag148 : (ctx Tryz.prog Gt tab).isAgg 148 = some false := by kernel_rfl
theorem Ty.nf148 : (ctx Tryz.prog Gt tab).isIf 148 = some false := by kernel_rfl
theorem Ty.zr148 : (ctx Tryz.prog Gt tab).zero 148 = some (.v (.c (.d (.int .i64 0)))) := by kernel_rfl
theorem Ty.ap148 : (ctx Tryz.prog Gt tab).apz 148 = some (1, 8) := by kernel_rfl
theorem Ty.un148 : Tryz.prog.underlying 148 = some (Go.TypeDesc.int Go.IntKind.i64) := by kernel_rfl
theorem Ty.sz157 : (ctx Tryz.prog Gt tab).size 157 = some 1 := by kernel_rfl
theorem Ty.ag157 : (ctx Tryz.prog Gt tab).isAgg 157 = some false := by kernel_rfl
theorem Ty.nf157 : (ctx Tryz.prog Gt tab).isIf 157 = some false := by kernel_rfl
theorem Ty.zr157 : (ctx Tryz.prog Gt tab).zero 157 = some (.v (.c (.d (.int .u64 0)))) := by kernel_rfl
theorem Ty.ap157 : (ctx Tryz.prog Gt tab).apz 157 = some (1, 8) := by kernel_rfl
theorem Ty.un157 : Tryz.prog.underlying 157 = some (Go.TypeDesc.int Go.IntKind.u64) := by kernel_rfl
theorem Ty.sz164 : (ctx Tryz.prog Gt tab).size 164 = some 1 := by kernel_rfl
theorem Ty.ag164 : (ctx Tryz.prog Gt tab).isAgg 164 = some true := by kernel_rfl
theorem Ty.nf164 : (ctx Tryz.prog Gt tab).isIf 164 = some false := by kernel_rfl
theorem Ty.ft164 : (ctx Tryz.prog Gt tab).flat 164 = some [.i .i64] := by kernel_rfl
theorem Ty.zr164 : (ctx Tryz.prog Gt tab).zero 164 = some (.v (.agg [.d (.int .i64 0)])) := by kernel_rfl
theorem Ty.ap164 : (ctx Tryz.prog Gt tab).apz 164 = some (1, 8) := by kernel_rfl
theorem Ty.fd164_0 : fld (ctx Tryz.prog Gt tab) (Tryz.prog.underlying 164) x 0 h = fldV (ctx Tryz.prog Gt tab) 30 0 x h := by kernel_rfl
theorem Ty.fa164_0 : fldA (ctx Tryz.prog Gt tab) (Tryz.prog.underlying 164) x 0 h = fldP 0 1 x h := by kernel_rfl
theorem Ty.pl164 : (ctx Tryz.prog Gt tab).place 164 = some fun i => [(0, 1)][i]? := by kernel_rfl
theorem Ty.sz176 : (ctx Tryz.prog Gt tab).size 176 = some 1 := by kernel_rfl
theorem Ty.ag176 : (ctx Tryz.prog Gt tab).isAgg 176 = some false := by kernel_rfl
theorem Ty.nf176 : (ctx Tryz.prog Gt tab).isIf 176 = some false := by kernel_rfl
theorem Ty.zr176 : (ctx Tryz.prog Gt tab).zero 176 = some (.v (.c (.d (.int .u64 0)))) := by kernel_rfl
theorem Ty.ap176 : (ctx Tryz.prog Gt tab).apz 176 = some (1, 8) := by kernel_rfl
theorem Ty.un176 : Tryz.prog.underlying 176 = some (Go.TypeDesc.int Go.IntKind.u64) := by kernel_rfl
theorem Ty.sz180 : (ctx Tryz.prog Gt tab).size 180 = some 1 := by kernel_rfl
theorem Ty.ag180 : (ctx Tryz.prog Gt tab).isAgg 180 = some false := by kernel_rfl
theorem Ty.pt180 : (ctx Tryz.prog Gt tab).ptT 180 = some true := by kernel_rfl
theorem Ty.zr180 : (ctx Tryz.prog Gt tab).zero 180 = some (.v (.c .nilp)) := by kernel_rfl
theorem Ty.ap180 : (ctx Tryz.prog Gt tab).apz 180 = some (1, 8) := by kernel_rfl
end

/-- All of them, for simp. -/
theorem TY : type_of% @Ty.sz3 ∧
  type_of% @Ty.ag3 ∧
  type_of% @Ty.nf3 ∧
  type_of% @Ty.zr3 ∧
  type_of% @Ty.ap3 ∧
  type_of% @Ty.un3 ∧
  type_of% @Ty.sz4 ∧
  type_of% @Ty.ag4 ∧
  type_of% @Ty.zr4 ∧
  type_of% @Ty.ap4 ∧
  type_of% @Ty.un4 ∧
  type_of% @Ty.sz5 ∧
  type_of% @Ty.ag5 ∧
  type_of% @Ty.nf5 ∧
  type_of% @Ty.zr5 ∧
  type_of% @Ty.ap5 ∧
  type_of% @Ty.un5 ∧
  type_of% @Ty.sz9 ∧
  type_of% @Ty.ag9 ∧
  type_of% @Ty.zr9 ∧
  type_of% @Ty.ap9 ∧
  type_of% @Ty.un9 ∧
  type_of% @Ty.sz20 ∧
  type_of% @Ty.ag20 ∧
  type_of% @Ty.if20 ∧
  type_of% @Ty.zr20 ∧
  type_of% @Ty.ap20 ∧
  type_of% @Ty.sz21 ∧
  type_of% @Ty.ag21 ∧
  type_of% @Ty.nf21 ∧
  type_of% @Ty.zr21 ∧
  type_of% @Ty.ap21 ∧
  type_of% @Ty.un21 ∧
  type_of% @Ty.sz22 ∧
  type_of% @Ty.ag22 ∧
  type_of% @Ty.zr22 ∧
  type_of% @Ty.ap22 ∧
  type_of% @Ty.un22 ∧
  type_of% @Ty.sz24 ∧
  type_of% @Ty.ag24 ∧
  type_of% @Ty.nf24 ∧
  type_of% @Ty.ft24 ∧
  type_of% @Ty.zr24 ∧
  type_of% @Ty.ap24 ∧
  type_of% @Ty.fd24_0 ∧
  type_of% @Ty.fa24_0 ∧
  type_of% @Ty.fd24_1 ∧
  type_of% @Ty.fa24_1 ∧
  type_of% @Ty.fd24_2 ∧
  type_of% @Ty.fa24_2 ∧
  type_of% @Ty.fd24_3 ∧
  type_of% @Ty.fa24_3 ∧
  type_of% @Ty.fd24_4 ∧
  type_of% @Ty.fa24_4 ∧
  type_of% @Ty.pl24 ∧
  type_of% @Ty.sz25 ∧
  type_of% @Ty.ag25 ∧
  type_of% @Ty.zr25 ∧
  type_of% @Ty.ap25 ∧
  type_of% @Ty.un25 ∧
  type_of% @Ty.sz30 ∧
  type_of% @Ty.ag30 ∧
  type_of% @Ty.nf30 ∧
  type_of% @Ty.zr30 ∧
  type_of% @Ty.ap30 ∧
  type_of% @Ty.un30 ∧
  type_of% @Ty.sz37 ∧
  type_of% @Ty.ag37 ∧
  type_of% @Ty.zr37 ∧
  type_of% @Ty.ap37 ∧
  type_of% @Ty.un37 ∧
  type_of% @Ty.sz39 ∧
  type_of% @Ty.ag39 ∧
  type_of% @Ty.zr39 ∧
  type_of% @Ty.ap39 ∧
  type_of% @Ty.un39 ∧
  type_of% @Ty.sz44 ∧
  type_of% @Ty.ag44 ∧
  type_of% @Ty.zr44 ∧
  type_of% @Ty.ap44 ∧
  type_of% @Ty.un44 ∧
  type_of% @Ty.sz50 ∧
  type_of% @Ty.ag50 ∧
  type_of% @Ty.zr50 ∧
  type_of% @Ty.ap50 ∧
  type_of% @Ty.un50 ∧
  type_of% @Ty.sz52 ∧
  type_of% @Ty.ag52 ∧
  type_of% @Ty.nf52 ∧
  type_of% @Ty.ft52 ∧
  type_of% @Ty.zr52 ∧
  type_of% @Ty.ap52 ∧
  type_of% @Ty.fd52_0 ∧
  type_of% @Ty.fa52_0 ∧
  type_of% @Ty.fd52_1 ∧
  type_of% @Ty.fa52_1 ∧
  type_of% @Ty.fd52_2 ∧
  type_of% @Ty.fa52_2 ∧
  type_of% @Ty.fd52_3 ∧
  type_of% @Ty.fa52_3 ∧
  type_of% @Ty.fd52_4 ∧
  type_of% @Ty.fa52_4 ∧
  type_of% @Ty.pl52 ∧
  type_of% @Ty.sz54 ∧
  type_of% @Ty.ag54 ∧
  type_of% @Ty.zr54 ∧
  type_of% @Ty.ap54 ∧
  type_of% @Ty.un54 ∧
  type_of% @Ty.sz55 ∧
  type_of% @Ty.ag55 ∧
  type_of% @Ty.zr55 ∧
  type_of% @Ty.ap55 ∧
  type_of% @Ty.un55 ∧
  type_of% @Ty.sz57 ∧
  type_of% @Ty.ag57 ∧
  type_of% @Ty.nf57 ∧
  type_of% @Ty.zr57 ∧
  type_of% @Ty.ap57 ∧
  type_of% @Ty.fd57_0 ∧
  type_of% @Ty.fa57_0 ∧
  type_of% @Ty.fd57_1 ∧
  type_of% @Ty.fa57_1 ∧
  type_of% @Ty.fd57_2 ∧
  type_of% @Ty.fa57_2 ∧
  type_of% @Ty.fd57_3 ∧
  type_of% @Ty.fa57_3 ∧
  type_of% @Ty.fd57_4 ∧
  type_of% @Ty.fa57_4 ∧
  type_of% @Ty.fd57_5 ∧
  type_of% @Ty.fa57_5 ∧
  type_of% @Ty.fd57_6 ∧
  type_of% @Ty.fa57_6 ∧
  type_of% @Ty.pl57 ∧
  type_of% @Ty.sz58 ∧
  type_of% @Ty.ag58 ∧
  type_of% @Ty.zr58 ∧
  type_of% @Ty.ap58 ∧
  type_of% @Ty.un58 ∧
  type_of% @Ty.sz60 ∧
  type_of% @Ty.ag60 ∧
  type_of% @Ty.nf60 ∧
  type_of% @Ty.zr60 ∧
  type_of% @Ty.ap60 ∧
  type_of% @Ty.fd60_0 ∧
  type_of% @Ty.fa60_0 ∧
  type_of% @Ty.fd60_1 ∧
  type_of% @Ty.fa60_1 ∧
  type_of% @Ty.fd60_2 ∧
  type_of% @Ty.fa60_2 ∧
  type_of% @Ty.fd60_3 ∧
  type_of% @Ty.fa60_3 ∧
  type_of% @Ty.fd60_4 ∧
  type_of% @Ty.fa60_4 ∧
  type_of% @Ty.fd60_5 ∧
  type_of% @Ty.fa60_5 ∧
  type_of% @Ty.fd60_6 ∧
  type_of% @Ty.fa60_6 ∧
  type_of% @Ty.pl60 ∧
  type_of% @Ty.sz62 ∧
  type_of% @Ty.ag62 ∧
  type_of% @Ty.nf62 ∧
  type_of% @Ty.ft62 ∧
  type_of% @Ty.zr62 ∧
  type_of% @Ty.ap62 ∧
  type_of% @Ty.fd62_0 ∧
  type_of% @Ty.fa62_0 ∧
  type_of% @Ty.fd62_1 ∧
  type_of% @Ty.fa62_1 ∧
  type_of% @Ty.fd62_2 ∧
  type_of% @Ty.fa62_2 ∧
  type_of% @Ty.pl62 ∧
  type_of% @Ty.sz66 ∧
  type_of% @Ty.ag66 ∧
  type_of% @Ty.nf66 ∧
  type_of% @Ty.ft66 ∧
  type_of% @Ty.zr66 ∧
  type_of% @Ty.ap66 ∧
  type_of% @Ty.fd66_0 ∧
  type_of% @Ty.fa66_0 ∧
  type_of% @Ty.fd66_1 ∧
  type_of% @Ty.fa66_1 ∧
  type_of% @Ty.pl66 ∧
  type_of% @Ty.sz68 ∧
  type_of% @Ty.ag68 ∧
  type_of% @Ty.nf68 ∧
  type_of% @Ty.ft68 ∧
  type_of% @Ty.zr68 ∧
  type_of% @Ty.ap68 ∧
  type_of% @Ty.fd68_0 ∧
  type_of% @Ty.fa68_0 ∧
  type_of% @Ty.fd68_1 ∧
  type_of% @Ty.fa68_1 ∧
  type_of% @Ty.pl68 ∧
  type_of% @Ty.sz82 ∧
  type_of% @Ty.ag82 ∧
  type_of% @Ty.zr82 ∧
  type_of% @Ty.ap82 ∧
  type_of% @Ty.un82 ∧
  type_of% @Ty.mt82 ∧
  type_of% @Ty.sz91 ∧
  type_of% @Ty.ag91 ∧
  type_of% @Ty.nf91 ∧
  type_of% @Ty.zr91 ∧
  type_of% @Ty.ap91 ∧
  type_of% @Ty.fd91_0 ∧
  type_of% @Ty.fa91_0 ∧
  type_of% @Ty.fd91_1 ∧
  type_of% @Ty.fa91_1 ∧
  type_of% @Ty.fd91_2 ∧
  type_of% @Ty.fa91_2 ∧
  type_of% @Ty.fd91_3 ∧
  type_of% @Ty.fa91_3 ∧
  type_of% @Ty.pl91 ∧
  type_of% @Ty.sz115 ∧
  type_of% @Ty.ag115 ∧
  type_of% @Ty.nf115 ∧
  type_of% @Ty.zr115 ∧
  type_of% @Ty.ap115 ∧
  type_of% @Ty.un115 ∧
  type_of% @Ty.sz118 ∧
  type_of% @Ty.ag118 ∧
  type_of% @Ty.pt118 ∧
  type_of% @Ty.zr118 ∧
  type_of% @Ty.ap118 ∧
  type_of% @Ty.sz119 ∧
  type_of% @Ty.ag119 ∧
  type_of% @Ty.zr119 ∧
  type_of% @Ty.ap119 ∧
  type_of% @Ty.un119 ∧
  type_of% @Ty.sz121 ∧
  type_of% @Ty.ag121 ∧
  type_of% @Ty.nf121 ∧
  type_of% @Ty.zr121 ∧
  type_of% @Ty.ap121 ∧
  type_of% @Ty.fd121_0 ∧
  type_of% @Ty.fa121_0 ∧
  type_of% @Ty.fd121_1 ∧
  type_of% @Ty.fa121_1 ∧
  type_of% @Ty.pl121 ∧
  type_of% @Ty.sz132 ∧
  type_of% @Ty.ag132 ∧
  type_of% @Ty.pt132 ∧
  type_of% @Ty.zr132 ∧
  type_of% @Ty.ap132 ∧
  type_of% @Ty.sz134 ∧
  type_of% @Ty.ag134 ∧
  type_of% @Ty.nf134 ∧
  type_of% @Ty.zr134 ∧
  type_of% @Ty.ap134 ∧
  type_of% @Ty.fd134_0 ∧
  type_of% @Ty.fa134_0 ∧
  type_of% @Ty.fd134_1 ∧
  type_of% @Ty.fa134_1 ∧
  type_of% @Ty.fd134_2 ∧
  type_of% @Ty.fa134_2 ∧
  type_of% @Ty.pl134 ∧
  type_of% @Ty.sz141 ∧
  type_of% @Ty.ag141 ∧
  type_of% @Ty.nf141 ∧
  type_of% @Ty.ft141 ∧
  type_of% @Ty.zr141 ∧
  type_of% @Ty.ap141 ∧
  type_of% @Ty.fd141_0 ∧
  type_of% @Ty.fa141_0 ∧
  type_of% @Ty.fd141_1 ∧
  type_of% @Ty.fa141_1 ∧
  type_of% @Ty.fd141_2 ∧
  type_of% @Ty.fa141_2 ∧
  type_of% @Ty.pl141 ∧
  type_of% @Ty.sz148 ∧
  type_of% @Ty.ag148 ∧
  type_of% @Ty.nf148 ∧
  type_of% @Ty.zr148 ∧
  type_of% @Ty.ap148 ∧
  type_of% @Ty.un148 ∧
  type_of% @Ty.sz157 ∧
  type_of% @Ty.ag157 ∧
  type_of% @Ty.nf157 ∧
  type_of% @Ty.zr157 ∧
  type_of% @Ty.ap157 ∧
  type_of% @Ty.un157 ∧
  type_of% @Ty.sz164 ∧
  type_of% @Ty.ag164 ∧
  type_of% @Ty.nf164 ∧
  type_of% @Ty.ft164 ∧
  type_of% @Ty.zr164 ∧
  type_of% @Ty.ap164 ∧
  type_of% @Ty.fd164_0 ∧
  type_of% @Ty.fa164_0 ∧
  type_of% @Ty.pl164 ∧
  type_of% @Ty.sz176 ∧
  type_of% @Ty.ag176 ∧
  type_of% @Ty.nf176 ∧
  type_of% @Ty.zr176 ∧
  type_of% @Ty.ap176 ∧
  type_of% @Ty.un176 ∧
  type_of% @Ty.sz180 ∧
  type_of% @Ty.ag180 ∧
  type_of% @Ty.pt180 ∧
  type_of% @Ty.zr180 ∧
  type_of% @Ty.ap180 :=
  ⟨@Ty.sz3, @Ty.ag3, @Ty.nf3, @Ty.zr3, @Ty.ap3, @Ty.un3, @Ty.sz4, @Ty.ag4, @Ty.zr4, @Ty.ap4, @Ty.un4, @Ty.sz5, @Ty.ag5, @Ty.nf5, @Ty.zr5, @Ty.ap5, @Ty.un5, @Ty.sz9, @Ty.ag9, @Ty.zr9, @Ty.ap9, @Ty.un9, @Ty.sz20, @Ty.ag20, @Ty.if20, @Ty.zr20, @Ty.ap20, @Ty.sz21, @Ty.ag21, @Ty.nf21, @Ty.zr21, @Ty.ap21, @Ty.un21, @Ty.sz22, @Ty.ag22, @Ty.zr22, @Ty.ap22, @Ty.un22, @Ty.sz24, @Ty.ag24, @Ty.nf24, @Ty.ft24, @Ty.zr24, @Ty.ap24, @Ty.fd24_0, @Ty.fa24_0, @Ty.fd24_1, @Ty.fa24_1, @Ty.fd24_2, @Ty.fa24_2, @Ty.fd24_3, @Ty.fa24_3, @Ty.fd24_4, @Ty.fa24_4, @Ty.pl24, @Ty.sz25, @Ty.ag25, @Ty.zr25, @Ty.ap25, @Ty.un25, @Ty.sz30, @Ty.ag30, @Ty.nf30, @Ty.zr30, @Ty.ap30, @Ty.un30, @Ty.sz37, @Ty.ag37, @Ty.zr37, @Ty.ap37, @Ty.un37, @Ty.sz39, @Ty.ag39, @Ty.zr39, @Ty.ap39, @Ty.un39, @Ty.sz44, @Ty.ag44, @Ty.zr44, @Ty.ap44, @Ty.un44, @Ty.sz50, @Ty.ag50, @Ty.zr50, @Ty.ap50, @Ty.un50, @Ty.sz52, @Ty.ag52, @Ty.nf52, @Ty.ft52, @Ty.zr52, @Ty.ap52, @Ty.fd52_0, @Ty.fa52_0, @Ty.fd52_1, @Ty.fa52_1, @Ty.fd52_2, @Ty.fa52_2, @Ty.fd52_3, @Ty.fa52_3, @Ty.fd52_4, @Ty.fa52_4, @Ty.pl52, @Ty.sz54, @Ty.ag54, @Ty.zr54, @Ty.ap54, @Ty.un54, @Ty.sz55, @Ty.ag55, @Ty.zr55, @Ty.ap55, @Ty.un55, @Ty.sz57, @Ty.ag57, @Ty.nf57, @Ty.zr57, @Ty.ap57, @Ty.fd57_0, @Ty.fa57_0, @Ty.fd57_1, @Ty.fa57_1, @Ty.fd57_2, @Ty.fa57_2, @Ty.fd57_3, @Ty.fa57_3, @Ty.fd57_4, @Ty.fa57_4, @Ty.fd57_5, @Ty.fa57_5, @Ty.fd57_6, @Ty.fa57_6, @Ty.pl57, @Ty.sz58, @Ty.ag58, @Ty.zr58, @Ty.ap58, @Ty.un58, @Ty.sz60, @Ty.ag60, @Ty.nf60, @Ty.zr60, @Ty.ap60, @Ty.fd60_0, @Ty.fa60_0, @Ty.fd60_1, @Ty.fa60_1, @Ty.fd60_2, @Ty.fa60_2, @Ty.fd60_3, @Ty.fa60_3, @Ty.fd60_4, @Ty.fa60_4, @Ty.fd60_5, @Ty.fa60_5, @Ty.fd60_6, @Ty.fa60_6, @Ty.pl60, @Ty.sz62, @Ty.ag62, @Ty.nf62, @Ty.ft62, @Ty.zr62, @Ty.ap62, @Ty.fd62_0, @Ty.fa62_0, @Ty.fd62_1, @Ty.fa62_1, @Ty.fd62_2, @Ty.fa62_2, @Ty.pl62, @Ty.sz66, @Ty.ag66, @Ty.nf66, @Ty.ft66, @Ty.zr66, @Ty.ap66, @Ty.fd66_0, @Ty.fa66_0, @Ty.fd66_1, @Ty.fa66_1, @Ty.pl66, @Ty.sz68, @Ty.ag68, @Ty.nf68, @Ty.ft68, @Ty.zr68, @Ty.ap68, @Ty.fd68_0, @Ty.fa68_0, @Ty.fd68_1, @Ty.fa68_1, @Ty.pl68, @Ty.sz82, @Ty.ag82, @Ty.zr82, @Ty.ap82, @Ty.un82, @Ty.mt82, @Ty.sz91, @Ty.ag91, @Ty.nf91, @Ty.zr91, @Ty.ap91, @Ty.fd91_0, @Ty.fa91_0, @Ty.fd91_1, @Ty.fa91_1, @Ty.fd91_2, @Ty.fa91_2, @Ty.fd91_3, @Ty.fa91_3, @Ty.pl91, @Ty.sz115, @Ty.ag115, @Ty.nf115, @Ty.zr115, @Ty.ap115, @Ty.un115, @Ty.sz118, @Ty.ag118, @Ty.pt118, @Ty.zr118, @Ty.ap118, @Ty.sz119, @Ty.ag119, @Ty.zr119, @Ty.ap119, @Ty.un119, @Ty.sz121, @Ty.ag121, @Ty.nf121, @Ty.zr121, @Ty.ap121, @Ty.fd121_0, @Ty.fa121_0, @Ty.fd121_1, @Ty.fa121_1, @Ty.pl121, @Ty.sz132, @Ty.ag132, @Ty.pt132, @Ty.zr132, @Ty.ap132, @Ty.sz134, @Ty.ag134, @Ty.nf134, @Ty.zr134, @Ty.ap134, @Ty.fd134_0, @Ty.fa134_0, @Ty.fd134_1, @Ty.fa134_1, @Ty.fd134_2, @Ty.fa134_2, @Ty.pl134, @Ty.sz141, @Ty.ag141, @Ty.nf141, @Ty.ft141, @Ty.zr141, @Ty.ap141, @Ty.fd141_0, @Ty.fa141_0, @Ty.fd141_1, @Ty.fa141_1, @Ty.fd141_2, @Ty.fa141_2, @Ty.pl141, @Ty.sz148, @Ty.ag148, @Ty.nf148, @Ty.zr148, @Ty.ap148, @Ty.un148, @Ty.sz157, @Ty.ag157, @Ty.nf157, @Ty.zr157, @Ty.ap157, @Ty.un157, @Ty.sz164, @Ty.ag164, @Ty.nf164, @Ty.ft164, @Ty.zr164, @Ty.ap164, @Ty.fd164_0, @Ty.fa164_0, @Ty.pl164, @Ty.sz176, @Ty.ag176, @Ty.nf176, @Ty.zr176, @Ty.ap176, @Ty.un176, @Ty.sz180, @Ty.ag180, @Ty.pt180, @Ty.zr180, @Ty.ap180⟩

end Go.Ab
