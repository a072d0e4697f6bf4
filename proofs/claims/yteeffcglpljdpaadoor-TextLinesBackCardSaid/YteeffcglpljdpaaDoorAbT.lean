/-
  The types of this seat's program, as equations. Written by tools/types.py.
-/
import Derived.Test.YteeffcglpljdpaaDoorChecked
import Derived.Test.YteeffcglpljdpaaDoorAbG
set_option linter.unusedSimpArgs false
set_option linter.unusedVariables false
namespace Go.Ab
open Go.RowKit Go.Proofs
section
variable {tab : Tab} {x : AV} {h : Hp}
theorem Ty.sz2 : (ctx Tryd.prog Gt tab).size 2 = some 1 := rfl
theorem Ty.ag2 : (ctx Tryd.prog Gt tab).isAgg 2 = some false := rfl
theorem Ty.zr2 : (ctx Tryd.prog Gt tab).zero 2 = some (.v (.c (.d (.int .i64 0)))) := rfl
theorem Ty.ap2 : (ctx Tryd.prog Gt tab).apz 2 = some (1, 8) := rfl
theorem Ty.un2 : Tryd.prog.underlying 2 = some (Go.TypeDesc.int Go.IntKind.i64) := rfl
theorem Ty.sz3 : (ctx Tryd.prog Gt tab).size 3 = some 1 := rfl
theorem Ty.ag3 : (ctx Tryd.prog Gt tab).isAgg 3 = some false := rfl
theorem Ty.zr3 : (ctx Tryd.prog Gt tab).zero 3 = some (.v (.c (.d (.int .i64 0)))) := rfl
theorem Ty.ap3 : (ctx Tryd.prog Gt tab).apz 3 = some (1, 8) := rfl
theorem Ty.un3 : Tryd.prog.underlying 3 = some (Go.TypeDesc.int Go.IntKind.i64) := rfl
theorem Ty.sz4 : (ctx Tryd.prog Gt tab).size 4 = some 1 := rfl
theorem Ty.ag4 : (ctx Tryd.prog Gt tab).isAgg 4 = some false := rfl
theorem Ty.zr4 : (ctx Tryd.prog Gt tab).zero 4 = some (.v (.c (.d (.bool false)))) := rfl
theorem Ty.ap4 : (ctx Tryd.prog Gt tab).apz 4 = some (1, 1) := rfl
theorem Ty.un4 : Tryd.prog.underlying 4 = some Go.TypeDesc.bool := rfl
theorem Ty.sz5 : (ctx Tryd.prog Gt tab).size 5 = some 1 := rfl
theorem Ty.ag5 : (ctx Tryd.prog Gt tab).isAgg 5 = some false := rfl
theorem Ty.zr5 : (ctx Tryd.prog Gt tab).zero 5 = some (.v (.c (.d (.int .u8 0)))) := rfl
theorem Ty.ap5 : (ctx Tryd.prog Gt tab).apz 5 = some (1, 1) := rfl
theorem Ty.un5 : Tryd.prog.underlying 5 = some (Go.TypeDesc.int Go.IntKind.u8) := rfl
theorem Ty.sz9 : (ctx Tryd.prog Gt tab).size 9 = some 1 := rfl
theorem Ty.ag9 : (ctx Tryd.prog Gt tab).isAgg 9 = some false := rfl
theorem Ty.zr9 : (ctx Tryd.prog Gt tab).zero 9 = some (.v (.c (.d (.str [])))) := rfl
theorem Ty.ap9 : (ctx Tryd.prog Gt tab).apz 9 = some (1, 16) := rfl
theorem Ty.un9 : Tryd.prog.underlying 9 = some Go.TypeDesc.string := rfl
theorem Ty.sz12 : (ctx Tryd.prog Gt tab).size 12 = some 1 := rfl
theorem Ty.ag12 : (ctx Tryd.prog Gt tab).isAgg 12 = some false := rfl
theorem Ty.zr12 : (ctx Tryd.prog Gt tab).zero 12 = some (.v (.c (.d (.int .u64 0)))) := rfl
theorem Ty.ap12 : (ctx Tryd.prog Gt tab).apz 12 = some (1, 8) := rfl
theorem Ty.un12 : Tryd.prog.underlying 12 = some (Go.TypeDesc.int Go.IntKind.u64) := rfl
theorem Ty.sz13 : (ctx Tryd.prog Gt tab).size 13 = some 2 := rfl
theorem Ty.ag13 : (ctx Tryd.prog Gt tab).isAgg 13 = some true := rfl
theorem Ty.zr13 : (ctx Tryd.prog Gt tab).zero 13 = some (.v (.agg [.d (.str []), .d (.int .u64 0)])) := rfl
theorem Ty.ap13 : (ctx Tryd.prog Gt tab).apz 13 = some (2, 24) := rfl
theorem Ty.fd13_0 : fld (ctx Tryd.prog Gt tab) (Tryd.prog.underlying 13) x 0 h = fldV (ctx Tryd.prog Gt tab) 9 0 x h := rfl
theorem Ty.fa13_0 : fldA (ctx Tryd.prog Gt tab) (Tryd.prog.underlying 13) x 0 h = fldP 0 1 x h := rfl
theorem Ty.fd13_1 : fld (ctx Tryd.prog Gt tab) (Tryd.prog.underlying 13) x 1 h = fldV (ctx Tryd.prog Gt tab) 12 1 x h := rfl
theorem Ty.fa13_1 : fldA (ctx Tryd.prog Gt tab) (Tryd.prog.underlying 13) x 1 h = fldP 1 1 x h := rfl
theorem Ty.pl13 : (ctx Tryd.prog Gt tab).place 13 = some fun i => [(0, 1), (1, 1)][i]? := rfl
theorem Ty.sz20 : (ctx Tryd.prog Gt tab).size 20 = some 1 := rfl
theorem Ty.ag20 : (ctx Tryd.prog Gt tab).isAgg 20 = some false := rfl
theorem Ty.zr20 : (ctx Tryd.prog Gt tab).zero 20 = some (.v (.c .nili)) := rfl
theorem Ty.ap20 : (ctx Tryd.prog Gt tab).apz 20 = some (1, 16) := rfl
theorem Ty.sz21 : (ctx Tryd.prog Gt tab).size 21 = some 1 := rfl
theorem Ty.ag21 : (ctx Tryd.prog Gt tab).isAgg 21 = some false := rfl
theorem Ty.zr21 : (ctx Tryd.prog Gt tab).zero 21 = some (.v (.c (.d (.int .i32 0)))) := rfl
theorem Ty.ap21 : (ctx Tryd.prog Gt tab).apz 21 = some (1, 4) := rfl
theorem Ty.un21 : Tryd.prog.underlying 21 = some (Go.TypeDesc.int Go.IntKind.i32) := rfl
theorem Ty.sz24 : (ctx Tryd.prog Gt tab).size 24 = some 1 := rfl
theorem Ty.ag24 : (ctx Tryd.prog Gt tab).isAgg 24 = some false := rfl
theorem Ty.zr24 : (ctx Tryd.prog Gt tab).zero 24 = some (.v (.c (.d (.sl true [])))) := rfl
theorem Ty.ap24 : (ctx Tryd.prog Gt tab).apz 24 = some (1, 24) := rfl
theorem Ty.un24 : Tryd.prog.underlying 24 = some (Go.TypeDesc.slice 9) := rfl
theorem Ty.sz25 : (ctx Tryd.prog Gt tab).size 25 = some 1 := rfl
theorem Ty.ag25 : (ctx Tryd.prog Gt tab).isAgg 25 = some false := rfl
theorem Ty.zr25 : (ctx Tryd.prog Gt tab).zero 25 = some (.v (.c (.d (.int .i64 0)))) := rfl
theorem Ty.ap25 : (ctx Tryd.prog Gt tab).apz 25 = some (1, 8) := rfl
theorem Ty.un25 : Tryd.prog.underlying 25 = some (Go.TypeDesc.int Go.IntKind.i64) := rfl
theorem Ty.sz47 : (ctx Tryd.prog Gt tab).size 47 = some 1 := rfl
theorem Ty.ag47 : (ctx Tryd.prog Gt tab).isAgg 47 = some false := rfl
theorem Ty.zr47 : (ctx Tryd.prog Gt tab).zero 47 = some (.v (.c (.d (.sl true [])))) := rfl
theorem Ty.ap47 : (ctx Tryd.prog Gt tab).apz 47 = some (1, 24) := rfl
theorem Ty.un47 : Tryd.prog.underlying 47 = some (Go.TypeDesc.slice 5) := rfl
theorem Ty.sz53 : (ctx Tryd.prog Gt tab).size 53 = some 1 := rfl
theorem Ty.ag53 : (ctx Tryd.prog Gt tab).isAgg 53 = some false := rfl
theorem Ty.zr53 : (ctx Tryd.prog Gt tab).zero 53 = some (.v (.c .nilp)) := rfl
theorem Ty.ap53 : (ctx Tryd.prog Gt tab).apz 53 = some (1, 8) := rfl
theorem Ty.sz54 : (ctx Tryd.prog Gt tab).size 54 = some 2 := rfl
theorem Ty.ag54 : (ctx Tryd.prog Gt tab).isAgg 54 = some true := rfl
theorem Ty.zr54 : (ctx Tryd.prog Gt tab).zero 54 = some (.v (.agg [.nilp, .d (.sl true [])])) := rfl
theorem Ty.ap54 : (ctx Tryd.prog Gt tab).apz 54 = some (2, 32) := rfl
theorem Ty.fd54_0 : fld (ctx Tryd.prog Gt tab) (Tryd.prog.underlying 54) x 0 h = fldV (ctx Tryd.prog Gt tab) 53 0 x h := rfl
theorem Ty.fa54_0 : fldA (ctx Tryd.prog Gt tab) (Tryd.prog.underlying 54) x 0 h = fldP 0 1 x h := rfl
theorem Ty.fd54_1 : fld (ctx Tryd.prog Gt tab) (Tryd.prog.underlying 54) x 1 h = fldV (ctx Tryd.prog Gt tab) 47 1 x h := rfl
theorem Ty.fa54_1 : fldA (ctx Tryd.prog Gt tab) (Tryd.prog.underlying 54) x 1 h = fldP 1 1 x h := rfl
theorem Ty.pl54 : (ctx Tryd.prog Gt tab).place 54 = some fun i => [(0, 1), (1, 1)][i]? := rfl
theorem Ty.sz55 : (ctx Tryd.prog Gt tab).size 55 = some 2 := rfl
theorem Ty.ag55 : (ctx Tryd.prog Gt tab).isAgg 55 = some true := rfl
theorem Ty.zr55 : (ctx Tryd.prog Gt tab).zero 55 = some (.v (.agg [.nilp, .d (.sl true [])])) := rfl
theorem Ty.ap55 : (ctx Tryd.prog Gt tab).apz 55 = some (2, 32) := rfl
theorem Ty.fd55_0 : fld (ctx Tryd.prog Gt tab) (Tryd.prog.underlying 55) x 0 h = fldV (ctx Tryd.prog Gt tab) 53 0 x h := rfl
theorem Ty.fa55_0 : fldA (ctx Tryd.prog Gt tab) (Tryd.prog.underlying 55) x 0 h = fldP 0 1 x h := rfl
theorem Ty.fd55_1 : fld (ctx Tryd.prog Gt tab) (Tryd.prog.underlying 55) x 1 h = fldV (ctx Tryd.prog Gt tab) 47 1 x h := rfl
theorem Ty.fa55_1 : fldA (ctx Tryd.prog Gt tab) (Tryd.prog.underlying 55) x 1 h = fldP 1 1 x h := rfl
theorem Ty.pl55 : (ctx Tryd.prog Gt tab).place 55 = some fun i => [(0, 1), (1, 1)][i]? := rfl
theorem Ty.sz57 : (ctx Tryd.prog Gt tab).size 57 = some 1 := rfl
theorem Ty.ag57 : (ctx Tryd.prog Gt tab).isAgg 57 = some false := rfl
theorem Ty.zr57 : (ctx Tryd.prog Gt tab).zero 57 = some (.v (.c .nili)) := rfl
theorem Ty.ap57 : (ctx Tryd.prog Gt tab).apz 57 = some (1, 16) := rfl
theorem Ty.sz58 : (ctx Tryd.prog Gt tab).size 58 = some 1 := rfl
theorem Ty.ag58 : (ctx Tryd.prog Gt tab).isAgg 58 = some false := rfl
theorem Ty.zr58 : (ctx Tryd.prog Gt tab).zero 58 = some (.v (.c .nili)) := rfl
theorem Ty.ap58 : (ctx Tryd.prog Gt tab).apz 58 = some (1, 16) := rfl
theorem Ty.sz66 : (ctx Tryd.prog Gt tab).size 66 = some 1 := rfl
theorem Ty.ag66 : (ctx Tryd.prog Gt tab).isAgg 66 = some false := rfl
theorem Ty.zr66 : (ctx Tryd.prog Gt tab).zero 66 = some (.v (.c .nilp)) := rfl
theorem Ty.ap66 : (ctx Tryd.prog Gt tab).apz 66 = some (1, 8) := rfl
theorem Ty.sz70 : (ctx Tryd.prog Gt tab).size 70 = some 24 := rfl
theorem Ty.ag70 : (ctx Tryd.prog Gt tab).isAgg 70 = some true := rfl
theorem Ty.zr70 : (ctx Tryd.prog Gt tab).zero 70 = some (.v (.agg [.d (.int .u8 0), .d (.int .u8 0), .d (.int .u8 0), .d (.int .u8 0), .d (.int .u8 0), .d (.int .u8 0), .d (.int .u8 0), .d (.int .u8 0), .d (.int .u8 0), .d (.int .u8 0), .d (.int .u8 0), .d (.int .u8 0), .d (.int .u8 0), .d (.int .u8 0), .d (.int .u8 0), .d (.int .u8 0), .d (.int .u8 0), .d (.int .u8 0), .d (.int .u8 0), .d (.int .u8 0), .d (.int .u8 0), .d (.int .u8 0), .d (.int .u8 0), .d (.int .u8 0)])) := rfl
theorem Ty.ap70 : (ctx Tryd.prog Gt tab).apz 70 = some (24, 24) := rfl
theorem Ty.pl70 : (ctx Tryd.prog Gt tab).place 70 = some fun i => some (i * 1, 1) := rfl
theorem Ty.un70 : Tryd.prog.underlying 70 = some (Go.TypeDesc.array 24 5) := rfl
theorem Ty.sz71 : (ctx Tryd.prog Gt tab).size 71 = some 1 := rfl
theorem Ty.ag71 : (ctx Tryd.prog Gt tab).isAgg 71 = some false := rfl
theorem Ty.zr71 : (ctx Tryd.prog Gt tab).zero 71 = some (.v (.c (.d (.int .u64 0)))) := rfl
theorem Ty.ap71 : (ctx Tryd.prog Gt tab).apz 71 = some (1, 8) := rfl
theorem Ty.un71 : Tryd.prog.underlying 71 = some (Go.TypeDesc.int Go.IntKind.u64) := rfl
theorem Ty.sz80 : (ctx Tryd.prog Gt tab).size 80 = some 1 := rfl
theorem Ty.ag80 : (ctx Tryd.prog Gt tab).isAgg 80 = some false := rfl
theorem Ty.zr80 : (ctx Tryd.prog Gt tab).zero 80 = some (.v (.c (.d (.int .u64 0)))) := rfl
theorem Ty.ap80 : (ctx Tryd.prog Gt tab).apz 80 = some (1, 8) := rfl
theorem Ty.un80 : Tryd.prog.underlying 80 = some (Go.TypeDesc.int Go.IntKind.u64) := rfl
theorem Ty.sz82 : (ctx Tryd.prog Gt tab).size 82 = some 20 := rfl
theorem Ty.ag82 : (ctx Tryd.prog Gt tab).isAgg 82 = some true := rfl
theorem Ty.zr82 : (ctx Tryd.prog Gt tab).zero 82 = some (.v (.agg [.d (.int .u64 0), .d (.int .u64 0), .d (.int .u64 0), .d (.int .u64 0), .d (.int .u64 0), .d (.int .u64 0), .d (.int .u64 0), .d (.int .u64 0), .d (.int .u64 0), .d (.int .u64 0), .d (.int .u64 0), .d (.int .u64 0), .d (.int .u64 0), .d (.int .u64 0), .d (.int .u64 0), .d (.int .u64 0), .d (.int .u64 0), .d (.int .u64 0), .d (.int .u64 0), .d (.int .u64 0)])) := rfl
theorem Ty.ap82 : (ctx Tryd.prog Gt tab).apz 82 = some (20, 160) := rfl
theorem Ty.pl82 : (ctx Tryd.prog Gt tab).place 82 = some fun i => some (i * 1, 1) := rfl
theorem Ty.un82 : Tryd.prog.underlying 82 = some (Go.TypeDesc.array 20 71) := rfl
theorem Ty.sz83 : (ctx Tryd.prog Gt tab).size 83 = some 1 := rfl
theorem Ty.ag83 : (ctx Tryd.prog Gt tab).isAgg 83 = some false := rfl
theorem Ty.zr83 : (ctx Tryd.prog Gt tab).zero 83 = some (.v (.c (.d (.int .u32 0)))) := rfl
theorem Ty.ap83 : (ctx Tryd.prog Gt tab).apz 83 = some (1, 4) := rfl
theorem Ty.un83 : Tryd.prog.underlying 83 = some (Go.TypeDesc.int Go.IntKind.u32) := rfl
theorem Ty.sz84 : (ctx Tryd.prog Gt tab).size 84 = some 65 := rfl
theorem Ty.ag84 : (ctx Tryd.prog Gt tab).isAgg 84 = some true := rfl
theorem Ty.pl84 : (ctx Tryd.prog Gt tab).place 84 = some fun i => some (i * 1, 1) := rfl
theorem Ty.un84 : Tryd.prog.underlying 84 = some (Go.TypeDesc.array 65 5) := rfl
theorem Ty.sz87 : (ctx Tryd.prog Gt tab).size 87 = some 256 := rfl
theorem Ty.ag87 : (ctx Tryd.prog Gt tab).isAgg 87 = some true := rfl
theorem Ty.pl87 : (ctx Tryd.prog Gt tab).place 87 = some fun i => some (i * 1, 1) := rfl
theorem Ty.un87 : Tryd.prog.underlying 87 = some (Go.TypeDesc.array 256 5) := rfl
theorem Ty.sz88 : (ctx Tryd.prog Gt tab).size 88 = some 2 := rfl
theorem Ty.ag88 : (ctx Tryd.prog Gt tab).isAgg 88 = some true := rfl
theorem Ty.zr88 : (ctx Tryd.prog Gt tab).zero 88 = some (.v (.agg [.d (.int .u8 0), .d (.int .u8 0)])) := rfl
theorem Ty.ap88 : (ctx Tryd.prog Gt tab).apz 88 = some (2, 2) := rfl
theorem Ty.fd88_0 : fld (ctx Tryd.prog Gt tab) (Tryd.prog.underlying 88) x 0 h = fldV (ctx Tryd.prog Gt tab) 5 0 x h := rfl
theorem Ty.fa88_0 : fldA (ctx Tryd.prog Gt tab) (Tryd.prog.underlying 88) x 0 h = fldP 0 1 x h := rfl
theorem Ty.fd88_1 : fld (ctx Tryd.prog Gt tab) (Tryd.prog.underlying 88) x 1 h = fldV (ctx Tryd.prog Gt tab) 5 1 x h := rfl
theorem Ty.fa88_1 : fldA (ctx Tryd.prog Gt tab) (Tryd.prog.underlying 88) x 1 h = fldP 1 1 x h := rfl
theorem Ty.pl88 : (ctx Tryd.prog Gt tab).place 88 = some fun i => [(0, 1), (1, 1)][i]? := rfl
theorem Ty.sz89 : (ctx Tryd.prog Gt tab).size 89 = some 2 := rfl
theorem Ty.ag89 : (ctx Tryd.prog Gt tab).isAgg 89 = some true := rfl
theorem Ty.zr89 : (ctx Tryd.prog Gt tab).zero 89 = some (.v (.agg [.d (.int .u8 0), .d (.int .u8 0)])) := rfl
theorem Ty.ap89 : (ctx Tryd.prog Gt tab).apz 89 = some (2, 2) := rfl
theorem Ty.fd89_0 : fld (ctx Tryd.prog Gt tab) (Tryd.prog.underlying 89) x 0 h = fldV (ctx Tryd.prog Gt tab) 5 0 x h := rfl
theorem Ty.fa89_0 : fldA (ctx Tryd.prog Gt tab) (Tryd.prog.underlying 89) x 0 h = fldP 0 1 x h := rfl
theorem Ty.fd89_1 : fld (ctx Tryd.prog Gt tab) (Tryd.prog.underlying 89) x 1 h = fldV (ctx Tryd.prog Gt tab) 5 1 x h := rfl
theorem Ty.fa89_1 : fldA (ctx Tryd.prog Gt tab) (Tryd.prog.underlying 89) x 1 h = fldP 1 1 x h := rfl
theorem Ty.pl89 : (ctx Tryd.prog Gt tab).place 89 = some fun i => [(0, 1), (1, 1)][i]? := rfl
theorem Ty.sz90 : (ctx Tryd.prog Gt tab).size 90 = some 32 := rfl
theorem Ty.ag90 : (ctx Tryd.prog Gt tab).isAgg 90 = some true := rfl
theorem Ty.zr90 : (ctx Tryd.prog Gt tab).zero 90 = some (.v (.agg [.d (.int .u8 0), .d (.int .u8 0), .d (.int .u8 0), .d (.int .u8 0), .d (.int .u8 0), .d (.int .u8 0), .d (.int .u8 0), .d (.int .u8 0), .d (.int .u8 0), .d (.int .u8 0), .d (.int .u8 0), .d (.int .u8 0), .d (.int .u8 0), .d (.int .u8 0), .d (.int .u8 0), .d (.int .u8 0), .d (.int .u8 0), .d (.int .u8 0), .d (.int .u8 0), .d (.int .u8 0), .d (.int .u8 0), .d (.int .u8 0), .d (.int .u8 0), .d (.int .u8 0), .d (.int .u8 0), .d (.int .u8 0), .d (.int .u8 0), .d (.int .u8 0), .d (.int .u8 0), .d (.int .u8 0), .d (.int .u8 0), .d (.int .u8 0)])) := rfl
theorem Ty.ap90 : (ctx Tryd.prog Gt tab).apz 90 = some (32, 32) := rfl
theorem Ty.pl90 : (ctx Tryd.prog Gt tab).place 90 = some fun i => some (i * 2, 2) := rfl
theorem Ty.un90 : Tryd.prog.underlying 90 = some (Go.TypeDesc.array 16 89) := rfl
theorem Ty.sz94 : (ctx Tryd.prog Gt tab).size 94 = some 32 := rfl
theorem Ty.ag94 : (ctx Tryd.prog Gt tab).isAgg 94 = some true := rfl
theorem Ty.zr94 : (ctx Tryd.prog Gt tab).zero 94 = some (.v (.agg [.d (.int .u8 0), .d (.int .u8 0), .d (.int .u8 0), .d (.int .u8 0), .d (.int .u8 0), .d (.int .u8 0), .d (.int .u8 0), .d (.int .u8 0), .d (.int .u8 0), .d (.int .u8 0), .d (.int .u8 0), .d (.int .u8 0), .d (.int .u8 0), .d (.int .u8 0), .d (.int .u8 0), .d (.int .u8 0), .d (.int .u8 0), .d (.int .u8 0), .d (.int .u8 0), .d (.int .u8 0), .d (.int .u8 0), .d (.int .u8 0), .d (.int .u8 0), .d (.int .u8 0), .d (.int .u8 0), .d (.int .u8 0), .d (.int .u8 0), .d (.int .u8 0), .d (.int .u8 0), .d (.int .u8 0), .d (.int .u8 0), .d (.int .u8 0)])) := rfl
theorem Ty.ap94 : (ctx Tryd.prog Gt tab).apz 94 = some (32, 32) := rfl
theorem Ty.pl94 : (ctx Tryd.prog Gt tab).place 94 = some fun i => some (i * 1, 1) := rfl
theorem Ty.un94 : Tryd.prog.underlying 94 = some (Go.TypeDesc.array 32 5) := rfl
theorem Ty.sz95 : (ctx Tryd.prog Gt tab).size 95 = some 64 := rfl
theorem Ty.ag95 : (ctx Tryd.prog Gt tab).isAgg 95 = some true := rfl
theorem Ty.zr95 : (ctx Tryd.prog Gt tab).zero 95 = some (.v (.agg [.d (.int .u8 0), .d (.int .u8 0), .d (.int .u8 0), .d (.int .u8 0), .d (.int .u8 0), .d (.int .u8 0), .d (.int .u8 0), .d (.int .u8 0), .d (.int .u8 0), .d (.int .u8 0), .d (.int .u8 0), .d (.int .u8 0), .d (.int .u8 0), .d (.int .u8 0), .d (.int .u8 0), .d (.int .u8 0), .d (.int .u8 0), .d (.int .u8 0), .d (.int .u8 0), .d (.int .u8 0), .d (.int .u8 0), .d (.int .u8 0), .d (.int .u8 0), .d (.int .u8 0), .d (.int .u8 0), .d (.int .u8 0), .d (.int .u8 0), .d (.int .u8 0), .d (.int .u8 0), .d (.int .u8 0), .d (.int .u8 0), .d (.int .u8 0), .d (.int .u8 0), .d (.int .u8 0), .d (.int .u8 0), .d (.int .u8 0), .d (.int .u8 0), .d (.int .u8 0), .d (.int .u8 0), .d (.int .u8 0), .d (.int .u8 0), .d (.int .u8 0), .d (.int .u8 0), .d (.int .u8 0), .d (.int .u8 0), .d (.int .u8 0), .d (.int .u8 0), .d (.int .u8 0), .d (.int .u8 0), .d (.int .u8 0), .d (.int .u8 0), .d (.int .u8 0), .d (.int .u8 0), .d (.int .u8 0), .d (.int .u8 0), .d (.int .u8 0), .d (.int .u8 0), .d (.int .u8 0), .d (.int .u8 0), .d (.int .u8 0), .d (.int .u8 0), .d (.int .u8 0), .d (.int .u8 0), .d (.int .u8 0)])) := rfl
theorem Ty.ap95 : (ctx Tryd.prog Gt tab).apz 95 = some (64, 64) := rfl
theorem Ty.pl95 : (ctx Tryd.prog Gt tab).place 95 = some fun i => some (i * 1, 1) := rfl
theorem Ty.un95 : Tryd.prog.underlying 95 = some (Go.TypeDesc.array 64 5) := rfl
end

/-- All of them, for simp. -/
theorem TY : type_of% @Ty.sz2 ∧
  type_of% @Ty.ag2 ∧
  type_of% @Ty.zr2 ∧
  type_of% @Ty.ap2 ∧
  type_of% @Ty.un2 ∧
  type_of% @Ty.sz3 ∧
  type_of% @Ty.ag3 ∧
  type_of% @Ty.zr3 ∧
  type_of% @Ty.ap3 ∧
  type_of% @Ty.un3 ∧
  type_of% @Ty.sz4 ∧
  type_of% @Ty.ag4 ∧
  type_of% @Ty.zr4 ∧
  type_of% @Ty.ap4 ∧
  type_of% @Ty.un4 ∧
  type_of% @Ty.sz5 ∧
  type_of% @Ty.ag5 ∧
  type_of% @Ty.zr5 ∧
  type_of% @Ty.ap5 ∧
  type_of% @Ty.un5 ∧
  type_of% @Ty.sz9 ∧
  type_of% @Ty.ag9 ∧
  type_of% @Ty.zr9 ∧
  type_of% @Ty.ap9 ∧
  type_of% @Ty.un9 ∧
  type_of% @Ty.sz12 ∧
  type_of% @Ty.ag12 ∧
  type_of% @Ty.zr12 ∧
  type_of% @Ty.ap12 ∧
  type_of% @Ty.un12 ∧
  type_of% @Ty.sz13 ∧
  type_of% @Ty.ag13 ∧
  type_of% @Ty.zr13 ∧
  type_of% @Ty.ap13 ∧
  type_of% @Ty.fd13_0 ∧
  type_of% @Ty.fa13_0 ∧
  type_of% @Ty.fd13_1 ∧
  type_of% @Ty.fa13_1 ∧
  type_of% @Ty.pl13 ∧
  type_of% @Ty.sz20 ∧
  type_of% @Ty.ag20 ∧
  type_of% @Ty.zr20 ∧
  type_of% @Ty.ap20 ∧
  type_of% @Ty.sz21 ∧
  type_of% @Ty.ag21 ∧
  type_of% @Ty.zr21 ∧
  type_of% @Ty.ap21 ∧
  type_of% @Ty.un21 ∧
  type_of% @Ty.sz24 ∧
  type_of% @Ty.ag24 ∧
  type_of% @Ty.zr24 ∧
  type_of% @Ty.ap24 ∧
  type_of% @Ty.un24 ∧
  type_of% @Ty.sz25 ∧
  type_of% @Ty.ag25 ∧
  type_of% @Ty.zr25 ∧
  type_of% @Ty.ap25 ∧
  type_of% @Ty.un25 ∧
  type_of% @Ty.sz47 ∧
  type_of% @Ty.ag47 ∧
  type_of% @Ty.zr47 ∧
  type_of% @Ty.ap47 ∧
  type_of% @Ty.un47 ∧
  type_of% @Ty.sz53 ∧
  type_of% @Ty.ag53 ∧
  type_of% @Ty.zr53 ∧
  type_of% @Ty.ap53 ∧
  type_of% @Ty.sz54 ∧
  type_of% @Ty.ag54 ∧
  type_of% @Ty.zr54 ∧
  type_of% @Ty.ap54 ∧
  type_of% @Ty.fd54_0 ∧
  type_of% @Ty.fa54_0 ∧
  type_of% @Ty.fd54_1 ∧
  type_of% @Ty.fa54_1 ∧
  type_of% @Ty.pl54 ∧
  type_of% @Ty.sz55 ∧
  type_of% @Ty.ag55 ∧
  type_of% @Ty.zr55 ∧
  type_of% @Ty.ap55 ∧
  type_of% @Ty.fd55_0 ∧
  type_of% @Ty.fa55_0 ∧
  type_of% @Ty.fd55_1 ∧
  type_of% @Ty.fa55_1 ∧
  type_of% @Ty.pl55 ∧
  type_of% @Ty.sz57 ∧
  type_of% @Ty.ag57 ∧
  type_of% @Ty.zr57 ∧
  type_of% @Ty.ap57 ∧
  type_of% @Ty.sz58 ∧
  type_of% @Ty.ag58 ∧
  type_of% @Ty.zr58 ∧
  type_of% @Ty.ap58 ∧
  type_of% @Ty.sz66 ∧
  type_of% @Ty.ag66 ∧
  type_of% @Ty.zr66 ∧
  type_of% @Ty.ap66 ∧
  type_of% @Ty.sz70 ∧
  type_of% @Ty.ag70 ∧
  type_of% @Ty.zr70 ∧
  type_of% @Ty.ap70 ∧
  type_of% @Ty.pl70 ∧
  type_of% @Ty.un70 ∧
  type_of% @Ty.sz71 ∧
  type_of% @Ty.ag71 ∧
  type_of% @Ty.zr71 ∧
  type_of% @Ty.ap71 ∧
  type_of% @Ty.un71 ∧
  type_of% @Ty.sz80 ∧
  type_of% @Ty.ag80 ∧
  type_of% @Ty.zr80 ∧
  type_of% @Ty.ap80 ∧
  type_of% @Ty.un80 ∧
  type_of% @Ty.sz82 ∧
  type_of% @Ty.ag82 ∧
  type_of% @Ty.zr82 ∧
  type_of% @Ty.ap82 ∧
  type_of% @Ty.pl82 ∧
  type_of% @Ty.un82 ∧
  type_of% @Ty.sz83 ∧
  type_of% @Ty.ag83 ∧
  type_of% @Ty.zr83 ∧
  type_of% @Ty.ap83 ∧
  type_of% @Ty.un83 ∧
  type_of% @Ty.sz84 ∧
  type_of% @Ty.ag84 ∧
  type_of% @Ty.pl84 ∧
  type_of% @Ty.un84 ∧
  type_of% @Ty.sz87 ∧
  type_of% @Ty.ag87 ∧
  type_of% @Ty.pl87 ∧
  type_of% @Ty.un87 ∧
  type_of% @Ty.sz88 ∧
  type_of% @Ty.ag88 ∧
  type_of% @Ty.zr88 ∧
  type_of% @Ty.ap88 ∧
  type_of% @Ty.fd88_0 ∧
  type_of% @Ty.fa88_0 ∧
  type_of% @Ty.fd88_1 ∧
  type_of% @Ty.fa88_1 ∧
  type_of% @Ty.pl88 ∧
  type_of% @Ty.sz89 ∧
  type_of% @Ty.ag89 ∧
  type_of% @Ty.zr89 ∧
  type_of% @Ty.ap89 ∧
  type_of% @Ty.fd89_0 ∧
  type_of% @Ty.fa89_0 ∧
  type_of% @Ty.fd89_1 ∧
  type_of% @Ty.fa89_1 ∧
  type_of% @Ty.pl89 ∧
  type_of% @Ty.sz90 ∧
  type_of% @Ty.ag90 ∧
  type_of% @Ty.zr90 ∧
  type_of% @Ty.ap90 ∧
  type_of% @Ty.pl90 ∧
  type_of% @Ty.un90 ∧
  type_of% @Ty.sz94 ∧
  type_of% @Ty.ag94 ∧
  type_of% @Ty.zr94 ∧
  type_of% @Ty.ap94 ∧
  type_of% @Ty.pl94 ∧
  type_of% @Ty.un94 ∧
  type_of% @Ty.sz95 ∧
  type_of% @Ty.ag95 ∧
  type_of% @Ty.zr95 ∧
  type_of% @Ty.ap95 ∧
  type_of% @Ty.pl95 ∧
  type_of% @Ty.un95 :=
  ⟨@Ty.sz2, @Ty.ag2, @Ty.zr2, @Ty.ap2, @Ty.un2, @Ty.sz3, @Ty.ag3, @Ty.zr3, @Ty.ap3, @Ty.un3, @Ty.sz4, @Ty.ag4, @Ty.zr4, @Ty.ap4, @Ty.un4, @Ty.sz5, @Ty.ag5, @Ty.zr5, @Ty.ap5, @Ty.un5, @Ty.sz9, @Ty.ag9, @Ty.zr9, @Ty.ap9, @Ty.un9, @Ty.sz12, @Ty.ag12, @Ty.zr12, @Ty.ap12, @Ty.un12, @Ty.sz13, @Ty.ag13, @Ty.zr13, @Ty.ap13, @Ty.fd13_0, @Ty.fa13_0, @Ty.fd13_1, @Ty.fa13_1, @Ty.pl13, @Ty.sz20, @Ty.ag20, @Ty.zr20, @Ty.ap20, @Ty.sz21, @Ty.ag21, @Ty.zr21, @Ty.ap21, @Ty.un21, @Ty.sz24, @Ty.ag24, @Ty.zr24, @Ty.ap24, @Ty.un24, @Ty.sz25, @Ty.ag25, @Ty.zr25, @Ty.ap25, @Ty.un25, @Ty.sz47, @Ty.ag47, @Ty.zr47, @Ty.ap47, @Ty.un47, @Ty.sz53, @Ty.ag53, @Ty.zr53, @Ty.ap53, @Ty.sz54, @Ty.ag54, @Ty.zr54, @Ty.ap54, @Ty.fd54_0, @Ty.fa54_0, @Ty.fd54_1, @Ty.fa54_1, @Ty.pl54, @Ty.sz55, @Ty.ag55, @Ty.zr55, @Ty.ap55, @Ty.fd55_0, @Ty.fa55_0, @Ty.fd55_1, @Ty.fa55_1, @Ty.pl55, @Ty.sz57, @Ty.ag57, @Ty.zr57, @Ty.ap57, @Ty.sz58, @Ty.ag58, @Ty.zr58, @Ty.ap58, @Ty.sz66, @Ty.ag66, @Ty.zr66, @Ty.ap66, @Ty.sz70, @Ty.ag70, @Ty.zr70, @Ty.ap70, @Ty.pl70, @Ty.un70, @Ty.sz71, @Ty.ag71, @Ty.zr71, @Ty.ap71, @Ty.un71, @Ty.sz80, @Ty.ag80, @Ty.zr80, @Ty.ap80, @Ty.un80, @Ty.sz82, @Ty.ag82, @Ty.zr82, @Ty.ap82, @Ty.pl82, @Ty.un82, @Ty.sz83, @Ty.ag83, @Ty.zr83, @Ty.ap83, @Ty.un83, @Ty.sz84, @Ty.ag84, @Ty.pl84, @Ty.un84, @Ty.sz87, @Ty.ag87, @Ty.pl87, @Ty.un87, @Ty.sz88, @Ty.ag88, @Ty.zr88, @Ty.ap88, @Ty.fd88_0, @Ty.fa88_0, @Ty.fd88_1, @Ty.fa88_1, @Ty.pl88, @Ty.sz89, @Ty.ag89, @Ty.zr89, @Ty.ap89, @Ty.fd89_0, @Ty.fa89_0, @Ty.fd89_1, @Ty.fa89_1, @Ty.pl89, @Ty.sz90, @Ty.ag90, @Ty.zr90, @Ty.ap90, @Ty.pl90, @Ty.un90, @Ty.sz94, @Ty.ag94, @Ty.zr94, @Ty.ap94, @Ty.pl94, @Ty.un94, @Ty.sz95, @Ty.ag95, @Ty.zr95, @Ty.ap95, @Ty.pl95, @Ty.un95⟩

end Go.Ab
