/-
  The types of this seat's program, as equations. Written by tools/types.py.
-/
import Derived.Test.YtabfdaekbhccnaaDoorChecked
import Derived.Test.YtabfdaekbhccnaaDoorAbG
set_option linter.unusedSimpArgs false
set_option linter.unusedVariables false
namespace Go.Ab
open Go.RowKit Go.Proofs
section
variable {tab : Tab} {x : AV} {h : Hp}
theorem Ty.sz2 : (ctx Tryd.prog Gt tab).size 2 = some 1 := rfl
theorem Ty.ag2 : (ctx Tryd.prog Gt tab).isAgg 2 = some false := rfl
theorem Ty.zr2 : (ctx Tryd.prog Gt tab).zero 2 = some (.v (.c (.d (.int .i64 0)))) := rfl
theorem Ty.ap2 : (ctx Tryd.prog Gt tab).apz 2 = some (1, 8) := rfl
theorem Ty.un2 : Tryd.prog.underlying 2 = some (Go.TypeDesc.int Go.IntKind.i64) := rfl
theorem Ty.sz3 : (ctx Tryd.prog Gt tab).size 3 = some 1 := rfl
theorem Ty.ag3 : (ctx Tryd.prog Gt tab).isAgg 3 = some false := rfl
theorem Ty.zr3 : (ctx Tryd.prog Gt tab).zero 3 = some (.v (.c (.d (.int .i64 0)))) := rfl
theorem Ty.ap3 : (ctx Tryd.prog Gt tab).apz 3 = some (1, 8) := rfl
theorem Ty.un3 : Tryd.prog.underlying 3 = some (Go.TypeDesc.int Go.IntKind.i64) := rfl
theorem Ty.sz4 : (ctx Tryd.prog Gt tab).size 4 = some 1 := rfl
theorem Ty.ag4 : (ctx Tryd.prog Gt tab).isAgg 4 = some false := rfl
theorem Ty.zr4 : (ctx Tryd.prog Gt tab).zero 4 = some (.v (.c (.d (.bool false)))) := rfl
theorem Ty.ap4 : (ctx Tryd.prog Gt tab).apz 4 = some (1, 1) := rfl
theorem Ty.un4 : Tryd.prog.underlying 4 = some Go.TypeDesc.bool := rfl
theorem Ty.sz5 : (ctx Tryd.prog Gt tab).size 5 = some 1 := rfl
theorem Ty.ag5 : (ctx Tryd.prog Gt tab).isAgg 5 = some false := rfl
theorem Ty.zr5 : (ctx Tryd.prog Gt tab).zero 5 = some (.v (.c (.d (.int .u8 0)))) := rfl
theorem Ty.ap5 : (ctx Tryd.prog Gt tab).apz 5 = some (1, 1) := rfl
theorem Ty.un5 : Tryd.prog.underlying 5 = some (Go.TypeDesc.int Go.IntKind.u8) := rfl
theorem Ty.sz9 : (ctx Tryd.prog Gt tab).size 9 = some 1 := rfl
theorem Ty.ag9 : (ctx Tryd.prog Gt tab).isAgg 9 = some false := rfl
theorem Ty.zr9 : (ctx Tryd.prog Gt tab).zero 9 = some (.v (.c (.d (.str [])))) := rfl
theorem Ty.ap9 : (ctx Tryd.prog Gt tab).apz 9 = some (1, 16) := rfl
theorem Ty.un9 : Tryd.prog.underlying 9 = some Go.TypeDesc.string := rfl
theorem Ty.sz12 : (ctx Tryd.prog Gt tab).size 12 = some 1 := rfl
theorem Ty.ag12 : (ctx Tryd.prog Gt tab).isAgg 12 = some false := rfl
theorem Ty.zr12 : (ctx Tryd.prog Gt tab).zero 12 = some (.v (.c (.d (.int .u64 0)))) := rfl
theorem Ty.ap12 : (ctx Tryd.prog Gt tab).apz 12 = some (1, 8) := rfl
theorem Ty.un12 : Tryd.prog.underlying 12 = some (Go.TypeDesc.int Go.IntKind.u64) := rfl
theorem Ty.sz13 : (ctx Tryd.prog Gt tab).size 13 = some 2 := rfl
theorem Ty.ag13 : (ctx Tryd.prog Gt tab).isAgg 13 = some true := rfl
theorem Ty.zr13 : (ctx Tryd.prog Gt tab).zero 13 = some (.v (.agg [.d (.str []), .d (.int .u64 0)])) := rfl
theorem Ty.ap13 : (ctx Tryd.prog Gt tab).apz 13 = some (2, 24) := rfl
theorem Ty.fd13_0 : fld (ctx Tryd.prog Gt tab) (Tryd.prog.underlying 13) x 0 h = fldV (ctx Tryd.prog Gt tab) 9 0 x h := rfl
theorem Ty.fa13_0 : fldA (ctx Tryd.prog Gt tab) (Tryd.prog.underlying 13) x 0 h = fldP 0 1 x h := rfl
theorem Ty.fd13_1 : fld (ctx Tryd.prog Gt tab) (Tryd.prog.underlying 13) x 1 h = fldV (ctx Tryd.prog Gt tab) 12 1 x h := rfl
theorem Ty.fa13_1 : fldA (ctx Tryd.prog Gt tab) (Tryd.prog.underlying 13) x 1 h = fldP 1 1 x h := rfl
theorem Ty.pl13 : (ctx Tryd.prog Gt tab).place 13 = some fun i => [(0, 1), (1, 1)][i]? := rfl
theorem Ty.sz20 : (ctx Tryd.prog Gt tab).size 20 = some 1 := rfl
theorem Ty.ag20 : (ctx Tryd.prog Gt tab).isAgg 20 = some false := rfl
theorem Ty.zr20 : (ctx Tryd.prog Gt tab).zero 20 = some (.v (.c .nili)) := rfl
theorem Ty.ap20 : (ctx Tryd.prog Gt tab).apz 20 = some (1, 16) := rfl
theorem Ty.sz21 : (ctx Tryd.prog Gt tab).size 21 = some 1 := rfl
theorem Ty.ag21 : (ctx Tryd.prog Gt tab).isAgg 21 = some false := rfl
theorem Ty.zr21 : (ctx Tryd.prog Gt tab).zero 21 = some (.v (.c (.d (.int .i32 0)))) := rfl
theorem Ty.ap21 : (ctx Tryd.prog Gt tab).apz 21 = some (1, 4) := rfl
theorem Ty.un21 : Tryd.prog.underlying 21 = some (Go.TypeDesc.int Go.IntKind.i32) := rfl
theorem Ty.sz28 : (ctx Tryd.prog Gt tab).size 28 = some 1 := rfl
theorem Ty.ag28 : (ctx Tryd.prog Gt tab).isAgg 28 = some false := rfl
theorem Ty.zr28 : (ctx Tryd.prog Gt tab).zero 28 = some (.v (.c (.d (.int .i64 0)))) := rfl
theorem Ty.ap28 : (ctx Tryd.prog Gt tab).apz 28 = some (1, 8) := rfl
theorem Ty.un28 : Tryd.prog.underlying 28 = some (Go.TypeDesc.int Go.IntKind.i64) := rfl
theorem Ty.sz34 : (ctx Tryd.prog Gt tab).size 34 = some 3 := rfl
theorem Ty.ag34 : (ctx Tryd.prog Gt tab).isAgg 34 = some true := rfl
theorem Ty.zr34 : (ctx Tryd.prog Gt tab).zero 34 = some (.v (.agg [.d (.int .i64 0), .d (.int .i64 0), .d (.int .i64 0)])) := rfl
theorem Ty.ap34 : (ctx Tryd.prog Gt tab).apz 34 = some (3, 24) := rfl
theorem Ty.fd34_0 : fld (ctx Tryd.prog Gt tab) (Tryd.prog.underlying 34) x 0 h = fldV (ctx Tryd.prog Gt tab) 3 0 x h := rfl
theorem Ty.fa34_0 : fldA (ctx Tryd.prog Gt tab) (Tryd.prog.underlying 34) x 0 h = fldP 0 1 x h := rfl
theorem Ty.fd34_1 : fld (ctx Tryd.prog Gt tab) (Tryd.prog.underlying 34) x 1 h = fldV (ctx Tryd.prog Gt tab) 3 1 x h := rfl
theorem Ty.fa34_1 : fldA (ctx Tryd.prog Gt tab) (Tryd.prog.underlying 34) x 1 h = fldP 1 1 x h := rfl
theorem Ty.fd34_2 : fld (ctx Tryd.prog Gt tab) (Tryd.prog.underlying 34) x 2 h = fldV (ctx Tryd.prog Gt tab) 3 2 x h := rfl
theorem Ty.fa34_2 : fldA (ctx Tryd.prog Gt tab) (Tryd.prog.underlying 34) x 2 h = fldP 2 1 x h := rfl
theorem Ty.pl34 : (ctx Tryd.prog Gt tab).place 34 = some fun i => [(0, 1), (1, 1), (2, 1)][i]? := rfl
theorem Ty.sz35 : (ctx Tryd.prog Gt tab).size 35 = some 3 := rfl
theorem Ty.ag35 : (ctx Tryd.prog Gt tab).isAgg 35 = some true := rfl
theorem Ty.zr35 : (ctx Tryd.prog Gt tab).zero 35 = some (.v (.agg [.d (.int .i64 0), .d (.int .i64 0), .d (.int .i64 0)])) := rfl
theorem Ty.ap35 : (ctx Tryd.prog Gt tab).apz 35 = some (3, 24) := rfl
theorem Ty.fd35_0 : fld (ctx Tryd.prog Gt tab) (Tryd.prog.underlying 35) x 0 h = fldV (ctx Tryd.prog Gt tab) 3 0 x h := rfl
theorem Ty.fa35_0 : fldA (ctx Tryd.prog Gt tab) (Tryd.prog.underlying 35) x 0 h = fldP 0 1 x h := rfl
theorem Ty.fd35_1 : fld (ctx Tryd.prog Gt tab) (Tryd.prog.underlying 35) x 1 h = fldV (ctx Tryd.prog Gt tab) 3 1 x h := rfl
theorem Ty.fa35_1 : fldA (ctx Tryd.prog Gt tab) (Tryd.prog.underlying 35) x 1 h = fldP 1 1 x h := rfl
theorem Ty.fd35_2 : fld (ctx Tryd.prog Gt tab) (Tryd.prog.underlying 35) x 2 h = fldV (ctx Tryd.prog Gt tab) 3 2 x h := rfl
theorem Ty.fa35_2 : fldA (ctx Tryd.prog Gt tab) (Tryd.prog.underlying 35) x 2 h = fldP 2 1 x h := rfl
theorem Ty.pl35 : (ctx Tryd.prog Gt tab).place 35 = some fun i => [(0, 1), (1, 1), (2, 1)][i]? := rfl
theorem Ty.sz37 : (ctx Tryd.prog Gt tab).size 37 = some 2 := rfl
theorem Ty.ag37 : (ctx Tryd.prog Gt tab).isAgg 37 = some true := rfl
theorem Ty.zr37 : (ctx Tryd.prog Gt tab).zero 37 = some (.v (.agg [.d (.int .i64 0), .d (.int .i64 0)])) := rfl
theorem Ty.ap37 : (ctx Tryd.prog Gt tab).apz 37 = some (2, 16) := rfl
theorem Ty.fd37_0 : fld (ctx Tryd.prog Gt tab) (Tryd.prog.underlying 37) x 0 h = fldV (ctx Tryd.prog Gt tab) 3 0 x h := rfl
theorem Ty.fa37_0 : fldA (ctx Tryd.prog Gt tab) (Tryd.prog.underlying 37) x 0 h = fldP 0 1 x h := rfl
theorem Ty.fd37_1 : fld (ctx Tryd.prog Gt tab) (Tryd.prog.underlying 37) x 1 h = fldV (ctx Tryd.prog Gt tab) 3 1 x h := rfl
theorem Ty.fa37_1 : fldA (ctx Tryd.prog Gt tab) (Tryd.prog.underlying 37) x 1 h = fldP 1 1 x h := rfl
theorem Ty.pl37 : (ctx Tryd.prog Gt tab).place 37 = some fun i => [(0, 1), (1, 1)][i]? := rfl
theorem Ty.sz38 : (ctx Tryd.prog Gt tab).size 38 = some 2 := rfl
theorem Ty.ag38 : (ctx Tryd.prog Gt tab).isAgg 38 = some true := rfl
theorem Ty.zr38 : (ctx Tryd.prog Gt tab).zero 38 = some (.v (.agg [.d (.int .i64 0), .d (.int .i64 0)])) := rfl
theorem Ty.ap38 : (ctx Tryd.prog Gt tab).apz 38 = some (2, 16) := rfl
theorem Ty.fd38_0 : fld (ctx Tryd.prog Gt tab) (Tryd.prog.underlying 38) x 0 h = fldV (ctx Tryd.prog Gt tab) 3 0 x h := rfl
theorem Ty.fa38_0 : fldA (ctx Tryd.prog Gt tab) (Tryd.prog.underlying 38) x 0 h = fldP 0 1 x h := rfl
theorem Ty.fd38_1 : fld (ctx Tryd.prog Gt tab) (Tryd.prog.underlying 38) x 1 h = fldV (ctx Tryd.prog Gt tab) 3 1 x h := rfl
theorem Ty.fa38_1 : fldA (ctx Tryd.prog Gt tab) (Tryd.prog.underlying 38) x 1 h = fldP 1 1 x h := rfl
theorem Ty.pl38 : (ctx Tryd.prog Gt tab).place 38 = some fun i => [(0, 1), (1, 1)][i]? := rfl
theorem Ty.sz39 : (ctx Tryd.prog Gt tab).size 39 = some 1 := rfl
theorem Ty.ag39 : (ctx Tryd.prog Gt tab).isAgg 39 = some false := rfl
theorem Ty.zr39 : (ctx Tryd.prog Gt tab).zero 39 = some (.v (.c (.d (.sl true [])))) := rfl
theorem Ty.ap39 : (ctx Tryd.prog Gt tab).apz 39 = some (1, 24) := rfl
theorem Ty.un39 : Tryd.prog.underlying 39 = some (Go.TypeDesc.slice 38) := rfl
theorem Ty.sz46 : (ctx Tryd.prog Gt tab).size 46 = some 1 := rfl
theorem Ty.ag46 : (ctx Tryd.prog Gt tab).isAgg 46 = some false := rfl
theorem Ty.zr46 : (ctx Tryd.prog Gt tab).zero 46 = some (.v (.c (.d (.sl true [])))) := rfl
theorem Ty.ap46 : (ctx Tryd.prog Gt tab).apz 46 = some (1, 24) := rfl
theorem Ty.un46 : Tryd.prog.underlying 46 = some (Go.TypeDesc.slice 3) := rfl
theorem Ty.sz55 : (ctx Tryd.prog Gt tab).size 55 = some 1 := rfl
theorem Ty.ag55 : (ctx Tryd.prog Gt tab).isAgg 55 = some false := rfl
theorem Ty.zr55 : (ctx Tryd.prog Gt tab).zero 55 = some (.v (.c .nilm)) := rfl
theorem Ty.ap55 : (ctx Tryd.prog Gt tab).apz 55 = some (1, 8) := rfl
theorem Ty.un55 : Tryd.prog.underlying 55 = some (Go.TypeDesc.map 3 4) := rfl
theorem Ty.mt55 : (ctx Tryd.prog Gt tab).mapTy 55 = some (Go.TypeDesc.int Go.IntKind.i64, 4) := rfl
theorem Ty.sz56 : (ctx Tryd.prog Gt tab).size 56 = some 12 := rfl
theorem Ty.ag56 : (ctx Tryd.prog Gt tab).isAgg 56 = some true := rfl
theorem Ty.zr56 : (ctx Tryd.prog Gt tab).zero 56 = some (.v (.agg [.d (.int .i64 0), .d (.int .i64 0), .d (.int .i64 0), .d (.int .i64 0), .d (.int .i64 0), .d (.int .i64 0), .d (.int .i64 0), .d (.int .i64 0), .d (.int .i64 0), .d (.int .i64 0), .d (.int .i64 0), .d (.int .i64 0)])) := rfl
theorem Ty.ap56 : (ctx Tryd.prog Gt tab).apz 56 = some (12, 96) := rfl
theorem Ty.pl56 : (ctx Tryd.prog Gt tab).place 56 = some fun i => some (i * 1, 1) := rfl
theorem Ty.un56 : Tryd.prog.underlying 56 = some (Go.TypeDesc.array 12 3) := rfl
theorem Ty.sz64 : (ctx Tryd.prog Gt tab).size 64 = some 1 := rfl
theorem Ty.ag64 : (ctx Tryd.prog Gt tab).isAgg 64 = some false := rfl
theorem Ty.zr64 : (ctx Tryd.prog Gt tab).zero 64 = some (.v (.c (.d (.int .u32 0)))) := rfl
theorem Ty.ap64 : (ctx Tryd.prog Gt tab).apz 64 = some (1, 4) := rfl
theorem Ty.un64 : Tryd.prog.underlying 64 = some (Go.TypeDesc.int Go.IntKind.u32) := rfl
theorem Ty.sz68 : (ctx Tryd.prog Gt tab).size 68 = some 1 := rfl
theorem Ty.ag68 : (ctx Tryd.prog Gt tab).isAgg 68 = some false := rfl
theorem Ty.zr68 : (ctx Tryd.prog Gt tab).zero 68 = some (.v (.c .nilp)) := rfl
theorem Ty.ap68 : (ctx Tryd.prog Gt tab).apz 68 = some (1, 8) := rfl
end

/-- All of them, for simp. -/
theorem TY : type_of% @Ty.sz2 ∧
  type_of% @Ty.ag2 ∧
  type_of% @Ty.zr2 ∧
  type_of% @Ty.ap2 ∧
  type_of% @Ty.un2 ∧
  type_of% @Ty.sz3 ∧
  type_of% @Ty.ag3 ∧
  type_of% @Ty.zr3 ∧
  type_of% @Ty.ap3 ∧
  type_of% @Ty.un3 ∧
  type_of% @Ty.sz4 ∧
  type_of% @Ty.ag4 ∧
  type_of% @Ty.zr4 ∧
  type_of% @Ty.ap4 ∧
  type_of% @Ty.un4 ∧
  type_of% @Ty.sz5 ∧
  type_of% @Ty.ag5 ∧
  type_of% @Ty.zr5 ∧
  type_of% @Ty.ap5 ∧
  type_of% @Ty.un5 ∧
  type_of% @Ty.sz9 ∧
  type_of% @Ty.ag9 ∧
  type_of% @Ty.zr9 ∧
  type_of% @Ty.ap9 ∧
  type_of% @Ty.un9 ∧
  type_of% @Ty.sz12 ∧
  type_of% @Ty.ag12 ∧
  type_of% @Ty.zr12 ∧
  type_of% @Ty.ap12 ∧
  type_of% @Ty.un12 ∧
  type_of% @Ty.sz13 ∧
  type_of% @Ty.ag13 ∧
  type_of% @Ty.zr13 ∧
  type_of% @Ty.ap13 ∧
  type_of% @Ty.fd13_0 ∧
  type_of% @Ty.fa13_0 ∧
  type_of% @Ty.fd13_1 ∧
  type_of% @Ty.fa13_1 ∧
  type_of% @Ty.pl13 ∧
  type_of% @Ty.sz20 ∧
  type_of% @Ty.ag20 ∧
  type_of% @Ty.zr20 ∧
  type_of% @Ty.ap20 ∧
  type_of% @Ty.sz21 ∧
  type_of% @Ty.ag21 ∧
  type_of% @Ty.zr21 ∧
  type_of% @Ty.ap21 ∧
  type_of% @Ty.un21 ∧
  type_of% @Ty.sz28 ∧
  type_of% @Ty.ag28 ∧
  type_of% @Ty.zr28 ∧
  type_of% @Ty.ap28 ∧
  type_of% @Ty.un28 ∧
  type_of% @Ty.sz34 ∧
  type_of% @Ty.ag34 ∧
  type_of% @Ty.zr34 ∧
  type_of% @Ty.ap34 ∧
  type_of% @Ty.fd34_0 ∧
  type_of% @Ty.fa34_0 ∧
  type_of% @Ty.fd34_1 ∧
  type_of% @Ty.fa34_1 ∧
  type_of% @Ty.fd34_2 ∧
  type_of% @Ty.fa34_2 ∧
  type_of% @Ty.pl34 ∧
  type_of% @Ty.sz35 ∧
  type_of% @Ty.ag35 ∧
  type_of% @Ty.zr35 ∧
  type_of% @Ty.ap35 ∧
  type_of% @Ty.fd35_0 ∧
  type_of% @Ty.fa35_0 ∧
  type_of% @Ty.fd35_1 ∧
  type_of% @Ty.fa35_1 ∧
  type_of% @Ty.fd35_2 ∧
  type_of% @Ty.fa35_2 ∧
  type_of% @Ty.pl35 ∧
  type_of% @Ty.sz37 ∧
  type_of% @Ty.ag37 ∧
  type_of% @Ty.zr37 ∧
  type_of% @Ty.ap37 ∧
  type_of% @Ty.fd37_0 ∧
  type_of% @Ty.fa37_0 ∧
  type_of% @Ty.fd37_1 ∧
  type_of% @Ty.fa37_1 ∧
  type_of% @Ty.pl37 ∧
  type_of% @Ty.sz38 ∧
  type_of% @Ty.ag38 ∧
  type_of% @Ty.zr38 ∧
  type_of% @Ty.ap38 ∧
  type_of% @Ty.fd38_0 ∧
  type_of% @Ty.fa38_0 ∧
  type_of% @Ty.fd38_1 ∧
  type_of% @Ty.fa38_1 ∧
  type_of% @Ty.pl38 ∧
  type_of% @Ty.sz39 ∧
  type_of% @Ty.ag39 ∧
  type_of% @Ty.zr39 ∧
  type_of% @Ty.ap39 ∧
  type_of% @Ty.un39 ∧
  type_of% @Ty.sz46 ∧
  type_of% @Ty.ag46 ∧
  type_of% @Ty.zr46 ∧
  type_of% @Ty.ap46 ∧
  type_of% @Ty.un46 ∧
  type_of% @Ty.sz55 ∧
  type_of% @Ty.ag55 ∧
  type_of% @Ty.zr55 ∧
  type_of% @Ty.ap55 ∧
  type_of% @Ty.un55 ∧
  type_of% @Ty.mt55 ∧
  type_of% @Ty.sz56 ∧
  type_of% @Ty.ag56 ∧
  type_of% @Ty.zr56 ∧
  type_of% @Ty.ap56 ∧
  type_of% @Ty.pl56 ∧
  type_of% @Ty.un56 ∧
  type_of% @Ty.sz64 ∧
  type_of% @Ty.ag64 ∧
  type_of% @Ty.zr64 ∧
  type_of% @Ty.ap64 ∧
  type_of% @Ty.un64 ∧
  type_of% @Ty.sz68 ∧
  type_of% @Ty.ag68 ∧
  type_of% @Ty.zr68 ∧
  type_of% @Ty.ap68 :=
  ⟨@Ty.sz2, @Ty.ag2, @Ty.zr2, @Ty.ap2, @Ty.un2, @Ty.sz3, @Ty.ag3, @Ty.zr3, @Ty.ap3, @Ty.un3, @Ty.sz4, @Ty.ag4, @Ty.zr4, @Ty.ap4, @Ty.un4, @Ty.sz5, @Ty.ag5, @Ty.zr5, @Ty.ap5, @Ty.un5, @Ty.sz9, @Ty.ag9, @Ty.zr9, @Ty.ap9, @Ty.un9, @Ty.sz12, @Ty.ag12, @Ty.zr12, @Ty.ap12, @Ty.un12, @Ty.sz13, @Ty.ag13, @Ty.zr13, @Ty.ap13, @Ty.fd13_0, @Ty.fa13_0, @Ty.fd13_1, @Ty.fa13_1, @Ty.pl13, @Ty.sz20, @Ty.ag20, @Ty.zr20, @Ty.ap20, @Ty.sz21, @Ty.ag21, @Ty.zr21, @Ty.ap21, @Ty.un21, @Ty.sz28, @Ty.ag28, @Ty.zr28, @Ty.ap28, @Ty.un28, @Ty.sz34, @Ty.ag34, @Ty.zr34, @Ty.ap34, @Ty.fd34_0, @Ty.fa34_0, @Ty.fd34_1, @Ty.fa34_1, @Ty.fd34_2, @Ty.fa34_2, @Ty.pl34, @Ty.sz35, @Ty.ag35, @Ty.zr35, @Ty.ap35, @Ty.fd35_0, @Ty.fa35_0, @Ty.fd35_1, @Ty.fa35_1, @Ty.fd35_2, @Ty.fa35_2, @Ty.pl35, @Ty.sz37, @Ty.ag37, @Ty.zr37, @Ty.ap37, @Ty.fd37_0, @Ty.fa37_0, @Ty.fd37_1, @Ty.fa37_1, @Ty.pl37, @Ty.sz38, @Ty.ag38, @Ty.zr38, @Ty.ap38, @Ty.fd38_0, @Ty.fa38_0, @Ty.fd38_1, @Ty.fa38_1, @Ty.pl38, @Ty.sz39, @Ty.ag39, @Ty.zr39, @Ty.ap39, @Ty.un39, @Ty.sz46, @Ty.ag46, @Ty.zr46, @Ty.ap46, @Ty.un46, @Ty.sz55, @Ty.ag55, @Ty.zr55, @Ty.ap55, @Ty.un55, @Ty.mt55, @Ty.sz56, @Ty.ag56, @Ty.zr56, @Ty.ap56, @Ty.pl56, @Ty.un56, @Ty.sz64, @Ty.ag64, @Ty.zr64, @Ty.ap64, @Ty.un64, @Ty.sz68, @Ty.ag68, @Ty.zr68, @Ty.ap68⟩

end Go.Ab
