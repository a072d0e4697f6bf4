/-
  Texts of the layer and of the laws, put together: AbT. No law is stated here.
-/
import Derived.Test.YtkneajcbgoaadaaGreatDoorChecked
import Derived.Test.YtkneajcbgoaadaaGreatDoorAbV19
import Derived.KernelRfl
set_option linter.unusedSimpArgs false
set_option linter.unusedVariables false
set_option maxRecDepth 100000

/-
  The types of this seat's program, as equations. Written by tools/types.py.
-/
set_option maxRecDepth 200000
namespace Go.Ab
open Go.RowKit Go.Proofs
section
variable {tab : Tab} {x : AV} {h : Hp}
theorem Ty.sz3 : (ctx Tryz.prog Gt tab).size 3 = some 1 := by kernel_rfl
theorem Ty.ag3 : (ctx Tryz.prog Gt tab).isAgg 3 = some false := by kernel_rfl
theorem Ty.nf3 : (ctx Tryz.prog Gt tab).isIf 3 = some false := by kernel_rfl
theorem Ty.zr3 : (ctx Tryz.prog Gt tab).zero 3 = some (.v (.c (.d (.int .i64 0)))) := by kernel_rfl
theorem Ty.ap3 : (ctx Tryz.prog Gt tab).apz 3 = some (1, 8) := by kernel_rfl
theorem Ty.un3 : Tryz.prog.underlying 3 = some (Go.TypeDesc.int Go.IntKind.i64) := by kernel_rfl
theorem Ty.sz4 : (ctx Tryz.prog Gt tab).size 4 = some 1 := by kernel_rfl
theorem Ty.ag4 : (ctx Tryz.prog Gt tab).isAgg 4 = some false := by kernel_rfl
theorem Ty.zr4 : (ctx Tryz.prog Gt tab).zero 4 = some (.v (.c (.d (.bool false)))) := by kernel_rfl
theorem Ty.ap4 : (ctx Tryz.prog Gt tab).apz 4 = some (1, 1) := by kernel_rfl
theorem Ty.un4 : Tryz.prog.underlying 4 = some Go.TypeDesc.bool := by kernel_rfl
theorem Ty.sz5 : (ctx Tryz.prog Gt tab).size 5 = some 1 := by kernel_rfl
theorem Ty.ag5 : (ctx Tryz.prog Gt tab).isAgg 5 = some false := by kernel_rfl
theorem Ty.nf5 : (ctx Tryz.prog Gt tab).isIf 5 = some false := by kernel_rfl
theorem Ty.zr5 : (ctx Tryz.prog Gt tab).zero 5 = some (.v (.c (.d (.int .u8 0)))) := by kernel_rfl
theorem Ty.ap5 : (ctx Tryz.prog Gt tab).apz 5 = some (1, 1) := by kernel_rfl
theorem Ty.un5 : Tryz.prog.underlying 5 = some (Go.TypeDesc.int Go.IntKind.u8) := by kernel_rfl
theorem Ty.sz9 : (ctx Tryz.prog Gt tab).size 9 = some 1 := by kernel_rfl
theorem Ty.ag9 : (ctx Tryz.prog Gt tab).isAgg 9 = some false := by kernel_rfl
theorem Ty.zr9 : (ctx Tryz.prog Gt tab).zero 9 = some (.v (.c (.d (.str [])))) := by kernel_rfl
theorem Ty.ap9 : (ctx Tryz.prog Gt tab).apz 9 = some (1, 16) := by kernel_rfl
theorem Ty.un9 : Tryz.prog.underlying 9 = some Go.TypeDesc.string := by kernel_rfl
theorem Ty.sz20 : (ctx Tryz.prog Gt tab).size 20 = some 1 := by kernel_rfl
theorem Ty.ag20 : (ctx Tryz.prog Gt tab).isAgg 20 = some false := by kernel_rfl
theorem Ty.if20 : (ctx Tryz.prog Gt tab).ifT 20 = some true := by kernel_rfl
theorem Ty.zr20 : (ctx Tryz.prog Gt tab).zero 20 = some (.v (.c .nili)) := by kernel_rfl
theorem Ty.ap20 : (ctx Tryz.prog Gt tab).apz 20 = some (1, 16) := by kernel_rfl
theorem Ty.sz21 : (ctx Tryz.prog Gt tab).size 21 = some 1 := by kernel_rfl
theorem Ty.ag21 : (ctx Tryz.prog Gt tab).isAgg 21 = some false := by kernel_rfl
theorem Ty.nf21 : (ctx Tryz.prog Gt tab).isIf 21 = some false := by kernel_rfl
theorem Ty.zr21 : (ctx Tryz.prog Gt tab).zero 21 = some (.v (.c (.d (.int .i32 0)))) := by kernel_rfl
theorem Ty.ap21 : (ctx Tryz.prog Gt tab).apz 21 = some (1, 4) := by kernel_rfl
theorem Ty.un21 : Tryz.prog.underlying 21 = some (Go.TypeDesc.int Go.IntKind.i32) := by kernel_rfl
theorem Ty.sz22 : (ctx Tryz.prog Gt tab).size 22 = some 1 := by kernel_rfl
theorem Ty.ag22 : (ctx Tryz.prog Gt tab).isAgg 22 = some false := by kernel_rfl
theorem Ty.zr22 : (ctx Tryz.prog Gt tab).zero 22 = some (.v (.c (.d (.sl true [])))) := by kernel_rfl
theorem Ty.ap22 : (ctx Tryz.prog Gt tab).apz 22 = some (1, 24) := by kernel_rfl
theorem Ty.un22 : Tryz.prog.underlying 22 = some (Go.TypeDesc.slice 51) := by kernel_rfl
theorem Ty.sz24 : (ctx Tryz.prog Gt tab).size 24 = some 4 := by kernel_rfl
theorem Ty.ag24 : (ctx Tryz.prog Gt tab).isAgg 24 = some true := by kernel_rfl
theorem Ty.nf24 : (ctx Tryz.prog Gt tab).isIf 24 = some false := by kernel_rfl
theorem Ty.zr24 : (ctx Tryz.prog Gt tab).zero 24 = some (.v (.agg [.d (.str []), .d (.str []), .d (.int .i64 0), .d (.sl true [])])) := by kernel_rfl
theorem Ty.ap24 : (ctx Tryz.prog Gt tab).apz 24 = some (4, 64) := by kernel_rfl
theorem Ty.fd24_0 : fld (ctx Tryz.prog Gt tab) (Tryz.prog.underlying 24) x 0 h = fldV (ctx Tryz.prog Gt tab) 9 0 x h := by kernel_rfl
theorem Ty.fa24_0 : fldA (ctx Tryz.prog Gt tab) (Tryz.prog.underlying 24) x 0 h = fldP 0 1 x h := by kernel_rfl
theorem Ty.fd24_1 : fld (ctx Tryz.prog Gt tab) (Tryz.prog.underlying 24) x 1 h = fldV (ctx Tryz.prog Gt tab) 9 1 x h := by kernel_rfl
theorem Ty.fa24_1 : fldA (ctx Tryz.prog Gt tab) (Tryz.prog.underlying 24) x 1 h = fldP 1 1 x h := by kernel_rfl
theorem Ty.fd24_2 : fld (ctx Tryz.prog Gt tab) (Tryz.prog.underlying 24) x 2 h = fldV (ctx Tryz.prog Gt tab) 3 2 x h := by kernel_rfl
theorem Ty.fa24_2 : fldA (ctx Tryz.prog Gt tab) (Tryz.prog.underlying 24) x 2 h = fldP 2 1 x h := by kernel_rfl
theorem Ty.fd24_3 : fld (ctx Tryz.prog Gt tab) (Tryz.prog.underlying 24) x 3 h = fldV (ctx Tryz.prog Gt tab) 22 3 x h := by kernel_rfl
theorem Ty.fa24_3 : fldA (ctx Tryz.prog Gt tab) (Tryz.prog.underlying 24) x 3 h = fldP 3 1 x h := by kernel_rfl
theorem Ty.pl24 : (ctx Tryz.prog Gt tab).place 24 = some fun i => [(0, 1), (1, 1), (2, 1), (3, 1)][i]? := by kernel_rfl
theorem Ty.sz25 : (ctx Tryz.prog Gt tab).size 25 = some 1 := by kernel_rfl
theorem Ty.ag25 : (ctx Tryz.prog Gt tab).isAgg 25 = some false := by kernel_rfl
theorem Ty.nf25 : (ctx Tryz.prog Gt tab).isIf 25 = some false := by kernel_rfl
theorem Ty.zr25 : (ctx Tryz.prog Gt tab).zero 25 = some (.v (.c (.d (.int .i64 0)))) := by kernel_rfl
theorem Ty.ap25 : (ctx Tryz.prog Gt tab).apz 25 = some (1, 8) := by kernel_rfl
theorem Ty.un25 : Tryz.prog.underlying 25 = some (Go.TypeDesc.int Go.IntKind.i64) := by kernel_rfl
theorem Ty.sz33 : (ctx Tryz.prog Gt tab).size 33 = some 1 := by kernel_rfl
theorem Ty.ag33 : (ctx Tryz.prog Gt tab).isAgg 33 = some false := by kernel_rfl
theorem Ty.pt33 : (ctx Tryz.prog Gt tab).ptT 33 = some true := by kernel_rfl
theorem Ty.zr33 : (ctx Tryz.prog Gt tab).zero 33 = some (.v (.c .nilp)) := by kernel_rfl
theorem Ty.ap33 : (ctx Tryz.prog Gt tab).apz 33 = some (1, 8) := by kernel_rfl
theorem Ty.sz35 : (ctx Tryz.prog Gt tab).size 35 = some 6 := by kernel_rfl
theorem Ty.ag35 : (ctx Tryz.prog Gt tab).isAgg 35 = some true := by kernel_rfl
theorem Ty.nf35 : (ctx Tryz.prog Gt tab).isIf 35 = some false := by kernel_rfl
theorem Ty.zr35 : (ctx Tryz.prog Gt tab).zero 35 = some (.v (.agg [.d (.str []), .d (.str []), .d (.int .i64 0), .d (.sl true []), .d (.bool false), .d (.bool false)])) := by kernel_rfl
theorem Ty.ap35 : (ctx Tryz.prog Gt tab).apz 35 = some (6, 72) := by kernel_rfl
theorem Ty.fd35_0 : fld (ctx Tryz.prog Gt tab) (Tryz.prog.underlying 35) x 0 h = fldV (ctx Tryz.prog Gt tab) 24 0 x h := by kernel_rfl
theorem Ty.fa35_0 : fldA (ctx Tryz.prog Gt tab) (Tryz.prog.underlying 35) x 0 h = fldP 0 4 x h := by kernel_rfl
theorem Ty.fd35_1 : fld (ctx Tryz.prog Gt tab) (Tryz.prog.underlying 35) x 1 h = fldV (ctx Tryz.prog Gt tab) 4 4 x h := by kernel_rfl
theorem Ty.fa35_1 : fldA (ctx Tryz.prog Gt tab) (Tryz.prog.underlying 35) x 1 h = fldP 4 1 x h := by kernel_rfl
theorem Ty.fd35_2 : fld (ctx Tryz.prog Gt tab) (Tryz.prog.underlying 35) x 2 h = fldV (ctx Tryz.prog Gt tab) 4 5 x h := by kernel_rfl
theorem Ty.fa35_2 : fldA (ctx Tryz.prog Gt tab) (Tryz.prog.underlying 35) x 2 h = fldP 5 1 x h := by kernel_rfl
theorem Ty.pl35 : (ctx Tryz.prog Gt tab).place 35 = some fun i => [(0, 4), (4, 1), (5, 1)][i]? := by kernel_rfl
theorem Ty.sz39 : (ctx Tryz.prog Gt tab).size 39 = some 1 := by kernel_rfl
theorem Ty.ag39 : (ctx Tryz.prog Gt tab).isAgg 39 = some false := by kernel_rfl
theorem Ty.zr39 : (ctx Tryz.prog Gt tab).zero 39 = some (.v (.c (.d (.sl true [])))) := by kernel_rfl
theorem Ty.ap39 : (ctx Tryz.prog Gt tab).apz 39 = some (1, 24) := by kernel_rfl
theorem Ty.un39 : Tryz.prog.underlying 39 = some (Go.TypeDesc.slice 9) := by kernel_rfl
theorem Ty.sz43 : (ctx Tryz.prog Gt tab).size 43 = some 5 := by kernel_rfl
theorem Ty.ag43 : (ctx Tryz.prog Gt tab).isAgg 43 = some true := by kernel_rfl
theorem Ty.nf43 : (ctx Tryz.prog Gt tab).isIf 43 = some false := by kernel_rfl
theorem Ty.zr43 : (ctx Tryz.prog Gt tab).zero 43 = some (.v (.agg [.d (.str []), .d (.str []), .d (.int .i64 0), .d (.sl true []), .d (.bool false)])) := by kernel_rfl
theorem Ty.ap43 : (ctx Tryz.prog Gt tab).apz 43 = some (5, 72) := by kernel_rfl
theorem Ty.fd43_0 : fld (ctx Tryz.prog Gt tab) (Tryz.prog.underlying 43) x 0 h = fldV (ctx Tryz.prog Gt tab) 24 0 x h := by kernel_rfl
theorem Ty.fa43_0 : fldA (ctx Tryz.prog Gt tab) (Tryz.prog.underlying 43) x 0 h = fldP 0 4 x h := by kernel_rfl
theorem Ty.fd43_1 : fld (ctx Tryz.prog Gt tab) (Tryz.prog.underlying 43) x 1 h = fldV (ctx Tryz.prog Gt tab) 4 4 x h := by kernel_rfl
theorem Ty.fa43_1 : fldA (ctx Tryz.prog Gt tab) (Tryz.prog.underlying 43) x 1 h = fldP 4 1 x h := by kernel_rfl
theorem Ty.pl43 : (ctx Tryz.prog Gt tab).place 43 = some fun i => [(0, 4), (4, 1)][i]? := by kernel_rfl
theorem Ty.sz51 : (ctx Tryz.prog Gt tab).size 51 = some 5 := by kernel_rfl
theorem Ty.ag51 : (ctx Tryz.prog Gt tab).isAgg 51 = some true := by kernel_rfl
theorem Ty.nf51 : (ctx Tryz.prog Gt tab).isIf 51 = some false := by kernel_rfl
theorem Ty.ft51 : (ctx Tryz.prog Gt tab).flat 51 = some [.i .i64, .s, .i .i64, .i .i64, .i .i64] := by kernel_rfl
theorem Ty.zr51 : (ctx Tryz.prog Gt tab).zero 51 = some (.v (.agg [.d (.int .i64 0), .d (.str []), .d (.int .i64 0), .d (.int .i64 0), .d (.int .i64 0)])) := by kernel_rfl
theorem Ty.ap51 : (ctx Tryz.prog Gt tab).apz 51 = some (5, 48) := by kernel_rfl
theorem Ty.fd51_0 : fld (ctx Tryz.prog Gt tab) (Tryz.prog.underlying 51) x 0 h = fldV (ctx Tryz.prog Gt tab) 3 0 x h := by kernel_rfl
theorem Ty.fa51_0 : fldA (ctx Tryz.prog Gt tab) (Tryz.prog.underlying 51) x 0 h = fldP 0 1 x h := by kernel_rfl
theorem Ty.fd51_1 : fld (ctx Tryz.prog Gt tab) (Tryz.prog.underlying 51) x 1 h = fldV (ctx Tryz.prog Gt tab) 9 1 x h := by kernel_rfl
theorem Ty.fa51_1 : fldA (ctx Tryz.prog Gt tab) (Tryz.prog.underlying 51) x 1 h = fldP 1 1 x h := by kernel_rfl
theorem Ty.fd51_2 : fld (ctx Tryz.prog Gt tab) (Tryz.prog.underlying 51) x 2 h = fldV (ctx Tryz.prog Gt tab) 3 2 x h := by kernel_rfl
theorem Ty.fa51_2 : fldA (ctx Tryz.prog Gt tab) (Tryz.prog.underlying 51) x 2 h = fldP 2 1 x h := by kernel_rfl
theorem Ty.fd51_3 : fld (ctx Tryz.prog Gt tab) (Tryz.prog.underlying 51) x 3 h = fldV (ctx Tryz.prog Gt tab) 3 3 x h := by kernel_rfl
theorem Ty.fa51_3 : fldA (ctx Tryz.prog Gt tab) (Tryz.prog.underlying 51) x 3 h = fldP 3 1 x h := by kernel_rfl
theorem Ty.fd51_4 : fld (ctx Tryz.prog Gt tab) (Tryz.prog.underlying 51) x 4 h = fldV (ctx Tryz.prog Gt tab) 3 4 x h := by kernel_rfl
theorem Ty.fa51_4 : fldA (ctx Tryz.prog Gt tab) (Tryz.prog.underlying 51) x 4 h = fldP 4 1 x h := by kernel_rfl
theorem Ty.pl51 : (ctx Tryz.prog Gt tab).place 51 = some fun i => [(0, 1), (1, 1), (2, 1), (3, 1), (4, 1)][i]? := by kernel_rfl
theorem Ty.sz54 : (ctx Tryz.prog Gt tab).size 54 = some 1 := by kernel_rfl
theorem Ty.ag54 : (ctx Tryz.prog Gt tab).isAgg 54 = some true := by kernel_rfl
theorem Ty.nf54 : (ctx Tryz.prog Gt tab).isIf 54 = some false := by kernel_rfl
theorem Ty.ft54 : (ctx Tryz.prog Gt tab).flat 54 = some [.i .i64] := by kernel_rfl
theorem Ty.zr54 : (ctx Tryz.prog Gt tab).zero 54 = some (.v (.agg [.d (.int .i64 0)])) := by kernel_rfl
theorem Ty.ap54 : (ctx Tryz.prog Gt tab).apz 54 = some (1, 8) := by kernel_rfl
theorem Ty.fd54_0 : fld (ctx Tryz.prog Gt tab) (Tryz.prog.underlying 54) x 0 h = fldV (ctx Tryz.prog Gt tab) 25 0 x h := by kernel_rfl
theorem Ty.fa54_0 : fldA (ctx Tryz.prog Gt tab) (Tryz.prog.underlying 54) x 0 h = fldP 0 1 x h := by kernel_rfl
theorem Ty.pl54 : (ctx Tryz.prog Gt tab).place 54 = some fun i => [(0, 1)][i]? := by kernel_rfl
theorem Ty.sz67 : (ctx Tryz.prog Gt tab).size 67 = some 1 := by kernel_rfl
theorem Ty.ag67 : (ctx Tryz.prog Gt tab).isAgg 67 = some false := by kernel_rfl
theorem Ty.pt67 : (ctx Tryz.prog Gt tab).ptT 67 = some true := by kernel_rfl
theorem Ty.zr67 : (ctx Tryz.prog Gt tab).zero 67 = some (.v (.c .nilp)) := by kernel_rfl
theorem Ty.ap67 : (ctx Tryz.prog Gt tab).apz 67 = some (1, 8) := by kernel_rfl
theorem Ty.sz68 : (ctx Tryz.prog Gt tab).size 68 = some 1 := by kernel_rfl
theorem Ty.ag68 : (ctx Tryz.prog Gt tab).isAgg 68 = some false := by kernel_rfl
theorem Ty.zr68 : (ctx Tryz.prog Gt tab).zero 68 = some (.v (.c (.d (.sl true [])))) := by kernel_rfl
theorem Ty.ap68 : (ctx Tryz.prog Gt tab).apz 68 = some (1, 24) := by kernel_rfl
theorem Ty.un68 : Tryz.prog.underlying 68 = some (Go.TypeDesc.slice 5) := by kernel_rfl
theorem Ty.sz70 : (ctx Tryz.prog Gt tab).size 70 = some 2 := by kernel_rfl
theorem Ty.ag70 : (ctx Tryz.prog Gt tab).isAgg 70 = some true := by kernel_rfl
theorem Ty.nf70 : (ctx Tryz.prog Gt tab).isIf 70 = some false := by kernel_rfl
theorem Ty.zr70 : (ctx Tryz.prog Gt tab).zero 70 = some (.v (.agg [.nilp, .d (.sl true [])])) := by kernel_rfl
theorem Ty.ap70 : (ctx Tryz.prog Gt tab).apz 70 = some (2, 32) := by kernel_rfl
theorem Ty.fd70_0 : fld (ctx Tryz.prog Gt tab) (Tryz.prog.underlying 70) x 0 h = fldV (ctx Tryz.prog Gt tab) 67 0 x h := by kernel_rfl
theorem Ty.fa70_0 : fldA (ctx Tryz.prog Gt tab) (Tryz.prog.underlying 70) x 0 h = fldP 0 1 x h := by kernel_rfl
theorem Ty.fd70_1 : fld (ctx Tryz.prog Gt tab) (Tryz.prog.underlying 70) x 1 h = fldV (ctx Tryz.prog Gt tab) 68 1 x h := by kernel_rfl
theorem Ty.fa70_1 : fldA (ctx Tryz.prog Gt tab) (Tryz.prog.underlying 70) x 1 h = fldP 1 1 x h := by kernel_rfl
theorem Ty.pl70 : (ctx Tryz.prog Gt tab).place 70 = some fun i => [(0, 1), (1, 1)][i]? := by kernel_rfl
theorem Ty.sz96 : (ctx Tryz.prog Gt tab).size 96 = some 1 := by kernel_rfl
theorem Ty.ag96 : (ctx Tryz.prog Gt tab).isAgg 96 = some false := by kernel_rfl
theorem Ty.zr96 : (ctx Tryz.prog Gt tab).zero 96 = some (.v (.c (.d (.sl true [])))) := by kernel_rfl
theorem Ty.ap96 : (ctx Tryz.prog Gt tab).apz 96 = some (1, 24) := by kernel_rfl
theorem Ty.un96 : Tryz.prog.underlying 96 = some (Go.TypeDesc.slice 3) := by kernel_rfl
theorem Ty.sz98 : (ctx Tryz.prog Gt tab).size 98 = some 1 := by kernel_rfl
theorem Ty.ag98 : (ctx Tryz.prog Gt tab).isAgg 98 = some false := by kernel_rfl
theorem Ty.nf98 : (ctx Tryz.prog Gt tab).isIf 98 = some false := by kernel_rfl
theorem Ty.zr98 : (ctx Tryz.prog Gt tab).zero 98 = some (.v (.c (.d (.int .u64 0)))) := by kernel_rfl
theorem Ty.ap98 : (ctx Tryz.prog Gt tab).apz 98 = some (1, 8) := by kernel_rfl
theorem Ty.un98 : Tryz.prog.underlying 98 = some (Go.TypeDesc.int Go.IntKind.u64) := by kernel_rfl
end

/-- All of them, for simp. -/
theorem TY : type_of% @Ty.sz3 ∧
  type_of% @Ty.ag3 ∧
  type_of% @Ty.nf3 ∧
  type_of% @Ty.zr3 ∧
  type_of% @Ty.ap3 ∧
  type_of% @Ty.un3 ∧
  type_of% @Ty.sz4 ∧
  type_of% @Ty.ag4 ∧
  type_of% @Ty.zr4 ∧
  type_of% @Ty.ap4 ∧
  type_of% @Ty.un4 ∧
  type_of% @Ty.sz5 ∧
  type_of% @Ty.ag5 ∧
  type_of% @Ty.nf5 ∧
  type_of% @Ty.zr5 ∧
  type_of% @Ty.ap5 ∧
  type_of% @Ty.un5 ∧
  type_of% @Ty.sz9 ∧
  type_of% @Ty.ag9 ∧
  type_of% @Ty.zr9 ∧
  type_of% @Ty.ap9 ∧
  type_of% @Ty.un9 ∧
  type_of% @Ty.sz20 ∧
  type_of% @Ty.ag20 ∧
  type_of% @Ty.if20 ∧
  type_of% @Ty.zr20 ∧
  type_of% @Ty.ap20 ∧
  type_of% @Ty.sz21 ∧
  type_of% @Ty.ag21 ∧
  type_of% @Ty.nf21 ∧
  type_of% @Ty.zr21 ∧
  type_of% @Ty.ap21 ∧
  type_of% @Ty.un21 ∧
  type_of% @Ty.sz22 ∧
  type_of% @Ty.ag22 ∧
  type_of% @Ty.zr22 ∧
  type_of% @Ty.ap22 ∧
  type_of% @Ty.un22 ∧
  type_of% @Ty.sz24 ∧
  type_of% @Ty.ag24 ∧
  type_of% @Ty.nf24 ∧
  type_of% @Ty.zr24 ∧
  type_of% @Ty.ap24 ∧
  type_of% @Ty.fd24_0 ∧
  type_of% @Ty.fa24_0 ∧
  type_of% @Ty.fd24_1 ∧
  type_of% @Ty.fa24_1 ∧
  type_of% @Ty.fd24_2 ∧
  type_of% @Ty.fa24_2 ∧
  type_of% @Ty.fd24_3 ∧
  type_of% @Ty.fa24_3 ∧
  type_of% @Ty.pl24 ∧
  type_of% @Ty.sz25 ∧
  type_of% @Ty.ag25 ∧
  type_of% @Ty.nf25 ∧
  type_of% @Ty.zr25 ∧
  type_of% @Ty.ap25 ∧
  type_of% @Ty.un25 ∧
  type_of% @Ty.sz33 ∧
  type_of% @Ty.ag33 ∧
  type_of% @Ty.pt33 ∧
  type_of% @Ty.zr33 ∧
  type_of% @Ty.ap33 ∧
  type_of% @Ty.sz35 ∧
  type_of% @Ty.ag35 ∧
  type_of% @Ty.nf35 ∧
  type_of% @Ty.zr35 ∧
  type_of% @Ty.ap35 ∧
  type_of% @Ty.fd35_0 ∧
  type_of% @Ty.fa35_0 ∧
  type_of% @Ty.fd35_1 ∧
  type_of% @Ty.fa35_1 ∧
  type_of% @Ty.fd35_2 ∧
  type_of% @Ty.fa35_2 ∧
  type_of% @Ty.pl35 ∧
  type_of% @Ty.sz39 ∧
  type_of% @Ty.ag39 ∧
  type_of% @Ty.zr39 ∧
  type_of% @Ty.ap39 ∧
  type_of% @Ty.un39 ∧
  type_of% @Ty.sz43 ∧
  type_of% @Ty.ag43 ∧
  type_of% @Ty.nf43 ∧
  type_of% @Ty.zr43 ∧
  type_of% @Ty.ap43 ∧
  type_of% @Ty.fd43_0 ∧
  type_of% @Ty.fa43_0 ∧
  type_of% @Ty.fd43_1 ∧
  type_of% @Ty.fa43_1 ∧
  type_of% @Ty.pl43 ∧
  type_of% @Ty.sz51 ∧
  type_of% @Ty.ag51 ∧
  type_of% @Ty.nf51 ∧
  type_of% @Ty.ft51 ∧
  type_of% @Ty.zr51 ∧
  type_of% @Ty.ap51 ∧
  type_of% @Ty.fd51_0 ∧
  type_of% @Ty.fa51_0 ∧
  type_of% @Ty.fd51_1 ∧
  type_of% @Ty.fa51_1 ∧
  type_of% @Ty.fd51_2 ∧
  type_of% @Ty.fa51_2 ∧
  type_of% @Ty.fd51_3 ∧
  type_of% @Ty.fa51_3 ∧
  type_of% @Ty.fd51_4 ∧
  type_of% @Ty.fa51_4 ∧
  type_of% @Ty.pl51 ∧
  type_of% @Ty.sz54 ∧
  type_of% @Ty.ag54 ∧
  type_of% @Ty.nf54 ∧
  type_of% @Ty.ft54 ∧
  type_of% @Ty.zr54 ∧
  type_of% @Ty.ap54 ∧
  type_of% @Ty.fd54_0 ∧
  type_of% @Ty.fa54_0 ∧
  type_of% @Ty.pl54 ∧
  type_of% @Ty.sz67 ∧
  type_of% @Ty.ag67 ∧
  type_of% @Ty.pt67 ∧
  type_of% @Ty.zr67 ∧
  type_of% @Ty.ap67 ∧
  type_of% @Ty.sz68 ∧
  type_of% @Ty.ag68 ∧
  type_of% @Ty.zr68 ∧
  type_of% @Ty.ap68 ∧
  type_of% @Ty.un68 ∧
  type_of% @Ty.sz70 ∧
  type_of% @Ty.ag70 ∧
  type_of% @Ty.nf70 ∧
  type_of% @Ty.zr70 ∧
  type_of% @Ty.ap70 ∧
  type_of% @Ty.fd70_0 ∧
  type_of% @Ty.fa70_0 ∧
  type_of% @Ty.fd70_1 ∧
  type_of% @Ty.fa70_1 ∧
  type_of% @Ty.pl70 ∧
  type_of% @Ty.sz96 ∧
  type_of% @Ty.ag96 ∧
  type_of% @Ty.zr96 ∧
  type_of% @Ty.ap96 ∧
  type_of% @Ty.un96 ∧
  type_of% @Ty.sz98 ∧
  type_of% @Ty.ag98 ∧
  type_of% @Ty.nf98 ∧
  type_of% @Ty.zr98 ∧
  type_of% @Ty.ap98 ∧
  type_of% @Ty.un98 :=
  ⟨@Ty.sz3, @Ty.ag3, @Ty.nf3, @Ty.zr3, @Ty.ap3, @Ty.un3, @Ty.sz4, @Ty.ag4, @Ty.zr4, @Ty.ap4, @Ty.un4, @Ty.sz5, @Ty.ag5, @Ty.nf5, @Ty.zr5, @Ty.ap5, @Ty.un5, @Ty.sz9, @Ty.ag9, @Ty.zr9, @Ty.ap9, @Ty.un9, @Ty.sz20, @Ty.ag20, @Ty.if20, @Ty.zr20, @Ty.ap20, @Ty.sz21, @Ty.ag21, @Ty.nf21, @Ty.zr21, @Ty.ap21, @Ty.un21, @Ty.sz22, @Ty.ag22, @Ty.zr22, @Ty.ap22, @Ty.un22, @Ty.sz24, @Ty.ag24, @Ty.nf24, @Ty.zr24, @Ty.ap24, @Ty.fd24_0, @Ty.fa24_0, @Ty.fd24_1, @Ty.fa24_1, @Ty.fd24_2, @Ty.fa24_2, @Ty.fd24_3, @Ty.fa24_3, @Ty.pl24, @Ty.sz25, @Ty.ag25, @Ty.nf25, @Ty.zr25, @Ty.ap25, @Ty.un25, @Ty.sz33, @Ty.ag33, @Ty.pt33, @Ty.zr33, @Ty.ap33, @Ty.sz35, @Ty.ag35, @Ty.nf35, @Ty.zr35, @Ty.ap35, @Ty.fd35_0, @Ty.fa35_0, @Ty.fd35_1, @Ty.fa35_1, @Ty.fd35_2, @Ty.fa35_2, @Ty.pl35, @Ty.sz39, @Ty.ag39, @Ty.zr39, @Ty.ap39, @Ty.un39, @Ty.sz43, @Ty.ag43, @Ty.nf43, @Ty.zr43, @Ty.ap43, @Ty.fd43_0, @Ty.fa43_0, @Ty.fd43_1, @Ty.fa43_1, @Ty.pl43, @Ty.sz51, @Ty.ag51, @Ty.nf51, @Ty.ft51, @Ty.zr51, @Ty.ap51, @Ty.fd51_0, @Ty.fa51_0, @Ty.fd51_1, @Ty.fa51_1, @Ty.fd51_2, @Ty.fa51_2, @Ty.fd51_3, @Ty.fa51_3, @Ty.fd51_4, @Ty.fa51_4, @Ty.pl51, @Ty.sz54, @Ty.ag54, @Ty.nf54, @Ty.ft54, @Ty.zr54, @Ty.ap54, @Ty.fd54_0, @Ty.fa54_0, @Ty.pl54, @Ty.sz67, @Ty.ag67, @Ty.pt67, @Ty.zr67, @Ty.ap67, @Ty.sz68, @Ty.ag68, @Ty.zr68, @Ty.ap68, @Ty.un68, @Ty.sz70, @Ty.ag70, @Ty.nf70, @Ty.zr70, @Ty.ap70, @Ty.fd70_0, @Ty.fa70_0, @Ty.fd70_1, @Ty.fa70_1, @Ty.pl70, @Ty.sz96, @Ty.ag96, @Ty.zr96, @Ty.ap96, @Ty.un96, @Ty.sz98, @Ty.ag98, @Ty.nf98, @Ty.zr98, @Ty.ap98, @Ty.un98⟩

end Go.Ab
