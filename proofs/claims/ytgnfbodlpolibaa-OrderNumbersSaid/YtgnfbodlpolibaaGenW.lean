/-
  Printed by gen.py: the types of this seat, as the words of HlF and HlH ask for them.
-/
import Derived.Test.YtgnfbodlpolibaaGenId
import Derived.Test.YtgnfbodlpolibaaHlH
set_option linter.unusedVariables false
set_option maxRecDepth 100000
namespace Go.Proofs.Ytgnfbodlpolibaa.HL
open Go.Proofs
namespace W
theorem c2 : cell1 PP 2 = true := by kernel_rfl
@[go_sem] theorem ld2 {w0 : World} {M : Mem} (a : Addr) : (std PP w0).ld 2 a M = rd w0 M a := ld_one c2 a
theorem e2 : ElemOk PP 2 (.int .i64 0) 1 := elem_ok (by kernel_rfl) rfl
theorem c3 : cell1 PP 3 = true := by kernel_rfl
@[go_sem] theorem ld3 {w0 : World} {M : Mem} (a : Addr) : (std PP w0).ld 3 a M = rd w0 M a := ld_one c3 a
theorem e3 : ElemOk PP 3 (.int .i64 0) 1 := elem_ok (by kernel_rfl) rfl
theorem c4 : cell1 PP 4 = true := by kernel_rfl
@[go_sem] theorem ld4 {w0 : World} {M : Mem} (a : Addr) : (std PP w0).ld 4 a M = rd w0 M a := ld_one c4 a
theorem e4 : ElemOk PP 4 (.bool false) 1 := elem_ok (by kernel_rfl) rfl
@[go_sem] theorem eqb4 {w0 : World} {X Y : Operand} (a b : Bool) : (std PP w0).bq .eql 4 X Y (.bool a) (.bool b) = some (.bool (a == b)) := eql_bool Try.underlying4 a b
@[go_sem] theorem neb4 {w0 : World} {X Y : Operand} (a b : Bool) : (std PP w0).bq .neq 4 X Y (.bool a) (.bool b) = some (.bool (!(a == b))) := neq_bool Try.underlying4 a b
theorem c30 : cell1 PP 30 = true := by kernel_rfl
@[go_sem] theorem ld30 {w0 : World} {M : Mem} (a : Addr) : (std PP w0).ld 30 a M = rd w0 M a := ld_one c30 a
theorem e30 : ElemOk PP 30 (.slice none 0 0) 1 := elem_ok (by kernel_rfl) rfl
@[go_sem] theorem eqs30 {w0 : World} {X Y : Operand} (s : SV) : (std PP w0).bq .eql 30 X Y (SV.v s) (.slice none 0 0) = some (.bool s.a.isNone) := eql_nils Try.underlying30 s
@[go_sem] theorem nes30 {w0 : World} {X Y : Operand} (s : SV) : (std PP w0).bq .neq 30 X Y (SV.v s) (.slice none 0 0) = some (.bool (!s.a.isNone)) := neq_nils Try.underlying30 s
theorem g34 : aggOf PP 34 3 = true := by kernel_rfl
theorem e34 : ElemOk PP 34 (.agg #[.int .i64 0, .int .i64 0, .int .i64 0]) 3 := elem_ok (by kernel_rfl) rfl
theorem c36 : cell1 PP 36 = true := by kernel_rfl
@[go_sem] theorem ld36 {w0 : World} {M : Mem} (a : Addr) : (std PP w0).ld 36 a M = rd w0 M a := ld_one c36 a
theorem e36 : ElemOk PP 36 (.slice none 0 0) 1 := elem_ok (by kernel_rfl) rfl
@[go_sem] theorem eqs36 {w0 : World} {X Y : Operand} (s : SV) : (std PP w0).bq .eql 36 X Y (SV.v s) (.slice none 0 0) = some (.bool s.a.isNone) := eql_nils Try.underlying36 s
@[go_sem] theorem nes36 {w0 : World} {X Y : Operand} (s : SV) : (std PP w0).bq .neq 36 X Y (SV.v s) (.slice none 0 0) = some (.bool (!s.a.isNone)) := neq_nils Try.underlying36 s
theorem c37 : cell1 PP 37 = true := by kernel_rfl
@[go_sem] theorem ld37 {w0 : World} {M : Mem} (a : Addr) : (std PP w0).ld 37 a M = rd w0 M a := ld_one c37 a
theorem e37 : ElemOk PP 37 (.pointer none) 1 := elem_ok (by kernel_rfl) rfl
@[go_sem] theorem eqp37 {w0 : World} {X Y : Operand} (a : Option Addr) : (std PP w0).bq .eql 37 X Y (.pointer a) (.pointer none) = some (.bool a.isNone) := eql_nil Try.underlying37 a
@[go_sem] theorem nep37 {w0 : World} {X Y : Operand} (a : Option Addr) : (std PP w0).bq .neq 37 X Y (.pointer a) (.pointer none) = some (.bool (!a.isNone)) := neq_nil Try.underlying37 a
theorem g40 : aggOf PP 40 2 = true := by kernel_rfl
theorem e40 : ElemOk PP 40 (.agg #[.int .i64 0, .int .i64 0]) 2 := elem_ok (by kernel_rfl) rfl
theorem c47 : cell1 PP 47 = true := by kernel_rfl
@[go_sem] theorem ld47 {w0 : World} {M : Mem} (a : Addr) : (std PP w0).ld 47 a M = rd w0 M a := ld_one c47 a
theorem e47 : ElemOk PP 47 (.slice none 0 0) 1 := elem_ok (by kernel_rfl) rfl
@[go_sem] theorem eqs47 {w0 : World} {X Y : Operand} (s : SV) : (std PP w0).bq .eql 47 X Y (SV.v s) (.slice none 0 0) = some (.bool s.a.isNone) := eql_nils Try.underlying47 s
@[go_sem] theorem nes47 {w0 : World} {X Y : Operand} (s : SV) : (std PP w0).bq .neq 47 X Y (SV.v s) (.slice none 0 0) = some (.bool (!s.a.isNone)) := neq_nils Try.underlying47 s
theorem c52 : cell1 PP 52 = true := by kernel_rfl
@[go_sem] theorem ld52 {w0 : World} {M : Mem} (a : Addr) : (std PP w0).ld 52 a M = rd w0 M a := ld_one c52 a
theorem e52 : ElemOk PP 52 (.slice none 0 0) 1 := elem_ok (by kernel_rfl) rfl
@[go_sem] theorem eqs52 {w0 : World} {X Y : Operand} (s : SV) : (std PP w0).bq .eql 52 X Y (SV.v s) (.slice none 0 0) = some (.bool s.a.isNone) := eql_nils Try.underlying52 s
@[go_sem] theorem nes52 {w0 : World} {X Y : Operand} (s : SV) : (std PP w0).bq .neq 52 X Y (SV.v s) (.slice none 0 0) = some (.bool (!s.a.isNone)) := neq_nils Try.underlying52 s
theorem c53 : cell1 PP 53 = true := by kernel_rfl
@[go_sem] theorem ld53 {w0 : World} {M : Mem} (a : Addr) : (std PP w0).ld 53 a M = rd w0 M a := ld_one c53 a
theorem e53 : ElemOk PP 53 (.slice none 0 0) 1 := elem_ok (by kernel_rfl) rfl
@[go_sem] theorem eqs53 {w0 : World} {X Y : Operand} (s : SV) : (std PP w0).bq .eql 53 X Y (SV.v s) (.slice none 0 0) = some (.bool s.a.isNone) := eql_nils Try.underlying53 s
@[go_sem] theorem nes53 {w0 : World} {X Y : Operand} (s : SV) : (std PP w0).bq .neq 53 X Y (SV.v s) (.slice none 0 0) = some (.bool (!s.a.isNone)) := neq_nils Try.underlying53 s
theorem g55 : aggOf PP 55 5 = true := by kernel_rfl
theorem e55 : ElemOk PP 55 (.agg #[.int .i64 0, .int .i64 0, .int .i64 0, .int .i64 0, .slice none 0 0]) 5 := elem_ok (by kernel_rfl) rfl
theorem g74 : aggOf PP 74 1 = true := by kernel_rfl
theorem e74 : ElemOk PP 74 (.agg #[.slice none 0 0]) 1 := elem_ok (by kernel_rfl) rfl
theorem g81 : aggOf PP 81 1 = true := by kernel_rfl
theorem e81 : ElemOk PP 81 (.agg #[.slice none 0 0]) 1 := elem_ok (by kernel_rfl) rfl
@[go_sem] theorem b34_0 {w0 : World} (x0 : Int) (x1 : Int) (x2 : Int) : (std PP w0).bld 34 [(0, .int .i64 x0), (1, .int .i64 x1), (2, .int .i64 x2)] = some (.agg #[.int .i64 x0, .int .i64 x1, .int .i64 x2]) := by kernel_rfl
@[go_sem] theorem b40_1 {w0 : World} (x0 : Int) (x1 : Int) : (std PP w0).bld 40 [(0, .int .i64 x0), (1, .int .i64 x1)] = some (.agg #[.int .i64 x0, .int .i64 x1]) := by kernel_rfl
@[go_sem] theorem b40_2 {w0 : World} (x0 : Int) : (std PP w0).bld 40 [(0, .int .i64 x0)] = some (.agg #[.int .i64 x0, .int .i64 0]) := by kernel_rfl
@[go_sem] theorem b40_3 {w0 : World} (x0 : Int) : (std PP w0).bld 40 [(1, .int .i64 x0)] = some (.agg #[.int .i64 0, .int .i64 x0]) := by kernel_rfl
@[go_sem] theorem b40_4 {w0 : World} : (std PP w0).bld 40 [] = some (.agg #[.int .i64 0, .int .i64 0]) := by kernel_rfl
@[go_sem] theorem b55_5 {w0 : World} (x0 : Int) (x1 : Int) (x2 : Int) (x3 : Int) (x4 : SV) : (std PP w0).bld 55 [(0, .int .i64 x0), (1, .agg #[.int .i64 x1, .int .i64 x2]), (2, .int .i64 x3), (3, SV.v x4)] = some (.agg #[.int .i64 x0, .int .i64 x1, .int .i64 x2, .int .i64 x3, SV.v x4]) := by kernel_rfl
@[go_sem] theorem b74_6 {w0 : World} : (std PP w0).bld 74 [] = some (.agg #[.slice none 0 0]) := by kernel_rfl
@[go_sem] theorem b81_7 {w0 : World} : (std PP w0).bld 81 [] = some (.agg #[.slice none 0 0]) := by kernel_rfl
end W
end Go.Proofs.Ytgnfbodlpolibaa.HL
