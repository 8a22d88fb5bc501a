/-
  Printed by gen.py: the types of this seat, as the words of HlF and HlH ask for them.
-/
import Derived.Test.YtbkicgfgpmekeaaGreatGenId
import Derived.Test.YtbkicgfgpmekeaaGreatHlH
set_option linter.unusedVariables false
set_option maxRecDepth 100000
namespace Go.Proofs.YtbkicgfgpmekeaaGreat.HL
open Go.Proofs
namespace W
theorem c2 : cell1 PP 2 = true := by kernel_rfl
@[go_sem] theorem ld2 {w0 : World} {M : Mem} (a : Addr) : (std PP w0).ld 2 a M = rd w0 M a := ld_one c2 a
theorem e2 : ElemOk PP 2 (.int .i64 0) 1 := elem_ok (by kernel_rfl) rfl
theorem c3 : cell1 PP 3 = true := by kernel_rfl
@[go_sem] theorem ld3 {w0 : World} {M : Mem} (a : Addr) : (std PP w0).ld 3 a M = rd w0 M a := ld_one c3 a
theorem e3 : ElemOk PP 3 (.int .i64 0) 1 := elem_ok (by kernel_rfl) rfl
theorem c4 : cell1 PP 4 = true := by kernel_rfl
@[go_sem] theorem ld4 {w0 : World} {M : Mem} (a : Addr) : (std PP w0).ld 4 a M = rd w0 M a := ld_one c4 a
theorem e4 : ElemOk PP 4 (.bool false) 1 := elem_ok (by kernel_rfl) rfl
@[go_sem] theorem eqb4 {w0 : World} {X Y : Operand} (a b : Bool) : (std PP w0).bq .eql 4 X Y (.bool a) (.bool b) = some (.bool (a == b)) := eql_bool Tryz.underlying4 a b
@[go_sem] theorem neb4 {w0 : World} {X Y : Operand} (a b : Bool) : (std PP w0).bq .neq 4 X Y (.bool a) (.bool b) = some (.bool (!(a == b))) := neq_bool Tryz.underlying4 a b
theorem c22 : cell1 PP 22 = true := by kernel_rfl
@[go_sem] theorem ld22 {w0 : World} {M : Mem} (a : Addr) : (std PP w0).ld 22 a M = rd w0 M a := ld_one c22 a
theorem e22 : ElemOk PP 22 (.pointer none) 1 := elem_ok (by kernel_rfl) rfl
@[go_sem] theorem eqp22 {w0 : World} {X Y : Operand} (a : Option Addr) : (std PP w0).bq .eql 22 X Y (.pointer a) (.pointer none) = some (.bool a.isNone) := eql_nil Tryz.underlying22 a
@[go_sem] theorem nep22 {w0 : World} {X Y : Operand} (a : Option Addr) : (std PP w0).bq .neq 22 X Y (.pointer a) (.pointer none) = some (.bool (!a.isNone)) := neq_nil Tryz.underlying22 a
theorem c25 : cell1 PP 25 = true := by kernel_rfl
@[go_sem] theorem ld25 {w0 : World} {M : Mem} (a : Addr) : (std PP w0).ld 25 a M = rd w0 M a := ld_one c25 a
theorem e25 : ElemOk PP 25 (.slice none 0 0) 1 := elem_ok (by kernel_rfl) rfl
@[go_sem] theorem eqs25 {w0 : World} {X Y : Operand} (s : SV) : (std PP w0).bq .eql 25 X Y (SV.v s) (.slice none 0 0) = some (.bool s.a.isNone) := eql_nils Tryz.underlying25 s
@[go_sem] theorem nes25 {w0 : World} {X Y : Operand} (s : SV) : (std PP w0).bq .neq 25 X Y (SV.v s) (.slice none 0 0) = some (.bool (!s.a.isNone)) := neq_nils Tryz.underlying25 s
theorem c30 : cell1 PP 30 = true := by kernel_rfl
@[go_sem] theorem ld30 {w0 : World} {M : Mem} (a : Addr) : (std PP w0).ld 30 a M = rd w0 M a := ld_one c30 a
theorem e30 : ElemOk PP 30 (.pointer none) 1 := elem_ok (by kernel_rfl) rfl
@[go_sem] theorem eqp30 {w0 : World} {X Y : Operand} (a : Option Addr) : (std PP w0).bq .eql 30 X Y (.pointer a) (.pointer none) = some (.bool a.isNone) := eql_nil Tryz.underlying30 a
@[go_sem] theorem nep30 {w0 : World} {X Y : Operand} (a : Option Addr) : (std PP w0).bq .neq 30 X Y (.pointer a) (.pointer none) = some (.bool (!a.isNone)) := neq_nil Tryz.underlying30 a
theorem g31 : aggOf PP 31 2 = true := by kernel_rfl
theorem e31 : ElemOk PP 31 (.agg #[.int .i64 0, .int .i64 0]) 2 := elem_ok (by kernel_rfl) rfl
theorem c32 : cell1 PP 32 = true := by kernel_rfl
@[go_sem] theorem ld32 {w0 : World} {M : Mem} (a : Addr) : (std PP w0).ld 32 a M = rd w0 M a := ld_one c32 a
theorem e32 : ElemOk PP 32 (.slice none 0 0) 1 := elem_ok (by kernel_rfl) rfl
@[go_sem] theorem eqs32 {w0 : World} {X Y : Operand} (s : SV) : (std PP w0).bq .eql 32 X Y (SV.v s) (.slice none 0 0) = some (.bool s.a.isNone) := eql_nils Tryz.underlying32 s
@[go_sem] theorem nes32 {w0 : World} {X Y : Operand} (s : SV) : (std PP w0).bq .neq 32 X Y (SV.v s) (.slice none 0 0) = some (.bool (!s.a.isNone)) := neq_nils Tryz.underlying32 s
theorem g35 : aggOf PP 35 8 = true := by kernel_rfl
theorem e35 : ElemOk PP 35 (.agg #[.pointer none, .int .i64 0, .int .i64 0, .slice none 0 0, .slice none 0 0, .int .i64 0, .int .i64 0, .int .i64 0]) 8 := elem_ok (by kernel_rfl) rfl
theorem g44 : aggOf PP 44 4 = true := by kernel_rfl
theorem e44 : ElemOk PP 44 (.agg #[.int .i64 0, .int .i64 0, .int .i64 0, .int .i64 0]) 4 := elem_ok (by kernel_rfl) rfl
theorem c47 : cell1 PP 47 = true := by kernel_rfl
@[go_sem] theorem ld47 {w0 : World} {M : Mem} (a : Addr) : (std PP w0).ld 47 a M = rd w0 M a := ld_one c47 a
theorem e47 : ElemOk PP 47 (.pointer none) 1 := elem_ok (by kernel_rfl) rfl
@[go_sem] theorem eqp47 {w0 : World} {X Y : Operand} (a : Option Addr) : (std PP w0).bq .eql 47 X Y (.pointer a) (.pointer none) = some (.bool a.isNone) := eql_nil Tryz.underlying47 a
@[go_sem] theorem nep47 {w0 : World} {X Y : Operand} (a : Option Addr) : (std PP w0).bq .neq 47 X Y (.pointer a) (.pointer none) = some (.bool (!a.isNone)) := neq_nil Tryz.underlying47 a
theorem g55 : aggOf PP 55 2 = true := by kernel_rfl
theorem e55 : ElemOk PP 55 (.agg #[.int .i64 0, .int .i64 0]) 2 := elem_ok (by kernel_rfl) rfl
theorem g57 : aggOf PP 57 3 = true := by kernel_rfl
theorem e57 : ElemOk PP 57 (.agg #[.int .i64 0, .int .i64 0, .int .i64 0]) 3 := elem_ok (by kernel_rfl) rfl
theorem c61 : cell1 PP 61 = true := by kernel_rfl
@[go_sem] theorem ld61 {w0 : World} {M : Mem} (a : Addr) : (std PP w0).ld 61 a M = rd w0 M a := ld_one c61 a
theorem e61 : ElemOk PP 61 (.slice none 0 0) 1 := elem_ok (by kernel_rfl) rfl
@[go_sem] theorem eqs61 {w0 : World} {X Y : Operand} (s : SV) : (std PP w0).bq .eql 61 X Y (SV.v s) (.slice none 0 0) = some (.bool s.a.isNone) := eql_nils Tryz.underlying61 s
@[go_sem] theorem nes61 {w0 : World} {X Y : Operand} (s : SV) : (std PP w0).bq .neq 61 X Y (SV.v s) (.slice none 0 0) = some (.bool (!s.a.isNone)) := neq_nils Tryz.underlying61 s
theorem c69 : cell1 PP 69 = true := by kernel_rfl
@[go_sem] theorem ld69 {w0 : World} {M : Mem} (a : Addr) : (std PP w0).ld 69 a M = rd w0 M a := ld_one c69 a
theorem e69 : ElemOk PP 69 (.slice none 0 0) 1 := elem_ok (by kernel_rfl) rfl
@[go_sem] theorem eqs69 {w0 : World} {X Y : Operand} (s : SV) : (std PP w0).bq .eql 69 X Y (SV.v s) (.slice none 0 0) = some (.bool s.a.isNone) := eql_nils Tryz.underlying69 s
@[go_sem] theorem nes69 {w0 : World} {X Y : Operand} (s : SV) : (std PP w0).bq .neq 69 X Y (SV.v s) (.slice none 0 0) = some (.bool (!s.a.isNone)) := neq_nils Tryz.underlying69 s
theorem g71 : aggOf PP 71 4 = true := by kernel_rfl
theorem e71 : ElemOk PP 71 (.agg #[.slice none 0 0, .int .i64 0, .slice none 0 0, .pointer none]) 4 := elem_ok (by kernel_rfl) rfl
theorem g74 : aggOf PP 74 3 = true := by kernel_rfl
theorem e74 : ElemOk PP 74 (.agg #[.int .i64 0, .int .i64 0, .int .i64 0]) 3 := elem_ok (by kernel_rfl) rfl
theorem g82 : aggOf PP 82 11 = true := by kernel_rfl
theorem e82 : ElemOk PP 82 (.agg #[.int .i64 0, .int .i64 0, .int .i64 0, .int .i64 0, .int .i64 0, .int .i64 0, .int .i64 0, .int .i64 0, .int .i64 0, .int .i64 0, .bool false]) 11 := elem_ok (by kernel_rfl) rfl
theorem c105 : cell1 PP 105 = true := by kernel_rfl
@[go_sem] theorem ld105 {w0 : World} {M : Mem} (a : Addr) : (std PP w0).ld 105 a M = rd w0 M a := ld_one c105 a
theorem e105 : ElemOk PP 105 (.int .u64 0) 1 := elem_ok (by kernel_rfl) rfl
theorem c106 : cell1 PP 106 = true := by kernel_rfl
@[go_sem] theorem ld106 {w0 : World} {M : Mem} (a : Addr) : (std PP w0).ld 106 a M = rd w0 M a := ld_one c106 a
theorem e106 : ElemOk PP 106 (.slice none 0 0) 1 := elem_ok (by kernel_rfl) rfl
@[go_sem] theorem eqs106 {w0 : World} {X Y : Operand} (s : SV) : (std PP w0).bq .eql 106 X Y (SV.v s) (.slice none 0 0) = some (.bool s.a.isNone) := eql_nils Tryz.underlying106 s
@[go_sem] theorem nes106 {w0 : World} {X Y : Operand} (s : SV) : (std PP w0).bq .neq 106 X Y (SV.v s) (.slice none 0 0) = some (.bool (!s.a.isNone)) := neq_nils Tryz.underlying106 s
theorem c109 : cell1 PP 109 = true := by kernel_rfl
@[go_sem] theorem ld109 {w0 : World} {M : Mem} (a : Addr) : (std PP w0).ld 109 a M = rd w0 M a := ld_one c109 a
theorem e109 : ElemOk PP 109 (.slice none 0 0) 1 := elem_ok (by kernel_rfl) rfl
@[go_sem] theorem eqs109 {w0 : World} {X Y : Operand} (s : SV) : (std PP w0).bq .eql 109 X Y (SV.v s) (.slice none 0 0) = some (.bool s.a.isNone) := eql_nils Tryz.underlying109 s
@[go_sem] theorem nes109 {w0 : World} {X Y : Operand} (s : SV) : (std PP w0).bq .neq 109 X Y (SV.v s) (.slice none 0 0) = some (.bool (!s.a.isNone)) := neq_nils Tryz.underlying109 s
theorem g111 : aggOf PP 111 2 = true := by kernel_rfl
theorem e111 : ElemOk PP 111 (.agg #[.int .i64 0, .int .i64 0]) 2 := elem_ok (by kernel_rfl) rfl
theorem c128 : cell1 PP 128 = true := by kernel_rfl
@[go_sem] theorem ld128 {w0 : World} {M : Mem} (a : Addr) : (std PP w0).ld 128 a M = rd w0 M a := ld_one c128 a
theorem e128 : ElemOk PP 128 (.int .u64 0) 1 := elem_ok (by kernel_rfl) rfl
@[go_sem] theorem b111_0 {w0 : World} (x0 : Int) (x1 : Int) : (std PP w0).bld 111 [(0, .int .i64 x0), (1, .int .i64 x1)] = some (.agg #[.int .i64 x0, .int .i64 x1]) := by kernel_rfl
@[go_sem] theorem b31_1 {w0 : World} (x0 : Int) (x1 : Int) : (std PP w0).bld 31 [(0, .int .i64 x0), (1, .int .i64 x1)] = some (.agg #[.int .i64 x0, .int .i64 x1]) := by kernel_rfl
@[go_sem] theorem b35_2 {w0 : World} (x0 : Option Addr) (x1 : Int) (x2 : Int) : (std PP w0).bld 35 [(0, .pointer x0), (1, .agg #[.int .i64 x1, .int .i64 x2])] = some (.agg #[.pointer x0, .int .i64 x1, .int .i64 x2, .slice none 0 0, .slice none 0 0, .int .i64 0, .int .i64 0, .int .i64 0]) := by kernel_rfl
@[go_sem] theorem b55_3 {w0 : World} (x0 : Int) (x1 : Int) : (std PP w0).bld 55 [(0, .int .i64 x0), (1, .int .i64 x1)] = some (.agg #[.int .i64 x0, .int .i64 x1]) := by kernel_rfl
@[go_sem] theorem b55_4 {w0 : World} : (std PP w0).bld 55 [] = some (.agg #[.int .i64 0, .int .i64 0]) := by kernel_rfl
@[go_sem] theorem b57_5 {w0 : World} (x0 : Int) (x1 : Int) (x2 : Int) : (std PP w0).bld 57 [(0, .int .i64 x0), (1, .agg #[.int .i64 x1, .int .i64 x2])] = some (.agg #[.int .i64 x0, .int .i64 x1, .int .i64 x2]) := by kernel_rfl
@[go_sem] theorem b57_6 {w0 : World} : (std PP w0).bld 57 [] = some (.agg #[.int .i64 0, .int .i64 0, .int .i64 0]) := by kernel_rfl
@[go_sem] theorem b71_7 {w0 : World} (x0 : SV) (x1 : Option Addr) : (std PP w0).bld 71 [(0, SV.v x0), (3, .pointer x1)] = some (.agg #[SV.v x0, .int .i64 0, .slice none 0 0, .pointer x1]) := by kernel_rfl
@[go_sem] theorem b74_8 {w0 : World} : (std PP w0).bld 74 [] = some (.agg #[.int .i64 0, .int .i64 0, .int .i64 0]) := by kernel_rfl
@[go_sem] theorem b82_9 {w0 : World} (x0 : Bool) : (std PP w0).bld 82 [(1, .bool x0)] = some (.agg #[.int .i64 0, .int .i64 0, .int .i64 0, .int .i64 0, .int .i64 0, .int .i64 0, .int .i64 0, .int .i64 0, .int .i64 0, .int .i64 0, .bool x0]) := by kernel_rfl
end W
end Go.Proofs.YtbkicgfgpmekeaaGreat.HL
