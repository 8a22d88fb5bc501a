/-
  Printed by gen.py: the types of this seat, as the words of HlF and HlH ask for them.
-/
import Derived.Test.YtoeijcmpkfjbfaaGenId
import Derived.Test.YtoeijcmpkfjbfaaHlH
set_option linter.unusedVariables false
set_option maxRecDepth 100000
namespace Go.Proofs.Ytoeijcmpkfjbfaa.HL
open Go.Proofs
namespace W
theorem c2 : cell1 PP 2 = true := by kernel_rfl
@[go_sem] theorem ld2 {w0 : World} {M : Mem} (a : Addr) : (std PP w0).ld 2 a M = rd w0 M a := ld_one c2 a
theorem e2 : ElemOk PP 2 (.int .i64 0) 1 := elem_ok (by kernel_rfl) rfl
theorem c3 : cell1 PP 3 = true := by kernel_rfl
@[go_sem] theorem ld3 {w0 : World} {M : Mem} (a : Addr) : (std PP w0).ld 3 a M = rd w0 M a := ld_one c3 a
theorem e3 : ElemOk PP 3 (.int .i64 0) 1 := elem_ok (by kernel_rfl) rfl
theorem c4 : cell1 PP 4 = true := by kernel_rfl
@[go_sem] theorem ld4 {w0 : World} {M : Mem} (a : Addr) : (std PP w0).ld 4 a M = rd w0 M a := ld_one c4 a
theorem e4 : ElemOk PP 4 (.bool false) 1 := elem_ok (by kernel_rfl) rfl
@[go_sem] theorem eqb4 {w0 : World} {X Y : Operand} (a b : Bool) : (std PP w0).bq .eql 4 X Y (.bool a) (.bool b) = some (.bool (a == b)) := eql_bool Try.underlying4 a b
@[go_sem] theorem neb4 {w0 : World} {X Y : Operand} (a b : Bool) : (std PP w0).bq .neq 4 X Y (.bool a) (.bool b) = some (.bool (!(a == b))) := neq_bool Try.underlying4 a b
theorem c22 : cell1 PP 22 = true := by kernel_rfl
@[go_sem] theorem ld22 {w0 : World} {M : Mem} (a : Addr) : (std PP w0).ld 22 a M = rd w0 M a := ld_one c22 a
theorem e22 : ElemOk PP 22 (.slice none 0 0) 1 := elem_ok (by kernel_rfl) rfl
@[go_sem] theorem eqs22 {w0 : World} {X Y : Operand} (s : SV) : (std PP w0).bq .eql 22 X Y (SV.v s) (.slice none 0 0) = some (.bool s.a.isNone) := eql_nils Try.underlying22 s
@[go_sem] theorem nes22 {w0 : World} {X Y : Operand} (s : SV) : (std PP w0).bq .neq 22 X Y (SV.v s) (.slice none 0 0) = some (.bool (!s.a.isNone)) := neq_nils Try.underlying22 s
theorem c23 : cell1 PP 23 = true := by kernel_rfl
@[go_sem] theorem ld23 {w0 : World} {M : Mem} (a : Addr) : (std PP w0).ld 23 a M = rd w0 M a := ld_one c23 a
theorem e23 : ElemOk PP 23 (.pointer none) 1 := elem_ok (by kernel_rfl) rfl
@[go_sem] theorem eqp23 {w0 : World} {X Y : Operand} (a : Option Addr) : (std PP w0).bq .eql 23 X Y (.pointer a) (.pointer none) = some (.bool a.isNone) := eql_nil Try.underlying23 a
@[go_sem] theorem nep23 {w0 : World} {X Y : Operand} (a : Option Addr) : (std PP w0).bq .neq 23 X Y (.pointer a) (.pointer none) = some (.bool (!a.isNone)) := neq_nil Try.underlying23 a
theorem g29 : aggOf PP 29 4 = true := by kernel_rfl
theorem e29 : ElemOk PP 29 (.agg #[.int .i64 0, .int .i64 0, .int .i64 0, .int .i64 0]) 4 := elem_ok (by kernel_rfl) rfl
theorem c38 : cell1 PP 38 = true := by kernel_rfl
@[go_sem] theorem ld38 {w0 : World} {M : Mem} (a : Addr) : (std PP w0).ld 38 a M = rd w0 M a := ld_one c38 a
theorem e38 : ElemOk PP 38 (.slice none 0 0) 1 := elem_ok (by kernel_rfl) rfl
@[go_sem] theorem eqs38 {w0 : World} {X Y : Operand} (s : SV) : (std PP w0).bq .eql 38 X Y (SV.v s) (.slice none 0 0) = some (.bool s.a.isNone) := eql_nils Try.underlying38 s
@[go_sem] theorem nes38 {w0 : World} {X Y : Operand} (s : SV) : (std PP w0).bq .neq 38 X Y (SV.v s) (.slice none 0 0) = some (.bool (!s.a.isNone)) := neq_nils Try.underlying38 s
theorem c39 : cell1 PP 39 = true := by kernel_rfl
@[go_sem] theorem ld39 {w0 : World} {M : Mem} (a : Addr) : (std PP w0).ld 39 a M = rd w0 M a := ld_one c39 a
theorem e39 : ElemOk PP 39 (.pointer none) 1 := elem_ok (by kernel_rfl) rfl
@[go_sem] theorem eqp39 {w0 : World} {X Y : Operand} (a : Option Addr) : (std PP w0).bq .eql 39 X Y (.pointer a) (.pointer none) = some (.bool a.isNone) := eql_nil Try.underlying39 a
@[go_sem] theorem nep39 {w0 : World} {X Y : Operand} (a : Option Addr) : (std PP w0).bq .neq 39 X Y (.pointer a) (.pointer none) = some (.bool (!a.isNone)) := neq_nil Try.underlying39 a
theorem c44 : cell1 PP 44 = true := by kernel_rfl
@[go_sem] theorem ld44 {w0 : World} {M : Mem} (a : Addr) : (std PP w0).ld 44 a M = rd w0 M a := ld_one c44 a
theorem e44 : ElemOk PP 44 (.slice none 0 0) 1 := elem_ok (by kernel_rfl) rfl
@[go_sem] theorem eqs44 {w0 : World} {X Y : Operand} (s : SV) : (std PP w0).bq .eql 44 X Y (SV.v s) (.slice none 0 0) = some (.bool s.a.isNone) := eql_nils Try.underlying44 s
@[go_sem] theorem nes44 {w0 : World} {X Y : Operand} (s : SV) : (std PP w0).bq .neq 44 X Y (SV.v s) (.slice none 0 0) = some (.bool (!s.a.isNone)) := neq_nils Try.underlying44 s
theorem c55 : cell1 PP 55 = true := by kernel_rfl
@[go_sem] theorem ld55 {w0 : World} {M : Mem} (a : Addr) : (std PP w0).ld 55 a M = rd w0 M a := ld_one c55 a
theorem e55 : ElemOk PP 55 (.slice none 0 0) 1 := elem_ok (by kernel_rfl) rfl
@[go_sem] theorem eqs55 {w0 : World} {X Y : Operand} (s : SV) : (std PP w0).bq .eql 55 X Y (SV.v s) (.slice none 0 0) = some (.bool s.a.isNone) := eql_nils Try.underlying55 s
@[go_sem] theorem nes55 {w0 : World} {X Y : Operand} (s : SV) : (std PP w0).bq .neq 55 X Y (SV.v s) (.slice none 0 0) = some (.bool (!s.a.isNone)) := neq_nils Try.underlying55 s
theorem g57 : aggOf PP 57 3 = true := by kernel_rfl
theorem e57 : ElemOk PP 57 (.agg #[.int .i64 0, .int .i64 0, .int .i64 0]) 3 := elem_ok (by kernel_rfl) rfl
theorem c59 : cell1 PP 59 = true := by kernel_rfl
@[go_sem] theorem ld59 {w0 : World} {M : Mem} (a : Addr) : (std PP w0).ld 59 a M = rd w0 M a := ld_one c59 a
theorem e59 : ElemOk PP 59 (.slice none 0 0) 1 := elem_ok (by kernel_rfl) rfl
@[go_sem] theorem eqs59 {w0 : World} {X Y : Operand} (s : SV) : (std PP w0).bq .eql 59 X Y (SV.v s) (.slice none 0 0) = some (.bool s.a.isNone) := eql_nils Try.underlying59 s
@[go_sem] theorem nes59 {w0 : World} {X Y : Operand} (s : SV) : (std PP w0).bq .neq 59 X Y (SV.v s) (.slice none 0 0) = some (.bool (!s.a.isNone)) := neq_nils Try.underlying59 s
theorem g62 : aggOf PP 62 2 = true := by kernel_rfl
theorem e62 : ElemOk PP 62 (.agg #[.int .i64 0, .int .i64 0]) 2 := elem_ok (by kernel_rfl) rfl
theorem c69 : cell1 PP 69 = true := by kernel_rfl
@[go_sem] theorem ld69 {w0 : World} {M : Mem} (a : Addr) : (std PP w0).ld 69 a M = rd w0 M a := ld_one c69 a
theorem e69 : ElemOk PP 69 (.slice none 0 0) 1 := elem_ok (by kernel_rfl) rfl
@[go_sem] theorem eqs69 {w0 : World} {X Y : Operand} (s : SV) : (std PP w0).bq .eql 69 X Y (SV.v s) (.slice none 0 0) = some (.bool s.a.isNone) := eql_nils Try.underlying69 s
@[go_sem] theorem nes69 {w0 : World} {X Y : Operand} (s : SV) : (std PP w0).bq .neq 69 X Y (SV.v s) (.slice none 0 0) = some (.bool (!s.a.isNone)) := neq_nils Try.underlying69 s
theorem g71 : aggOf PP 71 4 = true := by kernel_rfl
theorem e71 : ElemOk PP 71 (.agg #[.slice none 0 0, .int .i64 0, .slice none 0 0, .pointer none]) 4 := elem_ok (by kernel_rfl) rfl
theorem g75 : aggOf PP 75 11 = true := by kernel_rfl
theorem e75 : ElemOk PP 75 (.agg #[.int .i64 0, .int .i64 0, .int .i64 0, .int .i64 0, .int .i64 0, .int .i64 0, .int .i64 0, .int .i64 0, .int .i64 0, .int .i64 0, .bool false]) 11 := elem_ok (by kernel_rfl) rfl
theorem g79 : aggOf PP 79 3 = true := by kernel_rfl
theorem e79 : ElemOk PP 79 (.agg #[.int .i64 0, .int .i64 0, .int .i64 0]) 3 := elem_ok (by kernel_rfl) rfl
theorem c82 : cell1 PP 82 = true := by kernel_rfl
@[go_sem] theorem ld82 {w0 : World} {M : Mem} (a : Addr) : (std PP w0).ld 82 a M = rd w0 M a := ld_one c82 a
theorem e82 : ElemOk PP 82 (.slice none 0 0) 1 := elem_ok (by kernel_rfl) rfl
@[go_sem] theorem eqs82 {w0 : World} {X Y : Operand} (s : SV) : (std PP w0).bq .eql 82 X Y (SV.v s) (.slice none 0 0) = some (.bool s.a.isNone) := eql_nils Try.underlying82 s
@[go_sem] theorem nes82 {w0 : World} {X Y : Operand} (s : SV) : (std PP w0).bq .neq 82 X Y (SV.v s) (.slice none 0 0) = some (.bool (!s.a.isNone)) := neq_nils Try.underlying82 s
theorem c83 : cell1 PP 83 = true := by kernel_rfl
@[go_sem] theorem ld83 {w0 : World} {M : Mem} (a : Addr) : (std PP w0).ld 83 a M = rd w0 M a := ld_one c83 a
theorem e83 : ElemOk PP 83 (.slice none 0 0) 1 := elem_ok (by kernel_rfl) rfl
@[go_sem] theorem eqs83 {w0 : World} {X Y : Operand} (s : SV) : (std PP w0).bq .eql 83 X Y (SV.v s) (.slice none 0 0) = some (.bool s.a.isNone) := eql_nils Try.underlying83 s
@[go_sem] theorem nes83 {w0 : World} {X Y : Operand} (s : SV) : (std PP w0).bq .neq 83 X Y (SV.v s) (.slice none 0 0) = some (.bool (!s.a.isNone)) := neq_nils Try.underlying83 s
theorem g85 : aggOf PP 85 5 = true := by kernel_rfl
theorem e85 : ElemOk PP 85 (.agg #[.int .i64 0, .slice none 0 0, .slice none 0 0, .slice none 0 0, .int .i64 0]) 5 := elem_ok (by kernel_rfl) rfl
theorem c86 : cell1 PP 86 = true := by kernel_rfl
@[go_sem] theorem ld86 {w0 : World} {M : Mem} (a : Addr) : (std PP w0).ld 86 a M = rd w0 M a := ld_one c86 a
theorem e86 : ElemOk PP 86 (.slice none 0 0) 1 := elem_ok (by kernel_rfl) rfl
@[go_sem] theorem eqs86 {w0 : World} {X Y : Operand} (s : SV) : (std PP w0).bq .eql 86 X Y (SV.v s) (.slice none 0 0) = some (.bool s.a.isNone) := eql_nils Try.underlying86 s
@[go_sem] theorem nes86 {w0 : World} {X Y : Operand} (s : SV) : (std PP w0).bq .neq 86 X Y (SV.v s) (.slice none 0 0) = some (.bool (!s.a.isNone)) := neq_nils Try.underlying86 s
@[go_sem] theorem b29_0 {w0 : World} (x0 : Int) (x1 : Int) (x2 : Int) (x3 : Int) : (std PP w0).bld 29 [(0, .int .i64 x0), (1, .int .i64 x1), (2, .int .i64 x2), (3, .int .i64 x3)] = some (.agg #[.int .i64 x0, .int .i64 x1, .int .i64 x2, .int .i64 x3]) := by kernel_rfl
@[go_sem] theorem b57_1 {w0 : World} (x0 : Int) (x1 : Int) (x2 : Int) : (std PP w0).bld 57 [(0, .int .i64 x0), (1, .int .i64 x1), (2, .int .i64 x2)] = some (.agg #[.int .i64 x0, .int .i64 x1, .int .i64 x2]) := by kernel_rfl
@[go_sem] theorem b62_2 {w0 : World} (x0 : Int) (x1 : Int) : (std PP w0).bld 62 [(0, .int .i64 x0), (1, .int .i64 x1)] = some (.agg #[.int .i64 x0, .int .i64 x1]) := by kernel_rfl
@[go_sem] theorem b62_3 {w0 : World} (x0 : Int) : (std PP w0).bld 62 [(0, .int .i64 x0)] = some (.agg #[.int .i64 x0, .int .i64 0]) := by kernel_rfl
@[go_sem] theorem b62_4 {w0 : World} (x0 : Int) : (std PP w0).bld 62 [(1, .int .i64 x0)] = some (.agg #[.int .i64 0, .int .i64 x0]) := by kernel_rfl
@[go_sem] theorem b62_5 {w0 : World} : (std PP w0).bld 62 [] = some (.agg #[.int .i64 0, .int .i64 0]) := by kernel_rfl
@[go_sem] theorem b71_6 {w0 : World} (x0 : SV) (x1 : Option Addr) : (std PP w0).bld 71 [(0, SV.v x0), (3, .pointer x1)] = some (.agg #[SV.v x0, .int .i64 0, .slice none 0 0, .pointer x1]) := by kernel_rfl
@[go_sem] theorem b75_7 {w0 : World} (x0 : Bool) : (std PP w0).bld 75 [(1, .bool x0)] = some (.agg #[.int .i64 0, .int .i64 0, .int .i64 0, .int .i64 0, .int .i64 0, .int .i64 0, .int .i64 0, .int .i64 0, .int .i64 0, .int .i64 0, .bool x0]) := by kernel_rfl
@[go_sem] theorem b79_8 {w0 : World} : (std PP w0).bld 79 [] = some (.agg #[.int .i64 0, .int .i64 0, .int .i64 0]) := by kernel_rfl
@[go_sem] theorem b85_9 {w0 : World} (x0 : Int) : (std PP w0).bld 85 [(0, .int .i64 x0)] = some (.agg #[.int .i64 x0, .slice none 0 0, .slice none 0 0, .slice none 0 0, .int .i64 0]) := by kernel_rfl
end W
end Go.Proofs.Ytoeijcmpkfjbfaa.HL
