/-
  Printed by gen.py: the types of this seat, as the words of HlF and HlH ask for them.
-/
import Derived.Test.YtbkicgfgpmekeaaGenId
import Derived.Test.YtbkicgfgpmekeaaHlH
set_option linter.unusedVariables false
set_option maxRecDepth 100000
namespace Go.Proofs.Ytbkicgfgpmekeaa.HL
open Go.Proofs
namespace W
theorem c2 : cell1 PP 2 = true := by kernel_rfl
@[go_sem] theorem ld2 {w0 : World} {M : Mem} (a : Addr) : (std PP w0).ld 2 a M = rd w0 M a := ld_one c2 a
theorem e2 : ElemOk PP 2 (.int .i64 0) 1 := elem_ok (by kernel_rfl) rfl
theorem c3 : cell1 PP 3 = true := by kernel_rfl
@[go_sem] theorem ld3 {w0 : World} {M : Mem} (a : Addr) : (std PP w0).ld 3 a M = rd w0 M a := ld_one c3 a
theorem e3 : ElemOk PP 3 (.int .i64 0) 1 := elem_ok (by kernel_rfl) rfl
theorem c4 : cell1 PP 4 = true := by kernel_rfl
@[go_sem] theorem ld4 {w0 : World} {M : Mem} (a : Addr) : (std PP w0).ld 4 a M = rd w0 M a := ld_one c4 a
theorem e4 : ElemOk PP 4 (.bool false) 1 := elem_ok (by kernel_rfl) rfl
@[go_sem] theorem eqb4 {w0 : World} {X Y : Operand} (a b : Bool) : (std PP w0).bq .eql 4 X Y (.bool a) (.bool b) = some (.bool (a == b)) := eql_bool Try.underlying4 a b
@[go_sem] theorem neb4 {w0 : World} {X Y : Operand} (a b : Bool) : (std PP w0).bq .neq 4 X Y (.bool a) (.bool b) = some (.bool (!(a == b))) := neq_bool Try.underlying4 a b
theorem c22 : cell1 PP 22 = true := by kernel_rfl
@[go_sem] theorem ld22 {w0 : World} {M : Mem} (a : Addr) : (std PP w0).ld 22 a M = rd w0 M a := ld_one c22 a
theorem e22 : ElemOk PP 22 (.slice none 0 0) 1 := elem_ok (by kernel_rfl) rfl
@[go_sem] theorem eqs22 {w0 : World} {X Y : Operand} (s : SV) : (std PP w0).bq .eql 22 X Y (SV.v s) (.slice none 0 0) = some (.bool s.a.isNone) := eql_nils Try.underlying22 s
@[go_sem] theorem nes22 {w0 : World} {X Y : Operand} (s : SV) : (std PP w0).bq .neq 22 X Y (SV.v s) (.slice none 0 0) = some (.bool (!s.a.isNone)) := neq_nils Try.underlying22 s
theorem c23 : cell1 PP 23 = true := by kernel_rfl
@[go_sem] theorem ld23 {w0 : World} {M : Mem} (a : Addr) : (std PP w0).ld 23 a M = rd w0 M a := ld_one c23 a
theorem e23 : ElemOk PP 23 (.pointer none) 1 := elem_ok (by kernel_rfl) rfl
@[go_sem] theorem eqp23 {w0 : World} {X Y : Operand} (a : Option Addr) : (std PP w0).bq .eql 23 X Y (.pointer a) (.pointer none) = some (.bool a.isNone) := eql_nil Try.underlying23 a
@[go_sem] theorem nep23 {w0 : World} {X Y : Operand} (a : Option Addr) : (std PP w0).bq .neq 23 X Y (.pointer a) (.pointer none) = some (.bool (!a.isNone)) := neq_nil Try.underlying23 a
theorem c28 : cell1 PP 28 = true := by kernel_rfl
@[go_sem] theorem ld28 {w0 : World} {M : Mem} (a : Addr) : (std PP w0).ld 28 a M = rd w0 M a := ld_one c28 a
theorem e28 : ElemOk PP 28 (.pointer none) 1 := elem_ok (by kernel_rfl) rfl
@[go_sem] theorem eqp28 {w0 : World} {X Y : Operand} (a : Option Addr) : (std PP w0).bq .eql 28 X Y (.pointer a) (.pointer none) = some (.bool a.isNone) := eql_nil Try.underlying28 a
@[go_sem] theorem nep28 {w0 : World} {X Y : Operand} (a : Option Addr) : (std PP w0).bq .neq 28 X Y (.pointer a) (.pointer none) = some (.bool (!a.isNone)) := neq_nil Try.underlying28 a
theorem g29 : aggOf PP 29 2 = true := by kernel_rfl
theorem e29 : ElemOk PP 29 (.agg #[.int .i64 0, .int .i64 0]) 2 := elem_ok (by kernel_rfl) rfl
theorem c30 : cell1 PP 30 = true := by kernel_rfl
@[go_sem] theorem ld30 {w0 : World} {M : Mem} (a : Addr) : (std PP w0).ld 30 a M = rd w0 M a := ld_one c30 a
theorem e30 : ElemOk PP 30 (.slice none 0 0) 1 := elem_ok (by kernel_rfl) rfl
@[go_sem] theorem eqs30 {w0 : World} {X Y : Operand} (s : SV) : (std PP w0).bq .eql 30 X Y (SV.v s) (.slice none 0 0) = some (.bool s.a.isNone) := eql_nils Try.underlying30 s
@[go_sem] theorem nes30 {w0 : World} {X Y : Operand} (s : SV) : (std PP w0).bq .neq 30 X Y (SV.v s) (.slice none 0 0) = some (.bool (!s.a.isNone)) := neq_nils Try.underlying30 s
theorem g33 : aggOf PP 33 8 = true := by kernel_rfl
theorem e33 : ElemOk PP 33 (.agg #[.pointer none, .int .i64 0, .int .i64 0, .slice none 0 0, .slice none 0 0, .int .i64 0, .int .i64 0, .int .i64 0]) 8 := elem_ok (by kernel_rfl) rfl
theorem c34 : cell1 PP 34 = true := by kernel_rfl
@[go_sem] theorem ld34 {w0 : World} {M : Mem} (a : Addr) : (std PP w0).ld 34 a M = rd w0 M a := ld_one c34 a
theorem e34 : ElemOk PP 34 (.pointer none) 1 := elem_ok (by kernel_rfl) rfl
@[go_sem] theorem eqp34 {w0 : World} {X Y : Operand} (a : Option Addr) : (std PP w0).bq .eql 34 X Y (.pointer a) (.pointer none) = some (.bool a.isNone) := eql_nil Try.underlying34 a
@[go_sem] theorem nep34 {w0 : World} {X Y : Operand} (a : Option Addr) : (std PP w0).bq .neq 34 X Y (.pointer a) (.pointer none) = some (.bool (!a.isNone)) := neq_nil Try.underlying34 a
theorem g40 : aggOf PP 40 2 = true := by kernel_rfl
theorem e40 : ElemOk PP 40 (.agg #[.int .i64 0, .int .i64 0]) 2 := elem_ok (by kernel_rfl) rfl
theorem c50 : cell1 PP 50 = true := by kernel_rfl
@[go_sem] theorem ld50 {w0 : World} {M : Mem} (a : Addr) : (std PP w0).ld 50 a M = rd w0 M a := ld_one c50 a
theorem e50 : ElemOk PP 50 (.slice none 0 0) 1 := elem_ok (by kernel_rfl) rfl
@[go_sem] theorem eqs50 {w0 : World} {X Y : Operand} (s : SV) : (std PP w0).bq .eql 50 X Y (SV.v s) (.slice none 0 0) = some (.bool s.a.isNone) := eql_nils Try.underlying50 s
@[go_sem] theorem nes50 {w0 : World} {X Y : Operand} (s : SV) : (std PP w0).bq .neq 50 X Y (SV.v s) (.slice none 0 0) = some (.bool (!s.a.isNone)) := neq_nils Try.underlying50 s
theorem c53 : cell1 PP 53 = true := by kernel_rfl
@[go_sem] theorem ld53 {w0 : World} {M : Mem} (a : Addr) : (std PP w0).ld 53 a M = rd w0 M a := ld_one c53 a
theorem e53 : ElemOk PP 53 (.slice none 0 0) 1 := elem_ok (by kernel_rfl) rfl
@[go_sem] theorem eqs53 {w0 : World} {X Y : Operand} (s : SV) : (std PP w0).bq .eql 53 X Y (SV.v s) (.slice none 0 0) = some (.bool s.a.isNone) := eql_nils Try.underlying53 s
@[go_sem] theorem nes53 {w0 : World} {X Y : Operand} (s : SV) : (std PP w0).bq .neq 53 X Y (SV.v s) (.slice none 0 0) = some (.bool (!s.a.isNone)) := neq_nils Try.underlying53 s
theorem g58 : aggOf PP 58 3 = true := by kernel_rfl
theorem e58 : ElemOk PP 58 (.agg #[.int .i64 0, .int .i64 0, .int .i64 0]) 3 := elem_ok (by kernel_rfl) rfl
theorem c63 : cell1 PP 63 = true := by kernel_rfl
@[go_sem] theorem ld63 {w0 : World} {M : Mem} (a : Addr) : (std PP w0).ld 63 a M = rd w0 M a := ld_one c63 a
theorem e63 : ElemOk PP 63 (.slice none 0 0) 1 := elem_ok (by kernel_rfl) rfl
@[go_sem] theorem eqs63 {w0 : World} {X Y : Operand} (s : SV) : (std PP w0).bq .eql 63 X Y (SV.v s) (.slice none 0 0) = some (.bool s.a.isNone) := eql_nils Try.underlying63 s
@[go_sem] theorem nes63 {w0 : World} {X Y : Operand} (s : SV) : (std PP w0).bq .neq 63 X Y (SV.v s) (.slice none 0 0) = some (.bool (!s.a.isNone)) := neq_nils Try.underlying63 s
theorem g65 : aggOf PP 65 4 = true := by kernel_rfl
theorem e65 : ElemOk PP 65 (.agg #[.slice none 0 0, .int .i64 0, .slice none 0 0, .pointer none]) 4 := elem_ok (by kernel_rfl) rfl
theorem g67 : aggOf PP 67 3 = true := by kernel_rfl
theorem e67 : ElemOk PP 67 (.agg #[.int .i64 0, .int .i64 0, .int .i64 0]) 3 := elem_ok (by kernel_rfl) rfl
theorem g77 : aggOf PP 77 11 = true := by kernel_rfl
theorem e77 : ElemOk PP 77 (.agg #[.int .i64 0, .int .i64 0, .int .i64 0, .int .i64 0, .int .i64 0, .int .i64 0, .int .i64 0, .int .i64 0, .int .i64 0, .int .i64 0, .bool false]) 11 := elem_ok (by kernel_rfl) rfl
theorem c97 : cell1 PP 97 = true := by kernel_rfl
@[go_sem] theorem ld97 {w0 : World} {M : Mem} (a : Addr) : (std PP w0).ld 97 a M = rd w0 M a := ld_one c97 a
theorem e97 : ElemOk PP 97 (.slice none 0 0) 1 := elem_ok (by kernel_rfl) rfl
@[go_sem] theorem eqs97 {w0 : World} {X Y : Operand} (s : SV) : (std PP w0).bq .eql 97 X Y (SV.v s) (.slice none 0 0) = some (.bool s.a.isNone) := eql_nils Try.underlying97 s
@[go_sem] theorem nes97 {w0 : World} {X Y : Operand} (s : SV) : (std PP w0).bq .neq 97 X Y (SV.v s) (.slice none 0 0) = some (.bool (!s.a.isNone)) := neq_nils Try.underlying97 s
theorem g99 : aggOf PP 99 2 = true := by kernel_rfl
theorem e99 : ElemOk PP 99 (.agg #[.int .i64 0, .int .i64 0]) 2 := elem_ok (by kernel_rfl) rfl
theorem c110 : cell1 PP 110 = true := by kernel_rfl
@[go_sem] theorem ld110 {w0 : World} {M : Mem} (a : Addr) : (std PP w0).ld 110 a M = rd w0 M a := ld_one c110 a
theorem e110 : ElemOk PP 110 (.int .u64 0) 1 := elem_ok (by kernel_rfl) rfl
theorem c126 : cell1 PP 126 = true := by kernel_rfl
@[go_sem] theorem ld126 {w0 : World} {M : Mem} (a : Addr) : (std PP w0).ld 126 a M = rd w0 M a := ld_one c126 a
theorem e126 : ElemOk PP 126 (.int .u64 0) 1 := elem_ok (by kernel_rfl) rfl
@[go_sem] theorem b29_0 {w0 : World} (x0 : Int) (x1 : Int) : (std PP w0).bld 29 [(0, .int .i64 x0), (1, .int .i64 x1)] = some (.agg #[.int .i64 x0, .int .i64 x1]) := by kernel_rfl
@[go_sem] theorem b33_1 {w0 : World} (x0 : Option Addr) (x1 : Int) (x2 : Int) : (std PP w0).bld 33 [(0, .pointer x0), (1, .agg #[.int .i64 x1, .int .i64 x2])] = some (.agg #[.pointer x0, .int .i64 x1, .int .i64 x2, .slice none 0 0, .slice none 0 0, .int .i64 0, .int .i64 0, .int .i64 0]) := by kernel_rfl
@[go_sem] theorem b40_2 {w0 : World} (x0 : Int) (x1 : Int) : (std PP w0).bld 40 [(0, .int .i64 x0), (1, .int .i64 x1)] = some (.agg #[.int .i64 x0, .int .i64 x1]) := by kernel_rfl
@[go_sem] theorem b40_3 {w0 : World} : (std PP w0).bld 40 [] = some (.agg #[.int .i64 0, .int .i64 0]) := by kernel_rfl
@[go_sem] theorem b58_4 {w0 : World} (x0 : Int) (x1 : Int) (x2 : Int) : (std PP w0).bld 58 [(0, .int .i64 x0), (1, .agg #[.int .i64 x1, .int .i64 x2])] = some (.agg #[.int .i64 x0, .int .i64 x1, .int .i64 x2]) := by kernel_rfl
@[go_sem] theorem b58_5 {w0 : World} : (std PP w0).bld 58 [] = some (.agg #[.int .i64 0, .int .i64 0, .int .i64 0]) := by kernel_rfl
@[go_sem] theorem b65_6 {w0 : World} (x0 : SV) (x1 : Option Addr) : (std PP w0).bld 65 [(0, SV.v x0), (3, .pointer x1)] = some (.agg #[SV.v x0, .int .i64 0, .slice none 0 0, .pointer x1]) := by kernel_rfl
@[go_sem] theorem b67_7 {w0 : World} : (std PP w0).bld 67 [] = some (.agg #[.int .i64 0, .int .i64 0, .int .i64 0]) := by kernel_rfl
@[go_sem] theorem b77_8 {w0 : World} (x0 : Bool) : (std PP w0).bld 77 [(1, .bool x0)] = some (.agg #[.int .i64 0, .int .i64 0, .int .i64 0, .int .i64 0, .int .i64 0, .int .i64 0, .int .i64 0, .int .i64 0, .int .i64 0, .int .i64 0, .bool x0]) := by kernel_rfl
@[go_sem] theorem b99_9 {w0 : World} (x0 : Int) (x1 : Int) : (std PP w0).bld 99 [(0, .int .i64 x0), (1, .int .i64 x1)] = some (.agg #[.int .i64 x0, .int .i64 x1]) := by kernel_rfl
end W
end Go.Proofs.Ytbkicgfgpmekeaa.HL
