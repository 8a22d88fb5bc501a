/-
  Printed by gen.py: the types of this seat, as the words of HlF and HlH ask for them.
-/
import Derived.Test.YtkibecgakkhljaaGenId
import Derived.Test.YtkibecgakkhljaaHlH
set_option linter.unusedVariables false
set_option maxRecDepth 100000
namespace Go.Proofs.Ytkibecgakkhljaa.HL
open Go.Proofs
namespace W
theorem c2 : cell1 PP 2 = true := by kernel_rfl
@[go_sem] theorem ld2 {w0 : World} {M : Mem} (a : Addr) : (std PP w0).ld 2 a M = rd w0 M a := ld_one c2 a
theorem e2 : ElemOk PP 2 (.int .i64 0) 1 := elem_ok (by kernel_rfl) rfl
theorem c3 : cell1 PP 3 = true := by kernel_rfl
@[go_sem] theorem ld3 {w0 : World} {M : Mem} (a : Addr) : (std PP w0).ld 3 a M = rd w0 M a := ld_one c3 a
theorem e3 : ElemOk PP 3 (.int .i64 0) 1 := elem_ok (by kernel_rfl) rfl
theorem c4 : cell1 PP 4 = true := by kernel_rfl
@[go_sem] theorem ld4 {w0 : World} {M : Mem} (a : Addr) : (std PP w0).ld 4 a M = rd w0 M a := ld_one c4 a
theorem e4 : ElemOk PP 4 (.bool false) 1 := elem_ok (by kernel_rfl) rfl
@[go_sem] theorem eqb4 {w0 : World} {X Y : Operand} (a b : Bool) : (std PP w0).bq .eql 4 X Y (.bool a) (.bool b) = some (.bool (a == b)) := eql_bool Try.underlying4 a b
@[go_sem] theorem neb4 {w0 : World} {X Y : Operand} (a b : Bool) : (std PP w0).bq .neq 4 X Y (.bool a) (.bool b) = some (.bool (!(a == b))) := neq_bool Try.underlying4 a b
theorem c23 : cell1 PP 23 = true := by kernel_rfl
@[go_sem] theorem ld23 {w0 : World} {M : Mem} (a : Addr) : (std PP w0).ld 23 a M = rd w0 M a := ld_one c23 a
theorem e23 : ElemOk PP 23 (.slice none 0 0) 1 := elem_ok (by kernel_rfl) rfl
@[go_sem] theorem eqs23 {w0 : World} {X Y : Operand} (s : SV) : (std PP w0).bq .eql 23 X Y (SV.v s) (.slice none 0 0) = some (.bool s.a.isNone) := eql_nils Try.underlying23 s
@[go_sem] theorem nes23 {w0 : World} {X Y : Operand} (s : SV) : (std PP w0).bq .neq 23 X Y (SV.v s) (.slice none 0 0) = some (.bool (!s.a.isNone)) := neq_nils Try.underlying23 s
theorem c25 : cell1 PP 25 = true := by kernel_rfl
@[go_sem] theorem ld25 {w0 : World} {M : Mem} (a : Addr) : (std PP w0).ld 25 a M = rd w0 M a := ld_one c25 a
theorem e25 : ElemOk PP 25 (.pointer none) 1 := elem_ok (by kernel_rfl) rfl
@[go_sem] theorem eqp25 {w0 : World} {X Y : Operand} (a : Option Addr) : (std PP w0).bq .eql 25 X Y (.pointer a) (.pointer none) = some (.bool a.isNone) := eql_nil Try.underlying25 a
@[go_sem] theorem nep25 {w0 : World} {X Y : Operand} (a : Option Addr) : (std PP w0).bq .neq 25 X Y (.pointer a) (.pointer none) = some (.bool (!a.isNone)) := neq_nil Try.underlying25 a
theorem c34 : cell1 PP 34 = true := by kernel_rfl
@[go_sem] theorem ld34 {w0 : World} {M : Mem} (a : Addr) : (std PP w0).ld 34 a M = rd w0 M a := ld_one c34 a
theorem e34 : ElemOk PP 34 (.slice none 0 0) 1 := elem_ok (by kernel_rfl) rfl
@[go_sem] theorem eqs34 {w0 : World} {X Y : Operand} (s : SV) : (std PP w0).bq .eql 34 X Y (SV.v s) (.slice none 0 0) = some (.bool s.a.isNone) := eql_nils Try.underlying34 s
@[go_sem] theorem nes34 {w0 : World} {X Y : Operand} (s : SV) : (std PP w0).bq .neq 34 X Y (SV.v s) (.slice none 0 0) = some (.bool (!s.a.isNone)) := neq_nils Try.underlying34 s
theorem c40 : cell1 PP 40 = true := by kernel_rfl
@[go_sem] theorem ld40 {w0 : World} {M : Mem} (a : Addr) : (std PP w0).ld 40 a M = rd w0 M a := ld_one c40 a
theorem e40 : ElemOk PP 40 (.slice none 0 0) 1 := elem_ok (by kernel_rfl) rfl
@[go_sem] theorem eqs40 {w0 : World} {X Y : Operand} (s : SV) : (std PP w0).bq .eql 40 X Y (SV.v s) (.slice none 0 0) = some (.bool s.a.isNone) := eql_nils Try.underlying40 s
@[go_sem] theorem nes40 {w0 : World} {X Y : Operand} (s : SV) : (std PP w0).bq .neq 40 X Y (SV.v s) (.slice none 0 0) = some (.bool (!s.a.isNone)) := neq_nils Try.underlying40 s
theorem c43 : cell1 PP 43 = true := by kernel_rfl
@[go_sem] theorem ld43 {w0 : World} {M : Mem} (a : Addr) : (std PP w0).ld 43 a M = rd w0 M a := ld_one c43 a
theorem e43 : ElemOk PP 43 (.pointer none) 1 := elem_ok (by kernel_rfl) rfl
@[go_sem] theorem eqp43 {w0 : World} {X Y : Operand} (a : Option Addr) : (std PP w0).bq .eql 43 X Y (.pointer a) (.pointer none) = some (.bool a.isNone) := eql_nil Try.underlying43 a
@[go_sem] theorem nep43 {w0 : World} {X Y : Operand} (a : Option Addr) : (std PP w0).bq .neq 43 X Y (.pointer a) (.pointer none) = some (.bool (!a.isNone)) := neq_nil Try.underlying43 a
theorem g56 : aggOf PP 56 1 = true := by kernel_rfl
theorem e56 : ElemOk PP 56 (.agg #[.int .i64 0]) 1 := elem_ok (by kernel_rfl) rfl
theorem g62 : aggOf PP 62 2 = true := by kernel_rfl
theorem e62 : ElemOk PP 62 (.agg #[.slice none 0 0, .int .i64 0]) 2 := elem_ok (by kernel_rfl) rfl
@[go_sem] theorem b56_0 {w0 : World} : (std PP w0).bld 56 [] = some (.agg #[.int .i64 0]) := by kernel_rfl
@[go_sem] theorem b62_1 {w0 : World} : (std PP w0).bld 62 [] = some (.agg #[.slice none 0 0, .int .i64 0]) := by kernel_rfl
end W
end Go.Proofs.Ytkibecgakkhljaa.HL
