import Derived.Test.YtodobkbnmjgkdaaGreatPa8
set_option linter.unusedVariables false
set_option maxRecDepth 100000
namespace Go.Proofs.YtodobkbnmjgkdaaGreat.HL
open Go.Proofs
namespace W
theorem c2 : cell1 PP 2 = true := by kernel_rfl
@[go_sem] theorem ld2 {w0 : World} {M : Mem} (a : Addr) : (std PP w0).ld 2 a M = rd w0 M a := ld_one c2 a
theorem e2 : ElemOk PP 2 (.int .i64 0) 1 := elem_ok (by kernel_rfl) rfl
theorem c3 : cell1 PP 3 = true := by kernel_rfl
@[go_sem] theorem ld3 {w0 : World} {M : Mem} (a : Addr) : (std PP w0).ld 3 a M = rd w0 M a := ld_one c3 a
theorem e3 : ElemOk PP 3 (.int .i64 0) 1 := elem_ok (by kernel_rfl) rfl
theorem c4 : cell1 PP 4 = true := by kernel_rfl
@[go_sem] theorem ld4 {w0 : World} {M : Mem} (a : Addr) : (std PP w0).ld 4 a M = rd w0 M a := ld_one c4 a
theorem e4 : ElemOk PP 4 (.bool false) 1 := elem_ok (by kernel_rfl) rfl
@[go_sem] theorem eqb4 {w0 : World} {X Y : Operand} (a b : Bool) : (std PP w0).bq .eql 4 X Y (.bool a) (.bool b) = some (.bool (a == b)) := eql_bool Tryz.underlying4 a b
@[go_sem] theorem neb4 {w0 : World} {X Y : Operand} (a b : Bool) : (std PP w0).bq .neq 4 X Y (.bool a) (.bool b) = some (.bool (!(a == b))) := neq_bool Tryz.underlying4 a b
theorem c24 : cell1 PP 24 = true := by kernel_rfl
@[go_sem] theorem ld24 {w0 : World} {M : Mem} (a : Addr) : (std PP w0).ld 24 a M = rd w0 M a := ld_one c24 a
@[go_sem] theorem eqp24 {w0 : World} {X Y : Operand} (a : Option Addr) : (std PP w0).bq .eql 24 X Y (.pointer a) (.pointer none) = some (.bool a.isNone) := eql_nil Tryz.underlying24 a
@[go_sem] theorem nep24 {w0 : World} {X Y : Operand} (a : Option Addr) : (std PP w0).bq .neq 24 X Y (.pointer a) (.pointer none) = some (.bool (!a.isNone)) := neq_nil Tryz.underlying24 a
theorem c25 : cell1 PP 25 = true := by kernel_rfl
@[go_sem] theorem ld25 {w0 : World} {M : Mem} (a : Addr) : (std PP w0).ld 25 a M = rd w0 M a := ld_one c25 a
theorem c30 : cell1 PP 30 = true := by kernel_rfl
@[go_sem] theorem ld30 {w0 : World} {M : Mem} (a : Addr) : (std PP w0).ld 30 a M = rd w0 M a := ld_one c30 a
@[go_sem] theorem eqs30 {w0 : World} {X Y : Operand} (s : SV) : (std PP w0).bq .eql 30 X Y (SV.v s) (.slice none 0 0) = some (.bool s.a.isNone) := eql_nils Tryz.underlying30 s
@[go_sem] theorem nes30 {w0 : World} {X Y : Operand} (s : SV) : (std PP w0).bq .neq 30 X Y (SV.v s) (.slice none 0 0) = some (.bool (!s.a.isNone)) := neq_nils Tryz.underlying30 s
theorem c31 : cell1 PP 31 = true := by kernel_rfl
@[go_sem] theorem ld31 {w0 : World} {M : Mem} (a : Addr) : (std PP w0).ld 31 a M = rd w0 M a := ld_one c31 a
@[go_sem] theorem eqs31 {w0 : World} {X Y : Operand} (s : SV) : (std PP w0).bq .eql 31 X Y (SV.v s) (.slice none 0 0) = some (.bool s.a.isNone) := eql_nils Tryz.underlying31 s
@[go_sem] theorem nes31 {w0 : World} {X Y : Operand} (s : SV) : (std PP w0).bq .neq 31 X Y (SV.v s) (.slice none 0 0) = some (.bool (!s.a.isNone)) := neq_nils Tryz.underlying31 s
theorem g33 : aggOf PP 33 2 = true := by kernel_rfl
theorem e33 : ElemOk PP 33 (.agg #[.int .i64 0, .int .i64 0]) 2 := elem_ok (by kernel_rfl) rfl
theorem g35 : aggOf PP 35 9 = true := by kernel_rfl
theorem g44 : aggOf PP 44 2 = true := by kernel_rfl
theorem e44 : ElemOk PP 44 (.agg #[.int .i64 0, .int .i64 0]) 2 := elem_ok (by kernel_rfl) rfl
theorem g46 : aggOf PP 46 8 = true := by kernel_rfl
theorem c52 : cell1 PP 52 = true := by kernel_rfl
@[go_sem] theorem ld52 {w0 : World} {M : Mem} (a : Addr) : (std PP w0).ld 52 a M = rd w0 M a := ld_one c52 a
@[go_sem] theorem eqp52 {w0 : World} {X Y : Operand} (a : Option Addr) : (std PP w0).bq .eql 52 X Y (.pointer a) (.pointer none) = some (.bool a.isNone) := eql_nil Tryz.underlying52 a
@[go_sem] theorem nep52 {w0 : World} {X Y : Operand} (a : Option Addr) : (std PP w0).bq .neq 52 X Y (.pointer a) (.pointer none) = some (.bool (!a.isNone)) := neq_nil Tryz.underlying52 a
theorem c53 : cell1 PP 53 = true := by kernel_rfl
@[go_sem] theorem ld53 {w0 : World} {M : Mem} (a : Addr) : (std PP w0).ld 53 a M = rd w0 M a := ld_one c53 a
@[go_sem] theorem eqs53 {w0 : World} {X Y : Operand} (s : SV) : (std PP w0).bq .eql 53 X Y (SV.v s) (.slice none 0 0) = some (.bool s.a.isNone) := eql_nils Tryz.underlying53 s
@[go_sem] theorem nes53 {w0 : World} {X Y : Operand} (s : SV) : (std PP w0).bq .neq 53 X Y (SV.v s) (.slice none 0 0) = some (.bool (!s.a.isNone)) := neq_nils Tryz.underlying53 s
theorem c54 : cell1 PP 54 = true := by kernel_rfl
@[go_sem] theorem ld54 {w0 : World} {M : Mem} (a : Addr) : (std PP w0).ld 54 a M = rd w0 M a := ld_one c54 a
@[go_sem] theorem eqs54 {w0 : World} {X Y : Operand} (s : SV) : (std PP w0).bq .eql 54 X Y (SV.v s) (.slice none 0 0) = some (.bool s.a.isNone) := eql_nils Tryz.underlying54 s
@[go_sem] theorem nes54 {w0 : World} {X Y : Operand} (s : SV) : (std PP w0).bq .neq 54 X Y (SV.v s) (.slice none 0 0) = some (.bool (!s.a.isNone)) := neq_nils Tryz.underlying54 s
theorem c59 : cell1 PP 59 = true := by kernel_rfl
@[go_sem] theorem ld59 {w0 : World} {M : Mem} (a : Addr) : (std PP w0).ld 59 a M = rd w0 M a := ld_one c59 a
@[go_sem] theorem eqs59 {w0 : World} {X Y : Operand} (s : SV) : (std PP w0).bq .eql 59 X Y (SV.v s) (.slice none 0 0) = some (.bool s.a.isNone) := eql_nils Tryz.underlying59 s
@[go_sem] theorem nes59 {w0 : World} {X Y : Operand} (s : SV) : (std PP w0).bq .neq 59 X Y (SV.v s) (.slice none 0 0) = some (.bool (!s.a.isNone)) := neq_nils Tryz.underlying59 s
theorem c60 : cell1 PP 60 = true := by kernel_rfl
@[go_sem] theorem ld60 {w0 : World} {M : Mem} (a : Addr) : (std PP w0).ld 60 a M = rd w0 M a := ld_one c60 a
@[go_sem] theorem eqp60 {w0 : World} {X Y : Operand} (a : Option Addr) : (std PP w0).bq .eql 60 X Y (.pointer a) (.pointer none) = some (.bool a.isNone) := eql_nil Tryz.underlying60 a
@[go_sem] theorem nep60 {w0 : World} {X Y : Operand} (a : Option Addr) : (std PP w0).bq .neq 60 X Y (.pointer a) (.pointer none) = some (.bool (!a.isNone)) := neq_nil Tryz.underlying60 a
theorem g65 : aggOf PP 65 6 = true := by kernel_rfl
theorem g68 : aggOf PP 68 6 = true := by kernel_rfl
theorem c71 : cell1 PP 71 = true := by kernel_rfl
@[go_sem] theorem ld71 {w0 : World} {M : Mem} (a : Addr) : (std PP w0).ld 71 a M = rd w0 M a := ld_one c71 a
@[go_sem] theorem eqs71 {w0 : World} {X Y : Operand} (s : SV) : (std PP w0).bq .eql 71 X Y (SV.v s) (.slice none 0 0) = some (.bool s.a.isNone) := eql_nils Tryz.underlying71 s
@[go_sem] theorem nes71 {w0 : World} {X Y : Operand} (s : SV) : (std PP w0).bq .neq 71 X Y (SV.v s) (.slice none 0 0) = some (.bool (!s.a.isNone)) := neq_nils Tryz.underlying71 s
theorem c85 : cell1 PP 85 = true := by kernel_rfl
@[go_sem] theorem ld85 {w0 : World} {M : Mem} (a : Addr) : (std PP w0).ld 85 a M = rd w0 M a := ld_one c85 a
@[go_sem] theorem eqs85 {w0 : World} {X Y : Operand} (s : SV) : (std PP w0).bq .eql 85 X Y (SV.v s) (.slice none 0 0) = some (.bool s.a.isNone) := eql_nils Tryz.underlying85 s
@[go_sem] theorem nes85 {w0 : World} {X Y : Operand} (s : SV) : (std PP w0).bq .neq 85 X Y (SV.v s) (.slice none 0 0) = some (.bool (!s.a.isNone)) := neq_nils Tryz.underlying85 s
theorem c89 : cell1 PP 89 = true := by kernel_rfl
@[go_sem] theorem ld89 {w0 : World} {M : Mem} (a : Addr) : (std PP w0).ld 89 a M = rd w0 M a := ld_one c89 a
@[go_sem] theorem eqp89 {w0 : World} {X Y : Operand} (a : Option Addr) : (std PP w0).bq .eql 89 X Y (.pointer a) (.pointer none) = some (.bool a.isNone) := eql_nil Tryz.underlying89 a
@[go_sem] theorem nep89 {w0 : World} {X Y : Operand} (a : Option Addr) : (std PP w0).bq .neq 89 X Y (.pointer a) (.pointer none) = some (.bool (!a.isNone)) := neq_nil Tryz.underlying89 a
theorem c91 : cell1 PP 91 = true := by kernel_rfl
@[go_sem] theorem ld91 {w0 : World} {M : Mem} (a : Addr) : (std PP w0).ld 91 a M = rd w0 M a := ld_one c91 a
@[go_sem] theorem eqp91 {w0 : World} {X Y : Operand} (a : Option Addr) : (std PP w0).bq .eql 91 X Y (.pointer a) (.pointer none) = some (.bool a.isNone) := eql_nil Tryz.underlying91 a
@[go_sem] theorem nep91 {w0 : World} {X Y : Operand} (a : Option Addr) : (std PP w0).bq .neq 91 X Y (.pointer a) (.pointer none) = some (.bool (!a.isNone)) := neq_nil Tryz.underlying91 a
theorem c103 : cell1 PP 103 = true := by kernel_rfl
@[go_sem] theorem ld103 {w0 : World} {M : Mem} (a : Addr) : (std PP w0).ld 103 a M = rd w0 M a := ld_one c103 a
@[go_sem] theorem eqp103 {w0 : World} {X Y : Operand} (a : Option Addr) : (std PP w0).bq .eql 103 X Y (.pointer a) (.pointer none) = some (.bool a.isNone) := eql_nil Tryz.underlying103 a
@[go_sem] theorem nep103 {w0 : World} {X Y : Operand} (a : Option Addr) : (std PP w0).bq .neq 103 X Y (.pointer a) (.pointer none) = some (.bool (!a.isNone)) := neq_nil Tryz.underlying103 a
theorem c121 : cell1 PP 121 = true := by kernel_rfl
@[go_sem] theorem ld121 {w0 : World} {M : Mem} (a : Addr) : (std PP w0).ld 121 a M = rd w0 M a := ld_one c121 a
@[go_sem] theorem eqp121 {w0 : World} {X Y : Operand} (a : Option Addr) : (std PP w0).bq .eql 121 X Y (.pointer a) (.pointer none) = some (.bool a.isNone) := eql_nil Tryz.underlying121 a
@[go_sem] theorem nep121 {w0 : World} {X Y : Operand} (a : Option Addr) : (std PP w0).bq .neq 121 X Y (.pointer a) (.pointer none) = some (.bool (!a.isNone)) := neq_nil Tryz.underlying121 a
theorem c123 : cell1 PP 123 = true := by kernel_rfl
@[go_sem] theorem ld123 {w0 : World} {M : Mem} (a : Addr) : (std PP w0).ld 123 a M = rd w0 M a := ld_one c123 a
@[go_sem] theorem eqp123 {w0 : World} {X Y : Operand} (a : Option Addr) : (std PP w0).bq .eql 123 X Y (.pointer a) (.pointer none) = some (.bool a.isNone) := eql_nil Tryz.underlying123 a
@[go_sem] theorem nep123 {w0 : World} {X Y : Operand} (a : Option Addr) : (std PP w0).bq .neq 123 X Y (.pointer a) (.pointer none) = some (.bool (!a.isNone)) := neq_nil Tryz.underlying123 a
theorem g138 : aggOf PP 138 5 = true := by kernel_rfl
theorem c143 : cell1 PP 143 = true := by kernel_rfl
@[go_sem] theorem ld143 {w0 : World} {M : Mem} (a : Addr) : (std PP w0).ld 143 a M = rd w0 M a := ld_one c143 a
@[go_sem] theorem eqs143 {w0 : World} {X Y : Operand} (s : SV) : (std PP w0).bq .eql 143 X Y (SV.v s) (.slice none 0 0) = some (.bool s.a.isNone) := eql_nils Tryz.underlying143 s
@[go_sem] theorem nes143 {w0 : World} {X Y : Operand} (s : SV) : (std PP w0).bq .neq 143 X Y (SV.v s) (.slice none 0 0) = some (.bool (!s.a.isNone)) := neq_nils Tryz.underlying143 s
theorem c146 : cell1 PP 146 = true := by kernel_rfl
@[go_sem] theorem ld146 {w0 : World} {M : Mem} (a : Addr) : (std PP w0).ld 146 a M = rd w0 M a := ld_one c146 a
@[go_sem] theorem eqp146 {w0 : World} {X Y : Operand} (a : Option Addr) : (std PP w0).bq .eql 146 X Y (.pointer a) (.pointer none) = some (.bool a.isNone) := eql_nil Tryz.underlying146 a
@[go_sem] theorem nep146 {w0 : World} {X Y : Operand} (a : Option Addr) : (std PP w0).bq .neq 146 X Y (.pointer a) (.pointer none) = some (.bool (!a.isNone)) := neq_nil Tryz.underlying146 a
theorem g149 : aggOf PP 149 3 = true := by kernel_rfl
theorem c150 : cell1 PP 150 = true := by kernel_rfl
@[go_sem] theorem ld150 {w0 : World} {M : Mem} (a : Addr) : (std PP w0).ld 150 a M = rd w0 M a := ld_one c150 a
@[go_sem] theorem eqp150 {w0 : World} {X Y : Operand} (a : Option Addr) : (std PP w0).bq .eql 150 X Y (.pointer a) (.pointer none) = some (.bool a.isNone) := eql_nil Tryz.underlying150 a
@[go_sem] theorem nep150 {w0 : World} {X Y : Operand} (a : Option Addr) : (std PP w0).bq .neq 150 X Y (.pointer a) (.pointer none) = some (.bool (!a.isNone)) := neq_nil Tryz.underlying150 a
theorem g153 : aggOf PP 153 3 = true := by kernel_rfl
theorem c157 : cell1 PP 157 = true := by kernel_rfl
@[go_sem] theorem ld157 {w0 : World} {M : Mem} (a : Addr) : (std PP w0).ld 157 a M = rd w0 M a := ld_one c157 a
@[go_sem] theorem eqs157 {w0 : World} {X Y : Operand} (s : SV) : (std PP w0).bq .eql 157 X Y (SV.v s) (.slice none 0 0) = some (.bool s.a.isNone) := eql_nils Tryz.underlying157 s
@[go_sem] theorem nes157 {w0 : World} {X Y : Operand} (s : SV) : (std PP w0).bq .neq 157 X Y (SV.v s) (.slice none 0 0) = some (.bool (!s.a.isNone)) := neq_nils Tryz.underlying157 s
theorem c196 : cell1 PP 196 = true := by kernel_rfl
@[go_sem] theorem ld196 {w0 : World} {M : Mem} (a : Addr) : (std PP w0).ld 196 a M = rd w0 M a := ld_one c196 a
@[go_sem] theorem eqp196 {w0 : World} {X Y : Operand} (a : Option Addr) : (std PP w0).bq .eql 196 X Y (.pointer a) (.pointer none) = some (.bool a.isNone) := eql_nil Tryz.underlying196 a
@[go_sem] theorem nep196 {w0 : World} {X Y : Operand} (a : Option Addr) : (std PP w0).bq .neq 196 X Y (.pointer a) (.pointer none) = some (.bool (!a.isNone)) := neq_nil Tryz.underlying196 a
theorem c206 : cell1 PP 206 = true := by kernel_rfl
@[go_sem] theorem ld206 {w0 : World} {M : Mem} (a : Addr) : (std PP w0).ld 206 a M = rd w0 M a := ld_one c206 a
@[go_sem] theorem eqs206 {w0 : World} {X Y : Operand} (s : SV) : (std PP w0).bq .eql 206 X Y (SV.v s) (.slice none 0 0) = some (.bool s.a.isNone) := eql_nils Tryz.underlying206 s
@[go_sem] theorem nes206 {w0 : World} {X Y : Operand} (s : SV) : (std PP w0).bq .neq 206 X Y (SV.v s) (.slice none 0 0) = some (.bool (!s.a.isNone)) := neq_nils Tryz.underlying206 s
theorem c209 : cell1 PP 209 = true := by kernel_rfl
@[go_sem] theorem ld209 {w0 : World} {M : Mem} (a : Addr) : (std PP w0).ld 209 a M = rd w0 M a := ld_one c209 a
@[go_sem] theorem eqs209 {w0 : World} {X Y : Operand} (s : SV) : (std PP w0).bq .eql 209 X Y (SV.v s) (.slice none 0 0) = some (.bool s.a.isNone) := eql_nils Tryz.underlying209 s
@[go_sem] theorem nes209 {w0 : World} {X Y : Operand} (s : SV) : (std PP w0).bq .neq 209 X Y (SV.v s) (.slice none 0 0) = some (.bool (!s.a.isNone)) := neq_nils Tryz.underlying209 s
theorem e213 : ElemOk PP 213 (.agg #[.int .i64 0, .bool false, .int .i64 0, .int .i64 0, .int .i64 0]) 5 := elem_ok (by kernel_rfl) rfl
theorem c237 : cell1 PP 237 = true := by kernel_rfl
@[go_sem] theorem ld237 {w0 : World} {M : Mem} (a : Addr) : (std PP w0).ld 237 a M = rd w0 M a := ld_one c237 a
@[go_sem] theorem eqs237 {w0 : World} {X Y : Operand} (s : SV) : (std PP w0).bq .eql 237 X Y (SV.v s) (.slice none 0 0) = some (.bool s.a.isNone) := eql_nils Tryz.underlying237 s
@[go_sem] theorem nes237 {w0 : World} {X Y : Operand} (s : SV) : (std PP w0).bq .neq 237 X Y (SV.v s) (.slice none 0 0) = some (.bool (!s.a.isNone)) := neq_nils Tryz.underlying237 s
theorem g241 : aggOf PP 241 7 = true := by kernel_rfl
theorem e241 : ElemOk PP 241 (.agg #[.int .i64 0, .bool false, .int .i64 0, .int .i64 0, .int .i64 0, .int .i64 0, .int .i64 0]) 7 := elem_ok (by kernel_rfl) rfl
theorem g251 : aggOf PP 251 11 = true := by kernel_rfl
theorem e251 : ElemOk PP 251 (.agg #[.int .i64 0, .int .i64 0, .int .i64 0, .int .i64 0, .int .i64 0, .int .i64 0, .int .i64 0, .int .i64 0, .int .i64 0, .int .i64 0, .bool false]) 11 := elem_ok (by kernel_rfl) rfl
theorem g259 : aggOf PP 259 5 = true := by kernel_rfl
theorem e259 : ElemOk PP 259 (.agg #[.int .i64 0, .bool false, .int .i64 0, .int .i64 0, .int .i64 0]) 5 := elem_ok (by kernel_rfl) rfl
theorem c269 : cell1 PP 269 = true := by kernel_rfl
@[go_sem] theorem ld269 {w0 : World} {M : Mem} (a : Addr) : (std PP w0).ld 269 a M = rd w0 M a := ld_one c269 a
theorem c274 : cell1 PP 274 = true := by kernel_rfl
@[go_sem] theorem ld274 {w0 : World} {M : Mem} (a : Addr) : (std PP w0).ld 274 a M = rd w0 M a := ld_one c274 a
@[go_sem] theorem eqs274 {w0 : World} {X Y : Operand} (s : SV) : (std PP w0).bq .eql 274 X Y (SV.v s) (.slice none 0 0) = some (.bool s.a.isNone) := eql_nils Tryz.underlying274 s
@[go_sem] theorem nes274 {w0 : World} {X Y : Operand} (s : SV) : (std PP w0).bq .neq 274 X Y (SV.v s) (.slice none 0 0) = some (.bool (!s.a.isNone)) := neq_nils Tryz.underlying274 s
theorem g276 : aggOf PP 276 2 = true := by kernel_rfl
theorem e276 : ElemOk PP 276 (.agg #[.int .i64 0, .int .i64 0]) 2 := elem_ok (by kernel_rfl) rfl
theorem c296 : cell1 PP 296 = true := by kernel_rfl
@[go_sem] theorem ld296 {w0 : World} {M : Mem} (a : Addr) : (std PP w0).ld 296 a M = rd w0 M a := ld_one c296 a
@[go_sem] theorem eqs296 {w0 : World} {X Y : Operand} (s : SV) : (std PP w0).bq .eql 296 X Y (SV.v s) (.slice none 0 0) = some (.bool s.a.isNone) := eql_nils Tryz.underlying296 s
@[go_sem] theorem nes296 {w0 : World} {X Y : Operand} (s : SV) : (std PP w0).bq .neq 296 X Y (SV.v s) (.slice none 0 0) = some (.bool (!s.a.isNone)) := neq_nils Tryz.underlying296 s
theorem c316 : cell1 PP 316 = true := by kernel_rfl
@[go_sem] theorem ld316 {w0 : World} {M : Mem} (a : Addr) : (std PP w0).ld 316 a M = rd w0 M a := ld_one c316 a
@[go_sem] theorem b100_0 {w0 : World} : (std PP w0).bld 100 [] = some (.agg #[.slice none 0 0]) := by kernel_rfl
@[go_sem] theorem b130_1 {w0 : World} (x0 : Int) (x1 : Int) (x2 : Int) (x3 : Int) (x4 : Int) (x5 : Int) : (std PP w0).bld 130 [(0, .int .i64 x0), (1, .int .i64 x1), (2, .agg #[.int .i64 x2, .int .i64 x3]), (3, .agg #[.int .i64 x4, .int .i64 x5])] = some (.agg #[.int .i64 x0, .int .i64 x1, .int .i64 x2, .int .i64 x3, .int .i64 x4, .int .i64 x5]) := by kernel_rfl
@[go_sem] theorem b138_2 {w0 : World} (x0 : Int) (x1 : Int) (x2 : Int) (x3 : Int) (x4 : Int) : (std PP w0).bld 138 [(0, .int .i64 x0), (1, .int .i64 x1), (2, .int .i64 x2), (3, .agg #[.int .i64 x3, .int .i64 x4])] = some (.agg #[.int .i64 x0, .int .i64 x1, .int .i64 x2, .int .i64 x3, .int .i64 x4]) := by kernel_rfl
@[go_sem] theorem b145_3 {w0 : World} (x0 : SV) (x1 : Option Addr) : (std PP w0).bld 145 [(0, SV.v x0), (3, .pointer x1)] = some (.agg #[SV.v x0, .int .i64 0, .slice none 0 0, .pointer x1]) := by kernel_rfl
@[go_sem] theorem b149_4 {w0 : World} (x0 : Int) (x1 : Int) : (std PP w0).bld 149 [(0, .int .i64 x0), (1, .int .i64 x1)] = some (.agg #[.int .i64 x0, .int .i64 x1, .int .i64 0]) := by kernel_rfl
@[go_sem] theorem b153_5 {w0 : World} (x0 : Int) (x1 : Int) (x2 : Int) : (std PP w0).bld 153 [(0, .int .i64 x0), (1, .agg #[.int .i64 x1, .int .i64 x2])] = some (.agg #[.int .i64 x0, .int .i64 x1, .int .i64 x2]) := by kernel_rfl
@[go_sem] theorem b159_6 {w0 : World} (x0 : Int) : (std PP w0).bld 159 [(0, .int .i64 x0)] = some (.agg #[.int .i64 x0, .slice none 0 0, .slice none 0 0, .slice none 0 0, .slice none 0 0]) := by kernel_rfl
@[go_sem] theorem b163_7 {w0 : World} : (std PP w0).bld 163 [] = some (.agg #[.int .i64 0, .int .i64 0, .int .i64 0]) := by kernel_rfl
@[go_sem] theorem b202_8 {w0 : World} : (std PP w0).bld 202 [] = some (.agg #[.int .i64 0]) := by kernel_rfl
@[go_sem] theorem b208_9 {w0 : World} (x0 : Int) : (std PP w0).bld 208 [(0, .int .i64 x0)] = some (.agg #[.int .i64 x0, .slice none 0 0, .slice none 0 0]) := by kernel_rfl
@[go_sem] theorem b211_10 {w0 : World} (x0 : Int) : (std PP w0).bld 211 [(0, .int .i64 x0)] = some (.agg #[.int .i64 x0, .slice none 0 0, .slice none 0 0]) := by kernel_rfl
@[go_sem] theorem b213_11 {w0 : World} : (std PP w0).bld 213 [] = some (.agg #[.int .i64 0, .bool false, .int .i64 0, .int .i64 0, .int .i64 0]) := by kernel_rfl
@[go_sem] theorem b239_12 {w0 : World} (x0 : Int) : (std PP w0).bld 239 [(0, .int .i64 x0)] = some (.agg #[.int .i64 x0, .slice none 0 0, .slice none 0 0]) := by kernel_rfl
@[go_sem] theorem b241_13 {w0 : World} : (std PP w0).bld 241 [] = some (.agg #[.int .i64 0, .bool false, .int .i64 0, .int .i64 0, .int .i64 0, .int .i64 0, .int .i64 0]) := by kernel_rfl
@[go_sem] theorem b251_14 {w0 : World} (x0 : Bool) : (std PP w0).bld 251 [(1, .bool x0)] = some (.agg #[.int .i64 0, .int .i64 0, .int .i64 0, .int .i64 0, .int .i64 0, .int .i64 0, .int .i64 0, .int .i64 0, .int .i64 0, .int .i64 0, .bool x0]) := by kernel_rfl
@[go_sem] theorem b259_15 {w0 : World} : (std PP w0).bld 259 [] = some (.agg #[.int .i64 0, .bool false, .int .i64 0, .int .i64 0, .int .i64 0]) := by kernel_rfl
@[go_sem] theorem b276_16 {w0 : World} (x0 : Int) (x1 : Int) : (std PP w0).bld 276 [(0, .int .i64 x0), (1, .int .i64 x1)] = some (.agg #[.int .i64 x0, .int .i64 x1]) := by kernel_rfl
@[go_sem] theorem b298_17 {w0 : World} (x0 : Int) (x1 : Int) : (std PP w0).bld 298 [(0, .int .i64 x0), (1, .int .i64 x1)] = some (.agg #[.int .i64 x0, .int .i64 x1]) := by kernel_rfl
@[go_sem] theorem b33_18 {w0 : World} (x0 : Int) (x1 : Int) : (std PP w0).bld 33 [(0, .int .i64 x0), (1, .int .i64 x1)] = some (.agg #[.int .i64 x0, .int .i64 x1]) := by kernel_rfl
@[go_sem] theorem b33_19 {w0 : World} : (std PP w0).bld 33 [] = some (.agg #[.int .i64 0, .int .i64 0]) := by kernel_rfl
@[go_sem] theorem b35_20 {w0 : World} (x0 : Int) (x1 : Int) : (std PP w0).bld 35 [(0, .int .i64 x0), (1, .int .i64 x1)] = some (.agg #[.int .i64 x0, .int .i64 x1, .int .i64 0, .int .i64 0, .int .i64 0, .int .i64 0, .int .i64 0, .int .i64 0, .int .i64 0]) := by kernel_rfl
@[go_sem] theorem b35_21 {w0 : World} (x0 : Int) (x1 : Int) (x2 : Int) : (std PP w0).bld 35 [(0, .int .i64 x0), (1, .int .i64 x1), (5, .int .i64 x2)] = some (.agg #[.int .i64 x0, .int .i64 x1, .int .i64 0, .int .i64 0, .int .i64 0, .int .i64 0, .int .i64 0, .int .i64 0, .int .i64 x2]) := by kernel_rfl
@[go_sem] theorem b35_22 {w0 : World} (x0 : Int) (x1 : Int) (x2 : Int) : (std PP w0).bld 35 [(0, .int .i64 x0), (2, .agg #[.int .i64 x1, .int .i64 x2])] = some (.agg #[.int .i64 x0, .int .i64 0, .int .i64 x1, .int .i64 x2, .int .i64 0, .int .i64 0, .int .i64 0, .int .i64 0, .int .i64 0]) := by kernel_rfl
@[go_sem] theorem b35_23 {w0 : World} (x0 : Int) (x1 : Int) (x2 : Int) (x3 : Int) (x4 : Int) : (std PP w0).bld 35 [(0, .int .i64 x0), (2, .agg #[.int .i64 x1, .int .i64 x2]), (3, .agg #[.int .i64 x3, .int .i64 x4])] = some (.agg #[.int .i64 x0, .int .i64 0, .int .i64 x1, .int .i64 x2, .int .i64 x3, .int .i64 x4, .int .i64 0, .int .i64 0, .int .i64 0]) := by kernel_rfl
@[go_sem] theorem b35_24 {w0 : World} (x0 : Int) (x1 : Int) (x2 : Int) (x3 : Int) : (std PP w0).bld 35 [(0, .int .i64 x0), (2, .agg #[.int .i64 x1, .int .i64 x2]), (5, .int .i64 x3)] = some (.agg #[.int .i64 x0, .int .i64 0, .int .i64 x1, .int .i64 x2, .int .i64 0, .int .i64 0, .int .i64 0, .int .i64 0, .int .i64 x3]) := by kernel_rfl
@[go_sem] theorem b35_25 {w0 : World} (x0 : Int) (x1 : Int) (x2 : Int) : (std PP w0).bld 35 [(0, .int .i64 x0), (4, .agg #[.int .i64 x1, .int .i64 x2])] = some (.agg #[.int .i64 x0, .int .i64 0, .int .i64 0, .int .i64 0, .int .i64 0, .int .i64 0, .int .i64 x1, .int .i64 x2, .int .i64 0]) := by kernel_rfl
@[go_sem] theorem b35_26 {w0 : World} (x0 : Int) (x1 : Int) (x2 : Int) (x3 : Int) : (std PP w0).bld 35 [(0, .int .i64 x0), (4, .agg #[.int .i64 x1, .int .i64 x2]), (5, .int .i64 x3)] = some (.agg #[.int .i64 x0, .int .i64 0, .int .i64 0, .int .i64 0, .int .i64 0, .int .i64 0, .int .i64 x1, .int .i64 x2, .int .i64 x3]) := by kernel_rfl
@[go_sem] theorem b42_27 {w0 : World} (x0 : Int) (x1 : Int) (x2 : Int) : (std PP w0).bld 42 [(0, .int .i64 x0), (1, .int .i64 x1), (2, .int .i64 x2)] = some (.agg #[.int .i64 x0, .int .i64 x1, .int .i64 x2]) := by kernel_rfl
@[go_sem] theorem b44_28 {w0 : World} (x0 : Int) (x1 : Int) : (std PP w0).bld 44 [(0, .int .i64 x0), (1, .int .i64 x1)] = some (.agg #[.int .i64 x0, .int .i64 x1]) := by kernel_rfl
@[go_sem] theorem b44_29 {w0 : World} : (std PP w0).bld 44 [] = some (.agg #[.int .i64 0, .int .i64 0]) := by kernel_rfl
@[go_sem] theorem b46_30 {w0 : World} (x0 : Int) : (std PP w0).bld 46 [(0, .int .i64 x0)] = some (.agg #[.int .i64 x0, .int .i64 0, .int .i64 0, .int .i64 0, .int .i64 0, .int .i64 0, .int .i64 0, .int .i64 0]) := by kernel_rfl
@[go_sem] theorem b46_31 {w0 : World} (x0 : Int) (x1 : Int) (x2 : Int) : (std PP w0).bld 46 [(1, .agg #[.int .i64 x0, .int .i64 x1]), (0, .int .i64 x2)] = some (.agg #[.int .i64 x2, .int .i64 x0, .int .i64 x1, .int .i64 0, .int .i64 0, .int .i64 0, .int .i64 0, .int .i64 0]) := by kernel_rfl
@[go_sem] theorem b46_32 {w0 : World} (x0 : Int) (x1 : Int) : (std PP w0).bld 46 [(1, .agg #[.int .i64 x0, .int .i64 x1])] = some (.agg #[.int .i64 0, .int .i64 x0, .int .i64 x1, .int .i64 0, .int .i64 0, .int .i64 0, .int .i64 0, .int .i64 0]) := by kernel_rfl
@[go_sem] theorem b46_33 {w0 : World} (x0 : Int) (x1 : Int) (x2 : Int) (x3 : Int) : (std PP w0).bld 46 [(2, .agg #[.int .i64 x0, .int .i64 x1]), (3, .agg #[.int .i64 x2, .int .i64 x3])] = some (.agg #[.int .i64 0, .int .i64 0, .int .i64 0, .int .i64 x0, .int .i64 x1, .int .i64 x2, .int .i64 x3, .int .i64 0]) := by kernel_rfl
@[go_sem] theorem b46_34 {w0 : World} (x0 : Int) (x1 : Int) : (std PP w0).bld 46 [(3, .agg #[.int .i64 x0, .int .i64 x1])] = some (.agg #[.int .i64 0, .int .i64 0, .int .i64 0, .int .i64 0, .int .i64 0, .int .i64 x0, .int .i64 x1, .int .i64 0]) := by kernel_rfl
@[go_sem] theorem b46_35 {w0 : World} (x0 : Int) (x1 : Int) : (std PP w0).bld 46 [(4, .int .i64 x0), (0, .int .i64 x1)] = some (.agg #[.int .i64 x1, .int .i64 0, .int .i64 0, .int .i64 0, .int .i64 0, .int .i64 0, .int .i64 0, .int .i64 x0]) := by kernel_rfl
@[go_sem] theorem b46_36 {w0 : World} (x0 : Int) : (std PP w0).bld 46 [(4, .int .i64 x0)] = some (.agg #[.int .i64 0, .int .i64 0, .int .i64 0, .int .i64 0, .int .i64 0, .int .i64 0, .int .i64 0, .int .i64 x0]) := by kernel_rfl
@[go_sem] theorem b56_37 {w0 : World} (x0 : Int) (x1 : Option Addr) (x2 : Option Addr) : (std PP w0).bld 56 [(0, .int .i64 x0), (3, .pointer x1), (4, .pointer x2)] = some (.agg #[.int .i64 x0, .int .i64 0, .int .i64 0, .pointer x1, .pointer x2, .slice none 0 0, .slice none 0 0, .slice none 0 0]) := by kernel_rfl
@[go_sem] theorem b65_38 {w0 : World} (x0 : Int) : (std PP w0).bld 65 [(0, .int .i64 x0)] = some (.agg #[.int .i64 x0, .int .i64 0, .int .i64 0, .int .i64 0, .int .i64 0, .int .i64 0]) := by kernel_rfl
@[go_sem] theorem b65_39 {w0 : World} (x0 : Int) (x1 : Int) (x2 : Int) (x3 : Int) : (std PP w0).bld 65 [(1, .agg #[.int .i64 x0, .int .i64 x1]), (2, .int .i64 x2), (3, .int .i64 x3)] = some (.agg #[.int .i64 0, .int .i64 x0, .int .i64 x1, .int .i64 x2, .int .i64 x3, .int .i64 0]) := by kernel_rfl
@[go_sem] theorem b65_40 {w0 : World} (x0 : Int) (x1 : Int) : (std PP w0).bld 65 [(2, .int .i64 x0), (3, .int .i64 x1)] = some (.agg #[.int .i64 0, .int .i64 0, .int .i64 0, .int .i64 x0, .int .i64 x1, .int .i64 0]) := by kernel_rfl
@[go_sem] theorem b65_41 {w0 : World} (x0 : Int) : (std PP w0).bld 65 [(2, .int .i64 x0)] = some (.agg #[.int .i64 0, .int .i64 0, .int .i64 0, .int .i64 x0, .int .i64 0, .int .i64 0]) := by kernel_rfl
@[go_sem] theorem b65_42 {w0 : World} (x0 : Int) : (std PP w0).bld 65 [(4, .int .i64 x0)] = some (.agg #[.int .i64 0, .int .i64 0, .int .i64 0, .int .i64 0, .int .i64 0, .int .i64 x0]) := by kernel_rfl
@[go_sem] theorem b68_43 {w0 : World} (x0 : Int) (x1 : Int) : (std PP w0).bld 68 [(0, .int .i64 x0), (1, .int .i64 x1)] = some (.agg #[.int .i64 x0, .int .i64 x1, .int .i64 0, .int .i64 0, .int .i64 0, .int .i64 0]) := by kernel_rfl
@[go_sem] theorem b68_44 {w0 : World} (x0 : Int) (x1 : Int) (x2 : Int) (x3 : Int) : (std PP w0).bld 68 [(0, .int .i64 x0), (1, .int .i64 x1), (3, .int .i64 x2), (4, .int .i64 x3)] = some (.agg #[.int .i64 x0, .int .i64 x1, .int .i64 0, .int .i64 0, .int .i64 x2, .int .i64 x3]) := by kernel_rfl
@[go_sem] theorem b68_45 {w0 : World} (x0 : Int) (x1 : Int) (x2 : Int) (x3 : Int) : (std PP w0).bld 68 [(0, .int .i64 x0), (1, .int .i64 x1), (4, .int .i64 x2), (3, .int .i64 x3)] = some (.agg #[.int .i64 x0, .int .i64 x1, .int .i64 0, .int .i64 0, .int .i64 x3, .int .i64 x2]) := by kernel_rfl
@[go_sem] theorem b68_46 {w0 : World} (x0 : Int) (x1 : Int) (x2 : Int) : (std PP w0).bld 68 [(0, .int .i64 x0), (2, .agg #[.int .i64 x1, .int .i64 x2])] = some (.agg #[.int .i64 x0, .int .i64 0, .int .i64 x1, .int .i64 x2, .int .i64 0, .int .i64 0]) := by kernel_rfl
@[go_sem] theorem b68_47 {w0 : World} (x0 : Int) (x1 : Int) (x2 : Int) (x3 : Int) : (std PP w0).bld 68 [(0, .int .i64 x0), (2, .agg #[.int .i64 x1, .int .i64 x2]), (3, .int .i64 x3)] = some (.agg #[.int .i64 x0, .int .i64 0, .int .i64 x1, .int .i64 x2, .int .i64 x3, .int .i64 0]) := by kernel_rfl
@[go_sem] theorem b68_48 {w0 : World} (x0 : Int) (x1 : Int) : (std PP w0).bld 68 [(0, .int .i64 x0), (3, .int .i64 x1)] = some (.agg #[.int .i64 x0, .int .i64 0, .int .i64 0, .int .i64 0, .int .i64 x1, .int .i64 0]) := by kernel_rfl
@[go_sem] theorem b68_49 {w0 : World} (x0 : Int) (x1 : Int) (x2 : Int) : (std PP w0).bld 68 [(0, .int .i64 x0), (3, .int .i64 x1), (4, .int .i64 x2)] = some (.agg #[.int .i64 x0, .int .i64 0, .int .i64 0, .int .i64 0, .int .i64 x1, .int .i64 x2]) := by kernel_rfl
@[go_sem] theorem b68_50 {w0 : World} (x0 : Int) : (std PP w0).bld 68 [(0, .int .i64 x0)] = some (.agg #[.int .i64 x0, .int .i64 0, .int .i64 0, .int .i64 0, .int .i64 0, .int .i64 0]) := by kernel_rfl
@[go_sem] theorem b73_51 {w0 : World} (x0 : Int) (x1 : Option Addr) : (std PP w0).bld 73 [(0, .int .i64 x0), (3, .pointer x1)] = some (.agg #[.int .i64 x0, .int .i64 0, .int .i64 0, .pointer x1, .slice none 0 0]) := by kernel_rfl
end W
end Go.Proofs.YtodobkbnmjgkdaaGreat.HL
namespace Go.Proofs.YtodobkbnmjgkdaaGreat.HL
open Go.Proofs
noncomputable def tS.h : HC := annot (bd Tryz.f4) [([true, true, true, true, true, true], [2, 7, 9, 10, 11]), ([true, true, true, true, true, true, false, true, false], [1, 2, 7, 9, 10, 11, 12]), ([true, true, true, true, true, true, false, true, false, false], [1, 2, 7, 9, 10, 11, 12]), ([true, true, true, true, true, true, true], [2, 7, 9, 10, 11]), ([true, true, true, true, true, true, true, true, true, true, false, true, false], [2, 7, 9, 10, 11, 15, 16]), ([true, true, true, true, true, true, true, true, true, true, true, true], [7, 9, 15, 18])]
def tS.Is (pr : Prim) (pts : Pts) (R : VP) : Prop := IsG PP pr pts tS.h Tryz.f4 R
abbrev tS.J1 (pts : Pts) (cancel_2 : Bool) (d_7 : Option Addr) (a_9 : Addr) (b_10 : Addr) (at_11 : Int) (M : Mem) : Prop := pts [true, true, true, true, true, true, true] [] [(2, .bool cancel_2), (7, .pointer d_7), (9, .pointer (some a_9)), (10, .pointer (some b_10)), (11, .int .i64 at_11)] M
def tS.J1.T (pr : Prim) (pts : Pts) (cancel_2 : Bool) (d_7 : Option Addr) (a_9 : Addr) (b_10 : Addr) (at_11 : Int) (R : VP) (M : Mem) : Prop := nfz pr pts R (gbody PP tS.h (gR Tryz.f4) [true, true, true, true, true, true, true] [] [(2, .bool (.v cancel_2)), (7, .ptr (.v d_7)), (9, .ptr (.a (.v a_9))), (10, .ptr (.a (.v b_10))), (11, .int .i64 (.v at_11))] M)
theorem tS.Is.J1 {pr : Prim} {pts : Pts} {R : VP} (H : tS.Is pr pts R) (cancel_2 : Bool) (d_7 : Option Addr) (a_9 : Addr) (b_10 : Addr) (at_11 : Int) (M : Mem) : tS.J1 pts cancel_2 d_7 a_9 b_10 at_11 M = tS.J1.T pr pts cancel_2 d_7 a_9 b_10 at_11 R M := (H _ _ _ _ _ rfl).trans (by kernel_rfl)
abbrev tS.L2 (pts : Pts) (k : Nat) (moves_1 : SV) (cancel_2 : Bool) (d_7 : Option Addr) (a_9 : Addr) (b_10 : Addr) (at_11 : Int) (i_12 : Int) (M : Mem) : Prop := pts [false, false, true, false, true, true, true, true, true, true] [k] [(1, SV.v moves_1), (2, .bool cancel_2), (7, .pointer d_7), (9, .pointer (some a_9)), (10, .pointer (some b_10)), (11, .int .i64 at_11), (12, .int .i64 i_12)] M
def tS.L2.T (pr : Prim) (pts : Pts) (k : Nat) (moves_1 : SV) (cancel_2 : Bool) (d_7 : Option Addr) (a_9 : Addr) (b_10 : Addr) (at_11 : Int) (i_12 : Int) (R : VP) (M : Mem) : Prop := nfz pr pts R (gbody PP tS.h (gR Tryz.f4) [false, false, true, false, true, true, true, true, true, true] [k] [(1, .sv moves_1), (2, .bool (.v cancel_2)), (7, .ptr (.v d_7)), (9, .ptr (.a (.v a_9))), (10, .ptr (.a (.v b_10))), (11, .int .i64 (.v at_11)), (12, .int .i64 (.v i_12))] M)
theorem tS.Is.L2 {pr : Prim} {pts : Pts} {R : VP} (H : tS.Is pr pts R) (k : Nat) (moves_1 : SV) (cancel_2 : Bool) (d_7 : Option Addr) (a_9 : Addr) (b_10 : Addr) (at_11 : Int) (i_12 : Int) (M : Mem) : tS.L2 pts (k + 1) moves_1 cancel_2 d_7 a_9 b_10 at_11 i_12 M = tS.L2.T pr pts k moves_1 cancel_2 d_7 a_9 b_10 at_11 i_12 R M := (H _ _ _ _ _ rfl).trans (by kernel_rfl)
abbrev tS.J3 (pts : Pts) (cancel_2 : Bool) (d_7 : Option Addr) (a_9 : Addr) (b_10 : Addr) (at_11 : Int) (M : Mem) : Prop := pts [true, true, true, true, true, true, true, true] [] [(2, .bool cancel_2), (7, .pointer d_7), (9, .pointer (some a_9)), (10, .pointer (some b_10)), (11, .int .i64 at_11)] M
def tS.J3.T (pr : Prim) (pts : Pts) (cancel_2 : Bool) (d_7 : Option Addr) (a_9 : Addr) (b_10 : Addr) (at_11 : Int) (R : VP) (M : Mem) : Prop := nfz pr pts R (gbody PP tS.h (gR Tryz.f4) [true, true, true, true, true, true, true, true] [] [(2, .bool (.v cancel_2)), (7, .ptr (.v d_7)), (9, .ptr (.a (.v a_9))), (10, .ptr (.a (.v b_10))), (11, .int .i64 (.v at_11))] M)
theorem tS.Is.J3 {pr : Prim} {pts : Pts} {R : VP} (H : tS.Is pr pts R) (cancel_2 : Bool) (d_7 : Option Addr) (a_9 : Addr) (b_10 : Addr) (at_11 : Int) (M : Mem) : tS.J3 pts cancel_2 d_7 a_9 b_10 at_11 M = tS.J3.T pr pts cancel_2 d_7 a_9 b_10 at_11 R M := (H _ _ _ _ _ rfl).trans (by kernel_rfl)
abbrev tS.J4 (pts : Pts) (k : Nat) (moves_1 : SV) (cancel_2 : Bool) (d_7 : Option Addr) (a_9 : Addr) (b_10 : Addr) (at_11 : Int) (i_12 : Int) (M : Mem) : Prop := pts [true, false, false, true, false, true, true, true, true, true, true] [k] [(1, SV.v moves_1), (2, .bool cancel_2), (7, .pointer d_7), (9, .pointer (some a_9)), (10, .pointer (some b_10)), (11, .int .i64 at_11), (12, .int .i64 i_12)] M
def tS.J4.T (pr : Prim) (pts : Pts) (k : Nat) (moves_1 : SV) (cancel_2 : Bool) (d_7 : Option Addr) (a_9 : Addr) (b_10 : Addr) (at_11 : Int) (i_12 : Int) (R : VP) (M : Mem) : Prop := nfz pr pts R (gbody PP tS.h (gR Tryz.f4) [true, false, false, true, false, true, true, true, true, true, true] [k] [(1, .sv moves_1), (2, .bool (.v cancel_2)), (7, .ptr (.v d_7)), (9, .ptr (.a (.v a_9))), (10, .ptr (.a (.v b_10))), (11, .int .i64 (.v at_11)), (12, .int .i64 (.v i_12))] M)
theorem tS.Is.J4 {pr : Prim} {pts : Pts} {R : VP} (H : tS.Is pr pts R) (k : Nat) (moves_1 : SV) (cancel_2 : Bool) (d_7 : Option Addr) (a_9 : Addr) (b_10 : Addr) (at_11 : Int) (i_12 : Int) (M : Mem) : tS.J4 pts k moves_1 cancel_2 d_7 a_9 b_10 at_11 i_12 M = tS.J4.T pr pts k moves_1 cancel_2 d_7 a_9 b_10 at_11 i_12 R M := (H _ _ _ _ _ rfl).trans (by kernel_rfl)
abbrev tS.L5 (pts : Pts) (k : Nat) (cancel_2 : Bool) (d_7 : Option Addr) (a_9 : Addr) (b_10 : Addr) (at_11 : Int) (got_15 : SV) (i_16 : Int) (M : Mem) : Prop := pts [false, false, true, false, true, true, true, true, true, true, true, true, true, true] [k] [(2, .bool cancel_2), (7, .pointer d_7), (9, .pointer (some a_9)), (10, .pointer (some b_10)), (11, .int .i64 at_11), (15, SV.v got_15), (16, .int .i64 i_16)] M
def tS.L5.T (pr : Prim) (pts : Pts) (k : Nat) (cancel_2 : Bool) (d_7 : Option Addr) (a_9 : Addr) (b_10 : Addr) (at_11 : Int) (got_15 : SV) (i_16 : Int) (R : VP) (M : Mem) : Prop := nfz pr pts R (gbody PP tS.h (gR Tryz.f4) [false, false, true, false, true, true, true, true, true, true, true, true, true, true] [k] [(2, .bool (.v cancel_2)), (7, .ptr (.v d_7)), (9, .ptr (.a (.v a_9))), (10, .ptr (.a (.v b_10))), (11, .int .i64 (.v at_11)), (15, .sv got_15), (16, .int .i64 (.v i_16))] M)
theorem tS.Is.L5 {pr : Prim} {pts : Pts} {R : VP} (H : tS.Is pr pts R) (k : Nat) (cancel_2 : Bool) (d_7 : Option Addr) (a_9 : Addr) (b_10 : Addr) (at_11 : Int) (got_15 : SV) (i_16 : Int) (M : Mem) : tS.L5 pts (k + 1) cancel_2 d_7 a_9 b_10 at_11 got_15 i_16 M = tS.L5.T pr pts k cancel_2 d_7 a_9 b_10 at_11 got_15 i_16 R M := (H _ _ _ _ _ rfl).trans (by kernel_rfl)
abbrev tS.J6 (pts : Pts) (d_7 : Option Addr) (a_9 : Addr) (got_15 : SV) (want_18 : SV) (M : Mem) : Prop := pts [true, true, true, true, true, true, true, true, true, true, true, true, true] [] [(7, .pointer d_7), (9, .pointer (some a_9)), (15, SV.v got_15), (18, SV.v want_18)] M
def tS.J6.T (pr : Prim) (pts : Pts) (d_7 : Option Addr) (a_9 : Addr) (got_15 : SV) (want_18 : SV) (R : VP) (M : Mem) : Prop := nfz pr pts R (gbody PP tS.h (gR Tryz.f4) [true, true, true, true, true, true, true, true, true, true, true, true, true] [] [(7, .ptr (.v d_7)), (9, .ptr (.a (.v a_9))), (15, .sv got_15), (18, .sv want_18)] M)
theorem tS.Is.J6 {pr : Prim} {pts : Pts} {R : VP} (H : tS.Is pr pts R) (d_7 : Option Addr) (a_9 : Addr) (got_15 : SV) (want_18 : SV) (M : Mem) : tS.J6 pts d_7 a_9 got_15 want_18 M = tS.J6.T pr pts d_7 a_9 got_15 want_18 R M := (H _ _ _ _ _ rfl).trans (by kernel_rfl)
def tS.T (pr : Prim) (pts : Pts) (k : Int) (moves : SV) (cancel : Bool) (R : VP) (M : Mem) : Prop := nfz pr pts R (gX PP tS.h [] [] (gR Tryz.f4) [(0, .int .i64 (.v k)), (1, .sv moves), (2, .bool (.v cancel))] M)
theorem tS.go (w0 : World) (k : Int) (moves : SV) (cancel : Bool) {R : VP} {M : Mem} (h : ∀ pts, tS.Is (std PP w0) pts R → tS.T (std PP w0) pts k moves cancel R M) : C PP w0 Id.tS #[.int .i64 k, SV.v moves, .bool cancel] R M :=
  goG mixed (h := tS.h) (T := fun pr pts => tS.T pr pts k moves cancel R M) Tryz.func4 (aC_ _ _) (by kernel_rfl) (fun pr pts => by kernel_rfl) h
noncomputable def tb_Within.h : HC := annot (bd Tryz.f9) [([true], [0, 1, 2])]
def tb_Within.Is (pr : Prim) (pts : Pts) (R : VP) : Prop := IsG PP pr pts tb_Within.h Tryz.f9 R
abbrev tb_Within.J1 (pts : Pts) (n_0 : Int) (lo_1 : Int) (hi_2 : Int) (M : Mem) : Prop := pts [true, true] [] [(0, .int .i64 n_0), (1, .int .i64 lo_1), (2, .int .i64 hi_2)] M
def tb_Within.J1.T (pr : Prim) (pts : Pts) (n_0 : Int) (lo_1 : Int) (hi_2 : Int) (R : VP) (M : Mem) : Prop := nfz pr pts R (gbody PP tb_Within.h (gR Tryz.f9) [true, true] [] [(0, .int .i64 (.v n_0)), (1, .int .i64 (.v lo_1)), (2, .int .i64 (.v hi_2))] M)
theorem tb_Within.Is.J1 {pr : Prim} {pts : Pts} {R : VP} (H : tb_Within.Is pr pts R) (n_0 : Int) (lo_1 : Int) (hi_2 : Int) (M : Mem) : tb_Within.J1 pts n_0 lo_1 hi_2 M = tb_Within.J1.T pr pts n_0 lo_1 hi_2 R M := (H _ _ _ _ _ rfl).trans (by kernel_rfl)
def tb_Within.T (pr : Prim) (pts : Pts) (n : Int) (lo : Int) (hi : Int) (R : VP) (M : Mem) : Prop := nfz pr pts R (gX PP tb_Within.h [] [] (gR Tryz.f9) [(0, .int .i64 (.v n)), (1, .int .i64 (.v lo)), (2, .int .i64 (.v hi))] M)
theorem tb_Within.go (w0 : World) (n : Int) (lo : Int) (hi : Int) {R : VP} {M : Mem} (h : ∀ pts, tb_Within.Is (std PP w0) pts R → tb_Within.T (std PP w0) pts n lo hi R M) : C PP w0 Id.tb_Within #[.int .i64 n, .int .i64 lo, .int .i64 hi] R M :=
  goG mixed (h := tb_Within.h) (T := fun pr pts => tb_Within.T pr pts n lo hi R M) Tryz.func9 (aC_ _ _) (by kernel_rfl) (fun pr pts => by kernel_rfl) h
noncomputable def pq_New.h : HC := annot (bd Tryz.f10) [([true], [0])]
def pq_New.Is (pr : Prim) (pts : Pts) (R : VP) : Prop := IsG PP pr pts pq_New.h Tryz.f10 R
abbrev pq_New.J1 (pts : Pts) (items_0 : Int) (M : Mem) : Prop := pts [true, true] [] [(0, .int .i64 items_0)] M
def pq_New.J1.T (pr : Prim) (pts : Pts) (items_0 : Int) (R : VP) (M : Mem) : Prop := nfz pr pts R (gbody PP pq_New.h (gR Tryz.f10) [true, true] [] [(0, .int .i64 (.v items_0))] M)
theorem pq_New.Is.J1 {pr : Prim} {pts : Pts} {R : VP} (H : pq_New.Is pr pts R) (items_0 : Int) (M : Mem) : pq_New.J1 pts items_0 M = pq_New.J1.T pr pts items_0 R M := (H _ _ _ _ _ rfl).trans (by kernel_rfl)
def pq_New.T (pr : Prim) (pts : Pts) (items : Int) (R : VP) (M : Mem) : Prop := nfz pr pts R (gX PP pq_New.h [] [] (gR Tryz.f10) [(0, .int .i64 (.v items))] M)
theorem pq_New.go (w0 : World) (items : Int) {R : VP} {M : Mem} (h : ∀ pts, pq_New.Is (std PP w0) pts R → pq_New.T (std PP w0) pts items R M) : C PP w0 Id.pq_New #[.int .i64 items] R M :=
  goG mixed (h := pq_New.h) (T := fun pr pts => pq_New.T pr pts items R M) Tryz.func10 (aC_ _ _) (by kernel_rfl) (fun pr pts => by kernel_rfl) h
end Go.Proofs.YtodobkbnmjgkdaaGreat.HL
namespace Go.Proofs.YtodobkbnmjgkdaaGreat.HL
open Go.Proofs
noncomputable def pQ_Do.h : HC := annot (bd Tryz.f14) []
def pQ_Do.T (pr : Prim) (q : Option Addr) (c_0 : Int) (c_1 : Int) (c_2 : Int) (c_3 : Int) (c_4 : Int) (c_5 : Int) (c_6 : Int) (c_7 : Int) (c_8 : Int) (R : VP) (M : Mem) : Prop := nfz pr (fun _ _ _ _ => False) R (gX PP pQ_Do.h [] [] (gR Tryz.f14) [(0, .ptr (.v q)), (1, .agg [.int .i64 (.v c_0), .int .i64 (.v c_1), .int .i64 (.v c_2), .int .i64 (.v c_3), .int .i64 (.v c_4), .int .i64 (.v c_5), .int .i64 (.v c_6), .int .i64 (.v c_7), .int .i64 (.v c_8)])] M)
theorem pQ_Do.go (w0 : World) (q : Option Addr) (c_0 : Int) (c_1 : Int) (c_2 : Int) (c_3 : Int) (c_4 : Int) (c_5 : Int) (c_6 : Int) (c_7 : Int) (c_8 : Int) {R : VP} {M : Mem} (h : pQ_Do.T (std PP w0) q c_0 c_1 c_2 c_3 c_4 c_5 c_6 c_7 c_8 R M) : C PP w0 Id.pQ_Do #[.pointer q, .agg #[.int .i64 c_0, .int .i64 c_1, .int .i64 c_2, .int .i64 c_3, .int .i64 c_4, .int .i64 c_5, .int .i64 c_6, .int .i64 c_7, .int .i64 c_8]] R M :=
  goG mixed (h := pQ_Do.h) (T := fun pr pts => pQ_Do.T pr q c_0 c_1 c_2 c_3 c_4 c_5 c_6 c_7 c_8 R M) Tryz.func14 (aC_ _ _) (by kernel_rfl) (fun pr pts => by kernel_rfl) fun _ _ => h
noncomputable def pQ_Steps.h : HC := annot (bd Tryz.f16) []
def pQ_Steps.T (pr : Prim) (q : Option Addr) (R : VP) (M : Mem) : Prop := nfz pr (fun _ _ _ _ => False) R (gX PP pQ_Steps.h [] [] (gR Tryz.f16) [(0, .ptr (.v q))] M)
theorem pQ_Steps.go (w0 : World) (q : Option Addr) {R : VP} {M : Mem} (h : pQ_Steps.T (std PP w0) q R M) : C PP w0 Id.pQ_Steps #[.pointer q] R M :=
  goG mixed (h := pQ_Steps.h) (T := fun pr pts => pQ_Steps.T pr q R M) Tryz.func16 (aC_ _ _) (by kernel_rfl) (fun pr pts => by kernel_rfl) fun _ _ => h
noncomputable def bound_Of.h : HC := annot (bd Tryz.f19) [([true], [0, 1, 2])]
def bound_Of.Is (pr : Prim) (pts : Pts) (R : VP) : Prop := IsG PP pr pts bound_Of.h Tryz.f19 R
abbrev bound_Of.J1 (pts : Pts) (k_0 : Int) (op_1 : Int) (n_2 : Int) (M : Mem) : Prop := pts [true, true] [] [(0, .int .i64 k_0), (1, .int .i64 op_1), (2, .int .i64 n_2)] M
def bound_Of.J1.T (pr : Prim) (pts : Pts) (k_0 : Int) (op_1 : Int) (n_2 : Int) (R : VP) (M : Mem) : Prop := nfz pr pts R (gbody PP bound_Of.h (gR Tryz.f19) [true, true] [] [(0, .int .i64 (.v k_0)), (1, .int .i64 (.v op_1)), (2, .int .i64 (.v n_2))] M)
theorem bound_Of.Is.J1 {pr : Prim} {pts : Pts} {R : VP} (H : bound_Of.Is pr pts R) (k_0 : Int) (op_1 : Int) (n_2 : Int) (M : Mem) : bound_Of.J1 pts k_0 op_1 n_2 M = bound_Of.J1.T pr pts k_0 op_1 n_2 R M := (H _ _ _ _ _ rfl).trans (by kernel_rfl)
def bound_Of.T (pr : Prim) (pts : Pts) (k : Int) (op : Int) (n : Int) (R : VP) (M : Mem) : Prop := nfz pr pts R (gX PP bound_Of.h [] [] (gR Tryz.f19) [(0, .int .i64 (.v k)), (1, .int .i64 (.v op)), (2, .int .i64 (.v n))] M)
theorem bound_Of.go (w0 : World) (k : Int) (op : Int) (n : Int) {R : VP} {M : Mem} (h : ∀ pts, bound_Of.Is (std PP w0) pts R → bound_Of.T (std PP w0) pts k op n R M) : C PP w0 Id.bound_Of #[.int .i64 k, .int .i64 op, .int .i64 n] R M :=
  goG mixed (h := bound_Of.h) (T := fun pr pts => bound_Of.T pr pts k op n R M) Tryz.func19 (aC_ _ _) (by kernel_rfl) (fun pr pts => by kernel_rfl) h
noncomputable def tp_awake.h : HC := annot (bd Tryz.f21) [([true, true], [1])]
def tp_awake.Is (pr : Prim) (pts : Pts) (R : VP) : Prop := IsG PP pr pts tp_awake.h Tryz.f21 R
abbrev tp_awake.J1 (pts : Pts) (q_1 : Option Addr) (M : Mem) : Prop := pts [true, true, true] [] [(1, .pointer q_1)] M
def tp_awake.J1.T (pr : Prim) (pts : Pts) (q_1 : Option Addr) (R : VP) (M : Mem) : Prop := nfz pr pts R (gbody PP tp_awake.h (gR Tryz.f21) [true, true, true] [] [(1, .ptr (.v q_1))] M)
theorem tp_awake.Is.J1 {pr : Prim} {pts : Pts} {R : VP} (H : tp_awake.Is pr pts R) (q_1 : Option Addr) (M : Mem) : tp_awake.J1 pts q_1 M = tp_awake.J1.T pr pts q_1 R M := (H _ _ _ _ _ rfl).trans (by kernel_rfl)
def tp_awake.T (pr : Prim) (pts : Pts) (R : VP) (M : Mem) : Prop := nfz pr pts R (gX PP tp_awake.h [] [] (gR Tryz.f21) [] M)
theorem tp_awake.go (w0 : World) {R : VP} {M : Mem} (h : ∀ pts, tp_awake.Is (std PP w0) pts R → tp_awake.T (std PP w0) pts R M) : C PP w0 Id.tp_awake #[] R M :=
  goG mixed (h := tp_awake.h) (T := fun pr pts => tp_awake.T pr pts R M) Tryz.func21 (aC_ _ _) (by kernel_rfl) (fun pr pts => by kernel_rfl) h
noncomputable def tp_dispatcher.h : HC := annot (bd Tryz.f22) []
def tp_dispatcher.T (pr : Prim) (k : Int) (jobs : Int) (R : VP) (M : Mem) : Prop := nfz pr (fun _ _ _ _ => False) R (gX PP tp_dispatcher.h [] [] (gR Tryz.f22) [(0, .int .i64 (.v k)), (1, .int .i64 (.v jobs))] M)
theorem tp_dispatcher.go (w0 : World) (k : Int) (jobs : Int) {R : VP} {M : Mem} (h : tp_dispatcher.T (std PP w0) k jobs R M) : C PP w0 Id.tp_dispatcher #[.int .i64 k, .int .i64 jobs] R M :=
  goG mixed (h := tp_dispatcher.h) (T := fun pr pts => tp_dispatcher.T pr k jobs R M) Tryz.func22 (aC_ _ _) (by kernel_rfl) (fun pr pts => by kernel_rfl) fun _ _ => h
noncomputable def dD_Do.h : HC := annot (bd Tryz.f23) []
def dD_Do.T (pr : Prim) (d : Option Addr) (c_0 : Int) (c_1 : Int) (c_2 : Int) (c_3 : Int) (c_4 : Int) (c_5 : Int) (R : VP) (M : Mem) : Prop := nfz pr (fun _ _ _ _ => False) R (gX PP dD_Do.h [] [] (gR Tryz.f23) [(0, .ptr (.v d)), (1, .agg [.int .i64 (.v c_0), .int .i64 (.v c_1), .int .i64 (.v c_2), .int .i64 (.v c_3), .int .i64 (.v c_4), .int .i64 (.v c_5)])] M)
theorem dD_Do.go (w0 : World) (d : Option Addr) (c_0 : Int) (c_1 : Int) (c_2 : Int) (c_3 : Int) (c_4 : Int) (c_5 : Int) {R : VP} {M : Mem} (h : dD_Do.T (std PP w0) d c_0 c_1 c_2 c_3 c_4 c_5 R M) : C PP w0 Id.dD_Do #[.pointer d, .agg #[.int .i64 c_0, .int .i64 c_1, .int .i64 c_2, .int .i64 c_3, .int .i64 c_4, .int .i64 c_5]] R M :=
  goG mixed (h := dD_Do.h) (T := fun pr pts => dD_Do.T pr d c_0 c_1 c_2 c_3 c_4 c_5 R M) Tryz.func23 (aC_ _ _) (by kernel_rfl) (fun pr pts => by kernel_rfl) fun _ _ => h
noncomputable def tb_Sameapi_Ref.h : HC := annot (bd Tryz.f24) [([true, true, false, true, false], [0, 1, 5])]
def tb_Sameapi_Ref.Is (pr : Prim) (pts : Pts) (R : VP) : Prop := IsG PP pr pts tb_Sameapi_Ref.h Tryz.f24 R
abbrev tb_Sameapi_Ref.L1 (pts : Pts) (k : Nat) (a_0 : SV) (b_1 : SV) (i_5 : Int) (M : Mem) : Prop := pts [false, false, true, false, true, true] [k] [(0, SV.v a_0), (1, SV.v b_1), (5, .int .i64 i_5)] M
def tb_Sameapi_Ref.L1.T (pr : Prim) (pts : Pts) (k : Nat) (a_0 : SV) (b_1 : SV) (i_5 : Int) (R : VP) (M : Mem) : Prop := nfz pr pts R (gbody PP tb_Sameapi_Ref.h (gR Tryz.f24) [false, false, true, false, true, true] [k] [(0, .sv a_0), (1, .sv b_1), (5, .int .i64 (.v i_5))] M)
theorem tb_Sameapi_Ref.Is.L1 {pr : Prim} {pts : Pts} {R : VP} (H : tb_Sameapi_Ref.Is pr pts R) (k : Nat) (a_0 : SV) (b_1 : SV) (i_5 : Int) (M : Mem) : tb_Sameapi_Ref.L1 pts (k + 1) a_0 b_1 i_5 M = tb_Sameapi_Ref.L1.T pr pts k a_0 b_1 i_5 R M := (H _ _ _ _ _ rfl).trans (by kernel_rfl)
def tb_Sameapi_Ref.T (pr : Prim) (pts : Pts) (a : SV) (b : SV) (R : VP) (M : Mem) : Prop := nfz pr pts R (gX PP tb_Sameapi_Ref.h [] [] (gR Tryz.f24) [(0, .sv a), (1, .sv b)] M)
theorem tb_Sameapi_Ref.go (w0 : World) (a : SV) (b : SV) {R : VP} {M : Mem} (h : ∀ pts, tb_Sameapi_Ref.Is (std PP w0) pts R → tb_Sameapi_Ref.T (std PP w0) pts a b R M) : C PP w0 Id.tb_Sameapi_Ref #[SV.v a, SV.v b] R M :=
  goG mixed (h := tb_Sameapi_Ref.h) (T := fun pr pts => tb_Sameapi_Ref.T pr pts a b R M) Tryz.func24 (aC_ _ _) (by kernel_rfl) (fun pr pts => by kernel_rfl) h
noncomputable def dispatch_New.h : HC := annot (bd Tryz.f31) [([true, true, true, true, true, true, false, true, false], [0, 8, 10, 38])]
def dispatch_New.Is (pr : Prim) (pts : Pts) (R : VP) : Prop := IsG PP pr pts dispatch_New.h Tryz.f31 R
abbrev dispatch_New.L1 (pts : Pts) (k : Nat) (k_0 : Int) (q_8 : Option Addr) (d_10 : Option Addr) (t38 : Int) (M : Mem) : Prop := pts [false, false, true, false, true, true, true, true, true, true] [k] [(0, .int .i64 k_0), (8, .pointer q_8), (10, .pointer d_10), (38, .int .i64 t38)] M
def dispatch_New.L1.T (pr : Prim) (pts : Pts) (k : Nat) (k_0 : Int) (q_8 : Option Addr) (d_10 : Option Addr) (t38 : Int) (R : VP) (M : Mem) : Prop := nfz pr pts R (gbody PP dispatch_New.h (gR Tryz.f31) [false, false, true, false, true, true, true, true, true, true] [k] [(0, .int .i64 (.v k_0)), (8, .ptr (.v q_8)), (10, .ptr (.v d_10)), (38, .int .i64 (.v t38))] M)
theorem dispatch_New.Is.L1 {pr : Prim} {pts : Pts} {R : VP} (H : dispatch_New.Is pr pts R) (k : Nat) (k_0 : Int) (q_8 : Option Addr) (d_10 : Option Addr) (t38 : Int) (M : Mem) : dispatch_New.L1 pts (k + 1) k_0 q_8 d_10 t38 M = dispatch_New.L1.T pr pts k k_0 q_8 d_10 t38 R M := (H _ _ _ _ _ rfl).trans (by kernel_rfl)
def dispatch_New.T (pr : Prim) (pts : Pts) (k : Int) (most : Int) (R : VP) (M : Mem) : Prop := nfz pr pts R (gX PP dispatch_New.h [] [] (gR Tryz.f31) [(0, .int .i64 (.v k)), (1, .int .i64 (.v most))] M)
theorem dispatch_New.go (w0 : World) (k : Int) (most : Int) {R : VP} {M : Mem} (h : ∀ pts, dispatch_New.Is (std PP w0) pts R → dispatch_New.T (std PP w0) pts k most R M) : C PP w0 Id.dispatch_New #[.int .i64 k, .int .i64 most] R M :=
  goG mixed (h := dispatch_New.h) (T := fun pr pts => dispatch_New.T pr pts k most R M) Tryz.func31 (aC_ _ _) (by kernel_rfl) (fun pr pts => by kernel_rfl) h
noncomputable def arena_New.h : HC := annot (bd Tryz.f35) []
def arena_New.T (pr : Prim) (cells : Int) (R : VP) (M : Mem) : Prop := nfz pr (fun _ _ _ _ => False) R (gX PP arena_New.h [] [] (gR Tryz.f35) [(0, .int .i64 (.v cells))] M)
theorem arena_New.go (w0 : World) (cells : Int) {R : VP} {M : Mem} (h : arena_New.T (std PP w0) cells R M) : C PP w0 Id.arena_New #[.int .i64 cells] R M :=
  goG mixed (h := arena_New.h) (T := fun pr pts => arena_New.T pr cells R M) Tryz.func35 (aC_ _ _) (by kernel_rfl) (fun pr pts => by kernel_rfl) fun _ _ => h
noncomputable def slots_New.h : HC := annot (bd Tryz.f36) []
def slots_New.T (pr : Prim) (items : Int) (R : VP) (M : Mem) : Prop := nfz pr (fun _ _ _ _ => False) R (gX PP slots_New.h [] [] (gR Tryz.f36) [(0, .int .i64 (.v items))] M)
theorem slots_New.go (w0 : World) (items : Int) {R : VP} {M : Mem} (h : slots_New.T (std PP w0) items R M) : C PP w0 Id.slots_New #[.int .i64 items] R M :=
  goG mixed (h := slots_New.h) (T := fun pr pts => slots_New.T pr items R M) Tryz.func36 (aC_ _ _) (by kernel_rfl) (fun pr pts => by kernel_rfl) fun _ _ => h
noncomputable def p2_New.h : HC := annot (bd Tryz.f37) []
def p2_New.T (pr : Prim) (places : Int) (R : VP) (M : Mem) : Prop := nfz pr (fun _ _ _ _ => False) R (gX PP p2_New.h [] [] (gR Tryz.f37) [(0, .int .i64 (.v places))] M)
theorem p2_New.go (w0 : World) (places : Int) {R : VP} {M : Mem} (h : p2_New.T (std PP w0) places R M) : C PP w0 Id.p2_New #[.int .i64 places] R M :=
  goG mixed (h := p2_New.h) (T := fun pr pts => p2_New.T pr places R M) Tryz.func37 (aC_ _ _) (by kernel_rfl) (fun pr pts => by kernel_rfl) fun _ _ => h
noncomputable def aA_Meter.h : HC := annot (bd Tryz.f40) []
def aA_Meter.T (pr : Prim) (a : Option Addr) (R : VP) (M : Mem) : Prop := nfz pr (fun _ _ _ _ => False) R (gX PP aA_Meter.h [] [] (gR Tryz.f40) [(0, .ptr (.v a))] M)
theorem aA_Meter.go (w0 : World) (a : Option Addr) {R : VP} {M : Mem} (h : aA_Meter.T (std PP w0) a R M) : C PP w0 Id.aA_Meter #[.pointer a] R M :=
  goG mixed (h := aA_Meter.h) (T := fun pr pts => aA_Meter.T pr a R M) Tryz.func40 (aC_ _ _) (by kernel_rfl) (fun pr pts => by kernel_rfl) fun _ _ => h
noncomputable def mM_Begin.h : HC := annot (bd Tryz.f41) []
def mM_Begin.T (pr : Prim) (m : Option Addr) (R : VP) (M : Mem) : Prop := nfz pr (fun _ _ _ _ => False) R (gX PP mM_Begin.h [] [] (gR Tryz.f41) [(0, .ptr (.v m))] M)
theorem mM_Begin.go (w0 : World) (m : Option Addr) {R : VP} {M : Mem} (h : mM_Begin.T (std PP w0) m R M) : C PP w0 Id.mM_Begin #[.pointer m] R M :=
  goG mixed (h := mM_Begin.h) (T := fun pr pts => mM_Begin.T pr m R M) Tryz.func41 (aC_ _ _) (by kernel_rfl) (fun pr pts => by kernel_rfl) fun _ _ => h
noncomputable def sT_Make.h : HC := annot (bd Tryz.f42) []
def sT_Make.T (pr : Prim) (t : Option Addr) (k : Int) (R : VP) (M : Mem) : Prop := nfz pr (fun _ _ _ _ => False) R (gX PP sT_Make.h [] [] (gR Tryz.f42) [(0, .ptr (.v t)), (1, .int .i64 (.v k))] M)
theorem sT_Make.go (w0 : World) (t : Option Addr) (k : Int) {R : VP} {M : Mem} (h : sT_Make.T (std PP w0) t k R M) : C PP w0 Id.sT_Make #[.pointer t, .int .i64 k] R M :=
  goG mixed (h := sT_Make.h) (T := fun pr pts => sT_Make.T pr t k R M) Tryz.func42 (aC_ _ _) (by kernel_rfl) (fun pr pts => by kernel_rfl) fun _ _ => h
noncomputable def pQ_insert.h : HC := annot (bd Tryz.f43) []
def pQ_insert.T (pr : Prim) (q : Option Addr) (c_0 : Int) (c_1 : Int) (c_2 : Int) (c_3 : Int) (c_4 : Int) (c_5 : Int) (c_6 : Int) (c_7 : Int) (c_8 : Int) (R : VP) (M : Mem) : Prop := nfz pr (fun _ _ _ _ => False) R (gX PP pQ_insert.h [] [] (gR Tryz.f43) [(0, .ptr (.v q)), (1, .agg [.int .i64 (.v c_0), .int .i64 (.v c_1), .int .i64 (.v c_2), .int .i64 (.v c_3), .int .i64 (.v c_4), .int .i64 (.v c_5), .int .i64 (.v c_6), .int .i64 (.v c_7), .int .i64 (.v c_8)])] M)
theorem pQ_insert.go (w0 : World) (q : Option Addr) (c_0 : Int) (c_1 : Int) (c_2 : Int) (c_3 : Int) (c_4 : Int) (c_5 : Int) (c_6 : Int) (c_7 : Int) (c_8 : Int) {R : VP} {M : Mem} (h : pQ_insert.T (std PP w0) q c_0 c_1 c_2 c_3 c_4 c_5 c_6 c_7 c_8 R M) : C PP w0 Id.pQ_insert #[.pointer q, .agg #[.int .i64 c_0, .int .i64 c_1, .int .i64 c_2, .int .i64 c_3, .int .i64 c_4, .int .i64 c_5, .int .i64 c_6, .int .i64 c_7, .int .i64 c_8]] R M :=
  goG mixed (h := pQ_insert.h) (T := fun pr pts => pQ_insert.T pr q c_0 c_1 c_2 c_3 c_4 c_5 c_6 c_7 c_8 R M) Tryz.func43 (aC_ _ _) (by kernel_rfl) (fun pr pts => by kernel_rfl) fun _ _ => h
noncomputable def pQ_min.h : HC := annot (bd Tryz.f44) []
def pQ_min.T (pr : Prim) (q : Option Addr) (h_1_0 : Int) (h_1_1 : Int) (out : Bool) (R : VP) (M : Mem) : Prop := nfz pr (fun _ _ _ _ => False) R (gX PP pQ_min.h [] [] (gR Tryz.f44) [(0, .ptr (.v q)), (1, .agg [.int .i64 (.v h_1_0), .int .i64 (.v h_1_1)]), (2, .bool (.v out))] M)
theorem pQ_min.go (w0 : World) (q : Option Addr) (h_1_0 : Int) (h_1_1 : Int) (out : Bool) {R : VP} {M : Mem} (h : pQ_min.T (std PP w0) q h_1_0 h_1_1 out R M) : C PP w0 Id.pQ_min #[.pointer q, .agg #[.int .i64 h_1_0, .int .i64 h_1_1], .bool out] R M :=
  goG mixed (h := pQ_min.h) (T := fun pr pts => pQ_min.T pr q h_1_0 h_1_1 out R M) Tryz.func44 (aC_ _ _) (by kernel_rfl) (fun pr pts => by kernel_rfl) fun _ _ => h
noncomputable def pQ_decrease.h : HC := annot (bd Tryz.f45) []
def pQ_decrease.T (pr : Prim) (q : Option Addr) (c_0 : Int) (c_1 : Int) (c_2 : Int) (c_3 : Int) (c_4 : Int) (c_5 : Int) (c_6 : Int) (c_7 : Int) (c_8 : Int) (R : VP) (M : Mem) : Prop := nfz pr (fun _ _ _ _ => False) R (gX PP pQ_decrease.h [] [] (gR Tryz.f45) [(0, .ptr (.v q)), (1, .agg [.int .i64 (.v c_0), .int .i64 (.v c_1), .int .i64 (.v c_2), .int .i64 (.v c_3), .int .i64 (.v c_4), .int .i64 (.v c_5), .int .i64 (.v c_6), .int .i64 (.v c_7), .int .i64 (.v c_8)])] M)
theorem pQ_decrease.go (w0 : World) (q : Option Addr) (c_0 : Int) (c_1 : Int) (c_2 : Int) (c_3 : Int) (c_4 : Int) (c_5 : Int) (c_6 : Int) (c_7 : Int) (c_8 : Int) {R : VP} {M : Mem} (h : pQ_decrease.T (std PP w0) q c_0 c_1 c_2 c_3 c_4 c_5 c_6 c_7 c_8 R M) : C PP w0 Id.pQ_decrease #[.pointer q, .agg #[.int .i64 c_0, .int .i64 c_1, .int .i64 c_2, .int .i64 c_3, .int .i64 c_4, .int .i64 c_5, .int .i64 c_6, .int .i64 c_7, .int .i64 c_8]] R M :=
  goG mixed (h := pQ_decrease.h) (T := fun pr pts => pQ_decrease.T pr q c_0 c_1 c_2 c_3 c_4 c_5 c_6 c_7 c_8 R M) Tryz.func45 (aC_ _ _) (by kernel_rfl) (fun pr pts => by kernel_rfl) fun _ _ => h
noncomputable def pQ_remove.h : HC := annot (bd Tryz.f46) []
def pQ_remove.T (pr : Prim) (q : Option Addr) (i_0 : Int) (i_1 : Int) (R : VP) (M : Mem) : Prop := nfz pr (fun _ _ _ _ => False) R (gX PP pQ_remove.h [] [] (gR Tryz.f46) [(0, .ptr (.v q)), (1, .agg [.int .i64 (.v i_0), .int .i64 (.v i_1)])] M)
theorem pQ_remove.go (w0 : World) (q : Option Addr) (i_0 : Int) (i_1 : Int) {R : VP} {M : Mem} (h : pQ_remove.T (std PP w0) q i_0 i_1 R M) : C PP w0 Id.pQ_remove #[.pointer q, .agg #[.int .i64 i_0, .int .i64 i_1]] R M :=
  goG mixed (h := pQ_remove.h) (T := fun pr pts => pQ_remove.T pr q i_0 i_1 R M) Tryz.func46 (aC_ _ _) (by kernel_rfl) (fun pr pts => by kernel_rfl) fun _ _ => h
noncomputable def pQ_meld.h : HC := annot (bd Tryz.f47) []
def pQ_meld.T (pr : Prim) (q : Option Addr) (h_1_0 : Int) (h_1_1 : Int) (o_0 : Int) (o_1 : Int) (R : VP) (M : Mem) : Prop := nfz pr (fun _ _ _ _ => False) R (gX PP pQ_meld.h [] [] (gR Tryz.f47) [(0, .ptr (.v q)), (1, .agg [.int .i64 (.v h_1_0), .int .i64 (.v h_1_1)]), (2, .agg [.int .i64 (.v o_0), .int .i64 (.v o_1)])] M)
theorem pQ_meld.go (w0 : World) (q : Option Addr) (h_1_0 : Int) (h_1_1 : Int) (o_0 : Int) (o_1 : Int) {R : VP} {M : Mem} (h : pQ_meld.T (std PP w0) q h_1_0 h_1_1 o_0 o_1 R M) : C PP w0 Id.pQ_meld #[.pointer q, .agg #[.int .i64 h_1_0, .int .i64 h_1_1], .agg #[.int .i64 o_0, .int .i64 o_1]] R M :=
  goG mixed (h := pQ_meld.h) (T := fun pr pts => pQ_meld.T pr q h_1_0 h_1_1 o_0 o_1 R M) Tryz.func47 (aC_ _ _) (by kernel_rfl) (fun pr pts => by kernel_rfl) fun _ _ => h
noncomputable def sT_Heap.h : HC := annot (bd Tryz.f48) []
def sT_Heap.T (pr : Prim) (t : Option Addr) (h_1_0 : Int) (h_1_1 : Int) (R : VP) (M : Mem) : Prop := nfz pr (fun _ _ _ _ => False) R (gX PP sT_Heap.h [] [] (gR Tryz.f48) [(0, .ptr (.v t)), (1, .agg [.int .i64 (.v h_1_0), .int .i64 (.v h_1_1)])] M)
theorem sT_Heap.go (w0 : World) (t : Option Addr) (h_1_0 : Int) (h_1_1 : Int) {R : VP} {M : Mem} (h : sT_Heap.T (std PP w0) t h_1_0 h_1_1 R M) : C PP w0 Id.sT_Heap #[.pointer t, .agg #[.int .i64 h_1_0, .int .i64 h_1_1]] R M :=
  goG mixed (h := sT_Heap.h) (T := fun pr pts => sT_Heap.T pr t h_1_0 h_1_1 R M) Tryz.func48 (aC_ _ _) (by kernel_rfl) (fun pr pts => by kernel_rfl) fun _ _ => h
noncomputable def pq_refused.h : HC := annot (bd Tryz.f50) []
def pq_refused.T (pr : Prim) (why : Int) (R : VP) (M : Mem) : Prop := nfz pr (fun _ _ _ _ => False) R (gX PP pq_refused.h [] [] (gR Tryz.f50) [(0, .int .i64 (.v why))] M)
theorem pq_refused.go (w0 : World) (why : Int) {R : VP} {M : Mem} (h : pq_refused.T (std PP w0) why R M) : C PP w0 Id.pq_refused #[.int .i64 why] R M :=
  goG mixed (h := pq_refused.h) (T := fun pr pts => pq_refused.T pr why R M) Tryz.func50 (aC_ _ _) (by kernel_rfl) (fun pr pts => by kernel_rfl) fun _ _ => h
noncomputable def mM_Steps.h : HC := annot (bd Tryz.f54) []
def mM_Steps.T (pr : Prim) (m : Option Addr) (R : VP) (M : Mem) : Prop := nfz pr (fun _ _ _ _ => False) R (gX PP mM_Steps.h [] [] (gR Tryz.f54) [(0, .ptr (.v m))] M)
theorem mM_Steps.go (w0 : World) (m : Option Addr) {R : VP} {M : Mem} (h : mM_Steps.T (std PP w0) m R M) : C PP w0 Id.mM_Steps #[.pointer m] R M :=
  goG mixed (h := mM_Steps.h) (T := fun pr pts => mM_Steps.T pr m R M) Tryz.func54 (aC_ _ _) (by kernel_rfl) (fun pr pts => by kernel_rfl) fun _ _ => h
noncomputable def order_Add.h : HC := annot (bd Tryz.f55) []
def order_Add.T (pr : Prim) (a : Int) (b : Int) (R : VP) (M : Mem) : Prop := nfz pr (fun _ _ _ _ => False) R (gX PP order_Add.h [] [] (gR Tryz.f55) [(0, .int .i64 (.v a)), (1, .int .i64 (.v b))] M)
theorem order_Add.go (w0 : World) (a : Int) (b : Int) {R : VP} {M : Mem} (h : order_Add.T (std PP w0) a b R M) : C PP w0 Id.order_Add #[.int .i64 a, .int .i64 b] R M :=
  goG mixed (h := order_Add.h) (T := fun pr pts => order_Add.T pr a b R M) Tryz.func55 (aC_ _ _) (by kernel_rfl) (fun pr pts => by kernel_rfl) fun _ _ => h
end Go.Proofs.YtodobkbnmjgkdaaGreat.HL
namespace Go.Proofs.YtodobkbnmjgkdaaGreat.HL
open Go.Proofs
noncomputable def mM_Spent.h : HC := annot (bd Tryz.f57) []
def mM_Spent.T (pr : Prim) (m : Option Addr) (R : VP) (M : Mem) : Prop := nfz pr (fun _ _ _ _ => False) R (gX PP mM_Spent.h [] [] (gR Tryz.f57) [(0, .ptr (.v m))] M)
theorem mM_Spent.go (w0 : World) (m : Option Addr) {R : VP} {M : Mem} (h : mM_Spent.T (std PP w0) m R M) : C PP w0 Id.mM_Spent #[.pointer m] R M :=
  goG mixed (h := mM_Spent.h) (T := fun pr pts => mM_Spent.T pr m R M) Tryz.func57 (aC_ _ _) (by kernel_rfl) (fun pr pts => by kernel_rfl) fun _ _ => h
noncomputable def kind_Right.h : HC := annot (bd Tryz.f58) []
def kind_Right.T (pr : Prim) (k : Int) (R : VP) (M : Mem) : Prop := nfz pr (fun _ _ _ _ => False) R (gX PP kind_Right.h [] [] (gR Tryz.f58) [(0, .int .i64 (.v k))] M)
theorem kind_Right.go (w0 : World) (k : Int) {R : VP} {M : Mem} (h : kind_Right.T (std PP w0) k R M) : C PP w0 Id.kind_Right #[.int .i64 k] R M :=
  goG mixed (h := kind_Right.h) (T := fun pr pts => kind_Right.T pr k R M) Tryz.func58 (aC_ _ _) (by kernel_rfl) (fun pr pts => by kernel_rfl) fun _ _ => h
noncomputable def kind_Worst.h : HC := annot (bd Tryz.f60) []
def kind_Worst.T (pr : Prim) (k : Int) (R : VP) (M : Mem) : Prop := nfz pr (fun _ _ _ _ => False) R (gX PP kind_Worst.h [] [] (gR Tryz.f60) [(0, .int .i64 (.v k))] M)
theorem kind_Worst.go (w0 : World) (k : Int) {R : VP} {M : Mem} (h : kind_Worst.T (std PP w0) k R M) : C PP w0 Id.kind_Worst #[.int .i64 k] R M :=
  goG mixed (h := kind_Worst.h) (T := fun pr pts => kind_Worst.T pr k R M) Tryz.func60 (aC_ _ _) (by kernel_rfl) (fun pr pts => by kernel_rfl) fun _ _ => h
noncomputable def sT_Items.h : HC := annot (bd Tryz.f62) []
def sT_Items.T (pr : Prim) (t : Option Addr) (R : VP) (M : Mem) : Prop := nfz pr (fun _ _ _ _ => False) R (gX PP sT_Items.h [] [] (gR Tryz.f62) [(0, .ptr (.v t))] M)
theorem sT_Items.go (w0 : World) (t : Option Addr) {R : VP} {M : Mem} (h : sT_Items.T (std PP w0) t R M) : C PP w0 Id.sT_Items #[.pointer t] R M :=
  goG mixed (h := sT_Items.h) (T := fun pr pts => sT_Items.T pr t R M) Tryz.func62 (aC_ _ _) (by kernel_rfl) (fun pr pts => by kernel_rfl) fun _ _ => h
noncomputable def d2_New.h : HC := annot (bd Tryz.f63) []
def d2_New.T (pr : Prim) (jobs : Int) (R : VP) (M : Mem) : Prop := nfz pr (fun _ _ _ _ => False) R (gX PP d2_New.h [] [] (gR Tryz.f63) [(0, .int .i64 (.v jobs))] M)
theorem d2_New.go (w0 : World) (jobs : Int) {R : VP} {M : Mem} (h : d2_New.T (std PP w0) jobs R M) : C PP w0 Id.d2_New #[.int .i64 jobs] R M :=
  goG mixed (h := d2_New.h) (T := fun pr pts => d2_New.T pr jobs R M) Tryz.func63 (aC_ _ _) (by kernel_rfl) (fun pr pts => by kernel_rfl) fun _ _ => h
noncomputable def dD_one.h : HC := annot (bd Tryz.f64) [([true], [0, 3, 4, 5]), ([true, true], [0, 3, 4])]
def dD_one.Is (pr : Prim) (pts : Pts) (R : VP) : Prop := IsG PP pr pts dD_one.h Tryz.f64 R
abbrev dD_one.J1 (pts : Pts) (d_0 : Option Addr) (c_3 : Addr) (t4 : Addr) (right_5 : Bool) (M : Mem) : Prop := pts [true, true] [] [(0, .pointer d_0), (3, .pointer (some c_3)), (4, .pointer (some t4)), (5, .bool right_5)] M
def dD_one.J1.T (pr : Prim) (pts : Pts) (d_0 : Option Addr) (c_3 : Addr) (t4 : Addr) (right_5 : Bool) (R : VP) (M : Mem) : Prop := nfz pr pts R (gbody PP dD_one.h (gR Tryz.f64) [true, true] [] [(0, .ptr (.v d_0)), (3, .ptr (.a (.v c_3))), (4, .ptr (.a (.v t4))), (5, .bool (.v right_5))] M)
theorem dD_one.Is.J1 {pr : Prim} {pts : Pts} {R : VP} (H : dD_one.Is pr pts R) (d_0 : Option Addr) (c_3 : Addr) (t4 : Addr) (right_5 : Bool) (M : Mem) : dD_one.J1 pts d_0 c_3 t4 right_5 M = dD_one.J1.T pr pts d_0 c_3 t4 right_5 R M := (H _ _ _ _ _ rfl).trans (by kernel_rfl)
abbrev dD_one.J2 (pts : Pts) (d_0 : Option Addr) (c_3 : Addr) (t4 : Addr) (M : Mem) : Prop := pts [true, true, true] [] [(0, .pointer d_0), (3, .pointer (some c_3)), (4, .pointer (some t4))] M
def dD_one.J2.T (pr : Prim) (pts : Pts) (d_0 : Option Addr) (c_3 : Addr) (t4 : Addr) (R : VP) (M : Mem) : Prop := nfz pr pts R (gbody PP dD_one.h (gR Tryz.f64) [true, true, true] [] [(0, .ptr (.v d_0)), (3, .ptr (.a (.v c_3))), (4, .ptr (.a (.v t4)))] M)
theorem dD_one.Is.J2 {pr : Prim} {pts : Pts} {R : VP} (H : dD_one.Is pr pts R) (d_0 : Option Addr) (c_3 : Addr) (t4 : Addr) (M : Mem) : dD_one.J2 pts d_0 c_3 t4 M = dD_one.J2.T pr pts d_0 c_3 t4 R M := (H _ _ _ _ _ rfl).trans (by kernel_rfl)
def dD_one.T (pr : Prim) (pts : Pts) (d : Option Addr) (c_0 : Int) (c_1 : Int) (c_2 : Int) (c_3 : Int) (c_4 : Int) (c_5 : Int) (R : VP) (M : Mem) : Prop := nfz pr pts R (gX PP dD_one.h [] [] (gR Tryz.f64) [(0, .ptr (.v d)), (1, .agg [.int .i64 (.v c_0), .int .i64 (.v c_1), .int .i64 (.v c_2), .int .i64 (.v c_3), .int .i64 (.v c_4), .int .i64 (.v c_5)])] M)
theorem dD_one.go (w0 : World) (d : Option Addr) (c_0 : Int) (c_1 : Int) (c_2 : Int) (c_3 : Int) (c_4 : Int) (c_5 : Int) {R : VP} {M : Mem} (h : ∀ pts, dD_one.Is (std PP w0) pts R → dD_one.T (std PP w0) pts d c_0 c_1 c_2 c_3 c_4 c_5 R M) : C PP w0 Id.dD_one #[.pointer d, .agg #[.int .i64 c_0, .int .i64 c_1, .int .i64 c_2, .int .i64 c_3, .int .i64 c_4, .int .i64 c_5]] R M :=
  goG mixed (h := dD_one.h) (T := fun pr pts => dD_one.T pr pts d c_0 c_1 c_2 c_3 c_4 c_5 R M) Tryz.func64 (aC_ _ _) (by kernel_rfl) (fun pr pts => by kernel_rfl) h
noncomputable def dispatch_refused.h : HC := annot (bd Tryz.f65) []
def dispatch_refused.T (pr : Prim) (why : Int) (R : VP) (M : Mem) : Prop := nfz pr (fun _ _ _ _ => False) R (gX PP dispatch_refused.h [] [] (gR Tryz.f65) [(0, .int .i64 (.v why))] M)
theorem dispatch_refused.go (w0 : World) (why : Int) {R : VP} {M : Mem} (h : dispatch_refused.T (std PP w0) why R M) : C PP w0 Id.dispatch_refused #[.int .i64 why] R M :=
  goG mixed (h := dispatch_refused.h) (T := fun pr pts => dispatch_refused.T pr why R M) Tryz.func65 (aC_ _ _) (by kernel_rfl) (fun pr pts => by kernel_rfl) fun _ _ => h
noncomputable def jT_Len.h : HC := annot (bd Tryz.f71) []
def jT_Len.T (pr : Prim) (t : Option Addr) (R : VP) (M : Mem) : Prop := nfz pr (fun _ _ _ _ => False) R (gX PP jT_Len.h [] [] (gR Tryz.f71) [(0, .ptr (.v t))] M)
theorem jT_Len.go (w0 : World) (t : Option Addr) {R : VP} {M : Mem} (h : jT_Len.T (std PP w0) t R M) : C PP w0 Id.jT_Len #[.pointer t] R M :=
  goG mixed (h := jT_Len.h) (T := fun pr pts => jT_Len.T pr t R M) Tryz.func71 (aC_ _ _) (by kernel_rfl) (fun pr pts => by kernel_rfl) fun _ _ => h
noncomputable def bound_Budget.h : HC := annot (bd Tryz.f72) []
def bound_Budget.T (pr : Prim) (k : Int) (items : Int) (R : VP) (M : Mem) : Prop := nfz pr (fun _ _ _ _ => False) R (gX PP bound_Budget.h [] [] (gR Tryz.f72) [(0, .int .i64 (.v k)), (1, .int .i64 (.v items))] M)
theorem bound_Budget.go (w0 : World) (k : Int) (items : Int) {R : VP} {M : Mem} (h : bound_Budget.T (std PP w0) k items R M) : C PP w0 Id.bound_Budget #[.int .i64 k, .int .i64 items] R M :=
  goG mixed (h := bound_Budget.h) (T := fun pr pts => bound_Budget.T pr k items R M) Tryz.func72 (aC_ _ _) (by kernel_rfl) (fun pr pts => by kernel_rfl) fun _ _ => h
noncomputable def jobs_New.h : HC := annot (bd Tryz.f73) []
def jobs_New.T (pr : Prim) (jobs : Int) (R : VP) (M : Mem) : Prop := nfz pr (fun _ _ _ _ => False) R (gX PP jobs_New.h [] [] (gR Tryz.f73) [(0, .int .i64 (.v jobs))] M)
theorem jobs_New.go (w0 : World) (jobs : Int) {R : VP} {M : Mem} (h : jobs_New.T (std PP w0) jobs R M) : C PP w0 Id.jobs_New #[.int .i64 jobs] R M :=
  goG mixed (h := jobs_New.h) (T := fun pr pts => jobs_New.T pr jobs R M) Tryz.func73 (aC_ _ _) (by kernel_rfl) (fun pr pts => by kernel_rfl) fun _ _ => h
noncomputable def clock_New.h : HC := annot (bd Tryz.f74) []
def clock_New.T (pr : Prim) (R : VP) (M : Mem) : Prop := nfz pr (fun _ _ _ _ => False) R (gX PP clock_New.h [] [] (gR Tryz.f74) [] M)
theorem clock_New.go (w0 : World) {R : VP} {M : Mem} (h : clock_New.T (std PP w0) R M) : C PP w0 Id.clock_New #[] R M :=
  goG mixed (h := clock_New.h) (T := fun pr pts => clock_New.T pr R M) Tryz.func74 (aC_ _ _) (by kernel_rfl) (fun pr pts => by kernel_rfl) fun _ _ => h
noncomputable def jT_Get.h : HC := annot (bd Tryz.f76) []
def jT_Get.T (pr : Prim) (t : Option Addr) (r_0 : Int) (r_1 : Int) (R : VP) (M : Mem) : Prop := nfz pr (fun _ _ _ _ => False) R (gX PP jT_Get.h [] [] (gR Tryz.f76) [(0, .ptr (.v t)), (1, .agg [.int .i64 (.v r_0), .int .i64 (.v r_1)])] M)
theorem jT_Get.go (w0 : World) (t : Option Addr) (r_0 : Int) (r_1 : Int) {R : VP} {M : Mem} (h : jT_Get.T (std PP w0) t r_0 r_1 R M) : C PP w0 Id.jT_Get #[.pointer t, .agg #[.int .i64 r_0, .int .i64 r_1]] R M :=
  goG mixed (h := jT_Get.h) (T := fun pr pts => jT_Get.T pr t r_0 r_1 R M) Tryz.func76 (aC_ _ _) (by kernel_rfl) (fun pr pts => by kernel_rfl) fun _ _ => h
noncomputable def meter_New.h : HC := annot (bd Tryz.f79) []
def meter_New.T (pr : Prim) (R : VP) (M : Mem) : Prop := nfz pr (fun _ _ _ _ => False) R (gX PP meter_New.h [] [] (gR Tryz.f79) [] M)
theorem meter_New.go (w0 : World) {R : VP} {M : Mem} (h : meter_New.T (std PP w0) R M) : C PP w0 Id.meter_New #[] R M :=
  goG mixed (h := meter_New.h) (T := fun pr pts => meter_New.T pr R M) Tryz.func79 (aC_ _ _) (by kernel_rfl) (fun pr pts => by kernel_rfl) fun _ _ => h
noncomputable def pool_Newslots_heap.h : HC := annot (bd Tryz.f80) []
def pool_Newslots_heap.T (pr : Prim) (places : Int) (R : VP) (M : Mem) : Prop := nfz pr (fun _ _ _ _ => False) R (gX PP pool_Newslots_heap.h [] [] (gR Tryz.f80) [(0, .int .i64 (.v places))] M)
theorem pool_Newslots_heap.go (w0 : World) (places : Int) {R : VP} {M : Mem} (h : pool_Newslots_heap.T (std PP w0) places R M) : C PP w0 Id.pool_Newslots_heap #[.int .i64 places] R M :=
  goG mixed (h := pool_Newslots_heap.h) (T := fun pr pts => pool_Newslots_heap.T pr places R M) Tryz.func80 (aC_ _ _) (by kernel_rfl) (fun pr pts => by kernel_rfl) fun _ _ => h
noncomputable def pool_Newslots_thing.h : HC := annot (bd Tryz.f81) []
def pool_Newslots_thing.T (pr : Prim) (places : Int) (R : VP) (M : Mem) : Prop := nfz pr (fun _ _ _ _ => False) R (gX PP pool_Newslots_thing.h [] [] (gR Tryz.f81) [(0, .int .i64 (.v places))] M)
theorem pool_Newslots_thing.go (w0 : World) (places : Int) {R : VP} {M : Mem} (h : pool_Newslots_thing.T (std PP w0) places R M) : C PP w0 Id.pool_Newslots_thing #[.int .i64 places] R M :=
  goG mixed (h := pool_Newslots_thing.h) (T := fun pr pts => pool_Newslots_thing.T pr places R M) Tryz.func81 (aC_ _ _) (by kernel_rfl) (fun pr pts => by kernel_rfl) fun _ _ => h
noncomputable def mM_Most.h : HC := annot (bd Tryz.f83) []
def mM_Most.T (pr : Prim) (m : Option Addr) (R : VP) (M : Mem) : Prop := nfz pr (fun _ _ _ _ => False) R (gX PP mM_Most.h [] [] (gR Tryz.f83) [(0, .ptr (.v m))] M)
theorem mM_Most.go (w0 : World) (m : Option Addr) {R : VP} {M : Mem} (h : mM_Most.T (std PP w0) m R M) : C PP w0 Id.mM_Most #[.pointer m] R M :=
  goG mixed (h := mM_Most.h) (T := fun pr pts => mM_Most.T pr m R M) Tryz.func83 (aC_ _ _) (by kernel_rfl) (fun pr pts => by kernel_rfl) fun _ _ => h
noncomputable def pP_Take_sh.h : HC := annot (bd Tryz.f84) [([true, true], [0, 3, 4, 6])]
def pP_Take_sh.Is (pr : Prim) (pts : Pts) (R : VP) : Prop := IsG PP pr pts pP_Take_sh.h Tryz.f84 R
abbrev pP_Take_sh.J1 (pts : Pts) (p_0 : Option Addr) (v_3 : Addr) (t4 : Addr) (at_6 : Int) (M : Mem) : Prop := pts [true, true, true] [] [(0, .pointer p_0), (3, .pointer (some v_3)), (4, .pointer (some t4)), (6, .int .i64 at_6)] M
def pP_Take_sh.J1.T (pr : Prim) (pts : Pts) (p_0 : Option Addr) (v_3 : Addr) (t4 : Addr) (at_6 : Int) (R : VP) (M : Mem) : Prop := nfz pr pts R (gbody PP pP_Take_sh.h (gR Tryz.f84) [true, true, true] [] [(0, .ptr (.v p_0)), (3, .ptr (.a (.v v_3))), (4, .ptr (.a (.v t4))), (6, .int .i64 (.v at_6))] M)
theorem pP_Take_sh.Is.J1 {pr : Prim} {pts : Pts} {R : VP} (H : pP_Take_sh.Is pr pts R) (p_0 : Option Addr) (v_3 : Addr) (t4 : Addr) (at_6 : Int) (M : Mem) : pP_Take_sh.J1 pts p_0 v_3 t4 at_6 M = pP_Take_sh.J1.T pr pts p_0 v_3 t4 at_6 R M := (H _ _ _ _ _ rfl).trans (by kernel_rfl)
def pP_Take_sh.T (pr : Prim) (pts : Pts) (p : Option Addr) (v_0 : Int) (v_1 : Int) (v_2 : Int) (R : VP) (M : Mem) : Prop := nfz pr pts R (gX PP pP_Take_sh.h [] [] (gR Tryz.f84) [(0, .ptr (.v p)), (1, .agg [.int .i64 (.v v_0), .int .i64 (.v v_1), .int .i64 (.v v_2)])] M)
theorem pP_Take_sh.go (w0 : World) (p : Option Addr) (v_0 : Int) (v_1 : Int) (v_2 : Int) {R : VP} {M : Mem} (h : ∀ pts, pP_Take_sh.Is (std PP w0) pts R → pP_Take_sh.T (std PP w0) pts p v_0 v_1 v_2 R M) : C PP w0 Id.pP_Take_sh #[.pointer p, .agg #[.int .i64 v_0, .int .i64 v_1, .int .i64 v_2]] R M :=
  goG mixed (h := pP_Take_sh.h) (T := fun pr pts => pP_Take_sh.T pr pts p v_0 v_1 v_2 R M) Tryz.func84 (aC_ _ _) (by kernel_rfl) (fun pr pts => by kernel_rfl) h
noncomputable def item_New.h : HC := annot (bd Tryz.f85) []
def item_New.T (pr : Prim) (a : Option Addr) (key : Int) (serial : Int) (R : VP) (M : Mem) : Prop := nfz pr (fun _ _ _ _ => False) R (gX PP item_New.h [] [] (gR Tryz.f85) [(0, .ptr (.v a)), (1, .int .i64 (.v key)), (2, .int .i64 (.v serial))] M)
theorem item_New.go (w0 : World) (a : Option Addr) (key : Int) (serial : Int) {R : VP} {M : Mem} (h : item_New.T (std PP w0) a key serial R M) : C PP w0 Id.item_New #[.pointer a, .int .i64 key, .int .i64 serial] R M :=
  goG mixed (h := item_New.h) (T := fun pr pts => item_New.T pr a key serial R M) Tryz.func85 (aC_ _ _) (by kernel_rfl) (fun pr pts => by kernel_rfl) fun _ _ => h
noncomputable def kind_Push.h : HC := annot (bd Tryz.f86) []
def kind_Push.T (pr : Prim) (k : Int) (a : Option Addr) (r : Int) (i : Int) (R : VP) (M : Mem) : Prop := nfz pr (fun _ _ _ _ => False) R (gX PP kind_Push.h [] [] (gR Tryz.f86) [(0, .int .i64 (.v k)), (1, .ptr (.v a)), (2, .int .i64 (.v r)), (3, .int .i64 (.v i))] M)
theorem kind_Push.go (w0 : World) (k : Int) (a : Option Addr) (r : Int) (i : Int) {R : VP} {M : Mem} (h : kind_Push.T (std PP w0) k a r i R M) : C PP w0 Id.kind_Push #[.int .i64 k, .pointer a, .int .i64 r, .int .i64 i] R M :=
  goG mixed (h := kind_Push.h) (T := fun pr pts => kind_Push.T pr k a r i R M) Tryz.func86 (aC_ _ _) (by kernel_rfl) (fun pr pts => by kernel_rfl) fun _ _ => h
noncomputable def sT_Put.h : HC := annot (bd Tryz.f87) []
def sT_Put.T (pr : Prim) (t : Option Addr) (h_1_0 : Int) (h_1_1 : Int) (cell : Int) (R : VP) (M : Mem) : Prop := nfz pr (fun _ _ _ _ => False) R (gX PP sT_Put.h [] [] (gR Tryz.f87) [(0, .ptr (.v t)), (1, .agg [.int .i64 (.v h_1_0), .int .i64 (.v h_1_1)]), (2, .int .i64 (.v cell))] M)
theorem sT_Put.go (w0 : World) (t : Option Addr) (h_1_0 : Int) (h_1_1 : Int) (cell : Int) {R : VP} {M : Mem} (h : sT_Put.T (std PP w0) t h_1_0 h_1_1 cell R M) : C PP w0 Id.sT_Put #[.pointer t, .agg #[.int .i64 h_1_0, .int .i64 h_1_1], .int .i64 cell] R M :=
  goG mixed (h := sT_Put.h) (T := fun pr pts => sT_Put.T pr t h_1_0 h_1_1 cell R M) Tryz.func87 (aC_ _ _) (by kernel_rfl) (fun pr pts => by kernel_rfl) fun _ _ => h
noncomputable def sT_Root.h : HC := annot (bd Tryz.f88) []
def sT_Root.T (pr : Prim) (t : Option Addr) (h_1_0 : Int) (h_1_1 : Int) (r : Int) (n : Int) (R : VP) (M : Mem) : Prop := nfz pr (fun _ _ _ _ => False) R (gX PP sT_Root.h [] [] (gR Tryz.f88) [(0, .ptr (.v t)), (1, .agg [.int .i64 (.v h_1_0), .int .i64 (.v h_1_1)]), (2, .int .i64 (.v r)), (3, .int .i64 (.v n))] M)
theorem sT_Root.go (w0 : World) (t : Option Addr) (h_1_0 : Int) (h_1_1 : Int) (r : Int) (n : Int) {R : VP} {M : Mem} (h : sT_Root.T (std PP w0) t h_1_0 h_1_1 r n R M) : C PP w0 Id.sT_Root #[.pointer t, .agg #[.int .i64 h_1_0, .int .i64 h_1_1], .int .i64 r, .int .i64 n] R M :=
  goG mixed (h := sT_Root.h) (T := fun pr pts => sT_Root.T pr t h_1_0 h_1_1 r n R M) Tryz.func88 (aC_ _ _) (by kernel_rfl) (fun pr pts => by kernel_rfl) fun _ _ => h
noncomputable def sT_At.h : HC := annot (bd Tryz.f89) []
def sT_At.T (pr : Prim) (t : Option Addr) (cell : Int) (R : VP) (M : Mem) : Prop := nfz pr (fun _ _ _ _ => False) R (gX PP sT_At.h [] [] (gR Tryz.f89) [(0, .ptr (.v t)), (1, .int .i64 (.v cell))] M)
theorem sT_At.go (w0 : World) (t : Option Addr) (cell : Int) {R : VP} {M : Mem} (h : sT_At.T (std PP w0) t cell R M) : C PP w0 Id.sT_At #[.pointer t, .int .i64 cell] R M :=
  goG mixed (h := sT_At.h) (T := fun pr pts => sT_At.T pr t cell R M) Tryz.func89 (aC_ _ _) (by kernel_rfl) (fun pr pts => by kernel_rfl) fun _ _ => h
noncomputable def kind_Min.h : HC := annot (bd Tryz.f90) []
def kind_Min.T (pr : Prim) (k : Int) (a : Option Addr) (r : Int) (R : VP) (M : Mem) : Prop := nfz pr (fun _ _ _ _ => False) R (gX PP kind_Min.h [] [] (gR Tryz.f90) [(0, .int .i64 (.v k)), (1, .ptr (.v a)), (2, .int .i64 (.v r))] M)
theorem kind_Min.go (w0 : World) (k : Int) (a : Option Addr) (r : Int) {R : VP} {M : Mem} (h : kind_Min.T (std PP w0) k a r R M) : C PP w0 Id.kind_Min #[.int .i64 k, .pointer a, .int .i64 r] R M :=
  goG mixed (h := kind_Min.h) (T := fun pr pts => kind_Min.T pr k a r R M) Tryz.func90 (aC_ _ _) (by kernel_rfl) (fun pr pts => by kernel_rfl) fun _ _ => h
noncomputable def kind_Pop.h : HC := annot (bd Tryz.f91) []
def kind_Pop.T (pr : Prim) (k : Int) (a : Option Addr) (r : Int) (R : VP) (M : Mem) : Prop := nfz pr (fun _ _ _ _ => False) R (gX PP kind_Pop.h [] [] (gR Tryz.f91) [(0, .int .i64 (.v k)), (1, .ptr (.v a)), (2, .int .i64 (.v r))] M)
theorem kind_Pop.go (w0 : World) (k : Int) (a : Option Addr) (r : Int) {R : VP} {M : Mem} (h : kind_Pop.T (std PP w0) k a r R M) : C PP w0 Id.kind_Pop #[.int .i64 k, .pointer a, .int .i64 r] R M :=
  goG mixed (h := kind_Pop.h) (T := fun pr pts => kind_Pop.T pr k a r R M) Tryz.func91 (aC_ _ _) (by kernel_rfl) (fun pr pts => by kernel_rfl) fun _ _ => h
noncomputable def pQ_gone.h : HC := annot (bd Tryz.f92) []
def pQ_gone.T (pr : Prim) (q : Option Addr) (i_0 : Int) (i_1 : Int) (R : VP) (M : Mem) : Prop := nfz pr (fun _ _ _ _ => False) R (gX PP pQ_gone.h [] [] (gR Tryz.f92) [(0, .ptr (.v q)), (1, .agg [.int .i64 (.v i_0), .int .i64 (.v i_1)])] M)
theorem pQ_gone.go (w0 : World) (q : Option Addr) (i_0 : Int) (i_1 : Int) {R : VP} {M : Mem} (h : pQ_gone.T (std PP w0) q i_0 i_1 R M) : C PP w0 Id.pQ_gone #[.pointer q, .agg #[.int .i64 i_0, .int .i64 i_1]] R M :=
  goG mixed (h := pQ_gone.h) (T := fun pr pts => pQ_gone.T pr q i_0 i_1 R M) Tryz.func92 (aC_ _ _) (by kernel_rfl) (fun pr pts => by kernel_rfl) fun _ _ => h
noncomputable def sT_Cell.h : HC := annot (bd Tryz.f93) []
def sT_Cell.T (pr : Prim) (t : Option Addr) (i_0 : Int) (i_1 : Int) (R : VP) (M : Mem) : Prop := nfz pr (fun _ _ _ _ => False) R (gX PP sT_Cell.h [] [] (gR Tryz.f93) [(0, .ptr (.v t)), (1, .agg [.int .i64 (.v i_0), .int .i64 (.v i_1)])] M)
theorem sT_Cell.go (w0 : World) (t : Option Addr) (i_0 : Int) (i_1 : Int) {R : VP} {M : Mem} (h : sT_Cell.T (std PP w0) t i_0 i_1 R M) : C PP w0 Id.sT_Cell #[.pointer t, .agg #[.int .i64 i_0, .int .i64 i_1]] R M :=
  goG mixed (h := sT_Cell.h) (T := fun pr pts => sT_Cell.T pr t i_0 i_1 R M) Tryz.func93 (aC_ _ _) (by kernel_rfl) (fun pr pts => by kernel_rfl) fun _ _ => h
noncomputable def sT_Of.h : HC := annot (bd Tryz.f94) []
def sT_Of.T (pr : Prim) (t : Option Addr) (i_0 : Int) (i_1 : Int) (R : VP) (M : Mem) : Prop := nfz pr (fun _ _ _ _ => False) R (gX PP sT_Of.h [] [] (gR Tryz.f94) [(0, .ptr (.v t)), (1, .agg [.int .i64 (.v i_0), .int .i64 (.v i_1)])] M)
theorem sT_Of.go (w0 : World) (t : Option Addr) (i_0 : Int) (i_1 : Int) {R : VP} {M : Mem} (h : sT_Of.T (std PP w0) t i_0 i_1 R M) : C PP w0 Id.sT_Of #[.pointer t, .agg #[.int .i64 i_0, .int .i64 i_1]] R M :=
  goG mixed (h := sT_Of.h) (T := fun pr pts => sT_Of.T pr t i_0 i_1 R M) Tryz.func94 (aC_ _ _) (by kernel_rfl) (fun pr pts => by kernel_rfl) fun _ _ => h
noncomputable def item_Lower.h : HC := annot (bd Tryz.f95) []
def item_Lower.T (pr : Prim) (a : Option Addr) (i : Int) (key : Int) (R : VP) (M : Mem) : Prop := nfz pr (fun _ _ _ _ => False) R (gX PP item_Lower.h [] [] (gR Tryz.f95) [(0, .ptr (.v a)), (1, .int .i64 (.v i)), (2, .int .i64 (.v key))] M)
theorem item_Lower.go (w0 : World) (a : Option Addr) (i : Int) (key : Int) {R : VP} {M : Mem} (h : item_Lower.T (std PP w0) a i key R M) : C PP w0 Id.item_Lower #[.pointer a, .int .i64 i, .int .i64 key] R M :=
  goG mixed (h := item_Lower.h) (T := fun pr pts => item_Lower.T pr a i key R M) Tryz.func95 (aC_ _ _) (by kernel_rfl) (fun pr pts => by kernel_rfl) fun _ _ => h
noncomputable def kind_Fall.h : HC := annot (bd Tryz.f96) []
def kind_Fall.T (pr : Prim) (k : Int) (a : Option Addr) (r : Int) (i : Int) (R : VP) (M : Mem) : Prop := nfz pr (fun _ _ _ _ => False) R (gX PP kind_Fall.h [] [] (gR Tryz.f96) [(0, .int .i64 (.v k)), (1, .ptr (.v a)), (2, .int .i64 (.v r)), (3, .int .i64 (.v i))] M)
theorem kind_Fall.go (w0 : World) (k : Int) (a : Option Addr) (r : Int) (i : Int) {R : VP} {M : Mem} (h : kind_Fall.T (std PP w0) k a r i R M) : C PP w0 Id.kind_Fall #[.int .i64 k, .pointer a, .int .i64 r, .int .i64 i] R M :=
  goG mixed (h := kind_Fall.h) (T := fun pr pts => kind_Fall.T pr k a r i R M) Tryz.func96 (aC_ _ _) (by kernel_rfl) (fun pr pts => by kernel_rfl) fun _ _ => h
noncomputable def kind_Cut.h : HC := annot (bd Tryz.f97) []
def kind_Cut.T (pr : Prim) (k : Int) (a : Option Addr) (r : Int) (i : Int) (R : VP) (M : Mem) : Prop := nfz pr (fun _ _ _ _ => False) R (gX PP kind_Cut.h [] [] (gR Tryz.f97) [(0, .int .i64 (.v k)), (1, .ptr (.v a)), (2, .int .i64 (.v r)), (3, .int .i64 (.v i))] M)
theorem kind_Cut.go (w0 : World) (k : Int) (a : Option Addr) (r : Int) (i : Int) {R : VP} {M : Mem} (h : kind_Cut.T (std PP w0) k a r i R M) : C PP w0 Id.kind_Cut #[.int .i64 k, .pointer a, .int .i64 r, .int .i64 i] R M :=
  goG mixed (h := kind_Cut.h) (T := fun pr pts => kind_Cut.T pr k a r i R M) Tryz.func97 (aC_ _ _) (by kernel_rfl) (fun pr pts => by kernel_rfl) fun _ _ => h
noncomputable def sT_Join.h : HC := annot (bd Tryz.f98) [([true, true, true, true, true, false, true, false], [0, 4, 5, 51, 52, 53])]
def sT_Join.Is (pr : Prim) (pts : Pts) (R : VP) : Prop := IsG PP pr pts sT_Join.h Tryz.f98 R
abbrev sT_Join.L1 (pts : Pts) (k : Nat) (t_0 : Option Addr) (h_4 : Addr) (o_5 : Addr) (t51 : SV) (t52 : Int) (t53 : Int) (M : Mem) : Prop := pts [false, false, true, false, true, true, true, true, true] [k] [(0, .pointer t_0), (4, .pointer (some h_4)), (5, .pointer (some o_5)), (51, SV.v t51), (52, .int .i64 t52), (53, .int .i64 t53)] M
def sT_Join.L1.T (pr : Prim) (pts : Pts) (k : Nat) (t_0 : Option Addr) (h_4 : Addr) (o_5 : Addr) (t51 : SV) (t52 : Int) (t53 : Int) (R : VP) (M : Mem) : Prop := nfz pr pts R (gbody PP sT_Join.h (gR Tryz.f98) [false, false, true, false, true, true, true, true, true] [k] [(0, .ptr (.v t_0)), (4, .ptr (.a (.v h_4))), (5, .ptr (.a (.v o_5))), (51, .sv t51), (52, .int .i64 (.v t52)), (53, .int .i64 (.v t53))] M)
theorem sT_Join.Is.L1 {pr : Prim} {pts : Pts} {R : VP} (H : sT_Join.Is pr pts R) (k : Nat) (t_0 : Option Addr) (h_4 : Addr) (o_5 : Addr) (t51 : SV) (t52 : Int) (t53 : Int) (M : Mem) : sT_Join.L1 pts (k + 1) t_0 h_4 o_5 t51 t52 t53 M = sT_Join.L1.T pr pts k t_0 h_4 o_5 t51 t52 t53 R M := (H _ _ _ _ _ rfl).trans (by kernel_rfl)
def sT_Join.T (pr : Prim) (pts : Pts) (t : Option Addr) (h_1_0 : Int) (h_1_1 : Int) (o_0 : Int) (o_1 : Int) (R : VP) (M : Mem) : Prop := nfz pr pts R (gX PP sT_Join.h [] [] (gR Tryz.f98) [(0, .ptr (.v t)), (1, .agg [.int .i64 (.v h_1_0), .int .i64 (.v h_1_1)]), (2, .agg [.int .i64 (.v o_0), .int .i64 (.v o_1)])] M)
theorem sT_Join.go (w0 : World) (t : Option Addr) (h_1_0 : Int) (h_1_1 : Int) (o_0 : Int) (o_1 : Int) {R : VP} {M : Mem} (h : ∀ pts, sT_Join.Is (std PP w0) pts R → sT_Join.T (std PP w0) pts t h_1_0 h_1_1 o_0 o_1 R M) : C PP w0 Id.sT_Join #[.pointer t, .agg #[.int .i64 h_1_0, .int .i64 h_1_1], .agg #[.int .i64 o_0, .int .i64 o_1]] R M :=
  goG mixed (h := sT_Join.h) (T := fun pr pts => sT_Join.T pr pts t h_1_0 h_1_1 o_0 o_1 R M) Tryz.func98 (aC_ _ _) (by kernel_rfl) (fun pr pts => by kernel_rfl) h
noncomputable def kind_Meld.h : HC := annot (bd Tryz.f99) []
def kind_Meld.T (pr : Prim) (k : Int) (a : Option Addr) (r : Int) (s : Int) (R : VP) (M : Mem) : Prop := nfz pr (fun _ _ _ _ => False) R (gX PP kind_Meld.h [] [] (gR Tryz.f99) [(0, .int .i64 (.v k)), (1, .ptr (.v a)), (2, .int .i64 (.v r)), (3, .int .i64 (.v s))] M)
theorem kind_Meld.go (w0 : World) (k : Int) (a : Option Addr) (r : Int) (s : Int) {R : VP} {M : Mem} (h : kind_Meld.T (std PP w0) k a r s R M) : C PP w0 Id.kind_Meld #[.int .i64 k, .pointer a, .int .i64 r, .int .i64 s] R M :=
  goG mixed (h := kind_Meld.h) (T := fun pr pts => kind_Meld.T pr k a r s R M) Tryz.func99 (aC_ _ _) (by kernel_rfl) (fun pr pts => by kernel_rfl) fun _ _ => h
noncomputable def pP_Get_sh.h : HC := annot (bd Tryz.f100) []
def pP_Get_sh.T (pr : Prim) (p : Option Addr) (r_0 : Int) (r_1 : Int) (R : VP) (M : Mem) : Prop := nfz pr (fun _ _ _ _ => False) R (gX PP pP_Get_sh.h [] [] (gR Tryz.f100) [(0, .ptr (.v p)), (1, .agg [.int .i64 (.v r_0), .int .i64 (.v r_1)])] M)
theorem pP_Get_sh.go (w0 : World) (p : Option Addr) (r_0 : Int) (r_1 : Int) {R : VP} {M : Mem} (h : pP_Get_sh.T (std PP w0) p r_0 r_1 R M) : C PP w0 Id.pP_Get_sh #[.pointer p, .agg #[.int .i64 r_0, .int .i64 r_1]] R M :=
  goG mixed (h := pP_Get_sh.h) (T := fun pr pts => pP_Get_sh.T pr p r_0 r_1 R M) Tryz.func100 (aC_ _ _) (by kernel_rfl) (fun pr pts => by kernel_rfl) fun _ _ => h
noncomputable def sT_List.h : HC := annot (bd Tryz.f102) [([true, true, false, true, false], [0, 3, 5, 14, 15, 16])]
def sT_List.Is (pr : Prim) (pts : Pts) (R : VP) : Prop := IsG PP pr pts sT_List.h Tryz.f102 R
abbrev sT_List.L1 (pts : Pts) (k : Nat) (t_0 : Option Addr) (h_3 : Addr) (out_5 : SV) (t14 : SV) (t15 : Int) (t16 : Int) (M : Mem) : Prop := pts [false, false, true, false, true, true] [k] [(0, .pointer t_0), (3, .pointer (some h_3)), (5, SV.v out_5), (14, SV.v t14), (15, .int .i64 t15), (16, .int .i64 t16)] M
def sT_List.L1.T (pr : Prim) (pts : Pts) (k : Nat) (t_0 : Option Addr) (h_3 : Addr) (out_5 : SV) (t14 : SV) (t15 : Int) (t16 : Int) (R : VP) (M : Mem) : Prop := nfz pr pts R (gbody PP sT_List.h (gR Tryz.f102) [false, false, true, false, true, true] [k] [(0, .ptr (.v t_0)), (3, .ptr (.a (.v h_3))), (5, .sv out_5), (14, .sv t14), (15, .int .i64 (.v t15)), (16, .int .i64 (.v t16))] M)
theorem sT_List.Is.L1 {pr : Prim} {pts : Pts} {R : VP} (H : sT_List.Is pr pts R) (k : Nat) (t_0 : Option Addr) (h_3 : Addr) (out_5 : SV) (t14 : SV) (t15 : Int) (t16 : Int) (M : Mem) : sT_List.L1 pts (k + 1) t_0 h_3 out_5 t14 t15 t16 M = sT_List.L1.T pr pts k t_0 h_3 out_5 t14 t15 t16 R M := (H _ _ _ _ _ rfl).trans (by kernel_rfl)
def sT_List.T (pr : Prim) (pts : Pts) (t : Option Addr) (h_1_0 : Int) (h_1_1 : Int) (R : VP) (M : Mem) : Prop := nfz pr pts R (gX PP sT_List.h [] [] (gR Tryz.f102) [(0, .ptr (.v t)), (1, .agg [.int .i64 (.v h_1_0), .int .i64 (.v h_1_1)])] M)
theorem sT_List.go (w0 : World) (t : Option Addr) (h_1_0 : Int) (h_1_1 : Int) {R : VP} {M : Mem} (h : ∀ pts, sT_List.Is (std PP w0) pts R → sT_List.T (std PP w0) pts t h_1_0 h_1_1 R M) : C PP w0 Id.sT_List #[.pointer t, .agg #[.int .i64 h_1_0, .int .i64 h_1_1]] R M :=
  goG mixed (h := sT_List.h) (T := fun pr pts => sT_List.T pr pts t h_1_0 h_1_1 R M) Tryz.func102 (aC_ _ _) (by kernel_rfl) (fun pr pts => by kernel_rfl) h
end Go.Proofs.YtodobkbnmjgkdaaGreat.HL
namespace Go.Proofs.YtodobkbnmjgkdaaGreat.HL
open Go.Proofs
noncomputable def order_Limit.h : HC := annot (bd Tryz.f114) [([true, false, true, false], [0, 1, 8, 9])]
def order_Limit.Is (pr : Prim) (pts : Pts) (R : VP) : Prop := IsG PP pr pts order_Limit.h Tryz.f114 R
abbrev order_Limit.L1 (pts : Pts) (k : Nat) (a_0 : Int) (b_1 : Int) (t8 : Int) (t9 : Int) (M : Mem) : Prop := pts [false, false, true, false, true] [k] [(0, .int .i64 a_0), (1, .int .i64 b_1), (8, .int .i64 t8), (9, .int .i64 t9)] M
def order_Limit.L1.T (pr : Prim) (pts : Pts) (k : Nat) (a_0 : Int) (b_1 : Int) (t8 : Int) (t9 : Int) (R : VP) (M : Mem) : Prop := nfz pr pts R (gbody PP order_Limit.h (gR Tryz.f114) [false, false, true, false, true] [k] [(0, .int .i64 (.v a_0)), (1, .int .i64 (.v b_1)), (8, .int .i64 (.v t8)), (9, .int .i64 (.v t9))] M)
theorem order_Limit.Is.L1 {pr : Prim} {pts : Pts} {R : VP} (H : order_Limit.Is pr pts R) (k : Nat) (a_0 : Int) (b_1 : Int) (t8 : Int) (t9 : Int) (M : Mem) : order_Limit.L1 pts (k + 1) a_0 b_1 t8 t9 M = order_Limit.L1.T pr pts k a_0 b_1 t8 t9 R M := (H _ _ _ _ _ rfl).trans (by kernel_rfl)
def order_Limit.T (pr : Prim) (pts : Pts) (a : Int) (b : Int) (n : Int) (R : VP) (M : Mem) : Prop := nfz pr pts R (gX PP order_Limit.h [] [] (gR Tryz.f114) [(0, .int .i64 (.v a)), (1, .int .i64 (.v b)), (2, .int .i64 (.v n))] M)
theorem order_Limit.go (w0 : World) (a : Int) (b : Int) (n : Int) {R : VP} {M : Mem} (h : ∀ pts, order_Limit.Is (std PP w0) pts R → order_Limit.T (std PP w0) pts a b n R M) : C PP w0 Id.order_Limit #[.int .i64 a, .int .i64 b, .int .i64 n] R M :=
  goG mixed (h := order_Limit.h) (T := fun pr pts => order_Limit.T pr pts a b n R M) Tryz.func114 (aC_ _ _) (by kernel_rfl) (fun pr pts => by kernel_rfl) h
noncomputable def pP_Len_st.h : HC := annot (bd Tryz.f115) []
def pP_Len_st.T (pr : Prim) (p : Option Addr) (R : VP) (M : Mem) : Prop := nfz pr (fun _ _ _ _ => False) R (gX PP pP_Len_st.h [] [] (gR Tryz.f115) [(0, .ptr (.v p))] M)
theorem pP_Len_st.go (w0 : World) (p : Option Addr) {R : VP} {M : Mem} (h : pP_Len_st.T (std PP w0) p R M) : C PP w0 Id.pP_Len_st #[.pointer p] R M :=
  goG mixed (h := pP_Len_st.h) (T := fun pr pts => pP_Len_st.T pr p R M) Tryz.func115 (aC_ _ _) (by kernel_rfl) (fun pr pts => by kernel_rfl) fun _ _ => h
noncomputable def dD_schedule.h : HC := annot (bd Tryz.f116) []
def dD_schedule.T (pr : Prim) (d : Option Addr) (c_0 : Int) (c_1 : Int) (c_2 : Int) (c_3 : Int) (c_4 : Int) (c_5 : Int) (R : VP) (M : Mem) : Prop := nfz pr (fun _ _ _ _ => False) R (gX PP dD_schedule.h [] [] (gR Tryz.f116) [(0, .ptr (.v d)), (1, .agg [.int .i64 (.v c_0), .int .i64 (.v c_1), .int .i64 (.v c_2), .int .i64 (.v c_3), .int .i64 (.v c_4), .int .i64 (.v c_5)])] M)
theorem dD_schedule.go (w0 : World) (d : Option Addr) (c_0 : Int) (c_1 : Int) (c_2 : Int) (c_3 : Int) (c_4 : Int) (c_5 : Int) {R : VP} {M : Mem} (h : dD_schedule.T (std PP w0) d c_0 c_1 c_2 c_3 c_4 c_5 R M) : C PP w0 Id.dD_schedule #[.pointer d, .agg #[.int .i64 c_0, .int .i64 c_1, .int .i64 c_2, .int .i64 c_3, .int .i64 c_4, .int .i64 c_5]] R M :=
  goG mixed (h := dD_schedule.h) (T := fun pr pts => dD_schedule.T pr d c_0 c_1 c_2 c_3 c_4 c_5 R M) Tryz.func116 (aC_ _ _) (by kernel_rfl) (fun pr pts => by kernel_rfl) fun _ _ => h
noncomputable def dD_sooner.h : HC := annot (bd Tryz.f117) []
def dD_sooner.T (pr : Prim) (d : Option Addr) (c_0 : Int) (c_1 : Int) (c_2 : Int) (c_3 : Int) (c_4 : Int) (c_5 : Int) (R : VP) (M : Mem) : Prop := nfz pr (fun _ _ _ _ => False) R (gX PP dD_sooner.h [] [] (gR Tryz.f117) [(0, .ptr (.v d)), (1, .agg [.int .i64 (.v c_0), .int .i64 (.v c_1), .int .i64 (.v c_2), .int .i64 (.v c_3), .int .i64 (.v c_4), .int .i64 (.v c_5)])] M)
theorem dD_sooner.go (w0 : World) (d : Option Addr) (c_0 : Int) (c_1 : Int) (c_2 : Int) (c_3 : Int) (c_4 : Int) (c_5 : Int) {R : VP} {M : Mem} (h : dD_sooner.T (std PP w0) d c_0 c_1 c_2 c_3 c_4 c_5 R M) : C PP w0 Id.dD_sooner #[.pointer d, .agg #[.int .i64 c_0, .int .i64 c_1, .int .i64 c_2, .int .i64 c_3, .int .i64 c_4, .int .i64 c_5]] R M :=
  goG mixed (h := dD_sooner.h) (T := fun pr pts => dD_sooner.T pr d c_0 c_1 c_2 c_3 c_4 c_5 R M) Tryz.func117 (aC_ _ _) (by kernel_rfl) (fun pr pts => by kernel_rfl) fun _ _ => h
noncomputable def dD_cancel.h : HC := annot (bd Tryz.f118) []
def dD_cancel.T (pr : Prim) (d : Option Addr) (r_0 : Int) (r_1 : Int) (R : VP) (M : Mem) : Prop := nfz pr (fun _ _ _ _ => False) R (gX PP dD_cancel.h [] [] (gR Tryz.f118) [(0, .ptr (.v d)), (1, .agg [.int .i64 (.v r_0), .int .i64 (.v r_1)])] M)
theorem dD_cancel.go (w0 : World) (d : Option Addr) (r_0 : Int) (r_1 : Int) {R : VP} {M : Mem} (h : dD_cancel.T (std PP w0) d r_0 r_1 R M) : C PP w0 Id.dD_cancel #[.pointer d, .agg #[.int .i64 r_0, .int .i64 r_1]] R M :=
  goG mixed (h := dD_cancel.h) (T := fun pr pts => dD_cancel.T pr d r_0 r_1 R M) Tryz.func118 (aC_ _ _) (by kernel_rfl) (fun pr pts => by kernel_rfl) fun _ _ => h
noncomputable def clock_Clock_Go.h : HC := annot (bd Tryz.f119) []
def clock_Clock_Go.T (pr : Prim) (c : Option Addr) (by_1 : Int) (R : VP) (M : Mem) : Prop := nfz pr (fun _ _ _ _ => False) R (gX PP clock_Clock_Go.h [] [] (gR Tryz.f119) [(0, .ptr (.v c)), (1, .int .i64 (.v by_1))] M)
theorem clock_Clock_Go.go (w0 : World) (c : Option Addr) (by_1 : Int) {R : VP} {M : Mem} (h : clock_Clock_Go.T (std PP w0) c by_1 R M) : C PP w0 Id.clock_Clock_Go #[.pointer c, .int .i64 by_1] R M :=
  goG mixed (h := clock_Clock_Go.h) (T := fun pr pts => clock_Clock_Go.T pr c by_1 R M) Tryz.func119 (aC_ _ _) (by kernel_rfl) (fun pr pts => by kernel_rfl) fun _ _ => h
noncomputable def clock_Clock_Now.h : HC := annot (bd Tryz.f120) []
def clock_Clock_Now.T (pr : Prim) (c : Option Addr) (R : VP) (M : Mem) : Prop := nfz pr (fun _ _ _ _ => False) R (gX PP clock_Clock_Now.h [] [] (gR Tryz.f120) [(0, .ptr (.v c))] M)
theorem clock_Clock_Now.go (w0 : World) (c : Option Addr) {R : VP} {M : Mem} (h : clock_Clock_Now.T (std PP w0) c R M) : C PP w0 Id.clock_Clock_Now #[.pointer c] R M :=
  goG mixed (h := clock_Clock_Now.h) (T := fun pr pts => clock_Clock_Now.T pr c R M) Tryz.func120 (aC_ _ _) (by kernel_rfl) (fun pr pts => by kernel_rfl) fun _ _ => h
noncomputable def dD_fire.h : HC := annot (bd Tryz.f121) [([true, true, true], [0, 4, 5, 6])]
def dD_fire.Is (pr : Prim) (pts : Pts) (R : VP) : Prop := IsG PP pr pts dD_fire.h Tryz.f121 R
abbrev dD_fire.J1 (pts : Pts) (d_0 : Option Addr) (t4 : Addr) (h_5 : Addr) (x_6 : Addr) (M : Mem) : Prop := pts [true, true, true, true] [] [(0, .pointer d_0), (4, .pointer (some t4)), (5, .pointer (some h_5)), (6, .pointer (some x_6))] M
def dD_fire.J1.T (pr : Prim) (pts : Pts) (d_0 : Option Addr) (t4 : Addr) (h_5 : Addr) (x_6 : Addr) (R : VP) (M : Mem) : Prop := nfz pr pts R (gbody PP dD_fire.h (gR Tryz.f121) [true, true, true, true] [] [(0, .ptr (.v d_0)), (4, .ptr (.a (.v t4))), (5, .ptr (.a (.v h_5))), (6, .ptr (.a (.v x_6)))] M)
theorem dD_fire.Is.J1 {pr : Prim} {pts : Pts} {R : VP} (H : dD_fire.Is pr pts R) (d_0 : Option Addr) (t4 : Addr) (h_5 : Addr) (x_6 : Addr) (M : Mem) : dD_fire.J1 pts d_0 t4 h_5 x_6 M = dD_fire.J1.T pr pts d_0 t4 h_5 x_6 R M := (H _ _ _ _ _ rfl).trans (by kernel_rfl)
def dD_fire.T (pr : Prim) (pts : Pts) (d : Option Addr) (queue : Int) (R : VP) (M : Mem) : Prop := nfz pr pts R (gX PP dD_fire.h [] [] (gR Tryz.f121) [(0, .ptr (.v d)), (1, .int .i64 (.v queue))] M)
theorem dD_fire.go (w0 : World) (d : Option Addr) (queue : Int) {R : VP} {M : Mem} (h : ∀ pts, dD_fire.Is (std PP w0) pts R → dD_fire.T (std PP w0) pts d queue R M) : C PP w0 Id.dD_fire #[.pointer d, .int .i64 queue] R M :=
  goG mixed (h := dD_fire.h) (T := fun pr pts => dD_fire.T pr pts d queue R M) Tryz.func121 (aC_ _ _) (by kernel_rfl) (fun pr pts => by kernel_rfl) h
noncomputable def dD_merge.h : HC := annot (bd Tryz.f122) []
def dD_merge.T (pr : Prim) (d : Option Addr) (R : VP) (M : Mem) : Prop := nfz pr (fun _ _ _ _ => False) R (gX PP dD_merge.h [] [] (gR Tryz.f122) [(0, .ptr (.v d))] M)
theorem dD_merge.go (w0 : World) (d : Option Addr) {R : VP} {M : Mem} (h : dD_merge.T (std PP w0) d R M) : C PP w0 Id.dD_merge #[.pointer d] R M :=
  goG mixed (h := dD_merge.h) (T := fun pr pts => dD_merge.T pr d R M) Tryz.func122 (aC_ _ _) (by kernel_rfl) (fun pr pts => by kernel_rfl) fun _ _ => h
noncomputable def jT_Count.h : HC := annot (bd Tryz.f123) [([true, true, false, true, false], [0, 1, 5, 14, 15, 16])]
def jT_Count.Is (pr : Prim) (pts : Pts) (R : VP) : Prop := IsG PP pr pts jT_Count.h Tryz.f123 R
abbrev jT_Count.L1 (pts : Pts) (k : Nat) (t_0 : Option Addr) (queue_1 : Int) (n_5 : Int) (t14 : SV) (t15 : Int) (t16 : Int) (M : Mem) : Prop := pts [false, false, true, false, true, true] [k] [(0, .pointer t_0), (1, .int .i64 queue_1), (5, .int .i64 n_5), (14, SV.v t14), (15, .int .i64 t15), (16, .int .i64 t16)] M
def jT_Count.L1.T (pr : Prim) (pts : Pts) (k : Nat) (t_0 : Option Addr) (queue_1 : Int) (n_5 : Int) (t14 : SV) (t15 : Int) (t16 : Int) (R : VP) (M : Mem) : Prop := nfz pr pts R (gbody PP jT_Count.h (gR Tryz.f123) [false, false, true, false, true, true] [k] [(0, .ptr (.v t_0)), (1, .int .i64 (.v queue_1)), (5, .int .i64 (.v n_5)), (14, .sv t14), (15, .int .i64 (.v t15)), (16, .int .i64 (.v t16))] M)
theorem jT_Count.Is.L1 {pr : Prim} {pts : Pts} {R : VP} (H : jT_Count.Is pr pts R) (k : Nat) (t_0 : Option Addr) (queue_1 : Int) (n_5 : Int) (t14 : SV) (t15 : Int) (t16 : Int) (M : Mem) : jT_Count.L1 pts (k + 1) t_0 queue_1 n_5 t14 t15 t16 M = jT_Count.L1.T pr pts k t_0 queue_1 n_5 t14 t15 t16 R M := (H _ _ _ _ _ rfl).trans (by kernel_rfl)
def jT_Count.T (pr : Prim) (pts : Pts) (t : Option Addr) (queue : Int) (R : VP) (M : Mem) : Prop := nfz pr pts R (gX PP jT_Count.h [] [] (gR Tryz.f123) [(0, .ptr (.v t)), (1, .int .i64 (.v queue))] M)
theorem jT_Count.go (w0 : World) (t : Option Addr) (queue : Int) {R : VP} {M : Mem} (h : ∀ pts, jT_Count.Is (std PP w0) pts R → jT_Count.T (std PP w0) pts t queue R M) : C PP w0 Id.jT_Count #[.pointer t, .int .i64 queue] R M :=
  goG mixed (h := jT_Count.h) (T := fun pr pts => jT_Count.T pr pts t queue R M) Tryz.func123 (aC_ _ _) (by kernel_rfl) (fun pr pts => by kernel_rfl) h
noncomputable def pP_Len_jj.h : HC := annot (bd Tryz.f126) []
def pP_Len_jj.T (pr : Prim) (p : Option Addr) (R : VP) (M : Mem) : Prop := nfz pr (fun _ _ _ _ => False) R (gX PP pP_Len_jj.h [] [] (gR Tryz.f126) [(0, .ptr (.v p))] M)
theorem pP_Len_jj.go (w0 : World) (p : Option Addr) {R : VP} {M : Mem} (h : pP_Len_jj.T (std PP w0) p R M) : C PP w0 Id.pP_Len_jj #[.pointer p] R M :=
  goG mixed (h := pP_Len_jj.h) (T := fun pr pts => pP_Len_jj.T pr p R M) Tryz.func126 (aC_ _ _) (by kernel_rfl) (fun pr pts => by kernel_rfl) fun _ _ => h
noncomputable def pool_Newjobs_Job.h : HC := annot (bd Tryz.f127) []
def pool_Newjobs_Job.T (pr : Prim) (places : Int) (R : VP) (M : Mem) : Prop := nfz pr (fun _ _ _ _ => False) R (gX PP pool_Newjobs_Job.h [] [] (gR Tryz.f127) [(0, .int .i64 (.v places))] M)
theorem pool_Newjobs_Job.go (w0 : World) (places : Int) {R : VP} {M : Mem} (h : pool_Newjobs_Job.T (std PP w0) places R M) : C PP w0 Id.pool_Newjobs_Job #[.int .i64 places] R M :=
  goG mixed (h := pool_Newjobs_Job.h) (T := fun pr pts => pool_Newjobs_Job.T pr places R M) Tryz.func127 (aC_ _ _) (by kernel_rfl) (fun pr pts => by kernel_rfl) fun _ _ => h
noncomputable def pP_All_jj.h : HC := annot (bd Tryz.f128) [([true, true, false, true, false], [3, 9, 10, 11])]
def pP_All_jj.Is (pr : Prim) (pts : Pts) (R : VP) : Prop := IsG PP pr pts pP_All_jj.h Tryz.f128 R
abbrev pP_All_jj.L1 (pts : Pts) (k : Nat) (out_3 : SV) (t9 : SV) (t10 : Int) (t11 : Int) (M : Mem) : Prop := pts [false, false, true, false, true, true] [k] [(3, SV.v out_3), (9, SV.v t9), (10, .int .i64 t10), (11, .int .i64 t11)] M
def pP_All_jj.L1.T (pr : Prim) (pts : Pts) (k : Nat) (out_3 : SV) (t9 : SV) (t10 : Int) (t11 : Int) (R : VP) (M : Mem) : Prop := nfz pr pts R (gbody PP pP_All_jj.h (gR Tryz.f128) [false, false, true, false, true, true] [k] [(3, .sv out_3), (9, .sv t9), (10, .int .i64 (.v t10)), (11, .int .i64 (.v t11))] M)
theorem pP_All_jj.Is.L1 {pr : Prim} {pts : Pts} {R : VP} (H : pP_All_jj.Is pr pts R) (k : Nat) (out_3 : SV) (t9 : SV) (t10 : Int) (t11 : Int) (M : Mem) : pP_All_jj.L1 pts (k + 1) out_3 t9 t10 t11 M = pP_All_jj.L1.T pr pts k out_3 t9 t10 t11 R M := (H _ _ _ _ _ rfl).trans (by kernel_rfl)
def pP_All_jj.T (pr : Prim) (pts : Pts) (p : Option Addr) (R : VP) (M : Mem) : Prop := nfz pr pts R (gX PP pP_All_jj.h [] [] (gR Tryz.f128) [(0, .ptr (.v p))] M)
theorem pP_All_jj.go (w0 : World) (p : Option Addr) {R : VP} {M : Mem} (h : ∀ pts, pP_All_jj.Is (std PP w0) pts R → pP_All_jj.T (std PP w0) pts p R M) : C PP w0 Id.pP_All_jj #[.pointer p] R M :=
  goG mixed (h := pP_All_jj.h) (T := fun pr pts => pP_All_jj.T pr pts p R M) Tryz.func128 (aC_ _ _) (by kernel_rfl) (fun pr pts => by kernel_rfl) h
noncomputable def pP_Get_jj.h : HC := annot (bd Tryz.f129) []
def pP_Get_jj.T (pr : Prim) (p : Option Addr) (r_0 : Int) (r_1 : Int) (R : VP) (M : Mem) : Prop := nfz pr (fun _ _ _ _ => False) R (gX PP pP_Get_jj.h [] [] (gR Tryz.f129) [(0, .ptr (.v p)), (1, .agg [.int .i64 (.v r_0), .int .i64 (.v r_1)])] M)
theorem pP_Get_jj.go (w0 : World) (p : Option Addr) (r_0 : Int) (r_1 : Int) {R : VP} {M : Mem} (h : pP_Get_jj.T (std PP w0) p r_0 r_1 R M) : C PP w0 Id.pP_Get_jj #[.pointer p, .agg #[.int .i64 r_0, .int .i64 r_1]] R M :=
  goG mixed (h := pP_Get_jj.h) (T := fun pr pts => pP_Get_jj.T pr p r_0 r_1 R M) Tryz.func129 (aC_ _ _) (by kernel_rfl) (fun pr pts => by kernel_rfl) fun _ _ => h
noncomputable def order_Compare.h : HC := annot (bd Tryz.f132) []
def order_Compare.T (pr : Prim) (a_0 : Int) (a_1 : Int) (b_0 : Int) (b_1 : Int) (R : VP) (M : Mem) : Prop := nfz pr (fun _ _ _ _ => False) R (gX PP order_Compare.h [] [] (gR Tryz.f132) [(0, .agg [.int .i64 (.v a_0), .int .i64 (.v a_1)]), (1, .agg [.int .i64 (.v b_0), .int .i64 (.v b_1)])] M)
theorem order_Compare.go (w0 : World) (a_0 : Int) (a_1 : Int) (b_0 : Int) (b_1 : Int) {R : VP} {M : Mem} (h : order_Compare.T (std PP w0) a_0 a_1 b_0 b_1 R M) : C PP w0 Id.order_Compare #[.agg #[.int .i64 a_0, .int .i64 a_1], .agg #[.int .i64 b_0, .int .i64 b_1]] R M :=
  goG mixed (h := order_Compare.h) (T := fun pr pts => order_Compare.T pr a_0 a_1 b_0 b_1 R M) Tryz.func132 (aC_ _ _) (by kernel_rfl) (fun pr pts => by kernel_rfl) fun _ _ => h
noncomputable def aA_Take.h : HC := annot (bd Tryz.f134) [([true, true, true], [0, 4])]
def aA_Take.Is (pr : Prim) (pts : Pts) (R : VP) : Prop := IsG PP pr pts aA_Take.h Tryz.f134 R
abbrev aA_Take.J1 (pts : Pts) (a_0 : Option Addr) (c_4 : Int) (M : Mem) : Prop := pts [true, true, true, true] [] [(0, .pointer a_0), (4, .int .i64 c_4)] M
def aA_Take.J1.T (pr : Prim) (pts : Pts) (a_0 : Option Addr) (c_4 : Int) (R : VP) (M : Mem) : Prop := nfz pr pts R (gbody PP aA_Take.h (gR Tryz.f134) [true, true, true, true] [] [(0, .ptr (.v a_0)), (4, .int .i64 (.v c_4))] M)
theorem aA_Take.Is.J1 {pr : Prim} {pts : Pts} {R : VP} (H : aA_Take.Is pr pts R) (a_0 : Option Addr) (c_4 : Int) (M : Mem) : aA_Take.J1 pts a_0 c_4 M = aA_Take.J1.T pr pts a_0 c_4 R M := (H _ _ _ _ _ rfl).trans (by kernel_rfl)
def aA_Take.T (pr : Prim) (pts : Pts) (a : Option Addr) (R : VP) (M : Mem) : Prop := nfz pr pts R (gX PP aA_Take.h [] [] (gR Tryz.f134) [(0, .ptr (.v a))] M)
theorem aA_Take.go (w0 : World) (a : Option Addr) {R : VP} {M : Mem} (h : ∀ pts, aA_Take.Is (std PP w0) pts R → aA_Take.T (std PP w0) pts a R M) : C PP w0 Id.aA_Take #[.pointer a] R M :=
  goG mixed (h := aA_Take.h) (T := fun pr pts => aA_Take.T pr pts a R M) Tryz.func134 (aC_ _ _) (by kernel_rfl) (fun pr pts => by kernel_rfl) h
noncomputable def aA_Set.h : HC := annot (bd Tryz.f135) []
def aA_Set.T (pr : Prim) (a : Option Addr) (c : Int) (field : Int) (v : Int) (R : VP) (M : Mem) : Prop := nfz pr (fun _ _ _ _ => False) R (gX PP aA_Set.h [] [] (gR Tryz.f135) [(0, .ptr (.v a)), (1, .int .i64 (.v c)), (2, .int .i64 (.v field)), (3, .int .i64 (.v v))] M)
theorem aA_Set.go (w0 : World) (a : Option Addr) (c : Int) (field : Int) (v : Int) {R : VP} {M : Mem} (h : aA_Set.T (std PP w0) a c field v R M) : C PP w0 Id.aA_Set #[.pointer a, .int .i64 c, .int .i64 field, .int .i64 v] R M :=
  goG mixed (h := aA_Set.h) (T := fun pr pts => aA_Set.T pr a c field v R M) Tryz.func135 (aC_ _ _) (by kernel_rfl) (fun pr pts => by kernel_rfl) fun _ _ => h
noncomputable def le_Push.h : HC := annot (bd Tryz.f136) []
def le_Push.T (pr : Prim) (a : Option Addr) (r : Int) (i : Int) (R : VP) (M : Mem) : Prop := nfz pr (fun _ _ _ _ => False) R (gX PP le_Push.h [] [] (gR Tryz.f136) [(0, .ptr (.v a)), (1, .int .i64 (.v r)), (2, .int .i64 (.v i))] M)
theorem le_Push.go (w0 : World) (a : Option Addr) (r : Int) (i : Int) {R : VP} {M : Mem} (h : le_Push.T (std PP w0) a r i R M) : C PP w0 Id.le_Push #[.pointer a, .int .i64 r, .int .i64 i] R M :=
  goG mixed (h := le_Push.h) (T := fun pr pts => le_Push.T pr a r i R M) Tryz.func136 (aC_ _ _) (by kernel_rfl) (fun pr pts => by kernel_rfl) fun _ _ => h
noncomputable def bi_Push.h : HC := annot (bd Tryz.f137) []
def bi_Push.T (pr : Prim) (a : Option Addr) (r : Int) (i : Int) (R : VP) (M : Mem) : Prop := nfz pr (fun _ _ _ _ => False) R (gX PP bi_Push.h [] [] (gR Tryz.f137) [(0, .ptr (.v a)), (1, .int .i64 (.v r)), (2, .int .i64 (.v i))] M)
theorem bi_Push.go (w0 : World) (a : Option Addr) (r : Int) (i : Int) {R : VP} {M : Mem} (h : bi_Push.T (std PP w0) a r i R M) : C PP w0 Id.bi_Push #[.pointer a, .int .i64 r, .int .i64 i] R M :=
  goG mixed (h := bi_Push.h) (T := fun pr pts => bi_Push.T pr a r i R M) Tryz.func137 (aC_ _ _) (by kernel_rfl) (fun pr pts => by kernel_rfl) fun _ _ => h
noncomputable def skew_Push.h : HC := annot (bd Tryz.f138) []
def skew_Push.T (pr : Prim) (a : Option Addr) (r : Int) (i : Int) (R : VP) (M : Mem) : Prop := nfz pr (fun _ _ _ _ => False) R (gX PP skew_Push.h [] [] (gR Tryz.f138) [(0, .ptr (.v a)), (1, .int .i64 (.v r)), (2, .int .i64 (.v i))] M)
theorem skew_Push.go (w0 : World) (a : Option Addr) (r : Int) (i : Int) {R : VP} {M : Mem} (h : skew_Push.T (std PP w0) a r i R M) : C PP w0 Id.skew_Push #[.pointer a, .int .i64 r, .int .i64 i] R M :=
  goG mixed (h := skew_Push.h) (T := fun pr pts => skew_Push.T pr a r i R M) Tryz.func138 (aC_ _ _) (by kernel_rfl) (fun pr pts => by kernel_rfl) fun _ _ => h
noncomputable def pP_Places_st.h : HC := annot (bd Tryz.f141) []
def pP_Places_st.T (pr : Prim) (p : Option Addr) (R : VP) (M : Mem) : Prop := nfz pr (fun _ _ _ _ => False) R (gX PP pP_Places_st.h [] [] (gR Tryz.f141) [(0, .ptr (.v p))] M)
theorem pP_Places_st.go (w0 : World) (p : Option Addr) {R : VP} {M : Mem} (h : pP_Places_st.T (std PP w0) p R M) : C PP w0 Id.pP_Places_st #[.pointer p] R M :=
  goG mixed (h := pP_Places_st.h) (T := fun pr pts => pP_Places_st.T pr p R M) Tryz.func141 (aC_ _ _) (by kernel_rfl) (fun pr pts => by kernel_rfl) fun _ _ => h
noncomputable def pP_Take_st.h : HC := annot (bd Tryz.f142) [([true, true], [0, 3, 4, 6])]
def pP_Take_st.Is (pr : Prim) (pts : Pts) (R : VP) : Prop := IsG PP pr pts pP_Take_st.h Tryz.f142 R
abbrev pP_Take_st.J1 (pts : Pts) (p_0 : Option Addr) (v_3 : Addr) (t4 : Addr) (at_6 : Int) (M : Mem) : Prop := pts [true, true, true] [] [(0, .pointer p_0), (3, .pointer (some v_3)), (4, .pointer (some t4)), (6, .int .i64 at_6)] M
def pP_Take_st.J1.T (pr : Prim) (pts : Pts) (p_0 : Option Addr) (v_3 : Addr) (t4 : Addr) (at_6 : Int) (R : VP) (M : Mem) : Prop := nfz pr pts R (gbody PP pP_Take_st.h (gR Tryz.f142) [true, true, true] [] [(0, .ptr (.v p_0)), (3, .ptr (.a (.v v_3))), (4, .ptr (.a (.v t4))), (6, .int .i64 (.v at_6))] M)
theorem pP_Take_st.Is.J1 {pr : Prim} {pts : Pts} {R : VP} (H : pP_Take_st.Is pr pts R) (p_0 : Option Addr) (v_3 : Addr) (t4 : Addr) (at_6 : Int) (M : Mem) : pP_Take_st.J1 pts p_0 v_3 t4 at_6 M = pP_Take_st.J1.T pr pts p_0 v_3 t4 at_6 R M := (H _ _ _ _ _ rfl).trans (by kernel_rfl)
def pP_Take_st.T (pr : Prim) (pts : Pts) (p : Option Addr) (v_0 : Int) (v_1 : Int) (v_2 : Int) (R : VP) (M : Mem) : Prop := nfz pr pts R (gX PP pP_Take_st.h [] [] (gR Tryz.f142) [(0, .ptr (.v p)), (1, .agg [.int .i64 (.v v_0), .int .i64 (.v v_1), .int .i64 (.v v_2)])] M)
theorem pP_Take_st.go (w0 : World) (p : Option Addr) (v_0 : Int) (v_1 : Int) (v_2 : Int) {R : VP} {M : Mem} (h : ∀ pts, pP_Take_st.Is (std PP w0) pts R → pP_Take_st.T (std PP w0) pts p v_0 v_1 v_2 R M) : C PP w0 Id.pP_Take_st #[.pointer p, .agg #[.int .i64 v_0, .int .i64 v_1, .int .i64 v_2]] R M :=
  goG mixed (h := pP_Take_st.h) (T := fun pr pts => pP_Take_st.T pr pts p v_0 v_1 v_2 R M) Tryz.func142 (aC_ _ _) (by kernel_rfl) (fun pr pts => by kernel_rfl) h
noncomputable def pP_Set_sh.h : HC := annot (bd Tryz.f143) []
def pP_Set_sh.T (pr : Prim) (p : Option Addr) (r_0 : Int) (r_1 : Int) (v_0 : Int) (v_1 : Int) (v_2 : Int) (R : VP) (M : Mem) : Prop := nfz pr (fun _ _ _ _ => False) R (gX PP pP_Set_sh.h [] [] (gR Tryz.f143) [(0, .ptr (.v p)), (1, .agg [.int .i64 (.v r_0), .int .i64 (.v r_1)]), (2, .agg [.int .i64 (.v v_0), .int .i64 (.v v_1), .int .i64 (.v v_2)])] M)
theorem pP_Set_sh.go (w0 : World) (p : Option Addr) (r_0 : Int) (r_1 : Int) (v_0 : Int) (v_1 : Int) (v_2 : Int) {R : VP} {M : Mem} (h : pP_Set_sh.T (std PP w0) p r_0 r_1 v_0 v_1 v_2 R M) : C PP w0 Id.pP_Set_sh #[.pointer p, .agg #[.int .i64 r_0, .int .i64 r_1], .agg #[.int .i64 v_0, .int .i64 v_1, .int .i64 v_2]] R M :=
  goG mixed (h := pP_Set_sh.h) (T := fun pr pts => pP_Set_sh.T pr p r_0 r_1 v_0 v_1 v_2 R M) Tryz.func143 (aC_ _ _) (by kernel_rfl) (fun pr pts => by kernel_rfl) fun _ _ => h
noncomputable def le_Min.h : HC := annot (bd Tryz.f144) []
def le_Min.T (pr : Prim) (a : Option Addr) (r : Int) (R : VP) (M : Mem) : Prop := nfz pr (fun _ _ _ _ => False) R (gX PP le_Min.h [] [] (gR Tryz.f144) [(0, .ptr (.v a)), (1, .int .i64 (.v r))] M)
theorem le_Min.go (w0 : World) (a : Option Addr) (r : Int) {R : VP} {M : Mem} (h : le_Min.T (std PP w0) a r R M) : C PP w0 Id.le_Min #[.pointer a, .int .i64 r] R M :=
  goG mixed (h := le_Min.h) (T := fun pr pts => le_Min.T pr a r R M) Tryz.func144 (aC_ _ _) (by kernel_rfl) (fun pr pts => by kernel_rfl) fun _ _ => h
noncomputable def bi_Min.h : HC := annot (bd Tryz.f145) []
def bi_Min.T (pr : Prim) (a : Option Addr) (r : Int) (R : VP) (M : Mem) : Prop := nfz pr (fun _ _ _ _ => False) R (gX PP bi_Min.h [] [] (gR Tryz.f145) [(0, .ptr (.v a)), (1, .int .i64 (.v r))] M)
theorem bi_Min.go (w0 : World) (a : Option Addr) (r : Int) {R : VP} {M : Mem} (h : bi_Min.T (std PP w0) a r R M) : C PP w0 Id.bi_Min #[.pointer a, .int .i64 r] R M :=
  goG mixed (h := bi_Min.h) (T := fun pr pts => bi_Min.T pr a r R M) Tryz.func145 (aC_ _ _) (by kernel_rfl) (fun pr pts => by kernel_rfl) fun _ _ => h
noncomputable def skew_Min.h : HC := annot (bd Tryz.f146) []
def skew_Min.T (pr : Prim) (a : Option Addr) (r : Int) (R : VP) (M : Mem) : Prop := nfz pr (fun _ _ _ _ => False) R (gX PP skew_Min.h [] [] (gR Tryz.f146) [(0, .ptr (.v a)), (1, .int .i64 (.v r))] M)
theorem skew_Min.go (w0 : World) (a : Option Addr) (r : Int) {R : VP} {M : Mem} (h : skew_Min.T (std PP w0) a r R M) : C PP w0 Id.skew_Min #[.pointer a, .int .i64 r] R M :=
  goG mixed (h := skew_Min.h) (T := fun pr pts => skew_Min.T pr a r R M) Tryz.func146 (aC_ _ _) (by kernel_rfl) (fun pr pts => by kernel_rfl) fun _ _ => h
noncomputable def le_Pop.h : HC := annot (bd Tryz.f149) [([true], [0, 1])]
def le_Pop.Is (pr : Prim) (pts : Pts) (R : VP) : Prop := IsG PP pr pts le_Pop.h Tryz.f149 R
abbrev le_Pop.J1 (pts : Pts) (a_0 : Option Addr) (r_1 : Int) (M : Mem) : Prop := pts [true, true] [] [(0, .pointer a_0), (1, .int .i64 r_1)] M
def le_Pop.J1.T (pr : Prim) (pts : Pts) (a_0 : Option Addr) (r_1 : Int) (R : VP) (M : Mem) : Prop := nfz pr pts R (gbody PP le_Pop.h (gR Tryz.f149) [true, true] [] [(0, .ptr (.v a_0)), (1, .int .i64 (.v r_1))] M)
theorem le_Pop.Is.J1 {pr : Prim} {pts : Pts} {R : VP} (H : le_Pop.Is pr pts R) (a_0 : Option Addr) (r_1 : Int) (M : Mem) : le_Pop.J1 pts a_0 r_1 M = le_Pop.J1.T pr pts a_0 r_1 R M := (H _ _ _ _ _ rfl).trans (by kernel_rfl)
def le_Pop.T (pr : Prim) (pts : Pts) (a : Option Addr) (r : Int) (R : VP) (M : Mem) : Prop := nfz pr pts R (gX PP le_Pop.h [] [] (gR Tryz.f149) [(0, .ptr (.v a)), (1, .int .i64 (.v r))] M)
theorem le_Pop.go (w0 : World) (a : Option Addr) (r : Int) {R : VP} {M : Mem} (h : ∀ pts, le_Pop.Is (std PP w0) pts R → le_Pop.T (std PP w0) pts a r R M) : C PP w0 Id.le_Pop #[.pointer a, .int .i64 r] R M :=
  goG mixed (h := le_Pop.h) (T := fun pr pts => le_Pop.T pr pts a r R M) Tryz.func149 (aC_ _ _) (by kernel_rfl) (fun pr pts => by kernel_rfl) h
noncomputable def bi_Pop.h : HC := annot (bd Tryz.f150) [([true], [0, 1])]
def bi_Pop.Is (pr : Prim) (pts : Pts) (R : VP) : Prop := IsG PP pr pts bi_Pop.h Tryz.f150 R
abbrev bi_Pop.J1 (pts : Pts) (a_0 : Option Addr) (r_1 : Int) (M : Mem) : Prop := pts [true, true] [] [(0, .pointer a_0), (1, .int .i64 r_1)] M
def bi_Pop.J1.T (pr : Prim) (pts : Pts) (a_0 : Option Addr) (r_1 : Int) (R : VP) (M : Mem) : Prop := nfz pr pts R (gbody PP bi_Pop.h (gR Tryz.f150) [true, true] [] [(0, .ptr (.v a_0)), (1, .int .i64 (.v r_1))] M)
theorem bi_Pop.Is.J1 {pr : Prim} {pts : Pts} {R : VP} (H : bi_Pop.Is pr pts R) (a_0 : Option Addr) (r_1 : Int) (M : Mem) : bi_Pop.J1 pts a_0 r_1 M = bi_Pop.J1.T pr pts a_0 r_1 R M := (H _ _ _ _ _ rfl).trans (by kernel_rfl)
def bi_Pop.T (pr : Prim) (pts : Pts) (a : Option Addr) (r : Int) (R : VP) (M : Mem) : Prop := nfz pr pts R (gX PP bi_Pop.h [] [] (gR Tryz.f150) [(0, .ptr (.v a)), (1, .int .i64 (.v r))] M)
theorem bi_Pop.go (w0 : World) (a : Option Addr) (r : Int) {R : VP} {M : Mem} (h : ∀ pts, bi_Pop.Is (std PP w0) pts R → bi_Pop.T (std PP w0) pts a r R M) : C PP w0 Id.bi_Pop #[.pointer a, .int .i64 r] R M :=
  goG mixed (h := bi_Pop.h) (T := fun pr pts => bi_Pop.T pr pts a r R M) Tryz.func150 (aC_ _ _) (by kernel_rfl) (fun pr pts => by kernel_rfl) h
noncomputable def skew_Pop.h : HC := annot (bd Tryz.f151) [([true], [0, 1])]
def skew_Pop.Is (pr : Prim) (pts : Pts) (R : VP) : Prop := IsG PP pr pts skew_Pop.h Tryz.f151 R
abbrev skew_Pop.J1 (pts : Pts) (a_0 : Option Addr) (r_1 : Int) (M : Mem) : Prop := pts [true, true] [] [(0, .pointer a_0), (1, .int .i64 r_1)] M
def skew_Pop.J1.T (pr : Prim) (pts : Pts) (a_0 : Option Addr) (r_1 : Int) (R : VP) (M : Mem) : Prop := nfz pr pts R (gbody PP skew_Pop.h (gR Tryz.f151) [true, true] [] [(0, .ptr (.v a_0)), (1, .int .i64 (.v r_1))] M)
theorem skew_Pop.Is.J1 {pr : Prim} {pts : Pts} {R : VP} (H : skew_Pop.Is pr pts R) (a_0 : Option Addr) (r_1 : Int) (M : Mem) : skew_Pop.J1 pts a_0 r_1 M = skew_Pop.J1.T pr pts a_0 r_1 R M := (H _ _ _ _ _ rfl).trans (by kernel_rfl)
def skew_Pop.T (pr : Prim) (pts : Pts) (a : Option Addr) (r : Int) (R : VP) (M : Mem) : Prop := nfz pr pts R (gX PP skew_Pop.h [] [] (gR Tryz.f151) [(0, .ptr (.v a)), (1, .int .i64 (.v r))] M)
theorem skew_Pop.go (w0 : World) (a : Option Addr) (r : Int) {R : VP} {M : Mem} (h : ∀ pts, skew_Pop.Is (std PP w0) pts R → skew_Pop.T (std PP w0) pts a r R M) : C PP w0 Id.skew_Pop #[.pointer a, .int .i64 r] R M :=
  goG mixed (h := skew_Pop.h) (T := fun pr pts => skew_Pop.T pr pts a r R M) Tryz.func151 (aC_ _ _) (by kernel_rfl) (fun pr pts => by kernel_rfl) h
noncomputable def sT_Take.h : HC := annot (bd Tryz.f154) []
def sT_Take.T (pr : Prim) (t : Option Addr) (i_0 : Int) (i_1 : Int) (R : VP) (M : Mem) : Prop := nfz pr (fun _ _ _ _ => False) R (gX PP sT_Take.h [] [] (gR Tryz.f154) [(0, .ptr (.v t)), (1, .agg [.int .i64 (.v i_0), .int .i64 (.v i_1)])] M)
theorem sT_Take.go (w0 : World) (t : Option Addr) (i_0 : Int) (i_1 : Int) {R : VP} {M : Mem} (h : sT_Take.T (std PP w0) t i_0 i_1 R M) : C PP w0 Id.sT_Take #[.pointer t, .agg #[.int .i64 i_0, .int .i64 i_1]] R M :=
  goG mixed (h := sT_Take.h) (T := fun pr pts => sT_Take.T pr t i_0 i_1 R M) Tryz.func154 (aC_ _ _) (by kernel_rfl) (fun pr pts => by kernel_rfl) fun _ _ => h
noncomputable def aA_Give.h : HC := annot (bd Tryz.f155) []
def aA_Give.T (pr : Prim) (a : Option Addr) (c : Int) (R : VP) (M : Mem) : Prop := nfz pr (fun _ _ _ _ => False) R (gX PP aA_Give.h [] [] (gR Tryz.f155) [(0, .ptr (.v a)), (1, .int .i64 (.v c))] M)
theorem aA_Give.go (w0 : World) (a : Option Addr) (c : Int) {R : VP} {M : Mem} (h : aA_Give.T (std PP w0) a c R M) : C PP w0 Id.aA_Give #[.pointer a, .int .i64 c] R M :=
  goG mixed (h := aA_Give.h) (T := fun pr pts => aA_Give.T pr a c R M) Tryz.func155 (aC_ _ _) (by kernel_rfl) (fun pr pts => by kernel_rfl) fun _ _ => h
noncomputable def pP_Get_st.h : HC := annot (bd Tryz.f156) []
def pP_Get_st.T (pr : Prim) (p : Option Addr) (r_0 : Int) (r_1 : Int) (R : VP) (M : Mem) : Prop := nfz pr (fun _ _ _ _ => False) R (gX PP pP_Get_st.h [] [] (gR Tryz.f156) [(0, .ptr (.v p)), (1, .agg [.int .i64 (.v r_0), .int .i64 (.v r_1)])] M)
theorem pP_Get_st.go (w0 : World) (p : Option Addr) (r_0 : Int) (r_1 : Int) {R : VP} {M : Mem} (h : pP_Get_st.T (std PP w0) p r_0 r_1 R M) : C PP w0 Id.pP_Get_st #[.pointer p, .agg #[.int .i64 r_0, .int .i64 r_1]] R M :=
  goG mixed (h := pP_Get_st.h) (T := fun pr pts => pP_Get_st.T pr p r_0 r_1 R M) Tryz.func156 (aC_ _ _) (by kernel_rfl) (fun pr pts => by kernel_rfl) fun _ _ => h
noncomputable def aA_Get.h : HC := annot (bd Tryz.f157) []
def aA_Get.T (pr : Prim) (a : Option Addr) (c : Int) (field : Int) (R : VP) (M : Mem) : Prop := nfz pr (fun _ _ _ _ => False) R (gX PP aA_Get.h [] [] (gR Tryz.f157) [(0, .ptr (.v a)), (1, .int .i64 (.v c)), (2, .int .i64 (.v field))] M)
theorem aA_Get.go (w0 : World) (a : Option Addr) (c : Int) (field : Int) {R : VP} {M : Mem} (h : aA_Get.T (std PP w0) a c field R M) : C PP w0 Id.aA_Get #[.pointer a, .int .i64 c, .int .i64 field] R M :=
  goG mixed (h := aA_Get.h) (T := fun pr pts => aA_Get.T pr a c field R M) Tryz.func157 (aC_ _ _) (by kernel_rfl) (fun pr pts => by kernel_rfl) fun _ _ => h
noncomputable def le_Fall.h : HC := annot (bd Tryz.f158) [([true, true, true], [0, 1, 7])]
def le_Fall.Is (pr : Prim) (pts : Pts) (R : VP) : Prop := IsG PP pr pts le_Fall.h Tryz.f158 R
abbrev le_Fall.J1 (pts : Pts) (a_0 : Option Addr) (r_1 : Int) (n_7 : Int) (M : Mem) : Prop := pts [true, true, true, true] [] [(0, .pointer a_0), (1, .int .i64 r_1), (7, .int .i64 n_7)] M
def le_Fall.J1.T (pr : Prim) (pts : Pts) (a_0 : Option Addr) (r_1 : Int) (n_7 : Int) (R : VP) (M : Mem) : Prop := nfz pr pts R (gbody PP le_Fall.h (gR Tryz.f158) [true, true, true, true] [] [(0, .ptr (.v a_0)), (1, .int .i64 (.v r_1)), (7, .int .i64 (.v n_7))] M)
theorem le_Fall.Is.J1 {pr : Prim} {pts : Pts} {R : VP} (H : le_Fall.Is pr pts R) (a_0 : Option Addr) (r_1 : Int) (n_7 : Int) (M : Mem) : le_Fall.J1 pts a_0 r_1 n_7 M = le_Fall.J1.T pr pts a_0 r_1 n_7 R M := (H _ _ _ _ _ rfl).trans (by kernel_rfl)
def le_Fall.T (pr : Prim) (pts : Pts) (a : Option Addr) (r : Int) (i : Int) (R : VP) (M : Mem) : Prop := nfz pr pts R (gX PP le_Fall.h [] [] (gR Tryz.f158) [(0, .ptr (.v a)), (1, .int .i64 (.v r)), (2, .int .i64 (.v i))] M)
theorem le_Fall.go (w0 : World) (a : Option Addr) (r : Int) (i : Int) {R : VP} {M : Mem} (h : ∀ pts, le_Fall.Is (std PP w0) pts R → le_Fall.T (std PP w0) pts a r i R M) : C PP w0 Id.le_Fall #[.pointer a, .int .i64 r, .int .i64 i] R M :=
  goG mixed (h := le_Fall.h) (T := fun pr pts => le_Fall.T pr pts a r i R M) Tryz.func158 (aC_ _ _) (by kernel_rfl) (fun pr pts => by kernel_rfl) h
noncomputable def bi_Fall.h : HC := annot (bd Tryz.f159) []
def bi_Fall.T (pr : Prim) (a : Option Addr) (r : Int) (i : Int) (R : VP) (M : Mem) : Prop := nfz pr (fun _ _ _ _ => False) R (gX PP bi_Fall.h [] [] (gR Tryz.f159) [(0, .ptr (.v a)), (1, .int .i64 (.v r)), (2, .int .i64 (.v i))] M)
theorem bi_Fall.go (w0 : World) (a : Option Addr) (r : Int) (i : Int) {R : VP} {M : Mem} (h : bi_Fall.T (std PP w0) a r i R M) : C PP w0 Id.bi_Fall #[.pointer a, .int .i64 r, .int .i64 i] R M :=
  goG mixed (h := bi_Fall.h) (T := fun pr pts => bi_Fall.T pr a r i R M) Tryz.func159 (aC_ _ _) (by kernel_rfl) (fun pr pts => by kernel_rfl) fun _ _ => h
noncomputable def skew_Fall.h : HC := annot (bd Tryz.f160) []
def skew_Fall.T (pr : Prim) (a : Option Addr) (r : Int) (i : Int) (R : VP) (M : Mem) : Prop := nfz pr (fun _ _ _ _ => False) R (gX PP skew_Fall.h [] [] (gR Tryz.f160) [(0, .ptr (.v a)), (1, .int .i64 (.v r)), (2, .int .i64 (.v i))] M)
theorem skew_Fall.go (w0 : World) (a : Option Addr) (r : Int) (i : Int) {R : VP} {M : Mem} (h : skew_Fall.T (std PP w0) a r i R M) : C PP w0 Id.skew_Fall #[.pointer a, .int .i64 r, .int .i64 i] R M :=
  goG mixed (h := skew_Fall.h) (T := fun pr pts => skew_Fall.T pr a r i R M) Tryz.func160 (aC_ _ _) (by kernel_rfl) (fun pr pts => by kernel_rfl) fun _ _ => h
noncomputable def le_Cut.h : HC := annot (bd Tryz.f163) [([true, true, true, true], [0, 1, 7])]
def le_Cut.Is (pr : Prim) (pts : Pts) (R : VP) : Prop := IsG PP pr pts le_Cut.h Tryz.f163 R
abbrev le_Cut.J1 (pts : Pts) (a_0 : Option Addr) (r_1 : Int) (n_7 : Int) (M : Mem) : Prop := pts [true, true, true, true, true] [] [(0, .pointer a_0), (1, .int .i64 r_1), (7, .int .i64 n_7)] M
def le_Cut.J1.T (pr : Prim) (pts : Pts) (a_0 : Option Addr) (r_1 : Int) (n_7 : Int) (R : VP) (M : Mem) : Prop := nfz pr pts R (gbody PP le_Cut.h (gR Tryz.f163) [true, true, true, true, true] [] [(0, .ptr (.v a_0)), (1, .int .i64 (.v r_1)), (7, .int .i64 (.v n_7))] M)
theorem le_Cut.Is.J1 {pr : Prim} {pts : Pts} {R : VP} (H : le_Cut.Is pr pts R) (a_0 : Option Addr) (r_1 : Int) (n_7 : Int) (M : Mem) : le_Cut.J1 pts a_0 r_1 n_7 M = le_Cut.J1.T pr pts a_0 r_1 n_7 R M := (H _ _ _ _ _ rfl).trans (by kernel_rfl)
def le_Cut.T (pr : Prim) (pts : Pts) (a : Option Addr) (r : Int) (i : Int) (R : VP) (M : Mem) : Prop := nfz pr pts R (gX PP le_Cut.h [] [] (gR Tryz.f163) [(0, .ptr (.v a)), (1, .int .i64 (.v r)), (2, .int .i64 (.v i))] M)
theorem le_Cut.go (w0 : World) (a : Option Addr) (r : Int) (i : Int) {R : VP} {M : Mem} (h : ∀ pts, le_Cut.Is (std PP w0) pts R → le_Cut.T (std PP w0) pts a r i R M) : C PP w0 Id.le_Cut #[.pointer a, .int .i64 r, .int .i64 i] R M :=
  goG mixed (h := le_Cut.h) (T := fun pr pts => le_Cut.T pr pts a r i R M) Tryz.func163 (aC_ _ _) (by kernel_rfl) (fun pr pts => by kernel_rfl) h
noncomputable def bi_Cut.h : HC := annot (bd Tryz.f164) []
def bi_Cut.T (pr : Prim) (a : Option Addr) (r : Int) (i : Int) (R : VP) (M : Mem) : Prop := nfz pr (fun _ _ _ _ => False) R (gX PP bi_Cut.h [] [] (gR Tryz.f164) [(0, .ptr (.v a)), (1, .int .i64 (.v r)), (2, .int .i64 (.v i))] M)
theorem bi_Cut.go (w0 : World) (a : Option Addr) (r : Int) (i : Int) {R : VP} {M : Mem} (h : bi_Cut.T (std PP w0) a r i R M) : C PP w0 Id.bi_Cut #[.pointer a, .int .i64 r, .int .i64 i] R M :=
  goG mixed (h := bi_Cut.h) (T := fun pr pts => bi_Cut.T pr a r i R M) Tryz.func164 (aC_ _ _) (by kernel_rfl) (fun pr pts => by kernel_rfl) fun _ _ => h
noncomputable def skew_Cut.h : HC := annot (bd Tryz.f165) []
def skew_Cut.T (pr : Prim) (a : Option Addr) (r : Int) (i : Int) (R : VP) (M : Mem) : Prop := nfz pr (fun _ _ _ _ => False) R (gX PP skew_Cut.h [] [] (gR Tryz.f165) [(0, .ptr (.v a)), (1, .int .i64 (.v r)), (2, .int .i64 (.v i))] M)
theorem skew_Cut.go (w0 : World) (a : Option Addr) (r : Int) (i : Int) {R : VP} {M : Mem} (h : skew_Cut.T (std PP w0) a r i R M) : C PP w0 Id.skew_Cut #[.pointer a, .int .i64 r, .int .i64 i] R M :=
  goG mixed (h := skew_Cut.h) (T := fun pr pts => skew_Cut.T pr a r i R M) Tryz.func165 (aC_ _ _) (by kernel_rfl) (fun pr pts => by kernel_rfl) fun _ _ => h
end Go.Proofs.YtodobkbnmjgkdaaGreat.HL
namespace Go.Proofs.YtodobkbnmjgkdaaGreat.HL
open Go.Proofs
noncomputable def pP_Set_st.h : HC := annot (bd Tryz.f168) []
def pP_Set_st.T (pr : Prim) (p : Option Addr) (r_0 : Int) (r_1 : Int) (v_0 : Int) (v_1 : Int) (v_2 : Int) (R : VP) (M : Mem) : Prop := nfz pr (fun _ _ _ _ => False) R (gX PP pP_Set_st.h [] [] (gR Tryz.f168) [(0, .ptr (.v p)), (1, .agg [.int .i64 (.v r_0), .int .i64 (.v r_1)]), (2, .agg [.int .i64 (.v v_0), .int .i64 (.v v_1), .int .i64 (.v v_2)])] M)
theorem pP_Set_st.go (w0 : World) (p : Option Addr) (r_0 : Int) (r_1 : Int) (v_0 : Int) (v_1 : Int) (v_2 : Int) {R : VP} {M : Mem} (h : pP_Set_st.T (std PP w0) p r_0 r_1 v_0 v_1 v_2 R M) : C PP w0 Id.pP_Set_st #[.pointer p, .agg #[.int .i64 r_0, .int .i64 r_1], .agg #[.int .i64 v_0, .int .i64 v_1, .int .i64 v_2]] R M :=
  goG mixed (h := pP_Set_st.h) (T := fun pr pts => pP_Set_st.T pr p r_0 r_1 v_0 v_1 v_2 R M) Tryz.func168 (aC_ _ _) (by kernel_rfl) (fun pr pts => by kernel_rfl) fun _ _ => h
noncomputable def pP_Give_sh.h : HC := annot (bd Tryz.f169) []
def pP_Give_sh.T (pr : Prim) (p : Option Addr) (r_0 : Int) (r_1 : Int) (R : VP) (M : Mem) : Prop := nfz pr (fun _ _ _ _ => False) R (gX PP pP_Give_sh.h [] [] (gR Tryz.f169) [(0, .ptr (.v p)), (1, .agg [.int .i64 (.v r_0), .int .i64 (.v r_1)])] M)
theorem pP_Give_sh.go (w0 : World) (p : Option Addr) (r_0 : Int) (r_1 : Int) {R : VP} {M : Mem} (h : pP_Give_sh.T (std PP w0) p r_0 r_1 R M) : C PP w0 Id.pP_Give_sh #[.pointer p, .agg #[.int .i64 r_0, .int .i64 r_1]] R M :=
  goG mixed (h := pP_Give_sh.h) (T := fun pr pts => pP_Give_sh.T pr p r_0 r_1 R M) Tryz.func169 (aC_ _ _) (by kernel_rfl) (fun pr pts => by kernel_rfl) fun _ _ => h
noncomputable def le_Meld.h : HC := annot (bd Tryz.f170) []
def le_Meld.T (pr : Prim) (a : Option Addr) (r : Int) (s : Int) (R : VP) (M : Mem) : Prop := nfz pr (fun _ _ _ _ => False) R (gX PP le_Meld.h [] [] (gR Tryz.f170) [(0, .ptr (.v a)), (1, .int .i64 (.v r)), (2, .int .i64 (.v s))] M)
theorem le_Meld.go (w0 : World) (a : Option Addr) (r : Int) (s : Int) {R : VP} {M : Mem} (h : le_Meld.T (std PP w0) a r s R M) : C PP w0 Id.le_Meld #[.pointer a, .int .i64 r, .int .i64 s] R M :=
  goG mixed (h := le_Meld.h) (T := fun pr pts => le_Meld.T pr a r s R M) Tryz.func170 (aC_ _ _) (by kernel_rfl) (fun pr pts => by kernel_rfl) fun _ _ => h
noncomputable def bi_Meld.h : HC := annot (bd Tryz.f171) []
def bi_Meld.T (pr : Prim) (a : Option Addr) (r : Int) (s : Int) (R : VP) (M : Mem) : Prop := nfz pr (fun _ _ _ _ => False) R (gX PP bi_Meld.h [] [] (gR Tryz.f171) [(0, .ptr (.v a)), (1, .int .i64 (.v r)), (2, .int .i64 (.v s))] M)
theorem bi_Meld.go (w0 : World) (a : Option Addr) (r : Int) (s : Int) {R : VP} {M : Mem} (h : bi_Meld.T (std PP w0) a r s R M) : C PP w0 Id.bi_Meld #[.pointer a, .int .i64 r, .int .i64 s] R M :=
  goG mixed (h := bi_Meld.h) (T := fun pr pts => bi_Meld.T pr a r s R M) Tryz.func171 (aC_ _ _) (by kernel_rfl) (fun pr pts => by kernel_rfl) fun _ _ => h
noncomputable def skew_Meld.h : HC := annot (bd Tryz.f172) []
def skew_Meld.T (pr : Prim) (a : Option Addr) (r : Int) (s : Int) (R : VP) (M : Mem) : Prop := nfz pr (fun _ _ _ _ => False) R (gX PP skew_Meld.h [] [] (gR Tryz.f172) [(0, .ptr (.v a)), (1, .int .i64 (.v r)), (2, .int .i64 (.v s))] M)
theorem skew_Meld.go (w0 : World) (a : Option Addr) (r : Int) (s : Int) {R : VP} {M : Mem} (h : skew_Meld.T (std PP w0) a r s R M) : C PP w0 Id.skew_Meld #[.pointer a, .int .i64 r, .int .i64 s] R M :=
  goG mixed (h := skew_Meld.h) (T := fun pr pts => skew_Meld.T pr a r s R M) Tryz.func172 (aC_ _ _) (by kernel_rfl) (fun pr pts => by kernel_rfl) fun _ _ => h
noncomputable def pP_find_sh.h : HC := annot (bd Tryz.f175) [([true], [0, 3])]
def pP_find_sh.Is (pr : Prim) (pts : Pts) (R : VP) : Prop := IsG PP pr pts pP_find_sh.h Tryz.f175 R
abbrev pP_find_sh.J1 (pts : Pts) (p_0 : Option Addr) (r_3 : Addr) (M : Mem) : Prop := pts [true, true] [] [(0, .pointer p_0), (3, .pointer (some r_3))] M
def pP_find_sh.J1.T (pr : Prim) (pts : Pts) (p_0 : Option Addr) (r_3 : Addr) (R : VP) (M : Mem) : Prop := nfz pr pts R (gbody PP pP_find_sh.h (gR Tryz.f175) [true, true] [] [(0, .ptr (.v p_0)), (3, .ptr (.a (.v r_3)))] M)
theorem pP_find_sh.Is.J1 {pr : Prim} {pts : Pts} {R : VP} (H : pP_find_sh.Is pr pts R) (p_0 : Option Addr) (r_3 : Addr) (M : Mem) : pP_find_sh.J1 pts p_0 r_3 M = pP_find_sh.J1.T pr pts p_0 r_3 R M := (H _ _ _ _ _ rfl).trans (by kernel_rfl)
def pP_find_sh.T (pr : Prim) (pts : Pts) (p : Option Addr) (r_0 : Int) (r_1 : Int) (R : VP) (M : Mem) : Prop := nfz pr pts R (gX PP pP_find_sh.h [] [] (gR Tryz.f175) [(0, .ptr (.v p)), (1, .agg [.int .i64 (.v r_0), .int .i64 (.v r_1)])] M)
theorem pP_find_sh.go (w0 : World) (p : Option Addr) (r_0 : Int) (r_1 : Int) {R : VP} {M : Mem} (h : ∀ pts, pP_find_sh.Is (std PP w0) pts R → pP_find_sh.T (std PP w0) pts p r_0 r_1 R M) : C PP w0 Id.pP_find_sh #[.pointer p, .agg #[.int .i64 r_0, .int .i64 r_1]] R M :=
  goG mixed (h := pP_find_sh.h) (T := fun pr pts => pP_find_sh.T pr pts p r_0 r_1 R M) Tryz.func175 (aC_ _ _) (by kernel_rfl) (fun pr pts => by kernel_rfl) h
noncomputable def pP_All_st.h : HC := annot (bd Tryz.f181) [([true, true, false, true, false], [3, 9, 10, 11])]
def pP_All_st.Is (pr : Prim) (pts : Pts) (R : VP) : Prop := IsG PP pr pts pP_All_st.h Tryz.f181 R
abbrev pP_All_st.L1 (pts : Pts) (k : Nat) (out_3 : SV) (t9 : SV) (t10 : Int) (t11 : Int) (M : Mem) : Prop := pts [false, false, true, false, true, true] [k] [(3, SV.v out_3), (9, SV.v t9), (10, .int .i64 t10), (11, .int .i64 t11)] M
def pP_All_st.L1.T (pr : Prim) (pts : Pts) (k : Nat) (out_3 : SV) (t9 : SV) (t10 : Int) (t11 : Int) (R : VP) (M : Mem) : Prop := nfz pr pts R (gbody PP pP_All_st.h (gR Tryz.f181) [false, false, true, false, true, true] [k] [(3, .sv out_3), (9, .sv t9), (10, .int .i64 (.v t10)), (11, .int .i64 (.v t11))] M)
theorem pP_All_st.Is.L1 {pr : Prim} {pts : Pts} {R : VP} (H : pP_All_st.Is pr pts R) (k : Nat) (out_3 : SV) (t9 : SV) (t10 : Int) (t11 : Int) (M : Mem) : pP_All_st.L1 pts (k + 1) out_3 t9 t10 t11 M = pP_All_st.L1.T pr pts k out_3 t9 t10 t11 R M := (H _ _ _ _ _ rfl).trans (by kernel_rfl)
def pP_All_st.T (pr : Prim) (pts : Pts) (p : Option Addr) (R : VP) (M : Mem) : Prop := nfz pr pts R (gX PP pP_All_st.h [] [] (gR Tryz.f181) [(0, .ptr (.v p))] M)
theorem pP_All_st.go (w0 : World) (p : Option Addr) {R : VP} {M : Mem} (h : ∀ pts, pP_All_st.Is (std PP w0) pts R → pP_All_st.T (std PP w0) pts p R M) : C PP w0 Id.pP_All_st #[.pointer p] R M :=
  goG mixed (h := pP_All_st.h) (T := fun pr pts => pP_All_st.T pr pts p R M) Tryz.func181 (aC_ _ _) (by kernel_rfl) (fun pr pts => by kernel_rfl) h
noncomputable def order_Bits.h : HC := annot (bd Tryz.f183) []
def order_Bits.T (pr : Prim) (n : Int) (R : VP) (M : Mem) : Prop := nfz pr (fun _ _ _ _ => False) R (gX PP order_Bits.h [] [] (gR Tryz.f183) [(0, .int .i64 (.v n))] M)
theorem order_Bits.go (w0 : World) (n : Int) {R : VP} {M : Mem} (h : order_Bits.T (std PP w0) n R M) : C PP w0 Id.order_Bits #[.int .i64 n] R M :=
  goG mixed (h := order_Bits.h) (T := fun pr pts => order_Bits.T pr n R M) Tryz.func183 (aC_ _ _) (by kernel_rfl) (fun pr pts => by kernel_rfl) fun _ _ => h
noncomputable def jT_Add.h : HC := annot (bd Tryz.f184) []
def jT_Add.T (pr : Prim) (t : Option Addr) (j_0 : Int) (j_1 : Int) (j_2 : Int) (j_3 : Int) (j_4 : Int) (R : VP) (M : Mem) : Prop := nfz pr (fun _ _ _ _ => False) R (gX PP jT_Add.h [] [] (gR Tryz.f184) [(0, .ptr (.v t)), (1, .agg [.int .i64 (.v j_0), .int .i64 (.v j_1), .int .i64 (.v j_2), .int .i64 (.v j_3), .int .i64 (.v j_4)])] M)
theorem jT_Add.go (w0 : World) (t : Option Addr) (j_0 : Int) (j_1 : Int) (j_2 : Int) (j_3 : Int) (j_4 : Int) {R : VP} {M : Mem} (h : jT_Add.T (std PP w0) t j_0 j_1 j_2 j_3 j_4 R M) : C PP w0 Id.jT_Add #[.pointer t, .agg #[.int .i64 j_0, .int .i64 j_1, .int .i64 j_2, .int .i64 j_3, .int .i64 j_4]] R M :=
  goG mixed (h := jT_Add.h) (T := fun pr pts => jT_Add.T pr t j_0 j_1 j_2 j_3 j_4 R M) Tryz.func184 (aC_ _ _) (by kernel_rfl) (fun pr pts => by kernel_rfl) fun _ _ => h
noncomputable def dispatch_told.h : HC := annot (bd Tryz.f185) []
def dispatch_told.T (pr : Prim) (j_0 : Int) (j_1 : Int) (j_2 : Int) (j_3 : Int) (j_4 : Int) (R : VP) (M : Mem) : Prop := nfz pr (fun _ _ _ _ => False) R (gX PP dispatch_told.h [] [] (gR Tryz.f185) [(0, .agg [.int .i64 (.v j_0), .int .i64 (.v j_1), .int .i64 (.v j_2), .int .i64 (.v j_3), .int .i64 (.v j_4)])] M)
theorem dispatch_told.go (w0 : World) (j_0 : Int) (j_1 : Int) (j_2 : Int) (j_3 : Int) (j_4 : Int) {R : VP} {M : Mem} (h : dispatch_told.T (std PP w0) j_0 j_1 j_2 j_3 j_4 R M) : C PP w0 Id.dispatch_told #[.agg #[.int .i64 j_0, .int .i64 j_1, .int .i64 j_2, .int .i64 j_3, .int .i64 j_4]] R M :=
  goG mixed (h := dispatch_told.h) (T := fun pr pts => dispatch_told.T pr j_0 j_1 j_2 j_3 j_4 R M) Tryz.func185 (aC_ _ _) (by kernel_rfl) (fun pr pts => by kernel_rfl) fun _ _ => h
noncomputable def jT_Set.h : HC := annot (bd Tryz.f186) [([true, true, true], [0, 4, 5, 7])]
def jT_Set.Is (pr : Prim) (pts : Pts) (R : VP) : Prop := IsG PP pr pts jT_Set.h Tryz.f186 R
abbrev jT_Set.J1 (pts : Pts) (t_0 : Option Addr) (r_4 : Addr) (j_5 : Addr) (was_7 : Addr) (M : Mem) : Prop := pts [true, true, true, true] [] [(0, .pointer t_0), (4, .pointer (some r_4)), (5, .pointer (some j_5)), (7, .pointer (some was_7))] M
def jT_Set.J1.T (pr : Prim) (pts : Pts) (t_0 : Option Addr) (r_4 : Addr) (j_5 : Addr) (was_7 : Addr) (R : VP) (M : Mem) : Prop := nfz pr pts R (gbody PP jT_Set.h (gR Tryz.f186) [true, true, true, true] [] [(0, .ptr (.v t_0)), (4, .ptr (.a (.v r_4))), (5, .ptr (.a (.v j_5))), (7, .ptr (.a (.v was_7)))] M)
theorem jT_Set.Is.J1 {pr : Prim} {pts : Pts} {R : VP} (H : jT_Set.Is pr pts R) (t_0 : Option Addr) (r_4 : Addr) (j_5 : Addr) (was_7 : Addr) (M : Mem) : jT_Set.J1 pts t_0 r_4 j_5 was_7 M = jT_Set.J1.T pr pts t_0 r_4 j_5 was_7 R M := (H _ _ _ _ _ rfl).trans (by kernel_rfl)
def jT_Set.T (pr : Prim) (pts : Pts) (t : Option Addr) (r_0 : Int) (r_1 : Int) (j_0 : Int) (j_1 : Int) (j_2 : Int) (j_3 : Int) (j_4 : Int) (R : VP) (M : Mem) : Prop := nfz pr pts R (gX PP jT_Set.h [] [] (gR Tryz.f186) [(0, .ptr (.v t)), (1, .agg [.int .i64 (.v r_0), .int .i64 (.v r_1)]), (2, .agg [.int .i64 (.v j_0), .int .i64 (.v j_1), .int .i64 (.v j_2), .int .i64 (.v j_3), .int .i64 (.v j_4)])] M)
theorem jT_Set.go (w0 : World) (t : Option Addr) (r_0 : Int) (r_1 : Int) (j_0 : Int) (j_1 : Int) (j_2 : Int) (j_3 : Int) (j_4 : Int) {R : VP} {M : Mem} (h : ∀ pts, jT_Set.Is (std PP w0) pts R → jT_Set.T (std PP w0) pts t r_0 r_1 j_0 j_1 j_2 j_3 j_4 R M) : C PP w0 Id.jT_Set #[.pointer t, .agg #[.int .i64 r_0, .int .i64 r_1], .agg #[.int .i64 j_0, .int .i64 j_1, .int .i64 j_2, .int .i64 j_3, .int .i64 j_4]] R M :=
  goG mixed (h := jT_Set.h) (T := fun pr pts => jT_Set.T pr pts t r_0 r_1 j_0 j_1 j_2 j_3 j_4 R M) Tryz.func186 (aC_ _ _) (by kernel_rfl) (fun pr pts => by kernel_rfl) h
noncomputable def dD_gone.h : HC := annot (bd Tryz.f187) []
def dD_gone.T (pr : Prim) (d : Option Addr) (r_0 : Int) (r_1 : Int) (R : VP) (M : Mem) : Prop := nfz pr (fun _ _ _ _ => False) R (gX PP dD_gone.h [] [] (gR Tryz.f187) [(0, .ptr (.v d)), (1, .agg [.int .i64 (.v r_0), .int .i64 (.v r_1)])] M)
theorem dD_gone.go (w0 : World) (d : Option Addr) (r_0 : Int) (r_1 : Int) {R : VP} {M : Mem} (h : dD_gone.T (std PP w0) d r_0 r_1 R M) : C PP w0 Id.dD_gone #[.pointer d, .agg #[.int .i64 r_0, .int .i64 r_1]] R M :=
  goG mixed (h := dD_gone.h) (T := fun pr pts => dD_gone.T pr d r_0 r_1 R M) Tryz.func187 (aC_ _ _) (by kernel_rfl) (fun pr pts => by kernel_rfl) fun _ _ => h
noncomputable def clock_Clock_Due.h : HC := annot (bd Tryz.f188) []
def clock_Clock_Due.T (pr : Prim) (c : Option Addr) (at_1 : Int) (R : VP) (M : Mem) : Prop := nfz pr (fun _ _ _ _ => False) R (gX PP clock_Clock_Due.h [] [] (gR Tryz.f188) [(0, .ptr (.v c)), (1, .int .i64 (.v at_1))] M)
theorem clock_Clock_Due.go (w0 : World) (c : Option Addr) (at_1 : Int) {R : VP} {M : Mem} (h : clock_Clock_Due.T (std PP w0) c at_1 R M) : C PP w0 Id.clock_Clock_Due #[.pointer c, .int .i64 at_1] R M :=
  goG mixed (h := clock_Clock_Due.h) (T := fun pr pts => clock_Clock_Due.T pr c at_1 R M) Tryz.func188 (aC_ _ _) (by kernel_rfl) (fun pr pts => by kernel_rfl) fun _ _ => h
noncomputable def jT_By.h : HC := annot (bd Tryz.f189) []
def jT_By.T (pr : Prim) (t : Option Addr) (item_0 : Int) (item_1 : Int) (R : VP) (M : Mem) : Prop := nfz pr (fun _ _ _ _ => False) R (gX PP jT_By.h [] [] (gR Tryz.f189) [(0, .ptr (.v t)), (1, .agg [.int .i64 (.v item_0), .int .i64 (.v item_1)])] M)
theorem jT_By.go (w0 : World) (t : Option Addr) (item_0 : Int) (item_1 : Int) {R : VP} {M : Mem} (h : jT_By.T (std PP w0) t item_0 item_1 R M) : C PP w0 Id.jT_By #[.pointer t, .agg #[.int .i64 item_0, .int .i64 item_1]] R M :=
  goG mixed (h := jT_By.h) (T := fun pr pts => jT_By.T pr t item_0 item_1 R M) Tryz.func189 (aC_ _ _) (by kernel_rfl) (fun pr pts => by kernel_rfl) fun _ _ => h
noncomputable def jT_Move.h : HC := annot (bd Tryz.f190) [([true, true, false, true, false], [0, 1, 2, 7, 16, 17, 18])]
def jT_Move.Is (pr : Prim) (pts : Pts) (R : VP) : Prop := IsG PP pr pts jT_Move.h Tryz.f190 R
abbrev jT_Move.L1 (pts : Pts) (k : Nat) (t_0 : Option Addr) (from_1 : Int) (to_2 : Int) (n_7 : Int) (t16 : SV) (t17 : Int) (t18 : Int) (M : Mem) : Prop := pts [false, false, true, false, true, true] [k] [(0, .pointer t_0), (1, .int .i64 from_1), (2, .int .i64 to_2), (7, .int .i64 n_7), (16, SV.v t16), (17, .int .i64 t17), (18, .int .i64 t18)] M
def jT_Move.L1.T (pr : Prim) (pts : Pts) (k : Nat) (t_0 : Option Addr) (from_1 : Int) (to_2 : Int) (n_7 : Int) (t16 : SV) (t17 : Int) (t18 : Int) (R : VP) (M : Mem) : Prop := nfz pr pts R (gbody PP jT_Move.h (gR Tryz.f190) [false, false, true, false, true, true] [k] [(0, .ptr (.v t_0)), (1, .int .i64 (.v from_1)), (2, .int .i64 (.v to_2)), (7, .int .i64 (.v n_7)), (16, .sv t16), (17, .int .i64 (.v t17)), (18, .int .i64 (.v t18))] M)
theorem jT_Move.Is.L1 {pr : Prim} {pts : Pts} {R : VP} (H : jT_Move.Is pr pts R) (k : Nat) (t_0 : Option Addr) (from_1 : Int) (to_2 : Int) (n_7 : Int) (t16 : SV) (t17 : Int) (t18 : Int) (M : Mem) : jT_Move.L1 pts (k + 1) t_0 from_1 to_2 n_7 t16 t17 t18 M = jT_Move.L1.T pr pts k t_0 from_1 to_2 n_7 t16 t17 t18 R M := (H _ _ _ _ _ rfl).trans (by kernel_rfl)
def jT_Move.T (pr : Prim) (pts : Pts) (t : Option Addr) (from_1 : Int) (to : Int) (R : VP) (M : Mem) : Prop := nfz pr pts R (gX PP jT_Move.h [] [] (gR Tryz.f190) [(0, .ptr (.v t)), (1, .int .i64 (.v from_1)), (2, .int .i64 (.v to))] M)
theorem jT_Move.go (w0 : World) (t : Option Addr) (from_1 : Int) (to : Int) {R : VP} {M : Mem} (h : ∀ pts, jT_Move.Is (std PP w0) pts R → jT_Move.T (std PP w0) pts t from_1 to R M) : C PP w0 Id.jT_Move #[.pointer t, .int .i64 from_1, .int .i64 to] R M :=
  goG mixed (h := jT_Move.h) (T := fun pr pts => jT_Move.T pr pts t from_1 to R M) Tryz.func190 (aC_ _ _) (by kernel_rfl) (fun pr pts => by kernel_rfl) h
noncomputable def pP_find_jj.h : HC := annot (bd Tryz.f191) [([true], [0, 3])]
def pP_find_jj.Is (pr : Prim) (pts : Pts) (R : VP) : Prop := IsG PP pr pts pP_find_jj.h Tryz.f191 R
abbrev pP_find_jj.J1 (pts : Pts) (p_0 : Option Addr) (r_3 : Addr) (M : Mem) : Prop := pts [true, true] [] [(0, .pointer p_0), (3, .pointer (some r_3))] M
def pP_find_jj.J1.T (pr : Prim) (pts : Pts) (p_0 : Option Addr) (r_3 : Addr) (R : VP) (M : Mem) : Prop := nfz pr pts R (gbody PP pP_find_jj.h (gR Tryz.f191) [true, true] [] [(0, .ptr (.v p_0)), (3, .ptr (.a (.v r_3)))] M)
theorem pP_find_jj.Is.J1 {pr : Prim} {pts : Pts} {R : VP} (H : pP_find_jj.Is pr pts R) (p_0 : Option Addr) (r_3 : Addr) (M : Mem) : pP_find_jj.J1 pts p_0 r_3 M = pP_find_jj.J1.T pr pts p_0 r_3 R M := (H _ _ _ _ _ rfl).trans (by kernel_rfl)
def pP_find_jj.T (pr : Prim) (pts : Pts) (p : Option Addr) (r_0 : Int) (r_1 : Int) (R : VP) (M : Mem) : Prop := nfz pr pts R (gX PP pP_find_jj.h [] [] (gR Tryz.f191) [(0, .ptr (.v p)), (1, .agg [.int .i64 (.v r_0), .int .i64 (.v r_1)])] M)
theorem pP_find_jj.go (w0 : World) (p : Option Addr) (r_0 : Int) (r_1 : Int) {R : VP} {M : Mem} (h : ∀ pts, pP_find_jj.Is (std PP w0) pts R → pP_find_jj.T (std PP w0) pts p r_0 r_1 R M) : C PP w0 Id.pP_find_jj #[.pointer p, .agg #[.int .i64 r_0, .int .i64 r_1]] R M :=
  goG mixed (h := pP_find_jj.h) (T := fun pr pts => pP_find_jj.T pr pts p r_0 r_1 R M) Tryz.func191 (aC_ _ _) (by kernel_rfl) (fun pr pts => by kernel_rfl) h
noncomputable def cmp_Or_int.h : HC := annot (bd Tryz.f193) [([true, true, false, true, false], [3, 6, 7, 8])]
def cmp_Or_int.Is (pr : Prim) (pts : Pts) (R : VP) : Prop := IsG PP pr pts cmp_Or_int.h Tryz.f193 R
abbrev cmp_Or_int.L1 (pts : Pts) (k : Nat) (zero_3 : Int) (t6 : SV) (t7 : Int) (t8 : Int) (M : Mem) : Prop := pts [false, false, true, false, true, true] [k] [(3, .int .i64 zero_3), (6, SV.v t6), (7, .int .i64 t7), (8, .int .i64 t8)] M
def cmp_Or_int.L1.T (pr : Prim) (pts : Pts) (k : Nat) (zero_3 : Int) (t6 : SV) (t7 : Int) (t8 : Int) (R : VP) (M : Mem) : Prop := nfz pr pts R (gbody PP cmp_Or_int.h (gR Tryz.f193) [false, false, true, false, true, true] [k] [(3, .int .i64 (.v zero_3)), (6, .sv t6), (7, .int .i64 (.v t7)), (8, .int .i64 (.v t8))] M)
theorem cmp_Or_int.Is.L1 {pr : Prim} {pts : Pts} {R : VP} (H : cmp_Or_int.Is pr pts R) (k : Nat) (zero_3 : Int) (t6 : SV) (t7 : Int) (t8 : Int) (M : Mem) : cmp_Or_int.L1 pts (k + 1) zero_3 t6 t7 t8 M = cmp_Or_int.L1.T pr pts k zero_3 t6 t7 t8 R M := (H _ _ _ _ _ rfl).trans (by kernel_rfl)
def cmp_Or_int.T (pr : Prim) (pts : Pts) (vals : SV) (R : VP) (M : Mem) : Prop := nfz pr pts R (gX PP cmp_Or_int.h [] [] (gR Tryz.f193) [(0, .sv vals)] M)
theorem cmp_Or_int.go (w0 : World) (vals : SV) {R : VP} {M : Mem} (h : ∀ pts, cmp_Or_int.Is (std PP w0) pts R → cmp_Or_int.T (std PP w0) pts vals R M) : C PP w0 Id.cmp_Or_int #[SV.v vals] R M :=
  goG mixed (h := cmp_Or_int.h) (T := fun pr pts => cmp_Or_int.T pr pts vals R M) Tryz.func193 (aC_ _ _) (by kernel_rfl) (fun pr pts => by kernel_rfl) h
noncomputable def cmp_Compare_int64.h : HC := annot (bd Tryz.f194) []
def cmp_Compare_int64.T (pr : Prim) (x : Int) (y : Int) (R : VP) (M : Mem) : Prop := nfz pr (fun _ _ _ _ => False) R (gX PP cmp_Compare_int64.h [] [] (gR Tryz.f194) [(0, .int .i64 (.v x)), (1, .int .i64 (.v y))] M)
theorem cmp_Compare_int64.go (w0 : World) (x : Int) (y : Int) {R : VP} {M : Mem} (h : cmp_Compare_int64.T (std PP w0) x y R M) : C PP w0 Id.cmp_Compare_int64 #[.int .i64 x, .int .i64 y] R M :=
  goG mixed (h := cmp_Compare_int64.h) (T := fun pr pts => cmp_Compare_int64.T pr x y R M) Tryz.func194 (aC_ _ _) (by kernel_rfl) (fun pr pts => by kernel_rfl) fun _ _ => h
noncomputable def mM_Tick.h : HC := annot (bd Tryz.f195) []
def mM_Tick.T (pr : Prim) (m : Option Addr) (n : Int) (R : VP) (M : Mem) : Prop := nfz pr (fun _ _ _ _ => False) R (gX PP mM_Tick.h [] [] (gR Tryz.f195) [(0, .ptr (.v m)), (1, .int .i64 (.v n))] M)
theorem mM_Tick.go (w0 : World) (m : Option Addr) (n : Int) {R : VP} {M : Mem} (h : mM_Tick.T (std PP w0) m n R M) : C PP w0 Id.mM_Tick #[.pointer m, .int .i64 n] R M :=
  goG mixed (h := mM_Tick.h) (T := fun pr pts => mM_Tick.T pr m n R M) Tryz.func195 (aC_ _ _) (by kernel_rfl) (fun pr pts => by kernel_rfl) fun _ _ => h
noncomputable def arena_fresh.h : HC := annot (bd Tryz.f196) [([true, true, false, true, false], [0, 1, 5, 6, 7])]
def arena_fresh.Is (pr : Prim) (pts : Pts) (R : VP) : Prop := IsG PP pr pts arena_fresh.h Tryz.f196 R
abbrev arena_fresh.L1 (pts : Pts) (k : Nat) (t0 : Addr) (x_1 : Addr) (t5 : SV) (t6 : Int) (t7 : Int) (M : Mem) : Prop := pts [false, false, true, false, true, true] [k] [(0, .pointer (some t0)), (1, .pointer (some x_1)), (5, SV.v t5), (6, .int .i64 t6), (7, .int .i64 t7)] M
def arena_fresh.L1.T (pr : Prim) (pts : Pts) (k : Nat) (t0 : Addr) (x_1 : Addr) (t5 : SV) (t6 : Int) (t7 : Int) (R : VP) (M : Mem) : Prop := nfz pr pts R (gbody PP arena_fresh.h (gR Tryz.f196) [false, false, true, false, true, true] [k] [(0, .ptr (.a (.v t0))), (1, .ptr (.a (.v x_1))), (5, .sv t5), (6, .int .i64 (.v t6)), (7, .int .i64 (.v t7))] M)
theorem arena_fresh.Is.L1 {pr : Prim} {pts : Pts} {R : VP} (H : arena_fresh.Is pr pts R) (k : Nat) (t0 : Addr) (x_1 : Addr) (t5 : SV) (t6 : Int) (t7 : Int) (M : Mem) : arena_fresh.L1 pts (k + 1) t0 x_1 t5 t6 t7 M = arena_fresh.L1.T pr pts k t0 x_1 t5 t6 t7 R M := (H _ _ _ _ _ rfl).trans (by kernel_rfl)
def arena_fresh.T (pr : Prim) (pts : Pts) (R : VP) (M : Mem) : Prop := nfz pr pts R (gX PP arena_fresh.h [] [] (gR Tryz.f196) [] M)
theorem arena_fresh.go (w0 : World) {R : VP} {M : Mem} (h : ∀ pts, arena_fresh.Is (std PP w0) pts R → arena_fresh.T (std PP w0) pts R M) : C PP w0 Id.arena_fresh #[] R M :=
  goG mixed (h := arena_fresh.h) (T := fun pr pts => arena_fresh.T pr pts R M) Tryz.func196 (aC_ _ _) (by kernel_rfl) (fun pr pts => by kernel_rfl) h
noncomputable def aA_has.h : HC := annot (bd Tryz.f197) []
def aA_has.T (pr : Prim) (a : Option Addr) (c : Int) (field : Int) (R : VP) (M : Mem) : Prop := nfz pr (fun _ _ _ _ => False) R (gX PP aA_has.h [] [] (gR Tryz.f197) [(0, .ptr (.v a)), (1, .int .i64 (.v c)), (2, .int .i64 (.v field))] M)
theorem aA_has.go (w0 : World) (a : Option Addr) (c : Int) (field : Int) {R : VP} {M : Mem} (h : aA_has.T (std PP w0) a c field R M) : C PP w0 Id.aA_has #[.pointer a, .int .i64 c, .int .i64 field] R M :=
  goG mixed (h := aA_has.h) (T := fun pr pts => aA_has.T pr a c field R M) Tryz.func197 (aC_ _ _) (by kernel_rfl) (fun pr pts => by kernel_rfl) fun _ _ => h
noncomputable def node_New.h : HC := annot (bd Tryz.f198) []
def node_New.T (pr : Prim) (a : Option Addr) (i : Int) (R : VP) (M : Mem) : Prop := nfz pr (fun _ _ _ _ => False) R (gX PP node_New.h [] [] (gR Tryz.f198) [(0, .ptr (.v a)), (1, .int .i64 (.v i))] M)
theorem node_New.go (w0 : World) (a : Option Addr) (i : Int) {R : VP} {M : Mem} (h : node_New.T (std PP w0) a i R M) : C PP w0 Id.node_New #[.pointer a, .int .i64 i] R M :=
  goG mixed (h := node_New.h) (T := fun pr pts => node_New.T pr a i R M) Tryz.func198 (aC_ _ _) (by kernel_rfl) (fun pr pts => by kernel_rfl) fun _ _ => h
noncomputable def le_meld.h : HC := annot (bd Tryz.f199) [([true, true, true], [0, 1, 2, 7]), ([true, true, true, false, false], [0, 1, 2, 7]), ([true, true, true, false, false, false], [0, 1, 2, 7]), ([true, true, true, false, false, false, true, false], [0, 1, 2, 7]), ([true, true, true, true, true, false, true, false], [0, 7, 8, 9])]
def le_meld.Is (pr : Prim) (pts : Pts) (R : VP) : Prop := IsG PP pr pts le_meld.h Tryz.f199 R
abbrev le_meld.J1 (pts : Pts) (a_0 : Option Addr) (r_1 : Int) (s_2 : Int) (path_7 : SV) (M : Mem) : Prop := pts [true, true, true, true] [] [(0, .pointer a_0), (1, .int .i64 r_1), (2, .int .i64 s_2), (7, SV.v path_7)] M
def le_meld.J1.T (pr : Prim) (pts : Pts) (a_0 : Option Addr) (r_1 : Int) (s_2 : Int) (path_7 : SV) (R : VP) (M : Mem) : Prop := nfz pr pts R (gbody PP le_meld.h (gR Tryz.f199) [true, true, true, true] [] [(0, .ptr (.v a_0)), (1, .int .i64 (.v r_1)), (2, .int .i64 (.v s_2)), (7, .sv path_7)] M)
theorem le_meld.Is.J1 {pr : Prim} {pts : Pts} {R : VP} (H : le_meld.Is pr pts R) (a_0 : Option Addr) (r_1 : Int) (s_2 : Int) (path_7 : SV) (M : Mem) : le_meld.J1 pts a_0 r_1 s_2 path_7 M = le_meld.J1.T pr pts a_0 r_1 s_2 path_7 R M := (H _ _ _ _ _ rfl).trans (by kernel_rfl)
abbrev le_meld.L2 (pts : Pts) (k : Nat) (a_0 : Option Addr) (r_1 : Int) (s_2 : Int) (path_7 : SV) (M : Mem) : Prop := pts [false, false, false, true, true, true] [k] [(0, .pointer a_0), (1, .int .i64 r_1), (2, .int .i64 s_2), (7, SV.v path_7)] M
def le_meld.L2.T (pr : Prim) (pts : Pts) (k : Nat) (a_0 : Option Addr) (r_1 : Int) (s_2 : Int) (path_7 : SV) (R : VP) (M : Mem) : Prop := nfz pr pts R (gbody PP le_meld.h (gR Tryz.f199) [false, false, false, true, true, true] [k] [(0, .ptr (.v a_0)), (1, .int .i64 (.v r_1)), (2, .int .i64 (.v s_2)), (7, .sv path_7)] M)
theorem le_meld.Is.L2 {pr : Prim} {pts : Pts} {R : VP} (H : le_meld.Is pr pts R) (k : Nat) (a_0 : Option Addr) (r_1 : Int) (s_2 : Int) (path_7 : SV) (M : Mem) : le_meld.L2 pts (k + 1) a_0 r_1 s_2 path_7 M = le_meld.L2.T pr pts k a_0 r_1 s_2 path_7 R M := (H _ _ _ _ _ rfl).trans (by kernel_rfl)
abbrev le_meld.L3 (pts : Pts) (k : Nat) (a_0 : Option Addr) (path_7 : SV) (top_8 : Int) (k_9 : Int) (M : Mem) : Prop := pts [false, false, true, false, true, true, true, true, true] [k] [(0, .pointer a_0), (7, SV.v path_7), (8, .int .i64 top_8), (9, .int .i64 k_9)] M
def le_meld.L3.T (pr : Prim) (pts : Pts) (k : Nat) (a_0 : Option Addr) (path_7 : SV) (top_8 : Int) (k_9 : Int) (R : VP) (M : Mem) : Prop := nfz pr pts R (gbody PP le_meld.h (gR Tryz.f199) [false, false, true, false, true, true, true, true, true] [k] [(0, .ptr (.v a_0)), (7, .sv path_7), (8, .int .i64 (.v top_8)), (9, .int .i64 (.v k_9))] M)
theorem le_meld.Is.L3 {pr : Prim} {pts : Pts} {R : VP} (H : le_meld.Is pr pts R) (k : Nat) (a_0 : Option Addr) (path_7 : SV) (top_8 : Int) (k_9 : Int) (M : Mem) : le_meld.L3 pts (k + 1) a_0 path_7 top_8 k_9 M = le_meld.L3.T pr pts k a_0 path_7 top_8 k_9 R M := (H _ _ _ _ _ rfl).trans (by kernel_rfl)
abbrev le_meld.J4 (pts : Pts) (k : Nat) (a_0 : Option Addr) (r_1 : Int) (s_2 : Int) (path_7 : SV) (M : Mem) : Prop := pts [true, false, false, false, true, true, true] [k] [(0, .pointer a_0), (1, .int .i64 r_1), (2, .int .i64 s_2), (7, SV.v path_7)] M
def le_meld.J4.T (pr : Prim) (pts : Pts) (k : Nat) (a_0 : Option Addr) (r_1 : Int) (s_2 : Int) (path_7 : SV) (R : VP) (M : Mem) : Prop := nfz pr pts R (gbody PP le_meld.h (gR Tryz.f199) [true, false, false, false, true, true, true] [k] [(0, .ptr (.v a_0)), (1, .int .i64 (.v r_1)), (2, .int .i64 (.v s_2)), (7, .sv path_7)] M)
theorem le_meld.Is.J4 {pr : Prim} {pts : Pts} {R : VP} (H : le_meld.Is pr pts R) (k : Nat) (a_0 : Option Addr) (r_1 : Int) (s_2 : Int) (path_7 : SV) (M : Mem) : le_meld.J4 pts k a_0 r_1 s_2 path_7 M = le_meld.J4.T pr pts k a_0 r_1 s_2 path_7 R M := (H _ _ _ _ _ rfl).trans (by kernel_rfl)
abbrev le_meld.J5 (pts : Pts) (k : Nat) (a_0 : Option Addr) (r_1 : Int) (s_2 : Int) (path_7 : SV) (M : Mem) : Prop := pts [true, false, true, false, false, false, true, true, true] [k] [(0, .pointer a_0), (1, .int .i64 r_1), (2, .int .i64 s_2), (7, SV.v path_7)] M
def le_meld.J5.T (pr : Prim) (pts : Pts) (k : Nat) (a_0 : Option Addr) (r_1 : Int) (s_2 : Int) (path_7 : SV) (R : VP) (M : Mem) : Prop := nfz pr pts R (gbody PP le_meld.h (gR Tryz.f199) [true, false, true, false, false, false, true, true, true] [k] [(0, .ptr (.v a_0)), (1, .int .i64 (.v r_1)), (2, .int .i64 (.v s_2)), (7, .sv path_7)] M)
theorem le_meld.Is.J5 {pr : Prim} {pts : Pts} {R : VP} (H : le_meld.Is pr pts R) (k : Nat) (a_0 : Option Addr) (r_1 : Int) (s_2 : Int) (path_7 : SV) (M : Mem) : le_meld.J5 pts k a_0 r_1 s_2 path_7 M = le_meld.J5.T pr pts k a_0 r_1 s_2 path_7 R M := (H _ _ _ _ _ rfl).trans (by kernel_rfl)
def le_meld.T (pr : Prim) (pts : Pts) (a : Option Addr) (r : Int) (s : Int) (R : VP) (M : Mem) : Prop := nfz pr pts R (gX PP le_meld.h [] [] (gR Tryz.f199) [(0, .ptr (.v a)), (1, .int .i64 (.v r)), (2, .int .i64 (.v s))] M)
theorem le_meld.go (w0 : World) (a : Option Addr) (r : Int) (s : Int) {R : VP} {M : Mem} (h : ∀ pts, le_meld.Is (std PP w0) pts R → le_meld.T (std PP w0) pts a r s R M) : C PP w0 Id.le_meld #[.pointer a, .int .i64 r, .int .i64 s] R M :=
  goG mixed (h := le_meld.h) (T := fun pr pts => le_meld.T pr pts a r s R M) Tryz.func199 (aC_ _ _) (by kernel_rfl) (fun pr pts => by kernel_rfl) h
noncomputable def tC_.h : HC := annot (bd Tryz.f200) [([true, true, false, true, false], [0, 5, 12, 13, 14]), ([true, true, true, true, true, false, false], [0, 5, 8]), ([true, true, true, true, true, false, false, false, true, false, true], [0, 5, 8, 9]), ([true, true, true, true, true, false, false, false, true, false, true, true, true, true, true], [0, 5, 8, 10, 11]), ([true, true, true, true, true, false, false, false, true, false, true, true, true, true, true, false, false], [0, 5, 8, 10, 11])]
def tC_.Is (pr : Prim) (pts : Pts) (R : VP) : Prop := IsG PP pr pts tC_.h Tryz.f200 R
abbrev tC_.L1 (pts : Pts) (k : Nat) (a_0 : Option Addr) (wait_5 : SV) (t12 : SV) (t13 : Int) (t14 : Int) (M : Mem) : Prop := pts [false, false, true, false, true, true] [k] [(0, .pointer a_0), (5, SV.v wait_5), (12, SV.v t12), (13, .int .i64 t13), (14, .int .i64 t14)] M
def tC_.L1.T (pr : Prim) (pts : Pts) (k : Nat) (a_0 : Option Addr) (wait_5 : SV) (t12 : SV) (t13 : Int) (t14 : Int) (R : VP) (M : Mem) : Prop := nfz pr pts R (gbody PP tC_.h (gR Tryz.f200) [false, false, true, false, true, true] [k] [(0, .ptr (.v a_0)), (5, .sv wait_5), (12, .sv t12), (13, .int .i64 (.v t13)), (14, .int .i64 (.v t14))] M)
theorem tC_.Is.L1 {pr : Prim} {pts : Pts} {R : VP} (H : tC_.Is pr pts R) (k : Nat) (a_0 : Option Addr) (wait_5 : SV) (t12 : SV) (t13 : Int) (t14 : Int) (M : Mem) : tC_.L1 pts (k + 1) a_0 wait_5 t12 t13 t14 M = tC_.L1.T pr pts k a_0 wait_5 t12 t13 t14 R M := (H _ _ _ _ _ rfl).trans (by kernel_rfl)
abbrev tC_.L2 (pts : Pts) (k : Nat) (a_0 : Option Addr) (wait_5 : SV) (out_8 : SV) (M : Mem) : Prop := pts [false, false, false, true, true, true, true, true] [k] [(0, .pointer a_0), (5, SV.v wait_5), (8, SV.v out_8)] M
def tC_.L2.T (pr : Prim) (pts : Pts) (k : Nat) (a_0 : Option Addr) (wait_5 : SV) (out_8 : SV) (R : VP) (M : Mem) : Prop := nfz pr pts R (gbody PP tC_.h (gR Tryz.f200) [false, false, false, true, true, true, true, true] [k] [(0, .ptr (.v a_0)), (5, .sv wait_5), (8, .sv out_8)] M)
theorem tC_.Is.L2 {pr : Prim} {pts : Pts} {R : VP} (H : tC_.Is pr pts R) (k : Nat) (a_0 : Option Addr) (wait_5 : SV) (out_8 : SV) (M : Mem) : tC_.L2 pts (k + 1) a_0 wait_5 out_8 M = tC_.L2.T pr pts k a_0 wait_5 out_8 R M := (H _ _ _ _ _ rfl).trans (by kernel_rfl)
abbrev tC_.J3 (pts : Pts) (k : Nat) (a_0 : Option Addr) (wait_5 : SV) (out_8 : SV) (x_9 : Addr) (M : Mem) : Prop := pts [true, true, false, true, false, false, false, true, true, true, true, true] [k] [(0, .pointer a_0), (5, SV.v wait_5), (8, SV.v out_8), (9, .pointer (some x_9))] M
def tC_.J3.T (pr : Prim) (pts : Pts) (k : Nat) (a_0 : Option Addr) (wait_5 : SV) (out_8 : SV) (x_9 : Addr) (R : VP) (M : Mem) : Prop := nfz pr pts R (gbody PP tC_.h (gR Tryz.f200) [true, true, false, true, false, false, false, true, true, true, true, true] [k] [(0, .ptr (.v a_0)), (5, .sv wait_5), (8, .sv out_8), (9, .ptr (.a (.v x_9)))] M)
theorem tC_.Is.J3 {pr : Prim} {pts : Pts} {R : VP} (H : tC_.Is pr pts R) (k : Nat) (a_0 : Option Addr) (wait_5 : SV) (out_8 : SV) (x_9 : Addr) (M : Mem) : tC_.J3 pts k a_0 wait_5 out_8 x_9 M = tC_.J3.T pr pts k a_0 wait_5 out_8 x_9 R M := (H _ _ _ _ _ rfl).trans (by kernel_rfl)
abbrev tC_.J4 (pts : Pts) (k : Nat) (a_0 : Option Addr) (wait_5 : SV) (out_8 : SV) (y_10 : Addr) (k_11 : Int) (M : Mem) : Prop := pts [true, true, true, true, true, true, false, true, false, false, false, true, true, true, true, true] [k] [(0, .pointer a_0), (5, SV.v wait_5), (8, SV.v out_8), (10, .pointer (some y_10)), (11, .int .i64 k_11)] M
def tC_.J4.T (pr : Prim) (pts : Pts) (k : Nat) (a_0 : Option Addr) (wait_5 : SV) (out_8 : SV) (y_10 : Addr) (k_11 : Int) (R : VP) (M : Mem) : Prop := nfz pr pts R (gbody PP tC_.h (gR Tryz.f200) [true, true, true, true, true, true, false, true, false, false, false, true, true, true, true, true] [k] [(0, .ptr (.v a_0)), (5, .sv wait_5), (8, .sv out_8), (10, .ptr (.a (.v y_10))), (11, .int .i64 (.v k_11))] M)
theorem tC_.Is.J4 {pr : Prim} {pts : Pts} {R : VP} (H : tC_.Is pr pts R) (k : Nat) (a_0 : Option Addr) (wait_5 : SV) (out_8 : SV) (y_10 : Addr) (k_11 : Int) (M : Mem) : tC_.J4 pts k a_0 wait_5 out_8 y_10 k_11 M = tC_.J4.T pr pts k a_0 wait_5 out_8 y_10 k_11 R M := (H _ _ _ _ _ rfl).trans (by kernel_rfl)
abbrev tC_.L5 (pts : Pts) (k : Nat) (k' : Nat) (a_0 : Option Addr) (wait_5 : SV) (out_8 : SV) (y_10 : Addr) (k_11 : Int) (M : Mem) : Prop := pts [false, false, false, true, true, true, true, true, false, true, false, false, false, true, true, true, true, true] [k', k] [(0, .pointer a_0), (5, SV.v wait_5), (8, SV.v out_8), (10, .pointer (some y_10)), (11, .int .i64 k_11)] M
def tC_.L5.T (pr : Prim) (pts : Pts) (k : Nat) (k' : Nat) (a_0 : Option Addr) (wait_5 : SV) (out_8 : SV) (y_10 : Addr) (k_11 : Int) (R : VP) (M : Mem) : Prop := nfz pr pts R (gbody PP tC_.h (gR Tryz.f200) [false, false, false, true, true, true, true, true, false, true, false, false, false, true, true, true, true, true] [k', k] [(0, .ptr (.v a_0)), (5, .sv wait_5), (8, .sv out_8), (10, .ptr (.a (.v y_10))), (11, .int .i64 (.v k_11))] M)
theorem tC_.Is.L5 {pr : Prim} {pts : Pts} {R : VP} (H : tC_.Is pr pts R) (k : Nat) (k' : Nat) (a_0 : Option Addr) (wait_5 : SV) (out_8 : SV) (y_10 : Addr) (k_11 : Int) (M : Mem) : tC_.L5 pts k (k' + 1) a_0 wait_5 out_8 y_10 k_11 M = tC_.L5.T pr pts k k' a_0 wait_5 out_8 y_10 k_11 R M := (H _ _ _ _ _ rfl).trans (by kernel_rfl)
def tC_.T (pr : Prim) (pts : Pts) (a : Option Addr) (l : SV) (R : VP) (M : Mem) : Prop := nfz pr pts R (gX PP tC_.h [] [] (gR Tryz.f200) [(0, .ptr (.v a)), (1, .sv l)] M)
theorem tC_.go (w0 : World) (a : Option Addr) (l : SV) {R : VP} {M : Mem} (h : ∀ pts, tC_.Is (std PP w0) pts R → tC_.T (std PP w0) pts a l R M) : C PP w0 Id.tC_ #[.pointer a, SV.v l] R M :=
  goG mixed (h := tC_.h) (T := fun pr pts => tC_.T pr pts a l R M) Tryz.func200 (aC_ _ _) (by kernel_rfl) (fun pr pts => by kernel_rfl) h
noncomputable def trees_List.h : HC := annot (bd Tryz.f201) []
def trees_List.T (pr : Prim) (a : Option Addr) (r : Int) (R : VP) (M : Mem) : Prop := nfz pr (fun _ _ _ _ => False) R (gX PP trees_List.h [] [] (gR Tryz.f201) [(0, .ptr (.v a)), (1, .int .i64 (.v r))] M)
theorem trees_List.go (w0 : World) (a : Option Addr) (r : Int) {R : VP} {M : Mem} (h : trees_List.T (std PP w0) a r R M) : C PP w0 Id.trees_List #[.pointer a, .int .i64 r] R M :=
  goG mixed (h := trees_List.h) (T := fun pr pts => trees_List.T pr a r R M) Tryz.func201 (aC_ _ _) (by kernel_rfl) (fun pr pts => by kernel_rfl) fun _ _ => h
noncomputable def zG_.h : HC := annot (bd Tryz.f202) [([true, true], [0, 1, 2, 7]), ([true, true, true, true], [0, 1, 2, 7, 8]), ([true, true, true, true, true, true, true], [0, 2, 9, 10])]
def zG_.Is (pr : Prim) (pts : Pts) (R : VP) : Prop := IsG PP pr pts zG_.h Tryz.f202 R
abbrev zG_.J1 (pts : Pts) (a_0 : Option Addr) (r_1 : Int) (n_2 : Int) (second_7 : Int) (M : Mem) : Prop := pts [true, true, true] [] [(0, .pointer a_0), (1, .int .i64 r_1), (2, .int .i64 n_2), (7, .int .i64 second_7)] M
def zG_.J1.T (pr : Prim) (pts : Pts) (a_0 : Option Addr) (r_1 : Int) (n_2 : Int) (second_7 : Int) (R : VP) (M : Mem) : Prop := nfz pr pts R (gbody PP zG_.h (gR Tryz.f202) [true, true, true] [] [(0, .ptr (.v a_0)), (1, .int .i64 (.v r_1)), (2, .int .i64 (.v n_2)), (7, .int .i64 (.v second_7))] M)
theorem zG_.Is.J1 {pr : Prim} {pts : Pts} {R : VP} (H : zG_.Is pr pts R) (a_0 : Option Addr) (r_1 : Int) (n_2 : Int) (second_7 : Int) (M : Mem) : zG_.J1 pts a_0 r_1 n_2 second_7 M = zG_.J1.T pr pts a_0 r_1 n_2 second_7 R M := (H _ _ _ _ _ rfl).trans (by kernel_rfl)
abbrev zG_.J2 (pts : Pts) (a_0 : Option Addr) (r_1 : Int) (n_2 : Int) (second_7 : Int) (rank_8 : Int) (M : Mem) : Prop := pts [true, true, true, true, true] [] [(0, .pointer a_0), (1, .int .i64 r_1), (2, .int .i64 n_2), (7, .int .i64 second_7), (8, .int .i64 rank_8)] M
def zG_.J2.T (pr : Prim) (pts : Pts) (a_0 : Option Addr) (r_1 : Int) (n_2 : Int) (second_7 : Int) (rank_8 : Int) (R : VP) (M : Mem) : Prop := nfz pr pts R (gbody PP zG_.h (gR Tryz.f202) [true, true, true, true, true] [] [(0, .ptr (.v a_0)), (1, .int .i64 (.v r_1)), (2, .int .i64 (.v n_2)), (7, .int .i64 (.v second_7)), (8, .int .i64 (.v rank_8))] M)
theorem zG_.Is.J2 {pr : Prim} {pts : Pts} {R : VP} (H : zG_.Is pr pts R) (a_0 : Option Addr) (r_1 : Int) (n_2 : Int) (second_7 : Int) (rank_8 : Int) (M : Mem) : zG_.J2 pts a_0 r_1 n_2 second_7 rank_8 M = zG_.J2.T pr pts a_0 r_1 n_2 second_7 rank_8 R M := (H _ _ _ _ _ rfl).trans (by kernel_rfl)
abbrev zG_.J3 (pts : Pts) (a_0 : Option Addr) (n_2 : Int) (rest_9 : Int) (top_10 : Int) (M : Mem) : Prop := pts [true, true, true, true, true, true, true, true] [] [(0, .pointer a_0), (2, .int .i64 n_2), (9, .int .i64 rest_9), (10, .int .i64 top_10)] M
def zG_.J3.T (pr : Prim) (pts : Pts) (a_0 : Option Addr) (n_2 : Int) (rest_9 : Int) (top_10 : Int) (R : VP) (M : Mem) : Prop := nfz pr pts R (gbody PP zG_.h (gR Tryz.f202) [true, true, true, true, true, true, true, true] [] [(0, .ptr (.v a_0)), (2, .int .i64 (.v n_2)), (9, .int .i64 (.v rest_9)), (10, .int .i64 (.v top_10))] M)
theorem zG_.Is.J3 {pr : Prim} {pts : Pts} {R : VP} (H : zG_.Is pr pts R) (a_0 : Option Addr) (n_2 : Int) (rest_9 : Int) (top_10 : Int) (M : Mem) : zG_.J3 pts a_0 n_2 rest_9 top_10 M = zG_.J3.T pr pts a_0 n_2 rest_9 top_10 R M := (H _ _ _ _ _ rfl).trans (by kernel_rfl)
def zG_.T (pr : Prim) (pts : Pts) (a : Option Addr) (r : Int) (n : Int) (R : VP) (M : Mem) : Prop := nfz pr pts R (gX PP zG_.h [] [] (gR Tryz.f202) [(0, .ptr (.v a)), (1, .int .i64 (.v r)), (2, .int .i64 (.v n))] M)
theorem zG_.go (w0 : World) (a : Option Addr) (r : Int) (n : Int) {R : VP} {M : Mem} (h : ∀ pts, zG_.Is (std PP w0) pts R → zG_.T (std PP w0) pts a r n R M) : C PP w0 Id.zG_ #[.pointer a, .int .i64 r, .int .i64 n] R M :=
  goG mixed (h := zG_.h) (T := fun pr pts => zG_.T pr pts a r n R M) Tryz.func202 (aC_ _ _) (by kernel_rfl) (fun pr pts => by kernel_rfl) h
end Go.Proofs.YtodobkbnmjgkdaaGreat.HL
namespace Go.Proofs.YtodobkbnmjgkdaaGreat.HL
open Go.Proofs
noncomputable def aA_Cell.h : HC := annot (bd Tryz.f207) []
def aA_Cell.T (pr : Prim) (a : Option Addr) (c : Int) (field : Int) (R : VP) (M : Mem) : Prop := nfz pr (fun _ _ _ _ => False) R (gX PP aA_Cell.h [] [] (gR Tryz.f207) [(0, .ptr (.v a)), (1, .int .i64 (.v c)), (2, .int .i64 (.v field))] M)
theorem aA_Cell.go (w0 : World) (a : Option Addr) (c : Int) (field : Int) {R : VP} {M : Mem} (h : aA_Cell.T (std PP w0) a c field R M) : C PP w0 Id.aA_Cell #[.pointer a, .int .i64 c, .int .i64 field] R M :=
  goG mixed (h := aA_Cell.h) (T := fun pr pts => aA_Cell.T pr a c field R M) Tryz.func207 (aC_ _ _) (by kernel_rfl) (fun pr pts => by kernel_rfl) fun _ _ => h
noncomputable def trees_Best.h : HC := annot (bd Tryz.f208) [([true, true, false, true, false], [0, 5, 8, 9, 10])]
def trees_Best.Is (pr : Prim) (pts : Pts) (R : VP) : Prop := IsG PP pr pts trees_Best.h Tryz.f208 R
abbrev trees_Best.L1 (pts : Pts) (k : Nat) (a_0 : Option Addr) (best_5 : Int) (t8 : SV) (t9 : Int) (t10 : Int) (M : Mem) : Prop := pts [false, false, true, false, true, true] [k] [(0, .pointer a_0), (5, .int .i64 best_5), (8, SV.v t8), (9, .int .i64 t9), (10, .int .i64 t10)] M
def trees_Best.L1.T (pr : Prim) (pts : Pts) (k : Nat) (a_0 : Option Addr) (best_5 : Int) (t8 : SV) (t9 : Int) (t10 : Int) (R : VP) (M : Mem) : Prop := nfz pr pts R (gbody PP trees_Best.h (gR Tryz.f208) [false, false, true, false, true, true] [k] [(0, .ptr (.v a_0)), (5, .int .i64 (.v best_5)), (8, .sv t8), (9, .int .i64 (.v t9)), (10, .int .i64 (.v t10))] M)
theorem trees_Best.Is.L1 {pr : Prim} {pts : Pts} {R : VP} (H : trees_Best.Is pr pts R) (k : Nat) (a_0 : Option Addr) (best_5 : Int) (t8 : SV) (t9 : Int) (t10 : Int) (M : Mem) : trees_Best.L1 pts (k + 1) a_0 best_5 t8 t9 t10 M = trees_Best.L1.T pr pts k a_0 best_5 t8 t9 t10 R M := (H _ _ _ _ _ rfl).trans (by kernel_rfl)
def trees_Best.T (pr : Prim) (pts : Pts) (a : Option Addr) (l : SV) (R : VP) (M : Mem) : Prop := nfz pr pts R (gX PP trees_Best.h [] [] (gR Tryz.f208) [(0, .ptr (.v a)), (1, .sv l)] M)
theorem trees_Best.go (w0 : World) (a : Option Addr) (l : SV) {R : VP} {M : Mem} (h : ∀ pts, trees_Best.Is (std PP w0) pts R → trees_Best.T (std PP w0) pts a l R M) : C PP w0 Id.trees_Best #[.pointer a, SV.v l] R M :=
  goG mixed (h := trees_Best.h) (T := fun pr pts => trees_Best.T pr pts a l R M) Tryz.func208 (aC_ _ _) (by kernel_rfl) (fun pr pts => by kernel_rfl) h
noncomputable def aA_Live.h : HC := annot (bd Tryz.f209) []
def aA_Live.T (pr : Prim) (a : Option Addr) (c : Int) (R : VP) (M : Mem) : Prop := nfz pr (fun _ _ _ _ => False) R (gX PP aA_Live.h [] [] (gR Tryz.f209) [(0, .ptr (.v a)), (1, .int .i64 (.v c))] M)
theorem aA_Live.go (w0 : World) (a : Option Addr) (c : Int) {R : VP} {M : Mem} (h : aA_Live.T (std PP w0) a c R M) : C PP w0 Id.aA_Live #[.pointer a, .int .i64 c] R M :=
  goG mixed (h := aA_Live.h) (T := fun pr pts => aA_Live.T pr a c R M) Tryz.func209 (aC_ _ _) (by kernel_rfl) (fun pr pts => by kernel_rfl) fun _ _ => h
noncomputable def le_kids.h : HC := annot (bd Tryz.f210) []
def le_kids.T (pr : Prim) (a : Option Addr) (n : Int) (R : VP) (M : Mem) : Prop := nfz pr (fun _ _ _ _ => False) R (gX PP le_kids.h [] [] (gR Tryz.f210) [(0, .ptr (.v a)), (1, .int .i64 (.v n))] M)
theorem le_kids.go (w0 : World) (a : Option Addr) (n : Int) {R : VP} {M : Mem} (h : le_kids.T (std PP w0) a n R M) : C PP w0 Id.le_kids #[.pointer a, .int .i64 n] R M :=
  goG mixed (h := le_kids.h) (T := fun pr pts => le_kids.T pr a n R M) Tryz.func210 (aC_ _ _) (by kernel_rfl) (fun pr pts => by kernel_rfl) fun _ _ => h
noncomputable def node_End.h : HC := annot (bd Tryz.f211) []
def node_End.T (pr : Prim) (a : Option Addr) (n : Int) (R : VP) (M : Mem) : Prop := nfz pr (fun _ _ _ _ => False) R (gX PP node_End.h [] [] (gR Tryz.f211) [(0, .ptr (.v a)), (1, .int .i64 (.v n))] M)
theorem node_End.go (w0 : World) (a : Option Addr) (n : Int) {R : VP} {M : Mem} (h : node_End.T (std PP w0) a n R M) : C PP w0 Id.node_End #[.pointer a, .int .i64 n] R M :=
  goG mixed (h := node_End.h) (T := fun pr pts => node_End.T pr a n R M) Tryz.func211 (aC_ _ _) (by kernel_rfl) (fun pr pts => by kernel_rfl) fun _ _ => h
noncomputable def bi_without.h : HC := annot (bd Tryz.f212) []
def bi_without.T (pr : Prim) (a : Option Addr) (l : SV) (n : Int) (R : VP) (M : Mem) : Prop := nfz pr (fun _ _ _ _ => False) R (gX PP bi_without.h [] [] (gR Tryz.f212) [(0, .ptr (.v a)), (1, .sv l), (2, .int .i64 (.v n))] M)
theorem bi_without.go (w0 : World) (a : Option Addr) (l : SV) (n : Int) {R : VP} {M : Mem} (h : bi_without.T (std PP w0) a l n R M) : C PP w0 Id.bi_without #[.pointer a, SV.v l, .int .i64 n] R M :=
  goG mixed (h := bi_without.h) (T := fun pr pts => bi_without.T pr a l n R M) Tryz.func212 (aC_ _ _) (by kernel_rfl) (fun pr pts => by kernel_rfl) fun _ _ => h
noncomputable def sW_.h : HC := annot (bd Tryz.f213) [([true, true, true, false, true, false], [0, 5, 8, 9, 21, 22, 23]), ([true, true, true, true, true, true, false, true, false], [0, 12, 13, 46, 47, 48])]
def sW_.Is (pr : Prim) (pts : Pts) (R : VP) : Prop := IsG PP pr pts sW_.h Tryz.f213 R
abbrev sW_.L1 (pts : Pts) (k : Nat) (a_0 : Option Addr) (n_5 : Addr) (rest_8 : SV) (alone_9 : SV) (t21 : SV) (t22 : Int) (t23 : Int) (M : Mem) : Prop := pts [false, false, true, false, true, true, true] [k] [(0, .pointer a_0), (5, .pointer (some n_5)), (8, SV.v rest_8), (9, SV.v alone_9), (21, SV.v t21), (22, .int .i64 t22), (23, .int .i64 t23)] M
def sW_.L1.T (pr : Prim) (pts : Pts) (k : Nat) (a_0 : Option Addr) (n_5 : Addr) (rest_8 : SV) (alone_9 : SV) (t21 : SV) (t22 : Int) (t23 : Int) (R : VP) (M : Mem) : Prop := nfz pr pts R (gbody PP sW_.h (gR Tryz.f213) [false, false, true, false, true, true, true] [k] [(0, .ptr (.v a_0)), (5, .ptr (.a (.v n_5))), (8, .sv rest_8), (9, .sv alone_9), (21, .sv t21), (22, .int .i64 (.v t22)), (23, .int .i64 (.v t23))] M)
theorem sW_.Is.L1 {pr : Prim} {pts : Pts} {R : VP} (H : sW_.Is pr pts R) (k : Nat) (a_0 : Option Addr) (n_5 : Addr) (rest_8 : SV) (alone_9 : SV) (t21 : SV) (t22 : Int) (t23 : Int) (M : Mem) : sW_.L1 pts (k + 1) a_0 n_5 rest_8 alone_9 t21 t22 t23 M = sW_.L1.T pr pts k a_0 n_5 rest_8 alone_9 t21 t22 t23 R M := (H _ _ _ _ _ rfl).trans (by kernel_rfl)
abbrev sW_.L2 (pts : Pts) (k : Nat) (a_0 : Option Addr) (i_12 : Int) (r_13 : Int) (t46 : SV) (t47 : Int) (t48 : Int) (M : Mem) : Prop := pts [false, false, true, false, true, true, true, true, true, true] [k] [(0, .pointer a_0), (12, .int .i64 i_12), (13, .int .i64 r_13), (46, SV.v t46), (47, .int .i64 t47), (48, .int .i64 t48)] M
def sW_.L2.T (pr : Prim) (pts : Pts) (k : Nat) (a_0 : Option Addr) (i_12 : Int) (r_13 : Int) (t46 : SV) (t47 : Int) (t48 : Int) (R : VP) (M : Mem) : Prop := nfz pr pts R (gbody PP sW_.h (gR Tryz.f213) [false, false, true, false, true, true, true, true, true, true] [k] [(0, .ptr (.v a_0)), (12, .int .i64 (.v i_12)), (13, .int .i64 (.v r_13)), (46, .sv t46), (47, .int .i64 (.v t47)), (48, .int .i64 (.v t48))] M)
theorem sW_.Is.L2 {pr : Prim} {pts : Pts} {R : VP} (H : sW_.Is pr pts R) (k : Nat) (a_0 : Option Addr) (i_12 : Int) (r_13 : Int) (t46 : SV) (t47 : Int) (t48 : Int) (M : Mem) : sW_.L2 pts (k + 1) a_0 i_12 r_13 t46 t47 t48 M = sW_.L2.T pr pts k a_0 i_12 r_13 t46 t47 t48 R M := (H _ _ _ _ _ rfl).trans (by kernel_rfl)
def sW_.T (pr : Prim) (pts : Pts) (a : Option Addr) (l : SV) (n : Int) (R : VP) (M : Mem) : Prop := nfz pr pts R (gX PP sW_.h [] [] (gR Tryz.f213) [(0, .ptr (.v a)), (1, .sv l), (2, .int .i64 (.v n))] M)
theorem sW_.go (w0 : World) (a : Option Addr) (l : SV) (n : Int) {R : VP} {M : Mem} (h : ∀ pts, sW_.Is (std PP w0) pts R → sW_.T (std PP w0) pts a l n R M) : C PP w0 Id.sW_ #[.pointer a, SV.v l, .int .i64 n] R M :=
  goG mixed (h := sW_.h) (T := fun pr pts => sW_.T pr pts a l n R M) Tryz.func213 (aC_ _ _) (by kernel_rfl) (fun pr pts => by kernel_rfl) h
noncomputable def pP_Give_st.h : HC := annot (bd Tryz.f216) []
def pP_Give_st.T (pr : Prim) (p : Option Addr) (r_0 : Int) (r_1 : Int) (R : VP) (M : Mem) : Prop := nfz pr (fun _ _ _ _ => False) R (gX PP pP_Give_st.h [] [] (gR Tryz.f216) [(0, .ptr (.v p)), (1, .agg [.int .i64 (.v r_0), .int .i64 (.v r_1)])] M)
theorem pP_Give_st.go (w0 : World) (p : Option Addr) (r_0 : Int) (r_1 : Int) {R : VP} {M : Mem} (h : pP_Give_st.T (std PP w0) p r_0 r_1 R M) : C PP w0 Id.pP_Give_st #[.pointer p, .agg #[.int .i64 r_0, .int .i64 r_1]] R M :=
  goG mixed (h := pP_Give_st.h) (T := fun pr pts => pP_Give_st.T pr p r_0 r_1 R M) Tryz.func216 (aC_ _ _) (by kernel_rfl) (fun pr pts => by kernel_rfl) fun _ _ => h
noncomputable def pP_find_st.h : HC := annot (bd Tryz.f217) [([true], [0, 3])]
def pP_find_st.Is (pr : Prim) (pts : Pts) (R : VP) : Prop := IsG PP pr pts pP_find_st.h Tryz.f217 R
abbrev pP_find_st.J1 (pts : Pts) (p_0 : Option Addr) (r_3 : Addr) (M : Mem) : Prop := pts [true, true] [] [(0, .pointer p_0), (3, .pointer (some r_3))] M
def pP_find_st.J1.T (pr : Prim) (pts : Pts) (p_0 : Option Addr) (r_3 : Addr) (R : VP) (M : Mem) : Prop := nfz pr pts R (gbody PP pP_find_st.h (gR Tryz.f217) [true, true] [] [(0, .ptr (.v p_0)), (3, .ptr (.a (.v r_3)))] M)
theorem pP_find_st.Is.J1 {pr : Prim} {pts : Pts} {R : VP} (H : pP_find_st.Is pr pts R) (p_0 : Option Addr) (r_3 : Addr) (M : Mem) : pP_find_st.J1 pts p_0 r_3 M = pP_find_st.J1.T pr pts p_0 r_3 R M := (H _ _ _ _ _ rfl).trans (by kernel_rfl)
def pP_find_st.T (pr : Prim) (pts : Pts) (p : Option Addr) (r_0 : Int) (r_1 : Int) (R : VP) (M : Mem) : Prop := nfz pr pts R (gX PP pP_find_st.h [] [] (gR Tryz.f217) [(0, .ptr (.v p)), (1, .agg [.int .i64 (.v r_0), .int .i64 (.v r_1)])] M)
theorem pP_find_st.go (w0 : World) (p : Option Addr) (r_0 : Int) (r_1 : Int) {R : VP} {M : Mem} (h : ∀ pts, pP_find_st.Is (std PP w0) pts R → pP_find_st.T (std PP w0) pts p r_0 r_1 R M) : C PP w0 Id.pP_find_st #[.pointer p, .agg #[.int .i64 r_0, .int .i64 r_1]] R M :=
  goG mixed (h := pP_find_st.h) (T := fun pr pts => pP_find_st.T pr pts p r_0 r_1 R M) Tryz.func217 (aC_ _ _) (by kernel_rfl) (fun pr pts => by kernel_rfl) h
noncomputable def item_Node.h : HC := annot (bd Tryz.f218) []
def item_Node.T (pr : Prim) (a : Option Addr) (i : Int) (R : VP) (M : Mem) : Prop := nfz pr (fun _ _ _ _ => False) R (gX PP item_Node.h [] [] (gR Tryz.f218) [(0, .ptr (.v a)), (1, .int .i64 (.v i))] M)
theorem item_Node.go (w0 : World) (a : Option Addr) (i : Int) {R : VP} {M : Mem} (h : item_Node.T (std PP w0) a i R M) : C PP w0 Id.item_Node #[.pointer a, .int .i64 i] R M :=
  goG mixed (h := item_Node.h) (T := fun pr pts => item_Node.T pr a i R M) Tryz.func218 (aC_ _ _) (by kernel_rfl) (fun pr pts => by kernel_rfl) fun _ _ => h
noncomputable def le_leave.h : HC := annot (bd Tryz.f219) [([true], [0, 1, 4]), ([true, true, true, true, false], [0, 4, 5]), ([true, true, true, true, false, false], [0, 4, 5])]
def le_leave.Is (pr : Prim) (pts : Pts) (R : VP) : Prop := IsG PP pr pts le_leave.h Tryz.f219 R
abbrev le_leave.J1 (pts : Pts) (a_0 : Option Addr) (n_1 : Int) (p_4 : Int) (M : Mem) : Prop := pts [true, true] [] [(0, .pointer a_0), (1, .int .i64 n_1), (4, .int .i64 p_4)] M
def le_leave.J1.T (pr : Prim) (pts : Pts) (a_0 : Option Addr) (n_1 : Int) (p_4 : Int) (R : VP) (M : Mem) : Prop := nfz pr pts R (gbody PP le_leave.h (gR Tryz.f219) [true, true] [] [(0, .ptr (.v a_0)), (1, .int .i64 (.v n_1)), (4, .int .i64 (.v p_4))] M)
theorem le_leave.Is.J1 {pr : Prim} {pts : Pts} {R : VP} (H : le_leave.Is pr pts R) (a_0 : Option Addr) (n_1 : Int) (p_4 : Int) (M : Mem) : le_leave.J1 pts a_0 n_1 p_4 M = le_leave.J1.T pr pts a_0 n_1 p_4 R M := (H _ _ _ _ _ rfl).trans (by kernel_rfl)
abbrev le_leave.L2 (pts : Pts) (k : Nat) (a_0 : Option Addr) (p_4 : Int) (k_5 : Int) (M : Mem) : Prop := pts [false, false, true, true, true, true] [k] [(0, .pointer a_0), (4, .int .i64 p_4), (5, .int .i64 k_5)] M
def le_leave.L2.T (pr : Prim) (pts : Pts) (k : Nat) (a_0 : Option Addr) (p_4 : Int) (k_5 : Int) (R : VP) (M : Mem) : Prop := nfz pr pts R (gbody PP le_leave.h (gR Tryz.f219) [false, false, true, true, true, true] [k] [(0, .ptr (.v a_0)), (4, .int .i64 (.v p_4)), (5, .int .i64 (.v k_5))] M)
theorem le_leave.Is.L2 {pr : Prim} {pts : Pts} {R : VP} (H : le_leave.Is pr pts R) (k : Nat) (a_0 : Option Addr) (p_4 : Int) (k_5 : Int) (M : Mem) : le_leave.L2 pts (k + 1) a_0 p_4 k_5 M = le_leave.L2.T pr pts k a_0 p_4 k_5 R M := (H _ _ _ _ _ rfl).trans (by kernel_rfl)
abbrev le_leave.J3 (pts : Pts) (k : Nat) (a_0 : Option Addr) (p_4 : Int) (k_5 : Int) (M : Mem) : Prop := pts [true, false, false, true, true, true, true] [k] [(0, .pointer a_0), (4, .int .i64 p_4), (5, .int .i64 k_5)] M
def le_leave.J3.T (pr : Prim) (pts : Pts) (k : Nat) (a_0 : Option Addr) (p_4 : Int) (k_5 : Int) (R : VP) (M : Mem) : Prop := nfz pr pts R (gbody PP le_leave.h (gR Tryz.f219) [true, false, false, true, true, true, true] [k] [(0, .ptr (.v a_0)), (4, .int .i64 (.v p_4)), (5, .int .i64 (.v k_5))] M)
theorem le_leave.Is.J3 {pr : Prim} {pts : Pts} {R : VP} (H : le_leave.Is pr pts R) (k : Nat) (a_0 : Option Addr) (p_4 : Int) (k_5 : Int) (M : Mem) : le_leave.J3 pts k a_0 p_4 k_5 M = le_leave.J3.T pr pts k a_0 p_4 k_5 R M := (H _ _ _ _ _ rfl).trans (by kernel_rfl)
def le_leave.T (pr : Prim) (pts : Pts) (a : Option Addr) (n : Int) (R : VP) (M : Mem) : Prop := nfz pr pts R (gX PP le_leave.h [] [] (gR Tryz.f219) [(0, .ptr (.v a)), (1, .int .i64 (.v n))] M)
theorem le_leave.go (w0 : World) (a : Option Addr) (n : Int) {R : VP} {M : Mem} (h : ∀ pts, le_leave.Is (std PP w0) pts R → le_leave.T (std PP w0) pts a n R M) : C PP w0 Id.le_leave #[.pointer a, .int .i64 n] R M :=
  goG mixed (h := le_leave.h) (T := fun pr pts => le_leave.T pr pts a n R M) Tryz.func219 (aC_ _ _) (by kernel_rfl) (fun pr pts => by kernel_rfl) h
noncomputable def zR_.h : HC := annot (bd Tryz.f220) [([true, true, false, true, false], [0, 2, 7, 8]), ([true, true, false, true, false, false], [0, 2, 7, 8]), ([true, true, false, true, false, false, true, false, false, true], [0, 2, 7, 8, 9])]
def zR_.Is (pr : Prim) (pts : Pts) (R : VP) : Prop := IsG PP pr pts zR_.h Tryz.f220 R
abbrev zR_.L1 (pts : Pts) (k : Nat) (a_0 : Option Addr) (any_2 : Bool) (n_7 : Int) (k_8 : Int) (M : Mem) : Prop := pts [false, false, true, false, true, true] [k] [(0, .pointer a_0), (2, .bool any_2), (7, .int .i64 n_7), (8, .int .i64 k_8)] M
def zR_.L1.T (pr : Prim) (pts : Pts) (k : Nat) (a_0 : Option Addr) (any_2 : Bool) (n_7 : Int) (k_8 : Int) (R : VP) (M : Mem) : Prop := nfz pr pts R (gbody PP zR_.h (gR Tryz.f220) [false, false, true, false, true, true] [k] [(0, .ptr (.v a_0)), (2, .bool (.v any_2)), (7, .int .i64 (.v n_7)), (8, .int .i64 (.v k_8))] M)
theorem zR_.Is.L1 {pr : Prim} {pts : Pts} {R : VP} (H : zR_.Is pr pts R) (k : Nat) (a_0 : Option Addr) (any_2 : Bool) (n_7 : Int) (k_8 : Int) (M : Mem) : zR_.L1 pts (k + 1) a_0 any_2 n_7 k_8 M = zR_.L1.T pr pts k a_0 any_2 n_7 k_8 R M := (H _ _ _ _ _ rfl).trans (by kernel_rfl)
abbrev zR_.J2 (pts : Pts) (k : Nat) (a_0 : Option Addr) (any_2 : Bool) (n_7 : Int) (k_8 : Int) (M : Mem) : Prop := pts [true, false, false, true, false, true, true] [k] [(0, .pointer a_0), (2, .bool any_2), (7, .int .i64 n_7), (8, .int .i64 k_8)] M
def zR_.J2.T (pr : Prim) (pts : Pts) (k : Nat) (a_0 : Option Addr) (any_2 : Bool) (n_7 : Int) (k_8 : Int) (R : VP) (M : Mem) : Prop := nfz pr pts R (gbody PP zR_.h (gR Tryz.f220) [true, false, false, true, false, true, true] [k] [(0, .ptr (.v a_0)), (2, .bool (.v any_2)), (7, .int .i64 (.v n_7)), (8, .int .i64 (.v k_8))] M)
theorem zR_.Is.J2 {pr : Prim} {pts : Pts} {R : VP} (H : zR_.Is pr pts R) (k : Nat) (a_0 : Option Addr) (any_2 : Bool) (n_7 : Int) (k_8 : Int) (M : Mem) : zR_.J2 pts k a_0 any_2 n_7 k_8 M = zR_.J2.T pr pts k a_0 any_2 n_7 k_8 R M := (H _ _ _ _ _ rfl).trans (by kernel_rfl)
abbrev zR_.J3 (pts : Pts) (k : Nat) (a_0 : Option Addr) (any_2 : Bool) (n_7 : Int) (k_8 : Int) (up_9 : Int) (M : Mem) : Prop := pts [true, true, false, false, true, false, false, true, false, true, true] [k] [(0, .pointer a_0), (2, .bool any_2), (7, .int .i64 n_7), (8, .int .i64 k_8), (9, .int .i64 up_9)] M
def zR_.J3.T (pr : Prim) (pts : Pts) (k : Nat) (a_0 : Option Addr) (any_2 : Bool) (n_7 : Int) (k_8 : Int) (up_9 : Int) (R : VP) (M : Mem) : Prop := nfz pr pts R (gbody PP zR_.h (gR Tryz.f220) [true, true, false, false, true, false, false, true, false, true, true] [k] [(0, .ptr (.v a_0)), (2, .bool (.v any_2)), (7, .int .i64 (.v n_7)), (8, .int .i64 (.v k_8)), (9, .int .i64 (.v up_9))] M)
theorem zR_.Is.J3 {pr : Prim} {pts : Pts} {R : VP} (H : zR_.Is pr pts R) (k : Nat) (a_0 : Option Addr) (any_2 : Bool) (n_7 : Int) (k_8 : Int) (up_9 : Int) (M : Mem) : zR_.J3 pts k a_0 any_2 n_7 k_8 up_9 M = zR_.J3.T pr pts k a_0 any_2 n_7 k_8 up_9 R M := (H _ _ _ _ _ rfl).trans (by kernel_rfl)
def zR_.T (pr : Prim) (pts : Pts) (a : Option Addr) (i : Int) (any : Bool) (R : VP) (M : Mem) : Prop := nfz pr pts R (gX PP zR_.h [] [] (gR Tryz.f220) [(0, .ptr (.v a)), (1, .int .i64 (.v i)), (2, .bool (.v any))] M)
theorem zR_.go (w0 : World) (a : Option Addr) (i : Int) (any : Bool) {R : VP} {M : Mem} (h : ∀ pts, zR_.Is (std PP w0) pts R → zR_.T (std PP w0) pts a i any R M) : C PP w0 Id.zR_ #[.pointer a, .int .i64 i, .bool any] R M :=
  goG mixed (h := zR_.h) (T := fun pr pts => zR_.T pr pts a i any R M) Tryz.func220 (aC_ _ _) (by kernel_rfl) (fun pr pts => by kernel_rfl) h
noncomputable def node_Before.h : HC := annot (bd Tryz.f221) []
def node_Before.T (pr : Prim) (a : Option Addr) (n : Int) (m : Int) (R : VP) (M : Mem) : Prop := nfz pr (fun _ _ _ _ => False) R (gX PP node_Before.h [] [] (gR Tryz.f221) [(0, .ptr (.v a)), (1, .int .i64 (.v n)), (2, .int .i64 (.v m))] M)
theorem node_Before.go (w0 : World) (a : Option Addr) (n : Int) (m : Int) {R : VP} {M : Mem} (h : node_Before.T (std PP w0) a n m R M) : C PP w0 Id.node_Before #[.pointer a, .int .i64 n, .int .i64 m] R M :=
  goG mixed (h := node_Before.h) (T := fun pr pts => node_Before.T pr a n m R M) Tryz.func221 (aC_ _ _) (by kernel_rfl) (fun pr pts => by kernel_rfl) fun _ _ => h
noncomputable def sl_Contains_int_int.h : HC := annot (bd Tryz.f224) []
def sl_Contains_int_int.T (pr : Prim) (s : SV) (v : Int) (R : VP) (M : Mem) : Prop := nfz pr (fun _ _ _ _ => False) R (gX PP sl_Contains_int_int.h [] [] (gR Tryz.f224) [(0, .sv s), (1, .int .i64 (.v v))] M)
theorem sl_Contains_int_int.go (w0 : World) (s : SV) (v : Int) {R : VP} {M : Mem} (h : sl_Contains_int_int.T (std PP w0) s v R M) : C PP w0 Id.sl_Contains_int_int #[SV.v s, .int .i64 v] R M :=
  goG mixed (h := sl_Contains_int_int.h) (T := fun pr pts => sl_Contains_int_int.T pr s v R M) Tryz.func224 (aC_ _ _) (by kernel_rfl) (fun pr pts => by kernel_rfl) fun _ _ => h
noncomputable def bits_Len.h : HC := annot (bd Tryz.f231) []
def bits_Len.T (pr : Prim) (x : Int) (R : VP) (M : Mem) : Prop := nfz pr (fun _ _ _ _ => False) R (gX PP bits_Len.h [] [] (gR Tryz.f231) [(0, .int .u64 (.v x))] M)
theorem bits_Len.go (w0 : World) (x : Int) {R : VP} {M : Mem} (h : bits_Len.T (std PP w0) x R M) : C PP w0 Id.bits_Len #[.int .u64 x] R M :=
  goG mixed (h := bits_Len.h) (T := fun pr pts => bits_Len.T pr x R M) Tryz.func231 (aC_ _ _) (by kernel_rfl) (fun pr pts => by kernel_rfl) fun _ _ => h
noncomputable def pP_Places_jj.h : HC := annot (bd Tryz.f232) []
def pP_Places_jj.T (pr : Prim) (p : Option Addr) (R : VP) (M : Mem) : Prop := nfz pr (fun _ _ _ _ => False) R (gX PP pP_Places_jj.h [] [] (gR Tryz.f232) [(0, .ptr (.v p))] M)
theorem pP_Places_jj.go (w0 : World) (p : Option Addr) {R : VP} {M : Mem} (h : pP_Places_jj.T (std PP w0) p R M) : C PP w0 Id.pP_Places_jj #[.pointer p] R M :=
  goG mixed (h := pP_Places_jj.h) (T := fun pr pts => pP_Places_jj.T pr p R M) Tryz.func232 (aC_ _ _) (by kernel_rfl) (fun pr pts => by kernel_rfl) fun _ _ => h
noncomputable def pP_Take_jj.h : HC := annot (bd Tryz.f233) [([true, true], [0, 3, 4, 6])]
def pP_Take_jj.Is (pr : Prim) (pts : Pts) (R : VP) : Prop := IsG PP pr pts pP_Take_jj.h Tryz.f233 R
abbrev pP_Take_jj.J1 (pts : Pts) (p_0 : Option Addr) (v_3 : Addr) (t4 : Addr) (at_6 : Int) (M : Mem) : Prop := pts [true, true, true] [] [(0, .pointer p_0), (3, .pointer (some v_3)), (4, .pointer (some t4)), (6, .int .i64 at_6)] M
def pP_Take_jj.J1.T (pr : Prim) (pts : Pts) (p_0 : Option Addr) (v_3 : Addr) (t4 : Addr) (at_6 : Int) (R : VP) (M : Mem) : Prop := nfz pr pts R (gbody PP pP_Take_jj.h (gR Tryz.f233) [true, true, true] [] [(0, .ptr (.v p_0)), (3, .ptr (.a (.v v_3))), (4, .ptr (.a (.v t4))), (6, .int .i64 (.v at_6))] M)
theorem pP_Take_jj.Is.J1 {pr : Prim} {pts : Pts} {R : VP} (H : pP_Take_jj.Is pr pts R) (p_0 : Option Addr) (v_3 : Addr) (t4 : Addr) (at_6 : Int) (M : Mem) : pP_Take_jj.J1 pts p_0 v_3 t4 at_6 M = pP_Take_jj.J1.T pr pts p_0 v_3 t4 at_6 R M := (H _ _ _ _ _ rfl).trans (by kernel_rfl)
def pP_Take_jj.T (pr : Prim) (pts : Pts) (p : Option Addr) (v_0 : Int) (v_1 : Int) (v_2 : Int) (v_3 : Int) (v_4 : Int) (R : VP) (M : Mem) : Prop := nfz pr pts R (gX PP pP_Take_jj.h [] [] (gR Tryz.f233) [(0, .ptr (.v p)), (1, .agg [.int .i64 (.v v_0), .int .i64 (.v v_1), .int .i64 (.v v_2), .int .i64 (.v v_3), .int .i64 (.v v_4)])] M)
theorem pP_Take_jj.go (w0 : World) (p : Option Addr) (v_0 : Int) (v_1 : Int) (v_2 : Int) (v_3 : Int) (v_4 : Int) {R : VP} {M : Mem} (h : ∀ pts, pP_Take_jj.Is (std PP w0) pts R → pP_Take_jj.T (std PP w0) pts p v_0 v_1 v_2 v_3 v_4 R M) : C PP w0 Id.pP_Take_jj #[.pointer p, .agg #[.int .i64 v_0, .int .i64 v_1, .int .i64 v_2, .int .i64 v_3, .int .i64 v_4]] R M :=
  goG mixed (h := pP_Take_jj.h) (T := fun pr pts => pP_Take_jj.T pr pts p v_0 v_1 v_2 v_3 v_4 R M) Tryz.func233 (aC_ _ _) (by kernel_rfl) (fun pr pts => by kernel_rfl) h
noncomputable def pP_Set_jj.h : HC := annot (bd Tryz.f234) []
def pP_Set_jj.T (pr : Prim) (p : Option Addr) (r_0 : Int) (r_1 : Int) (v_0 : Int) (v_1 : Int) (v_2 : Int) (v_3 : Int) (v_4 : Int) (R : VP) (M : Mem) : Prop := nfz pr (fun _ _ _ _ => False) R (gX PP pP_Set_jj.h [] [] (gR Tryz.f234) [(0, .ptr (.v p)), (1, .agg [.int .i64 (.v r_0), .int .i64 (.v r_1)]), (2, .agg [.int .i64 (.v v_0), .int .i64 (.v v_1), .int .i64 (.v v_2), .int .i64 (.v v_3), .int .i64 (.v v_4)])] M)
theorem pP_Set_jj.go (w0 : World) (p : Option Addr) (r_0 : Int) (r_1 : Int) (v_0 : Int) (v_1 : Int) (v_2 : Int) (v_3 : Int) (v_4 : Int) {R : VP} {M : Mem} (h : pP_Set_jj.T (std PP w0) p r_0 r_1 v_0 v_1 v_2 v_3 v_4 R M) : C PP w0 Id.pP_Set_jj #[.pointer p, .agg #[.int .i64 r_0, .int .i64 r_1], .agg #[.int .i64 v_0, .int .i64 v_1, .int .i64 v_2, .int .i64 v_3, .int .i64 v_4]] R M :=
  goG mixed (h := pP_Set_jj.h) (T := fun pr pts => pP_Set_jj.T pr p r_0 r_1 v_0 v_1 v_2 v_3 v_4 R M) Tryz.func234 (aC_ _ _) (by kernel_rfl) (fun pr pts => by kernel_rfl) fun _ _ => h
noncomputable def jT_Take.h : HC := annot (bd Tryz.f235) []
def jT_Take.T (pr : Prim) (t : Option Addr) (r_0 : Int) (r_1 : Int) (R : VP) (M : Mem) : Prop := nfz pr (fun _ _ _ _ => False) R (gX PP jT_Take.h [] [] (gR Tryz.f235) [(0, .ptr (.v t)), (1, .agg [.int .i64 (.v r_0), .int .i64 (.v r_1)])] M)
theorem jT_Take.go (w0 : World) (t : Option Addr) (r_0 : Int) (r_1 : Int) {R : VP} {M : Mem} (h : jT_Take.T (std PP w0) t r_0 r_1 R M) : C PP w0 Id.jT_Take #[.pointer t, .agg #[.int .i64 r_0, .int .i64 r_1]] R M :=
  goG mixed (h := jT_Take.h) (T := fun pr pts => jT_Take.T pr t r_0 r_1 R M) Tryz.func235 (aC_ _ _) (by kernel_rfl) (fun pr pts => by kernel_rfl) fun _ _ => h
noncomputable def cmp_isNaN_int64.h : HC := annot (bd Tryz.f238) []
def cmp_isNaN_int64.T (pr : Prim) (x : Int) (R : VP) (M : Mem) : Prop := nfz pr (fun _ _ _ _ => False) R (gX PP cmp_isNaN_int64.h [] [] (gR Tryz.f238) [(0, .int .i64 (.v x))] M)
theorem cmp_isNaN_int64.go (w0 : World) (x : Int) {R : VP} {M : Mem} (h : cmp_isNaN_int64.T (std PP w0) x R M) : C PP w0 Id.cmp_isNaN_int64 #[.int .i64 x] R M :=
  goG mixed (h := cmp_isNaN_int64.h) (T := fun pr pts => cmp_isNaN_int64.T pr x R M) Tryz.func238 (aC_ _ _) (by kernel_rfl) (fun pr pts => by kernel_rfl) fun _ _ => h
noncomputable def item_Put.h : HC := annot (bd Tryz.f239) []
def item_Put.T (pr : Prim) (a : Option Addr) (n : Int) (i : Int) (R : VP) (M : Mem) : Prop := nfz pr (fun _ _ _ _ => False) R (gX PP item_Put.h [] [] (gR Tryz.f239) [(0, .ptr (.v a)), (1, .int .i64 (.v n)), (2, .int .i64 (.v i))] M)
theorem item_Put.go (w0 : World) (a : Option Addr) (n : Int) (i : Int) {R : VP} {M : Mem} (h : item_Put.T (std PP w0) a n i R M) : C PP w0 Id.item_Put #[.pointer a, .int .i64 n, .int .i64 i] R M :=
  goG mixed (h := item_Put.h) (T := fun pr pts => item_Put.T pr a n i R M) Tryz.func239 (aC_ _ _) (by kernel_rfl) (fun pr pts => by kernel_rfl) fun _ _ => h
noncomputable def aA_Cells.h : HC := annot (bd Tryz.f240) []
def aA_Cells.T (pr : Prim) (a : Option Addr) (R : VP) (M : Mem) : Prop := nfz pr (fun _ _ _ _ => False) R (gX PP aA_Cells.h [] [] (gR Tryz.f240) [(0, .ptr (.v a))] M)
theorem aA_Cells.go (w0 : World) (a : Option Addr) {R : VP} {M : Mem} (h : aA_Cells.T (std PP w0) a R M) : C PP w0 Id.aA_Cells #[.pointer a] R M :=
  goG mixed (h := aA_Cells.h) (T := fun pr pts => aA_Cells.T pr a R M) Tryz.func240 (aC_ _ _) (by kernel_rfl) (fun pr pts => by kernel_rfl) fun _ _ => h
noncomputable def le_fix.h : HC := annot (bd Tryz.f241) [([true, true, true], [0, 1, 8])]
def le_fix.Is (pr : Prim) (pts : Pts) (R : VP) : Prop := IsG PP pr pts le_fix.h Tryz.f241 R
abbrev le_fix.J1 (pts : Pts) (a_0 : Option Addr) (n_1 : Int) (low_8 : Int) (M : Mem) : Prop := pts [true, true, true, true] [] [(0, .pointer a_0), (1, .int .i64 n_1), (8, .int .i64 low_8)] M
def le_fix.J1.T (pr : Prim) (pts : Pts) (a_0 : Option Addr) (n_1 : Int) (low_8 : Int) (R : VP) (M : Mem) : Prop := nfz pr pts R (gbody PP le_fix.h (gR Tryz.f241) [true, true, true, true] [] [(0, .ptr (.v a_0)), (1, .int .i64 (.v n_1)), (8, .int .i64 (.v low_8))] M)
theorem le_fix.Is.J1 {pr : Prim} {pts : Pts} {R : VP} (H : le_fix.Is pr pts R) (a_0 : Option Addr) (n_1 : Int) (low_8 : Int) (M : Mem) : le_fix.J1 pts a_0 n_1 low_8 M = le_fix.J1.T pr pts a_0 n_1 low_8 R M := (H _ _ _ _ _ rfl).trans (by kernel_rfl)
def le_fix.T (pr : Prim) (pts : Pts) (a : Option Addr) (n : Int) (R : VP) (M : Mem) : Prop := nfz pr pts R (gX PP le_fix.h [] [] (gR Tryz.f241) [(0, .ptr (.v a)), (1, .int .i64 (.v n))] M)
theorem le_fix.go (w0 : World) (a : Option Addr) (n : Int) {R : VP} {M : Mem} (h : ∀ pts, le_fix.Is (std PP w0) pts R → le_fix.T (std PP w0) pts a n R M) : C PP w0 Id.le_fix #[.pointer a, .int .i64 n] R M :=
  goG mixed (h := le_fix.h) (T := fun pr pts => le_fix.T pr pts a n R M) Tryz.func241 (aC_ _ _) (by kernel_rfl) (fun pr pts => by kernel_rfl) h
end Go.Proofs.YtodobkbnmjgkdaaGreat.HL
namespace Go.Proofs.YtodobkbnmjgkdaaGreat.HL
open Go.Proofs
noncomputable def sSF_.h : HC := annot (bd Tryz.f242) []
def sSF_.T (pr : Prim) (x : SV) (cmp : FuncId × Array Value) (R : VP) (M : Mem) : Prop := nfz pr (fun _ _ _ _ => False) R (gX PP sSF_.h [] [] (gR Tryz.f242) [(0, .sv x), (1, .kf cmp)] M)
theorem sSF_.go (w0 : World) (x : SV) (cmp : FuncId × Array Value) {R : VP} {M : Mem} (h : sSF_.T (std PP w0) x cmp R M) : C PP w0 Id.sSF_ #[SV.v x, .func (.func cmp.1) #[] cmp.2] R M :=
  goG mixed (h := sSF_.h) (T := fun pr pts => sSF_.T pr x cmp R M) Tryz.func242 (aC_ _ _) (by kernel_rfl) (fun pr pts => by kernel_rfl) fun _ _ => h
noncomputable def tC__1.h : HC := annot (bd Tryz.f243) []
def tC__1.T (pr : Prim) (x_0 : Int) (x_1 : Int) (y_0 : Int) (y_1 : Int) (R : VP) (M : Mem) : Prop := nfz pr (fun _ _ _ _ => False) R (gX PP tC__1.h [] [] (gR Tryz.f243) [(0, .agg [.int .i64 (.v x_0), .int .i64 (.v x_1)]), (1, .agg [.int .i64 (.v y_0), .int .i64 (.v y_1)])] M)
theorem tC__1.go (w0 : World) (x_0 : Int) (x_1 : Int) (y_0 : Int) (y_1 : Int) {R : VP} {M : Mem} (h : tC__1.T (std PP w0) x_0 x_1 y_0 y_1 R M) : C PP w0 Id.tC__1 #[.agg #[.int .i64 x_0, .int .i64 x_1], .agg #[.int .i64 y_0, .int .i64 y_1]] R M :=
  goG mixed (h := tC__1.h) (T := fun pr pts => tC__1.T pr x_0 x_1 y_0 y_1 R M) Tryz.func243 (aC_ _ _) (by kernel_rfl) (fun pr pts => by kernel_rfl) fun _ _ => h
noncomputable def trees_Link.h : HC := annot (bd Tryz.f244) [([true], [0, 1, 2, 3])]
def trees_Link.Is (pr : Prim) (pts : Pts) (R : VP) : Prop := IsG PP pr pts trees_Link.h Tryz.f244 R
abbrev trees_Link.J1 (pts : Pts) (a_0 : Option Addr) (n_1 : Int) (m_2 : Int) (rank_3 : Int) (M : Mem) : Prop := pts [true, true] [] [(0, .pointer a_0), (1, .int .i64 n_1), (2, .int .i64 m_2), (3, .int .i64 rank_3)] M
def trees_Link.J1.T (pr : Prim) (pts : Pts) (a_0 : Option Addr) (n_1 : Int) (m_2 : Int) (rank_3 : Int) (R : VP) (M : Mem) : Prop := nfz pr pts R (gbody PP trees_Link.h (gR Tryz.f244) [true, true] [] [(0, .ptr (.v a_0)), (1, .int .i64 (.v n_1)), (2, .int .i64 (.v m_2)), (3, .int .i64 (.v rank_3))] M)
theorem trees_Link.Is.J1 {pr : Prim} {pts : Pts} {R : VP} (H : trees_Link.Is pr pts R) (a_0 : Option Addr) (n_1 : Int) (m_2 : Int) (rank_3 : Int) (M : Mem) : trees_Link.J1 pts a_0 n_1 m_2 rank_3 M = trees_Link.J1.T pr pts a_0 n_1 m_2 rank_3 R M := (H _ _ _ _ _ rfl).trans (by kernel_rfl)
def trees_Link.T (pr : Prim) (pts : Pts) (a : Option Addr) (n : Int) (m : Int) (rank : Int) (R : VP) (M : Mem) : Prop := nfz pr pts R (gX PP trees_Link.h [] [] (gR Tryz.f244) [(0, .ptr (.v a)), (1, .int .i64 (.v n)), (2, .int .i64 (.v m)), (3, .int .i64 (.v rank))] M)
theorem trees_Link.go (w0 : World) (a : Option Addr) (n : Int) (m : Int) (rank : Int) {R : VP} {M : Mem} (h : ∀ pts, trees_Link.Is (std PP w0) pts R → trees_Link.T (std PP w0) pts a n m rank R M) : C PP w0 Id.trees_Link #[.pointer a, .int .i64 n, .int .i64 m, .int .i64 rank] R M :=
  goG mixed (h := trees_Link.h) (T := fun pr pts => trees_Link.T pr pts a n m rank R M) Tryz.func244 (aC_ _ _) (by kernel_rfl) (fun pr pts => by kernel_rfl) h
noncomputable def sl_Inserttr__tr_.h : HC := annot (bd Tryz.f245) []
def sl_Inserttr__tr_.T (pr : Prim) (s : SV) (i : Int) (v : SV) (R : VP) (M : Mem) : Prop := nfz pr (fun _ _ _ _ => False) R (gX PP sl_Inserttr__tr_.h [] [] (gR Tryz.f245) [(0, .sv s), (1, .int .i64 (.v i)), (2, .sv v)] M)
theorem sl_Inserttr__tr_.go (w0 : World) (s : SV) (i : Int) (v : SV) {R : VP} {M : Mem} (h : sl_Inserttr__tr_.T (std PP w0) s i v R M) : C PP w0 Id.sl_Inserttr__tr_ #[SV.v s, .int .i64 i, SV.v v] R M :=
  goG mixed (h := sl_Inserttr__tr_.h) (T := fun pr pts => sl_Inserttr__tr_.T pr s i v R M) Tryz.func245 (aC_ _ _) (by kernel_rfl) (fun pr pts => by kernel_rfl) fun _ _ => h
noncomputable def trees_Row.h : HC := annot (bd Tryz.f246) [([true, true, false, true, false], [0, 1, 5, 6])]
def trees_Row.Is (pr : Prim) (pts : Pts) (R : VP) : Prop := IsG PP pr pts trees_Row.h Tryz.f246 R
abbrev trees_Row.L1 (pts : Pts) (k : Nat) (a_0 : Option Addr) (l_1 : SV) (next_5 : Int) (k_6 : Int) (M : Mem) : Prop := pts [false, false, true, false, true, true] [k] [(0, .pointer a_0), (1, SV.v l_1), (5, .int .i64 next_5), (6, .int .i64 k_6)] M
def trees_Row.L1.T (pr : Prim) (pts : Pts) (k : Nat) (a_0 : Option Addr) (l_1 : SV) (next_5 : Int) (k_6 : Int) (R : VP) (M : Mem) : Prop := nfz pr pts R (gbody PP trees_Row.h (gR Tryz.f246) [false, false, true, false, true, true] [k] [(0, .ptr (.v a_0)), (1, .sv l_1), (5, .int .i64 (.v next_5)), (6, .int .i64 (.v k_6))] M)
theorem trees_Row.Is.L1 {pr : Prim} {pts : Pts} {R : VP} (H : trees_Row.Is pr pts R) (k : Nat) (a_0 : Option Addr) (l_1 : SV) (next_5 : Int) (k_6 : Int) (M : Mem) : trees_Row.L1 pts (k + 1) a_0 l_1 next_5 k_6 M = trees_Row.L1.T pr pts k a_0 l_1 next_5 k_6 R M := (H _ _ _ _ _ rfl).trans (by kernel_rfl)
def trees_Row.T (pr : Prim) (pts : Pts) (a : Option Addr) (l : SV) (R : VP) (M : Mem) : Prop := nfz pr pts R (gX PP trees_Row.h [] [] (gR Tryz.f246) [(0, .ptr (.v a)), (1, .sv l)] M)
theorem trees_Row.go (w0 : World) (a : Option Addr) (l : SV) {R : VP} {M : Mem} (h : ∀ pts, trees_Row.Is (std PP w0) pts R → trees_Row.T (std PP w0) pts a l R M) : C PP w0 Id.trees_Row #[.pointer a, SV.v l] R M :=
  goG mixed (h := trees_Row.h) (T := fun pr pts => trees_Row.T pr pts a l R M) Tryz.func246 (aC_ _ _) (by kernel_rfl) (fun pr pts => by kernel_rfl) h
noncomputable def node_Row.h : HC := annot (bd Tryz.f247) [([true, true, false, false], [0, 1, 2, 7]), ([true, true, false, false, false], [0, 1, 2, 7])]
def node_Row.Is (pr : Prim) (pts : Pts) (R : VP) : Prop := IsG PP pr pts node_Row.h Tryz.f247 R
abbrev node_Row.L1 (pts : Pts) (k : Nat) (a_0 : Option Addr) (n_1 : Int) (field_2 : Int) (out_7 : SV) (M : Mem) : Prop := pts [false, false, false, true, true] [k] [(0, .pointer a_0), (1, .int .i64 n_1), (2, .int .i64 field_2), (7, SV.v out_7)] M
def node_Row.L1.T (pr : Prim) (pts : Pts) (k : Nat) (a_0 : Option Addr) (n_1 : Int) (field_2 : Int) (out_7 : SV) (R : VP) (M : Mem) : Prop := nfz pr pts R (gbody PP node_Row.h (gR Tryz.f247) [false, false, false, true, true] [k] [(0, .ptr (.v a_0)), (1, .int .i64 (.v n_1)), (2, .int .i64 (.v field_2)), (7, .sv out_7)] M)
theorem node_Row.Is.L1 {pr : Prim} {pts : Pts} {R : VP} (H : node_Row.Is pr pts R) (k : Nat) (a_0 : Option Addr) (n_1 : Int) (field_2 : Int) (out_7 : SV) (M : Mem) : node_Row.L1 pts (k + 1) a_0 n_1 field_2 out_7 M = node_Row.L1.T pr pts k a_0 n_1 field_2 out_7 R M := (H _ _ _ _ _ rfl).trans (by kernel_rfl)
abbrev node_Row.J2 (pts : Pts) (k : Nat) (a_0 : Option Addr) (n_1 : Int) (field_2 : Int) (out_7 : SV) (M : Mem) : Prop := pts [true, false, false, false, true, true] [k] [(0, .pointer a_0), (1, .int .i64 n_1), (2, .int .i64 field_2), (7, SV.v out_7)] M
def node_Row.J2.T (pr : Prim) (pts : Pts) (k : Nat) (a_0 : Option Addr) (n_1 : Int) (field_2 : Int) (out_7 : SV) (R : VP) (M : Mem) : Prop := nfz pr pts R (gbody PP node_Row.h (gR Tryz.f247) [true, false, false, false, true, true] [k] [(0, .ptr (.v a_0)), (1, .int .i64 (.v n_1)), (2, .int .i64 (.v field_2)), (7, .sv out_7)] M)
theorem node_Row.Is.J2 {pr : Prim} {pts : Pts} {R : VP} (H : node_Row.Is pr pts R) (k : Nat) (a_0 : Option Addr) (n_1 : Int) (field_2 : Int) (out_7 : SV) (M : Mem) : node_Row.J2 pts k a_0 n_1 field_2 out_7 M = node_Row.J2.T pr pts k a_0 n_1 field_2 out_7 R M := (H _ _ _ _ _ rfl).trans (by kernel_rfl)
def node_Row.T (pr : Prim) (pts : Pts) (a : Option Addr) (n : Int) (field : Int) (R : VP) (M : Mem) : Prop := nfz pr pts R (gX PP node_Row.h [] [] (gR Tryz.f247) [(0, .ptr (.v a)), (1, .int .i64 (.v n)), (2, .int .i64 (.v field))] M)
theorem node_Row.go (w0 : World) (a : Option Addr) (n : Int) (field : Int) {R : VP} {M : Mem} (h : ∀ pts, node_Row.Is (std PP w0) pts R → node_Row.T (std PP w0) pts a n field R M) : C PP w0 Id.node_Row #[.pointer a, .int .i64 n, .int .i64 field] R M :=
  goG mixed (h := node_Row.h) (T := fun pr pts => node_Row.T pr pts a n field R M) Tryz.func247 (aC_ _ _) (by kernel_rfl) (fun pr pts => by kernel_rfl) h
noncomputable def item_Swap.h : HC := annot (bd Tryz.f248) []
def item_Swap.T (pr : Prim) (a : Option Addr) (n : Int) (m : Int) (R : VP) (M : Mem) : Prop := nfz pr (fun _ _ _ _ => False) R (gX PP item_Swap.h [] [] (gR Tryz.f248) [(0, .ptr (.v a)), (1, .int .i64 (.v n)), (2, .int .i64 (.v m))] M)
theorem item_Swap.go (w0 : World) (a : Option Addr) (n : Int) (m : Int) {R : VP} {M : Mem} (h : item_Swap.T (std PP w0) a n m R M) : C PP w0 Id.item_Swap #[.pointer a, .int .i64 n, .int .i64 m] R M :=
  goG mixed (h := item_Swap.h) (T := fun pr pts => item_Swap.T pr a n m R M) Tryz.func248 (aC_ _ _) (by kernel_rfl) (fun pr pts => by kernel_rfl) fun _ _ => h
noncomputable def trees_Under.h : HC := annot (bd Tryz.f249) []
def trees_Under.T (pr : Prim) (a : Option Addr) (n : Int) (up : Int) (R : VP) (M : Mem) : Prop := nfz pr (fun _ _ _ _ => False) R (gX PP trees_Under.h [] [] (gR Tryz.f249) [(0, .ptr (.v a)), (1, .int .i64 (.v n)), (2, .int .i64 (.v up))] M)
theorem trees_Under.go (w0 : World) (a : Option Addr) (n : Int) (up : Int) {R : VP} {M : Mem} (h : trees_Under.T (std PP w0) a n up R M) : C PP w0 Id.trees_Under #[.pointer a, .int .i64 n, .int .i64 up] R M :=
  goG mixed (h := trees_Under.h) (T := fun pr pts => trees_Under.T pr a n up R M) Tryz.func249 (aC_ _ _) (by kernel_rfl) (fun pr pts => by kernel_rfl) fun _ _ => h
noncomputable def dFi_.h : HC := annot (bd Tryz.f251) [([true, true, true, false, true, false], [0, 1, 5, 6])]
def dFi_.Is (pr : Prim) (pts : Pts) (R : VP) : Prop := IsG PP pr pts dFi_.h Tryz.f251 R
abbrev dFi_.L1 (pts : Pts) (k : Nat) (s_0 : SV) (del_1 : FuncId × Array Value) (i_5 : Int) (j_6 : Int) (M : Mem) : Prop := pts [false, false, true, false, true, true, true] [k] [(0, SV.v s_0), (1, kfV del_1), (5, .int .i64 i_5), (6, .int .i64 j_6)] M
def dFi_.L1.T (pr : Prim) (pts : Pts) (k : Nat) (s_0 : SV) (del_1 : FuncId × Array Value) (i_5 : Int) (j_6 : Int) (R : VP) (M : Mem) : Prop := nfz pr pts R (gbody PP dFi_.h (gR Tryz.f251) [false, false, true, false, true, true, true] [k] [(0, .sv s_0), (1, .kf del_1), (5, .int .i64 (.v i_5)), (6, .int .i64 (.v j_6))] M)
theorem dFi_.Is.L1 {pr : Prim} {pts : Pts} {R : VP} (H : dFi_.Is pr pts R) (k : Nat) (s_0 : SV) (del_1 : FuncId × Array Value) (i_5 : Int) (j_6 : Int) (M : Mem) : dFi_.L1 pts (k + 1) s_0 del_1 i_5 j_6 M = dFi_.L1.T pr pts k s_0 del_1 i_5 j_6 R M := (H _ _ _ _ _ rfl).trans (by kernel_rfl)
def dFi_.T (pr : Prim) (pts : Pts) (s : SV) (del : FuncId × Array Value) (R : VP) (M : Mem) : Prop := nfz pr pts R (gX PP dFi_.h [] [] (gR Tryz.f251) [(0, .sv s), (1, .kf del)] M)
theorem dFi_.go (w0 : World) (s : SV) (del : FuncId × Array Value) {R : VP} {M : Mem} (h : ∀ pts, dFi_.Is (std PP w0) pts R → dFi_.T (std PP w0) pts s del R M) : C PP w0 Id.dFi_ #[SV.v s, .func (.func del.1) #[] del.2] R M :=
  goG mixed (h := dFi_.h) (T := fun pr pts => dFi_.T pr pts s del R M) Tryz.func251 (aC_ _ _) (by kernel_rfl) (fun pr pts => by kernel_rfl) h
noncomputable def bi_without_1.h : HC := annot (bd Tryz.f252) []
def bi_without_1.T (pr : Prim) (x : Int) (c1 : Addr) (R : VP) (M : Mem) : Prop := nfz pr (fun _ _ _ _ => False) R (gX PP bi_without_1.h [] [] (gR Tryz.f252) [(0, .int .i64 (.v x)), (1, .ptr (.a (.v c1)))] M)
theorem bi_without_1.go (w0 : World) (x : Int) (c1 : Addr) {R : VP} {M : Mem} (h : bi_without_1.T (std PP w0) x c1 R M) : C PP w0 Id.bi_without_1 #[.int .i64 x, .pointer (some c1)] R M :=
  goG mixed (h := bi_without_1.h) (T := fun pr pts => bi_without_1.T pr x c1 R M) Tryz.func252 (aC_ _ _) (by kernel_rfl) (fun pr pts => by kernel_rfl) fun _ _ => h
noncomputable def trees_Kids.h : HC := annot (bd Tryz.f253) []
def trees_Kids.T (pr : Prim) (a : Option Addr) (n : Int) (R : VP) (M : Mem) : Prop := nfz pr (fun _ _ _ _ => False) R (gX PP trees_Kids.h [] [] (gR Tryz.f253) [(0, .ptr (.v a)), (1, .int .i64 (.v n))] M)
theorem trees_Kids.go (w0 : World) (a : Option Addr) (n : Int) {R : VP} {M : Mem} (h : trees_Kids.T (std PP w0) a n R M) : C PP w0 Id.trees_Kids #[.pointer a, .int .i64 n] R M :=
  goG mixed (h := trees_Kids.h) (T := fun pr pts => trees_Kids.T pr a n R M) Tryz.func253 (aC_ _ _) (by kernel_rfl) (fun pr pts => by kernel_rfl) fun _ _ => h
noncomputable def sW__1.h : HC := annot (bd Tryz.f254) []
def sW__1.T (pr : Prim) (x : Int) (c1 : Addr) (R : VP) (M : Mem) : Prop := nfz pr (fun _ _ _ _ => False) R (gX PP sW__1.h [] [] (gR Tryz.f254) [(0, .int .i64 (.v x)), (1, .ptr (.a (.v c1)))] M)
theorem sW__1.go (w0 : World) (x : Int) (c1 : Addr) {R : VP} {M : Mem} (h : sW__1.T (std PP w0) x c1 R M) : C PP w0 Id.sW__1 #[.int .i64 x, .pointer (some c1)] R M :=
  goG mixed (h := sW__1.h) (T := fun pr pts => sW__1.T pr x c1 R M) Tryz.func254 (aC_ _ _) (by kernel_rfl) (fun pr pts => by kernel_rfl) fun _ _ => h
noncomputable def item_Before.h : HC := annot (bd Tryz.f260) []
def item_Before.T (pr : Prim) (a : Option Addr) (i : Int) (j : Int) (R : VP) (M : Mem) : Prop := nfz pr (fun _ _ _ _ => False) R (gX PP item_Before.h [] [] (gR Tryz.f260) [(0, .ptr (.v a)), (1, .int .i64 (.v i)), (2, .int .i64 (.v j))] M)
theorem item_Before.go (w0 : World) (a : Option Addr) (i : Int) (j : Int) {R : VP} {M : Mem} (h : item_Before.T (std PP w0) a i j R M) : C PP w0 Id.item_Before #[.pointer a, .int .i64 i, .int .i64 j] R M :=
  goG mixed (h := item_Before.h) (T := fun pr pts => item_Before.T pr a i j R M) Tryz.func260 (aC_ _ _) (by kernel_rfl) (fun pr pts => by kernel_rfl) fun _ _ => h
noncomputable def iXi_.h : HC := annot (bd Tryz.f263) [([true, false, true, false], [0, 1, 7, 8])]
def iXi_.Is (pr : Prim) (pts : Pts) (R : VP) : Prop := IsG PP pr pts iXi_.h Tryz.f263 R
abbrev iXi_.L1 (pts : Pts) (k : Nat) (s_0 : SV) (v_1 : Int) (t7 : Int) (t8 : Int) (M : Mem) : Prop := pts [false, false, true, false, true] [k] [(0, SV.v s_0), (1, .int .i64 v_1), (7, .int .i64 t7), (8, .int .i64 t8)] M
def iXi_.L1.T (pr : Prim) (pts : Pts) (k : Nat) (s_0 : SV) (v_1 : Int) (t7 : Int) (t8 : Int) (R : VP) (M : Mem) : Prop := nfz pr pts R (gbody PP iXi_.h (gR Tryz.f263) [false, false, true, false, true] [k] [(0, .sv s_0), (1, .int .i64 (.v v_1)), (7, .int .i64 (.v t7)), (8, .int .i64 (.v t8))] M)
theorem iXi_.Is.L1 {pr : Prim} {pts : Pts} {R : VP} (H : iXi_.Is pr pts R) (k : Nat) (s_0 : SV) (v_1 : Int) (t7 : Int) (t8 : Int) (M : Mem) : iXi_.L1 pts (k + 1) s_0 v_1 t7 t8 M = iXi_.L1.T pr pts k s_0 v_1 t7 t8 R M := (H _ _ _ _ _ rfl).trans (by kernel_rfl)
def iXi_.T (pr : Prim) (pts : Pts) (s : SV) (v : Int) (R : VP) (M : Mem) : Prop := nfz pr pts R (gX PP iXi_.h [] [] (gR Tryz.f263) [(0, .sv s), (1, .int .i64 (.v v))] M)
theorem iXi_.go (w0 : World) (s : SV) (v : Int) {R : VP} {M : Mem} (h : ∀ pts, iXi_.Is (std PP w0) pts R → iXi_.T (std PP w0) pts s v R M) : C PP w0 Id.iXi_ #[SV.v s, .int .i64 v] R M :=
  goG mixed (h := iXi_.h) (T := fun pr pts => iXi_.T pr pts s v R M) Tryz.func263 (aC_ _ _) (by kernel_rfl) (fun pr pts => by kernel_rfl) h
noncomputable def bits_Len64.h : HC := annot ((Tryz.f271.body).getD .skip) [([true], [0, 2]), ([true, true], [0, 2]), ([true, true, true], [0, 2])]
abbrev bits_Len64.J1 (pts : Pts) (x_0 : Int) (n_2 : Int) (M : Mem) : Prop := pts [true, true] [] [(0, .int .u64 x_0), (2, .int .i64 n_2)] M
abbrev bits_Len64.J2 (pts : Pts) (x_0 : Int) (n_2 : Int) (M : Mem) : Prop := pts [true, true, true] [] [(0, .int .u64 x_0), (2, .int .i64 n_2)] M
abbrev bits_Len64.J3 (pts : Pts) (x_0 : Int) (n_2 : Int) (M : Mem) : Prop := pts [true, true, true, true] [] [(0, .int .u64 x_0), (2, .int .i64 n_2)] M
def bits_Len64.pts (pr : Prim) (R : VP) : Pts := ptsR PP pr bits_Len64.h (retH pr Tryz.f271.results.toList R)
def bits_Len64.J1.T (pr : Prim) (pts : Pts) (x_0 : Int) (n_2 : Int) (R : VP) (M : Mem) : Prop := bs (decide (x_0 ≥ 65536)) ((0 ≤ (16 : Int) ∧ bits_Len64.J2 pts (Int.fdiv x_0 (2 ^ (min (16 : Int).toNat (IntKind.bits .u64)))) (w64 (n_2 + 16)) M)) (bits_Len64.J2 pts x_0 n_2 M)
theorem bits_Len64.J1.eqX (pr : Prim) (pts : Pts) (x_0 : Int) (n_2 : Int) (R : VP) (M : Mem) : bodyX PP pr pts bits_Len64.h (retH pr Tryz.f271.results.toList R) [true, true] [] [(0, .int .u64 x_0), (2, .int .i64 n_2)] M = bits_Len64.J1.T pr pts x_0 n_2 R M := by kernel_rfl
theorem bits_Len64.J1.eq (pr : Prim) (x_0 : Int) (n_2 : Int) (R : VP) (M : Mem) : bits_Len64.J1 (bits_Len64.pts pr R) x_0 n_2 M = bits_Len64.J1.T pr (bits_Len64.pts pr R) x_0 n_2 R M :=
  (ptsR_eq (b := true) (p := [true]) (ns := []) rfl _ _).trans (bits_Len64.J1.eqX pr (bits_Len64.pts pr R) x_0 n_2 R M)
def bits_Len64.J2.T (pr : Prim) (pts : Pts) (x_0 : Int) (n_2 : Int) (R : VP) (M : Mem) : Prop := bs (decide (x_0 ≥ 256)) ((0 ≤ (8 : Int) ∧ bits_Len64.J3 pts (Int.fdiv x_0 (2 ^ (min (8 : Int).toNat (IntKind.bits .u64)))) (w64 (n_2 + 8)) M)) (bits_Len64.J3 pts x_0 n_2 M)
theorem bits_Len64.J2.eqX (pr : Prim) (pts : Pts) (x_0 : Int) (n_2 : Int) (R : VP) (M : Mem) : bodyX PP pr pts bits_Len64.h (retH pr Tryz.f271.results.toList R) [true, true, true] [] [(0, .int .u64 x_0), (2, .int .i64 n_2)] M = bits_Len64.J2.T pr pts x_0 n_2 R M := by kernel_rfl
theorem bits_Len64.J2.eq (pr : Prim) (x_0 : Int) (n_2 : Int) (R : VP) (M : Mem) : bits_Len64.J2 (bits_Len64.pts pr R) x_0 n_2 M = bits_Len64.J2.T pr (bits_Len64.pts pr R) x_0 n_2 R M :=
  (ptsR_eq (b := true) (p := [true, true]) (ns := []) rfl _ _).trans (bits_Len64.J2.eqX pr (bits_Len64.pts pr R) x_0 n_2 R M)
def bits_Len64.J3.T (pr : Prim) (pts : Pts) (x_0 : Int) (n_2 : Int) (R : VP) (M : Mem) : Prop := ob (pr.idx 9 (Value.string ⟨(([0, 1, 2, 2, 3, 3, 3, 3, 4, 4, 4, 4, 4, 4, 4, 4, 5, 5, 5, 5, 5, 5, 5, 5, 5, 5, 5, 5, 5, 5, 5, 5, 6, 6, 6, 6, 6, 6, 6, 6, 6, 6, 6, 6, 6, 6, 6, 6, 6, 6, 6, 6, 6, 6, 6, 6, 6, 6, 6, 6, 6, 6, 6, 6, 7, 7, 7, 7, 7, 7, 7, 7, 7, 7, 7, 7, 7, 7, 7, 7, 7, 7, 7, 7, 7, 7, 7, 7, 7, 7, 7, 7, 7, 7, 7, 7, 7, 7, 7, 7, 7, 7, 7, 7, 7, 7, 7, 7, 7, 7, 7, 7, 7, 7, 7, 7, 7, 7, 7, 7, 7, 7, 7, 7, 7, 7, 7, 7, 8, 8, 8, 8, 8, 8, 8, 8, 8, 8, 8, 8, 8, 8, 8, 8, 8, 8, 8, 8, 8, 8, 8, 8, 8, 8, 8, 8, 8, 8, 8, 8, 8, 8, 8, 8, 8, 8, 8, 8, 8, 8, 8, 8, 8, 8, 8, 8, 8, 8, 8, 8, 8, 8, 8, 8, 8, 8, 8, 8, 8, 8, 8, 8, 8, 8, 8, 8, 8, 8, 8, 8, 8, 8, 8, 8, 8, 8, 8, 8, 8, 8, 8, 8, 8, 8, 8, 8, 8, 8, 8, 8, 8, 8, 8, 8, 8, 8, 8, 8, 8, 8, 8, 8, 8, 8, 8, 8, 8, 8, 8, 8, 8, 8, 8, 8, 8, 8, 8, 8, 8, 8, 8, 8, 8, 8, 8, 8] : List UInt8)).toArray⟩) (.int .u8 (IntKind.wrap .u8 (x_0)))) fun v1 => shI .u8 v1 fun n2 => R (.int .i64 (w64 (n_2 + (w64 (n2))))) M
theorem bits_Len64.J3.eqX (pr : Prim) (pts : Pts) (x_0 : Int) (n_2 : Int) (R : VP) (M : Mem) : bodyX PP pr pts bits_Len64.h (retH pr Tryz.f271.results.toList R) [true, true, true, true] [] [(0, .int .u64 x_0), (2, .int .i64 n_2)] M = bits_Len64.J3.T pr pts x_0 n_2 R M := by kernel_rfl
theorem bits_Len64.J3.eq (pr : Prim) (x_0 : Int) (n_2 : Int) (R : VP) (M : Mem) : bits_Len64.J3 (bits_Len64.pts pr R) x_0 n_2 M = bits_Len64.J3.T pr (bits_Len64.pts pr R) x_0 n_2 R M :=
  (ptsR_eq (b := true) (p := [true, true, true]) (ns := []) rfl _ _).trans (bits_Len64.J3.eqX pr (bits_Len64.pts pr R) x_0 n_2 R M)
structure bits_Len64.Is (pr : Prim) (pts : Pts) (R : VP) : Prop where
  J1 : ∀ (x_0 : Int) (n_2 : Int) (M : Mem), bits_Len64.J1 pts x_0 n_2 M = bits_Len64.J1.T pr pts x_0 n_2 R M
  J2 : ∀ (x_0 : Int) (n_2 : Int) (M : Mem), bits_Len64.J2 pts x_0 n_2 M = bits_Len64.J2.T pr pts x_0 n_2 R M
  J3 : ∀ (x_0 : Int) (n_2 : Int) (M : Mem), bits_Len64.J3 pts x_0 n_2 M = bits_Len64.J3.T pr pts x_0 n_2 R M
theorem bits_Len64.is (pr : Prim) (R : VP) : bits_Len64.Is pr (bits_Len64.pts pr R) R := ⟨fun x_0 n_2 M => bits_Len64.J1.eq pr x_0 n_2 R M, fun x_0 n_2 M => bits_Len64.J2.eq pr x_0 n_2 R M, fun x_0 n_2 M => bits_Len64.J3.eq pr x_0 n_2 R M⟩
def bits_Len64.T (pr : Prim) (pts : Pts) (x : Int) (R : VP) (M : Mem) : Prop := bs (decide (x ≥ 4294967296)) ((0 ≤ (32 : Int) ∧ bits_Len64.J1 pts (Int.fdiv x (2 ^ (min (32 : Int).toNat (IntKind.bits .u64)))) 32 M)) (bits_Len64.J1 pts x 0 M)
theorem bits_Len64.eqX (pr : Prim) (pts : Pts) (x : Int) (R : VP) (M : Mem) : wpX PP pr pts bits_Len64.h [] [] (retH pr Tryz.f271.results.toList R) (argEnv 0 [.int .u64 x]) M = bits_Len64.T pr pts x R M := by kernel_rfl
theorem bits_Len64.eq (pr : Prim) (x : Int) (R : VP) (M : Mem) : wpH PP pr bits_Len64.h (retH pr Tryz.f271.results.toList R) (argEnv 0 [.int .u64 x]) M = bits_Len64.T pr (bits_Len64.pts pr R) x R M := root_eq.trans (bits_Len64.eqX pr (bits_Len64.pts pr R) x R M)
theorem bits_Len64.fn : PP.funcs[Id.bits_Len64]? = some Tryz.f271 := Tryz.func271
theorem bits_Len64.can : callable PP Id.bits_Len64 = true := by kernel_rfl
theorem bits_Len64.good : okH Tryz.f271.ntmps bits_Len64.h = true := by kernel_rfl
theorem bits_Len64.body : Tryz.f271.body = some ((Tryz.f271.body).getD .skip) := by kernel_rfl
theorem bits_Len64.size : (1 : Nat) ≤ Tryz.f271.ntmps := by decide
theorem bits_Len64.go (w0 : World) (x : Int) {R : VP} {M : Mem} (h : ∀ pts, bits_Len64.Is (std PP w0) pts R → bits_Len64.T (std PP w0) pts x R M) : C PP w0 Id.bits_Len64 #[.int .u64 x] R M :=
  C_intro mixed bits_Len64.fn bits_Len64.body bits_Len64.can (aC_ _ _) bits_Len64.good bits_Len64.size ((bits_Len64.eq (std PP w0) x R M).mpr (h _ (bits_Len64.is _ _)))
noncomputable def pP_Give_jj.h : HC := annot (bd Tryz.f272) []
def pP_Give_jj.T (pr : Prim) (p : Option Addr) (r_0 : Int) (r_1 : Int) (R : VP) (M : Mem) : Prop := nfz pr (fun _ _ _ _ => False) R (gX PP pP_Give_jj.h [] [] (gR Tryz.f272) [(0, .ptr (.v p)), (1, .agg [.int .i64 (.v r_0), .int .i64 (.v r_1)])] M)
theorem pP_Give_jj.go (w0 : World) (p : Option Addr) (r_0 : Int) (r_1 : Int) {R : VP} {M : Mem} (h : pP_Give_jj.T (std PP w0) p r_0 r_1 R M) : C PP w0 Id.pP_Give_jj #[.pointer p, .agg #[.int .i64 r_0, .int .i64 r_1]] R M :=
  goG mixed (h := pP_Give_jj.h) (T := fun pr pts => pP_Give_jj.T pr p r_0 r_1 R M) Tryz.func272 (aC_ _ _) (by kernel_rfl) (fun pr pts => by kernel_rfl) fun _ _ => h
noncomputable def le_rank.h : HC := annot (bd Tryz.f274) []
def le_rank.T (pr : Prim) (a : Option Addr) (n : Int) (R : VP) (M : Mem) : Prop := nfz pr (fun _ _ _ _ => False) R (gX PP le_rank.h [] [] (gR Tryz.f274) [(0, .ptr (.v a)), (1, .int .i64 (.v n))] M)
theorem le_rank.go (w0 : World) (a : Option Addr) (n : Int) {R : VP} {M : Mem} (h : le_rank.T (std PP w0) a n R M) : C PP w0 Id.le_rank #[.pointer a, .int .i64 n] R M :=
  goG mixed (h := le_rank.h) (T := fun pr pts => le_rank.T pr a n R M) Tryz.func274 (aC_ _ _) (by kernel_rfl) (fun pr pts => by kernel_rfl) fun _ _ => h
end Go.Proofs.YtodobkbnmjgkdaaGreat.HL
namespace Go.Proofs.YtodobkbnmjgkdaaGreat.HL
open Go.Proofs
noncomputable def sCF_.h : HC := annot (bd Tryz.f275) [([true, true, false, false], [0, 1, 2, 6, 7, 8]), ([true, true, true, true, false], [0, 1, 2, 6]), ([true, true, true, true, false, false, true, false, true, false, false], [0, 1, 2, 6, 7, 8])]
def sCF_.Is (pr : Prim) (pts : Pts) (R : VP) : Prop := IsG PP pr pts sCF_.h Tryz.f275 R
abbrev sCF_.L1 (pts : Pts) (k : Nat) (data_0 : SV) (n_1 : Int) (cmp_2 : FuncId × Array Value) (blockSize_6 : Int) (a_7 : Int) (b_8 : Int) (M : Mem) : Prop := pts [false, false, false, true, true] [k] [(0, SV.v data_0), (1, .int .i64 n_1), (2, kfV cmp_2), (6, .int .i64 blockSize_6), (7, .int .i64 a_7), (8, .int .i64 b_8)] M
def sCF_.L1.T (pr : Prim) (pts : Pts) (k : Nat) (data_0 : SV) (n_1 : Int) (cmp_2 : FuncId × Array Value) (blockSize_6 : Int) (a_7 : Int) (b_8 : Int) (R : VP) (M : Mem) : Prop := nfz pr pts R (gbody PP sCF_.h (gR Tryz.f275) [false, false, false, true, true] [k] [(0, .sv data_0), (1, .int .i64 (.v n_1)), (2, .kf cmp_2), (6, .int .i64 (.v blockSize_6)), (7, .int .i64 (.v a_7)), (8, .int .i64 (.v b_8))] M)
theorem sCF_.Is.L1 {pr : Prim} {pts : Pts} {R : VP} (H : sCF_.Is pr pts R) (k : Nat) (data_0 : SV) (n_1 : Int) (cmp_2 : FuncId × Array Value) (blockSize_6 : Int) (a_7 : Int) (b_8 : Int) (M : Mem) : sCF_.L1 pts (k + 1) data_0 n_1 cmp_2 blockSize_6 a_7 b_8 M = sCF_.L1.T pr pts k data_0 n_1 cmp_2 blockSize_6 a_7 b_8 R M := (H _ _ _ _ _ rfl).trans (by kernel_rfl)
abbrev sCF_.L2 (pts : Pts) (k : Nat) (data_0 : SV) (n_1 : Int) (cmp_2 : FuncId × Array Value) (blockSize_6 : Int) (M : Mem) : Prop := pts [false, false, true, true, true, true] [k] [(0, SV.v data_0), (1, .int .i64 n_1), (2, kfV cmp_2), (6, .int .i64 blockSize_6)] M
def sCF_.L2.T (pr : Prim) (pts : Pts) (k : Nat) (data_0 : SV) (n_1 : Int) (cmp_2 : FuncId × Array Value) (blockSize_6 : Int) (R : VP) (M : Mem) : Prop := nfz pr pts R (gbody PP sCF_.h (gR Tryz.f275) [false, false, true, true, true, true] [k] [(0, .sv data_0), (1, .int .i64 (.v n_1)), (2, .kf cmp_2), (6, .int .i64 (.v blockSize_6))] M)
theorem sCF_.Is.L2 {pr : Prim} {pts : Pts} {R : VP} (H : sCF_.Is pr pts R) (k : Nat) (data_0 : SV) (n_1 : Int) (cmp_2 : FuncId × Array Value) (blockSize_6 : Int) (M : Mem) : sCF_.L2 pts (k + 1) data_0 n_1 cmp_2 blockSize_6 M = sCF_.L2.T pr pts k data_0 n_1 cmp_2 blockSize_6 R M := (H _ _ _ _ _ rfl).trans (by kernel_rfl)
def sCF_.T (pr : Prim) (pts : Pts) (data : SV) (n : Int) (cmp : FuncId × Array Value) (R : VP) (M : Mem) : Prop := nfz pr pts R (gX PP sCF_.h [] [] (gR Tryz.f275) [(0, .sv data), (1, .int .i64 (.v n)), (2, .kf cmp)] M)
theorem sCF_.go (w0 : World) (data : SV) (n : Int) (cmp : FuncId × Array Value) {R : VP} {M : Mem} (h : ∀ pts, sCF_.Is (std PP w0) pts R → sCF_.T (std PP w0) pts data n cmp R M) : C PP w0 Id.sCF_ #[SV.v data, .int .i64 n, .func (.func cmp.1) #[] cmp.2] R M :=
  goG mixed (h := sCF_.h) (T := fun pr pts => sCF_.T pr pts data n cmp R M) Tryz.func275 (aC_ _ _) (by kernel_rfl) (fun pr pts => by kernel_rfl) h
noncomputable def iFi_.h : HC := annot (bd Tryz.f278) [([true, false, true, false], [0, 1, 7, 8])]
def iFi_.Is (pr : Prim) (pts : Pts) (R : VP) : Prop := IsG PP pr pts iFi_.h Tryz.f278 R
abbrev iFi_.L1 (pts : Pts) (k : Nat) (s_0 : SV) (f_1 : FuncId × Array Value) (t7 : Int) (t8 : Int) (M : Mem) : Prop := pts [false, false, true, false, true] [k] [(0, SV.v s_0), (1, kfV f_1), (7, .int .i64 t7), (8, .int .i64 t8)] M
def iFi_.L1.T (pr : Prim) (pts : Pts) (k : Nat) (s_0 : SV) (f_1 : FuncId × Array Value) (t7 : Int) (t8 : Int) (R : VP) (M : Mem) : Prop := nfz pr pts R (gbody PP iFi_.h (gR Tryz.f278) [false, false, true, false, true] [k] [(0, .sv s_0), (1, .kf f_1), (7, .int .i64 (.v t7)), (8, .int .i64 (.v t8))] M)
theorem iFi_.Is.L1 {pr : Prim} {pts : Pts} {R : VP} (H : iFi_.Is pr pts R) (k : Nat) (s_0 : SV) (f_1 : FuncId × Array Value) (t7 : Int) (t8 : Int) (M : Mem) : iFi_.L1 pts (k + 1) s_0 f_1 t7 t8 M = iFi_.L1.T pr pts k s_0 f_1 t7 t8 R M := (H _ _ _ _ _ rfl).trans (by kernel_rfl)
def iFi_.T (pr : Prim) (pts : Pts) (s : SV) (f : FuncId × Array Value) (R : VP) (M : Mem) : Prop := nfz pr pts R (gX PP iFi_.h [] [] (gR Tryz.f278) [(0, .sv s), (1, .kf f)] M)
theorem iFi_.go (w0 : World) (s : SV) (f : FuncId × Array Value) {R : VP} {M : Mem} (h : ∀ pts, iFi_.Is (std PP w0) pts R → iFi_.T (std PP w0) pts s f R M) : C PP w0 Id.iFi_ #[SV.v s, .func (.func f.1) #[] f.2] R M :=
  goG mixed (h := iFi_.h) (T := fun pr pts => iFi_.T pr pts s f R M) Tryz.func278 (aC_ _ _) (by kernel_rfl) (fun pr pts => by kernel_rfl) h
noncomputable def item_Entry.h : HC := annot (bd Tryz.f283) []
def item_Entry.T (pr : Prim) (a : Option Addr) (i : Int) (R : VP) (M : Mem) : Prop := nfz pr (fun _ _ _ _ => False) R (gX PP item_Entry.h [] [] (gR Tryz.f283) [(0, .ptr (.v a)), (1, .int .i64 (.v i))] M)
theorem item_Entry.go (w0 : World) (a : Option Addr) (i : Int) {R : VP} {M : Mem} (h : item_Entry.T (std PP w0) a i R M) : C PP w0 Id.item_Entry #[.pointer a, .int .i64 i] R M :=
  goG mixed (h := item_Entry.h) (T := fun pr pts => item_Entry.T pr a i R M) Tryz.func283 (aC_ _ _) (by kernel_rfl) (fun pr pts => by kernel_rfl) fun _ _ => h
noncomputable def iSF_.h : HC := annot (bd Tryz.f287) [([true, false], [0, 1, 2, 3, 8]), ([true, false, false, true, false, false, true, false], [0, 1, 2, 3, 8, 9]), ([true, false, false, true, false, false, true, false, false], [0, 1, 2, 3, 8, 9])]
def iSF_.Is (pr : Prim) (pts : Pts) (R : VP) : Prop := IsG PP pr pts iSF_.h Tryz.f287 R
abbrev iSF_.L1 (pts : Pts) (k : Nat) (data_0 : SV) (a_1 : Int) (b_2 : Int) (cmp_3 : FuncId × Array Value) (i_8 : Int) (M : Mem) : Prop := pts [false, false, true] [k] [(0, SV.v data_0), (1, .int .i64 a_1), (2, .int .i64 b_2), (3, kfV cmp_3), (8, .int .i64 i_8)] M
def iSF_.L1.T (pr : Prim) (pts : Pts) (k : Nat) (data_0 : SV) (a_1 : Int) (b_2 : Int) (cmp_3 : FuncId × Array Value) (i_8 : Int) (R : VP) (M : Mem) : Prop := nfz pr pts R (gbody PP iSF_.h (gR Tryz.f287) [false, false, true] [k] [(0, .sv data_0), (1, .int .i64 (.v a_1)), (2, .int .i64 (.v b_2)), (3, .kf cmp_3), (8, .int .i64 (.v i_8))] M)
theorem iSF_.Is.L1 {pr : Prim} {pts : Pts} {R : VP} (H : iSF_.Is pr pts R) (k : Nat) (data_0 : SV) (a_1 : Int) (b_2 : Int) (cmp_3 : FuncId × Array Value) (i_8 : Int) (M : Mem) : iSF_.L1 pts (k + 1) data_0 a_1 b_2 cmp_3 i_8 M = iSF_.L1.T pr pts k data_0 a_1 b_2 cmp_3 i_8 R M := (H _ _ _ _ _ rfl).trans (by kernel_rfl)
abbrev iSF_.L2 (pts : Pts) (k : Nat) (k' : Nat) (data_0 : SV) (a_1 : Int) (b_2 : Int) (cmp_3 : FuncId × Array Value) (i_8 : Int) (j_9 : Int) (M : Mem) : Prop := pts [false, false, true, false, false, true, false, false, true] [k', k] [(0, SV.v data_0), (1, .int .i64 a_1), (2, .int .i64 b_2), (3, kfV cmp_3), (8, .int .i64 i_8), (9, .int .i64 j_9)] M
def iSF_.L2.T (pr : Prim) (pts : Pts) (k : Nat) (k' : Nat) (data_0 : SV) (a_1 : Int) (b_2 : Int) (cmp_3 : FuncId × Array Value) (i_8 : Int) (j_9 : Int) (R : VP) (M : Mem) : Prop := nfz pr pts R (gbody PP iSF_.h (gR Tryz.f287) [false, false, true, false, false, true, false, false, true] [k', k] [(0, .sv data_0), (1, .int .i64 (.v a_1)), (2, .int .i64 (.v b_2)), (3, .kf cmp_3), (8, .int .i64 (.v i_8)), (9, .int .i64 (.v j_9))] M)
theorem iSF_.Is.L2 {pr : Prim} {pts : Pts} {R : VP} (H : iSF_.Is pr pts R) (k : Nat) (k' : Nat) (data_0 : SV) (a_1 : Int) (b_2 : Int) (cmp_3 : FuncId × Array Value) (i_8 : Int) (j_9 : Int) (M : Mem) : iSF_.L2 pts k (k' + 1) data_0 a_1 b_2 cmp_3 i_8 j_9 M = iSF_.L2.T pr pts k k' data_0 a_1 b_2 cmp_3 i_8 j_9 R M := (H _ _ _ _ _ rfl).trans (by kernel_rfl)
abbrev iSF_.J3 (pts : Pts) (k : Nat) (k' : Nat) (data_0 : SV) (a_1 : Int) (b_2 : Int) (cmp_3 : FuncId × Array Value) (i_8 : Int) (j_9 : Int) (M : Mem) : Prop := pts [true, false, false, true, false, false, true, false, false, true] [k', k] [(0, SV.v data_0), (1, .int .i64 a_1), (2, .int .i64 b_2), (3, kfV cmp_3), (8, .int .i64 i_8), (9, .int .i64 j_9)] M
def iSF_.J3.T (pr : Prim) (pts : Pts) (k : Nat) (k' : Nat) (data_0 : SV) (a_1 : Int) (b_2 : Int) (cmp_3 : FuncId × Array Value) (i_8 : Int) (j_9 : Int) (R : VP) (M : Mem) : Prop := nfz pr pts R (gbody PP iSF_.h (gR Tryz.f287) [true, false, false, true, false, false, true, false, false, true] [k', k] [(0, .sv data_0), (1, .int .i64 (.v a_1)), (2, .int .i64 (.v b_2)), (3, .kf cmp_3), (8, .int .i64 (.v i_8)), (9, .int .i64 (.v j_9))] M)
theorem iSF_.Is.J3 {pr : Prim} {pts : Pts} {R : VP} (H : iSF_.Is pr pts R) (k : Nat) (k' : Nat) (data_0 : SV) (a_1 : Int) (b_2 : Int) (cmp_3 : FuncId × Array Value) (i_8 : Int) (j_9 : Int) (M : Mem) : iSF_.J3 pts k k' data_0 a_1 b_2 cmp_3 i_8 j_9 M = iSF_.J3.T pr pts k k' data_0 a_1 b_2 cmp_3 i_8 j_9 R M := (H _ _ _ _ _ rfl).trans (by kernel_rfl)
def iSF_.T (pr : Prim) (pts : Pts) (data : SV) (a : Int) (b : Int) (cmp : FuncId × Array Value) (R : VP) (M : Mem) : Prop := nfz pr pts R (gX PP iSF_.h [] [] (gR Tryz.f287) [(0, .sv data), (1, .int .i64 (.v a)), (2, .int .i64 (.v b)), (3, .kf cmp)] M)
theorem iSF_.go (w0 : World) (data : SV) (a : Int) (b : Int) (cmp : FuncId × Array Value) {R : VP} {M : Mem} (h : ∀ pts, iSF_.Is (std PP w0) pts R → iSF_.T (std PP w0) pts data a b cmp R M) : C PP w0 Id.iSF_ #[SV.v data, .int .i64 a, .int .i64 b, .func (.func cmp.1) #[] cmp.2] R M :=
  goG mixed (h := iSF_.h) (T := fun pr pts => iSF_.T pr pts data a b cmp R M) Tryz.func287 (aC_ _ _) (by kernel_rfl) (fun pr pts => by kernel_rfl) h
end Go.Proofs.YtodobkbnmjgkdaaGreat.HL
