/-
  Printed by gen.py (a program of this work) out of Lean's own print of the program: what each function's code comes to over the heap logic; each equation is checked by the kernel.
-/
import Derived.Test.YtbkicgfgpmekeaaGenId
set_option linter.unusedVariables false
set_option maxRecDepth 100000
namespace Go.Proofs.Ytbkicgfgpmekeaa.HL
open Go.Proofs
-- thicket/node.Below
noncomputable def node_Below.h : HC := annot ((Try.f79.body).getD .skip) [([true, true, true, true, false, false], [0, 2, 7, 8, 9]), ([true, true, true, true, false, false, false, true, false, true, true], [0, 2, 7, 8, 9, 10])]
abbrev node_Below.L1 (pts : Pts) (k : Nat) (a_0 : Option Addr) (kids_2 : FuncId × Array Value) (seen_7 : SV) (out_8 : SV) (wait_9 : SV) (M : Mem) : Prop := pts [false, false, false, true, true, true, true] [k] [(0, .pointer a_0), (2, .func (.func kids_2.1) #[] kids_2.2), (7, SV.v seen_7), (8, SV.v out_8), (9, SV.v wait_9)] M
abbrev node_Below.J2 (pts : Pts) (k : Nat) (a_0 : Option Addr) (kids_2 : FuncId × Array Value) (seen_7 : SV) (out_8 : SV) (wait_9 : SV) (n_10 : Int) (M : Mem) : Prop := pts [true, true, true, false, true, false, false, false, true, true, true, true] [k] [(0, .pointer a_0), (2, .func (.func kids_2.1) #[] kids_2.2), (7, SV.v seen_7), (8, SV.v out_8), (9, SV.v wait_9), (10, .int .i64 n_10)] M
def node_Below.pts (pr : Prim) (R : Value → Mem → Prop) : Pts := ptsR PP pr node_Below.h (retH pr Try.f79.results.toList R)
def node_Below.L1.T (pr : Prim) (pts : Pts) (k : Nat) (a_0 : Option Addr) (kids_2 : FuncId × Array Value) (seen_7 : SV) (out_8 : SV) (wait_9 : SV) (R : Value → Mem → Prop) (M : Mem) : Prop := bs (decide (((wait_9.n : Nat) : Int) > 0)) (nc wait_9.a fun a11 => (0 ≤ (w64 (((wait_9.n : Nat) : Int) - 1)) ∧ (w64 (((wait_9.n : Nat) : Int) - 1)) < ((wait_9.n : Nat) : Int)) ∧ ob (pr.ld 3 (a11.add ((w64 (((wait_9.n : Nat) : Int) - 1)).toNat * 1)) M) fun v12 => shI .i64 v12 fun n13 => (0 ≤ (0 : Int) ∧ (0 : Int) ≤ (w64 (((wait_9.n : Nat) : Int) - 1)) ∧ (w64 (((wait_9.n : Nat) : Int) - 1)) ≤ ((wait_9.c : Nat) : Int)) ∧ pr.call Id.arena_Arena_Live #[.pointer a_0, .int .i64 n13] (fun v14 M15 => shB v14 fun b16 => bs (!b16) (node_Below.L1 pts k a_0 kids_2 seen_7 out_8 ⟨(if wait_9.c = (0 : Int).toNat then wait_9.a else wait_9.a.map (·.add ((0 : Int).toNat * 1))), ((w64 (((wait_9.n : Nat) : Int) - 1)).toNat - (0 : Int).toNat), (wait_9.c - (0 : Int).toNat)⟩ M15) (nc seen_7.a fun a17 => (0 ≤ n13 ∧ n13 < ((seen_7.n : Nat) : Int)) ∧ ob (pr.ld 4 (a17.add (n13.toNat * 1)) M15) fun v18 => shB v18 fun b19 => bs b19 (node_Below.L1 pts k a_0 kids_2 seen_7 out_8 ⟨(if wait_9.c = (0 : Int).toNat then wait_9.a else wait_9.a.map (·.add ((0 : Int).toNat * 1))), ((w64 (((wait_9.n : Nat) : Int) - 1)).toNat - (0 : Int).toNat), (wait_9.c - (0 : Int).toNat)⟩ M15) (node_Below.J2 pts k a_0 kids_2 seen_7 out_8 ⟨(if wait_9.c = (0 : Int).toNat then wait_9.a else wait_9.a.map (·.add ((0 : Int).toNat * 1))), ((w64 (((wait_9.n : Nat) : Int) - 1)).toNat - (0 : Int).toNat), (wait_9.c - (0 : Int).toNat)⟩ n13 M15))) M) (R (SV.v out_8) M)
theorem node_Below.L1.zero (pr : Prim) (a_0 : Option Addr) (kids_2 : FuncId × Array Value) (seen_7 : SV) (out_8 : SV) (wait_9 : SV) (R : Value → Mem → Prop) (M : Mem) : node_Below.L1 (node_Below.pts pr R) 0 a_0 kids_2 seen_7 out_8 wait_9 M = False :=
  (ptsR_eq (b := false) (p := [false, false, true, true, true, true]) (ns := [0]) rfl _ _).trans (by kernel_rfl)
theorem node_Below.L1.eqX (pr : Prim) (pts : Pts) (k : Nat) (a_0 : Option Addr) (kids_2 : FuncId × Array Value) (seen_7 : SV) (out_8 : SV) (wait_9 : SV) (R : Value → Mem → Prop) (M : Mem) : bodyX PP pr pts node_Below.h (retH pr Try.f79.results.toList R) [false, false, false, true, true, true, true] [k + 1] [(0, .pointer a_0), (2, .func (.func kids_2.1) #[] kids_2.2), (7, SV.v seen_7), (8, SV.v out_8), (9, SV.v wait_9)] M = node_Below.L1.T pr pts k a_0 kids_2 seen_7 out_8 wait_9 R M := by kernel_rfl
theorem node_Below.L1.succ (pr : Prim) (k : Nat) (a_0 : Option Addr) (kids_2 : FuncId × Array Value) (seen_7 : SV) (out_8 : SV) (wait_9 : SV) (R : Value → Mem → Prop) (M : Mem) : node_Below.L1 (node_Below.pts pr R) (k + 1) a_0 kids_2 seen_7 out_8 wait_9 M = node_Below.L1.T pr (node_Below.pts pr R) k a_0 kids_2 seen_7 out_8 wait_9 R M :=
  (ptsR_eq (b := false) (p := [false, false, true, true, true, true]) (ns := [k + 1]) rfl _ _).trans (node_Below.L1.eqX pr (node_Below.pts pr R) k a_0 kids_2 seen_7 out_8 wait_9 R M)
def node_Below.J2.T (pr : Prim) (pts : Pts) (k : Nat) (a_0 : Option Addr) (kids_2 : FuncId × Array Value) (seen_7 : SV) (out_8 : SV) (wait_9 : SV) (n_10 : Int) (R : Value → Mem → Prop) (M : Mem) : Prop := nc seen_7.a fun a20 => (0 ≤ n_10 ∧ n_10 < ((seen_7.n : Nat) : Int)) ∧ pr.st 4 (a20.add (n_10.toNat * 1)) (.bool true) (fun M21 => pr.bsl 53 1 [(0, .int .i64 n_10)] (fun v22 M23 => shS v22 fun s24 => pr.app #[53, 53] 53 [SV.v out_8, SV.v s24] (fun v25 M26 => shS v25 fun s27 => pr.call kids_2.1 (([.int .i64 n_10] : List Value) ++ kids_2.2.toList).toArray (fun v28 M29 => shS v28 fun s30 => pr.app #[53, 53] 53 [SV.v wait_9, SV.v s30] (fun v31 M32 => shS v31 fun s33 => node_Below.L1 pts k a_0 kids_2 seen_7 s27 s33 M32) M29) M26) M23) M21) M
theorem node_Below.J2.eqX (pr : Prim) (pts : Pts) (k : Nat) (a_0 : Option Addr) (kids_2 : FuncId × Array Value) (seen_7 : SV) (out_8 : SV) (wait_9 : SV) (n_10 : Int) (R : Value → Mem → Prop) (M : Mem) : bodyX PP pr pts node_Below.h (retH pr Try.f79.results.toList R) [true, true, true, false, true, false, false, false, true, true, true, true] [k] [(0, .pointer a_0), (2, .func (.func kids_2.1) #[] kids_2.2), (7, SV.v seen_7), (8, SV.v out_8), (9, SV.v wait_9), (10, .int .i64 n_10)] M = node_Below.J2.T pr pts k a_0 kids_2 seen_7 out_8 wait_9 n_10 R M := by kernel_rfl
theorem node_Below.J2.eq (pr : Prim) (k : Nat) (a_0 : Option Addr) (kids_2 : FuncId × Array Value) (seen_7 : SV) (out_8 : SV) (wait_9 : SV) (n_10 : Int) (R : Value → Mem → Prop) (M : Mem) : node_Below.J2 (node_Below.pts pr R) k a_0 kids_2 seen_7 out_8 wait_9 n_10 M = node_Below.J2.T pr (node_Below.pts pr R) k a_0 kids_2 seen_7 out_8 wait_9 n_10 R M :=
  (ptsR_eq (b := true) (p := [true, true, false, true, false, false, false, true, true, true, true]) (ns := [k]) rfl _ _).trans (node_Below.J2.eqX pr (node_Below.pts pr R) k a_0 kids_2 seen_7 out_8 wait_9 n_10 R M)
structure node_Below.Is (pr : Prim) (pts : Pts) (R : Value → Mem → Prop) : Prop where
  L1 : ∀ (k : Nat) (a_0 : Option Addr) (kids_2 : FuncId × Array Value) (seen_7 : SV) (out_8 : SV) (wait_9 : SV) (M : Mem), node_Below.L1 pts (k + 1) a_0 kids_2 seen_7 out_8 wait_9 M = node_Below.L1.T pr pts k a_0 kids_2 seen_7 out_8 wait_9 R M
  J2 : ∀ (k : Nat) (a_0 : Option Addr) (kids_2 : FuncId × Array Value) (seen_7 : SV) (out_8 : SV) (wait_9 : SV) (n_10 : Int) (M : Mem), node_Below.J2 pts k a_0 kids_2 seen_7 out_8 wait_9 n_10 M = node_Below.J2.T pr pts k a_0 kids_2 seen_7 out_8 wait_9 n_10 R M
theorem node_Below.is (pr : Prim) (R : Value → Mem → Prop) : node_Below.Is pr (node_Below.pts pr R) R := ⟨fun k a_0 kids_2 seen_7 out_8 wait_9 M => node_Below.L1.succ pr k a_0 kids_2 seen_7 out_8 wait_9 R M, fun k a_0 kids_2 seen_7 out_8 wait_9 n_10 M => node_Below.J2.eq pr k a_0 kids_2 seen_7 out_8 wait_9 n_10 R M⟩
def node_Below.T (pr : Prim) (pts : Pts) (a : Option Addr) (first : SV) (kids : FuncId × Array Value) (R : Value → Mem → Prop) (M : Mem) : Prop := pr.call Id.arena_Arena_Cells #[.pointer a] (fun v1 M2 => shI .i64 v1 fun n3 => pr.mks 50 (.int .i64 n3) (.int .i64 n3) (fun v4 M5 => shS v4 fun s6 => pr.call Id.slices_Clone_int_int #[SV.v first] (fun v7 M8 => shS v7 fun s9 => ∃ k10, node_Below.L1 pts k10 a kids s6 ⟨none, 0, 0⟩ s9 M8) M5) M2) M
theorem node_Below.eqX (pr : Prim) (pts : Pts) (a : Option Addr) (first : SV) (kids : FuncId × Array Value) (R : Value → Mem → Prop) (M : Mem) : wpX PP pr pts node_Below.h [] [] (retH pr Try.f79.results.toList R) (argEnv 0 [.pointer a, SV.v first, .func (.func kids.1) #[] kids.2]) M = node_Below.T pr pts a first kids R M := by kernel_rfl
theorem node_Below.eq (pr : Prim) (a : Option Addr) (first : SV) (kids : FuncId × Array Value) (R : Value → Mem → Prop) (M : Mem) : wpH PP pr node_Below.h (retH pr Try.f79.results.toList R) (argEnv 0 [.pointer a, SV.v first, .func (.func kids.1) #[] kids.2]) M = node_Below.T pr (node_Below.pts pr R) a first kids R M := root_eq.trans (node_Below.eqX pr (node_Below.pts pr R) a first kids R M)
theorem node_Below.fn : PP.funcs[Id.node_Below]? = some Try.f79 := Try.func79
theorem node_Below.can : callable PP Id.node_Below = true := by kernel_rfl
theorem node_Below.good : okH Try.f79.ntmps node_Below.h = true := by kernel_rfl
theorem node_Below.body : Try.f79.body = some ((Try.f79.body).getD .skip) := by kernel_rfl
theorem node_Below.size : (3 : Nat) ≤ Try.f79.ntmps := by decide
theorem node_Below.go (w0 : World) (a : Option Addr) (first : SV) (kids : FuncId × Array Value) {R : Value → Mem → Prop} {M : Mem} (h : ∀ pts, node_Below.Is (std PP w0) pts R → node_Below.T (std PP w0) pts a first kids R M) : C PP w0 Id.node_Below #[.pointer a, SV.v first, .func (.func kids.1) #[] kids.2] R M :=
  C_intro mixed node_Below.fn node_Below.body node_Below.can (annot_code _ _) node_Below.good node_Below.size ((node_Below.eq (std PP w0) a first kids R M).mpr (h _ (node_Below.is _ _)))
-- thicket/fib.nodes$1
noncomputable def fib_nodes_1.h : HC := annot ((Try.f80.body).getD .skip) []
def fib_nodes_1.T (pr : Prim) (n : Int) (c1 : Addr) (R : Value → Mem → Prop) (M : Mem) : Prop := ob (pr.ld 28 c1 M) fun v1 => shP v1 fun p2 => ob (pr.ld 28 c1 M) fun v3 => shP v3 fun p4 => pr.call Id.arena_Arena_Cell #[.pointer p4, .int .i64 n, .int .i64 1] (fun v5 M6 => shI .i64 v5 fun n7 => (pr.ld 28 c1 M6 = some (.pointer p2)) ∧ pr.call Id.chain_All #[.pointer p2, .int .i64 n7] (fun v8 M9 => shS v8 fun s10 => R (SV.v s10) M9) M6) M
theorem fib_nodes_1.eqX (pr : Prim) (pts : Pts) (n : Int) (c1 : Addr) (R : Value → Mem → Prop) (M : Mem) : wpX PP pr pts fib_nodes_1.h [] [] (retH pr Try.f80.results.toList R) (argEnv 0 [.int .i64 n, .pointer (some c1)]) M = fib_nodes_1.T pr n c1 R M := by kernel_rfl
theorem fib_nodes_1.eq (pr : Prim) (n : Int) (c1 : Addr) (R : Value → Mem → Prop) (M : Mem) : wpH PP pr fib_nodes_1.h (retH pr Try.f80.results.toList R) (argEnv 0 [.int .i64 n, .pointer (some c1)]) M = fib_nodes_1.T pr n c1 R M := root_eq.trans (fib_nodes_1.eqX pr (ptsR PP pr fib_nodes_1.h (retH pr Try.f80.results.toList R)) n c1 R M)
theorem fib_nodes_1.fn : PP.funcs[Id.fib_nodes_1]? = some Try.f80 := Try.func80
theorem fib_nodes_1.can : callable PP Id.fib_nodes_1 = true := by kernel_rfl
theorem fib_nodes_1.good : okH Try.f80.ntmps fib_nodes_1.h = true := by kernel_rfl
theorem fib_nodes_1.body : Try.f80.body = some ((Try.f80.body).getD .skip) := by kernel_rfl
theorem fib_nodes_1.size : (2 : Nat) ≤ Try.f80.ntmps := by decide
theorem fib_nodes_1.go (w0 : World) (n : Int) (c1 : Addr) {R : Value → Mem → Prop} {M : Mem} (h : fib_nodes_1.T (std PP w0) n c1 R M) : C PP w0 Id.fib_nodes_1 #[.int .i64 n, .pointer (some c1)] R M :=
  C_intro mixed fib_nodes_1.fn fib_nodes_1.body fib_nodes_1.can (annot_code _ _) fib_nodes_1.good fib_nodes_1.size ((fib_nodes_1.eq (std PP w0) n c1 R M).mpr h)
-- thicket/fib.leave
noncomputable def fib_leave.h : HC := annot ((Try.f81.body).getD .skip) [([true], [0, 1, 2, 3])]
abbrev fib_leave.J1 (pts : Pts) (a_0 : Option Addr) (r_1 : Int) (n_2 : Int) (up_3 : Int) (M : Mem) : Prop := pts [true, true] [] [(0, .pointer a_0), (1, .int .i64 r_1), (2, .int .i64 n_2), (3, .int .i64 up_3)] M
def fib_leave.pts (pr : Prim) (R : Value → Mem → Prop) : Pts := ptsR PP pr fib_leave.h (retH pr Try.f81.results.toList R)
def fib_leave.J1.T (pr : Prim) (pts : Pts) (a_0 : Option Addr) (r_1 : Int) (n_2 : Int) (up_3 : Int) (R : Value → Mem → Prop) (M : Mem) : Prop := pr.call Id.arena_Arena_Get #[.pointer a_0, .int .i64 up_3, .int .i64 4] (fun v10 M11 => shI .i64 v10 fun n12 => pr.call Id.arena_Arena_Set #[.pointer a_0, .int .i64 up_3, .int .i64 4, .int .i64 (w64 (n12 - 1))] (fun v13 M14 => shB v13 fun b15 => pr.call Id.arena_Arena_Set #[.pointer a_0, .int .i64 n_2, .int .i64 0, .int .i64 (-1)] (fun v16 M17 => shB v16 fun b18 => pr.call Id.chain_Put #[.pointer a_0, .int .i64 r_1, .int .i64 n_2] (fun v19 M20 => R (.tuple #[]) M20) M17) M14) M11) M
theorem fib_leave.J1.eqX (pr : Prim) (pts : Pts) (a_0 : Option Addr) (r_1 : Int) (n_2 : Int) (up_3 : Int) (R : Value → Mem → Prop) (M : Mem) : bodyX PP pr pts fib_leave.h (retH pr Try.f81.results.toList R) [true, true] [] [(0, .pointer a_0), (1, .int .i64 r_1), (2, .int .i64 n_2), (3, .int .i64 up_3)] M = fib_leave.J1.T pr pts a_0 r_1 n_2 up_3 R M := by kernel_rfl
theorem fib_leave.J1.eq (pr : Prim) (a_0 : Option Addr) (r_1 : Int) (n_2 : Int) (up_3 : Int) (R : Value → Mem → Prop) (M : Mem) : fib_leave.J1 (fib_leave.pts pr R) a_0 r_1 n_2 up_3 M = fib_leave.J1.T pr (fib_leave.pts pr R) a_0 r_1 n_2 up_3 R M :=
  (ptsR_eq (b := true) (p := [true]) (ns := []) rfl _ _).trans (fib_leave.J1.eqX pr (fib_leave.pts pr R) a_0 r_1 n_2 up_3 R M)
structure fib_leave.Is (pr : Prim) (pts : Pts) (R : Value → Mem → Prop) : Prop where
  J1 : ∀ (a_0 : Option Addr) (r_1 : Int) (n_2 : Int) (up_3 : Int) (M : Mem), fib_leave.J1 pts a_0 r_1 n_2 up_3 M = fib_leave.J1.T pr pts a_0 r_1 n_2 up_3 R M
theorem fib_leave.is (pr : Prim) (R : Value → Mem → Prop) : fib_leave.Is pr (fib_leave.pts pr R) R := ⟨fun a_0 r_1 n_2 up_3 M => fib_leave.J1.eq pr a_0 r_1 n_2 up_3 R M⟩
def fib_leave.T (pr : Prim) (pts : Pts) (a : Option Addr) (r : Int) (n : Int) (up : Int) (R : Value → Mem → Prop) (M : Mem) : Prop := pr.call Id.chain_Out #[.pointer a, .int .i64 n] (fun v1 M2 => shI .i64 v1 fun n3 => pr.call Id.arena_Arena_Cell #[.pointer a, .int .i64 up, .int .i64 1] (fun v4 M5 => shI .i64 v4 fun n6 => bs ((n6 == n)) (pr.call Id.arena_Arena_Set #[.pointer a, .int .i64 up, .int .i64 1, .int .i64 n3] (fun v7 M8 => shB v7 fun b9 => fib_leave.J1 pts a r n up M8) M5) (fib_leave.J1 pts a r n up M5)) M2) M
theorem fib_leave.eqX (pr : Prim) (pts : Pts) (a : Option Addr) (r : Int) (n : Int) (up : Int) (R : Value → Mem → Prop) (M : Mem) : wpX PP pr pts fib_leave.h [] [] (retH pr Try.f81.results.toList R) (argEnv 0 [.pointer a, .int .i64 r, .int .i64 n, .int .i64 up]) M = fib_leave.T pr pts a r n up R M := by kernel_rfl
theorem fib_leave.eq (pr : Prim) (a : Option Addr) (r : Int) (n : Int) (up : Int) (R : Value → Mem → Prop) (M : Mem) : wpH PP pr fib_leave.h (retH pr Try.f81.results.toList R) (argEnv 0 [.pointer a, .int .i64 r, .int .i64 n, .int .i64 up]) M = fib_leave.T pr (fib_leave.pts pr R) a r n up R M := root_eq.trans (fib_leave.eqX pr (fib_leave.pts pr R) a r n up R M)
theorem fib_leave.fn : PP.funcs[Id.fib_leave]? = some Try.f81 := Try.func81
theorem fib_leave.can : callable PP Id.fib_leave = true := by kernel_rfl
theorem fib_leave.good : okH Try.f81.ntmps fib_leave.h = true := by kernel_rfl
theorem fib_leave.body : Try.f81.body = some ((Try.f81.body).getD .skip) := by kernel_rfl
theorem fib_leave.size : (4 : Nat) ≤ Try.f81.ntmps := by decide
theorem fib_leave.go (w0 : World) (a : Option Addr) (r : Int) (n : Int) (up : Int) {R : Value → Mem → Prop} {M : Mem} (h : ∀ pts, fib_leave.Is (std PP w0) pts R → fib_leave.T (std PP w0) pts a r n up R M) : C PP w0 Id.fib_leave #[.pointer a, .int .i64 r, .int .i64 n, .int .i64 up] R M :=
  C_intro mixed fib_leave.fn fib_leave.body fib_leave.can (annot_code _ _) fib_leave.good fib_leave.size ((fib_leave.eq (std PP w0) a r n up R M).mpr (h _ (fib_leave.is _ _)))
-- thicket/order.Compare
noncomputable def order_Compare.h : HC := annot ((Try.f82.body).getD .skip) []
def order_Compare.T (pr : Prim) (a_0 : Int) (a_1 : Int) (b_0 : Int) (b_1 : Int) (R : Value → Mem → Prop) (M : Mem) : Prop := pr.nw [.int .i64 a_0, .int .i64 a_1] 40 (fun b1 M2 => pr.nw [.int .i64 b_0, .int .i64 b_1] 40 (fun b3 M4 => ob (pr.ld 2 ⟨b1, 0, none⟩ M4) fun v5 => shI .i64 v5 fun n6 => ob (pr.ld 2 ⟨b3, 0, none⟩ M4) fun v7 => shI .i64 v7 fun n8 => ob (pr.ld 2 (Addr.add ⟨b1, 0, none⟩ 1) M4) fun v9 => shI .i64 v9 fun n10 => ob (pr.ld 2 (Addr.add ⟨b3, 0, none⟩ 1) M4) fun v11 => shI .i64 v11 fun n12 => pr.call Id.cmp_Compare_int64 #[.int .i64 n6, .int .i64 n8] (fun v13 M14 => shI .i64 v13 fun n15 => (pr.ld 2 (Addr.add ⟨b1, 0, none⟩ 1) M14 = some (.int .i64 n10)) ∧ (pr.ld 2 (Addr.add ⟨b3, 0, none⟩ 1) M14 = some (.int .i64 n12)) ∧ pr.call Id.cmp_Compare_int64 #[.int .i64 n10, .int .i64 n12] (fun v16 M17 => shI .i64 v16 fun n18 => pr.bsl 53 2 [(0, .int .i64 n15), (1, .int .i64 n18)] (fun v19 M20 => shS v19 fun s21 => pr.call Id.cmp_Or_int #[SV.v s21] (fun v22 M23 => shI .i64 v22 fun n24 => R (.int .i64 n24) M23) M20) M17) M14) M4) M2) M
theorem order_Compare.eqX (pr : Prim) (pts : Pts) (a_0 : Int) (a_1 : Int) (b_0 : Int) (b_1 : Int) (R : Value → Mem → Prop) (M : Mem) : wpX PP pr pts order_Compare.h [] [] (retH pr Try.f82.results.toList R) (argEnv 0 [.agg #[.int .i64 a_0, .int .i64 a_1], .agg #[.int .i64 b_0, .int .i64 b_1]]) M = order_Compare.T pr a_0 a_1 b_0 b_1 R M := by kernel_rfl
theorem order_Compare.eq (pr : Prim) (a_0 : Int) (a_1 : Int) (b_0 : Int) (b_1 : Int) (R : Value → Mem → Prop) (M : Mem) : wpH PP pr order_Compare.h (retH pr Try.f82.results.toList R) (argEnv 0 [.agg #[.int .i64 a_0, .int .i64 a_1], .agg #[.int .i64 b_0, .int .i64 b_1]]) M = order_Compare.T pr a_0 a_1 b_0 b_1 R M := root_eq.trans (order_Compare.eqX pr (ptsR PP pr order_Compare.h (retH pr Try.f82.results.toList R)) a_0 a_1 b_0 b_1 R M)
theorem order_Compare.fn : PP.funcs[Id.order_Compare]? = some Try.f82 := Try.func82
theorem order_Compare.can : callable PP Id.order_Compare = true := by kernel_rfl
theorem order_Compare.good : okH Try.f82.ntmps order_Compare.h = true := by kernel_rfl
theorem order_Compare.body : Try.f82.body = some ((Try.f82.body).getD .skip) := by kernel_rfl
theorem order_Compare.size : (2 : Nat) ≤ Try.f82.ntmps := by decide
theorem order_Compare.go (w0 : World) (a_0 : Int) (a_1 : Int) (b_0 : Int) (b_1 : Int) {R : Value → Mem → Prop} {M : Mem} (h : order_Compare.T (std PP w0) a_0 a_1 b_0 b_1 R M) : C PP w0 Id.order_Compare #[.agg #[.int .i64 a_0, .int .i64 a_1], .agg #[.int .i64 b_0, .int .i64 b_1]] R M :=
  C_intro mixed order_Compare.fn order_Compare.body order_Compare.can (annot_code _ _) order_Compare.good order_Compare.size ((order_Compare.eq (std PP w0) a_0 a_1 b_0 b_1 R M).mpr h)
-- slices.Clone[[]int,int]
noncomputable def slices_Clone_int_int.h : HC := annot ((Try.f85.body).getD .skip) []
def slices_Clone_int_int.T (pr : Prim) (s : SV) (R : Value → Mem → Prop) (M : Mem) : Prop := ob (pr.bq .eql 53 (.tmp 3) (.const (.slice none 0 0)) (SV.v s) (.slice none 0 0)) fun v1 => shB v1 fun b2 => bs b2 (R (.slice none 0 0) M) (pr.bsl 53 0 [] (fun v3 M4 => shS v3 fun s5 => pr.app #[53, 53] 53 [SV.v s5, SV.v s] (fun v6 M7 => shS v6 fun s8 => R (SV.v s8) M7) M4) M)
theorem slices_Clone_int_int.eqX (pr : Prim) (pts : Pts) (s : SV) (R : Value → Mem → Prop) (M : Mem) : wpX PP pr pts slices_Clone_int_int.h [] [] (retH pr Try.f85.results.toList R) (argEnv 0 [SV.v s]) M = slices_Clone_int_int.T pr s R M := by kernel_rfl
theorem slices_Clone_int_int.eq (pr : Prim) (s : SV) (R : Value → Mem → Prop) (M : Mem) : wpH PP pr slices_Clone_int_int.h (retH pr Try.f85.results.toList R) (argEnv 0 [SV.v s]) M = slices_Clone_int_int.T pr s R M := root_eq.trans (slices_Clone_int_int.eqX pr (ptsR PP pr slices_Clone_int_int.h (retH pr Try.f85.results.toList R)) s R M)
theorem slices_Clone_int_int.fn : PP.funcs[Id.slices_Clone_int_int]? = some Try.f85 := Try.func85
theorem slices_Clone_int_int.can : callable PP Id.slices_Clone_int_int = true := by kernel_rfl
theorem slices_Clone_int_int.good : okH Try.f85.ntmps slices_Clone_int_int.h = true := by kernel_rfl
theorem slices_Clone_int_int.body : Try.f85.body = some ((Try.f85.body).getD .skip) := by kernel_rfl
theorem slices_Clone_int_int.size : (1 : Nat) ≤ Try.f85.ntmps := by decide
theorem slices_Clone_int_int.go (w0 : World) (s : SV) {R : Value → Mem → Prop} {M : Mem} (h : slices_Clone_int_int.T (std PP w0) s R M) : C PP w0 Id.slices_Clone_int_int #[SV.v s] R M :=
  C_intro mixed slices_Clone_int_int.fn slices_Clone_int_int.body slices_Clone_int_int.can (annot_code _ _) slices_Clone_int_int.good slices_Clone_int_int.size ((slices_Clone_int_int.eq (std PP w0) s R M).mpr h)
-- cmp.Or[int]
noncomputable def cmp_Or_int.h : HC := annot ((Try.f86.body).getD .skip) [([true, true, false, true, false], [3, 6, 7, 8])]
abbrev cmp_Or_int.L1 (pts : Pts) (k : Nat) (zero_3 : Int) (t6 : SV) (t7 : Int) (t8 : Int) (M : Mem) : Prop := pts [false, false, true, false, true, true] [k] [(3, .int .i64 zero_3), (6, SV.v t6), (7, .int .i64 t7), (8, .int .i64 t8)] M
def cmp_Or_int.pts (pr : Prim) (R : Value → Mem → Prop) : Pts := ptsR PP pr cmp_Or_int.h (retH pr Try.f86.results.toList R)
def cmp_Or_int.L1.T (pr : Prim) (pts : Pts) (k : Nat) (zero_3 : Int) (t6 : SV) (t7 : Int) (t8 : Int) (R : Value → Mem → Prop) (M : Mem) : Prop := bs (decide (t8 < t7)) (nc t6.a fun a2 => (0 ≤ t8 ∧ t8 < ((t6.n : Nat) : Int)) ∧ ob (pr.ld 3 (a2.add (t8.toNat * 1)) M) fun v3 => shI .i64 v3 fun n4 => bs ((n4 != zero_3)) (R (.int .i64 n4) M) (cmp_Or_int.L1 pts k zero_3 t6 t7 (w64 (t8 + 1)) M)) (R (.int .i64 zero_3) M)
theorem cmp_Or_int.L1.zero (pr : Prim) (zero_3 : Int) (t6 : SV) (t7 : Int) (t8 : Int) (R : Value → Mem → Prop) (M : Mem) : cmp_Or_int.L1 (cmp_Or_int.pts pr R) 0 zero_3 t6 t7 t8 M = False :=
  (ptsR_eq (b := false) (p := [false, true, false, true, true]) (ns := [0]) rfl _ _).trans (by kernel_rfl)
theorem cmp_Or_int.L1.eqX (pr : Prim) (pts : Pts) (k : Nat) (zero_3 : Int) (t6 : SV) (t7 : Int) (t8 : Int) (R : Value → Mem → Prop) (M : Mem) : bodyX PP pr pts cmp_Or_int.h (retH pr Try.f86.results.toList R) [false, false, true, false, true, true] [k + 1] [(3, .int .i64 zero_3), (6, SV.v t6), (7, .int .i64 t7), (8, .int .i64 t8)] M = cmp_Or_int.L1.T pr pts k zero_3 t6 t7 t8 R M := by kernel_rfl
theorem cmp_Or_int.L1.succ (pr : Prim) (k : Nat) (zero_3 : Int) (t6 : SV) (t7 : Int) (t8 : Int) (R : Value → Mem → Prop) (M : Mem) : cmp_Or_int.L1 (cmp_Or_int.pts pr R) (k + 1) zero_3 t6 t7 t8 M = cmp_Or_int.L1.T pr (cmp_Or_int.pts pr R) k zero_3 t6 t7 t8 R M :=
  (ptsR_eq (b := false) (p := [false, true, false, true, true]) (ns := [k + 1]) rfl _ _).trans (cmp_Or_int.L1.eqX pr (cmp_Or_int.pts pr R) k zero_3 t6 t7 t8 R M)
structure cmp_Or_int.Is (pr : Prim) (pts : Pts) (R : Value → Mem → Prop) : Prop where
  L1 : ∀ (k : Nat) (zero_3 : Int) (t6 : SV) (t7 : Int) (t8 : Int) (M : Mem), cmp_Or_int.L1 pts (k + 1) zero_3 t6 t7 t8 M = cmp_Or_int.L1.T pr pts k zero_3 t6 t7 t8 R M
theorem cmp_Or_int.is (pr : Prim) (R : Value → Mem → Prop) : cmp_Or_int.Is pr (cmp_Or_int.pts pr R) R := ⟨fun k zero_3 t6 t7 t8 M => cmp_Or_int.L1.succ pr k zero_3 t6 t7 t8 R M⟩
def cmp_Or_int.T (pr : Prim) (pts : Pts) (vals : SV) (R : Value → Mem → Prop) (M : Mem) : Prop := ∃ k1, cmp_Or_int.L1 pts k1 0 vals ((vals.n : Nat) : Int) 0 M
theorem cmp_Or_int.eqX (pr : Prim) (pts : Pts) (vals : SV) (R : Value → Mem → Prop) (M : Mem) : wpX PP pr pts cmp_Or_int.h [] [] (retH pr Try.f86.results.toList R) (argEnv 0 [SV.v vals]) M = cmp_Or_int.T pr pts vals R M := by kernel_rfl
theorem cmp_Or_int.eq (pr : Prim) (vals : SV) (R : Value → Mem → Prop) (M : Mem) : wpH PP pr cmp_Or_int.h (retH pr Try.f86.results.toList R) (argEnv 0 [SV.v vals]) M = cmp_Or_int.T pr (cmp_Or_int.pts pr R) vals R M := root_eq.trans (cmp_Or_int.eqX pr (cmp_Or_int.pts pr R) vals R M)
theorem cmp_Or_int.fn : PP.funcs[Id.cmp_Or_int]? = some Try.f86 := Try.func86
theorem cmp_Or_int.can : callable PP Id.cmp_Or_int = true := by kernel_rfl
theorem cmp_Or_int.good : okH Try.f86.ntmps cmp_Or_int.h = true := by kernel_rfl
theorem cmp_Or_int.body : Try.f86.body = some ((Try.f86.body).getD .skip) := by kernel_rfl
theorem cmp_Or_int.size : (1 : Nat) ≤ Try.f86.ntmps := by decide
theorem cmp_Or_int.go (w0 : World) (vals : SV) {R : Value → Mem → Prop} {M : Mem} (h : ∀ pts, cmp_Or_int.Is (std PP w0) pts R → cmp_Or_int.T (std PP w0) pts vals R M) : C PP w0 Id.cmp_Or_int #[SV.v vals] R M :=
  C_intro mixed cmp_Or_int.fn cmp_Or_int.body cmp_Or_int.can (annot_code _ _) cmp_Or_int.good cmp_Or_int.size ((cmp_Or_int.eq (std PP w0) vals R M).mpr (h _ (cmp_Or_int.is _ _)))
-- cmp.Compare[int64]
noncomputable def cmp_Compare_int64.h : HC := annot ((Try.f87.body).getD .skip) []
def cmp_Compare_int64.T (pr : Prim) (x : Int) (y : Int) (R : Value → Mem → Prop) (M : Mem) : Prop := pr.call Id.cmp_isNaN_int64 #[.int .i64 x] (fun v1 M2 => shB v1 fun b3 => pr.call Id.cmp_isNaN_int64 #[.int .i64 y] (fun v4 M5 => shB v4 fun b6 => bs b3 (bs b6 (R (.int .i64 0) M5) (R (.int .i64 (-1)) M5)) (bs b6 (R (.int .i64 1) M5) (bs (decide (x < y)) (R (.int .i64 (-1)) M5) (bs (decide (x > y)) (R (.int .i64 1) M5) (R (.int .i64 0) M5))))) M2) M
theorem cmp_Compare_int64.eqX (pr : Prim) (pts : Pts) (x : Int) (y : Int) (R : Value → Mem → Prop) (M : Mem) : wpX PP pr pts cmp_Compare_int64.h [] [] (retH pr Try.f87.results.toList R) (argEnv 0 [.int .i64 x, .int .i64 y]) M = cmp_Compare_int64.T pr x y R M := by kernel_rfl
theorem cmp_Compare_int64.eq (pr : Prim) (x : Int) (y : Int) (R : Value → Mem → Prop) (M : Mem) : wpH PP pr cmp_Compare_int64.h (retH pr Try.f87.results.toList R) (argEnv 0 [.int .i64 x, .int .i64 y]) M = cmp_Compare_int64.T pr x y R M := root_eq.trans (cmp_Compare_int64.eqX pr (ptsR PP pr cmp_Compare_int64.h (retH pr Try.f87.results.toList R)) x y R M)
theorem cmp_Compare_int64.fn : PP.funcs[Id.cmp_Compare_int64]? = some Try.f87 := Try.func87
theorem cmp_Compare_int64.can : callable PP Id.cmp_Compare_int64 = true := by kernel_rfl
theorem cmp_Compare_int64.good : okH Try.f87.ntmps cmp_Compare_int64.h = true := by kernel_rfl
theorem cmp_Compare_int64.body : Try.f87.body = some ((Try.f87.body).getD .skip) := by kernel_rfl
theorem cmp_Compare_int64.size : (2 : Nat) ≤ Try.f87.ntmps := by decide
theorem cmp_Compare_int64.go (w0 : World) (x : Int) (y : Int) {R : Value → Mem → Prop} {M : Mem} (h : cmp_Compare_int64.T (std PP w0) x y R M) : C PP w0 Id.cmp_Compare_int64 #[.int .i64 x, .int .i64 y] R M :=
  C_intro mixed cmp_Compare_int64.fn cmp_Compare_int64.body cmp_Compare_int64.can (annot_code _ _) cmp_Compare_int64.good cmp_Compare_int64.size ((cmp_Compare_int64.eq (std PP w0) x y R M).mpr h)
-- cmp.isNaN[int64]
noncomputable def cmp_isNaN_int64.h : HC := annot ((Try.f99.body).getD .skip) []
def cmp_isNaN_int64.T (pr : Prim) (x : Int) (R : Value → Mem → Prop) (M : Mem) : Prop := R (.bool ((x != x))) M
theorem cmp_isNaN_int64.eqX (pr : Prim) (pts : Pts) (x : Int) (R : Value → Mem → Prop) (M : Mem) : wpX PP pr pts cmp_isNaN_int64.h [] [] (retH pr Try.f99.results.toList R) (argEnv 0 [.int .i64 x]) M = cmp_isNaN_int64.T pr x R M := by kernel_rfl
theorem cmp_isNaN_int64.eq (pr : Prim) (x : Int) (R : Value → Mem → Prop) (M : Mem) : wpH PP pr cmp_isNaN_int64.h (retH pr Try.f99.results.toList R) (argEnv 0 [.int .i64 x]) M = cmp_isNaN_int64.T pr x R M := root_eq.trans (cmp_isNaN_int64.eqX pr (ptsR PP pr cmp_isNaN_int64.h (retH pr Try.f99.results.toList R)) x R M)
theorem cmp_isNaN_int64.fn : PP.funcs[Id.cmp_isNaN_int64]? = some Try.f99 := Try.func99
theorem cmp_isNaN_int64.can : callable PP Id.cmp_isNaN_int64 = true := by kernel_rfl
theorem cmp_isNaN_int64.good : okH Try.f99.ntmps cmp_isNaN_int64.h = true := by kernel_rfl
theorem cmp_isNaN_int64.body : Try.f99.body = some ((Try.f99.body).getD .skip) := by kernel_rfl
theorem cmp_isNaN_int64.size : (1 : Nat) ≤ Try.f99.ntmps := by decide
theorem cmp_isNaN_int64.go (w0 : World) (x : Int) {R : Value → Mem → Prop} {M : Mem} (h : cmp_isNaN_int64.T (std PP w0) x R M) : C PP w0 Id.cmp_isNaN_int64 #[.int .i64 x] R M :=
  C_intro mixed cmp_isNaN_int64.fn cmp_isNaN_int64.body cmp_isNaN_int64.can (annot_code _ _) cmp_isNaN_int64.good cmp_isNaN_int64.size ((cmp_isNaN_int64.eq (std PP w0) x R M).mpr h)
end Go.Proofs.Ytbkicgfgpmekeaa.HL
