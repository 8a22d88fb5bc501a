/-
  Printed by gen.py (a program of this work) out of Lean's own print of the program: what each function's code comes to over the heap logic; each equation is checked by the kernel.
-/
import Derived.Test.YtbkicgfgpmekeaaGreatGenId
set_option linter.unusedVariables false
set_option maxRecDepth 100000
namespace Go.Proofs.YtbkicgfgpmekeaaGreat.HL
open Go.Proofs
-- thicket/chain.Join
noncomputable def chain_Join.h : HC := annot ((Tryz.f63.body).getD .skip) []
def chain_Join.T (pr : Prim) (a : Option Addr) (c : Int) (d : Int) (R : Value → Mem → Prop) (M : Mem) : Prop := ob (pr.bq .eql 30 (.tmp 8) (.const (.pointer none)) (.pointer a) (.pointer none)) fun v1 => shB v1 fun b2 => bs b2 (R (.tuple #[]) M) (pr.call Id.arena_Arena_Cell #[.pointer a, .int .i64 c, .int .i64 3] (fun v3 M4 => shI .i64 v3 fun n5 => pr.call Id.arena_Arena_Cell #[.pointer a, .int .i64 d, .int .i64 2] (fun v6 M7 => shI .i64 v6 fun n8 => pr.call Id.chain_link #[.pointer a, .int .i64 c, .int .i64 d] (fun v9 M10 => pr.call Id.chain_link #[.pointer a, .int .i64 n8, .int .i64 n5] (fun v11 M12 => R (.tuple #[]) M12) M10) M7) M4) M)
theorem chain_Join.eqX (pr : Prim) (pts : Pts) (a : Option Addr) (c : Int) (d : Int) (R : Value → Mem → Prop) (M : Mem) : wpX PP pr pts chain_Join.h [] [] (retH pr Tryz.f63.results.toList R) (argEnv 0 [.pointer a, .int .i64 c, .int .i64 d]) M = chain_Join.T pr a c d R M := by kernel_rfl
theorem chain_Join.eq (pr : Prim) (a : Option Addr) (c : Int) (d : Int) (R : Value → Mem → Prop) (M : Mem) : wpH PP pr chain_Join.h (retH pr Tryz.f63.results.toList R) (argEnv 0 [.pointer a, .int .i64 c, .int .i64 d]) M = chain_Join.T pr a c d R M := root_eq.trans (chain_Join.eqX pr (ptsR PP pr chain_Join.h (retH pr Tryz.f63.results.toList R)) a c d R M)
theorem chain_Join.fn : PP.funcs[Id.chain_Join]? = some Tryz.f63 := Tryz.func63
theorem chain_Join.can : callable PP Id.chain_Join = true := by kernel_rfl
theorem chain_Join.good : okH Tryz.f63.ntmps chain_Join.h = true := by kernel_rfl
theorem chain_Join.body : Tryz.f63.body = some ((Tryz.f63.body).getD .skip) := by kernel_rfl
theorem chain_Join.size : (3 : Nat) ≤ Tryz.f63.ntmps := by decide
theorem chain_Join.go (w0 : World) (a : Option Addr) (c : Int) (d : Int) {R : Value → Mem → Prop} {M : Mem} (h : chain_Join.T (std PP w0) a c d R M) : C PP w0 Id.chain_Join #[.pointer a, .int .i64 c, .int .i64 d] R M :=
  C_intro mixed chain_Join.fn chain_Join.body chain_Join.can (annot_code _ _) chain_Join.good chain_Join.size ((chain_Join.eq (std PP w0) a c d R M).mpr h)
-- thicket/node.Drop
noncomputable def node_Drop.h : HC := annot ((Tryz.f64.body).getD .skip) [([true, true, false, true, false], [0, 5, 11, 12, 13])]
abbrev node_Drop.L1 (pts : Pts) (k : Nat) (a_0 : Option Addr) (out_5 : SV) (t11 : SV) (t12 : Int) (t13 : Int) (M : Mem) : Prop := pts [false, false, true, false, true, true] [k] [(0, .pointer a_0), (5, SV.v out_5), (11, SV.v t11), (12, .int .i64 t12), (13, .int .i64 t13)] M
def node_Drop.pts (pr : Prim) (R : Value → Mem → Prop) : Pts := ptsR PP pr node_Drop.h (retH pr Tryz.f64.results.toList R)
def node_Drop.L1.T (pr : Prim) (pts : Pts) (k : Nat) (a_0 : Option Addr) (out_5 : SV) (t11 : SV) (t12 : Int) (t13 : Int) (R : Value → Mem → Prop) (M : Mem) : Prop := bs (decide (t13 < t12)) (nc t11.a fun a5 => (0 ≤ t13 ∧ t13 < ((t11.n : Nat) : Int)) ∧ ob (pr.ld 3 (a5.add (t13.toNat * 1)) M) fun v6 => shI .i64 v6 fun n7 => pr.call Id.node_End #[.pointer a_0, .int .i64 n7] (fun v8 M9 => shI .i64 v8 fun n10 => node_Drop.L1 pts k a_0 out_5 t11 t12 (w64 (t13 + 1)) M9) M) (R (SV.v out_5) M)
theorem node_Drop.L1.zero (pr : Prim) (a_0 : Option Addr) (out_5 : SV) (t11 : SV) (t12 : Int) (t13 : Int) (R : Value → Mem → Prop) (M : Mem) : node_Drop.L1 (node_Drop.pts pr R) 0 a_0 out_5 t11 t12 t13 M = False :=
  (ptsR_eq (b := false) (p := [false, true, false, true, true]) (ns := [0]) rfl _ _).trans (by kernel_rfl)
theorem node_Drop.L1.eqX (pr : Prim) (pts : Pts) (k : Nat) (a_0 : Option Addr) (out_5 : SV) (t11 : SV) (t12 : Int) (t13 : Int) (R : Value → Mem → Prop) (M : Mem) : bodyX PP pr pts node_Drop.h (retH pr Tryz.f64.results.toList R) [false, false, true, false, true, true] [k + 1] [(0, .pointer a_0), (5, SV.v out_5), (11, SV.v t11), (12, .int .i64 t12), (13, .int .i64 t13)] M = node_Drop.L1.T pr pts k a_0 out_5 t11 t12 t13 R M := by kernel_rfl
theorem node_Drop.L1.succ (pr : Prim) (k : Nat) (a_0 : Option Addr) (out_5 : SV) (t11 : SV) (t12 : Int) (t13 : Int) (R : Value → Mem → Prop) (M : Mem) : node_Drop.L1 (node_Drop.pts pr R) (k + 1) a_0 out_5 t11 t12 t13 M = node_Drop.L1.T pr (node_Drop.pts pr R) k a_0 out_5 t11 t12 t13 R M :=
  (ptsR_eq (b := false) (p := [false, true, false, true, true]) (ns := [k + 1]) rfl _ _).trans (node_Drop.L1.eqX pr (node_Drop.pts pr R) k a_0 out_5 t11 t12 t13 R M)
structure node_Drop.Is (pr : Prim) (pts : Pts) (R : Value → Mem → Prop) : Prop where
  L1 : ∀ (k : Nat) (a_0 : Option Addr) (out_5 : SV) (t11 : SV) (t12 : Int) (t13 : Int) (M : Mem), node_Drop.L1 pts (k + 1) a_0 out_5 t11 t12 t13 M = node_Drop.L1.T pr pts k a_0 out_5 t11 t12 t13 R M
theorem node_Drop.is (pr : Prim) (R : Value → Mem → Prop) : node_Drop.Is pr (node_Drop.pts pr R) R := ⟨fun k a_0 out_5 t11 t12 t13 M => node_Drop.L1.succ pr k a_0 out_5 t11 t12 t13 R M⟩
def node_Drop.T (pr : Prim) (pts : Pts) (a : Option Addr) (l : SV) (R : Value → Mem → Prop) (M : Mem) : Prop := pr.call Id.node_Items #[.pointer a, SV.v l] (fun v1 M2 => shS v1 fun s3 => ∃ k4, node_Drop.L1 pts k4 a s3 l ((l.n : Nat) : Int) 0 M2) M
theorem node_Drop.eqX (pr : Prim) (pts : Pts) (a : Option Addr) (l : SV) (R : Value → Mem → Prop) (M : Mem) : wpX PP pr pts node_Drop.h [] [] (retH pr Tryz.f64.results.toList R) (argEnv 0 [.pointer a, SV.v l]) M = node_Drop.T pr pts a l R M := by kernel_rfl
theorem node_Drop.eq (pr : Prim) (a : Option Addr) (l : SV) (R : Value → Mem → Prop) (M : Mem) : wpH PP pr node_Drop.h (retH pr Tryz.f64.results.toList R) (argEnv 0 [.pointer a, SV.v l]) M = node_Drop.T pr (node_Drop.pts pr R) a l R M := root_eq.trans (node_Drop.eqX pr (node_Drop.pts pr R) a l R M)
theorem node_Drop.fn : PP.funcs[Id.node_Drop]? = some Tryz.f64 := Tryz.func64
theorem node_Drop.can : callable PP Id.node_Drop = true := by kernel_rfl
theorem node_Drop.good : okH Tryz.f64.ntmps node_Drop.h = true := by kernel_rfl
theorem node_Drop.body : Tryz.f64.body = some ((Tryz.f64.body).getD .skip) := by kernel_rfl
theorem node_Drop.size : (2 : Nat) ≤ Tryz.f64.ntmps := by decide
theorem node_Drop.go (w0 : World) (a : Option Addr) (l : SV) {R : Value → Mem → Prop} {M : Mem} (h : ∀ pts, node_Drop.Is (std PP w0) pts R → node_Drop.T (std PP w0) pts a l R M) : C PP w0 Id.node_Drop #[.pointer a, SV.v l] R M :=
  C_intro mixed node_Drop.fn node_Drop.body node_Drop.can (annot_code _ _) node_Drop.good node_Drop.size ((node_Drop.eq (std PP w0) a l R M).mpr (h _ (node_Drop.is _ _)))
-- thicket/arena.fresh
noncomputable def arena_fresh.h : HC := annot ((Tryz.f65.body).getD .skip) [([true, true, false, true, false], [0, 1, 5, 6, 7])]
abbrev arena_fresh.L1 (pts : Pts) (k : Nat) (t0 : Addr) (x_1 : Addr) (t5 : SV) (t6 : Int) (t7 : Int) (M : Mem) : Prop := pts [false, false, true, false, true, true] [k] [(0, .pointer (some t0)), (1, .pointer (some x_1)), (5, SV.v t5), (6, .int .i64 t6), (7, .int .i64 t7)] M
def arena_fresh.pts (pr : Prim) (R : Value → Mem → Prop) : Pts := ptsR PP pr arena_fresh.h (retH pr Tryz.f65.results.toList R)
def arena_fresh.L1.T (pr : Prim) (pts : Pts) (k : Nat) (t0 : Addr) (x_1 : Addr) (t5 : SV) (t6 : Int) (t7 : Int) (R : Value → Mem → Prop) (M : Mem) : Prop := bs (decide (t7 < t6)) (nc t5.a fun a45 => (0 ≤ t7 ∧ t7 < ((t5.n : Nat) : Int)) ∧ ob (pr.ld 3 (a45.add (t7.toNat * 1)) M) fun v46 => shI .i64 v46 fun n47 => (0 ≤ n47 ∧ n47 < ((10 : Nat) : Int)) ∧ pr.st 2 (Addr.add x_1 (n47.toNat * 1)) (.int .i64 (-1)) (fun M48 => arena_fresh.L1 pts k t0 x_1 t5 t6 (w64 (t7 + 1)) M48) M) (ob (pr.ld 82 x_1 M) fun v49 => shA v49 fun l50 => shCons l50 fun u51 r52 => shI .i64 u51 fun n53 => shCons r52 fun u54 r55 => shI .i64 u54 fun n56 => shCons r55 fun u57 r58 => shI .i64 u57 fun n59 => shCons r58 fun u60 r61 => shI .i64 u60 fun n62 => shCons r61 fun u63 r64 => shI .i64 u63 fun n65 => shCons r64 fun u66 r67 => shI .i64 u66 fun n68 => shCons r67 fun u69 r70 => shI .i64 u69 fun n71 => shCons r70 fun u72 r73 => shI .i64 u72 fun n74 => shCons r73 fun u75 r76 => shI .i64 u75 fun n77 => shCons r76 fun u78 r79 => shI .i64 u78 fun n80 => shCons r79 fun u81 r82 => shB u81 fun b83 => shNil r82 (pr.st 82 t0 (.agg #[.int .i64 n53, .int .i64 n56, .int .i64 n59, .int .i64 n62, .int .i64 n65, .int .i64 n68, .int .i64 n71, .int .i64 n74, .int .i64 n77, .int .i64 n80, .bool b83]) (fun M84 => ob (pr.rdv 82 (.pointer (some t0)) M84) fun v85 => R v85 M84) M))
theorem arena_fresh.L1.zero (pr : Prim) (t0 : Addr) (x_1 : Addr) (t5 : SV) (t6 : Int) (t7 : Int) (R : Value → Mem → Prop) (M : Mem) : arena_fresh.L1 (arena_fresh.pts pr R) 0 t0 x_1 t5 t6 t7 M = False :=
  (ptsR_eq (b := false) (p := [false, true, false, true, true]) (ns := [0]) rfl _ _).trans (by kernel_rfl)
theorem arena_fresh.L1.eqX (pr : Prim) (pts : Pts) (k : Nat) (t0 : Addr) (x_1 : Addr) (t5 : SV) (t6 : Int) (t7 : Int) (R : Value → Mem → Prop) (M : Mem) : bodyX PP pr pts arena_fresh.h (retH pr Tryz.f65.results.toList R) [false, false, true, false, true, true] [k + 1] [(0, .pointer (some t0)), (1, .pointer (some x_1)), (5, SV.v t5), (6, .int .i64 t6), (7, .int .i64 t7)] M = arena_fresh.L1.T pr pts k t0 x_1 t5 t6 t7 R M := by kernel_rfl
theorem arena_fresh.L1.succ (pr : Prim) (k : Nat) (t0 : Addr) (x_1 : Addr) (t5 : SV) (t6 : Int) (t7 : Int) (R : Value → Mem → Prop) (M : Mem) : arena_fresh.L1 (arena_fresh.pts pr R) (k + 1) t0 x_1 t5 t6 t7 M = arena_fresh.L1.T pr (arena_fresh.pts pr R) k t0 x_1 t5 t6 t7 R M :=
  (ptsR_eq (b := false) (p := [false, true, false, true, true]) (ns := [k + 1]) rfl _ _).trans (arena_fresh.L1.eqX pr (arena_fresh.pts pr R) k t0 x_1 t5 t6 t7 R M)
structure arena_fresh.Is (pr : Prim) (pts : Pts) (R : Value → Mem → Prop) : Prop where
  L1 : ∀ (k : Nat) (t0 : Addr) (x_1 : Addr) (t5 : SV) (t6 : Int) (t7 : Int) (M : Mem), arena_fresh.L1 pts (k + 1) t0 x_1 t5 t6 t7 M = arena_fresh.L1.T pr pts k t0 x_1 t5 t6 t7 R M
theorem arena_fresh.is (pr : Prim) (R : Value → Mem → Prop) : arena_fresh.Is pr (arena_fresh.pts pr R) R := ⟨fun k t0 x_1 t5 t6 t7 M => arena_fresh.L1.succ pr k t0 x_1 t5 t6 t7 R M⟩
def arena_fresh.T (pr : Prim) (pts : Pts) (R : Value → Mem → Prop) (M : Mem) : Prop := pr.nw [.int .i64 0, .int .i64 0, .int .i64 0, .int .i64 0, .int .i64 0, .int .i64 0, .int .i64 0, .int .i64 0, .int .i64 0, .int .i64 0, .bool false] 82 (fun b1 M2 => ob (pr.bld 82 [(1, .bool true)]) fun v3 => shA v3 fun l4 => shCons l4 fun u5 r6 => shI .i64 u5 fun n7 => shCons r6 fun u8 r9 => shI .i64 u8 fun n10 => shCons r9 fun u11 r12 => shI .i64 u11 fun n13 => shCons r12 fun u14 r15 => shI .i64 u14 fun n16 => shCons r15 fun u17 r18 => shI .i64 u17 fun n19 => shCons r18 fun u20 r21 => shI .i64 u20 fun n22 => shCons r21 fun u23 r24 => shI .i64 u23 fun n25 => shCons r24 fun u26 r27 => shI .i64 u26 fun n28 => shCons r27 fun u29 r30 => shI .i64 u29 fun n31 => shCons r30 fun u32 r33 => shI .i64 u32 fun n34 => shCons r33 fun u35 r36 => shB u35 fun b37 => shNil r36 (pr.nw [.int .i64 0, .int .i64 0, .int .i64 0, .int .i64 0, .int .i64 0, .int .i64 0, .int .i64 0, .int .i64 0, .int .i64 0, .int .i64 0, .bool false] 82 (fun b38 M39 => pr.st 82 ⟨b38, 0, none⟩ (.agg #[.int .i64 n7, .int .i64 n10, .int .i64 n13, .int .i64 n16, .int .i64 n19, .int .i64 n22, .int .i64 n25, .int .i64 n28, .int .i64 n31, .int .i64 n34, .bool b37]) (fun M40 => pr.bsl 61 6 [(0, .int .i64 0), (1, .int .i64 1), (2, .int .i64 2), (3, .int .i64 3), (4, .int .i64 6), (5, .int .i64 9)] (fun v41 M42 => shS v41 fun s43 => ∃ k44, arena_fresh.L1 pts k44 ⟨b1, 0, none⟩ ⟨b38, 0, none⟩ s43 ((s43.n : Nat) : Int) 0 M42) M40) M39) M2)) M
theorem arena_fresh.eqX (pr : Prim) (pts : Pts) (R : Value → Mem → Prop) (M : Mem) : wpX PP pr pts arena_fresh.h [] [] (retH pr Tryz.f65.results.toList R) (argEnv 0 []) M = arena_fresh.T pr pts R M := by kernel_rfl
theorem arena_fresh.eq (pr : Prim) (R : Value → Mem → Prop) (M : Mem) : wpH PP pr arena_fresh.h (retH pr Tryz.f65.results.toList R) (argEnv 0 []) M = arena_fresh.T pr (arena_fresh.pts pr R) R M := root_eq.trans (arena_fresh.eqX pr (arena_fresh.pts pr R) R M)
theorem arena_fresh.fn : PP.funcs[Id.arena_fresh]? = some Tryz.f65 := Tryz.func65
theorem arena_fresh.can : callable PP Id.arena_fresh = true := by kernel_rfl
theorem arena_fresh.good : okH Tryz.f65.ntmps arena_fresh.h = true := by kernel_rfl
theorem arena_fresh.body : Tryz.f65.body = some ((Tryz.f65.body).getD .skip) := by kernel_rfl
theorem arena_fresh.size : (0 : Nat) ≤ Tryz.f65.ntmps := by decide
theorem arena_fresh.go (w0 : World) {R : Value → Mem → Prop} {M : Mem} (h : ∀ pts, arena_fresh.Is (std PP w0) pts R → arena_fresh.T (std PP w0) pts R M) : C PP w0 Id.arena_fresh #[] R M :=
  C_intro mixed arena_fresh.fn arena_fresh.body arena_fresh.can (annot_code _ _) arena_fresh.good arena_fresh.size ((arena_fresh.eq (std PP w0) R M).mpr (h _ (arena_fresh.is _ _)))
-- (*thicket/arena.Arena).has
noncomputable def arena_Arena_has.h : HC := annot ((Tryz.f66.body).getD .skip) []
def arena_Arena_has.T (pr : Prim) (a : Option Addr) (c : Int) (field : Int) (R : Value → Mem → Prop) (M : Mem) : Prop := pr.call Id.arena_Arena_Live #[.pointer a, .int .i64 c] (fun v1 M2 => shB v1 fun b3 => bs b3 (bs (decide (field ≥ 0)) (R (.bool (decide (field < 10))) M2) (R (.bool false) M2)) (R (.bool false) M2)) M
theorem arena_Arena_has.eqX (pr : Prim) (pts : Pts) (a : Option Addr) (c : Int) (field : Int) (R : Value → Mem → Prop) (M : Mem) : wpX PP pr pts arena_Arena_has.h [] [] (retH pr Tryz.f66.results.toList R) (argEnv 0 [.pointer a, .int .i64 c, .int .i64 field]) M = arena_Arena_has.T pr a c field R M := by kernel_rfl
theorem arena_Arena_has.eq (pr : Prim) (a : Option Addr) (c : Int) (field : Int) (R : Value → Mem → Prop) (M : Mem) : wpH PP pr arena_Arena_has.h (retH pr Tryz.f66.results.toList R) (argEnv 0 [.pointer a, .int .i64 c, .int .i64 field]) M = arena_Arena_has.T pr a c field R M := root_eq.trans (arena_Arena_has.eqX pr (ptsR PP pr arena_Arena_has.h (retH pr Tryz.f66.results.toList R)) a c field R M)
theorem arena_Arena_has.fn : PP.funcs[Id.arena_Arena_has]? = some Tryz.f66 := Tryz.func66
theorem arena_Arena_has.can : callable PP Id.arena_Arena_has = true := by kernel_rfl
theorem arena_Arena_has.good : okH Tryz.f66.ntmps arena_Arena_has.h = true := by kernel_rfl
theorem arena_Arena_has.body : Tryz.f66.body = some ((Tryz.f66.body).getD .skip) := by kernel_rfl
theorem arena_Arena_has.size : (3 : Nat) ≤ Tryz.f66.ntmps := by decide
theorem arena_Arena_has.go (w0 : World) (a : Option Addr) (c : Int) (field : Int) {R : Value → Mem → Prop} {M : Mem} (h : arena_Arena_has.T (std PP w0) a c field R M) : C PP w0 Id.arena_Arena_has #[.pointer a, .int .i64 c, .int .i64 field] R M :=
  C_intro mixed arena_Arena_has.fn arena_Arena_has.body arena_Arena_has.can (annot_code _ _) arena_Arena_has.good arena_Arena_has.size ((arena_Arena_has.eq (std PP w0) a c field R M).mpr h)
-- thicket/item.Put
noncomputable def item_Put.h : HC := annot ((Tryz.f67.body).getD .skip) []
def item_Put.T (pr : Prim) (a : Option Addr) (n : Int) (i : Int) (R : Value → Mem → Prop) (M : Mem) : Prop := ob (pr.bq .neq 30 (.tmp 6) (.const (.pointer none)) (.pointer a) (.pointer none)) fun v1 => shB v1 fun b2 => bs b2 (pr.call Id.arena_Arena_Set #[.pointer a, .int .i64 n, .int .i64 6, .int .i64 i] (fun v3 M4 => shB v3 fun b5 => pr.call Id.arena_Arena_Set #[.pointer a, .int .i64 i, .int .i64 9, .int .i64 n] (fun v6 M7 => shB v6 fun b8 => R (.tuple #[]) M7) M4) M) (R (.tuple #[]) M)
theorem item_Put.eqX (pr : Prim) (pts : Pts) (a : Option Addr) (n : Int) (i : Int) (R : Value → Mem → Prop) (M : Mem) : wpX PP pr pts item_Put.h [] [] (retH pr Tryz.f67.results.toList R) (argEnv 0 [.pointer a, .int .i64 n, .int .i64 i]) M = item_Put.T pr a n i R M := by kernel_rfl
theorem item_Put.eq (pr : Prim) (a : Option Addr) (n : Int) (i : Int) (R : Value → Mem → Prop) (M : Mem) : wpH PP pr item_Put.h (retH pr Tryz.f67.results.toList R) (argEnv 0 [.pointer a, .int .i64 n, .int .i64 i]) M = item_Put.T pr a n i R M := root_eq.trans (item_Put.eqX pr (ptsR PP pr item_Put.h (retH pr Tryz.f67.results.toList R)) a n i R M)
theorem item_Put.fn : PP.funcs[Id.item_Put]? = some Tryz.f67 := Tryz.func67
theorem item_Put.can : callable PP Id.item_Put = true := by kernel_rfl
theorem item_Put.good : okH Tryz.f67.ntmps item_Put.h = true := by kernel_rfl
theorem item_Put.body : Tryz.f67.body = some ((Tryz.f67.body).getD .skip) := by kernel_rfl
theorem item_Put.size : (3 : Nat) ≤ Tryz.f67.ntmps := by decide
theorem item_Put.go (w0 : World) (a : Option Addr) (n : Int) (i : Int) {R : Value → Mem → Prop} {M : Mem} (h : item_Put.T (std PP w0) a n i R M) : C PP w0 Id.item_Put #[.pointer a, .int .i64 n, .int .i64 i] R M :=
  C_intro mixed item_Put.fn item_Put.body item_Put.can (annot_code _ _) item_Put.good item_Put.size ((item_Put.eq (std PP w0) a n i R M).mpr h)
-- thicket/chain.link
noncomputable def chain_link.h : HC := annot ((Tryz.f68.body).getD .skip) []
def chain_link.T (pr : Prim) (a : Option Addr) (c : Int) (d : Int) (R : Value → Mem → Prop) (M : Mem) : Prop := pr.call Id.arena_Arena_Set #[.pointer a, .int .i64 c, .int .i64 3, .int .i64 d] (fun v1 M2 => shB v1 fun b3 => pr.call Id.arena_Arena_Set #[.pointer a, .int .i64 d, .int .i64 2, .int .i64 c] (fun v4 M5 => shB v4 fun b6 => R (.tuple #[]) M5) M2) M
theorem chain_link.eqX (pr : Prim) (pts : Pts) (a : Option Addr) (c : Int) (d : Int) (R : Value → Mem → Prop) (M : Mem) : wpX PP pr pts chain_link.h [] [] (retH pr Tryz.f68.results.toList R) (argEnv 0 [.pointer a, .int .i64 c, .int .i64 d]) M = chain_link.T pr a c d R M := by kernel_rfl
theorem chain_link.eq (pr : Prim) (a : Option Addr) (c : Int) (d : Int) (R : Value → Mem → Prop) (M : Mem) : wpH PP pr chain_link.h (retH pr Tryz.f68.results.toList R) (argEnv 0 [.pointer a, .int .i64 c, .int .i64 d]) M = chain_link.T pr a c d R M := root_eq.trans (chain_link.eqX pr (ptsR PP pr chain_link.h (retH pr Tryz.f68.results.toList R)) a c d R M)
theorem chain_link.fn : PP.funcs[Id.chain_link]? = some Tryz.f68 := Tryz.func68
theorem chain_link.can : callable PP Id.chain_link = true := by kernel_rfl
theorem chain_link.good : okH Tryz.f68.ntmps chain_link.h = true := by kernel_rfl
theorem chain_link.body : Tryz.f68.body = some ((Tryz.f68.body).getD .skip) := by kernel_rfl
theorem chain_link.size : (3 : Nat) ≤ Tryz.f68.ntmps := by decide
theorem chain_link.go (w0 : World) (a : Option Addr) (c : Int) (d : Int) {R : Value → Mem → Prop} {M : Mem} (h : chain_link.T (std PP w0) a c d R M) : C PP w0 Id.chain_link #[.pointer a, .int .i64 c, .int .i64 d] R M :=
  C_intro mixed chain_link.fn chain_link.body chain_link.can (annot_code _ _) chain_link.good chain_link.size ((chain_link.eq (std PP w0) a c d R M).mpr h)
-- thicket/thicketref1.Bits
noncomputable def thicketref1_Bits.h : HC := annot ((Tryz.f69.body).getD .skip) [([true, true, false, false], [0, 3])]
abbrev thicketref1_Bits.L1 (pts : Pts) (k : Nat) (n_0 : Int) (k_3 : Int) (M : Mem) : Prop := pts [false, false, false, true, true] [k] [(0, .int .i64 n_0), (3, .int .i64 k_3)] M
def thicketref1_Bits.pts (pr : Prim) (R : Value → Mem → Prop) : Pts := ptsR PP pr thicketref1_Bits.h (retH pr Tryz.f69.results.toList R)
def thicketref1_Bits.L1.T (pr : Prim) (pts : Pts) (k : Nat) (n_0 : Int) (k_3 : Int) (R : Value → Mem → Prop) (M : Mem) : Prop := bs (decide (n_0 > 0)) ((IntKind.i64 = IntKind.i64 ∧ (2 : Int) ≠ 0 ∧ thicketref1_Bits.L1 pts k (w64 (Int.tdiv n_0 2)) (w64 (k_3 + 1)) M)) (R (.int .i64 k_3) M)
theorem thicketref1_Bits.L1.zero (pr : Prim) (n_0 : Int) (k_3 : Int) (R : Value → Mem → Prop) (M : Mem) : thicketref1_Bits.L1 (thicketref1_Bits.pts pr R) 0 n_0 k_3 M = False :=
  (ptsR_eq (b := false) (p := [false, false, true, true]) (ns := [0]) rfl _ _).trans (by kernel_rfl)
theorem thicketref1_Bits.L1.eqX (pr : Prim) (pts : Pts) (k : Nat) (n_0 : Int) (k_3 : Int) (R : Value → Mem → Prop) (M : Mem) : bodyX PP pr pts thicketref1_Bits.h (retH pr Tryz.f69.results.toList R) [false, false, false, true, true] [k + 1] [(0, .int .i64 n_0), (3, .int .i64 k_3)] M = thicketref1_Bits.L1.T pr pts k n_0 k_3 R M := by kernel_rfl
theorem thicketref1_Bits.L1.succ (pr : Prim) (k : Nat) (n_0 : Int) (k_3 : Int) (R : Value → Mem → Prop) (M : Mem) : thicketref1_Bits.L1 (thicketref1_Bits.pts pr R) (k + 1) n_0 k_3 M = thicketref1_Bits.L1.T pr (thicketref1_Bits.pts pr R) k n_0 k_3 R M :=
  (ptsR_eq (b := false) (p := [false, false, true, true]) (ns := [k + 1]) rfl _ _).trans (thicketref1_Bits.L1.eqX pr (thicketref1_Bits.pts pr R) k n_0 k_3 R M)
structure thicketref1_Bits.Is (pr : Prim) (pts : Pts) (R : Value → Mem → Prop) : Prop where
  L1 : ∀ (k : Nat) (n_0 : Int) (k_3 : Int) (M : Mem), thicketref1_Bits.L1 pts (k + 1) n_0 k_3 M = thicketref1_Bits.L1.T pr pts k n_0 k_3 R M
theorem thicketref1_Bits.is (pr : Prim) (R : Value → Mem → Prop) : thicketref1_Bits.Is pr (thicketref1_Bits.pts pr R) R := ⟨fun k n_0 k_3 M => thicketref1_Bits.L1.succ pr k n_0 k_3 R M⟩
def thicketref1_Bits.T (pr : Prim) (pts : Pts) (n : Int) (R : Value → Mem → Prop) (M : Mem) : Prop := ∃ k1, thicketref1_Bits.L1 pts k1 n 0 M
theorem thicketref1_Bits.eqX (pr : Prim) (pts : Pts) (n : Int) (R : Value → Mem → Prop) (M : Mem) : wpX PP pr pts thicketref1_Bits.h [] [] (retH pr Tryz.f69.results.toList R) (argEnv 0 [.int .i64 n]) M = thicketref1_Bits.T pr pts n R M := by kernel_rfl
theorem thicketref1_Bits.eq (pr : Prim) (n : Int) (R : Value → Mem → Prop) (M : Mem) : wpH PP pr thicketref1_Bits.h (retH pr Tryz.f69.results.toList R) (argEnv 0 [.int .i64 n]) M = thicketref1_Bits.T pr (thicketref1_Bits.pts pr R) n R M := root_eq.trans (thicketref1_Bits.eqX pr (thicketref1_Bits.pts pr R) n R M)
theorem thicketref1_Bits.fn : PP.funcs[Id.thicketref1_Bits]? = some Tryz.f69 := Tryz.func69
theorem thicketref1_Bits.can : callable PP Id.thicketref1_Bits = true := by kernel_rfl
theorem thicketref1_Bits.good : okH Tryz.f69.ntmps thicketref1_Bits.h = true := by kernel_rfl
theorem thicketref1_Bits.body : Tryz.f69.body = some ((Tryz.f69.body).getD .skip) := by kernel_rfl
theorem thicketref1_Bits.size : (1 : Nat) ≤ Tryz.f69.ntmps := by decide
theorem thicketref1_Bits.go (w0 : World) (n : Int) {R : Value → Mem → Prop} {M : Mem} (h : ∀ pts, thicketref1_Bits.Is (std PP w0) pts R → thicketref1_Bits.T (std PP w0) pts n R M) : C PP w0 Id.thicketref1_Bits #[.int .i64 n] R M :=
  C_intro mixed thicketref1_Bits.fn thicketref1_Bits.body thicketref1_Bits.can (annot_code _ _) thicketref1_Bits.good thicketref1_Bits.size ((thicketref1_Bits.eq (std PP w0) n R M).mpr (h _ (thicketref1_Bits.is _ _)))
-- thicket/thicketref1.Add
noncomputable def thicketref1_Add.h : HC := annot ((Tryz.f70.body).getD .skip) [([true], [0, 1])]
abbrev thicketref1_Add.J1 (pts : Pts) (a_0 : Int) (b_1 : Int) (M : Mem) : Prop := pts [true, true] [] [(0, .int .i64 a_0), (1, .int .i64 b_1)] M
def thicketref1_Add.pts (pr : Prim) (R : Value → Mem → Prop) : Pts := ptsR PP pr thicketref1_Add.h (retH pr Tryz.f70.results.toList R)
def thicketref1_Add.J1.T (pr : Prim) (pts : Pts) (a_0 : Int) (b_1 : Int) (R : Value → Mem → Prop) (M : Mem) : Prop := bs (decide (a_0 < 0)) (bs (decide (b_1 < (w64 ((-9223372036854775808) - a_0)))) (R (.int .i64 (-9223372036854775808)) M) (R (.int .i64 (w64 (a_0 + b_1))) M)) (R (.int .i64 (w64 (a_0 + b_1))) M)
theorem thicketref1_Add.J1.eqX (pr : Prim) (pts : Pts) (a_0 : Int) (b_1 : Int) (R : Value → Mem → Prop) (M : Mem) : bodyX PP pr pts thicketref1_Add.h (retH pr Tryz.f70.results.toList R) [true, true] [] [(0, .int .i64 a_0), (1, .int .i64 b_1)] M = thicketref1_Add.J1.T pr pts a_0 b_1 R M := by kernel_rfl
theorem thicketref1_Add.J1.eq (pr : Prim) (a_0 : Int) (b_1 : Int) (R : Value → Mem → Prop) (M : Mem) : thicketref1_Add.J1 (thicketref1_Add.pts pr R) a_0 b_1 M = thicketref1_Add.J1.T pr (thicketref1_Add.pts pr R) a_0 b_1 R M :=
  (ptsR_eq (b := true) (p := [true]) (ns := []) rfl _ _).trans (thicketref1_Add.J1.eqX pr (thicketref1_Add.pts pr R) a_0 b_1 R M)
structure thicketref1_Add.Is (pr : Prim) (pts : Pts) (R : Value → Mem → Prop) : Prop where
  J1 : ∀ (a_0 : Int) (b_1 : Int) (M : Mem), thicketref1_Add.J1 pts a_0 b_1 M = thicketref1_Add.J1.T pr pts a_0 b_1 R M
theorem thicketref1_Add.is (pr : Prim) (R : Value → Mem → Prop) : thicketref1_Add.Is pr (thicketref1_Add.pts pr R) R := ⟨fun a_0 b_1 M => thicketref1_Add.J1.eq pr a_0 b_1 R M⟩
def thicketref1_Add.T (pr : Prim) (pts : Pts) (a : Int) (b : Int) (R : Value → Mem → Prop) (M : Mem) : Prop := bs (decide (a > 0)) (bs (decide (b > (w64 (9223372036854775807 - a)))) (R (.int .i64 9223372036854775807) M) (thicketref1_Add.J1 pts a b M)) (thicketref1_Add.J1 pts a b M)
theorem thicketref1_Add.eqX (pr : Prim) (pts : Pts) (a : Int) (b : Int) (R : Value → Mem → Prop) (M : Mem) : wpX PP pr pts thicketref1_Add.h [] [] (retH pr Tryz.f70.results.toList R) (argEnv 0 [.int .i64 a, .int .i64 b]) M = thicketref1_Add.T pr pts a b R M := by kernel_rfl
theorem thicketref1_Add.eq (pr : Prim) (a : Int) (b : Int) (R : Value → Mem → Prop) (M : Mem) : wpH PP pr thicketref1_Add.h (retH pr Tryz.f70.results.toList R) (argEnv 0 [.int .i64 a, .int .i64 b]) M = thicketref1_Add.T pr (thicketref1_Add.pts pr R) a b R M := root_eq.trans (thicketref1_Add.eqX pr (thicketref1_Add.pts pr R) a b R M)
theorem thicketref1_Add.fn : PP.funcs[Id.thicketref1_Add]? = some Tryz.f70 := Tryz.func70
theorem thicketref1_Add.can : callable PP Id.thicketref1_Add = true := by kernel_rfl
theorem thicketref1_Add.good : okH Tryz.f70.ntmps thicketref1_Add.h = true := by kernel_rfl
theorem thicketref1_Add.body : Tryz.f70.body = some ((Tryz.f70.body).getD .skip) := by kernel_rfl
theorem thicketref1_Add.size : (2 : Nat) ≤ Tryz.f70.ntmps := by decide
theorem thicketref1_Add.go (w0 : World) (a : Int) (b : Int) {R : Value → Mem → Prop} {M : Mem} (h : ∀ pts, thicketref1_Add.Is (std PP w0) pts R → thicketref1_Add.T (std PP w0) pts a b R M) : C PP w0 Id.thicketref1_Add #[.int .i64 a, .int .i64 b] R M :=
  C_intro mixed thicketref1_Add.fn thicketref1_Add.body thicketref1_Add.can (annot_code _ _) thicketref1_Add.good thicketref1_Add.size ((thicketref1_Add.eq (std PP w0) a b R M).mpr (h _ (thicketref1_Add.is _ _)))
-- thicket/order.Add
noncomputable def order_Add.h : HC := annot ((Tryz.f71.body).getD .skip) []
def order_Add.T (pr : Prim) (a : Int) (b : Int) (R : Value → Mem → Prop) (M : Mem) : Prop := bs (decide (b > 0)) (bs (decide (a > (w64 (9223372036854775807 - b)))) (R (.int .i64 9223372036854775807) M) (bs (decide (b < 0)) (bs (decide (a < (w64 ((-9223372036854775808) - b)))) (R (.int .i64 (-9223372036854775808)) M) (R (.int .i64 (w64 (a + b))) M)) (R (.int .i64 (w64 (a + b))) M))) (bs (decide (b < 0)) (bs (decide (a < (w64 ((-9223372036854775808) - b)))) (R (.int .i64 (-9223372036854775808)) M) (R (.int .i64 (w64 (a + b))) M)) (R (.int .i64 (w64 (a + b))) M))
theorem order_Add.eqX (pr : Prim) (pts : Pts) (a : Int) (b : Int) (R : Value → Mem → Prop) (M : Mem) : wpX PP pr pts order_Add.h [] [] (retH pr Tryz.f71.results.toList R) (argEnv 0 [.int .i64 a, .int .i64 b]) M = order_Add.T pr a b R M := by kernel_rfl
theorem order_Add.eq (pr : Prim) (a : Int) (b : Int) (R : Value → Mem → Prop) (M : Mem) : wpH PP pr order_Add.h (retH pr Tryz.f71.results.toList R) (argEnv 0 [.int .i64 a, .int .i64 b]) M = order_Add.T pr a b R M := root_eq.trans (order_Add.eqX pr (ptsR PP pr order_Add.h (retH pr Tryz.f71.results.toList R)) a b R M)
theorem order_Add.fn : PP.funcs[Id.order_Add]? = some Tryz.f71 := Tryz.func71
theorem order_Add.can : callable PP Id.order_Add = true := by kernel_rfl
theorem order_Add.good : okH Tryz.f71.ntmps order_Add.h = true := by kernel_rfl
theorem order_Add.body : Tryz.f71.body = some ((Tryz.f71.body).getD .skip) := by kernel_rfl
theorem order_Add.size : (2 : Nat) ≤ Tryz.f71.ntmps := by decide
theorem order_Add.go (w0 : World) (a : Int) (b : Int) {R : Value → Mem → Prop} {M : Mem} (h : order_Add.T (std PP w0) a b R M) : C PP w0 Id.order_Add #[.int .i64 a, .int .i64 b] R M :=
  C_intro mixed order_Add.fn order_Add.body order_Add.can (annot_code _ _) order_Add.good order_Add.size ((order_Add.eq (std PP w0) a b R M).mpr h)
-- thicket/thicketref1.Before
noncomputable def thicketref1_Before.h : HC := annot ((Tryz.f72.body).getD .skip) []
def thicketref1_Before.T (pr : Prim) (a_0 : Int) (a_1 : Int) (b_0 : Int) (b_1 : Int) (R : Value → Mem → Prop) (M : Mem) : Prop := pr.nw [.int .i64 a_0, .int .i64 a_1] 55 (fun b1 M2 => pr.nw [.int .i64 b_0, .int .i64 b_1] 55 (fun b3 M4 => ob (pr.ld 2 ⟨b1, 0, none⟩ M4) fun v5 => shI .i64 v5 fun n6 => ob (pr.ld 2 ⟨b3, 0, none⟩ M4) fun v7 => shI .i64 v7 fun n8 => bs (decide (n6 < n8)) (R (.bool true) M4) (ob (pr.ld 2 ⟨b1, 0, none⟩ M4) fun v9 => shI .i64 v9 fun n10 => ob (pr.ld 2 ⟨b3, 0, none⟩ M4) fun v11 => shI .i64 v11 fun n12 => bs ((n10 == n12)) (ob (pr.ld 2 (Addr.add ⟨b1, 0, none⟩ 1) M4) fun v13 => shI .i64 v13 fun n14 => ob (pr.ld 2 (Addr.add ⟨b3, 0, none⟩ 1) M4) fun v15 => shI .i64 v15 fun n16 => R (.bool (decide (n14 < n16))) M4) (R (.bool false) M4))) M2) M
theorem thicketref1_Before.eqX (pr : Prim) (pts : Pts) (a_0 : Int) (a_1 : Int) (b_0 : Int) (b_1 : Int) (R : Value → Mem → Prop) (M : Mem) : wpX PP pr pts thicketref1_Before.h [] [] (retH pr Tryz.f72.results.toList R) (argEnv 0 [.agg #[.int .i64 a_0, .int .i64 a_1], .agg #[.int .i64 b_0, .int .i64 b_1]]) M = thicketref1_Before.T pr a_0 a_1 b_0 b_1 R M := by kernel_rfl
theorem thicketref1_Before.eq (pr : Prim) (a_0 : Int) (a_1 : Int) (b_0 : Int) (b_1 : Int) (R : Value → Mem → Prop) (M : Mem) : wpH PP pr thicketref1_Before.h (retH pr Tryz.f72.results.toList R) (argEnv 0 [.agg #[.int .i64 a_0, .int .i64 a_1], .agg #[.int .i64 b_0, .int .i64 b_1]]) M = thicketref1_Before.T pr a_0 a_1 b_0 b_1 R M := root_eq.trans (thicketref1_Before.eqX pr (ptsR PP pr thicketref1_Before.h (retH pr Tryz.f72.results.toList R)) a_0 a_1 b_0 b_1 R M)
theorem thicketref1_Before.fn : PP.funcs[Id.thicketref1_Before]? = some Tryz.f72 := Tryz.func72
theorem thicketref1_Before.can : callable PP Id.thicketref1_Before = true := by kernel_rfl
theorem thicketref1_Before.good : okH Tryz.f72.ntmps thicketref1_Before.h = true := by kernel_rfl
theorem thicketref1_Before.body : Tryz.f72.body = some ((Tryz.f72.body).getD .skip) := by kernel_rfl
theorem thicketref1_Before.size : (2 : Nat) ≤ Tryz.f72.ntmps := by decide
theorem thicketref1_Before.go (w0 : World) (a_0 : Int) (a_1 : Int) (b_0 : Int) (b_1 : Int) {R : Value → Mem → Prop} {M : Mem} (h : thicketref1_Before.T (std PP w0) a_0 a_1 b_0 b_1 R M) : C PP w0 Id.thicketref1_Before #[.agg #[.int .i64 a_0, .int .i64 a_1], .agg #[.int .i64 b_0, .int .i64 b_1]] R M :=
  C_intro mixed thicketref1_Before.fn thicketref1_Before.body thicketref1_Before.can (annot_code _ _) thicketref1_Before.good thicketref1_Before.size ((thicketref1_Before.eq (std PP w0) a_0 a_1 b_0 b_1 R M).mpr h)
-- slices.Sort[[]int,int]
noncomputable def slices_Sort_int_int.h : HC := annot ((Tryz.f73.body).getD .skip) []
def slices_Sort_int_int.T (pr : Prim) (x : SV) (R : Value → Mem → Prop) (M : Mem) : Prop := pr.call Id.bits_Len #[.int .u64 (u64 (((x.n : Nat) : Int)))] (fun v1 M2 => shI .i64 v1 fun n3 => pr.call Id.slices_pdqsortOrdered_int #[SV.v x, .int .i64 0, .int .i64 ((x.n : Nat) : Int), .int .i64 n3] (fun v4 M5 => R (.tuple #[]) M5) M2) M
theorem slices_Sort_int_int.eqX (pr : Prim) (pts : Pts) (x : SV) (R : Value → Mem → Prop) (M : Mem) : wpX PP pr pts slices_Sort_int_int.h [] [] (retH pr Tryz.f73.results.toList R) (argEnv 0 [SV.v x]) M = slices_Sort_int_int.T pr x R M := by kernel_rfl
theorem slices_Sort_int_int.eq (pr : Prim) (x : SV) (R : Value → Mem → Prop) (M : Mem) : wpH PP pr slices_Sort_int_int.h (retH pr Tryz.f73.results.toList R) (argEnv 0 [SV.v x]) M = slices_Sort_int_int.T pr x R M := root_eq.trans (slices_Sort_int_int.eqX pr (ptsR PP pr slices_Sort_int_int.h (retH pr Tryz.f73.results.toList R)) x R M)
theorem slices_Sort_int_int.fn : PP.funcs[Id.slices_Sort_int_int]? = some Tryz.f73 := Tryz.func73
theorem slices_Sort_int_int.can : callable PP Id.slices_Sort_int_int = true := by kernel_rfl
theorem slices_Sort_int_int.good : okH Tryz.f73.ntmps slices_Sort_int_int.h = true := by kernel_rfl
theorem slices_Sort_int_int.body : Tryz.f73.body = some ((Tryz.f73.body).getD .skip) := by kernel_rfl
theorem slices_Sort_int_int.size : (1 : Nat) ≤ Tryz.f73.ntmps := by decide
theorem slices_Sort_int_int.go (w0 : World) (x : SV) {R : Value → Mem → Prop} {M : Mem} (h : slices_Sort_int_int.T (std PP w0) x R M) : C PP w0 Id.slices_Sort_int_int #[SV.v x] R M :=
  C_intro mixed slices_Sort_int_int.fn slices_Sort_int_int.body slices_Sort_int_int.can (annot_code _ _) slices_Sort_int_int.good slices_Sort_int_int.size ((slices_Sort_int_int.eq (std PP w0) x R M).mpr h)
-- thicket/node.Below
noncomputable def node_Below.h : HC := annot ((Tryz.f74.body).getD .skip) [([true, true, true, true, false, false], [0, 2, 7, 8, 9]), ([true, true, true, true, false, false, false, true, false, true, true], [0, 2, 7, 8, 9, 10])]
abbrev node_Below.L1 (pts : Pts) (k : Nat) (a_0 : Option Addr) (kids_2 : FuncId × Array Value) (seen_7 : SV) (out_8 : SV) (wait_9 : SV) (M : Mem) : Prop := pts [false, false, false, true, true, true, true] [k] [(0, .pointer a_0), (2, .func (.func kids_2.1) #[] kids_2.2), (7, SV.v seen_7), (8, SV.v out_8), (9, SV.v wait_9)] M
abbrev node_Below.J2 (pts : Pts) (k : Nat) (a_0 : Option Addr) (kids_2 : FuncId × Array Value) (seen_7 : SV) (out_8 : SV) (wait_9 : SV) (n_10 : Int) (M : Mem) : Prop := pts [true, true, true, false, true, false, false, false, true, true, true, true] [k] [(0, .pointer a_0), (2, .func (.func kids_2.1) #[] kids_2.2), (7, SV.v seen_7), (8, SV.v out_8), (9, SV.v wait_9), (10, .int .i64 n_10)] M
def node_Below.pts (pr : Prim) (R : Value → Mem → Prop) : Pts := ptsR PP pr node_Below.h (retH pr Tryz.f74.results.toList R)
def node_Below.L1.T (pr : Prim) (pts : Pts) (k : Nat) (a_0 : Option Addr) (kids_2 : FuncId × Array Value) (seen_7 : SV) (out_8 : SV) (wait_9 : SV) (R : Value → Mem → Prop) (M : Mem) : Prop := bs (decide (((wait_9.n : Nat) : Int) > 0)) (nc wait_9.a fun a11 => (0 ≤ (w64 (((wait_9.n : Nat) : Int) - 1)) ∧ (w64 (((wait_9.n : Nat) : Int) - 1)) < ((wait_9.n : Nat) : Int)) ∧ ob (pr.ld 3 (a11.add ((w64 (((wait_9.n : Nat) : Int) - 1)).toNat * 1)) M) fun v12 => shI .i64 v12 fun n13 => (0 ≤ (0 : Int) ∧ (0 : Int) ≤ (w64 (((wait_9.n : Nat) : Int) - 1)) ∧ (w64 (((wait_9.n : Nat) : Int) - 1)) ≤ ((wait_9.c : Nat) : Int)) ∧ pr.call Id.arena_Arena_Live #[.pointer a_0, .int .i64 n13] (fun v14 M15 => shB v14 fun b16 => bs (!b16) (node_Below.L1 pts k a_0 kids_2 seen_7 out_8 ⟨(if wait_9.c = (0 : Int).toNat then wait_9.a else wait_9.a.map (·.add ((0 : Int).toNat * 1))), ((w64 (((wait_9.n : Nat) : Int) - 1)).toNat - (0 : Int).toNat), (wait_9.c - (0 : Int).toNat)⟩ M15) (nc seen_7.a fun a17 => (0 ≤ n13 ∧ n13 < ((seen_7.n : Nat) : Int)) ∧ ob (pr.ld 4 (a17.add (n13.toNat * 1)) M15) fun v18 => shB v18 fun b19 => bs b19 (node_Below.L1 pts k a_0 kids_2 seen_7 out_8 ⟨(if wait_9.c = (0 : Int).toNat then wait_9.a else wait_9.a.map (·.add ((0 : Int).toNat * 1))), ((w64 (((wait_9.n : Nat) : Int) - 1)).toNat - (0 : Int).toNat), (wait_9.c - (0 : Int).toNat)⟩ M15) (node_Below.J2 pts k a_0 kids_2 seen_7 out_8 ⟨(if wait_9.c = (0 : Int).toNat then wait_9.a else wait_9.a.map (·.add ((0 : Int).toNat * 1))), ((w64 (((wait_9.n : Nat) : Int) - 1)).toNat - (0 : Int).toNat), (wait_9.c - (0 : Int).toNat)⟩ n13 M15))) M) (R (SV.v out_8) M)
theorem node_Below.L1.zero (pr : Prim) (a_0 : Option Addr) (kids_2 : FuncId × Array Value) (seen_7 : SV) (out_8 : SV) (wait_9 : SV) (R : Value → Mem → Prop) (M : Mem) : node_Below.L1 (node_Below.pts pr R) 0 a_0 kids_2 seen_7 out_8 wait_9 M = False :=
  (ptsR_eq (b := false) (p := [false, false, true, true, true, true]) (ns := [0]) rfl _ _).trans (by kernel_rfl)
theorem node_Below.L1.eqX (pr : Prim) (pts : Pts) (k : Nat) (a_0 : Option Addr) (kids_2 : FuncId × Array Value) (seen_7 : SV) (out_8 : SV) (wait_9 : SV) (R : Value → Mem → Prop) (M : Mem) : bodyX PP pr pts node_Below.h (retH pr Tryz.f74.results.toList R) [false, false, false, true, true, true, true] [k + 1] [(0, .pointer a_0), (2, .func (.func kids_2.1) #[] kids_2.2), (7, SV.v seen_7), (8, SV.v out_8), (9, SV.v wait_9)] M = node_Below.L1.T pr pts k a_0 kids_2 seen_7 out_8 wait_9 R M := by kernel_rfl
theorem node_Below.L1.succ (pr : Prim) (k : Nat) (a_0 : Option Addr) (kids_2 : FuncId × Array Value) (seen_7 : SV) (out_8 : SV) (wait_9 : SV) (R : Value → Mem → Prop) (M : Mem) : node_Below.L1 (node_Below.pts pr R) (k + 1) a_0 kids_2 seen_7 out_8 wait_9 M = node_Below.L1.T pr (node_Below.pts pr R) k a_0 kids_2 seen_7 out_8 wait_9 R M :=
  (ptsR_eq (b := false) (p := [false, false, true, true, true, true]) (ns := [k + 1]) rfl _ _).trans (node_Below.L1.eqX pr (node_Below.pts pr R) k a_0 kids_2 seen_7 out_8 wait_9 R M)
def node_Below.J2.T (pr : Prim) (pts : Pts) (k : Nat) (a_0 : Option Addr) (kids_2 : FuncId × Array Value) (seen_7 : SV) (out_8 : SV) (wait_9 : SV) (n_10 : Int) (R : Value → Mem → Prop) (M : Mem) : Prop := nc seen_7.a fun a20 => (0 ≤ n_10 ∧ n_10 < ((seen_7.n : Nat) : Int)) ∧ pr.st 4 (a20.add (n_10.toNat * 1)) (.bool true) (fun M21 => pr.bsl 61 1 [(0, .int .i64 n_10)] (fun v22 M23 => shS v22 fun s24 => pr.app #[61, 61] 61 [SV.v out_8, SV.v s24] (fun v25 M26 => shS v25 fun s27 => pr.call kids_2.1 (([.int .i64 n_10] : List Value) ++ kids_2.2.toList).toArray (fun v28 M29 => shS v28 fun s30 => pr.app #[61, 61] 61 [SV.v wait_9, SV.v s30] (fun v31 M32 => shS v31 fun s33 => node_Below.L1 pts k a_0 kids_2 seen_7 s27 s33 M32) M29) M26) M23) M21) M
theorem node_Below.J2.eqX (pr : Prim) (pts : Pts) (k : Nat) (a_0 : Option Addr) (kids_2 : FuncId × Array Value) (seen_7 : SV) (out_8 : SV) (wait_9 : SV) (n_10 : Int) (R : Value → Mem → Prop) (M : Mem) : bodyX PP pr pts node_Below.h (retH pr Tryz.f74.results.toList R) [true, true, true, false, true, false, false, false, true, true, true, true] [k] [(0, .pointer a_0), (2, .func (.func kids_2.1) #[] kids_2.2), (7, SV.v seen_7), (8, SV.v out_8), (9, SV.v wait_9), (10, .int .i64 n_10)] M = node_Below.J2.T pr pts k a_0 kids_2 seen_7 out_8 wait_9 n_10 R M := by kernel_rfl
theorem node_Below.J2.eq (pr : Prim) (k : Nat) (a_0 : Option Addr) (kids_2 : FuncId × Array Value) (seen_7 : SV) (out_8 : SV) (wait_9 : SV) (n_10 : Int) (R : Value → Mem → Prop) (M : Mem) : node_Below.J2 (node_Below.pts pr R) k a_0 kids_2 seen_7 out_8 wait_9 n_10 M = node_Below.J2.T pr (node_Below.pts pr R) k a_0 kids_2 seen_7 out_8 wait_9 n_10 R M :=
  (ptsR_eq (b := true) (p := [true, true, false, true, false, false, false, true, true, true, true]) (ns := [k]) rfl _ _).trans (node_Below.J2.eqX pr (node_Below.pts pr R) k a_0 kids_2 seen_7 out_8 wait_9 n_10 R M)
structure node_Below.Is (pr : Prim) (pts : Pts) (R : Value → Mem → Prop) : Prop where
  L1 : ∀ (k : Nat) (a_0 : Option Addr) (kids_2 : FuncId × Array Value) (seen_7 : SV) (out_8 : SV) (wait_9 : SV) (M : Mem), node_Below.L1 pts (k + 1) a_0 kids_2 seen_7 out_8 wait_9 M = node_Below.L1.T pr pts k a_0 kids_2 seen_7 out_8 wait_9 R M
  J2 : ∀ (k : Nat) (a_0 : Option Addr) (kids_2 : FuncId × Array Value) (seen_7 : SV) (out_8 : SV) (wait_9 : SV) (n_10 : Int) (M : Mem), node_Below.J2 pts k a_0 kids_2 seen_7 out_8 wait_9 n_10 M = node_Below.J2.T pr pts k a_0 kids_2 seen_7 out_8 wait_9 n_10 R M
theorem node_Below.is (pr : Prim) (R : Value → Mem → Prop) : node_Below.Is pr (node_Below.pts pr R) R := ⟨fun k a_0 kids_2 seen_7 out_8 wait_9 M => node_Below.L1.succ pr k a_0 kids_2 seen_7 out_8 wait_9 R M, fun k a_0 kids_2 seen_7 out_8 wait_9 n_10 M => node_Below.J2.eq pr k a_0 kids_2 seen_7 out_8 wait_9 n_10 R M⟩
def node_Below.T (pr : Prim) (pts : Pts) (a : Option Addr) (first : SV) (kids : FuncId × Array Value) (R : Value → Mem → Prop) (M : Mem) : Prop := pr.call Id.arena_Arena_Cells #[.pointer a] (fun v1 M2 => shI .i64 v1 fun n3 => pr.mks 106 (.int .i64 n3) (.int .i64 n3) (fun v4 M5 => shS v4 fun s6 => pr.call Id.slices_Clone_int_int #[SV.v first] (fun v7 M8 => shS v7 fun s9 => ∃ k10, node_Below.L1 pts k10 a kids s6 ⟨none, 0, 0⟩ s9 M8) M5) M2) M
theorem node_Below.eqX (pr : Prim) (pts : Pts) (a : Option Addr) (first : SV) (kids : FuncId × Array Value) (R : Value → Mem → Prop) (M : Mem) : wpX PP pr pts node_Below.h [] [] (retH pr Tryz.f74.results.toList R) (argEnv 0 [.pointer a, SV.v first, .func (.func kids.1) #[] kids.2]) M = node_Below.T pr pts a first kids R M := by kernel_rfl
theorem node_Below.eq (pr : Prim) (a : Option Addr) (first : SV) (kids : FuncId × Array Value) (R : Value → Mem → Prop) (M : Mem) : wpH PP pr node_Below.h (retH pr Tryz.f74.results.toList R) (argEnv 0 [.pointer a, SV.v first, .func (.func kids.1) #[] kids.2]) M = node_Below.T pr (node_Below.pts pr R) a first kids R M := root_eq.trans (node_Below.eqX pr (node_Below.pts pr R) a first kids R M)
theorem node_Below.fn : PP.funcs[Id.node_Below]? = some Tryz.f74 := Tryz.func74
theorem node_Below.can : callable PP Id.node_Below = true := by kernel_rfl
theorem node_Below.good : okH Tryz.f74.ntmps node_Below.h = true := by kernel_rfl
theorem node_Below.body : Tryz.f74.body = some ((Tryz.f74.body).getD .skip) := by kernel_rfl
theorem node_Below.size : (3 : Nat) ≤ Tryz.f74.ntmps := by decide
theorem node_Below.go (w0 : World) (a : Option Addr) (first : SV) (kids : FuncId × Array Value) {R : Value → Mem → Prop} {M : Mem} (h : ∀ pts, node_Below.Is (std PP w0) pts R → node_Below.T (std PP w0) pts a first kids R M) : C PP w0 Id.node_Below #[.pointer a, SV.v first, .func (.func kids.1) #[] kids.2] R M :=
  C_intro mixed node_Below.fn node_Below.body node_Below.can (annot_code _ _) node_Below.good node_Below.size ((node_Below.eq (std PP w0) a first kids R M).mpr (h _ (node_Below.is _ _)))
-- thicket/chain.All
noncomputable def chain_All.h : HC := annot ((Tryz.f75.body).getD .skip) [([true], [0, 1]), ([true, true, true, false, true, false], [0, 1, 5, 6]), ([true, true, true, false, true, false, false], [0, 1, 5, 6])]
abbrev chain_All.J1 (pts : Pts) (a_0 : Option Addr) (c_1 : Int) (M : Mem) : Prop := pts [true, true] [] [(0, .pointer a_0), (1, .int .i64 c_1)] M
abbrev chain_All.L2 (pts : Pts) (k : Nat) (a_0 : Option Addr) (c_1 : Int) (out_5 : SV) (d_6 : Int) (M : Mem) : Prop := pts [false, false, true, false, true, true, true] [k] [(0, .pointer a_0), (1, .int .i64 c_1), (5, SV.v out_5), (6, .int .i64 d_6)] M
abbrev chain_All.J3 (pts : Pts) (k : Nat) (a_0 : Option Addr) (c_1 : Int) (out_5 : SV) (d_6 : Int) (M : Mem) : Prop := pts [true, false, false, true, false, true, true, true] [k] [(0, .pointer a_0), (1, .int .i64 c_1), (5, SV.v out_5), (6, .int .i64 d_6)] M
def chain_All.pts (pr : Prim) (R : Value → Mem → Prop) : Pts := ptsR PP pr chain_All.h (retH pr Tryz.f75.results.toList R)
def chain_All.J1.T (pr : Prim) (pts : Pts) (a_0 : Option Addr) (c_1 : Int) (R : Value → Mem → Prop) (M : Mem) : Prop := pr.bsl 61 1 [(0, .int .i64 c_1)] (fun v6 M7 => shS v6 fun s8 => pr.call Id.arena_Arena_Cell #[.pointer a_0, .int .i64 c_1, .int .i64 3] (fun v9 M10 => shI .i64 v9 fun n11 => ∃ k12, chain_All.L2 pts k12 a_0 c_1 s8 n11 M10) M7) M
theorem chain_All.J1.eqX (pr : Prim) (pts : Pts) (a_0 : Option Addr) (c_1 : Int) (R : Value → Mem → Prop) (M : Mem) : bodyX PP pr pts chain_All.h (retH pr Tryz.f75.results.toList R) [true, true] [] [(0, .pointer a_0), (1, .int .i64 c_1)] M = chain_All.J1.T pr pts a_0 c_1 R M := by kernel_rfl
theorem chain_All.J1.eq (pr : Prim) (a_0 : Option Addr) (c_1 : Int) (R : Value → Mem → Prop) (M : Mem) : chain_All.J1 (chain_All.pts pr R) a_0 c_1 M = chain_All.J1.T pr (chain_All.pts pr R) a_0 c_1 R M :=
  (ptsR_eq (b := true) (p := [true]) (ns := []) rfl _ _).trans (chain_All.J1.eqX pr (chain_All.pts pr R) a_0 c_1 R M)
def chain_All.L2.T (pr : Prim) (pts : Pts) (k : Nat) (a_0 : Option Addr) (c_1 : Int) (out_5 : SV) (d_6 : Int) (R : Value → Mem → Prop) (M : Mem) : Prop := bs ((d_6 != c_1)) (pr.call Id.arena_Arena_Live #[.pointer a_0, .int .i64 d_6] (fun v13 M14 => shB v13 fun b15 => bs b15 (pr.call Id.arena_Arena_Cells #[.pointer a_0] (fun v16 M17 => shI .i64 v16 fun n18 => bs (decide (((out_5.n : Nat) : Int) < n18)) (chain_All.J3 pts k a_0 c_1 out_5 d_6 M17) (R (SV.v out_5) M17)) M14) (R (SV.v out_5) M14)) M) (R (SV.v out_5) M)
theorem chain_All.L2.zero (pr : Prim) (a_0 : Option Addr) (c_1 : Int) (out_5 : SV) (d_6 : Int) (R : Value → Mem → Prop) (M : Mem) : chain_All.L2 (chain_All.pts pr R) 0 a_0 c_1 out_5 d_6 M = False :=
  (ptsR_eq (b := false) (p := [false, true, false, true, true, true]) (ns := [0]) rfl _ _).trans (by kernel_rfl)
theorem chain_All.L2.eqX (pr : Prim) (pts : Pts) (k : Nat) (a_0 : Option Addr) (c_1 : Int) (out_5 : SV) (d_6 : Int) (R : Value → Mem → Prop) (M : Mem) : bodyX PP pr pts chain_All.h (retH pr Tryz.f75.results.toList R) [false, false, true, false, true, true, true] [k + 1] [(0, .pointer a_0), (1, .int .i64 c_1), (5, SV.v out_5), (6, .int .i64 d_6)] M = chain_All.L2.T pr pts k a_0 c_1 out_5 d_6 R M := by kernel_rfl
theorem chain_All.L2.succ (pr : Prim) (k : Nat) (a_0 : Option Addr) (c_1 : Int) (out_5 : SV) (d_6 : Int) (R : Value → Mem → Prop) (M : Mem) : chain_All.L2 (chain_All.pts pr R) (k + 1) a_0 c_1 out_5 d_6 M = chain_All.L2.T pr (chain_All.pts pr R) k a_0 c_1 out_5 d_6 R M :=
  (ptsR_eq (b := false) (p := [false, true, false, true, true, true]) (ns := [k + 1]) rfl _ _).trans (chain_All.L2.eqX pr (chain_All.pts pr R) k a_0 c_1 out_5 d_6 R M)
def chain_All.J3.T (pr : Prim) (pts : Pts) (k : Nat) (a_0 : Option Addr) (c_1 : Int) (out_5 : SV) (d_6 : Int) (R : Value → Mem → Prop) (M : Mem) : Prop := pr.bsl 61 1 [(0, .int .i64 d_6)] (fun v19 M20 => shS v19 fun s21 => pr.app #[61, 61] 61 [SV.v out_5, SV.v s21] (fun v22 M23 => shS v22 fun s24 => pr.call Id.arena_Arena_Cell #[.pointer a_0, .int .i64 d_6, .int .i64 3] (fun v25 M26 => shI .i64 v25 fun n27 => chain_All.L2 pts k a_0 c_1 s24 n27 M26) M23) M20) M
theorem chain_All.J3.eqX (pr : Prim) (pts : Pts) (k : Nat) (a_0 : Option Addr) (c_1 : Int) (out_5 : SV) (d_6 : Int) (R : Value → Mem → Prop) (M : Mem) : bodyX PP pr pts chain_All.h (retH pr Tryz.f75.results.toList R) [true, false, false, true, false, true, true, true] [k] [(0, .pointer a_0), (1, .int .i64 c_1), (5, SV.v out_5), (6, .int .i64 d_6)] M = chain_All.J3.T pr pts k a_0 c_1 out_5 d_6 R M := by kernel_rfl
theorem chain_All.J3.eq (pr : Prim) (k : Nat) (a_0 : Option Addr) (c_1 : Int) (out_5 : SV) (d_6 : Int) (R : Value → Mem → Prop) (M : Mem) : chain_All.J3 (chain_All.pts pr R) k a_0 c_1 out_5 d_6 M = chain_All.J3.T pr (chain_All.pts pr R) k a_0 c_1 out_5 d_6 R M :=
  (ptsR_eq (b := true) (p := [false, false, true, false, true, true, true]) (ns := [k]) rfl _ _).trans (chain_All.J3.eqX pr (chain_All.pts pr R) k a_0 c_1 out_5 d_6 R M)
structure chain_All.Is (pr : Prim) (pts : Pts) (R : Value → Mem → Prop) : Prop where
  J1 : ∀ (a_0 : Option Addr) (c_1 : Int) (M : Mem), chain_All.J1 pts a_0 c_1 M = chain_All.J1.T pr pts a_0 c_1 R M
  L2 : ∀ (k : Nat) (a_0 : Option Addr) (c_1 : Int) (out_5 : SV) (d_6 : Int) (M : Mem), chain_All.L2 pts (k + 1) a_0 c_1 out_5 d_6 M = chain_All.L2.T pr pts k a_0 c_1 out_5 d_6 R M
  J3 : ∀ (k : Nat) (a_0 : Option Addr) (c_1 : Int) (out_5 : SV) (d_6 : Int) (M : Mem), chain_All.J3 pts k a_0 c_1 out_5 d_6 M = chain_All.J3.T pr pts k a_0 c_1 out_5 d_6 R M
theorem chain_All.is (pr : Prim) (R : Value → Mem → Prop) : chain_All.Is pr (chain_All.pts pr R) R := ⟨fun a_0 c_1 M => chain_All.J1.eq pr a_0 c_1 R M, fun k a_0 c_1 out_5 d_6 M => chain_All.L2.succ pr k a_0 c_1 out_5 d_6 R M, fun k a_0 c_1 out_5 d_6 M => chain_All.J3.eq pr k a_0 c_1 out_5 d_6 R M⟩
def chain_All.T (pr : Prim) (pts : Pts) (a : Option Addr) (c : Int) (R : Value → Mem → Prop) (M : Mem) : Prop := ob (pr.bq .eql 30 (.tmp 7) (.const (.pointer none)) (.pointer a) (.pointer none)) fun v1 => shB v1 fun b2 => bs b2 (R (.slice none 0 0) M) (pr.call Id.arena_Arena_Live #[.pointer a, .int .i64 c] (fun v3 M4 => shB v3 fun b5 => bs (!b5) (R (.slice none 0 0) M4) (chain_All.J1 pts a c M4)) M)
theorem chain_All.eqX (pr : Prim) (pts : Pts) (a : Option Addr) (c : Int) (R : Value → Mem → Prop) (M : Mem) : wpX PP pr pts chain_All.h [] [] (retH pr Tryz.f75.results.toList R) (argEnv 0 [.pointer a, .int .i64 c]) M = chain_All.T pr pts a c R M := by kernel_rfl
theorem chain_All.eq (pr : Prim) (a : Option Addr) (c : Int) (R : Value → Mem → Prop) (M : Mem) : wpH PP pr chain_All.h (retH pr Tryz.f75.results.toList R) (argEnv 0 [.pointer a, .int .i64 c]) M = chain_All.T pr (chain_All.pts pr R) a c R M := root_eq.trans (chain_All.eqX pr (chain_All.pts pr R) a c R M)
theorem chain_All.fn : PP.funcs[Id.chain_All]? = some Tryz.f75 := Tryz.func75
theorem chain_All.can : callable PP Id.chain_All = true := by kernel_rfl
theorem chain_All.good : okH Tryz.f75.ntmps chain_All.h = true := by kernel_rfl
theorem chain_All.body : Tryz.f75.body = some ((Tryz.f75.body).getD .skip) := by kernel_rfl
theorem chain_All.size : (2 : Nat) ≤ Tryz.f75.ntmps := by decide
theorem chain_All.go (w0 : World) (a : Option Addr) (c : Int) {R : Value → Mem → Prop} {M : Mem} (h : ∀ pts, chain_All.Is (std PP w0) pts R → chain_All.T (std PP w0) pts a c R M) : C PP w0 Id.chain_All #[.pointer a, .int .i64 c] R M :=
  C_intro mixed chain_All.fn chain_All.body chain_All.can (annot_code _ _) chain_All.good chain_All.size ((chain_All.eq (std PP w0) a c R M).mpr (h _ (chain_All.is _ _)))
-- thicket/fib.nodes$1
noncomputable def fib_nodes_1.h : HC := annot ((Tryz.f76.body).getD .skip) []
def fib_nodes_1.T (pr : Prim) (n : Int) (c1 : Addr) (R : Value → Mem → Prop) (M : Mem) : Prop := ob (pr.ld 30 c1 M) fun v1 => shP v1 fun p2 => ob (pr.ld 30 c1 M) fun v3 => shP v3 fun p4 => pr.call Id.arena_Arena_Cell #[.pointer p4, .int .i64 n, .int .i64 1] (fun v5 M6 => shI .i64 v5 fun n7 => (pr.ld 30 c1 M6 = some (.pointer p2)) ∧ pr.call Id.chain_All #[.pointer p2, .int .i64 n7] (fun v8 M9 => shS v8 fun s10 => R (SV.v s10) M9) M6) M
theorem fib_nodes_1.eqX (pr : Prim) (pts : Pts) (n : Int) (c1 : Addr) (R : Value → Mem → Prop) (M : Mem) : wpX PP pr pts fib_nodes_1.h [] [] (retH pr Tryz.f76.results.toList R) (argEnv 0 [.int .i64 n, .pointer (some c1)]) M = fib_nodes_1.T pr n c1 R M := by kernel_rfl
theorem fib_nodes_1.eq (pr : Prim) (n : Int) (c1 : Addr) (R : Value → Mem → Prop) (M : Mem) : wpH PP pr fib_nodes_1.h (retH pr Tryz.f76.results.toList R) (argEnv 0 [.int .i64 n, .pointer (some c1)]) M = fib_nodes_1.T pr n c1 R M := root_eq.trans (fib_nodes_1.eqX pr (ptsR PP pr fib_nodes_1.h (retH pr Tryz.f76.results.toList R)) n c1 R M)
theorem fib_nodes_1.fn : PP.funcs[Id.fib_nodes_1]? = some Tryz.f76 := Tryz.func76
theorem fib_nodes_1.can : callable PP Id.fib_nodes_1 = true := by kernel_rfl
theorem fib_nodes_1.good : okH Tryz.f76.ntmps fib_nodes_1.h = true := by kernel_rfl
theorem fib_nodes_1.body : Tryz.f76.body = some ((Tryz.f76.body).getD .skip) := by kernel_rfl
theorem fib_nodes_1.size : (2 : Nat) ≤ Tryz.f76.ntmps := by decide
theorem fib_nodes_1.go (w0 : World) (n : Int) (c1 : Addr) {R : Value → Mem → Prop} {M : Mem} (h : fib_nodes_1.T (std PP w0) n c1 R M) : C PP w0 Id.fib_nodes_1 #[.int .i64 n, .pointer (some c1)] R M :=
  C_intro mixed fib_nodes_1.fn fib_nodes_1.body fib_nodes_1.can (annot_code _ _) fib_nodes_1.good fib_nodes_1.size ((fib_nodes_1.eq (std PP w0) n c1 R M).mpr h)
-- thicket/item.Entry
noncomputable def item_Entry.h : HC := annot ((Tryz.f77.body).getD .skip) []
def item_Entry.T (pr : Prim) (a : Option Addr) (i : Int) (R : Value → Mem → Prop) (M : Mem) : Prop := pr.nw [.int .i64 0, .int .i64 0] 55 (fun b1 M2 => ob (pr.bq .eql 30 (.tmp 5) (.const (.pointer none)) (.pointer a) (.pointer none)) fun v3 => shB v3 fun b4 => bs b4 (ob (pr.bld 55 []) fun v5 => shA v5 fun l6 => shCons l6 fun u7 r8 => shI .i64 u7 fun n9 => shCons r8 fun u10 r11 => shI .i64 u10 fun n12 => shNil r11 (pr.st 55 ⟨b1, 0, none⟩ (.agg #[.int .i64 n9, .int .i64 n12]) (fun M13 => ob (pr.rdv 55 (.pointer (some ⟨b1, 0, none⟩)) M13) fun v14 => R v14 M13) M2)) (pr.call Id.arena_Arena_Get #[.pointer a, .int .i64 i, .int .i64 7] (fun v15 M16 => shI .i64 v15 fun n17 => pr.call Id.arena_Arena_Get #[.pointer a, .int .i64 i, .int .i64 8] (fun v18 M19 => shI .i64 v18 fun n20 => ob (pr.bld 55 [(0, .int .i64 n17), (1, .int .i64 n20)]) fun v21 => shA v21 fun l22 => shCons l22 fun u23 r24 => shI .i64 u23 fun n25 => shCons r24 fun u26 r27 => shI .i64 u26 fun n28 => shNil r27 (pr.st 55 ⟨b1, 0, none⟩ (.agg #[.int .i64 n25, .int .i64 n28]) (fun M29 => ob (pr.rdv 55 (.pointer (some ⟨b1, 0, none⟩)) M29) fun v30 => R v30 M29) M19)) M16) M2)) M
theorem item_Entry.eqX (pr : Prim) (pts : Pts) (a : Option Addr) (i : Int) (R : Value → Mem → Prop) (M : Mem) : wpX PP pr pts item_Entry.h [] [] (retH pr Tryz.f77.results.toList R) (argEnv 0 [.pointer a, .int .i64 i]) M = item_Entry.T pr a i R M := by kernel_rfl
theorem item_Entry.eq (pr : Prim) (a : Option Addr) (i : Int) (R : Value → Mem → Prop) (M : Mem) : wpH PP pr item_Entry.h (retH pr Tryz.f77.results.toList R) (argEnv 0 [.pointer a, .int .i64 i]) M = item_Entry.T pr a i R M := root_eq.trans (item_Entry.eqX pr (ptsR PP pr item_Entry.h (retH pr Tryz.f77.results.toList R)) a i R M)
theorem item_Entry.fn : PP.funcs[Id.item_Entry]? = some Tryz.f77 := Tryz.func77
theorem item_Entry.can : callable PP Id.item_Entry = true := by kernel_rfl
theorem item_Entry.good : okH Tryz.f77.ntmps item_Entry.h = true := by kernel_rfl
theorem item_Entry.body : Tryz.f77.body = some ((Tryz.f77.body).getD .skip) := by kernel_rfl
theorem item_Entry.size : (2 : Nat) ≤ Tryz.f77.ntmps := by decide
theorem item_Entry.go (w0 : World) (a : Option Addr) (i : Int) {R : Value → Mem → Prop} {M : Mem} (h : item_Entry.T (std PP w0) a i R M) : C PP w0 Id.item_Entry #[.pointer a, .int .i64 i] R M :=
  C_intro mixed item_Entry.fn item_Entry.body item_Entry.can (annot_code _ _) item_Entry.good item_Entry.size ((item_Entry.eq (std PP w0) a i R M).mpr h)
-- thicket/item.Before
noncomputable def item_Before.h : HC := annot ((Tryz.f78.body).getD .skip) []
def item_Before.T (pr : Prim) (a : Option Addr) (i : Int) (j : Int) (R : Value → Mem → Prop) (M : Mem) : Prop := pr.call Id.item_Entry #[.pointer a, .int .i64 i] (fun v1 M2 => shA v1 fun l3 => shCons l3 fun u4 r5 => shI .i64 u4 fun n6 => shCons r5 fun u7 r8 => shI .i64 u7 fun n9 => shNil r8 (pr.call Id.item_Entry #[.pointer a, .int .i64 j] (fun v10 M11 => shA v10 fun l12 => shCons l12 fun u13 r14 => shI .i64 u13 fun n15 => shCons r14 fun u16 r17 => shI .i64 u16 fun n18 => shNil r17 (pr.call Id.order_Compare #[.agg #[.int .i64 n6, .int .i64 n9], .agg #[.int .i64 n15, .int .i64 n18]] (fun v19 M20 => shI .i64 v19 fun n21 => bs (decide (n21 < 0)) (R (.bool true) M20) (bs ((n21 == 0)) (R (.bool (decide (i < j))) M20) (R (.bool false) M20))) M11)) M2)) M
theorem item_Before.eqX (pr : Prim) (pts : Pts) (a : Option Addr) (i : Int) (j : Int) (R : Value → Mem → Prop) (M : Mem) : wpX PP pr pts item_Before.h [] [] (retH pr Tryz.f78.results.toList R) (argEnv 0 [.pointer a, .int .i64 i, .int .i64 j]) M = item_Before.T pr a i j R M := by kernel_rfl
theorem item_Before.eq (pr : Prim) (a : Option Addr) (i : Int) (j : Int) (R : Value → Mem → Prop) (M : Mem) : wpH PP pr item_Before.h (retH pr Tryz.f78.results.toList R) (argEnv 0 [.pointer a, .int .i64 i, .int .i64 j]) M = item_Before.T pr a i j R M := root_eq.trans (item_Before.eqX pr (ptsR PP pr item_Before.h (retH pr Tryz.f78.results.toList R)) a i j R M)
theorem item_Before.fn : PP.funcs[Id.item_Before]? = some Tryz.f78 := Tryz.func78
theorem item_Before.can : callable PP Id.item_Before = true := by kernel_rfl
theorem item_Before.good : okH Tryz.f78.ntmps item_Before.h = true := by kernel_rfl
theorem item_Before.body : Tryz.f78.body = some ((Tryz.f78.body).getD .skip) := by kernel_rfl
theorem item_Before.size : (3 : Nat) ≤ Tryz.f78.ntmps := by decide
theorem item_Before.go (w0 : World) (a : Option Addr) (i : Int) (j : Int) {R : Value → Mem → Prop} {M : Mem} (h : item_Before.T (std PP w0) a i j R M) : C PP w0 Id.item_Before #[.pointer a, .int .i64 i, .int .i64 j] R M :=
  C_intro mixed item_Before.fn item_Before.body item_Before.can (annot_code _ _) item_Before.good item_Before.size ((item_Before.eq (std PP w0) a i j R M).mpr h)
end Go.Proofs.YtbkicgfgpmekeaaGreat.HL
