/-
  Printed by gen.py (a program of this work) out of Lean's own print of the program: what each function's code comes to over the heap logic; each equation is checked by the kernel.
-/
import Derived.Test.YtbkicgfgpmekeaaGreatGenId
set_option linter.unusedVariables false
set_option maxRecDepth 100000
namespace Go.Proofs.YtbkicgfgpmekeaaGreat.HL
open Go.Proofs
-- thicket/fib.Cut
noncomputable def fib_Cut.h : HC := annot ((Tryz.f37.body).getD .skip) [([true, true, true, true], [0, 7])]
abbrev fib_Cut.J1 (pts : Pts) (a_0 : Option Addr) (n_7 : Int) (M : Mem) : Prop := pts [true, true, true, true, true] [] [(0, .pointer a_0), (7, .int .i64 n_7)] M
def fib_Cut.pts (pr : Prim) (R : Value → Mem → Prop) : Pts := ptsR PP pr fib_Cut.h (retH pr Tryz.f37.results.toList R)
def fib_Cut.J1.T (pr : Prim) (pts : Pts) (a_0 : Option Addr) (n_7 : Int) (R : Value → Mem → Prop) (M : Mem) : Prop := pr.call Id.fib_pop #[.pointer a_0, .int .i64 n_7] (fun v11 M12 => shT v11 fun l13 => shCons l13 fun u14 r15 => shI .i64 u14 fun n16 => shCons r15 fun u17 r18 => shI .i64 u17 fun n19 => shNil r18 (R (.int .i64 n16) M12)) M
theorem fib_Cut.J1.eqX (pr : Prim) (pts : Pts) (a_0 : Option Addr) (n_7 : Int) (R : Value → Mem → Prop) (M : Mem) : bodyX PP pr pts fib_Cut.h (retH pr Tryz.f37.results.toList R) [true, true, true, true, true] [] [(0, .pointer a_0), (7, .int .i64 n_7)] M = fib_Cut.J1.T pr pts a_0 n_7 R M := by kernel_rfl
theorem fib_Cut.J1.eq (pr : Prim) (a_0 : Option Addr) (n_7 : Int) (R : Value → Mem → Prop) (M : Mem) : fib_Cut.J1 (fib_Cut.pts pr R) a_0 n_7 M = fib_Cut.J1.T pr (fib_Cut.pts pr R) a_0 n_7 R M :=
  (ptsR_eq (b := true) (p := [true, true, true, true]) (ns := []) rfl _ _).trans (fib_Cut.J1.eqX pr (fib_Cut.pts pr R) a_0 n_7 R M)
structure fib_Cut.Is (pr : Prim) (pts : Pts) (R : Value → Mem → Prop) : Prop where
  J1 : ∀ (a_0 : Option Addr) (n_7 : Int) (M : Mem), fib_Cut.J1 pts a_0 n_7 M = fib_Cut.J1.T pr pts a_0 n_7 R M
theorem fib_Cut.is (pr : Prim) (R : Value → Mem → Prop) : fib_Cut.Is pr (fib_Cut.pts pr R) R := ⟨fun a_0 n_7 M => fib_Cut.J1.eq pr a_0 n_7 R M⟩
def fib_Cut.T (pr : Prim) (pts : Pts) (a : Option Addr) (r : Int) (i : Int) (R : Value → Mem → Prop) (M : Mem) : Prop := ob (pr.bq .eql 30 (.tmp 10) (.const (.pointer none)) (.pointer a) (.pointer none)) fun v1 => shB v1 fun b2 => bs b2 (R (.int .i64 (-1)) M) (pr.call Id.item_Node #[.pointer a, .int .i64 i] (fun v3 M4 => shI .i64 v3 fun n5 => bs ((n5 == (-1))) (R (.int .i64 r) M4) (pr.call Id.arena_Arena_Cell #[.pointer a, .int .i64 n5, .int .i64 0] (fun v6 M7 => shI .i64 v6 fun n8 => bs ((n8 != (-1))) (pr.call Id.fib_cut #[.pointer a, .int .i64 r, .int .i64 n5] (fun v9 M10 => fib_Cut.J1 pts a n5 M10) M7) (fib_Cut.J1 pts a n5 M7)) M4)) M)
theorem fib_Cut.eqX (pr : Prim) (pts : Pts) (a : Option Addr) (r : Int) (i : Int) (R : Value → Mem → Prop) (M : Mem) : wpX PP pr pts fib_Cut.h [] [] (retH pr Tryz.f37.results.toList R) (argEnv 0 [.pointer a, .int .i64 r, .int .i64 i]) M = fib_Cut.T pr pts a r i R M := by kernel_rfl
theorem fib_Cut.eq (pr : Prim) (a : Option Addr) (r : Int) (i : Int) (R : Value → Mem → Prop) (M : Mem) : wpH PP pr fib_Cut.h (retH pr Tryz.f37.results.toList R) (argEnv 0 [.pointer a, .int .i64 r, .int .i64 i]) M = fib_Cut.T pr (fib_Cut.pts pr R) a r i R M := root_eq.trans (fib_Cut.eqX pr (fib_Cut.pts pr R) a r i R M)
theorem fib_Cut.fn : PP.funcs[Id.fib_Cut]? = some Tryz.f37 := Tryz.func37
theorem fib_Cut.can : callable PP Id.fib_Cut = true := by kernel_rfl
theorem fib_Cut.good : okH Tryz.f37.ntmps fib_Cut.h = true := by kernel_rfl
theorem fib_Cut.body : Tryz.f37.body = some ((Tryz.f37.body).getD .skip) := by kernel_rfl
theorem fib_Cut.size : (3 : Nat) ≤ Tryz.f37.ntmps := by decide
theorem fib_Cut.go (w0 : World) (a : Option Addr) (r : Int) (i : Int) {R : Value → Mem → Prop} {M : Mem} (h : ∀ pts, fib_Cut.Is (std PP w0) pts R → fib_Cut.T (std PP w0) pts a r i R M) : C PP w0 Id.fib_Cut #[.pointer a, .int .i64 r, .int .i64 i] R M :=
  C_intro mixed fib_Cut.fn fib_Cut.body fib_Cut.can (annot_code _ _) fib_Cut.good fib_Cut.size ((fib_Cut.eq (std PP w0) a r i R M).mpr (h _ (fib_Cut.is _ _)))
-- thicket/item.Node
noncomputable def item_Node.h : HC := annot ((Tryz.f38.body).getD .skip) []
def item_Node.T (pr : Prim) (a : Option Addr) (i : Int) (R : Value → Mem → Prop) (M : Mem) : Prop := ob (pr.bq .eql 30 (.tmp 5) (.const (.pointer none)) (.pointer a) (.pointer none)) fun v1 => shB v1 fun b2 => bs b2 (R (.int .i64 (-1)) M) (pr.call Id.arena_Arena_Cell #[.pointer a, .int .i64 i, .int .i64 9] (fun v3 M4 => shI .i64 v3 fun n5 => R (.int .i64 n5) M4) M)
theorem item_Node.eqX (pr : Prim) (pts : Pts) (a : Option Addr) (i : Int) (R : Value → Mem → Prop) (M : Mem) : wpX PP pr pts item_Node.h [] [] (retH pr Tryz.f38.results.toList R) (argEnv 0 [.pointer a, .int .i64 i]) M = item_Node.T pr a i R M := by kernel_rfl
theorem item_Node.eq (pr : Prim) (a : Option Addr) (i : Int) (R : Value → Mem → Prop) (M : Mem) : wpH PP pr item_Node.h (retH pr Tryz.f38.results.toList R) (argEnv 0 [.pointer a, .int .i64 i]) M = item_Node.T pr a i R M := root_eq.trans (item_Node.eqX pr (ptsR PP pr item_Node.h (retH pr Tryz.f38.results.toList R)) a i R M)
theorem item_Node.fn : PP.funcs[Id.item_Node]? = some Tryz.f38 := Tryz.func38
theorem item_Node.can : callable PP Id.item_Node = true := by kernel_rfl
theorem item_Node.good : okH Tryz.f38.ntmps item_Node.h = true := by kernel_rfl
theorem item_Node.body : Tryz.f38.body = some ((Tryz.f38.body).getD .skip) := by kernel_rfl
theorem item_Node.size : (2 : Nat) ≤ Tryz.f38.ntmps := by decide
theorem item_Node.go (w0 : World) (a : Option Addr) (i : Int) {R : Value → Mem → Prop} {M : Mem} (h : item_Node.T (std PP w0) a i R M) : C PP w0 Id.item_Node #[.pointer a, .int .i64 i] R M :=
  C_intro mixed item_Node.fn item_Node.body item_Node.can (annot_code _ _) item_Node.good item_Node.size ((item_Node.eq (std PP w0) a i R M).mpr h)
-- thicket/fib.Meld
noncomputable def fib_Meld.h : HC := annot ((Tryz.f39.body).getD .skip) [([true], [0, 1, 2])]
abbrev fib_Meld.J1 (pts : Pts) (a_0 : Option Addr) (r_1 : Int) (s_2 : Int) (M : Mem) : Prop := pts [true, true] [] [(0, .pointer a_0), (1, .int .i64 r_1), (2, .int .i64 s_2)] M
def fib_Meld.pts (pr : Prim) (R : Value → Mem → Prop) : Pts := ptsR PP pr fib_Meld.h (retH pr Tryz.f39.results.toList R)
def fib_Meld.J1.T (pr : Prim) (pts : Pts) (a_0 : Option Addr) (r_1 : Int) (s_2 : Int) (R : Value → Mem → Prop) (M : Mem) : Prop := pr.call Id.chain_Join #[.pointer a_0, .int .i64 r_1, .int .i64 s_2] (fun v3 M4 => pr.call Id.fib_lesser #[.pointer a_0, .int .i64 r_1, .int .i64 s_2] (fun v5 M6 => shI .i64 v5 fun n7 => R (.int .i64 n7) M6) M4) M
theorem fib_Meld.J1.eqX (pr : Prim) (pts : Pts) (a_0 : Option Addr) (r_1 : Int) (s_2 : Int) (R : Value → Mem → Prop) (M : Mem) : bodyX PP pr pts fib_Meld.h (retH pr Tryz.f39.results.toList R) [true, true] [] [(0, .pointer a_0), (1, .int .i64 r_1), (2, .int .i64 s_2)] M = fib_Meld.J1.T pr pts a_0 r_1 s_2 R M := by kernel_rfl
theorem fib_Meld.J1.eq (pr : Prim) (a_0 : Option Addr) (r_1 : Int) (s_2 : Int) (R : Value → Mem → Prop) (M : Mem) : fib_Meld.J1 (fib_Meld.pts pr R) a_0 r_1 s_2 M = fib_Meld.J1.T pr (fib_Meld.pts pr R) a_0 r_1 s_2 R M :=
  (ptsR_eq (b := true) (p := [true]) (ns := []) rfl _ _).trans (fib_Meld.J1.eqX pr (fib_Meld.pts pr R) a_0 r_1 s_2 R M)
structure fib_Meld.Is (pr : Prim) (pts : Pts) (R : Value → Mem → Prop) : Prop where
  J1 : ∀ (a_0 : Option Addr) (r_1 : Int) (s_2 : Int) (M : Mem), fib_Meld.J1 pts a_0 r_1 s_2 M = fib_Meld.J1.T pr pts a_0 r_1 s_2 R M
theorem fib_Meld.is (pr : Prim) (R : Value → Mem → Prop) : fib_Meld.Is pr (fib_Meld.pts pr R) R := ⟨fun a_0 r_1 s_2 M => fib_Meld.J1.eq pr a_0 r_1 s_2 R M⟩
def fib_Meld.T (pr : Prim) (pts : Pts) (a : Option Addr) (r : Int) (s : Int) (R : Value → Mem → Prop) (M : Mem) : Prop := ob (pr.bq .eql 30 (.tmp 8) (.const (.pointer none)) (.pointer a) (.pointer none)) fun v1 => shB v1 fun b2 => bs b2 (R (.int .i64 (-1)) M) (bs ((r == (-1))) (R (.int .i64 s) M) (bs ((s == (-1))) (R (.int .i64 r) M) (bs ((r == s)) (R (.int .i64 r) M) (fib_Meld.J1 pts a r s M))))
theorem fib_Meld.eqX (pr : Prim) (pts : Pts) (a : Option Addr) (r : Int) (s : Int) (R : Value → Mem → Prop) (M : Mem) : wpX PP pr pts fib_Meld.h [] [] (retH pr Tryz.f39.results.toList R) (argEnv 0 [.pointer a, .int .i64 r, .int .i64 s]) M = fib_Meld.T pr pts a r s R M := by kernel_rfl
theorem fib_Meld.eq (pr : Prim) (a : Option Addr) (r : Int) (s : Int) (R : Value → Mem → Prop) (M : Mem) : wpH PP pr fib_Meld.h (retH pr Tryz.f39.results.toList R) (argEnv 0 [.pointer a, .int .i64 r, .int .i64 s]) M = fib_Meld.T pr (fib_Meld.pts pr R) a r s R M := root_eq.trans (fib_Meld.eqX pr (fib_Meld.pts pr R) a r s R M)
theorem fib_Meld.fn : PP.funcs[Id.fib_Meld]? = some Tryz.f39 := Tryz.func39
theorem fib_Meld.can : callable PP Id.fib_Meld = true := by kernel_rfl
theorem fib_Meld.good : okH Tryz.f39.ntmps fib_Meld.h = true := by kernel_rfl
theorem fib_Meld.body : Tryz.f39.body = some ((Tryz.f39.body).getD .skip) := by kernel_rfl
theorem fib_Meld.size : (3 : Nat) ≤ Tryz.f39.ntmps := by decide
theorem fib_Meld.go (w0 : World) (a : Option Addr) (r : Int) (s : Int) {R : Value → Mem → Prop} {M : Mem} (h : ∀ pts, fib_Meld.Is (std PP w0) pts R → fib_Meld.T (std PP w0) pts a r s R M) : C PP w0 Id.fib_Meld #[.pointer a, .int .i64 r, .int .i64 s] R M :=
  C_intro mixed fib_Meld.fn fib_Meld.body fib_Meld.can (annot_code _ _) fib_Meld.good fib_Meld.size ((fib_Meld.eq (std PP w0) a r s R M).mpr (h _ (fib_Meld.is _ _)))
-- thicket/fib.Pop
noncomputable def fib_Pop.h : HC := annot ((Tryz.f40.body).getD .skip) [([true], [0, 1])]
abbrev fib_Pop.J1 (pts : Pts) (a_0 : Option Addr) (r_1 : Int) (M : Mem) : Prop := pts [true, true] [] [(0, .pointer a_0), (1, .int .i64 r_1)] M
def fib_Pop.pts (pr : Prim) (R : Value → Mem → Prop) : Pts := ptsR PP pr fib_Pop.h (retH pr Tryz.f40.results.toList R)
def fib_Pop.J1.T (pr : Prim) (pts : Pts) (a_0 : Option Addr) (r_1 : Int) (R : Value → Mem → Prop) (M : Mem) : Prop := pr.call Id.fib_pop #[.pointer a_0, .int .i64 r_1] (fun v6 M7 => shT v6 fun l8 => shCons l8 fun u9 r10 => shI .i64 u9 fun n11 => shCons r10 fun u12 r13 => shI .i64 u12 fun n14 => shNil r13 (R (.tuple #[.int .i64 n11, .int .i64 n14]) M7)) M
theorem fib_Pop.J1.eqX (pr : Prim) (pts : Pts) (a_0 : Option Addr) (r_1 : Int) (R : Value → Mem → Prop) (M : Mem) : bodyX PP pr pts fib_Pop.h (retH pr Tryz.f40.results.toList R) [true, true] [] [(0, .pointer a_0), (1, .int .i64 r_1)] M = fib_Pop.J1.T pr pts a_0 r_1 R M := by kernel_rfl
theorem fib_Pop.J1.eq (pr : Prim) (a_0 : Option Addr) (r_1 : Int) (R : Value → Mem → Prop) (M : Mem) : fib_Pop.J1 (fib_Pop.pts pr R) a_0 r_1 M = fib_Pop.J1.T pr (fib_Pop.pts pr R) a_0 r_1 R M :=
  (ptsR_eq (b := true) (p := [true]) (ns := []) rfl _ _).trans (fib_Pop.J1.eqX pr (fib_Pop.pts pr R) a_0 r_1 R M)
structure fib_Pop.Is (pr : Prim) (pts : Pts) (R : Value → Mem → Prop) : Prop where
  J1 : ∀ (a_0 : Option Addr) (r_1 : Int) (M : Mem), fib_Pop.J1 pts a_0 r_1 M = fib_Pop.J1.T pr pts a_0 r_1 R M
theorem fib_Pop.is (pr : Prim) (R : Value → Mem → Prop) : fib_Pop.Is pr (fib_Pop.pts pr R) R := ⟨fun a_0 r_1 M => fib_Pop.J1.eq pr a_0 r_1 R M⟩
def fib_Pop.T (pr : Prim) (pts : Pts) (a : Option Addr) (r : Int) (R : Value → Mem → Prop) (M : Mem) : Prop := ob (pr.bq .eql 30 (.tmp 6) (.const (.pointer none)) (.pointer a) (.pointer none)) fun v1 => shB v1 fun b2 => bs b2 (R (.tuple #[.int .i64 (-1), .int .i64 (-1)]) M) (pr.call Id.arena_Arena_Live #[.pointer a, .int .i64 r] (fun v3 M4 => shB v3 fun b5 => bs (!b5) (R (.tuple #[.int .i64 (-1), .int .i64 (-1)]) M4) (fib_Pop.J1 pts a r M4)) M)
theorem fib_Pop.eqX (pr : Prim) (pts : Pts) (a : Option Addr) (r : Int) (R : Value → Mem → Prop) (M : Mem) : wpX PP pr pts fib_Pop.h [] [] (retH pr Tryz.f40.results.toList R) (argEnv 0 [.pointer a, .int .i64 r]) M = fib_Pop.T pr pts a r R M := by kernel_rfl
theorem fib_Pop.eq (pr : Prim) (a : Option Addr) (r : Int) (R : Value → Mem → Prop) (M : Mem) : wpH PP pr fib_Pop.h (retH pr Tryz.f40.results.toList R) (argEnv 0 [.pointer a, .int .i64 r]) M = fib_Pop.T pr (fib_Pop.pts pr R) a r R M := root_eq.trans (fib_Pop.eqX pr (fib_Pop.pts pr R) a r R M)
theorem fib_Pop.fn : PP.funcs[Id.fib_Pop]? = some Tryz.f40 := Tryz.func40
theorem fib_Pop.can : callable PP Id.fib_Pop = true := by kernel_rfl
theorem fib_Pop.good : okH Tryz.f40.ntmps fib_Pop.h = true := by kernel_rfl
theorem fib_Pop.body : Tryz.f40.body = some ((Tryz.f40.body).getD .skip) := by kernel_rfl
theorem fib_Pop.size : (2 : Nat) ≤ Tryz.f40.ntmps := by decide
theorem fib_Pop.go (w0 : World) (a : Option Addr) (r : Int) {R : Value → Mem → Prop} {M : Mem} (h : ∀ pts, fib_Pop.Is (std PP w0) pts R → fib_Pop.T (std PP w0) pts a r R M) : C PP w0 Id.fib_Pop #[.pointer a, .int .i64 r] R M :=
  C_intro mixed fib_Pop.fn fib_Pop.body fib_Pop.can (annot_code _ _) fib_Pop.good fib_Pop.size ((fib_Pop.eq (std PP w0) a r R M).mpr (h _ (fib_Pop.is _ _)))
-- thicket/fib.Drop
noncomputable def fib_Drop.h : HC := annot ((Tryz.f41.body).getD .skip) []
def fib_Drop.T (pr : Prim) (a : Option Addr) (r : Int) (R : Value → Mem → Prop) (M : Mem) : Prop := ob (pr.bq .eql 30 (.tmp 5) (.const (.pointer none)) (.pointer a) (.pointer none)) fun v1 => shB v1 fun b2 => bs b2 (R (.slice none 0 0) M) (pr.call Id.fib_nodes #[.pointer a, .int .i64 r] (fun v3 M4 => shS v3 fun s5 => pr.call Id.node_Drop #[.pointer a, SV.v s5] (fun v6 M7 => shS v6 fun s8 => R (SV.v s8) M7) M4) M)
theorem fib_Drop.eqX (pr : Prim) (pts : Pts) (a : Option Addr) (r : Int) (R : Value → Mem → Prop) (M : Mem) : wpX PP pr pts fib_Drop.h [] [] (retH pr Tryz.f41.results.toList R) (argEnv 0 [.pointer a, .int .i64 r]) M = fib_Drop.T pr a r R M := by kernel_rfl
theorem fib_Drop.eq (pr : Prim) (a : Option Addr) (r : Int) (R : Value → Mem → Prop) (M : Mem) : wpH PP pr fib_Drop.h (retH pr Tryz.f41.results.toList R) (argEnv 0 [.pointer a, .int .i64 r]) M = fib_Drop.T pr a r R M := root_eq.trans (fib_Drop.eqX pr (ptsR PP pr fib_Drop.h (retH pr Tryz.f41.results.toList R)) a r R M)
theorem fib_Drop.fn : PP.funcs[Id.fib_Drop]? = some Tryz.f41 := Tryz.func41
theorem fib_Drop.can : callable PP Id.fib_Drop = true := by kernel_rfl
theorem fib_Drop.good : okH Tryz.f41.ntmps fib_Drop.h = true := by kernel_rfl
theorem fib_Drop.body : Tryz.f41.body = some ((Tryz.f41.body).getD .skip) := by kernel_rfl
theorem fib_Drop.size : (2 : Nat) ≤ Tryz.f41.ntmps := by decide
theorem fib_Drop.go (w0 : World) (a : Option Addr) (r : Int) {R : Value → Mem → Prop} {M : Mem} (h : fib_Drop.T (std PP w0) a r R M) : C PP w0 Id.fib_Drop #[.pointer a, .int .i64 r] R M :=
  C_intro mixed fib_Drop.fn fib_Drop.body fib_Drop.can (annot_code _ _) fib_Drop.good fib_Drop.size ((fib_Drop.eq (std PP w0) a r R M).mpr h)
-- thicket/meter.New
noncomputable def meter_New.h : HC := annot ((Tryz.f42.body).getD .skip) []
def meter_New.T (pr : Prim) (R : Value → Mem → Prop) (M : Mem) : Prop := ob (pr.bld 74 []) fun v1 => shA v1 fun l2 => shCons l2 fun u3 r4 => shI .i64 u3 fun n5 => shCons r4 fun u6 r7 => shI .i64 u6 fun n8 => shCons r7 fun u9 r10 => shI .i64 u9 fun n11 => shNil r10 (pr.nw [.int .i64 n5, .int .i64 n8, .int .i64 n11] 74 (fun b12 M13 => R (.pointer (some ⟨b12, 0, none⟩)) M13) M)
theorem meter_New.eqX (pr : Prim) (pts : Pts) (R : Value → Mem → Prop) (M : Mem) : wpX PP pr pts meter_New.h [] [] (retH pr Tryz.f42.results.toList R) (argEnv 0 []) M = meter_New.T pr R M := by kernel_rfl
theorem meter_New.eq (pr : Prim) (R : Value → Mem → Prop) (M : Mem) : wpH PP pr meter_New.h (retH pr Tryz.f42.results.toList R) (argEnv 0 []) M = meter_New.T pr R M := root_eq.trans (meter_New.eqX pr (ptsR PP pr meter_New.h (retH pr Tryz.f42.results.toList R)) R M)
theorem meter_New.fn : PP.funcs[Id.meter_New]? = some Tryz.f42 := Tryz.func42
theorem meter_New.can : callable PP Id.meter_New = true := by kernel_rfl
theorem meter_New.good : okH Tryz.f42.ntmps meter_New.h = true := by kernel_rfl
theorem meter_New.body : Tryz.f42.body = some ((Tryz.f42.body).getD .skip) := by kernel_rfl
theorem meter_New.size : (0 : Nat) ≤ Tryz.f42.ntmps := by decide
theorem meter_New.go (w0 : World) {R : Value → Mem → Prop} {M : Mem} (h : meter_New.T (std PP w0) R M) : C PP w0 Id.meter_New #[] R M :=
  C_intro mixed meter_New.fn meter_New.body meter_New.can (annot_code _ _) meter_New.good meter_New.size ((meter_New.eq (std PP w0) R M).mpr h)
-- (*thicket/arena.Arena).Take
noncomputable def arena_Arena_Take.h : HC := annot ((Tryz.f43.body).getD .skip) [([true, true, true], [0, 4])]
abbrev arena_Arena_Take.J1 (pts : Pts) (a_0 : Option Addr) (c_4 : Int) (M : Mem) : Prop := pts [true, true, true, true] [] [(0, .pointer a_0), (4, .int .i64 c_4)] M
def arena_Arena_Take.pts (pr : Prim) (R : Value → Mem → Prop) : Pts := ptsR PP pr arena_Arena_Take.h (retH pr Tryz.f43.results.toList R)
def arena_Arena_Take.J1.T (pr : Prim) (pts : Pts) (a_0 : Option Addr) (c_4 : Int) (R : Value → Mem → Prop) (M : Mem) : Prop := nc a_0 fun a31 => ob (pr.ld 69 a31 M) fun v32 => shS v32 fun s33 => pr.call Id.arena_fresh #[] (fun v34 M35 => shA v34 fun l36 => shCons l36 fun u37 r38 => shI .i64 u37 fun n39 => shCons r38 fun u40 r41 => shI .i64 u40 fun n42 => shCons r41 fun u43 r44 => shI .i64 u43 fun n45 => shCons r44 fun u46 r47 => shI .i64 u46 fun n48 => shCons r47 fun u49 r50 => shI .i64 u49 fun n51 => shCons r50 fun u52 r53 => shI .i64 u52 fun n54 => shCons r53 fun u55 r56 => shI .i64 u55 fun n57 => shCons r56 fun u58 r59 => shI .i64 u58 fun n60 => shCons r59 fun u61 r62 => shI .i64 u61 fun n63 => shCons r62 fun u64 r65 => shI .i64 u64 fun n66 => shCons r65 fun u67 r68 => shB u67 fun b69 => shNil r68 (nc s33.a fun a70 => (0 ≤ c_4 ∧ c_4 < ((s33.n : Nat) : Int)) ∧ (pr.ld 69 a31 M35 = some (SV.v s33)) ∧ pr.st 82 (a70.add (c_4.toNat * 11)) (.agg #[.int .i64 n39, .int .i64 n42, .int .i64 n45, .int .i64 n48, .int .i64 n51, .int .i64 n54, .int .i64 n57, .int .i64 n60, .int .i64 n63, .int .i64 n66, .bool b69]) (fun M71 => R (.tuple #[.int .i64 c_4, .bool true]) M71) M35)) M
theorem arena_Arena_Take.J1.eqX (pr : Prim) (pts : Pts) (a_0 : Option Addr) (c_4 : Int) (R : Value → Mem → Prop) (M : Mem) : bodyX PP pr pts arena_Arena_Take.h (retH pr Tryz.f43.results.toList R) [true, true, true, true] [] [(0, .pointer a_0), (4, .int .i64 c_4)] M = arena_Arena_Take.J1.T pr pts a_0 c_4 R M := by kernel_rfl
theorem arena_Arena_Take.J1.eq (pr : Prim) (a_0 : Option Addr) (c_4 : Int) (R : Value → Mem → Prop) (M : Mem) : arena_Arena_Take.J1 (arena_Arena_Take.pts pr R) a_0 c_4 M = arena_Arena_Take.J1.T pr (arena_Arena_Take.pts pr R) a_0 c_4 R M :=
  (ptsR_eq (b := true) (p := [true, true, true]) (ns := []) rfl _ _).trans (arena_Arena_Take.J1.eqX pr (arena_Arena_Take.pts pr R) a_0 c_4 R M)
structure arena_Arena_Take.Is (pr : Prim) (pts : Pts) (R : Value → Mem → Prop) : Prop where
  J1 : ∀ (a_0 : Option Addr) (c_4 : Int) (M : Mem), arena_Arena_Take.J1 pts a_0 c_4 M = arena_Arena_Take.J1.T pr pts a_0 c_4 R M
theorem arena_Arena_Take.is (pr : Prim) (R : Value → Mem → Prop) : arena_Arena_Take.Is pr (arena_Arena_Take.pts pr R) R := ⟨fun a_0 c_4 M => arena_Arena_Take.J1.eq pr a_0 c_4 R M⟩
def arena_Arena_Take.T (pr : Prim) (pts : Pts) (a : Option Addr) (R : Value → Mem → Prop) (M : Mem) : Prop := nc a fun a1 => ob (pr.ld 47 (Addr.add a1 3) M) fun v2 => shP v2 fun p3 => pr.call Id.meter_Meter_Tick #[.pointer p3, .int .i64 1] (fun v4 M5 => nc a fun a6 => ob (pr.ld 3 (Addr.add a6 1) M5) fun v7 => shI .i64 v7 fun n8 => nc a fun a9 => ob (pr.ld 61 (Addr.add a9 2) M5) fun v10 => shS v10 fun s11 => bs (decide ((w64 (((s11.n : Nat) : Int) - 1)) ≥ 0)) (nc a fun a12 => ob (pr.ld 61 (Addr.add a12 2) M5) fun v13 => shS v13 fun s14 => nc s14.a fun a15 => (0 ≤ (w64 (((s11.n : Nat) : Int) - 1)) ∧ (w64 (((s11.n : Nat) : Int) - 1)) < ((s14.n : Nat) : Int)) ∧ ob (pr.ld 3 (a15.add ((w64 (((s11.n : Nat) : Int) - 1)).toNat * 1)) M5) fun v16 => shI .i64 v16 fun n17 => nc a fun a18 => ob (pr.ld 61 (Addr.add a18 2) M5) fun v19 => shS v19 fun s20 => (0 ≤ (0 : Int) ∧ (0 : Int) ≤ (w64 (((s11.n : Nat) : Int) - 1)) ∧ (w64 (((s11.n : Nat) : Int) - 1)) ≤ ((s20.c : Nat) : Int)) ∧ nc a fun a21 => pr.st 61 (Addr.add a21 2) (.slice (if s20.c = (0 : Int).toNat then s20.a else s20.a.map (·.add ((0 : Int).toNat * 1))) ((w64 (((s11.n : Nat) : Int) - 1)).toNat - (0 : Int).toNat) (s20.c - (0 : Int).toNat)) (fun M22 => arena_Arena_Take.J1 pts a n17 M22) M5) (nc a fun a23 => ob (pr.ld 69 a23 M5) fun v24 => shS v24 fun s25 => bs (decide (n8 ≥ ((s25.n : Nat) : Int))) (R (.tuple #[.int .i64 (-1), .bool false]) M5) (nc a fun a26 => ob (pr.ld 3 (Addr.add a26 1) M5) fun v27 => shI .i64 v27 fun n28 => nc a fun a29 => pr.st 3 (Addr.add a29 1) (.int .i64 (w64 (n28 + 1))) (fun M30 => arena_Arena_Take.J1 pts a n8 M30) M5))) M
theorem arena_Arena_Take.eqX (pr : Prim) (pts : Pts) (a : Option Addr) (R : Value → Mem → Prop) (M : Mem) : wpX PP pr pts arena_Arena_Take.h [] [] (retH pr Tryz.f43.results.toList R) (argEnv 0 [.pointer a]) M = arena_Arena_Take.T pr pts a R M := by kernel_rfl
theorem arena_Arena_Take.eq (pr : Prim) (a : Option Addr) (R : Value → Mem → Prop) (M : Mem) : wpH PP pr arena_Arena_Take.h (retH pr Tryz.f43.results.toList R) (argEnv 0 [.pointer a]) M = arena_Arena_Take.T pr (arena_Arena_Take.pts pr R) a R M := root_eq.trans (arena_Arena_Take.eqX pr (arena_Arena_Take.pts pr R) a R M)
theorem arena_Arena_Take.fn : PP.funcs[Id.arena_Arena_Take]? = some Tryz.f43 := Tryz.func43
theorem arena_Arena_Take.can : callable PP Id.arena_Arena_Take = true := by kernel_rfl
theorem arena_Arena_Take.good : okH Tryz.f43.ntmps arena_Arena_Take.h = true := by kernel_rfl
theorem arena_Arena_Take.body : Tryz.f43.body = some ((Tryz.f43.body).getD .skip) := by kernel_rfl
theorem arena_Arena_Take.size : (1 : Nat) ≤ Tryz.f43.ntmps := by decide
theorem arena_Arena_Take.go (w0 : World) (a : Option Addr) {R : Value → Mem → Prop} {M : Mem} (h : ∀ pts, arena_Arena_Take.Is (std PP w0) pts R → arena_Arena_Take.T (std PP w0) pts a R M) : C PP w0 Id.arena_Arena_Take #[.pointer a] R M :=
  C_intro mixed arena_Arena_Take.fn arena_Arena_Take.body arena_Arena_Take.can (annot_code _ _) arena_Arena_Take.good arena_Arena_Take.size ((arena_Arena_Take.eq (std PP w0) a R M).mpr (h _ (arena_Arena_Take.is _ _)))
-- (*thicket/arena.Arena).Set
noncomputable def arena_Arena_Set.h : HC := annot ((Tryz.f44.body).getD .skip) []
def arena_Arena_Set.T (pr : Prim) (a : Option Addr) (c : Int) (field : Int) (v : Int) (R : Value → Mem → Prop) (M : Mem) : Prop := nc a fun a1 => ob (pr.ld 47 (Addr.add a1 3) M) fun v2 => shP v2 fun p3 => pr.call Id.meter_Meter_Tick #[.pointer p3, .int .i64 1] (fun v4 M5 => pr.call Id.arena_Arena_has #[.pointer a, .int .i64 c, .int .i64 field] (fun v6 M7 => shB v6 fun b8 => bs (!b8) (R (.bool false) M7) (nc a fun a9 => ob (pr.ld 69 a9 M7) fun v10 => shS v10 fun s11 => nc s11.a fun a12 => (0 ≤ c ∧ c < ((s11.n : Nat) : Int)) ∧ (0 ≤ field ∧ field < ((10 : Nat) : Int)) ∧ pr.st 2 (Addr.add (a12.add (c.toNat * 11)) (field.toNat * 1)) (.int .i64 v) (fun M13 => R (.bool true) M13) M7)) M5) M
theorem arena_Arena_Set.eqX (pr : Prim) (pts : Pts) (a : Option Addr) (c : Int) (field : Int) (v : Int) (R : Value → Mem → Prop) (M : Mem) : wpX PP pr pts arena_Arena_Set.h [] [] (retH pr Tryz.f44.results.toList R) (argEnv 0 [.pointer a, .int .i64 c, .int .i64 field, .int .i64 v]) M = arena_Arena_Set.T pr a c field v R M := by kernel_rfl
theorem arena_Arena_Set.eq (pr : Prim) (a : Option Addr) (c : Int) (field : Int) (v : Int) (R : Value → Mem → Prop) (M : Mem) : wpH PP pr arena_Arena_Set.h (retH pr Tryz.f44.results.toList R) (argEnv 0 [.pointer a, .int .i64 c, .int .i64 field, .int .i64 v]) M = arena_Arena_Set.T pr a c field v R M := root_eq.trans (arena_Arena_Set.eqX pr (ptsR PP pr arena_Arena_Set.h (retH pr Tryz.f44.results.toList R)) a c field v R M)
theorem arena_Arena_Set.fn : PP.funcs[Id.arena_Arena_Set]? = some Tryz.f44 := Tryz.func44
theorem arena_Arena_Set.can : callable PP Id.arena_Arena_Set = true := by kernel_rfl
theorem arena_Arena_Set.good : okH Tryz.f44.ntmps arena_Arena_Set.h = true := by kernel_rfl
theorem arena_Arena_Set.body : Tryz.f44.body = some ((Tryz.f44.body).getD .skip) := by kernel_rfl
theorem arena_Arena_Set.size : (4 : Nat) ≤ Tryz.f44.ntmps := by decide
theorem arena_Arena_Set.go (w0 : World) (a : Option Addr) (c : Int) (field : Int) (v : Int) {R : Value → Mem → Prop} {M : Mem} (h : arena_Arena_Set.T (std PP w0) a c field v R M) : C PP w0 Id.arena_Arena_Set #[.pointer a, .int .i64 c, .int .i64 field, .int .i64 v] R M :=
  C_intro mixed arena_Arena_Set.fn arena_Arena_Set.body arena_Arena_Set.can (annot_code _ _) arena_Arena_Set.good arena_Arena_Set.size ((arena_Arena_Set.eq (std PP w0) a c field v R M).mpr h)
-- thicket/node.New
noncomputable def node_New.h : HC := annot ((Tryz.f45.body).getD .skip) []
def node_New.T (pr : Prim) (a : Option Addr) (i : Int) (R : Value → Mem → Prop) (M : Mem) : Prop := pr.call Id.arena_Arena_Take #[.pointer a] (fun v1 M2 => shT v1 fun l3 => shCons l3 fun u4 r5 => shI .i64 u4 fun n6 => shCons r5 fun u7 r8 => shB u7 fun b9 => shNil r8 (bs b9 (pr.call Id.item_Put #[.pointer a, .int .i64 n6, .int .i64 i] (fun v10 M11 => R (.tuple #[.int .i64 n6, .bool b9]) M11) M2) (R (.tuple #[.int .i64 n6, .bool b9]) M2))) M
theorem node_New.eqX (pr : Prim) (pts : Pts) (a : Option Addr) (i : Int) (R : Value → Mem → Prop) (M : Mem) : wpX PP pr pts node_New.h [] [] (retH pr Tryz.f45.results.toList R) (argEnv 0 [.pointer a, .int .i64 i]) M = node_New.T pr a i R M := by kernel_rfl
theorem node_New.eq (pr : Prim) (a : Option Addr) (i : Int) (R : Value → Mem → Prop) (M : Mem) : wpH PP pr node_New.h (retH pr Tryz.f45.results.toList R) (argEnv 0 [.pointer a, .int .i64 i]) M = node_New.T pr a i R M := root_eq.trans (node_New.eqX pr (ptsR PP pr node_New.h (retH pr Tryz.f45.results.toList R)) a i R M)
theorem node_New.fn : PP.funcs[Id.node_New]? = some Tryz.f45 := Tryz.func45
theorem node_New.can : callable PP Id.node_New = true := by kernel_rfl
theorem node_New.good : okH Tryz.f45.ntmps node_New.h = true := by kernel_rfl
theorem node_New.body : Tryz.f45.body = some ((Tryz.f45.body).getD .skip) := by kernel_rfl
theorem node_New.size : (2 : Nat) ≤ Tryz.f45.ntmps := by decide
theorem node_New.go (w0 : World) (a : Option Addr) (i : Int) {R : Value → Mem → Prop} {M : Mem} (h : node_New.T (std PP w0) a i R M) : C PP w0 Id.node_New #[.pointer a, .int .i64 i] R M :=
  C_intro mixed node_New.fn node_New.body node_New.can (annot_code _ _) node_New.good node_New.size ((node_New.eq (std PP w0) a i R M).mpr h)
-- thicket/chain.One
noncomputable def chain_One.h : HC := annot ((Tryz.f46.body).getD .skip) []
def chain_One.T (pr : Prim) (a : Option Addr) (c : Int) (R : Value → Mem → Prop) (M : Mem) : Prop := ob (pr.bq .neq 30 (.tmp 4) (.const (.pointer none)) (.pointer a) (.pointer none)) fun v1 => shB v1 fun b2 => bs b2 (pr.call Id.chain_link #[.pointer a, .int .i64 c, .int .i64 c] (fun v3 M4 => R (.tuple #[]) M4) M) (R (.tuple #[]) M)
theorem chain_One.eqX (pr : Prim) (pts : Pts) (a : Option Addr) (c : Int) (R : Value → Mem → Prop) (M : Mem) : wpX PP pr pts chain_One.h [] [] (retH pr Tryz.f46.results.toList R) (argEnv 0 [.pointer a, .int .i64 c]) M = chain_One.T pr a c R M := by kernel_rfl
theorem chain_One.eq (pr : Prim) (a : Option Addr) (c : Int) (R : Value → Mem → Prop) (M : Mem) : wpH PP pr chain_One.h (retH pr Tryz.f46.results.toList R) (argEnv 0 [.pointer a, .int .i64 c]) M = chain_One.T pr a c R M := root_eq.trans (chain_One.eqX pr (ptsR PP pr chain_One.h (retH pr Tryz.f46.results.toList R)) a c R M)
theorem chain_One.fn : PP.funcs[Id.chain_One]? = some Tryz.f46 := Tryz.func46
theorem chain_One.can : callable PP Id.chain_One = true := by kernel_rfl
theorem chain_One.good : okH Tryz.f46.ntmps chain_One.h = true := by kernel_rfl
theorem chain_One.body : Tryz.f46.body = some ((Tryz.f46.body).getD .skip) := by kernel_rfl
theorem chain_One.size : (2 : Nat) ≤ Tryz.f46.ntmps := by decide
theorem chain_One.go (w0 : World) (a : Option Addr) (c : Int) {R : Value → Mem → Prop} {M : Mem} (h : chain_One.T (std PP w0) a c R M) : C PP w0 Id.chain_One #[.pointer a, .int .i64 c] R M :=
  C_intro mixed chain_One.fn chain_One.body chain_One.can (annot_code _ _) chain_One.good chain_One.size ((chain_One.eq (std PP w0) a c R M).mpr h)
-- thicket/chain.Put
noncomputable def chain_Put.h : HC := annot ((Tryz.f47.body).getD .skip) []
def chain_Put.T (pr : Prim) (a : Option Addr) (c : Int) (d : Int) (R : Value → Mem → Prop) (M : Mem) : Prop := ob (pr.bq .eql 30 (.tmp 7) (.const (.pointer none)) (.pointer a) (.pointer none)) fun v1 => shB v1 fun b2 => bs b2 (R (.tuple #[]) M) (pr.call Id.arena_Arena_Cell #[.pointer a, .int .i64 c, .int .i64 3] (fun v3 M4 => shI .i64 v3 fun n5 => pr.call Id.chain_link #[.pointer a, .int .i64 c, .int .i64 d] (fun v6 M7 => pr.call Id.chain_link #[.pointer a, .int .i64 d, .int .i64 n5] (fun v8 M9 => R (.tuple #[]) M9) M7) M4) M)
theorem chain_Put.eqX (pr : Prim) (pts : Pts) (a : Option Addr) (c : Int) (d : Int) (R : Value → Mem → Prop) (M : Mem) : wpX PP pr pts chain_Put.h [] [] (retH pr Tryz.f47.results.toList R) (argEnv 0 [.pointer a, .int .i64 c, .int .i64 d]) M = chain_Put.T pr a c d R M := by kernel_rfl
theorem chain_Put.eq (pr : Prim) (a : Option Addr) (c : Int) (d : Int) (R : Value → Mem → Prop) (M : Mem) : wpH PP pr chain_Put.h (retH pr Tryz.f47.results.toList R) (argEnv 0 [.pointer a, .int .i64 c, .int .i64 d]) M = chain_Put.T pr a c d R M := root_eq.trans (chain_Put.eqX pr (ptsR PP pr chain_Put.h (retH pr Tryz.f47.results.toList R)) a c d R M)
theorem chain_Put.fn : PP.funcs[Id.chain_Put]? = some Tryz.f47 := Tryz.func47
theorem chain_Put.can : callable PP Id.chain_Put = true := by kernel_rfl
theorem chain_Put.good : okH Tryz.f47.ntmps chain_Put.h = true := by kernel_rfl
theorem chain_Put.body : Tryz.f47.body = some ((Tryz.f47.body).getD .skip) := by kernel_rfl
theorem chain_Put.size : (3 : Nat) ≤ Tryz.f47.ntmps := by decide
theorem chain_Put.go (w0 : World) (a : Option Addr) (c : Int) (d : Int) {R : Value → Mem → Prop} {M : Mem} (h : chain_Put.T (std PP w0) a c d R M) : C PP w0 Id.chain_Put #[.pointer a, .int .i64 c, .int .i64 d] R M :=
  C_intro mixed chain_Put.fn chain_Put.body chain_Put.can (annot_code _ _) chain_Put.good chain_Put.size ((chain_Put.eq (std PP w0) a c d R M).mpr h)
-- thicket/fib.lesser
noncomputable def fib_lesser.h : HC := annot ((Tryz.f48.body).getD .skip) []
def fib_lesser.T (pr : Prim) (a : Option Addr) (r : Int) (n : Int) (R : Value → Mem → Prop) (M : Mem) : Prop := pr.call Id.node_Before #[.pointer a, .int .i64 n, .int .i64 r] (fun v1 M2 => shB v1 fun b3 => bs b3 (R (.int .i64 n) M2) (R (.int .i64 r) M2)) M
theorem fib_lesser.eqX (pr : Prim) (pts : Pts) (a : Option Addr) (r : Int) (n : Int) (R : Value → Mem → Prop) (M : Mem) : wpX PP pr pts fib_lesser.h [] [] (retH pr Tryz.f48.results.toList R) (argEnv 0 [.pointer a, .int .i64 r, .int .i64 n]) M = fib_lesser.T pr a r n R M := by kernel_rfl
theorem fib_lesser.eq (pr : Prim) (a : Option Addr) (r : Int) (n : Int) (R : Value → Mem → Prop) (M : Mem) : wpH PP pr fib_lesser.h (retH pr Tryz.f48.results.toList R) (argEnv 0 [.pointer a, .int .i64 r, .int .i64 n]) M = fib_lesser.T pr a r n R M := root_eq.trans (fib_lesser.eqX pr (ptsR PP pr fib_lesser.h (retH pr Tryz.f48.results.toList R)) a r n R M)
theorem fib_lesser.fn : PP.funcs[Id.fib_lesser]? = some Tryz.f48 := Tryz.func48
theorem fib_lesser.can : callable PP Id.fib_lesser = true := by kernel_rfl
theorem fib_lesser.good : okH Tryz.f48.ntmps fib_lesser.h = true := by kernel_rfl
theorem fib_lesser.body : Tryz.f48.body = some ((Tryz.f48.body).getD .skip) := by kernel_rfl
theorem fib_lesser.size : (3 : Nat) ≤ Tryz.f48.ntmps := by decide
theorem fib_lesser.go (w0 : World) (a : Option Addr) (r : Int) (n : Int) {R : Value → Mem → Prop} {M : Mem} (h : fib_lesser.T (std PP w0) a r n R M) : C PP w0 Id.fib_lesser #[.pointer a, .int .i64 r, .int .i64 n] R M :=
  C_intro mixed fib_lesser.fn fib_lesser.body fib_lesser.can (annot_code _ _) fib_lesser.good fib_lesser.size ((fib_lesser.eq (std PP w0) a r n R M).mpr h)
-- thicket/thicketref1.Limit
noncomputable def thicketref1_Limit.h : HC := annot ((Tryz.f49.body).getD .skip) [([true, true, false, true, false], [1, 7, 8])]
abbrev thicketref1_Limit.L1 (pts : Pts) (k : Nat) (b_1 : Int) (x_7 : Int) (k_8 : Int) (M : Mem) : Prop := pts [false, false, true, false, true, true] [k] [(1, .int .i64 b_1), (7, .int .i64 x_7), (8, .int .i64 k_8)] M
def thicketref1_Limit.pts (pr : Prim) (R : Value → Mem → Prop) : Pts := ptsR PP pr thicketref1_Limit.h (retH pr Tryz.f49.results.toList R)
def thicketref1_Limit.L1.T (pr : Prim) (pts : Pts) (k : Nat) (b_1 : Int) (x_7 : Int) (k_8 : Int) (R : Value → Mem → Prop) (M : Mem) : Prop := bs (decide (k_8 > 0)) (pr.call Id.thicketref1_Add #[.int .i64 x_7, .int .i64 b_1] (fun v5 M6 => shI .i64 v5 fun n7 => thicketref1_Limit.L1 pts k b_1 n7 (w64 (k_8 - 1)) M6) M) (R (.int .i64 x_7) M)
theorem thicketref1_Limit.L1.zero (pr : Prim) (b_1 : Int) (x_7 : Int) (k_8 : Int) (R : Value → Mem → Prop) (M : Mem) : thicketref1_Limit.L1 (thicketref1_Limit.pts pr R) 0 b_1 x_7 k_8 M = False :=
  (ptsR_eq (b := false) (p := [false, true, false, true, true]) (ns := [0]) rfl _ _).trans (by kernel_rfl)
theorem thicketref1_Limit.L1.eqX (pr : Prim) (pts : Pts) (k : Nat) (b_1 : Int) (x_7 : Int) (k_8 : Int) (R : Value → Mem → Prop) (M : Mem) : bodyX PP pr pts thicketref1_Limit.h (retH pr Tryz.f49.results.toList R) [false, false, true, false, true, true] [k + 1] [(1, .int .i64 b_1), (7, .int .i64 x_7), (8, .int .i64 k_8)] M = thicketref1_Limit.L1.T pr pts k b_1 x_7 k_8 R M := by kernel_rfl
theorem thicketref1_Limit.L1.succ (pr : Prim) (k : Nat) (b_1 : Int) (x_7 : Int) (k_8 : Int) (R : Value → Mem → Prop) (M : Mem) : thicketref1_Limit.L1 (thicketref1_Limit.pts pr R) (k + 1) b_1 x_7 k_8 M = thicketref1_Limit.L1.T pr (thicketref1_Limit.pts pr R) k b_1 x_7 k_8 R M :=
  (ptsR_eq (b := false) (p := [false, true, false, true, true]) (ns := [k + 1]) rfl _ _).trans (thicketref1_Limit.L1.eqX pr (thicketref1_Limit.pts pr R) k b_1 x_7 k_8 R M)
structure thicketref1_Limit.Is (pr : Prim) (pts : Pts) (R : Value → Mem → Prop) : Prop where
  L1 : ∀ (k : Nat) (b_1 : Int) (x_7 : Int) (k_8 : Int) (M : Mem), thicketref1_Limit.L1 pts (k + 1) b_1 x_7 k_8 M = thicketref1_Limit.L1.T pr pts k b_1 x_7 k_8 R M
theorem thicketref1_Limit.is (pr : Prim) (R : Value → Mem → Prop) : thicketref1_Limit.Is pr (thicketref1_Limit.pts pr R) R := ⟨fun k b_1 x_7 k_8 M => thicketref1_Limit.L1.succ pr k b_1 x_7 k_8 R M⟩
def thicketref1_Limit.T (pr : Prim) (pts : Pts) (a : Int) (b : Int) (n : Int) (R : Value → Mem → Prop) (M : Mem) : Prop := pr.call Id.thicketref1_Bits #[.int .i64 n] (fun v1 M2 => shI .i64 v1 fun n3 => ∃ k4, thicketref1_Limit.L1 pts k4 b a n3 M2) M
theorem thicketref1_Limit.eqX (pr : Prim) (pts : Pts) (a : Int) (b : Int) (n : Int) (R : Value → Mem → Prop) (M : Mem) : wpX PP pr pts thicketref1_Limit.h [] [] (retH pr Tryz.f49.results.toList R) (argEnv 0 [.int .i64 a, .int .i64 b, .int .i64 n]) M = thicketref1_Limit.T pr pts a b n R M := by kernel_rfl
theorem thicketref1_Limit.eq (pr : Prim) (a : Int) (b : Int) (n : Int) (R : Value → Mem → Prop) (M : Mem) : wpH PP pr thicketref1_Limit.h (retH pr Tryz.f49.results.toList R) (argEnv 0 [.int .i64 a, .int .i64 b, .int .i64 n]) M = thicketref1_Limit.T pr (thicketref1_Limit.pts pr R) a b n R M := root_eq.trans (thicketref1_Limit.eqX pr (thicketref1_Limit.pts pr R) a b n R M)
theorem thicketref1_Limit.fn : PP.funcs[Id.thicketref1_Limit]? = some Tryz.f49 := Tryz.func49
theorem thicketref1_Limit.can : callable PP Id.thicketref1_Limit = true := by kernel_rfl
theorem thicketref1_Limit.good : okH Tryz.f49.ntmps thicketref1_Limit.h = true := by kernel_rfl
theorem thicketref1_Limit.body : Tryz.f49.body = some ((Tryz.f49.body).getD .skip) := by kernel_rfl
theorem thicketref1_Limit.size : (3 : Nat) ≤ Tryz.f49.ntmps := by decide
theorem thicketref1_Limit.go (w0 : World) (a : Int) (b : Int) (n : Int) {R : Value → Mem → Prop} {M : Mem} (h : ∀ pts, thicketref1_Limit.Is (std PP w0) pts R → thicketref1_Limit.T (std PP w0) pts a b n R M) : C PP w0 Id.thicketref1_Limit #[.int .i64 a, .int .i64 b, .int .i64 n] R M :=
  C_intro mixed thicketref1_Limit.fn thicketref1_Limit.body thicketref1_Limit.can (annot_code _ _) thicketref1_Limit.good thicketref1_Limit.size ((thicketref1_Limit.eq (std PP w0) a b n R M).mpr (h _ (thicketref1_Limit.is _ _)))
-- (*thicket/meter.Meter).Tick
noncomputable def meter_Meter_Tick.h : HC := annot ((Tryz.f50.body).getD .skip) []
def meter_Meter_Tick.T (pr : Prim) (m : Option Addr) (n : Int) (R : Value → Mem → Prop) (M : Mem) : Prop := nc m fun a1 => ob (pr.ld 2 a1 M) fun v2 => shI .i64 v2 fun n3 => pr.call Id.order_Add #[.int .i64 n3, .int .i64 (if n > 0 then n else 0)] (fun v4 M5 => shI .i64 v4 fun n6 => nc m fun a7 => pr.st 2 a7 (.int .i64 n6) (fun M8 => R (.tuple #[]) M8) M5) M
theorem meter_Meter_Tick.eqX (pr : Prim) (pts : Pts) (m : Option Addr) (n : Int) (R : Value → Mem → Prop) (M : Mem) : wpX PP pr pts meter_Meter_Tick.h [] [] (retH pr Tryz.f50.results.toList R) (argEnv 0 [.pointer m, .int .i64 n]) M = meter_Meter_Tick.T pr m n R M := by kernel_rfl
theorem meter_Meter_Tick.eq (pr : Prim) (m : Option Addr) (n : Int) (R : Value → Mem → Prop) (M : Mem) : wpH PP pr meter_Meter_Tick.h (retH pr Tryz.f50.results.toList R) (argEnv 0 [.pointer m, .int .i64 n]) M = meter_Meter_Tick.T pr m n R M := root_eq.trans (meter_Meter_Tick.eqX pr (ptsR PP pr meter_Meter_Tick.h (retH pr Tryz.f50.results.toList R)) m n R M)
theorem meter_Meter_Tick.fn : PP.funcs[Id.meter_Meter_Tick]? = some Tryz.f50 := Tryz.func50
theorem meter_Meter_Tick.can : callable PP Id.meter_Meter_Tick = true := by kernel_rfl
theorem meter_Meter_Tick.good : okH Tryz.f50.ntmps meter_Meter_Tick.h = true := by kernel_rfl
theorem meter_Meter_Tick.body : Tryz.f50.body = some ((Tryz.f50.body).getD .skip) := by kernel_rfl
theorem meter_Meter_Tick.size : (2 : Nat) ≤ Tryz.f50.ntmps := by decide
theorem meter_Meter_Tick.go (w0 : World) (m : Option Addr) (n : Int) {R : Value → Mem → Prop} {M : Mem} (h : meter_Meter_Tick.T (std PP w0) m n R M) : C PP w0 Id.meter_Meter_Tick #[.pointer m, .int .i64 n] R M :=
  C_intro mixed meter_Meter_Tick.fn meter_Meter_Tick.body meter_Meter_Tick.can (annot_code _ _) meter_Meter_Tick.good meter_Meter_Tick.size ((meter_Meter_Tick.eq (std PP w0) m n R M).mpr h)
-- (*thicket/arena.Arena).Live
noncomputable def arena_Arena_Live.h : HC := annot ((Tryz.f51.body).getD .skip) []
def arena_Arena_Live.T (pr : Prim) (a : Option Addr) (c : Int) (R : Value → Mem → Prop) (M : Mem) : Prop := bs (decide (c ≥ 0)) (nc a fun a1 => ob (pr.ld 69 a1 M) fun v2 => shS v2 fun s3 => bs (decide (c < ((s3.n : Nat) : Int))) (nc a fun a4 => ob (pr.ld 69 a4 M) fun v5 => shS v5 fun s6 => nc s6.a fun a7 => (0 ≤ c ∧ c < ((s6.n : Nat) : Int)) ∧ ob (pr.ld 4 (Addr.add (a7.add (c.toNat * 11)) 10) M) fun v8 => shB v8 fun b9 => R (.bool b9) M) (R (.bool false) M)) (R (.bool false) M)
theorem arena_Arena_Live.eqX (pr : Prim) (pts : Pts) (a : Option Addr) (c : Int) (R : Value → Mem → Prop) (M : Mem) : wpX PP pr pts arena_Arena_Live.h [] [] (retH pr Tryz.f51.results.toList R) (argEnv 0 [.pointer a, .int .i64 c]) M = arena_Arena_Live.T pr a c R M := by kernel_rfl
theorem arena_Arena_Live.eq (pr : Prim) (a : Option Addr) (c : Int) (R : Value → Mem → Prop) (M : Mem) : wpH PP pr arena_Arena_Live.h (retH pr Tryz.f51.results.toList R) (argEnv 0 [.pointer a, .int .i64 c]) M = arena_Arena_Live.T pr a c R M := root_eq.trans (arena_Arena_Live.eqX pr (ptsR PP pr arena_Arena_Live.h (retH pr Tryz.f51.results.toList R)) a c R M)
theorem arena_Arena_Live.fn : PP.funcs[Id.arena_Arena_Live]? = some Tryz.f51 := Tryz.func51
theorem arena_Arena_Live.can : callable PP Id.arena_Arena_Live = true := by kernel_rfl
theorem arena_Arena_Live.good : okH Tryz.f51.ntmps arena_Arena_Live.h = true := by kernel_rfl
theorem arena_Arena_Live.body : Tryz.f51.body = some ((Tryz.f51.body).getD .skip) := by kernel_rfl
theorem arena_Arena_Live.size : (2 : Nat) ≤ Tryz.f51.ntmps := by decide
theorem arena_Arena_Live.go (w0 : World) (a : Option Addr) (c : Int) {R : Value → Mem → Prop} {M : Mem} (h : arena_Arena_Live.T (std PP w0) a c R M) : C PP w0 Id.arena_Arena_Live #[.pointer a, .int .i64 c] R M :=
  C_intro mixed arena_Arena_Live.fn arena_Arena_Live.body arena_Arena_Live.can (annot_code _ _) arena_Arena_Live.good arena_Arena_Live.size ((arena_Arena_Live.eq (std PP w0) a c R M).mpr h)
-- (*thicket/arena.Arena).Cell
noncomputable def arena_Arena_Cell.h : HC := annot ((Tryz.f52.body).getD .skip) []
def arena_Arena_Cell.T (pr : Prim) (a : Option Addr) (c : Int) (field : Int) (R : Value → Mem → Prop) (M : Mem) : Prop := pr.call Id.arena_Arena_Get #[.pointer a, .int .i64 c, .int .i64 field] (fun v1 M2 => shI .i64 v1 fun n3 => bs (decide (n3 < 0)) (R (.int .i64 (-1)) M2) (nc a fun a4 => ob (pr.ld 69 a4 M2) fun v5 => shS v5 fun s6 => bs (decide (n3 ≥ ((s6.n : Nat) : Int))) (R (.int .i64 (-1)) M2) (R (.int .i64 n3) M2))) M
theorem arena_Arena_Cell.eqX (pr : Prim) (pts : Pts) (a : Option Addr) (c : Int) (field : Int) (R : Value → Mem → Prop) (M : Mem) : wpX PP pr pts arena_Arena_Cell.h [] [] (retH pr Tryz.f52.results.toList R) (argEnv 0 [.pointer a, .int .i64 c, .int .i64 field]) M = arena_Arena_Cell.T pr a c field R M := by kernel_rfl
theorem arena_Arena_Cell.eq (pr : Prim) (a : Option Addr) (c : Int) (field : Int) (R : Value → Mem → Prop) (M : Mem) : wpH PP pr arena_Arena_Cell.h (retH pr Tryz.f52.results.toList R) (argEnv 0 [.pointer a, .int .i64 c, .int .i64 field]) M = arena_Arena_Cell.T pr a c field R M := root_eq.trans (arena_Arena_Cell.eqX pr (ptsR PP pr arena_Arena_Cell.h (retH pr Tryz.f52.results.toList R)) a c field R M)
theorem arena_Arena_Cell.fn : PP.funcs[Id.arena_Arena_Cell]? = some Tryz.f52 := Tryz.func52
theorem arena_Arena_Cell.can : callable PP Id.arena_Arena_Cell = true := by kernel_rfl
theorem arena_Arena_Cell.good : okH Tryz.f52.ntmps arena_Arena_Cell.h = true := by kernel_rfl
theorem arena_Arena_Cell.body : Tryz.f52.body = some ((Tryz.f52.body).getD .skip) := by kernel_rfl
theorem arena_Arena_Cell.size : (3 : Nat) ≤ Tryz.f52.ntmps := by decide
theorem arena_Arena_Cell.go (w0 : World) (a : Option Addr) (c : Int) (field : Int) {R : Value → Mem → Prop} {M : Mem} (h : arena_Arena_Cell.T (std PP w0) a c field R M) : C PP w0 Id.arena_Arena_Cell #[.pointer a, .int .i64 c, .int .i64 field] R M :=
  C_intro mixed arena_Arena_Cell.fn arena_Arena_Cell.body arena_Arena_Cell.can (annot_code _ _) arena_Arena_Cell.good arena_Arena_Cell.size ((arena_Arena_Cell.eq (std PP w0) a c field R M).mpr h)
-- thicket/thicketlaw12.before
noncomputable def thicketlaw12_before.h : HC := annot ((Tryz.f53.body).getD .skip) []
def thicketlaw12_before.T (pr : Prim) (x_0 : Int) (x_1 : Int) (x_2 : Int) (y_0 : Int) (y_1 : Int) (y_2 : Int) (R : Value → Mem → Prop) (M : Mem) : Prop := pr.nw [.int .i64 x_0, .int .i64 x_1, .int .i64 x_2] 57 (fun b1 M2 => pr.nw [.int .i64 y_0, .int .i64 y_1, .int .i64 y_2] 57 (fun b3 M4 => ob (pr.ld 55 (Addr.add ⟨b1, 0, none⟩ 1) M4) fun v5 => shA v5 fun l6 => shCons l6 fun u7 r8 => shI .i64 u7 fun n9 => shCons r8 fun u10 r11 => shI .i64 u10 fun n12 => shNil r11 (ob (pr.ld 55 (Addr.add ⟨b3, 0, none⟩ 1) M4) fun v13 => shA v13 fun l14 => shCons l14 fun u15 r16 => shI .i64 u15 fun n17 => shCons r16 fun u18 r19 => shI .i64 u18 fun n20 => shNil r19 (pr.call Id.thicketref1_Before #[.agg #[.int .i64 n9, .int .i64 n12], .agg #[.int .i64 n17, .int .i64 n20]] (fun v21 M22 => shB v21 fun b23 => bs b23 (R (.bool true) M22) (ob (pr.ld 55 (Addr.add ⟨b1, 0, none⟩ 1) M22) fun v24 => shA v24 fun l25 => shCons l25 fun u26 r27 => shI .i64 u26 fun n28 => shCons r27 fun u29 r30 => shI .i64 u29 fun n31 => shNil r30 (ob (pr.ld 55 (Addr.add ⟨b3, 0, none⟩ 1) M22) fun v32 => shA v32 fun l33 => shCons l33 fun u34 r35 => shI .i64 u34 fun n36 => shCons r35 fun u37 r38 => shI .i64 u37 fun n39 => shNil r38 (ob (pr.bq .eql 55 (.tmp 12) (.tmp 14) (.agg #[.int .i64 n28, .int .i64 n31]) (.agg #[.int .i64 n36, .int .i64 n39])) fun v40 => shB v40 fun b41 => bs b41 (ob (pr.ld 3 ⟨b1, 0, none⟩ M22) fun v42 => shI .i64 v42 fun n43 => ob (pr.ld 3 ⟨b3, 0, none⟩ M22) fun v44 => shI .i64 v44 fun n45 => R (.bool (decide (n43 < n45))) M22) (R (.bool false) M22))))) M4))) M2) M
theorem thicketlaw12_before.eqX (pr : Prim) (pts : Pts) (x_0 : Int) (x_1 : Int) (x_2 : Int) (y_0 : Int) (y_1 : Int) (y_2 : Int) (R : Value → Mem → Prop) (M : Mem) : wpX PP pr pts thicketlaw12_before.h [] [] (retH pr Tryz.f53.results.toList R) (argEnv 0 [.agg #[.int .i64 x_0, .int .i64 x_1, .int .i64 x_2], .agg #[.int .i64 y_0, .int .i64 y_1, .int .i64 y_2]]) M = thicketlaw12_before.T pr x_0 x_1 x_2 y_0 y_1 y_2 R M := by kernel_rfl
theorem thicketlaw12_before.eq (pr : Prim) (x_0 : Int) (x_1 : Int) (x_2 : Int) (y_0 : Int) (y_1 : Int) (y_2 : Int) (R : Value → Mem → Prop) (M : Mem) : wpH PP pr thicketlaw12_before.h (retH pr Tryz.f53.results.toList R) (argEnv 0 [.agg #[.int .i64 x_0, .int .i64 x_1, .int .i64 x_2], .agg #[.int .i64 y_0, .int .i64 y_1, .int .i64 y_2]]) M = thicketlaw12_before.T pr x_0 x_1 x_2 y_0 y_1 y_2 R M := root_eq.trans (thicketlaw12_before.eqX pr (ptsR PP pr thicketlaw12_before.h (retH pr Tryz.f53.results.toList R)) x_0 x_1 x_2 y_0 y_1 y_2 R M)
theorem thicketlaw12_before.fn : PP.funcs[Id.thicketlaw12_before]? = some Tryz.f53 := Tryz.func53
theorem thicketlaw12_before.can : callable PP Id.thicketlaw12_before = true := by kernel_rfl
theorem thicketlaw12_before.good : okH Tryz.f53.ntmps thicketlaw12_before.h = true := by kernel_rfl
theorem thicketlaw12_before.body : Tryz.f53.body = some ((Tryz.f53.body).getD .skip) := by kernel_rfl
theorem thicketlaw12_before.size : (2 : Nat) ≤ Tryz.f53.ntmps := by decide
theorem thicketlaw12_before.go (w0 : World) (x_0 : Int) (x_1 : Int) (x_2 : Int) (y_0 : Int) (y_1 : Int) (y_2 : Int) {R : Value → Mem → Prop} {M : Mem} (h : thicketlaw12_before.T (std PP w0) x_0 x_1 x_2 y_0 y_1 y_2 R M) : C PP w0 Id.thicketlaw12_before #[.agg #[.int .i64 x_0, .int .i64 x_1, .int .i64 x_2], .agg #[.int .i64 y_0, .int .i64 y_1, .int .i64 y_2]] R M :=
  C_intro mixed thicketlaw12_before.fn thicketlaw12_before.body thicketlaw12_before.can (annot_code _ _) thicketlaw12_before.good thicketlaw12_before.size ((thicketlaw12_before.eq (std PP w0) x_0 x_1 x_2 y_0 y_1 y_2 R M).mpr h)
-- thicket/node.Items
noncomputable def node_Items.h : HC := annot ((Tryz.f54.body).getD .skip) [([true, true, false, true, false], [0, 5, 9, 10, 11])]
abbrev node_Items.L1 (pts : Pts) (k : Nat) (a_0 : Option Addr) (out_5 : SV) (t9 : SV) (t10 : Int) (t11 : Int) (M : Mem) : Prop := pts [false, false, true, false, true, true] [k] [(0, .pointer a_0), (5, SV.v out_5), (9, SV.v t9), (10, .int .i64 t10), (11, .int .i64 t11)] M
def node_Items.pts (pr : Prim) (R : Value → Mem → Prop) : Pts := ptsR PP pr node_Items.h (retH pr Tryz.f54.results.toList R)
def node_Items.L1.T (pr : Prim) (pts : Pts) (k : Nat) (a_0 : Option Addr) (out_5 : SV) (t9 : SV) (t10 : Int) (t11 : Int) (R : Value → Mem → Prop) (M : Mem) : Prop := bs (decide (t11 < t10)) (nc t9.a fun a2 => (0 ≤ t11 ∧ t11 < ((t9.n : Nat) : Int)) ∧ ob (pr.ld 3 (a2.add (t11.toNat * 1)) M) fun v3 => shI .i64 v3 fun n4 => pr.call Id.arena_Arena_Cell #[.pointer a_0, .int .i64 n4, .int .i64 6] (fun v5 M6 => shI .i64 v5 fun n7 => bs ((n7 != (-1))) (pr.bsl 61 1 [(0, .int .i64 n7)] (fun v8 M9 => shS v8 fun s10 => pr.app #[61, 61] 61 [SV.v out_5, SV.v s10] (fun v11 M12 => shS v11 fun s13 => node_Items.L1 pts k a_0 s13 t9 t10 (w64 (t11 + 1)) M12) M9) M6) (node_Items.L1 pts k a_0 out_5 t9 t10 (w64 (t11 + 1)) M6)) M) (pr.call Id.slices_Sort_int_int #[SV.v out_5] (fun v14 M15 => R (SV.v out_5) M15) M)
theorem node_Items.L1.zero (pr : Prim) (a_0 : Option Addr) (out_5 : SV) (t9 : SV) (t10 : Int) (t11 : Int) (R : Value → Mem → Prop) (M : Mem) : node_Items.L1 (node_Items.pts pr R) 0 a_0 out_5 t9 t10 t11 M = False :=
  (ptsR_eq (b := false) (p := [false, true, false, true, true]) (ns := [0]) rfl _ _).trans (by kernel_rfl)
theorem node_Items.L1.eqX (pr : Prim) (pts : Pts) (k : Nat) (a_0 : Option Addr) (out_5 : SV) (t9 : SV) (t10 : Int) (t11 : Int) (R : Value → Mem → Prop) (M : Mem) : bodyX PP pr pts node_Items.h (retH pr Tryz.f54.results.toList R) [false, false, true, false, true, true] [k + 1] [(0, .pointer a_0), (5, SV.v out_5), (9, SV.v t9), (10, .int .i64 t10), (11, .int .i64 t11)] M = node_Items.L1.T pr pts k a_0 out_5 t9 t10 t11 R M := by kernel_rfl
theorem node_Items.L1.succ (pr : Prim) (k : Nat) (a_0 : Option Addr) (out_5 : SV) (t9 : SV) (t10 : Int) (t11 : Int) (R : Value → Mem → Prop) (M : Mem) : node_Items.L1 (node_Items.pts pr R) (k + 1) a_0 out_5 t9 t10 t11 M = node_Items.L1.T pr (node_Items.pts pr R) k a_0 out_5 t9 t10 t11 R M :=
  (ptsR_eq (b := false) (p := [false, true, false, true, true]) (ns := [k + 1]) rfl _ _).trans (node_Items.L1.eqX pr (node_Items.pts pr R) k a_0 out_5 t9 t10 t11 R M)
structure node_Items.Is (pr : Prim) (pts : Pts) (R : Value → Mem → Prop) : Prop where
  L1 : ∀ (k : Nat) (a_0 : Option Addr) (out_5 : SV) (t9 : SV) (t10 : Int) (t11 : Int) (M : Mem), node_Items.L1 pts (k + 1) a_0 out_5 t9 t10 t11 M = node_Items.L1.T pr pts k a_0 out_5 t9 t10 t11 R M
theorem node_Items.is (pr : Prim) (R : Value → Mem → Prop) : node_Items.Is pr (node_Items.pts pr R) R := ⟨fun k a_0 out_5 t9 t10 t11 M => node_Items.L1.succ pr k a_0 out_5 t9 t10 t11 R M⟩
def node_Items.T (pr : Prim) (pts : Pts) (a : Option Addr) (l : SV) (R : Value → Mem → Prop) (M : Mem) : Prop := ∃ k1, node_Items.L1 pts k1 a ⟨none, 0, 0⟩ l ((l.n : Nat) : Int) 0 M
theorem node_Items.eqX (pr : Prim) (pts : Pts) (a : Option Addr) (l : SV) (R : Value → Mem → Prop) (M : Mem) : wpX PP pr pts node_Items.h [] [] (retH pr Tryz.f54.results.toList R) (argEnv 0 [.pointer a, SV.v l]) M = node_Items.T pr pts a l R M := by kernel_rfl
theorem node_Items.eq (pr : Prim) (a : Option Addr) (l : SV) (R : Value → Mem → Prop) (M : Mem) : wpH PP pr node_Items.h (retH pr Tryz.f54.results.toList R) (argEnv 0 [.pointer a, SV.v l]) M = node_Items.T pr (node_Items.pts pr R) a l R M := root_eq.trans (node_Items.eqX pr (node_Items.pts pr R) a l R M)
theorem node_Items.fn : PP.funcs[Id.node_Items]? = some Tryz.f54 := Tryz.func54
theorem node_Items.can : callable PP Id.node_Items = true := by kernel_rfl
theorem node_Items.good : okH Tryz.f54.ntmps node_Items.h = true := by kernel_rfl
theorem node_Items.body : Tryz.f54.body = some ((Tryz.f54.body).getD .skip) := by kernel_rfl
theorem node_Items.size : (2 : Nat) ≤ Tryz.f54.ntmps := by decide
theorem node_Items.go (w0 : World) (a : Option Addr) (l : SV) {R : Value → Mem → Prop} {M : Mem} (h : ∀ pts, node_Items.Is (std PP w0) pts R → node_Items.T (std PP w0) pts a l R M) : C PP w0 Id.node_Items #[.pointer a, SV.v l] R M :=
  C_intro mixed node_Items.fn node_Items.body node_Items.can (annot_code _ _) node_Items.good node_Items.size ((node_Items.eq (std PP w0) a l R M).mpr (h _ (node_Items.is _ _)))
-- thicket/fib.nodes
noncomputable def fib_nodes.h : HC := annot ((Tryz.f55.body).getD .skip) []
def fib_nodes.T (pr : Prim) (a : Option Addr) (r : Int) (R : Value → Mem → Prop) (M : Mem) : Prop := pr.nw [.pointer a] 30 (fun b1 M2 => ob (pr.ld 30 ⟨b1, 0, none⟩ M2) fun v3 => shP v3 fun p4 => ob (pr.ld 30 ⟨b1, 0, none⟩ M2) fun v5 => shP v5 fun p6 => pr.call Id.chain_All #[.pointer p6, .int .i64 r] (fun v7 M8 => shS v7 fun s9 => (pr.ld 30 ⟨b1, 0, none⟩ M8 = some (.pointer p4)) ∧ pr.call Id.node_Below #[.pointer p4, SV.v s9, .func (.func Id.fib_nodes_1) #[] #[.pointer (some ⟨b1, 0, none⟩)]] (fun v10 M11 => shS v10 fun s12 => R (SV.v s12) M11) M8) M2) M
theorem fib_nodes.eqX (pr : Prim) (pts : Pts) (a : Option Addr) (r : Int) (R : Value → Mem → Prop) (M : Mem) : wpX PP pr pts fib_nodes.h [] [] (retH pr Tryz.f55.results.toList R) (argEnv 0 [.pointer a, .int .i64 r]) M = fib_nodes.T pr a r R M := by kernel_rfl
theorem fib_nodes.eq (pr : Prim) (a : Option Addr) (r : Int) (R : Value → Mem → Prop) (M : Mem) : wpH PP pr fib_nodes.h (retH pr Tryz.f55.results.toList R) (argEnv 0 [.pointer a, .int .i64 r]) M = fib_nodes.T pr a r R M := root_eq.trans (fib_nodes.eqX pr (ptsR PP pr fib_nodes.h (retH pr Tryz.f55.results.toList R)) a r R M)
theorem fib_nodes.fn : PP.funcs[Id.fib_nodes]? = some Tryz.f55 := Tryz.func55
theorem fib_nodes.can : callable PP Id.fib_nodes = true := by kernel_rfl
theorem fib_nodes.good : okH Tryz.f55.ntmps fib_nodes.h = true := by kernel_rfl
theorem fib_nodes.body : Tryz.f55.body = some ((Tryz.f55.body).getD .skip) := by kernel_rfl
theorem fib_nodes.size : (2 : Nat) ≤ Tryz.f55.ntmps := by decide
theorem fib_nodes.go (w0 : World) (a : Option Addr) (r : Int) {R : Value → Mem → Prop} {M : Mem} (h : fib_nodes.T (std PP w0) a r R M) : C PP w0 Id.fib_nodes #[.pointer a, .int .i64 r] R M :=
  C_intro mixed fib_nodes.fn fib_nodes.body fib_nodes.can (annot_code _ _) fib_nodes.good fib_nodes.size ((fib_nodes.eq (std PP w0) a r R M).mpr h)
end Go.Proofs.YtbkicgfgpmekeaaGreat.HL
