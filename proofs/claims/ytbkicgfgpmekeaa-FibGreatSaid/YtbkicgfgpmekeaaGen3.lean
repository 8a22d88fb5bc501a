/-
  Printed by gen.py (a program of this work) out of Lean's own print of the program: what each function's code comes to over the heap logic; each equation is checked by the kernel.
-/
import Derived.Test.YtbkicgfgpmekeaaGenId
set_option linter.unusedVariables false
set_option maxRecDepth 100000
namespace Go.Proofs.Ytbkicgfgpmekeaa.HL
open Go.Proofs
-- (*thicket/arena.Arena).Set
noncomputable def arena_Arena_Set.h : HC := annot ((Try.f29.body).getD .skip) []
def arena_Arena_Set.T (pr : Prim) (a : Option Addr) (c : Int) (field : Int) (v : Int) (R : Value → Mem → Prop) (M : Mem) : Prop := nc a fun a1 => ob (pr.ld 34 (Addr.add a1 3) M) fun v2 => shP v2 fun p3 => pr.call Id.meter_Meter_Tick #[.pointer p3, .int .i64 1] (fun v4 M5 => pr.call Id.arena_Arena_has #[.pointer a, .int .i64 c, .int .i64 field] (fun v6 M7 => shB v6 fun b8 => bs (!b8) (R (.bool false) M7) (nc a fun a9 => ob (pr.ld 63 a9 M7) fun v10 => shS v10 fun s11 => nc s11.a fun a12 => (0 ≤ c ∧ c < ((s11.n : Nat) : Int)) ∧ (0 ≤ field ∧ field < ((10 : Nat) : Int)) ∧ pr.st 2 (Addr.add (a12.add (c.toNat * 11)) (field.toNat * 1)) (.int .i64 v) (fun M13 => R (.bool true) M13) M7)) M5) M
theorem arena_Arena_Set.eqX (pr : Prim) (pts : Pts) (a : Option Addr) (c : Int) (field : Int) (v : Int) (R : Value → Mem → Prop) (M : Mem) : wpX PP pr pts arena_Arena_Set.h [] [] (retH pr Try.f29.results.toList R) (argEnv 0 [.pointer a, .int .i64 c, .int .i64 field, .int .i64 v]) M = arena_Arena_Set.T pr a c field v R M := by kernel_rfl
theorem arena_Arena_Set.eq (pr : Prim) (a : Option Addr) (c : Int) (field : Int) (v : Int) (R : Value → Mem → Prop) (M : Mem) : wpH PP pr arena_Arena_Set.h (retH pr Try.f29.results.toList R) (argEnv 0 [.pointer a, .int .i64 c, .int .i64 field, .int .i64 v]) M = arena_Arena_Set.T pr a c field v R M := root_eq.trans (arena_Arena_Set.eqX pr (ptsR PP pr arena_Arena_Set.h (retH pr Try.f29.results.toList R)) a c field v R M)
theorem arena_Arena_Set.fn : PP.funcs[Id.arena_Arena_Set]? = some Try.f29 := Try.func29
theorem arena_Arena_Set.can : callable PP Id.arena_Arena_Set = true := by kernel_rfl
theorem arena_Arena_Set.good : okH Try.f29.ntmps arena_Arena_Set.h = true := by kernel_rfl
theorem arena_Arena_Set.body : Try.f29.body = some ((Try.f29.body).getD .skip) := by kernel_rfl
theorem arena_Arena_Set.size : (4 : Nat) ≤ Try.f29.ntmps := by decide
theorem arena_Arena_Set.go (w0 : World) (a : Option Addr) (c : Int) (field : Int) (v : Int) {R : Value → Mem → Prop} {M : Mem} (h : arena_Arena_Set.T (std PP w0) a c field v R M) : C PP w0 Id.arena_Arena_Set #[.pointer a, .int .i64 c, .int .i64 field, .int .i64 v] R M :=
  C_intro mixed arena_Arena_Set.fn arena_Arena_Set.body arena_Arena_Set.can (annot_code _ _) arena_Arena_Set.good arena_Arena_Set.size ((arena_Arena_Set.eq (std PP w0) a c field v R M).mpr h)
-- thicket/node.New
noncomputable def node_New.h : HC := annot ((Try.f30.body).getD .skip) []
def node_New.T (pr : Prim) (a : Option Addr) (i : Int) (R : Value → Mem → Prop) (M : Mem) : Prop := pr.call Id.arena_Arena_Take #[.pointer a] (fun v1 M2 => shT v1 fun l3 => shCons l3 fun u4 r5 => shI .i64 u4 fun n6 => shCons r5 fun u7 r8 => shB u7 fun b9 => shNil r8 (bs b9 (pr.call Id.item_Put #[.pointer a, .int .i64 n6, .int .i64 i] (fun v10 M11 => R (.tuple #[.int .i64 n6, .bool b9]) M11) M2) (R (.tuple #[.int .i64 n6, .bool b9]) M2))) M
theorem node_New.eqX (pr : Prim) (pts : Pts) (a : Option Addr) (i : Int) (R : Value → Mem → Prop) (M : Mem) : wpX PP pr pts node_New.h [] [] (retH pr Try.f30.results.toList R) (argEnv 0 [.pointer a, .int .i64 i]) M = node_New.T pr a i R M := by kernel_rfl
theorem node_New.eq (pr : Prim) (a : Option Addr) (i : Int) (R : Value → Mem → Prop) (M : Mem) : wpH PP pr node_New.h (retH pr Try.f30.results.toList R) (argEnv 0 [.pointer a, .int .i64 i]) M = node_New.T pr a i R M := root_eq.trans (node_New.eqX pr (ptsR PP pr node_New.h (retH pr Try.f30.results.toList R)) a i R M)
theorem node_New.fn : PP.funcs[Id.node_New]? = some Try.f30 := Try.func30
theorem node_New.can : callable PP Id.node_New = true := by kernel_rfl
theorem node_New.good : okH Try.f30.ntmps node_New.h = true := by kernel_rfl
theorem node_New.body : Try.f30.body = some ((Try.f30.body).getD .skip) := by kernel_rfl
theorem node_New.size : (2 : Nat) ≤ Try.f30.ntmps := by decide
theorem node_New.go (w0 : World) (a : Option Addr) (i : Int) {R : Value → Mem → Prop} {M : Mem} (h : node_New.T (std PP w0) a i R M) : C PP w0 Id.node_New #[.pointer a, .int .i64 i] R M :=
  C_intro mixed node_New.fn node_New.body node_New.can (annot_code _ _) node_New.good node_New.size ((node_New.eq (std PP w0) a i R M).mpr h)
-- thicket/chain.One
noncomputable def chain_One.h : HC := annot ((Try.f31.body).getD .skip) []
def chain_One.T (pr : Prim) (a : Option Addr) (c : Int) (R : Value → Mem → Prop) (M : Mem) : Prop := ob (pr.bq .neq 28 (.tmp 4) (.const (.pointer none)) (.pointer a) (.pointer none)) fun v1 => shB v1 fun b2 => bs b2 (pr.call Id.chain_link #[.pointer a, .int .i64 c, .int .i64 c] (fun v3 M4 => R (.tuple #[]) M4) M) (R (.tuple #[]) M)
theorem chain_One.eqX (pr : Prim) (pts : Pts) (a : Option Addr) (c : Int) (R : Value → Mem → Prop) (M : Mem) : wpX PP pr pts chain_One.h [] [] (retH pr Try.f31.results.toList R) (argEnv 0 [.pointer a, .int .i64 c]) M = chain_One.T pr a c R M := by kernel_rfl
theorem chain_One.eq (pr : Prim) (a : Option Addr) (c : Int) (R : Value → Mem → Prop) (M : Mem) : wpH PP pr chain_One.h (retH pr Try.f31.results.toList R) (argEnv 0 [.pointer a, .int .i64 c]) M = chain_One.T pr a c R M := root_eq.trans (chain_One.eqX pr (ptsR PP pr chain_One.h (retH pr Try.f31.results.toList R)) a c R M)
theorem chain_One.fn : PP.funcs[Id.chain_One]? = some Try.f31 := Try.func31
theorem chain_One.can : callable PP Id.chain_One = true := by kernel_rfl
theorem chain_One.good : okH Try.f31.ntmps chain_One.h = true := by kernel_rfl
theorem chain_One.body : Try.f31.body = some ((Try.f31.body).getD .skip) := by kernel_rfl
theorem chain_One.size : (2 : Nat) ≤ Try.f31.ntmps := by decide
theorem chain_One.go (w0 : World) (a : Option Addr) (c : Int) {R : Value → Mem → Prop} {M : Mem} (h : chain_One.T (std PP w0) a c R M) : C PP w0 Id.chain_One #[.pointer a, .int .i64 c] R M :=
  C_intro mixed chain_One.fn chain_One.body chain_One.can (annot_code _ _) chain_One.good chain_One.size ((chain_One.eq (std PP w0) a c R M).mpr h)
-- thicket/chain.Put
noncomputable def chain_Put.h : HC := annot ((Try.f32.body).getD .skip) []
def chain_Put.T (pr : Prim) (a : Option Addr) (c : Int) (d : Int) (R : Value → Mem → Prop) (M : Mem) : Prop := ob (pr.bq .eql 28 (.tmp 7) (.const (.pointer none)) (.pointer a) (.pointer none)) fun v1 => shB v1 fun b2 => bs b2 (R (.tuple #[]) M) (pr.call Id.arena_Arena_Cell #[.pointer a, .int .i64 c, .int .i64 3] (fun v3 M4 => shI .i64 v3 fun n5 => pr.call Id.chain_link #[.pointer a, .int .i64 c, .int .i64 d] (fun v6 M7 => pr.call Id.chain_link #[.pointer a, .int .i64 d, .int .i64 n5] (fun v8 M9 => R (.tuple #[]) M9) M7) M4) M)
theorem chain_Put.eqX (pr : Prim) (pts : Pts) (a : Option Addr) (c : Int) (d : Int) (R : Value → Mem → Prop) (M : Mem) : wpX PP pr pts chain_Put.h [] [] (retH pr Try.f32.results.toList R) (argEnv 0 [.pointer a, .int .i64 c, .int .i64 d]) M = chain_Put.T pr a c d R M := by kernel_rfl
theorem chain_Put.eq (pr : Prim) (a : Option Addr) (c : Int) (d : Int) (R : Value → Mem → Prop) (M : Mem) : wpH PP pr chain_Put.h (retH pr Try.f32.results.toList R) (argEnv 0 [.pointer a, .int .i64 c, .int .i64 d]) M = chain_Put.T pr a c d R M := root_eq.trans (chain_Put.eqX pr (ptsR PP pr chain_Put.h (retH pr Try.f32.results.toList R)) a c d R M)
theorem chain_Put.fn : PP.funcs[Id.chain_Put]? = some Try.f32 := Try.func32
theorem chain_Put.can : callable PP Id.chain_Put = true := by kernel_rfl
theorem chain_Put.good : okH Try.f32.ntmps chain_Put.h = true := by kernel_rfl
theorem chain_Put.body : Try.f32.body = some ((Try.f32.body).getD .skip) := by kernel_rfl
theorem chain_Put.size : (3 : Nat) ≤ Try.f32.ntmps := by decide
theorem chain_Put.go (w0 : World) (a : Option Addr) (c : Int) (d : Int) {R : Value → Mem → Prop} {M : Mem} (h : chain_Put.T (std PP w0) a c d R M) : C PP w0 Id.chain_Put #[.pointer a, .int .i64 c, .int .i64 d] R M :=
  C_intro mixed chain_Put.fn chain_Put.body chain_Put.can (annot_code _ _) chain_Put.good chain_Put.size ((chain_Put.eq (std PP w0) a c d R M).mpr h)
-- thicket/fib.lesser
noncomputable def fib_lesser.h : HC := annot ((Try.f33.body).getD .skip) []
def fib_lesser.T (pr : Prim) (a : Option Addr) (r : Int) (n : Int) (R : Value → Mem → Prop) (M : Mem) : Prop := pr.call Id.node_Before #[.pointer a, .int .i64 n, .int .i64 r] (fun v1 M2 => shB v1 fun b3 => bs b3 (R (.int .i64 n) M2) (R (.int .i64 r) M2)) M
theorem fib_lesser.eqX (pr : Prim) (pts : Pts) (a : Option Addr) (r : Int) (n : Int) (R : Value → Mem → Prop) (M : Mem) : wpX PP pr pts fib_lesser.h [] [] (retH pr Try.f33.results.toList R) (argEnv 0 [.pointer a, .int .i64 r, .int .i64 n]) M = fib_lesser.T pr a r n R M := by kernel_rfl
theorem fib_lesser.eq (pr : Prim) (a : Option Addr) (r : Int) (n : Int) (R : Value → Mem → Prop) (M : Mem) : wpH PP pr fib_lesser.h (retH pr Try.f33.results.toList R) (argEnv 0 [.pointer a, .int .i64 r, .int .i64 n]) M = fib_lesser.T pr a r n R M := root_eq.trans (fib_lesser.eqX pr (ptsR PP pr fib_lesser.h (retH pr Try.f33.results.toList R)) a r n R M)
theorem fib_lesser.fn : PP.funcs[Id.fib_lesser]? = some Try.f33 := Try.func33
theorem fib_lesser.can : callable PP Id.fib_lesser = true := by kernel_rfl
theorem fib_lesser.good : okH Try.f33.ntmps fib_lesser.h = true := by kernel_rfl
theorem fib_lesser.body : Try.f33.body = some ((Try.f33.body).getD .skip) := by kernel_rfl
theorem fib_lesser.size : (3 : Nat) ≤ Try.f33.ntmps := by decide
theorem fib_lesser.go (w0 : World) (a : Option Addr) (r : Int) (n : Int) {R : Value → Mem → Prop} {M : Mem} (h : fib_lesser.T (std PP w0) a r n R M) : C PP w0 Id.fib_lesser #[.pointer a, .int .i64 r, .int .i64 n] R M :=
  C_intro mixed fib_lesser.fn fib_lesser.body fib_lesser.can (annot_code _ _) fib_lesser.good fib_lesser.size ((fib_lesser.eq (std PP w0) a r n R M).mpr h)
-- thicket/thicketref1.Limit
noncomputable def thicketref1_Limit.h : HC := annot ((Try.f34.body).getD .skip) [([true, true, false, true, false], [1, 7, 8])]
abbrev thicketref1_Limit.L1 (pts : Pts) (k : Nat) (b_1 : Int) (x_7 : Int) (k_8 : Int) (M : Mem) : Prop := pts [false, false, true, false, true, true] [k] [(1, .int .i64 b_1), (7, .int .i64 x_7), (8, .int .i64 k_8)] M
def thicketref1_Limit.pts (pr : Prim) (R : Value → Mem → Prop) : Pts := ptsR PP pr thicketref1_Limit.h (retH pr Try.f34.results.toList R)
def thicketref1_Limit.L1.T (pr : Prim) (pts : Pts) (k : Nat) (b_1 : Int) (x_7 : Int) (k_8 : Int) (R : Value → Mem → Prop) (M : Mem) : Prop := bs (decide (k_8 > 0)) (pr.call Id.thicketref1_Add #[.int .i64 x_7, .int .i64 b_1] (fun v5 M6 => shI .i64 v5 fun n7 => thicketref1_Limit.L1 pts k b_1 n7 (w64 (k_8 - 1)) M6) M) (R (.int .i64 x_7) M)
theorem thicketref1_Limit.L1.zero (pr : Prim) (b_1 : Int) (x_7 : Int) (k_8 : Int) (R : Value → Mem → Prop) (M : Mem) : thicketref1_Limit.L1 (thicketref1_Limit.pts pr R) 0 b_1 x_7 k_8 M = False :=
  (ptsR_eq (b := false) (p := [false, true, false, true, true]) (ns := [0]) rfl _ _).trans (by kernel_rfl)
theorem thicketref1_Limit.L1.eqX (pr : Prim) (pts : Pts) (k : Nat) (b_1 : Int) (x_7 : Int) (k_8 : Int) (R : Value → Mem → Prop) (M : Mem) : bodyX PP pr pts thicketref1_Limit.h (retH pr Try.f34.results.toList R) [false, false, true, false, true, true] [k + 1] [(1, .int .i64 b_1), (7, .int .i64 x_7), (8, .int .i64 k_8)] M = thicketref1_Limit.L1.T pr pts k b_1 x_7 k_8 R M := by kernel_rfl
theorem thicketref1_Limit.L1.succ (pr : Prim) (k : Nat) (b_1 : Int) (x_7 : Int) (k_8 : Int) (R : Value → Mem → Prop) (M : Mem) : thicketref1_Limit.L1 (thicketref1_Limit.pts pr R) (k + 1) b_1 x_7 k_8 M = thicketref1_Limit.L1.T pr (thicketref1_Limit.pts pr R) k b_1 x_7 k_8 R M :=
  (ptsR_eq (b := false) (p := [false, true, false, true, true]) (ns := [k + 1]) rfl _ _).trans (thicketref1_Limit.L1.eqX pr (thicketref1_Limit.pts pr R) k b_1 x_7 k_8 R M)
structure thicketref1_Limit.Is (pr : Prim) (pts : Pts) (R : Value → Mem → Prop) : Prop where
  L1 : ∀ (k : Nat) (b_1 : Int) (x_7 : Int) (k_8 : Int) (M : Mem), thicketref1_Limit.L1 pts (k + 1) b_1 x_7 k_8 M = thicketref1_Limit.L1.T pr pts k b_1 x_7 k_8 R M
theorem thicketref1_Limit.is (pr : Prim) (R : Value → Mem → Prop) : thicketref1_Limit.Is pr (thicketref1_Limit.pts pr R) R := ⟨fun k b_1 x_7 k_8 M => thicketref1_Limit.L1.succ pr k b_1 x_7 k_8 R M⟩
def thicketref1_Limit.T (pr : Prim) (pts : Pts) (a : Int) (b : Int) (n : Int) (R : Value → Mem → Prop) (M : Mem) : Prop := pr.call Id.thicketref1_Bits #[.int .i64 n] (fun v1 M2 => shI .i64 v1 fun n3 => ∃ k4, thicketref1_Limit.L1 pts k4 b a n3 M2) M
theorem thicketref1_Limit.eqX (pr : Prim) (pts : Pts) (a : Int) (b : Int) (n : Int) (R : Value → Mem → Prop) (M : Mem) : wpX PP pr pts thicketref1_Limit.h [] [] (retH pr Try.f34.results.toList R) (argEnv 0 [.int .i64 a, .int .i64 b, .int .i64 n]) M = thicketref1_Limit.T pr pts a b n R M := by kernel_rfl
theorem thicketref1_Limit.eq (pr : Prim) (a : Int) (b : Int) (n : Int) (R : Value → Mem → Prop) (M : Mem) : wpH PP pr thicketref1_Limit.h (retH pr Try.f34.results.toList R) (argEnv 0 [.int .i64 a, .int .i64 b, .int .i64 n]) M = thicketref1_Limit.T pr (thicketref1_Limit.pts pr R) a b n R M := root_eq.trans (thicketref1_Limit.eqX pr (thicketref1_Limit.pts pr R) a b n R M)
theorem thicketref1_Limit.fn : PP.funcs[Id.thicketref1_Limit]? = some Try.f34 := Try.func34
theorem thicketref1_Limit.can : callable PP Id.thicketref1_Limit = true := by kernel_rfl
theorem thicketref1_Limit.good : okH Try.f34.ntmps thicketref1_Limit.h = true := by kernel_rfl
theorem thicketref1_Limit.body : Try.f34.body = some ((Try.f34.body).getD .skip) := by kernel_rfl
theorem thicketref1_Limit.size : (3 : Nat) ≤ Try.f34.ntmps := by decide
theorem thicketref1_Limit.go (w0 : World) (a : Int) (b : Int) (n : Int) {R : Value → Mem → Prop} {M : Mem} (h : ∀ pts, thicketref1_Limit.Is (std PP w0) pts R → thicketref1_Limit.T (std PP w0) pts a b n R M) : C PP w0 Id.thicketref1_Limit #[.int .i64 a, .int .i64 b, .int .i64 n] R M :=
  C_intro mixed thicketref1_Limit.fn thicketref1_Limit.body thicketref1_Limit.can (annot_code _ _) thicketref1_Limit.good thicketref1_Limit.size ((thicketref1_Limit.eq (std PP w0) a b n R M).mpr (h _ (thicketref1_Limit.is _ _)))
-- (*thicket/arena.Arena).Live
noncomputable def arena_Arena_Live.h : HC := annot ((Try.f35.body).getD .skip) []
def arena_Arena_Live.T (pr : Prim) (a : Option Addr) (c : Int) (R : Value → Mem → Prop) (M : Mem) : Prop := bs (decide (c ≥ 0)) (nc a fun a1 => ob (pr.ld 63 a1 M) fun v2 => shS v2 fun s3 => bs (decide (c < ((s3.n : Nat) : Int))) (nc a fun a4 => ob (pr.ld 63 a4 M) fun v5 => shS v5 fun s6 => nc s6.a fun a7 => (0 ≤ c ∧ c < ((s6.n : Nat) : Int)) ∧ ob (pr.ld 4 (Addr.add (a7.add (c.toNat * 11)) 10) M) fun v8 => shB v8 fun b9 => R (.bool b9) M) (R (.bool false) M)) (R (.bool false) M)
theorem arena_Arena_Live.eqX (pr : Prim) (pts : Pts) (a : Option Addr) (c : Int) (R : Value → Mem → Prop) (M : Mem) : wpX PP pr pts arena_Arena_Live.h [] [] (retH pr Try.f35.results.toList R) (argEnv 0 [.pointer a, .int .i64 c]) M = arena_Arena_Live.T pr a c R M := by kernel_rfl
theorem arena_Arena_Live.eq (pr : Prim) (a : Option Addr) (c : Int) (R : Value → Mem → Prop) (M : Mem) : wpH PP pr arena_Arena_Live.h (retH pr Try.f35.results.toList R) (argEnv 0 [.pointer a, .int .i64 c]) M = arena_Arena_Live.T pr a c R M := root_eq.trans (arena_Arena_Live.eqX pr (ptsR PP pr arena_Arena_Live.h (retH pr Try.f35.results.toList R)) a c R M)
theorem arena_Arena_Live.fn : PP.funcs[Id.arena_Arena_Live]? = some Try.f35 := Try.func35
theorem arena_Arena_Live.can : callable PP Id.arena_Arena_Live = true := by kernel_rfl
theorem arena_Arena_Live.good : okH Try.f35.ntmps arena_Arena_Live.h = true := by kernel_rfl
theorem arena_Arena_Live.body : Try.f35.body = some ((Try.f35.body).getD .skip) := by kernel_rfl
theorem arena_Arena_Live.size : (2 : Nat) ≤ Try.f35.ntmps := by decide
theorem arena_Arena_Live.go (w0 : World) (a : Option Addr) (c : Int) {R : Value → Mem → Prop} {M : Mem} (h : arena_Arena_Live.T (std PP w0) a c R M) : C PP w0 Id.arena_Arena_Live #[.pointer a, .int .i64 c] R M :=
  C_intro mixed arena_Arena_Live.fn arena_Arena_Live.body arena_Arena_Live.can (annot_code _ _) arena_Arena_Live.good arena_Arena_Live.size ((arena_Arena_Live.eq (std PP w0) a c R M).mpr h)
-- thicket/fib.pop
noncomputable def fib_pop.h : HC := annot ((Try.f36.body).getD .skip) [([true, true], [0, 1, 6]), ([true, true, false, true, true, false, true, false], [0, 1, 6, 19, 20, 21]), ([true, true, true], [0, 1, 6])]
abbrev fib_pop.J1 (pts : Pts) (a_0 : Option Addr) (n_1 : Int) (l_6 : SV) (M : Mem) : Prop := pts [true, true, true] [] [(0, .pointer a_0), (1, .int .i64 n_1), (6, SV.v l_6)] M
abbrev fib_pop.L2 (pts : Pts) (k : Nat) (a_0 : Option Addr) (n_1 : Int) (l_6 : SV) (t19 : SV) (t20 : Int) (t21 : Int) (M : Mem) : Prop := pts [false, false, true, false, true, true, false, true, true] [k] [(0, .pointer a_0), (1, .int .i64 n_1), (6, SV.v l_6), (19, SV.v t19), (20, .int .i64 t20), (21, .int .i64 t21)] M
abbrev fib_pop.J3 (pts : Pts) (a_0 : Option Addr) (n_1 : Int) (l_6 : SV) (M : Mem) : Prop := pts [true, true, true, true] [] [(0, .pointer a_0), (1, .int .i64 n_1), (6, SV.v l_6)] M
def fib_pop.pts (pr : Prim) (R : Value → Mem → Prop) : Pts := ptsR PP pr fib_pop.h (retH pr Try.f36.results.toList R)
def fib_pop.J1.T (pr : Prim) (pts : Pts) (a_0 : Option Addr) (n_1 : Int) (l_6 : SV) (R : Value → Mem → Prop) (M : Mem) : Prop := pr.call Id.chain_Out #[.pointer a_0, .int .i64 n_1] (fun v8 M9 => shI .i64 v8 fun n10 => bs ((n10 != (-1))) (pr.call Id.chain_All #[.pointer a_0, .int .i64 n10] (fun v11 M12 => shS v11 fun s13 => pr.app #[53, 53] 53 [SV.v l_6, SV.v s13] (fun v14 M15 => shS v14 fun s16 => fib_pop.J3 pts a_0 n_1 s16 M15) M12) M9) (fib_pop.J3 pts a_0 n_1 l_6 M9)) M
theorem fib_pop.J1.eqX (pr : Prim) (pts : Pts) (a_0 : Option Addr) (n_1 : Int) (l_6 : SV) (R : Value → Mem → Prop) (M : Mem) : bodyX PP pr pts fib_pop.h (retH pr Try.f36.results.toList R) [true, true, true] [] [(0, .pointer a_0), (1, .int .i64 n_1), (6, SV.v l_6)] M = fib_pop.J1.T pr pts a_0 n_1 l_6 R M := by kernel_rfl
theorem fib_pop.J1.eq (pr : Prim) (a_0 : Option Addr) (n_1 : Int) (l_6 : SV) (R : Value → Mem → Prop) (M : Mem) : fib_pop.J1 (fib_pop.pts pr R) a_0 n_1 l_6 M = fib_pop.J1.T pr (fib_pop.pts pr R) a_0 n_1 l_6 R M :=
  (ptsR_eq (b := true) (p := [true, true]) (ns := []) rfl _ _).trans (fib_pop.J1.eqX pr (fib_pop.pts pr R) a_0 n_1 l_6 R M)
def fib_pop.L2.T (pr : Prim) (pts : Pts) (k : Nat) (a_0 : Option Addr) (n_1 : Int) (l_6 : SV) (t19 : SV) (t20 : Int) (t21 : Int) (R : Value → Mem → Prop) (M : Mem) : Prop := bs (decide (t21 < t20)) (nc t19.a fun a17 => (0 ≤ t21 ∧ t21 < ((t19.n : Nat) : Int)) ∧ ob (pr.ld 3 (a17.add (t21.toNat * 1)) M) fun v18 => shI .i64 v18 fun n19 => pr.call Id.arena_Arena_Set #[.pointer a_0, .int .i64 n19, .int .i64 0, .int .i64 (-1)] (fun v20 M21 => shB v20 fun b22 => pr.bsl 53 1 [(0, .int .i64 n19)] (fun v23 M24 => shS v23 fun s25 => pr.app #[53, 53] 53 [SV.v l_6, SV.v s25] (fun v26 M27 => shS v26 fun s28 => fib_pop.L2 pts k a_0 n_1 s28 t19 t20 (w64 (t21 + 1)) M27) M24) M21) M) (fib_pop.J1 pts a_0 n_1 l_6 M)
theorem fib_pop.L2.zero (pr : Prim) (a_0 : Option Addr) (n_1 : Int) (l_6 : SV) (t19 : SV) (t20 : Int) (t21 : Int) (R : Value → Mem → Prop) (M : Mem) : fib_pop.L2 (fib_pop.pts pr R) 0 a_0 n_1 l_6 t19 t20 t21 M = False :=
  (ptsR_eq (b := false) (p := [false, true, false, true, true, false, true, true]) (ns := [0]) rfl _ _).trans (by kernel_rfl)
theorem fib_pop.L2.eqX (pr : Prim) (pts : Pts) (k : Nat) (a_0 : Option Addr) (n_1 : Int) (l_6 : SV) (t19 : SV) (t20 : Int) (t21 : Int) (R : Value → Mem → Prop) (M : Mem) : bodyX PP pr pts fib_pop.h (retH pr Try.f36.results.toList R) [false, false, true, false, true, true, false, true, true] [k + 1] [(0, .pointer a_0), (1, .int .i64 n_1), (6, SV.v l_6), (19, SV.v t19), (20, .int .i64 t20), (21, .int .i64 t21)] M = fib_pop.L2.T pr pts k a_0 n_1 l_6 t19 t20 t21 R M := by kernel_rfl
theorem fib_pop.L2.succ (pr : Prim) (k : Nat) (a_0 : Option Addr) (n_1 : Int) (l_6 : SV) (t19 : SV) (t20 : Int) (t21 : Int) (R : Value → Mem → Prop) (M : Mem) : fib_pop.L2 (fib_pop.pts pr R) (k + 1) a_0 n_1 l_6 t19 t20 t21 M = fib_pop.L2.T pr (fib_pop.pts pr R) k a_0 n_1 l_6 t19 t20 t21 R M :=
  (ptsR_eq (b := false) (p := [false, true, false, true, true, false, true, true]) (ns := [k + 1]) rfl _ _).trans (fib_pop.L2.eqX pr (fib_pop.pts pr R) k a_0 n_1 l_6 t19 t20 t21 R M)
def fib_pop.J3.T (pr : Prim) (pts : Pts) (a_0 : Option Addr) (n_1 : Int) (l_6 : SV) (R : Value → Mem → Prop) (M : Mem) : Prop := pr.call Id.node_End #[.pointer a_0, .int .i64 n_1] (fun v29 M30 => shI .i64 v29 fun n31 => pr.call Id.fib_unlike #[.pointer a_0, SV.v l_6] (fun v32 M33 => shI .i64 v32 fun n34 => R (.tuple #[.int .i64 n34, .int .i64 n31]) M33) M30) M
theorem fib_pop.J3.eqX (pr : Prim) (pts : Pts) (a_0 : Option Addr) (n_1 : Int) (l_6 : SV) (R : Value → Mem → Prop) (M : Mem) : bodyX PP pr pts fib_pop.h (retH pr Try.f36.results.toList R) [true, true, true, true] [] [(0, .pointer a_0), (1, .int .i64 n_1), (6, SV.v l_6)] M = fib_pop.J3.T pr pts a_0 n_1 l_6 R M := by kernel_rfl
theorem fib_pop.J3.eq (pr : Prim) (a_0 : Option Addr) (n_1 : Int) (l_6 : SV) (R : Value → Mem → Prop) (M : Mem) : fib_pop.J3 (fib_pop.pts pr R) a_0 n_1 l_6 M = fib_pop.J3.T pr (fib_pop.pts pr R) a_0 n_1 l_6 R M :=
  (ptsR_eq (b := true) (p := [true, true, true]) (ns := []) rfl _ _).trans (fib_pop.J3.eqX pr (fib_pop.pts pr R) a_0 n_1 l_6 R M)
structure fib_pop.Is (pr : Prim) (pts : Pts) (R : Value → Mem → Prop) : Prop where
  J1 : ∀ (a_0 : Option Addr) (n_1 : Int) (l_6 : SV) (M : Mem), fib_pop.J1 pts a_0 n_1 l_6 M = fib_pop.J1.T pr pts a_0 n_1 l_6 R M
  L2 : ∀ (k : Nat) (a_0 : Option Addr) (n_1 : Int) (l_6 : SV) (t19 : SV) (t20 : Int) (t21 : Int) (M : Mem), fib_pop.L2 pts (k + 1) a_0 n_1 l_6 t19 t20 t21 M = fib_pop.L2.T pr pts k a_0 n_1 l_6 t19 t20 t21 R M
  J3 : ∀ (a_0 : Option Addr) (n_1 : Int) (l_6 : SV) (M : Mem), fib_pop.J3 pts a_0 n_1 l_6 M = fib_pop.J3.T pr pts a_0 n_1 l_6 R M
theorem fib_pop.is (pr : Prim) (R : Value → Mem → Prop) : fib_pop.Is pr (fib_pop.pts pr R) R := ⟨fun a_0 n_1 l_6 M => fib_pop.J1.eq pr a_0 n_1 l_6 R M, fun k a_0 n_1 l_6 t19 t20 t21 M => fib_pop.L2.succ pr k a_0 n_1 l_6 t19 t20 t21 R M, fun a_0 n_1 l_6 M => fib_pop.J3.eq pr a_0 n_1 l_6 R M⟩
def fib_pop.T (pr : Prim) (pts : Pts) (a : Option Addr) (n : Int) (R : Value → Mem → Prop) (M : Mem) : Prop := pr.call Id.arena_Arena_Cell #[.pointer a, .int .i64 n, .int .i64 1] (fun v1 M2 => shI .i64 v1 fun n3 => bs ((n3 != (-1))) (pr.call Id.chain_All #[.pointer a, .int .i64 n3] (fun v4 M5 => shS v4 fun s6 => ∃ k7, fib_pop.L2 pts k7 a n ⟨none, 0, 0⟩ s6 ((s6.n : Nat) : Int) 0 M5) M2) (fib_pop.J1 pts a n ⟨none, 0, 0⟩ M2)) M
theorem fib_pop.eqX (pr : Prim) (pts : Pts) (a : Option Addr) (n : Int) (R : Value → Mem → Prop) (M : Mem) : wpX PP pr pts fib_pop.h [] [] (retH pr Try.f36.results.toList R) (argEnv 0 [.pointer a, .int .i64 n]) M = fib_pop.T pr pts a n R M := by kernel_rfl
theorem fib_pop.eq (pr : Prim) (a : Option Addr) (n : Int) (R : Value → Mem → Prop) (M : Mem) : wpH PP pr fib_pop.h (retH pr Try.f36.results.toList R) (argEnv 0 [.pointer a, .int .i64 n]) M = fib_pop.T pr (fib_pop.pts pr R) a n R M := root_eq.trans (fib_pop.eqX pr (fib_pop.pts pr R) a n R M)
theorem fib_pop.fn : PP.funcs[Id.fib_pop]? = some Try.f36 := Try.func36
theorem fib_pop.can : callable PP Id.fib_pop = true := by kernel_rfl
theorem fib_pop.good : okH Try.f36.ntmps fib_pop.h = true := by kernel_rfl
theorem fib_pop.body : Try.f36.body = some ((Try.f36.body).getD .skip) := by kernel_rfl
theorem fib_pop.size : (2 : Nat) ≤ Try.f36.ntmps := by decide
theorem fib_pop.go (w0 : World) (a : Option Addr) (n : Int) {R : Value → Mem → Prop} {M : Mem} (h : ∀ pts, fib_pop.Is (std PP w0) pts R → fib_pop.T (std PP w0) pts a n R M) : C PP w0 Id.fib_pop #[.pointer a, .int .i64 n] R M :=
  C_intro mixed fib_pop.fn fib_pop.body fib_pop.can (annot_code _ _) fib_pop.good fib_pop.size ((fib_pop.eq (std PP w0) a n R M).mpr (h _ (fib_pop.is _ _)))
-- (*thicket/arena.Arena).Get
noncomputable def arena_Arena_Get.h : HC := annot ((Try.f37.body).getD .skip) []
def arena_Arena_Get.T (pr : Prim) (a : Option Addr) (c : Int) (field : Int) (R : Value → Mem → Prop) (M : Mem) : Prop := nc a fun a1 => ob (pr.ld 34 (Addr.add a1 3) M) fun v2 => shP v2 fun p3 => pr.call Id.meter_Meter_Tick #[.pointer p3, .int .i64 1] (fun v4 M5 => pr.call Id.arena_Arena_has #[.pointer a, .int .i64 c, .int .i64 field] (fun v6 M7 => shB v6 fun b8 => bs (!b8) (R (.int .i64 (-1)) M7) (nc a fun a9 => ob (pr.ld 63 a9 M7) fun v10 => shS v10 fun s11 => nc s11.a fun a12 => (0 ≤ c ∧ c < ((s11.n : Nat) : Int)) ∧ (0 ≤ field ∧ field < ((10 : Nat) : Int)) ∧ ob (pr.ld 2 (Addr.add (a12.add (c.toNat * 11)) (field.toNat * 1)) M7) fun v13 => shI .i64 v13 fun n14 => R (.int .i64 n14) M7)) M5) M
theorem arena_Arena_Get.eqX (pr : Prim) (pts : Pts) (a : Option Addr) (c : Int) (field : Int) (R : Value → Mem → Prop) (M : Mem) : wpX PP pr pts arena_Arena_Get.h [] [] (retH pr Try.f37.results.toList R) (argEnv 0 [.pointer a, .int .i64 c, .int .i64 field]) M = arena_Arena_Get.T pr a c field R M := by kernel_rfl
theorem arena_Arena_Get.eq (pr : Prim) (a : Option Addr) (c : Int) (field : Int) (R : Value → Mem → Prop) (M : Mem) : wpH PP pr arena_Arena_Get.h (retH pr Try.f37.results.toList R) (argEnv 0 [.pointer a, .int .i64 c, .int .i64 field]) M = arena_Arena_Get.T pr a c field R M := root_eq.trans (arena_Arena_Get.eqX pr (ptsR PP pr arena_Arena_Get.h (retH pr Try.f37.results.toList R)) a c field R M)
theorem arena_Arena_Get.fn : PP.funcs[Id.arena_Arena_Get]? = some Try.f37 := Try.func37
theorem arena_Arena_Get.can : callable PP Id.arena_Arena_Get = true := by kernel_rfl
theorem arena_Arena_Get.good : okH Try.f37.ntmps arena_Arena_Get.h = true := by kernel_rfl
theorem arena_Arena_Get.body : Try.f37.body = some ((Try.f37.body).getD .skip) := by kernel_rfl
theorem arena_Arena_Get.size : (3 : Nat) ≤ Try.f37.ntmps := by decide
theorem arena_Arena_Get.go (w0 : World) (a : Option Addr) (c : Int) (field : Int) {R : Value → Mem → Prop} {M : Mem} (h : arena_Arena_Get.T (std PP w0) a c field R M) : C PP w0 Id.arena_Arena_Get #[.pointer a, .int .i64 c, .int .i64 field] R M :=
  C_intro mixed arena_Arena_Get.fn arena_Arena_Get.body arena_Arena_Get.can (annot_code _ _) arena_Arena_Get.good arena_Arena_Get.size ((arena_Arena_Get.eq (std PP w0) a c field R M).mpr h)
-- (*thicket/meter.Meter).Tick
noncomputable def meter_Meter_Tick.h : HC := annot ((Try.f38.body).getD .skip) []
def meter_Meter_Tick.T (pr : Prim) (m : Option Addr) (n : Int) (R : Value → Mem → Prop) (M : Mem) : Prop := nc m fun a1 => ob (pr.ld 2 a1 M) fun v2 => shI .i64 v2 fun n3 => pr.call Id.order_Add #[.int .i64 n3, .int .i64 (if n > 0 then n else 0)] (fun v4 M5 => shI .i64 v4 fun n6 => nc m fun a7 => pr.st 2 a7 (.int .i64 n6) (fun M8 => R (.tuple #[]) M8) M5) M
theorem meter_Meter_Tick.eqX (pr : Prim) (pts : Pts) (m : Option Addr) (n : Int) (R : Value → Mem → Prop) (M : Mem) : wpX PP pr pts meter_Meter_Tick.h [] [] (retH pr Try.f38.results.toList R) (argEnv 0 [.pointer m, .int .i64 n]) M = meter_Meter_Tick.T pr m n R M := by kernel_rfl
theorem meter_Meter_Tick.eq (pr : Prim) (m : Option Addr) (n : Int) (R : Value → Mem → Prop) (M : Mem) : wpH PP pr meter_Meter_Tick.h (retH pr Try.f38.results.toList R) (argEnv 0 [.pointer m, .int .i64 n]) M = meter_Meter_Tick.T pr m n R M := root_eq.trans (meter_Meter_Tick.eqX pr (ptsR PP pr meter_Meter_Tick.h (retH pr Try.f38.results.toList R)) m n R M)
theorem meter_Meter_Tick.fn : PP.funcs[Id.meter_Meter_Tick]? = some Try.f38 := Try.func38
theorem meter_Meter_Tick.can : callable PP Id.meter_Meter_Tick = true := by kernel_rfl
theorem meter_Meter_Tick.good : okH Try.f38.ntmps meter_Meter_Tick.h = true := by kernel_rfl
theorem meter_Meter_Tick.body : Try.f38.body = some ((Try.f38.body).getD .skip) := by kernel_rfl
theorem meter_Meter_Tick.size : (2 : Nat) ≤ Try.f38.ntmps := by decide
theorem meter_Meter_Tick.go (w0 : World) (m : Option Addr) (n : Int) {R : Value → Mem → Prop} {M : Mem} (h : meter_Meter_Tick.T (std PP w0) m n R M) : C PP w0 Id.meter_Meter_Tick #[.pointer m, .int .i64 n] R M :=
  C_intro mixed meter_Meter_Tick.fn meter_Meter_Tick.body meter_Meter_Tick.can (annot_code _ _) meter_Meter_Tick.good meter_Meter_Tick.size ((meter_Meter_Tick.eq (std PP w0) m n R M).mpr h)
-- (*thicket/arena.Arena).Cells
noncomputable def arena_Arena_Cells.h : HC := annot ((Try.f39.body).getD .skip) []
def arena_Arena_Cells.T (pr : Prim) (a : Option Addr) (R : Value → Mem → Prop) (M : Mem) : Prop := nc a fun a1 => ob (pr.ld 63 a1 M) fun v2 => shS v2 fun s3 => R (.int .i64 ((s3.n : Nat) : Int)) M
theorem arena_Arena_Cells.eqX (pr : Prim) (pts : Pts) (a : Option Addr) (R : Value → Mem → Prop) (M : Mem) : wpX PP pr pts arena_Arena_Cells.h [] [] (retH pr Try.f39.results.toList R) (argEnv 0 [.pointer a]) M = arena_Arena_Cells.T pr a R M := by kernel_rfl
theorem arena_Arena_Cells.eq (pr : Prim) (a : Option Addr) (R : Value → Mem → Prop) (M : Mem) : wpH PP pr arena_Arena_Cells.h (retH pr Try.f39.results.toList R) (argEnv 0 [.pointer a]) M = arena_Arena_Cells.T pr a R M := root_eq.trans (arena_Arena_Cells.eqX pr (ptsR PP pr arena_Arena_Cells.h (retH pr Try.f39.results.toList R)) a R M)
theorem arena_Arena_Cells.fn : PP.funcs[Id.arena_Arena_Cells]? = some Try.f39 := Try.func39
theorem arena_Arena_Cells.can : callable PP Id.arena_Arena_Cells = true := by kernel_rfl
theorem arena_Arena_Cells.good : okH Try.f39.ntmps arena_Arena_Cells.h = true := by kernel_rfl
theorem arena_Arena_Cells.body : Try.f39.body = some ((Try.f39.body).getD .skip) := by kernel_rfl
theorem arena_Arena_Cells.size : (1 : Nat) ≤ Try.f39.ntmps := by decide
theorem arena_Arena_Cells.go (w0 : World) (a : Option Addr) {R : Value → Mem → Prop} {M : Mem} (h : arena_Arena_Cells.T (std PP w0) a R M) : C PP w0 Id.arena_Arena_Cells #[.pointer a] R M :=
  C_intro mixed arena_Arena_Cells.fn arena_Arena_Cells.body arena_Arena_Cells.can (annot_code _ _) arena_Arena_Cells.good arena_Arena_Cells.size ((arena_Arena_Cells.eq (std PP w0) a R M).mpr h)
-- thicket/thicketlaw12.least
noncomputable def thicketlaw12_least.h : HC := annot ((Try.f40.body).getD .skip) [([true, true, false, true, false], [0, 3, 4])]
abbrev thicketlaw12_least.L1 (pts : Pts) (k : Nat) (l_0 : SV) (k_3 : Int) (i_4 : Int) (M : Mem) : Prop := pts [false, false, true, false, true, true] [k] [(0, SV.v l_0), (3, .int .i64 k_3), (4, .int .i64 i_4)] M
def thicketlaw12_least.pts (pr : Prim) (R : Value → Mem → Prop) : Pts := ptsR PP pr thicketlaw12_least.h (retH pr Try.f40.results.toList R)
def thicketlaw12_least.L1.T (pr : Prim) (pts : Pts) (k : Nat) (l_0 : SV) (k_3 : Int) (i_4 : Int) (R : Value → Mem → Prop) (M : Mem) : Prop := bs (decide (i_4 < ((l_0.n : Nat) : Int))) (nc l_0.a fun a2 => (0 ≤ i_4 ∧ i_4 < ((l_0.n : Nat) : Int)) ∧ ob (pr.ld 58 (a2.add (i_4.toNat * 3)) M) fun v3 => shA v3 fun l4 => shCons l4 fun u5 r6 => shI .i64 u5 fun n7 => shCons r6 fun u8 r9 => shI .i64 u8 fun n10 => shCons r9 fun u11 r12 => shI .i64 u11 fun n13 => shNil r12 (nc l_0.a fun a14 => (0 ≤ k_3 ∧ k_3 < ((l_0.n : Nat) : Int)) ∧ ob (pr.ld 58 (a14.add (k_3.toNat * 3)) M) fun v15 => shA v15 fun l16 => shCons l16 fun u17 r18 => shI .i64 u17 fun n19 => shCons r18 fun u20 r21 => shI .i64 u20 fun n22 => shCons r21 fun u23 r24 => shI .i64 u23 fun n25 => shNil r24 (pr.call Id.thicketlaw12_before #[.agg #[.int .i64 n7, .int .i64 n10, .int .i64 n13], .agg #[.int .i64 n19, .int .i64 n22, .int .i64 n25]] (fun v26 M27 => shB v26 fun b28 => bs b28 (thicketlaw12_least.L1 pts k l_0 i_4 (w64 (i_4 + 1)) M27) (thicketlaw12_least.L1 pts k l_0 k_3 (w64 (i_4 + 1)) M27)) M))) (R (.int .i64 k_3) M)
theorem thicketlaw12_least.L1.zero (pr : Prim) (l_0 : SV) (k_3 : Int) (i_4 : Int) (R : Value → Mem → Prop) (M : Mem) : thicketlaw12_least.L1 (thicketlaw12_least.pts pr R) 0 l_0 k_3 i_4 M = False :=
  (ptsR_eq (b := false) (p := [false, true, false, true, true]) (ns := [0]) rfl _ _).trans (by kernel_rfl)
theorem thicketlaw12_least.L1.eqX (pr : Prim) (pts : Pts) (k : Nat) (l_0 : SV) (k_3 : Int) (i_4 : Int) (R : Value → Mem → Prop) (M : Mem) : bodyX PP pr pts thicketlaw12_least.h (retH pr Try.f40.results.toList R) [false, false, true, false, true, true] [k + 1] [(0, SV.v l_0), (3, .int .i64 k_3), (4, .int .i64 i_4)] M = thicketlaw12_least.L1.T pr pts k l_0 k_3 i_4 R M := by kernel_rfl
theorem thicketlaw12_least.L1.succ (pr : Prim) (k : Nat) (l_0 : SV) (k_3 : Int) (i_4 : Int) (R : Value → Mem → Prop) (M : Mem) : thicketlaw12_least.L1 (thicketlaw12_least.pts pr R) (k + 1) l_0 k_3 i_4 M = thicketlaw12_least.L1.T pr (thicketlaw12_least.pts pr R) k l_0 k_3 i_4 R M :=
  (ptsR_eq (b := false) (p := [false, true, false, true, true]) (ns := [k + 1]) rfl _ _).trans (thicketlaw12_least.L1.eqX pr (thicketlaw12_least.pts pr R) k l_0 k_3 i_4 R M)
structure thicketlaw12_least.Is (pr : Prim) (pts : Pts) (R : Value → Mem → Prop) : Prop where
  L1 : ∀ (k : Nat) (l_0 : SV) (k_3 : Int) (i_4 : Int) (M : Mem), thicketlaw12_least.L1 pts (k + 1) l_0 k_3 i_4 M = thicketlaw12_least.L1.T pr pts k l_0 k_3 i_4 R M
theorem thicketlaw12_least.is (pr : Prim) (R : Value → Mem → Prop) : thicketlaw12_least.Is pr (thicketlaw12_least.pts pr R) R := ⟨fun k l_0 k_3 i_4 M => thicketlaw12_least.L1.succ pr k l_0 k_3 i_4 R M⟩
def thicketlaw12_least.T (pr : Prim) (pts : Pts) (l : SV) (R : Value → Mem → Prop) (M : Mem) : Prop := ∃ k1, thicketlaw12_least.L1 pts k1 l 0 1 M
theorem thicketlaw12_least.eqX (pr : Prim) (pts : Pts) (l : SV) (R : Value → Mem → Prop) (M : Mem) : wpX PP pr pts thicketlaw12_least.h [] [] (retH pr Try.f40.results.toList R) (argEnv 0 [SV.v l]) M = thicketlaw12_least.T pr pts l R M := by kernel_rfl
theorem thicketlaw12_least.eq (pr : Prim) (l : SV) (R : Value → Mem → Prop) (M : Mem) : wpH PP pr thicketlaw12_least.h (retH pr Try.f40.results.toList R) (argEnv 0 [SV.v l]) M = thicketlaw12_least.T pr (thicketlaw12_least.pts pr R) l R M := root_eq.trans (thicketlaw12_least.eqX pr (thicketlaw12_least.pts pr R) l R M)
theorem thicketlaw12_least.fn : PP.funcs[Id.thicketlaw12_least]? = some Try.f40 := Try.func40
theorem thicketlaw12_least.can : callable PP Id.thicketlaw12_least = true := by kernel_rfl
theorem thicketlaw12_least.good : okH Try.f40.ntmps thicketlaw12_least.h = true := by kernel_rfl
theorem thicketlaw12_least.body : Try.f40.body = some ((Try.f40.body).getD .skip) := by kernel_rfl
theorem thicketlaw12_least.size : (1 : Nat) ≤ Try.f40.ntmps := by decide
theorem thicketlaw12_least.go (w0 : World) (l : SV) {R : Value → Mem → Prop} {M : Mem} (h : ∀ pts, thicketlaw12_least.Is (std PP w0) pts R → thicketlaw12_least.T (std PP w0) pts l R M) : C PP w0 Id.thicketlaw12_least #[SV.v l] R M :=
  C_intro mixed thicketlaw12_least.fn thicketlaw12_least.body thicketlaw12_least.can (annot_code _ _) thicketlaw12_least.good thicketlaw12_least.size ((thicketlaw12_least.eq (std PP w0) l R M).mpr (h _ (thicketlaw12_least.is _ _)))
-- thicket/item.Node
noncomputable def item_Node.h : HC := annot ((Try.f41.body).getD .skip) []
def item_Node.T (pr : Prim) (a : Option Addr) (i : Int) (R : Value → Mem → Prop) (M : Mem) : Prop := ob (pr.bq .eql 28 (.tmp 5) (.const (.pointer none)) (.pointer a) (.pointer none)) fun v1 => shB v1 fun b2 => bs b2 (R (.int .i64 (-1)) M) (pr.call Id.arena_Arena_Cell #[.pointer a, .int .i64 i, .int .i64 9] (fun v3 M4 => shI .i64 v3 fun n5 => R (.int .i64 n5) M4) M)
theorem item_Node.eqX (pr : Prim) (pts : Pts) (a : Option Addr) (i : Int) (R : Value → Mem → Prop) (M : Mem) : wpX PP pr pts item_Node.h [] [] (retH pr Try.f41.results.toList R) (argEnv 0 [.pointer a, .int .i64 i]) M = item_Node.T pr a i R M := by kernel_rfl
theorem item_Node.eq (pr : Prim) (a : Option Addr) (i : Int) (R : Value → Mem → Prop) (M : Mem) : wpH PP pr item_Node.h (retH pr Try.f41.results.toList R) (argEnv 0 [.pointer a, .int .i64 i]) M = item_Node.T pr a i R M := root_eq.trans (item_Node.eqX pr (ptsR PP pr item_Node.h (retH pr Try.f41.results.toList R)) a i R M)
theorem item_Node.fn : PP.funcs[Id.item_Node]? = some Try.f41 := Try.func41
theorem item_Node.can : callable PP Id.item_Node = true := by kernel_rfl
theorem item_Node.good : okH Try.f41.ntmps item_Node.h = true := by kernel_rfl
theorem item_Node.body : Try.f41.body = some ((Try.f41.body).getD .skip) := by kernel_rfl
theorem item_Node.size : (2 : Nat) ≤ Try.f41.ntmps := by decide
theorem item_Node.go (w0 : World) (a : Option Addr) (i : Int) {R : Value → Mem → Prop} {M : Mem} (h : item_Node.T (std PP w0) a i R M) : C PP w0 Id.item_Node #[.pointer a, .int .i64 i] R M :=
  C_intro mixed item_Node.fn item_Node.body item_Node.can (annot_code _ _) item_Node.good item_Node.size ((item_Node.eq (std PP w0) a i R M).mpr h)
-- thicket/thicketlaw12.without
noncomputable def thicketlaw12_without.h : HC := annot ((Try.f42.body).getD .skip) []
def thicketlaw12_without.T (pr : Prim) (l : SV) (k : Int) (R : Value → Mem → Prop) (M : Mem) : Prop := (0 ≤ (0 : Int) ∧ (0 : Int) ≤ k ∧ k ≤ ((l.c : Nat) : Int)) ∧ (0 ≤ (w64 (k + 1)) ∧ (w64 (k + 1)) ≤ ((l.n : Nat) : Int) ∧ ((l.n : Nat) : Int) ≤ ((l.c : Nat) : Int)) ∧ pr.bsl 30 0 [] (fun v1 M2 => shS v1 fun s3 => pr.app #[30, 30] 30 [SV.v s3, .slice (if l.c = (0 : Int).toNat then l.a else l.a.map (·.add ((0 : Int).toNat * 3))) (k.toNat - (0 : Int).toNat) (l.c - (0 : Int).toNat)] (fun v4 M5 => shS v4 fun s6 => pr.app #[30, 30] 30 [SV.v s6, .slice (if l.c = (w64 (k + 1)).toNat then l.a else l.a.map (·.add ((w64 (k + 1)).toNat * 3))) (((l.n : Nat) : Int).toNat - (w64 (k + 1)).toNat) (l.c - (w64 (k + 1)).toNat)] (fun v7 M8 => shS v7 fun s9 => R (SV.v s9) M8) M5) M2) M
theorem thicketlaw12_without.eqX (pr : Prim) (pts : Pts) (l : SV) (k : Int) (R : Value → Mem → Prop) (M : Mem) : wpX PP pr pts thicketlaw12_without.h [] [] (retH pr Try.f42.results.toList R) (argEnv 0 [SV.v l, .int .i64 k]) M = thicketlaw12_without.T pr l k R M := by kernel_rfl
theorem thicketlaw12_without.eq (pr : Prim) (l : SV) (k : Int) (R : Value → Mem → Prop) (M : Mem) : wpH PP pr thicketlaw12_without.h (retH pr Try.f42.results.toList R) (argEnv 0 [SV.v l, .int .i64 k]) M = thicketlaw12_without.T pr l k R M := root_eq.trans (thicketlaw12_without.eqX pr (ptsR PP pr thicketlaw12_without.h (retH pr Try.f42.results.toList R)) l k R M)
theorem thicketlaw12_without.fn : PP.funcs[Id.thicketlaw12_without]? = some Try.f42 := Try.func42
theorem thicketlaw12_without.can : callable PP Id.thicketlaw12_without = true := by kernel_rfl
theorem thicketlaw12_without.good : okH Try.f42.ntmps thicketlaw12_without.h = true := by kernel_rfl
theorem thicketlaw12_without.body : Try.f42.body = some ((Try.f42.body).getD .skip) := by kernel_rfl
theorem thicketlaw12_without.size : (2 : Nat) ≤ Try.f42.ntmps := by decide
theorem thicketlaw12_without.go (w0 : World) (l : SV) (k : Int) {R : Value → Mem → Prop} {M : Mem} (h : thicketlaw12_without.T (std PP w0) l k R M) : C PP w0 Id.thicketlaw12_without #[SV.v l, .int .i64 k] R M :=
  C_intro mixed thicketlaw12_without.fn thicketlaw12_without.body thicketlaw12_without.can (annot_code _ _) thicketlaw12_without.good thicketlaw12_without.size ((thicketlaw12_without.eq (std PP w0) l k R M).mpr h)
-- thicket/thicketbook.Same[int]
noncomputable def thicketbook_Same_int.h : HC := annot ((Try.f43.body).getD .skip) [([true, true, false, true, false], [0, 1, 5])]
abbrev thicketbook_Same_int.L1 (pts : Pts) (k : Nat) (a_0 : SV) (b_1 : SV) (i_5 : Int) (M : Mem) : Prop := pts [false, false, true, false, true, true] [k] [(0, SV.v a_0), (1, SV.v b_1), (5, .int .i64 i_5)] M
def thicketbook_Same_int.pts (pr : Prim) (R : Value → Mem → Prop) : Pts := ptsR PP pr thicketbook_Same_int.h (retH pr Try.f43.results.toList R)
def thicketbook_Same_int.L1.T (pr : Prim) (pts : Pts) (k : Nat) (a_0 : SV) (b_1 : SV) (i_5 : Int) (R : Value → Mem → Prop) (M : Mem) : Prop := bs (decide (i_5 < ((a_0.n : Nat) : Int))) (nc a_0.a fun a2 => (0 ≤ i_5 ∧ i_5 < ((a_0.n : Nat) : Int)) ∧ ob (pr.ld 3 (a2.add (i_5.toNat * 1)) M) fun v3 => shI .i64 v3 fun n4 => nc b_1.a fun a5 => (0 ≤ i_5 ∧ i_5 < ((b_1.n : Nat) : Int)) ∧ ob (pr.ld 3 (a5.add (i_5.toNat * 1)) M) fun v6 => shI .i64 v6 fun n7 => bs ((n4 != n7)) (R (.bool false) M) (thicketbook_Same_int.L1 pts k a_0 b_1 (w64 (i_5 + 1)) M)) (R (.bool true) M)
theorem thicketbook_Same_int.L1.zero (pr : Prim) (a_0 : SV) (b_1 : SV) (i_5 : Int) (R : Value → Mem → Prop) (M : Mem) : thicketbook_Same_int.L1 (thicketbook_Same_int.pts pr R) 0 a_0 b_1 i_5 M = False :=
  (ptsR_eq (b := false) (p := [false, true, false, true, true]) (ns := [0]) rfl _ _).trans (by kernel_rfl)
theorem thicketbook_Same_int.L1.eqX (pr : Prim) (pts : Pts) (k : Nat) (a_0 : SV) (b_1 : SV) (i_5 : Int) (R : Value → Mem → Prop) (M : Mem) : bodyX PP pr pts thicketbook_Same_int.h (retH pr Try.f43.results.toList R) [false, false, true, false, true, true] [k + 1] [(0, SV.v a_0), (1, SV.v b_1), (5, .int .i64 i_5)] M = thicketbook_Same_int.L1.T pr pts k a_0 b_1 i_5 R M := by kernel_rfl
theorem thicketbook_Same_int.L1.succ (pr : Prim) (k : Nat) (a_0 : SV) (b_1 : SV) (i_5 : Int) (R : Value → Mem → Prop) (M : Mem) : thicketbook_Same_int.L1 (thicketbook_Same_int.pts pr R) (k + 1) a_0 b_1 i_5 M = thicketbook_Same_int.L1.T pr (thicketbook_Same_int.pts pr R) k a_0 b_1 i_5 R M :=
  (ptsR_eq (b := false) (p := [false, true, false, true, true]) (ns := [k + 1]) rfl _ _).trans (thicketbook_Same_int.L1.eqX pr (thicketbook_Same_int.pts pr R) k a_0 b_1 i_5 R M)
structure thicketbook_Same_int.Is (pr : Prim) (pts : Pts) (R : Value → Mem → Prop) : Prop where
  L1 : ∀ (k : Nat) (a_0 : SV) (b_1 : SV) (i_5 : Int) (M : Mem), thicketbook_Same_int.L1 pts (k + 1) a_0 b_1 i_5 M = thicketbook_Same_int.L1.T pr pts k a_0 b_1 i_5 R M
theorem thicketbook_Same_int.is (pr : Prim) (R : Value → Mem → Prop) : thicketbook_Same_int.Is pr (thicketbook_Same_int.pts pr R) R := ⟨fun k a_0 b_1 i_5 M => thicketbook_Same_int.L1.succ pr k a_0 b_1 i_5 R M⟩
def thicketbook_Same_int.T (pr : Prim) (pts : Pts) (a : SV) (b : SV) (R : Value → Mem → Prop) (M : Mem) : Prop := bs ((((a.n : Nat) : Int) != ((b.n : Nat) : Int))) (R (.bool false) M) (∃ k1, thicketbook_Same_int.L1 pts k1 a b 0 M)
theorem thicketbook_Same_int.eqX (pr : Prim) (pts : Pts) (a : SV) (b : SV) (R : Value → Mem → Prop) (M : Mem) : wpX PP pr pts thicketbook_Same_int.h [] [] (retH pr Try.f43.results.toList R) (argEnv 0 [SV.v a, SV.v b]) M = thicketbook_Same_int.T pr pts a b R M := by kernel_rfl
theorem thicketbook_Same_int.eq (pr : Prim) (a : SV) (b : SV) (R : Value → Mem → Prop) (M : Mem) : wpH PP pr thicketbook_Same_int.h (retH pr Try.f43.results.toList R) (argEnv 0 [SV.v a, SV.v b]) M = thicketbook_Same_int.T pr (thicketbook_Same_int.pts pr R) a b R M := root_eq.trans (thicketbook_Same_int.eqX pr (thicketbook_Same_int.pts pr R) a b R M)
theorem thicketbook_Same_int.fn : PP.funcs[Id.thicketbook_Same_int]? = some Try.f43 := Try.func43
theorem thicketbook_Same_int.can : callable PP Id.thicketbook_Same_int = true := by kernel_rfl
theorem thicketbook_Same_int.good : okH Try.f43.ntmps thicketbook_Same_int.h = true := by kernel_rfl
theorem thicketbook_Same_int.body : Try.f43.body = some ((Try.f43.body).getD .skip) := by kernel_rfl
theorem thicketbook_Same_int.size : (2 : Nat) ≤ Try.f43.ntmps := by decide
theorem thicketbook_Same_int.go (w0 : World) (a : SV) (b : SV) {R : Value → Mem → Prop} {M : Mem} (h : ∀ pts, thicketbook_Same_int.Is (std PP w0) pts R → thicketbook_Same_int.T (std PP w0) pts a b R M) : C PP w0 Id.thicketbook_Same_int #[SV.v a, SV.v b] R M :=
  C_intro mixed thicketbook_Same_int.fn thicketbook_Same_int.body thicketbook_Same_int.can (annot_code _ _) thicketbook_Same_int.good thicketbook_Same_int.size ((thicketbook_Same_int.eq (std PP w0) a b R M).mpr (h _ (thicketbook_Same_int.is _ _)))
-- thicket/fib.All
noncomputable def fib_All.h : HC := annot ((Try.f44.body).getD .skip) []
def fib_All.T (pr : Prim) (a : Option Addr) (r : Int) (R : Value → Mem → Prop) (M : Mem) : Prop := ob (pr.bq .eql 28 (.tmp 5) (.const (.pointer none)) (.pointer a) (.pointer none)) fun v1 => shB v1 fun b2 => bs b2 (R (.slice none 0 0) M) (pr.call Id.fib_nodes #[.pointer a, .int .i64 r] (fun v3 M4 => shS v3 fun s5 => pr.call Id.node_Items #[.pointer a, SV.v s5] (fun v6 M7 => shS v6 fun s8 => R (SV.v s8) M7) M4) M)
theorem fib_All.eqX (pr : Prim) (pts : Pts) (a : Option Addr) (r : Int) (R : Value → Mem → Prop) (M : Mem) : wpX PP pr pts fib_All.h [] [] (retH pr Try.f44.results.toList R) (argEnv 0 [.pointer a, .int .i64 r]) M = fib_All.T pr a r R M := by kernel_rfl
theorem fib_All.eq (pr : Prim) (a : Option Addr) (r : Int) (R : Value → Mem → Prop) (M : Mem) : wpH PP pr fib_All.h (retH pr Try.f44.results.toList R) (argEnv 0 [.pointer a, .int .i64 r]) M = fib_All.T pr a r R M := root_eq.trans (fib_All.eqX pr (ptsR PP pr fib_All.h (retH pr Try.f44.results.toList R)) a r R M)
theorem fib_All.fn : PP.funcs[Id.fib_All]? = some Try.f44 := Try.func44
theorem fib_All.can : callable PP Id.fib_All = true := by kernel_rfl
theorem fib_All.good : okH Try.f44.ntmps fib_All.h = true := by kernel_rfl
theorem fib_All.body : Try.f44.body = some ((Try.f44.body).getD .skip) := by kernel_rfl
theorem fib_All.size : (2 : Nat) ≤ Try.f44.ntmps := by decide
theorem fib_All.go (w0 : World) (a : Option Addr) (r : Int) {R : Value → Mem → Prop} {M : Mem} (h : fib_All.T (std PP w0) a r R M) : C PP w0 Id.fib_All #[.pointer a, .int .i64 r] R M :=
  C_intro mixed fib_All.fn fib_All.body fib_All.can (annot_code _ _) fib_All.good fib_All.size ((fib_All.eq (std PP w0) a r R M).mpr h)
-- thicket/thicketlaw12.cells
noncomputable def thicketlaw12_cells.h : HC := annot ((Try.f45.body).getD .skip) [([true, true, false, true, false], [0, 3, 4]), ([true, true, false, true, false, false, true, false, false, true], [0, 3, 4, 5]), ([true, true, false, true, false, false, true, false, false, true, false, false], [0, 3, 4, 5])]
abbrev thicketlaw12_cells.L1 (pts : Pts) (k : Nat) (l_0 : SV) (out_3 : SV) (i_4 : Int) (M : Mem) : Prop := pts [false, false, true, false, true, true] [k] [(0, SV.v l_0), (3, SV.v out_3), (4, .int .i64 i_4)] M
abbrev thicketlaw12_cells.J2 (pts : Pts) (k : Nat) (l_0 : SV) (out_3 : SV) (i_4 : Int) (k_5 : Int) (M : Mem) : Prop := pts [true, true, false, false, true, false, false, true, false, true, true] [k] [(0, SV.v l_0), (3, SV.v out_3), (4, .int .i64 i_4), (5, .int .i64 k_5)] M
abbrev thicketlaw12_cells.L3 (pts : Pts) (k : Nat) (k' : Nat) (l_0 : SV) (out_3 : SV) (i_4 : Int) (k_5 : Int) (M : Mem) : Prop := pts [false, false, false, true, false, false, true, false, false, true, false, true, true] [k', k] [(0, SV.v l_0), (3, SV.v out_3), (4, .int .i64 i_4), (5, .int .i64 k_5)] M
def thicketlaw12_cells.pts (pr : Prim) (R : Value → Mem → Prop) : Pts := ptsR PP pr thicketlaw12_cells.h (retH pr Try.f45.results.toList R)
def thicketlaw12_cells.L1.T (pr : Prim) (pts : Pts) (k : Nat) (l_0 : SV) (out_3 : SV) (i_4 : Int) (R : Value → Mem → Prop) (M : Mem) : Prop := bs (decide (i_4 < ((l_0.n : Nat) : Int))) (∃ k2, thicketlaw12_cells.L3 pts k k2 l_0 out_3 i_4 ((out_3.n : Nat) : Int) M) (R (SV.v out_3) M)
theorem thicketlaw12_cells.L1.zero (pr : Prim) (l_0 : SV) (out_3 : SV) (i_4 : Int) (R : Value → Mem → Prop) (M : Mem) : thicketlaw12_cells.L1 (thicketlaw12_cells.pts pr R) 0 l_0 out_3 i_4 M = False :=
  (ptsR_eq (b := false) (p := [false, true, false, true, true]) (ns := [0]) rfl _ _).trans (by kernel_rfl)
theorem thicketlaw12_cells.L1.eqX (pr : Prim) (pts : Pts) (k : Nat) (l_0 : SV) (out_3 : SV) (i_4 : Int) (R : Value → Mem → Prop) (M : Mem) : bodyX PP pr pts thicketlaw12_cells.h (retH pr Try.f45.results.toList R) [false, false, true, false, true, true] [k + 1] [(0, SV.v l_0), (3, SV.v out_3), (4, .int .i64 i_4)] M = thicketlaw12_cells.L1.T pr pts k l_0 out_3 i_4 R M := by kernel_rfl
theorem thicketlaw12_cells.L1.succ (pr : Prim) (k : Nat) (l_0 : SV) (out_3 : SV) (i_4 : Int) (R : Value → Mem → Prop) (M : Mem) : thicketlaw12_cells.L1 (thicketlaw12_cells.pts pr R) (k + 1) l_0 out_3 i_4 M = thicketlaw12_cells.L1.T pr (thicketlaw12_cells.pts pr R) k l_0 out_3 i_4 R M :=
  (ptsR_eq (b := false) (p := [false, true, false, true, true]) (ns := [k + 1]) rfl _ _).trans (thicketlaw12_cells.L1.eqX pr (thicketlaw12_cells.pts pr R) k l_0 out_3 i_4 R M)
def thicketlaw12_cells.J2.T (pr : Prim) (pts : Pts) (k : Nat) (l_0 : SV) (out_3 : SV) (i_4 : Int) (k_5 : Int) (R : Value → Mem → Prop) (M : Mem) : Prop := (0 ≤ (0 : Int) ∧ (0 : Int) ≤ k_5 ∧ k_5 ≤ ((out_3.c : Nat) : Int)) ∧ nc l_0.a fun a3 => (0 ≤ i_4 ∧ i_4 < ((l_0.n : Nat) : Int)) ∧ ob (pr.ld 3 (a3.add (i_4.toNat * 3)) M) fun v4 => shI .i64 v4 fun n5 => (0 ≤ k_5 ∧ k_5 ≤ ((out_3.n : Nat) : Int) ∧ ((out_3.n : Nat) : Int) ≤ ((out_3.c : Nat) : Int)) ∧ (pr.bsl 53 0 [] (fun v6 M7 => shS v6 fun s8 => (pr.ld 3 (a3.add (i_4.toNat * 3)) M7 = some (.int .i64 n5)) ∧ (pr.app #[53, 53] 53 [SV.v s8, .slice (if out_3.c = (0 : Int).toNat then out_3.a else out_3.a.map (·.add ((0 : Int).toNat * 1))) (k_5.toNat - (0 : Int).toNat) (out_3.c - (0 : Int).toNat)] (fun v9 M10 => shS v9 fun s11 => (pr.ld 3 (a3.add (i_4.toNat * 3)) M10 = some (.int .i64 n5)) ∧ pr.bsl 53 1 [(0, .int .i64 n5)] (fun v12 M13 => shS v12 fun s14 => pr.app #[53, 53] 53 [SV.v s11, SV.v s14] (fun v15 M16 => shS v15 fun s17 => pr.app #[53, 53] 53 [SV.v s17, .slice (if out_3.c = k_5.toNat then out_3.a else out_3.a.map (·.add (k_5.toNat * 1))) (((out_3.n : Nat) : Int).toNat - k_5.toNat) (out_3.c - k_5.toNat)] (fun v18 M19 => shS v18 fun s20 => thicketlaw12_cells.L1 pts k l_0 s20 (w64 (i_4 + 1)) M19) M16) M13) M10) M7) ∧ (pr.bsl 53 1 [(0, .int .i64 n5)] (fun v21 M22 => shS v21 fun s23 => pr.app #[53, 53] 53 [SV.v s8, .slice (if out_3.c = (0 : Int).toNat then out_3.a else out_3.a.map (·.add ((0 : Int).toNat * 1))) (k_5.toNat - (0 : Int).toNat) (out_3.c - (0 : Int).toNat)] (fun v24 M25 => shS v24 fun s26 => pr.app #[53, 53] 53 [SV.v s26, SV.v s23] (fun v27 M28 => shS v27 fun s29 => pr.app #[53, 53] 53 [SV.v s29, .slice (if out_3.c = k_5.toNat then out_3.a else out_3.a.map (·.add (k_5.toNat * 1))) (((out_3.n : Nat) : Int).toNat - k_5.toNat) (out_3.c - k_5.toNat)] (fun v30 M31 => shS v30 fun s32 => thicketlaw12_cells.L1 pts k l_0 s32 (w64 (i_4 + 1)) M31) M28) M25) M22) M7)) M) ∧ (pr.bsl 53 1 [(0, .int .i64 n5)] (fun v33 M34 => shS v33 fun s35 => pr.bsl 53 0 [] (fun v36 M37 => shS v36 fun s38 => pr.app #[53, 53] 53 [SV.v s38, .slice (if out_3.c = (0 : Int).toNat then out_3.a else out_3.a.map (·.add ((0 : Int).toNat * 1))) (k_5.toNat - (0 : Int).toNat) (out_3.c - (0 : Int).toNat)] (fun v39 M40 => shS v39 fun s41 => pr.app #[53, 53] 53 [SV.v s41, SV.v s35] (fun v42 M43 => shS v42 fun s44 => pr.app #[53, 53] 53 [SV.v s44, .slice (if out_3.c = k_5.toNat then out_3.a else out_3.a.map (·.add (k_5.toNat * 1))) (((out_3.n : Nat) : Int).toNat - k_5.toNat) (out_3.c - k_5.toNat)] (fun v45 M46 => shS v45 fun s47 => thicketlaw12_cells.L1 pts k l_0 s47 (w64 (i_4 + 1)) M46) M43) M40) M37) M34) M)
theorem thicketlaw12_cells.J2.eqX (pr : Prim) (pts : Pts) (k : Nat) (l_0 : SV) (out_3 : SV) (i_4 : Int) (k_5 : Int) (R : Value → Mem → Prop) (M : Mem) : bodyX PP pr pts thicketlaw12_cells.h (retH pr Try.f45.results.toList R) [true, true, false, false, true, false, false, true, false, true, true] [k] [(0, SV.v l_0), (3, SV.v out_3), (4, .int .i64 i_4), (5, .int .i64 k_5)] M = thicketlaw12_cells.J2.T pr pts k l_0 out_3 i_4 k_5 R M := by kernel_rfl
theorem thicketlaw12_cells.J2.eq (pr : Prim) (k : Nat) (l_0 : SV) (out_3 : SV) (i_4 : Int) (k_5 : Int) (R : Value → Mem → Prop) (M : Mem) : thicketlaw12_cells.J2 (thicketlaw12_cells.pts pr R) k l_0 out_3 i_4 k_5 M = thicketlaw12_cells.J2.T pr (thicketlaw12_cells.pts pr R) k l_0 out_3 i_4 k_5 R M :=
  (ptsR_eq (b := true) (p := [true, false, false, true, false, false, true, false, true, true]) (ns := [k]) rfl _ _).trans (thicketlaw12_cells.J2.eqX pr (thicketlaw12_cells.pts pr R) k l_0 out_3 i_4 k_5 R M)
def thicketlaw12_cells.L3.T (pr : Prim) (pts : Pts) (k : Nat) (k' : Nat) (l_0 : SV) (out_3 : SV) (i_4 : Int) (k_5 : Int) (R : Value → Mem → Prop) (M : Mem) : Prop := bs (decide (k_5 > 0)) (nc out_3.a fun a48 => (0 ≤ (w64 (k_5 - 1)) ∧ (w64 (k_5 - 1)) < ((out_3.n : Nat) : Int)) ∧ ob (pr.ld 3 (a48.add ((w64 (k_5 - 1)).toNat * 1)) M) fun v49 => shI .i64 v49 fun n50 => nc l_0.a fun a51 => (0 ≤ i_4 ∧ i_4 < ((l_0.n : Nat) : Int)) ∧ ob (pr.ld 3 (a51.add (i_4.toNat * 3)) M) fun v52 => shI .i64 v52 fun n53 => bs (decide (n50 > n53)) (thicketlaw12_cells.L3 pts k k' l_0 out_3 i_4 (w64 (k_5 - 1)) M) (thicketlaw12_cells.J2 pts k l_0 out_3 i_4 k_5 M)) (thicketlaw12_cells.J2 pts k l_0 out_3 i_4 k_5 M)
theorem thicketlaw12_cells.L3.zero (pr : Prim) (k : Nat) (l_0 : SV) (out_3 : SV) (i_4 : Int) (k_5 : Int) (R : Value → Mem → Prop) (M : Mem) : thicketlaw12_cells.L3 (thicketlaw12_cells.pts pr R) k 0 l_0 out_3 i_4 k_5 M = False :=
  (ptsR_eq (b := false) (p := [false, false, true, false, false, true, false, false, true, false, true, true]) (ns := [0, k]) rfl _ _).trans (by kernel_rfl)
theorem thicketlaw12_cells.L3.eqX (pr : Prim) (pts : Pts) (k : Nat) (k' : Nat) (l_0 : SV) (out_3 : SV) (i_4 : Int) (k_5 : Int) (R : Value → Mem → Prop) (M : Mem) : bodyX PP pr pts thicketlaw12_cells.h (retH pr Try.f45.results.toList R) [false, false, false, true, false, false, true, false, false, true, false, true, true] [k' + 1, k] [(0, SV.v l_0), (3, SV.v out_3), (4, .int .i64 i_4), (5, .int .i64 k_5)] M = thicketlaw12_cells.L3.T pr pts k k' l_0 out_3 i_4 k_5 R M := by kernel_rfl
theorem thicketlaw12_cells.L3.succ (pr : Prim) (k : Nat) (k' : Nat) (l_0 : SV) (out_3 : SV) (i_4 : Int) (k_5 : Int) (R : Value → Mem → Prop) (M : Mem) : thicketlaw12_cells.L3 (thicketlaw12_cells.pts pr R) k (k' + 1) l_0 out_3 i_4 k_5 M = thicketlaw12_cells.L3.T pr (thicketlaw12_cells.pts pr R) k k' l_0 out_3 i_4 k_5 R M :=
  (ptsR_eq (b := false) (p := [false, false, true, false, false, true, false, false, true, false, true, true]) (ns := [k' + 1, k]) rfl _ _).trans (thicketlaw12_cells.L3.eqX pr (thicketlaw12_cells.pts pr R) k k' l_0 out_3 i_4 k_5 R M)
structure thicketlaw12_cells.Is (pr : Prim) (pts : Pts) (R : Value → Mem → Prop) : Prop where
  L1 : ∀ (k : Nat) (l_0 : SV) (out_3 : SV) (i_4 : Int) (M : Mem), thicketlaw12_cells.L1 pts (k + 1) l_0 out_3 i_4 M = thicketlaw12_cells.L1.T pr pts k l_0 out_3 i_4 R M
  J2 : ∀ (k : Nat) (l_0 : SV) (out_3 : SV) (i_4 : Int) (k_5 : Int) (M : Mem), thicketlaw12_cells.J2 pts k l_0 out_3 i_4 k_5 M = thicketlaw12_cells.J2.T pr pts k l_0 out_3 i_4 k_5 R M
  L3 : ∀ (k : Nat) (k' : Nat) (l_0 : SV) (out_3 : SV) (i_4 : Int) (k_5 : Int) (M : Mem), thicketlaw12_cells.L3 pts k (k' + 1) l_0 out_3 i_4 k_5 M = thicketlaw12_cells.L3.T pr pts k k' l_0 out_3 i_4 k_5 R M
theorem thicketlaw12_cells.is (pr : Prim) (R : Value → Mem → Prop) : thicketlaw12_cells.Is pr (thicketlaw12_cells.pts pr R) R := ⟨fun k l_0 out_3 i_4 M => thicketlaw12_cells.L1.succ pr k l_0 out_3 i_4 R M, fun k l_0 out_3 i_4 k_5 M => thicketlaw12_cells.J2.eq pr k l_0 out_3 i_4 k_5 R M, fun k k' l_0 out_3 i_4 k_5 M => thicketlaw12_cells.L3.succ pr k k' l_0 out_3 i_4 k_5 R M⟩
def thicketlaw12_cells.T (pr : Prim) (pts : Pts) (l : SV) (R : Value → Mem → Prop) (M : Mem) : Prop := ∃ k1, thicketlaw12_cells.L1 pts k1 l ⟨none, 0, 0⟩ 0 M
theorem thicketlaw12_cells.eqX (pr : Prim) (pts : Pts) (l : SV) (R : Value → Mem → Prop) (M : Mem) : wpX PP pr pts thicketlaw12_cells.h [] [] (retH pr Try.f45.results.toList R) (argEnv 0 [SV.v l]) M = thicketlaw12_cells.T pr pts l R M := by kernel_rfl
theorem thicketlaw12_cells.eq (pr : Prim) (l : SV) (R : Value → Mem → Prop) (M : Mem) : wpH PP pr thicketlaw12_cells.h (retH pr Try.f45.results.toList R) (argEnv 0 [SV.v l]) M = thicketlaw12_cells.T pr (thicketlaw12_cells.pts pr R) l R M := root_eq.trans (thicketlaw12_cells.eqX pr (thicketlaw12_cells.pts pr R) l R M)
theorem thicketlaw12_cells.fn : PP.funcs[Id.thicketlaw12_cells]? = some Try.f45 := Try.func45
theorem thicketlaw12_cells.can : callable PP Id.thicketlaw12_cells = true := by kernel_rfl
theorem thicketlaw12_cells.good : okH Try.f45.ntmps thicketlaw12_cells.h = true := by kernel_rfl
theorem thicketlaw12_cells.body : Try.f45.body = some ((Try.f45.body).getD .skip) := by kernel_rfl
theorem thicketlaw12_cells.size : (1 : Nat) ≤ Try.f45.ntmps := by decide
theorem thicketlaw12_cells.go (w0 : World) (l : SV) {R : Value → Mem → Prop} {M : Mem} (h : ∀ pts, thicketlaw12_cells.Is (std PP w0) pts R → thicketlaw12_cells.T (std PP w0) pts l R M) : C PP w0 Id.thicketlaw12_cells #[SV.v l] R M :=
  C_intro mixed thicketlaw12_cells.fn thicketlaw12_cells.body thicketlaw12_cells.can (annot_code _ _) thicketlaw12_cells.good thicketlaw12_cells.size ((thicketlaw12_cells.eq (std PP w0) l R M).mpr (h _ (thicketlaw12_cells.is _ _)))
end Go.Proofs.Ytbkicgfgpmekeaa.HL
