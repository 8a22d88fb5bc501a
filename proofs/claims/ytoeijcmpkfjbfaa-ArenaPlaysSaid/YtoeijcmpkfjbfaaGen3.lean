/-
  Printed by gen.py (a program of this work) out of Lean's own print of the program: what each function's code comes to over the heap logic; each equation is checked by the kernel.
-/
import Derived.Test.YtoeijcmpkfjbfaaGenId
set_option linter.unusedVariables false
set_option maxRecDepth 100000
namespace Go.Proofs.Ytoeijcmpkfjbfaa.HL
open Go.Proofs
-- thicket/thicketbook.Within
noncomputable def thicketbook_Within.h : HC := annot ((Try.f15.body).getD .skip) [([true], [0, 1, 2])]
abbrev thicketbook_Within.J1 (pts : Pts) (n_0 : Int) (lo_1 : Int) (hi_2 : Int) (M : Mem) : Prop := pts [true, true] [] [(0, .int .i64 n_0), (1, .int .i64 lo_1), (2, .int .i64 hi_2)] M
def thicketbook_Within.pts (pr : Prim) (R : Value → Mem → Prop) : Pts := ptsR PP pr thicketbook_Within.h (retH pr Try.f15.results.toList R)
def thicketbook_Within.J1.T (pr : Prim) (pts : Pts) (n_0 : Int) (lo_1 : Int) (hi_2 : Int) (R : Value → Mem → Prop) (M : Mem) : Prop := (IntKind.i64 = IntKind.i64 ∧ (w64 ((w64 (hi_2 - lo_1)) + 1)) ≠ 0 ∧ bs (decide ((Int.tmod n_0 (w64 ((w64 (hi_2 - lo_1)) + 1))) < 0)) (R (.int .i64 (w64 (lo_1 + (w64 ((w64 ((w64 ((Int.tmod n_0 (w64 ((w64 (hi_2 - lo_1)) + 1))) + hi_2)) - lo_1)) + 1))))) M) (R (.int .i64 (w64 (lo_1 + (Int.tmod n_0 (w64 ((w64 (hi_2 - lo_1)) + 1)))))) M))
theorem thicketbook_Within.J1.eqX (pr : Prim) (pts : Pts) (n_0 : Int) (lo_1 : Int) (hi_2 : Int) (R : Value → Mem → Prop) (M : Mem) : bodyX PP pr pts thicketbook_Within.h (retH pr Try.f15.results.toList R) [true, true] [] [(0, .int .i64 n_0), (1, .int .i64 lo_1), (2, .int .i64 hi_2)] M = thicketbook_Within.J1.T pr pts n_0 lo_1 hi_2 R M := by kernel_rfl
theorem thicketbook_Within.J1.eq (pr : Prim) (n_0 : Int) (lo_1 : Int) (hi_2 : Int) (R : Value → Mem → Prop) (M : Mem) : thicketbook_Within.J1 (thicketbook_Within.pts pr R) n_0 lo_1 hi_2 M = thicketbook_Within.J1.T pr (thicketbook_Within.pts pr R) n_0 lo_1 hi_2 R M :=
  (ptsR_eq (b := true) (p := [true]) (ns := []) rfl _ _).trans (thicketbook_Within.J1.eqX pr (thicketbook_Within.pts pr R) n_0 lo_1 hi_2 R M)
structure thicketbook_Within.Is (pr : Prim) (pts : Pts) (R : Value → Mem → Prop) : Prop where
  J1 : ∀ (n_0 : Int) (lo_1 : Int) (hi_2 : Int) (M : Mem), thicketbook_Within.J1 pts n_0 lo_1 hi_2 M = thicketbook_Within.J1.T pr pts n_0 lo_1 hi_2 R M
theorem thicketbook_Within.is (pr : Prim) (R : Value → Mem → Prop) : thicketbook_Within.Is pr (thicketbook_Within.pts pr R) R := ⟨fun n_0 lo_1 hi_2 M => thicketbook_Within.J1.eq pr n_0 lo_1 hi_2 R M⟩
def thicketbook_Within.T (pr : Prim) (pts : Pts) (n : Int) (lo : Int) (hi : Int) (R : Value → Mem → Prop) (M : Mem) : Prop := bs (decide (n ≥ lo)) (bs (decide (n ≤ hi)) (R (.int .i64 n) M) (thicketbook_Within.J1 pts n lo hi M)) (thicketbook_Within.J1 pts n lo hi M)
theorem thicketbook_Within.eqX (pr : Prim) (pts : Pts) (n : Int) (lo : Int) (hi : Int) (R : Value → Mem → Prop) (M : Mem) : wpX PP pr pts thicketbook_Within.h [] [] (retH pr Try.f15.results.toList R) (argEnv 0 [.int .i64 n, .int .i64 lo, .int .i64 hi]) M = thicketbook_Within.T pr pts n lo hi R M := by kernel_rfl
theorem thicketbook_Within.eq (pr : Prim) (n : Int) (lo : Int) (hi : Int) (R : Value → Mem → Prop) (M : Mem) : wpH PP pr thicketbook_Within.h (retH pr Try.f15.results.toList R) (argEnv 0 [.int .i64 n, .int .i64 lo, .int .i64 hi]) M = thicketbook_Within.T pr (thicketbook_Within.pts pr R) n lo hi R M := root_eq.trans (thicketbook_Within.eqX pr (thicketbook_Within.pts pr R) n lo hi R M)
theorem thicketbook_Within.fn : PP.funcs[Id.thicketbook_Within]? = some Try.f15 := Try.func15
theorem thicketbook_Within.can : callable PP Id.thicketbook_Within = true := by kernel_rfl
theorem thicketbook_Within.good : okH Try.f15.ntmps thicketbook_Within.h = true := by kernel_rfl
theorem thicketbook_Within.body : Try.f15.body = some ((Try.f15.body).getD .skip) := by kernel_rfl
theorem thicketbook_Within.size : (3 : Nat) ≤ Try.f15.ntmps := by decide
theorem thicketbook_Within.go (w0 : World) (n : Int) (lo : Int) (hi : Int) {R : Value → Mem → Prop} {M : Mem} (h : ∀ pts, thicketbook_Within.Is (std PP w0) pts R → thicketbook_Within.T (std PP w0) pts n lo hi R M) : C PP w0 Id.thicketbook_Within #[.int .i64 n, .int .i64 lo, .int .i64 hi] R M :=
  C_intro mixed thicketbook_Within.fn thicketbook_Within.body thicketbook_Within.can (annot_code _ _) thicketbook_Within.good thicketbook_Within.size ((thicketbook_Within.eq (std PP w0) n lo hi R M).mpr (h _ (thicketbook_Within.is _ _)))
-- (*thicket/arena.Arena).Give
noncomputable def arena_Arena_Give.h : HC := annot ((Try.f16.body).getD .skip) []
def arena_Arena_Give.T (pr : Prim) (a : Option Addr) (c : Int) (R : Value → Mem → Prop) (M : Mem) : Prop := nc a fun a1 => ob (pr.ld 39 (Addr.add a1 3) M) fun v2 => shP v2 fun p3 => pr.call Id.meter_Meter_Tick #[.pointer p3, .int .i64 1] (fun v4 M5 => pr.call Id.arena_Arena_Live #[.pointer a, .int .i64 c] (fun v6 M7 => shB v6 fun b8 => bs (!b8) (R (.bool false) M7) (nc a fun a9 => ob (pr.ld 69 a9 M7) fun v10 => shS v10 fun s11 => nc s11.a fun a12 => (0 ≤ c ∧ c < ((s11.n : Nat) : Int)) ∧ pr.st 4 (Addr.add (a12.add (c.toNat * 11)) 10) (.bool false) (fun M13 => nc a fun a14 => ob (pr.ld 44 (Addr.add a14 2) M13) fun v15 => shS v15 fun s16 => pr.bsl 44 1 [(0, .int .i64 c)] (fun v17 M18 => shS v17 fun s19 => pr.app #[44, 44] 44 [SV.v s16, SV.v s19] (fun v20 M21 => shS v20 fun s22 => nc a fun a23 => pr.st 44 (Addr.add a23 2) (SV.v s22) (fun M24 => R (.bool true) M24) M21) M18) M13) M7)) M5) M
theorem arena_Arena_Give.eqX (pr : Prim) (pts : Pts) (a : Option Addr) (c : Int) (R : Value → Mem → Prop) (M : Mem) : wpX PP pr pts arena_Arena_Give.h [] [] (retH pr Try.f16.results.toList R) (argEnv 0 [.pointer a, .int .i64 c]) M = arena_Arena_Give.T pr a c R M := by kernel_rfl
theorem arena_Arena_Give.eq (pr : Prim) (a : Option Addr) (c : Int) (R : Value → Mem → Prop) (M : Mem) : wpH PP pr arena_Arena_Give.h (retH pr Try.f16.results.toList R) (argEnv 0 [.pointer a, .int .i64 c]) M = arena_Arena_Give.T pr a c R M := root_eq.trans (arena_Arena_Give.eqX pr (ptsR PP pr arena_Arena_Give.h (retH pr Try.f16.results.toList R)) a c R M)
theorem arena_Arena_Give.fn : PP.funcs[Id.arena_Arena_Give]? = some Try.f16 := Try.func16
theorem arena_Arena_Give.can : callable PP Id.arena_Arena_Give = true := by kernel_rfl
theorem arena_Arena_Give.good : okH Try.f16.ntmps arena_Arena_Give.h = true := by kernel_rfl
theorem arena_Arena_Give.body : Try.f16.body = some ((Try.f16.body).getD .skip) := by kernel_rfl
theorem arena_Arena_Give.size : (2 : Nat) ≤ Try.f16.ntmps := by decide
theorem arena_Arena_Give.go (w0 : World) (a : Option Addr) (c : Int) {R : Value → Mem → Prop} {M : Mem} (h : arena_Arena_Give.T (std PP w0) a c R M) : C PP w0 Id.arena_Arena_Give #[.pointer a, .int .i64 c] R M :=
  C_intro mixed arena_Arena_Give.fn arena_Arena_Give.body arena_Arena_Give.can (annot_code _ _) arena_Arena_Give.good arena_Arena_Give.size ((arena_Arena_Give.eq (std PP w0) a c R M).mpr h)
-- (*thicket/arena.Arena).Take
noncomputable def arena_Arena_Take.h : HC := annot ((Try.f17.body).getD .skip) [([true, true, true], [0, 4])]
abbrev arena_Arena_Take.J1 (pts : Pts) (a_0 : Option Addr) (c_4 : Int) (M : Mem) : Prop := pts [true, true, true, true] [] [(0, .pointer a_0), (4, .int .i64 c_4)] M
def arena_Arena_Take.pts (pr : Prim) (R : Value → Mem → Prop) : Pts := ptsR PP pr arena_Arena_Take.h (retH pr Try.f17.results.toList R)
def arena_Arena_Take.J1.T (pr : Prim) (pts : Pts) (a_0 : Option Addr) (c_4 : Int) (R : Value → Mem → Prop) (M : Mem) : Prop := nc a_0 fun a31 => ob (pr.ld 69 a31 M) fun v32 => shS v32 fun s33 => pr.call Id.arena_fresh #[] (fun v34 M35 => shA v34 fun l36 => shCons l36 fun u37 r38 => shI .i64 u37 fun n39 => shCons r38 fun u40 r41 => shI .i64 u40 fun n42 => shCons r41 fun u43 r44 => shI .i64 u43 fun n45 => shCons r44 fun u46 r47 => shI .i64 u46 fun n48 => shCons r47 fun u49 r50 => shI .i64 u49 fun n51 => shCons r50 fun u52 r53 => shI .i64 u52 fun n54 => shCons r53 fun u55 r56 => shI .i64 u55 fun n57 => shCons r56 fun u58 r59 => shI .i64 u58 fun n60 => shCons r59 fun u61 r62 => shI .i64 u61 fun n63 => shCons r62 fun u64 r65 => shI .i64 u64 fun n66 => shCons r65 fun u67 r68 => shB u67 fun b69 => shNil r68 (nc s33.a fun a70 => (0 ≤ c_4 ∧ c_4 < ((s33.n : Nat) : Int)) ∧ (pr.ld 69 a31 M35 = some (SV.v s33)) ∧ pr.st 75 (a70.add (c_4.toNat * 11)) (.agg #[.int .i64 n39, .int .i64 n42, .int .i64 n45, .int .i64 n48, .int .i64 n51, .int .i64 n54, .int .i64 n57, .int .i64 n60, .int .i64 n63, .int .i64 n66, .bool b69]) (fun M71 => R (.tuple #[.int .i64 c_4, .bool true]) M71) M35)) M
theorem arena_Arena_Take.J1.eqX (pr : Prim) (pts : Pts) (a_0 : Option Addr) (c_4 : Int) (R : Value → Mem → Prop) (M : Mem) : bodyX PP pr pts arena_Arena_Take.h (retH pr Try.f17.results.toList R) [true, true, true, true] [] [(0, .pointer a_0), (4, .int .i64 c_4)] M = arena_Arena_Take.J1.T pr pts a_0 c_4 R M := by kernel_rfl
theorem arena_Arena_Take.J1.eq (pr : Prim) (a_0 : Option Addr) (c_4 : Int) (R : Value → Mem → Prop) (M : Mem) : arena_Arena_Take.J1 (arena_Arena_Take.pts pr R) a_0 c_4 M = arena_Arena_Take.J1.T pr (arena_Arena_Take.pts pr R) a_0 c_4 R M :=
  (ptsR_eq (b := true) (p := [true, true, true]) (ns := []) rfl _ _).trans (arena_Arena_Take.J1.eqX pr (arena_Arena_Take.pts pr R) a_0 c_4 R M)
structure arena_Arena_Take.Is (pr : Prim) (pts : Pts) (R : Value → Mem → Prop) : Prop where
  J1 : ∀ (a_0 : Option Addr) (c_4 : Int) (M : Mem), arena_Arena_Take.J1 pts a_0 c_4 M = arena_Arena_Take.J1.T pr pts a_0 c_4 R M
theorem arena_Arena_Take.is (pr : Prim) (R : Value → Mem → Prop) : arena_Arena_Take.Is pr (arena_Arena_Take.pts pr R) R := ⟨fun a_0 c_4 M => arena_Arena_Take.J1.eq pr a_0 c_4 R M⟩
def arena_Arena_Take.T (pr : Prim) (pts : Pts) (a : Option Addr) (R : Value → Mem → Prop) (M : Mem) : Prop := nc a fun a1 => ob (pr.ld 39 (Addr.add a1 3) M) fun v2 => shP v2 fun p3 => pr.call Id.meter_Meter_Tick #[.pointer p3, .int .i64 1] (fun v4 M5 => nc a fun a6 => ob (pr.ld 3 (Addr.add a6 1) M5) fun v7 => shI .i64 v7 fun n8 => nc a fun a9 => ob (pr.ld 44 (Addr.add a9 2) M5) fun v10 => shS v10 fun s11 => bs (decide ((w64 (((s11.n : Nat) : Int) - 1)) ≥ 0)) (nc a fun a12 => ob (pr.ld 44 (Addr.add a12 2) M5) fun v13 => shS v13 fun s14 => nc s14.a fun a15 => (0 ≤ (w64 (((s11.n : Nat) : Int) - 1)) ∧ (w64 (((s11.n : Nat) : Int) - 1)) < ((s14.n : Nat) : Int)) ∧ ob (pr.ld 3 (a15.add ((w64 (((s11.n : Nat) : Int) - 1)).toNat * 1)) M5) fun v16 => shI .i64 v16 fun n17 => nc a fun a18 => ob (pr.ld 44 (Addr.add a18 2) M5) fun v19 => shS v19 fun s20 => (0 ≤ (0 : Int) ∧ (0 : Int) ≤ (w64 (((s11.n : Nat) : Int) - 1)) ∧ (w64 (((s11.n : Nat) : Int) - 1)) ≤ ((s20.c : Nat) : Int)) ∧ nc a fun a21 => pr.st 44 (Addr.add a21 2) (.slice (if s20.c = (0 : Int).toNat then s20.a else s20.a.map (·.add ((0 : Int).toNat * 1))) ((w64 (((s11.n : Nat) : Int) - 1)).toNat - (0 : Int).toNat) (s20.c - (0 : Int).toNat)) (fun M22 => arena_Arena_Take.J1 pts a n17 M22) M5) (nc a fun a23 => ob (pr.ld 69 a23 M5) fun v24 => shS v24 fun s25 => bs (decide (n8 ≥ ((s25.n : Nat) : Int))) (R (.tuple #[.int .i64 (-1), .bool false]) M5) (nc a fun a26 => ob (pr.ld 3 (Addr.add a26 1) M5) fun v27 => shI .i64 v27 fun n28 => nc a fun a29 => pr.st 3 (Addr.add a29 1) (.int .i64 (w64 (n28 + 1))) (fun M30 => arena_Arena_Take.J1 pts a n8 M30) M5))) M
theorem arena_Arena_Take.eqX (pr : Prim) (pts : Pts) (a : Option Addr) (R : Value → Mem → Prop) (M : Mem) : wpX PP pr pts arena_Arena_Take.h [] [] (retH pr Try.f17.results.toList R) (argEnv 0 [.pointer a]) M = arena_Arena_Take.T pr pts a R M := by kernel_rfl
theorem arena_Arena_Take.eq (pr : Prim) (a : Option Addr) (R : Value → Mem → Prop) (M : Mem) : wpH PP pr arena_Arena_Take.h (retH pr Try.f17.results.toList R) (argEnv 0 [.pointer a]) M = arena_Arena_Take.T pr (arena_Arena_Take.pts pr R) a R M := root_eq.trans (arena_Arena_Take.eqX pr (arena_Arena_Take.pts pr R) a R M)
theorem arena_Arena_Take.fn : PP.funcs[Id.arena_Arena_Take]? = some Try.f17 := Try.func17
theorem arena_Arena_Take.can : callable PP Id.arena_Arena_Take = true := by kernel_rfl
theorem arena_Arena_Take.good : okH Try.f17.ntmps arena_Arena_Take.h = true := by kernel_rfl
theorem arena_Arena_Take.body : Try.f17.body = some ((Try.f17.body).getD .skip) := by kernel_rfl
theorem arena_Arena_Take.size : (1 : Nat) ≤ Try.f17.ntmps := by decide
theorem arena_Arena_Take.go (w0 : World) (a : Option Addr) {R : Value → Mem → Prop} {M : Mem} (h : ∀ pts, arena_Arena_Take.Is (std PP w0) pts R → arena_Arena_Take.T (std PP w0) pts a R M) : C PP w0 Id.arena_Arena_Take #[.pointer a] R M :=
  C_intro mixed arena_Arena_Take.fn arena_Arena_Take.body arena_Arena_Take.can (annot_code _ _) arena_Arena_Take.good arena_Arena_Take.size ((arena_Arena_Take.eq (std PP w0) a R M).mpr (h _ (arena_Arena_Take.is _ _)))
-- (*thicket/arena.Arena).Get
noncomputable def arena_Arena_Get.h : HC := annot ((Try.f18.body).getD .skip) []
def arena_Arena_Get.T (pr : Prim) (a : Option Addr) (c : Int) (field : Int) (R : Value → Mem → Prop) (M : Mem) : Prop := nc a fun a1 => ob (pr.ld 39 (Addr.add a1 3) M) fun v2 => shP v2 fun p3 => pr.call Id.meter_Meter_Tick #[.pointer p3, .int .i64 1] (fun v4 M5 => pr.call Id.arena_Arena_has #[.pointer a, .int .i64 c, .int .i64 field] (fun v6 M7 => shB v6 fun b8 => bs (!b8) (R (.int .i64 (-1)) M7) (nc a fun a9 => ob (pr.ld 69 a9 M7) fun v10 => shS v10 fun s11 => nc s11.a fun a12 => (0 ≤ c ∧ c < ((s11.n : Nat) : Int)) ∧ (0 ≤ field ∧ field < ((10 : Nat) : Int)) ∧ ob (pr.ld 2 (Addr.add (a12.add (c.toNat * 11)) (field.toNat * 1)) M7) fun v13 => shI .i64 v13 fun n14 => R (.int .i64 n14) M7)) M5) M
theorem arena_Arena_Get.eqX (pr : Prim) (pts : Pts) (a : Option Addr) (c : Int) (field : Int) (R : Value → Mem → Prop) (M : Mem) : wpX PP pr pts arena_Arena_Get.h [] [] (retH pr Try.f18.results.toList R) (argEnv 0 [.pointer a, .int .i64 c, .int .i64 field]) M = arena_Arena_Get.T pr a c field R M := by kernel_rfl
theorem arena_Arena_Get.eq (pr : Prim) (a : Option Addr) (c : Int) (field : Int) (R : Value → Mem → Prop) (M : Mem) : wpH PP pr arena_Arena_Get.h (retH pr Try.f18.results.toList R) (argEnv 0 [.pointer a, .int .i64 c, .int .i64 field]) M = arena_Arena_Get.T pr a c field R M := root_eq.trans (arena_Arena_Get.eqX pr (ptsR PP pr arena_Arena_Get.h (retH pr Try.f18.results.toList R)) a c field R M)
theorem arena_Arena_Get.fn : PP.funcs[Id.arena_Arena_Get]? = some Try.f18 := Try.func18
theorem arena_Arena_Get.can : callable PP Id.arena_Arena_Get = true := by kernel_rfl
theorem arena_Arena_Get.good : okH Try.f18.ntmps arena_Arena_Get.h = true := by kernel_rfl
theorem arena_Arena_Get.body : Try.f18.body = some ((Try.f18.body).getD .skip) := by kernel_rfl
theorem arena_Arena_Get.size : (3 : Nat) ≤ Try.f18.ntmps := by decide
theorem arena_Arena_Get.go (w0 : World) (a : Option Addr) (c : Int) (field : Int) {R : Value → Mem → Prop} {M : Mem} (h : arena_Arena_Get.T (std PP w0) a c field R M) : C PP w0 Id.arena_Arena_Get #[.pointer a, .int .i64 c, .int .i64 field] R M :=
  C_intro mixed arena_Arena_Get.fn arena_Arena_Get.body arena_Arena_Get.can (annot_code _ _) arena_Arena_Get.good arena_Arena_Get.size ((arena_Arena_Get.eq (std PP w0) a c field R M).mpr h)
-- (*thicket/arena.Arena).Set
noncomputable def arena_Arena_Set.h : HC := annot ((Try.f19.body).getD .skip) []
def arena_Arena_Set.T (pr : Prim) (a : Option Addr) (c : Int) (field : Int) (v : Int) (R : Value → Mem → Prop) (M : Mem) : Prop := nc a fun a1 => ob (pr.ld 39 (Addr.add a1 3) M) fun v2 => shP v2 fun p3 => pr.call Id.meter_Meter_Tick #[.pointer p3, .int .i64 1] (fun v4 M5 => pr.call Id.arena_Arena_has #[.pointer a, .int .i64 c, .int .i64 field] (fun v6 M7 => shB v6 fun b8 => bs (!b8) (R (.bool false) M7) (nc a fun a9 => ob (pr.ld 69 a9 M7) fun v10 => shS v10 fun s11 => nc s11.a fun a12 => (0 ≤ c ∧ c < ((s11.n : Nat) : Int)) ∧ (0 ≤ field ∧ field < ((10 : Nat) : Int)) ∧ pr.st 2 (Addr.add (a12.add (c.toNat * 11)) (field.toNat * 1)) (.int .i64 v) (fun M13 => R (.bool true) M13) M7)) M5) M
theorem arena_Arena_Set.eqX (pr : Prim) (pts : Pts) (a : Option Addr) (c : Int) (field : Int) (v : Int) (R : Value → Mem → Prop) (M : Mem) : wpX PP pr pts arena_Arena_Set.h [] [] (retH pr Try.f19.results.toList R) (argEnv 0 [.pointer a, .int .i64 c, .int .i64 field, .int .i64 v]) M = arena_Arena_Set.T pr a c field v R M := by kernel_rfl
theorem arena_Arena_Set.eq (pr : Prim) (a : Option Addr) (c : Int) (field : Int) (v : Int) (R : Value → Mem → Prop) (M : Mem) : wpH PP pr arena_Arena_Set.h (retH pr Try.f19.results.toList R) (argEnv 0 [.pointer a, .int .i64 c, .int .i64 field, .int .i64 v]) M = arena_Arena_Set.T pr a c field v R M := root_eq.trans (arena_Arena_Set.eqX pr (ptsR PP pr arena_Arena_Set.h (retH pr Try.f19.results.toList R)) a c field v R M)
theorem arena_Arena_Set.fn : PP.funcs[Id.arena_Arena_Set]? = some Try.f19 := Try.func19
theorem arena_Arena_Set.can : callable PP Id.arena_Arena_Set = true := by kernel_rfl
theorem arena_Arena_Set.good : okH Try.f19.ntmps arena_Arena_Set.h = true := by kernel_rfl
theorem arena_Arena_Set.body : Try.f19.body = some ((Try.f19.body).getD .skip) := by kernel_rfl
theorem arena_Arena_Set.size : (4 : Nat) ≤ Try.f19.ntmps := by decide
theorem arena_Arena_Set.go (w0 : World) (a : Option Addr) (c : Int) (field : Int) (v : Int) {R : Value → Mem → Prop} {M : Mem} (h : arena_Arena_Set.T (std PP w0) a c field v R M) : C PP w0 Id.arena_Arena_Set #[.pointer a, .int .i64 c, .int .i64 field, .int .i64 v] R M :=
  C_intro mixed arena_Arena_Set.fn arena_Arena_Set.body arena_Arena_Set.can (annot_code _ _) arena_Arena_Set.good arena_Arena_Set.size ((arena_Arena_Set.eq (std PP w0) a c field v R M).mpr h)
-- (*thicket/arena.Arena).Live
noncomputable def arena_Arena_Live.h : HC := annot ((Try.f20.body).getD .skip) []
def arena_Arena_Live.T (pr : Prim) (a : Option Addr) (c : Int) (R : Value → Mem → Prop) (M : Mem) : Prop := bs (decide (c ≥ 0)) (nc a fun a1 => ob (pr.ld 69 a1 M) fun v2 => shS v2 fun s3 => bs (decide (c < ((s3.n : Nat) : Int))) (nc a fun a4 => ob (pr.ld 69 a4 M) fun v5 => shS v5 fun s6 => nc s6.a fun a7 => (0 ≤ c ∧ c < ((s6.n : Nat) : Int)) ∧ ob (pr.ld 4 (Addr.add (a7.add (c.toNat * 11)) 10) M) fun v8 => shB v8 fun b9 => R (.bool b9) M) (R (.bool false) M)) (R (.bool false) M)
theorem arena_Arena_Live.eqX (pr : Prim) (pts : Pts) (a : Option Addr) (c : Int) (R : Value → Mem → Prop) (M : Mem) : wpX PP pr pts arena_Arena_Live.h [] [] (retH pr Try.f20.results.toList R) (argEnv 0 [.pointer a, .int .i64 c]) M = arena_Arena_Live.T pr a c R M := by kernel_rfl
theorem arena_Arena_Live.eq (pr : Prim) (a : Option Addr) (c : Int) (R : Value → Mem → Prop) (M : Mem) : wpH PP pr arena_Arena_Live.h (retH pr Try.f20.results.toList R) (argEnv 0 [.pointer a, .int .i64 c]) M = arena_Arena_Live.T pr a c R M := root_eq.trans (arena_Arena_Live.eqX pr (ptsR PP pr arena_Arena_Live.h (retH pr Try.f20.results.toList R)) a c R M)
theorem arena_Arena_Live.fn : PP.funcs[Id.arena_Arena_Live]? = some Try.f20 := Try.func20
theorem arena_Arena_Live.can : callable PP Id.arena_Arena_Live = true := by kernel_rfl
theorem arena_Arena_Live.good : okH Try.f20.ntmps arena_Arena_Live.h = true := by kernel_rfl
theorem arena_Arena_Live.body : Try.f20.body = some ((Try.f20.body).getD .skip) := by kernel_rfl
theorem arena_Arena_Live.size : (2 : Nat) ≤ Try.f20.ntmps := by decide
theorem arena_Arena_Live.go (w0 : World) (a : Option Addr) (c : Int) {R : Value → Mem → Prop} {M : Mem} (h : arena_Arena_Live.T (std PP w0) a c R M) : C PP w0 Id.arena_Arena_Live #[.pointer a, .int .i64 c] R M :=
  C_intro mixed arena_Arena_Live.fn arena_Arena_Live.body arena_Arena_Live.can (annot_code _ _) arena_Arena_Live.good arena_Arena_Live.size ((arena_Arena_Live.eq (std PP w0) a c R M).mpr h)
-- (*thicket/arena.Arena).Len
noncomputable def arena_Arena_Len.h : HC := annot ((Try.f21.body).getD .skip) []
def arena_Arena_Len.T (pr : Prim) (a : Option Addr) (R : Value → Mem → Prop) (M : Mem) : Prop := nc a fun a1 => ob (pr.ld 3 (Addr.add a1 1) M) fun v2 => shI .i64 v2 fun n3 => nc a fun a4 => ob (pr.ld 44 (Addr.add a4 2) M) fun v5 => shS v5 fun s6 => R (.int .i64 (w64 (n3 - ((s6.n : Nat) : Int)))) M
theorem arena_Arena_Len.eqX (pr : Prim) (pts : Pts) (a : Option Addr) (R : Value → Mem → Prop) (M : Mem) : wpX PP pr pts arena_Arena_Len.h [] [] (retH pr Try.f21.results.toList R) (argEnv 0 [.pointer a]) M = arena_Arena_Len.T pr a R M := by kernel_rfl
theorem arena_Arena_Len.eq (pr : Prim) (a : Option Addr) (R : Value → Mem → Prop) (M : Mem) : wpH PP pr arena_Arena_Len.h (retH pr Try.f21.results.toList R) (argEnv 0 [.pointer a]) M = arena_Arena_Len.T pr a R M := root_eq.trans (arena_Arena_Len.eqX pr (ptsR PP pr arena_Arena_Len.h (retH pr Try.f21.results.toList R)) a R M)
theorem arena_Arena_Len.fn : PP.funcs[Id.arena_Arena_Len]? = some Try.f21 := Try.func21
theorem arena_Arena_Len.can : callable PP Id.arena_Arena_Len = true := by kernel_rfl
theorem arena_Arena_Len.good : okH Try.f21.ntmps arena_Arena_Len.h = true := by kernel_rfl
theorem arena_Arena_Len.body : Try.f21.body = some ((Try.f21.body).getD .skip) := by kernel_rfl
theorem arena_Arena_Len.size : (1 : Nat) ≤ Try.f21.ntmps := by decide
theorem arena_Arena_Len.go (w0 : World) (a : Option Addr) {R : Value → Mem → Prop} {M : Mem} (h : arena_Arena_Len.T (std PP w0) a R M) : C PP w0 Id.arena_Arena_Len #[.pointer a] R M :=
  C_intro mixed arena_Arena_Len.fn arena_Arena_Len.body arena_Arena_Len.can (annot_code _ _) arena_Arena_Len.good arena_Arena_Len.size ((arena_Arena_Len.eq (std PP w0) a R M).mpr h)
-- thicket/thicketlaw5.known
noncomputable def thicketlaw5_known.h : HC := annot ((Try.f22.body).getD .skip) [([true, true], [1])]
abbrev thicketlaw5_known.J1 (pts : Pts) (a_1 : Option Addr) (M : Mem) : Prop := pts [true, true, true] [] [(1, .pointer a_1)] M
def thicketlaw5_known.pts (pr : Prim) (R : Value → Mem → Prop) : Pts := ptsR PP pr thicketlaw5_known.h (retH pr Try.f22.results.toList R)
def thicketlaw5_known.J1.T (pr : Prim) (pts : Pts) (a_1 : Option Addr) (R : Value → Mem → Prop) (M : Mem) : Prop := pr.call Id.arena_Arena_Take #[.pointer a_1] (fun v11 M12 => shT v11 fun l13 => shCons l13 fun u14 r15 => shI .i64 u14 fun n16 => shCons r15 fun u17 r18 => shB u17 fun b19 => shNil r18 (pr.call Id.arena_Arena_Take #[.pointer a_1] (fun v20 M21 => shT v20 fun l22 => shCons l22 fun u23 r24 => shI .i64 u23 fun n25 => shCons r24 fun u26 r27 => shB u26 fun b28 => shNil r27 (pr.call Id.arena_Arena_Take #[.pointer a_1] (fun v29 M30 => shT v29 fun l31 => shCons l31 fun u32 r33 => shI .i64 u32 fun n34 => shCons r33 fun u35 r36 => shB u35 fun b37 => shNil r36 (pr.call Id.arena_Arena_Get #[.pointer a_1, .int .i64 0, .int .i64 0] (fun v38 M39 => shI .i64 v38 fun n40 => bs ((n16 == 0)) (bs b19 (bs ((n25 == 1)) (bs b28 (bs ((n34 == (-1))) (bs (!b37) (bs ((n40 == (-1))) (pr.call Id.arena_Arena_Get #[.pointer a_1, .int .i64 0, .int .i64 7] (fun v41 M42 => shI .i64 v41 fun n43 => bs ((n43 == 0)) (pr.call Id.arena_Arena_Give #[.pointer a_1, .int .i64 0] (fun v44 M45 => shB v44 fun b46 => bs b46 (pr.call Id.arena_Arena_Meter #[.pointer a_1] (fun v47 M48 => shP v47 fun p49 => pr.call Id.meter_Meter_Steps #[.pointer p49] (fun v50 M51 => shI .i64 v50 fun n52 => bs ((n52 == 6)) (pr.call Id.arena_Arena_Len #[.pointer a_1] (fun v53 M54 => shI .i64 v53 fun n55 => R (.bool ((n55 == 1))) M54) M51) (R (.bool false) M51)) M48) M45) (R (.bool false) M45)) M42) (R (.bool false) M42)) M39) (R (.bool false) M39)) (R (.bool false) M39)) (R (.bool false) M39)) (R (.bool false) M39)) (R (.bool false) M39)) (R (.bool false) M39)) (R (.bool false) M39)) M30)) M21)) M12)) M
theorem thicketlaw5_known.J1.eqX (pr : Prim) (pts : Pts) (a_1 : Option Addr) (R : Value → Mem → Prop) (M : Mem) : bodyX PP pr pts thicketlaw5_known.h (retH pr Try.f22.results.toList R) [true, true, true] [] [(1, .pointer a_1)] M = thicketlaw5_known.J1.T pr pts a_1 R M := by kernel_rfl
theorem thicketlaw5_known.J1.eq (pr : Prim) (a_1 : Option Addr) (R : Value → Mem → Prop) (M : Mem) : thicketlaw5_known.J1 (thicketlaw5_known.pts pr R) a_1 M = thicketlaw5_known.J1.T pr (thicketlaw5_known.pts pr R) a_1 R M :=
  (ptsR_eq (b := true) (p := [true, true]) (ns := []) rfl _ _).trans (thicketlaw5_known.J1.eqX pr (thicketlaw5_known.pts pr R) a_1 R M)
structure thicketlaw5_known.Is (pr : Prim) (pts : Pts) (R : Value → Mem → Prop) : Prop where
  J1 : ∀ (a_1 : Option Addr) (M : Mem), thicketlaw5_known.J1 pts a_1 M = thicketlaw5_known.J1.T pr pts a_1 R M
theorem thicketlaw5_known.is (pr : Prim) (R : Value → Mem → Prop) : thicketlaw5_known.Is pr (thicketlaw5_known.pts pr R) R := ⟨fun a_1 M => thicketlaw5_known.J1.eq pr a_1 R M⟩
def thicketlaw5_known.T (pr : Prim) (pts : Pts) (R : Value → Mem → Prop) (M : Mem) : Prop := pr.call Id.arena_New #[.int .i64 2] (fun v1 M2 => shP v1 fun p3 => ob (pr.bq .eql 23 (.tmp 10) (.const (.pointer none)) (.pointer p3) (.pointer none)) fun v4 => shB v4 fun b5 => bs b5 (R (.bool false) M2) (pr.call Id.arena_Arena_Meter #[.pointer p3] (fun v6 M7 => shP v6 fun p8 => ob (pr.bq .eql 39 (.tmp 14) (.const (.pointer none)) (.pointer p8) (.pointer none)) fun v9 => shB v9 fun b10 => bs b10 (R (.bool false) M7) (thicketlaw5_known.J1 pts p3 M7)) M2)) M
theorem thicketlaw5_known.eqX (pr : Prim) (pts : Pts) (R : Value → Mem → Prop) (M : Mem) : wpX PP pr pts thicketlaw5_known.h [] [] (retH pr Try.f22.results.toList R) (argEnv 0 []) M = thicketlaw5_known.T pr pts R M := by kernel_rfl
theorem thicketlaw5_known.eq (pr : Prim) (R : Value → Mem → Prop) (M : Mem) : wpH PP pr thicketlaw5_known.h (retH pr Try.f22.results.toList R) (argEnv 0 []) M = thicketlaw5_known.T pr (thicketlaw5_known.pts pr R) R M := root_eq.trans (thicketlaw5_known.eqX pr (thicketlaw5_known.pts pr R) R M)
theorem thicketlaw5_known.fn : PP.funcs[Id.thicketlaw5_known]? = some Try.f22 := Try.func22
theorem thicketlaw5_known.can : callable PP Id.thicketlaw5_known = true := by kernel_rfl
theorem thicketlaw5_known.good : okH Try.f22.ntmps thicketlaw5_known.h = true := by kernel_rfl
theorem thicketlaw5_known.body : Try.f22.body = some ((Try.f22.body).getD .skip) := by kernel_rfl
theorem thicketlaw5_known.size : (0 : Nat) ≤ Try.f22.ntmps := by decide
theorem thicketlaw5_known.go (w0 : World) {R : Value → Mem → Prop} {M : Mem} (h : ∀ pts, thicketlaw5_known.Is (std PP w0) pts R → thicketlaw5_known.T (std PP w0) pts R M) : C PP w0 Id.thicketlaw5_known #[] R M :=
  C_intro mixed thicketlaw5_known.fn thicketlaw5_known.body thicketlaw5_known.can (annot_code _ _) thicketlaw5_known.good thicketlaw5_known.size ((thicketlaw5_known.eq (std PP w0) R M).mpr (h _ (thicketlaw5_known.is _ _)))
-- (*thicket/arena.Arena).Meter
noncomputable def arena_Arena_Meter.h : HC := annot ((Try.f23.body).getD .skip) []
def arena_Arena_Meter.T (pr : Prim) (a : Option Addr) (R : Value → Mem → Prop) (M : Mem) : Prop := nc a fun a1 => ob (pr.ld 39 (Addr.add a1 3) M) fun v2 => shP v2 fun p3 => R (.pointer p3) M
theorem arena_Arena_Meter.eqX (pr : Prim) (pts : Pts) (a : Option Addr) (R : Value → Mem → Prop) (M : Mem) : wpX PP pr pts arena_Arena_Meter.h [] [] (retH pr Try.f23.results.toList R) (argEnv 0 [.pointer a]) M = arena_Arena_Meter.T pr a R M := by kernel_rfl
theorem arena_Arena_Meter.eq (pr : Prim) (a : Option Addr) (R : Value → Mem → Prop) (M : Mem) : wpH PP pr arena_Arena_Meter.h (retH pr Try.f23.results.toList R) (argEnv 0 [.pointer a]) M = arena_Arena_Meter.T pr a R M := root_eq.trans (arena_Arena_Meter.eqX pr (ptsR PP pr arena_Arena_Meter.h (retH pr Try.f23.results.toList R)) a R M)
theorem arena_Arena_Meter.fn : PP.funcs[Id.arena_Arena_Meter]? = some Try.f23 := Try.func23
theorem arena_Arena_Meter.can : callable PP Id.arena_Arena_Meter = true := by kernel_rfl
theorem arena_Arena_Meter.good : okH Try.f23.ntmps arena_Arena_Meter.h = true := by kernel_rfl
theorem arena_Arena_Meter.body : Try.f23.body = some ((Try.f23.body).getD .skip) := by kernel_rfl
theorem arena_Arena_Meter.size : (1 : Nat) ≤ Try.f23.ntmps := by decide
theorem arena_Arena_Meter.go (w0 : World) (a : Option Addr) {R : Value → Mem → Prop} {M : Mem} (h : arena_Arena_Meter.T (std PP w0) a R M) : C PP w0 Id.arena_Arena_Meter #[.pointer a] R M :=
  C_intro mixed arena_Arena_Meter.fn arena_Arena_Meter.body arena_Arena_Meter.can (annot_code _ _) arena_Arena_Meter.good arena_Arena_Meter.size ((arena_Arena_Meter.eq (std PP w0) a R M).mpr h)
-- (*thicket/meter.Meter).Steps
noncomputable def meter_Meter_Steps.h : HC := annot ((Try.f24.body).getD .skip) []
def meter_Meter_Steps.T (pr : Prim) (m : Option Addr) (R : Value → Mem → Prop) (M : Mem) : Prop := nc m fun a1 => ob (pr.ld 2 a1 M) fun v2 => shI .i64 v2 fun n3 => R (.int .i64 n3) M
theorem meter_Meter_Steps.eqX (pr : Prim) (pts : Pts) (m : Option Addr) (R : Value → Mem → Prop) (M : Mem) : wpX PP pr pts meter_Meter_Steps.h [] [] (retH pr Try.f24.results.toList R) (argEnv 0 [.pointer m]) M = meter_Meter_Steps.T pr m R M := by kernel_rfl
theorem meter_Meter_Steps.eq (pr : Prim) (m : Option Addr) (R : Value → Mem → Prop) (M : Mem) : wpH PP pr meter_Meter_Steps.h (retH pr Try.f24.results.toList R) (argEnv 0 [.pointer m]) M = meter_Meter_Steps.T pr m R M := root_eq.trans (meter_Meter_Steps.eqX pr (ptsR PP pr meter_Meter_Steps.h (retH pr Try.f24.results.toList R)) m R M)
theorem meter_Meter_Steps.fn : PP.funcs[Id.meter_Meter_Steps]? = some Try.f24 := Try.func24
theorem meter_Meter_Steps.can : callable PP Id.meter_Meter_Steps = true := by kernel_rfl
theorem meter_Meter_Steps.good : okH Try.f24.ntmps meter_Meter_Steps.h = true := by kernel_rfl
theorem meter_Meter_Steps.body : Try.f24.body = some ((Try.f24.body).getD .skip) := by kernel_rfl
theorem meter_Meter_Steps.size : (1 : Nat) ≤ Try.f24.ntmps := by decide
theorem meter_Meter_Steps.go (w0 : World) (m : Option Addr) {R : Value → Mem → Prop} {M : Mem} (h : meter_Meter_Steps.T (std PP w0) m R M) : C PP w0 Id.meter_Meter_Steps #[.pointer m] R M :=
  C_intro mixed meter_Meter_Steps.fn meter_Meter_Steps.body meter_Meter_Steps.can (annot_code _ _) meter_Meter_Steps.good meter_Meter_Steps.size ((meter_Meter_Steps.eq (std PP w0) m R M).mpr h)
-- (*thicket/arena.Arena).Cell
noncomputable def arena_Arena_Cell.h : HC := annot ((Try.f25.body).getD .skip) []
def arena_Arena_Cell.T (pr : Prim) (a : Option Addr) (c : Int) (field : Int) (R : Value → Mem → Prop) (M : Mem) : Prop := pr.call Id.arena_Arena_Get #[.pointer a, .int .i64 c, .int .i64 field] (fun v1 M2 => shI .i64 v1 fun n3 => bs (decide (n3 < 0)) (R (.int .i64 (-1)) M2) (nc a fun a4 => ob (pr.ld 69 a4 M2) fun v5 => shS v5 fun s6 => bs (decide (n3 ≥ ((s6.n : Nat) : Int))) (R (.int .i64 (-1)) M2) (R (.int .i64 n3) M2))) M
theorem arena_Arena_Cell.eqX (pr : Prim) (pts : Pts) (a : Option Addr) (c : Int) (field : Int) (R : Value → Mem → Prop) (M : Mem) : wpX PP pr pts arena_Arena_Cell.h [] [] (retH pr Try.f25.results.toList R) (argEnv 0 [.pointer a, .int .i64 c, .int .i64 field]) M = arena_Arena_Cell.T pr a c field R M := by kernel_rfl
theorem arena_Arena_Cell.eq (pr : Prim) (a : Option Addr) (c : Int) (field : Int) (R : Value → Mem → Prop) (M : Mem) : wpH PP pr arena_Arena_Cell.h (retH pr Try.f25.results.toList R) (argEnv 0 [.pointer a, .int .i64 c, .int .i64 field]) M = arena_Arena_Cell.T pr a c field R M := root_eq.trans (arena_Arena_Cell.eqX pr (ptsR PP pr arena_Arena_Cell.h (retH pr Try.f25.results.toList R)) a c field R M)
theorem arena_Arena_Cell.fn : PP.funcs[Id.arena_Arena_Cell]? = some Try.f25 := Try.func25
theorem arena_Arena_Cell.can : callable PP Id.arena_Arena_Cell = true := by kernel_rfl
theorem arena_Arena_Cell.good : okH Try.f25.ntmps arena_Arena_Cell.h = true := by kernel_rfl
theorem arena_Arena_Cell.body : Try.f25.body = some ((Try.f25.body).getD .skip) := by kernel_rfl
theorem arena_Arena_Cell.size : (3 : Nat) ≤ Try.f25.ntmps := by decide
theorem arena_Arena_Cell.go (w0 : World) (a : Option Addr) (c : Int) (field : Int) {R : Value → Mem → Prop} {M : Mem} (h : arena_Arena_Cell.T (std PP w0) a c field R M) : C PP w0 Id.arena_Arena_Cell #[.pointer a, .int .i64 c, .int .i64 field] R M :=
  C_intro mixed arena_Arena_Cell.fn arena_Arena_Cell.body arena_Arena_Cell.can (annot_code _ _) arena_Arena_Cell.good arena_Arena_Cell.size ((arena_Arena_Cell.eq (std PP w0) a c field R M).mpr h)
end Go.Proofs.Ytoeijcmpkfjbfaa.HL
