/-
  Printed by gen.py (a program of this work) out of Lean's own print of the program: what each function's code comes to over the heap logic; each equation is checked by the kernel.
-/
import Derived.Test.YtkibecgakkhljaaGenId
set_option linter.unusedVariables false
set_option maxRecDepth 100000
namespace Go.Proofs.Ytkibecgakkhljaa.HL
open Go.Proofs
-- thicket/clock.New
noncomputable def clock_New.h : HC := annot ((Try.f14.body).getD .skip) []
def clock_New.T (pr : Prim) (R : Value → Mem → Prop) (M : Mem) : Prop := ob (pr.bld 56 []) fun v1 => shA v1 fun l2 => shCons l2 fun u3 r4 => shI .i64 u3 fun n5 => shNil r4 (pr.nw [.int .i64 n5] 56 (fun b6 M7 => R (.pointer (some ⟨b6, 0, none⟩)) M7) M)
theorem clock_New.eqX (pr : Prim) (pts : Pts) (R : Value → Mem → Prop) (M : Mem) : wpX PP pr pts clock_New.h [] [] (retH pr Try.f14.results.toList R) (argEnv 0 []) M = clock_New.T pr R M := by kernel_rfl
theorem clock_New.eq (pr : Prim) (R : Value → Mem → Prop) (M : Mem) : wpH PP pr clock_New.h (retH pr Try.f14.results.toList R) (argEnv 0 []) M = clock_New.T pr R M := root_eq.trans (clock_New.eqX pr (ptsR PP pr clock_New.h (retH pr Try.f14.results.toList R)) R M)
theorem clock_New.fn : PP.funcs[Id.clock_New]? = some Try.f14 := Try.func14
theorem clock_New.can : callable PP Id.clock_New = true := by kernel_rfl
theorem clock_New.good : okH Try.f14.ntmps clock_New.h = true := by kernel_rfl
theorem clock_New.body : Try.f14.body = some ((Try.f14.body).getD .skip) := by kernel_rfl
theorem clock_New.size : (0 : Nat) ≤ Try.f14.ntmps := by decide
theorem clock_New.go (w0 : World) {R : Value → Mem → Prop} {M : Mem} (h : clock_New.T (std PP w0) R M) : C PP w0 Id.clock_New #[] R M :=
  C_intro mixed clock_New.fn clock_New.body clock_New.can (annot_code _ _) clock_New.good clock_New.size ((clock_New.eq (std PP w0) R M).mpr h)
-- (*thicket/clock.Clock).Go
noncomputable def clock_Clock_Go.h : HC := annot ((Try.f15.body).getD .skip) []
def clock_Clock_Go.T (pr : Prim) (c : Option Addr) (by_1 : Int) (R : Value → Mem → Prop) (M : Mem) : Prop := bs (decide (by_1 < 0)) (R (.int .i64 1) M) (nc c fun a1 => ob (pr.ld 2 a1 M) fun v2 => shI .i64 v2 fun n3 => pr.call Id.order_Add #[.int .i64 n3, .int .i64 by_1] (fun v4 M5 => shI .i64 v4 fun n6 => nc c fun a7 => pr.st 2 a7 (.int .i64 n6) (fun M8 => R (.int .i64 0) M8) M5) M)
theorem clock_Clock_Go.eqX (pr : Prim) (pts : Pts) (c : Option Addr) (by_1 : Int) (R : Value → Mem → Prop) (M : Mem) : wpX PP pr pts clock_Clock_Go.h [] [] (retH pr Try.f15.results.toList R) (argEnv 0 [.pointer c, .int .i64 by_1]) M = clock_Clock_Go.T pr c by_1 R M := by kernel_rfl
theorem clock_Clock_Go.eq (pr : Prim) (c : Option Addr) (by_1 : Int) (R : Value → Mem → Prop) (M : Mem) : wpH PP pr clock_Clock_Go.h (retH pr Try.f15.results.toList R) (argEnv 0 [.pointer c, .int .i64 by_1]) M = clock_Clock_Go.T pr c by_1 R M := root_eq.trans (clock_Clock_Go.eqX pr (ptsR PP pr clock_Clock_Go.h (retH pr Try.f15.results.toList R)) c by_1 R M)
theorem clock_Clock_Go.fn : PP.funcs[Id.clock_Clock_Go]? = some Try.f15 := Try.func15
theorem clock_Clock_Go.can : callable PP Id.clock_Clock_Go = true := by kernel_rfl
theorem clock_Clock_Go.good : okH Try.f15.ntmps clock_Clock_Go.h = true := by kernel_rfl
theorem clock_Clock_Go.body : Try.f15.body = some ((Try.f15.body).getD .skip) := by kernel_rfl
theorem clock_Clock_Go.size : (2 : Nat) ≤ Try.f15.ntmps := by decide
theorem clock_Clock_Go.go (w0 : World) (c : Option Addr) (by_1 : Int) {R : Value → Mem → Prop} {M : Mem} (h : clock_Clock_Go.T (std PP w0) c by_1 R M) : C PP w0 Id.clock_Clock_Go #[.pointer c, .int .i64 by_1] R M :=
  C_intro mixed clock_Clock_Go.fn clock_Clock_Go.body clock_Clock_Go.can (annot_code _ _) clock_Clock_Go.good clock_Clock_Go.size ((clock_Clock_Go.eq (std PP w0) c by_1 R M).mpr h)
-- thicket/thicketref1.Add
noncomputable def thicketref1_Add.h : HC := annot ((Try.f16.body).getD .skip) [([true], [0, 1])]
abbrev thicketref1_Add.J1 (pts : Pts) (a_0 : Int) (b_1 : Int) (M : Mem) : Prop := pts [true, true] [] [(0, .int .i64 a_0), (1, .int .i64 b_1)] M
def thicketref1_Add.pts (pr : Prim) (R : Value → Mem → Prop) : Pts := ptsR PP pr thicketref1_Add.h (retH pr Try.f16.results.toList R)
def thicketref1_Add.J1.T (pr : Prim) (pts : Pts) (a_0 : Int) (b_1 : Int) (R : Value → Mem → Prop) (M : Mem) : Prop := bs (decide (a_0 < 0)) (bs (decide (b_1 < (w64 ((-9223372036854775808) - a_0)))) (R (.int .i64 (-9223372036854775808)) M) (R (.int .i64 (w64 (a_0 + b_1))) M)) (R (.int .i64 (w64 (a_0 + b_1))) M)
theorem thicketref1_Add.J1.eqX (pr : Prim) (pts : Pts) (a_0 : Int) (b_1 : Int) (R : Value → Mem → Prop) (M : Mem) : bodyX PP pr pts thicketref1_Add.h (retH pr Try.f16.results.toList R) [true, true] [] [(0, .int .i64 a_0), (1, .int .i64 b_1)] M = thicketref1_Add.J1.T pr pts a_0 b_1 R M := by kernel_rfl
theorem thicketref1_Add.J1.eq (pr : Prim) (a_0 : Int) (b_1 : Int) (R : Value → Mem → Prop) (M : Mem) : thicketref1_Add.J1 (thicketref1_Add.pts pr R) a_0 b_1 M = thicketref1_Add.J1.T pr (thicketref1_Add.pts pr R) a_0 b_1 R M :=
  (ptsR_eq (b := true) (p := [true]) (ns := []) rfl _ _).trans (thicketref1_Add.J1.eqX pr (thicketref1_Add.pts pr R) a_0 b_1 R M)
structure thicketref1_Add.Is (pr : Prim) (pts : Pts) (R : Value → Mem → Prop) : Prop where
  J1 : ∀ (a_0 : Int) (b_1 : Int) (M : Mem), thicketref1_Add.J1 pts a_0 b_1 M = thicketref1_Add.J1.T pr pts a_0 b_1 R M
theorem thicketref1_Add.is (pr : Prim) (R : Value → Mem → Prop) : thicketref1_Add.Is pr (thicketref1_Add.pts pr R) R := ⟨fun a_0 b_1 M => thicketref1_Add.J1.eq pr a_0 b_1 R M⟩
def thicketref1_Add.T (pr : Prim) (pts : Pts) (a : Int) (b : Int) (R : Value → Mem → Prop) (M : Mem) : Prop := bs (decide (a > 0)) (bs (decide (b > (w64 (9223372036854775807 - a)))) (R (.int .i64 9223372036854775807) M) (thicketref1_Add.J1 pts a b M)) (thicketref1_Add.J1 pts a b M)
theorem thicketref1_Add.eqX (pr : Prim) (pts : Pts) (a : Int) (b : Int) (R : Value → Mem → Prop) (M : Mem) : wpX PP pr pts thicketref1_Add.h [] [] (retH pr Try.f16.results.toList R) (argEnv 0 [.int .i64 a, .int .i64 b]) M = thicketref1_Add.T pr pts a b R M := by kernel_rfl
theorem thicketref1_Add.eq (pr : Prim) (a : Int) (b : Int) (R : Value → Mem → Prop) (M : Mem) : wpH PP pr thicketref1_Add.h (retH pr Try.f16.results.toList R) (argEnv 0 [.int .i64 a, .int .i64 b]) M = thicketref1_Add.T pr (thicketref1_Add.pts pr R) a b R M := root_eq.trans (thicketref1_Add.eqX pr (thicketref1_Add.pts pr R) a b R M)
theorem thicketref1_Add.fn : PP.funcs[Id.thicketref1_Add]? = some Try.f16 := Try.func16
theorem thicketref1_Add.can : callable PP Id.thicketref1_Add = true := by kernel_rfl
theorem thicketref1_Add.good : okH Try.f16.ntmps thicketref1_Add.h = true := by kernel_rfl
theorem thicketref1_Add.body : Try.f16.body = some ((Try.f16.body).getD .skip) := by kernel_rfl
theorem thicketref1_Add.size : (2 : Nat) ≤ Try.f16.ntmps := by decide
theorem thicketref1_Add.go (w0 : World) (a : Int) (b : Int) {R : Value → Mem → Prop} {M : Mem} (h : ∀ pts, thicketref1_Add.Is (std PP w0) pts R → thicketref1_Add.T (std PP w0) pts a b R M) : C PP w0 Id.thicketref1_Add #[.int .i64 a, .int .i64 b] R M :=
  C_intro mixed thicketref1_Add.fn thicketref1_Add.body thicketref1_Add.can (annot_code _ _) thicketref1_Add.good thicketref1_Add.size ((thicketref1_Add.eq (std PP w0) a b R M).mpr (h _ (thicketref1_Add.is _ _)))
-- (*thicket/clock.Clock).Due
noncomputable def clock_Clock_Due.h : HC := annot ((Try.f17.body).getD .skip) []
def clock_Clock_Due.T (pr : Prim) (c : Option Addr) (at_1 : Int) (R : Value → Mem → Prop) (M : Mem) : Prop := nc c fun a1 => ob (pr.ld 2 a1 M) fun v2 => shI .i64 v2 fun n3 => R (.bool (decide (at_1 ≤ n3))) M
theorem clock_Clock_Due.eqX (pr : Prim) (pts : Pts) (c : Option Addr) (at_1 : Int) (R : Value → Mem → Prop) (M : Mem) : wpX PP pr pts clock_Clock_Due.h [] [] (retH pr Try.f17.results.toList R) (argEnv 0 [.pointer c, .int .i64 at_1]) M = clock_Clock_Due.T pr c at_1 R M := by kernel_rfl
theorem clock_Clock_Due.eq (pr : Prim) (c : Option Addr) (at_1 : Int) (R : Value → Mem → Prop) (M : Mem) : wpH PP pr clock_Clock_Due.h (retH pr Try.f17.results.toList R) (argEnv 0 [.pointer c, .int .i64 at_1]) M = clock_Clock_Due.T pr c at_1 R M := root_eq.trans (clock_Clock_Due.eqX pr (ptsR PP pr clock_Clock_Due.h (retH pr Try.f17.results.toList R)) c at_1 R M)
theorem clock_Clock_Due.fn : PP.funcs[Id.clock_Clock_Due]? = some Try.f17 := Try.func17
theorem clock_Clock_Due.can : callable PP Id.clock_Clock_Due = true := by kernel_rfl
theorem clock_Clock_Due.good : okH Try.f17.ntmps clock_Clock_Due.h = true := by kernel_rfl
theorem clock_Clock_Due.body : Try.f17.body = some ((Try.f17.body).getD .skip) := by kernel_rfl
theorem clock_Clock_Due.size : (2 : Nat) ≤ Try.f17.ntmps := by decide
theorem clock_Clock_Due.go (w0 : World) (c : Option Addr) (at_1 : Int) {R : Value → Mem → Prop} {M : Mem} (h : clock_Clock_Due.T (std PP w0) c at_1 R M) : C PP w0 Id.clock_Clock_Due #[.pointer c, .int .i64 at_1] R M :=
  C_intro mixed clock_Clock_Due.fn clock_Clock_Due.body clock_Clock_Due.can (annot_code _ _) clock_Clock_Due.good clock_Clock_Due.size ((clock_Clock_Due.eq (std PP w0) c at_1 R M).mpr h)
-- (*thicket/clock.Clock).Left
noncomputable def clock_Clock_Left.h : HC := annot ((Try.f18.body).getD .skip) []
def clock_Clock_Left.T (pr : Prim) (c : Option Addr) (at_1 : Int) (R : Value → Mem → Prop) (M : Mem) : Prop := pr.call Id.clock_Clock_Due #[.pointer c, .int .i64 at_1] (fun v1 M2 => shB v1 fun b3 => bs b3 (R (.int .i64 0) M2) (nc c fun a4 => ob (pr.ld 2 a4 M2) fun v5 => shI .i64 v5 fun n6 => R (.int .i64 (w64 (at_1 - n6))) M2)) M
theorem clock_Clock_Left.eqX (pr : Prim) (pts : Pts) (c : Option Addr) (at_1 : Int) (R : Value → Mem → Prop) (M : Mem) : wpX PP pr pts clock_Clock_Left.h [] [] (retH pr Try.f18.results.toList R) (argEnv 0 [.pointer c, .int .i64 at_1]) M = clock_Clock_Left.T pr c at_1 R M := by kernel_rfl
theorem clock_Clock_Left.eq (pr : Prim) (c : Option Addr) (at_1 : Int) (R : Value → Mem → Prop) (M : Mem) : wpH PP pr clock_Clock_Left.h (retH pr Try.f18.results.toList R) (argEnv 0 [.pointer c, .int .i64 at_1]) M = clock_Clock_Left.T pr c at_1 R M := root_eq.trans (clock_Clock_Left.eqX pr (ptsR PP pr clock_Clock_Left.h (retH pr Try.f18.results.toList R)) c at_1 R M)
theorem clock_Clock_Left.fn : PP.funcs[Id.clock_Clock_Left]? = some Try.f18 := Try.func18
theorem clock_Clock_Left.can : callable PP Id.clock_Clock_Left = true := by kernel_rfl
theorem clock_Clock_Left.good : okH Try.f18.ntmps clock_Clock_Left.h = true := by kernel_rfl
theorem clock_Clock_Left.body : Try.f18.body = some ((Try.f18.body).getD .skip) := by kernel_rfl
theorem clock_Clock_Left.size : (2 : Nat) ≤ Try.f18.ntmps := by decide
theorem clock_Clock_Left.go (w0 : World) (c : Option Addr) (at_1 : Int) {R : Value → Mem → Prop} {M : Mem} (h : clock_Clock_Left.T (std PP w0) c at_1 R M) : C PP w0 Id.clock_Clock_Left #[.pointer c, .int .i64 at_1] R M :=
  C_intro mixed clock_Clock_Left.fn clock_Clock_Left.body clock_Clock_Left.can (annot_code _ _) clock_Clock_Left.good clock_Clock_Left.size ((clock_Clock_Left.eq (std PP w0) c at_1 R M).mpr h)
-- (*thicket/clock.Clock).Now
noncomputable def clock_Clock_Now.h : HC := annot ((Try.f19.body).getD .skip) []
def clock_Clock_Now.T (pr : Prim) (c : Option Addr) (R : Value → Mem → Prop) (M : Mem) : Prop := nc c fun a1 => ob (pr.ld 2 a1 M) fun v2 => shI .i64 v2 fun n3 => R (.int .i64 n3) M
theorem clock_Clock_Now.eqX (pr : Prim) (pts : Pts) (c : Option Addr) (R : Value → Mem → Prop) (M : Mem) : wpX PP pr pts clock_Clock_Now.h [] [] (retH pr Try.f19.results.toList R) (argEnv 0 [.pointer c]) M = clock_Clock_Now.T pr c R M := by kernel_rfl
theorem clock_Clock_Now.eq (pr : Prim) (c : Option Addr) (R : Value → Mem → Prop) (M : Mem) : wpH PP pr clock_Clock_Now.h (retH pr Try.f19.results.toList R) (argEnv 0 [.pointer c]) M = clock_Clock_Now.T pr c R M := root_eq.trans (clock_Clock_Now.eqX pr (ptsR PP pr clock_Clock_Now.h (retH pr Try.f19.results.toList R)) c R M)
theorem clock_Clock_Now.fn : PP.funcs[Id.clock_Clock_Now]? = some Try.f19 := Try.func19
theorem clock_Clock_Now.can : callable PP Id.clock_Clock_Now = true := by kernel_rfl
theorem clock_Clock_Now.good : okH Try.f19.ntmps clock_Clock_Now.h = true := by kernel_rfl
theorem clock_Clock_Now.body : Try.f19.body = some ((Try.f19.body).getD .skip) := by kernel_rfl
theorem clock_Clock_Now.size : (1 : Nat) ≤ Try.f19.ntmps := by decide
theorem clock_Clock_Now.go (w0 : World) (c : Option Addr) {R : Value → Mem → Prop} {M : Mem} (h : clock_Clock_Now.T (std PP w0) c R M) : C PP w0 Id.clock_Clock_Now #[.pointer c] R M :=
  C_intro mixed clock_Clock_Now.fn clock_Clock_Now.body clock_Clock_Now.can (annot_code _ _) clock_Clock_Now.good clock_Clock_Now.size ((clock_Clock_Now.eq (std PP w0) c R M).mpr h)
-- thicket/skewnum.Inc
noncomputable def skewnum_Inc.h : HC := annot ((Try.f20.body).getD .skip) []
def skewnum_Inc.T (pr : Prim) (l : SV) (R : Value → Mem → Prop) (M : Mem) : Prop := pr.call Id.skewnum_Right #[SV.v l] (fun v1 M2 => shB v1 fun b3 => bs (!b3) (R (.slice none 0 0) M2) (bs (decide (((l.n : Nat) : Int) > 1)) (nc l.a fun a4 => (0 ≤ (0 : Int) ∧ (0 : Int) < ((l.n : Nat) : Int)) ∧ ob (pr.ld 3 (a4.add ((0 : Int).toNat * 1)) M2) fun v5 => shI .i64 v5 fun n6 => nc l.a fun a7 => (0 ≤ (1 : Int) ∧ (1 : Int) < ((l.n : Nat) : Int)) ∧ ob (pr.ld 3 (a7.add ((1 : Int).toNat * 1)) M2) fun v8 => shI .i64 v8 fun n9 => bs ((n6 == n9)) (nc l.a fun a10 => (0 ≤ (0 : Int) ∧ (0 : Int) < ((l.n : Nat) : Int)) ∧ ob (pr.ld 3 (a10.add ((0 : Int).toNat * 1)) M2) fun v11 => shI .i64 v11 fun n12 => bs ((n12 == 28)) (R (.slice none 0 0) M2) (bs (decide (((l.n : Nat) : Int) > 1)) (nc l.a fun a13 => (0 ≤ (0 : Int) ∧ (0 : Int) < ((l.n : Nat) : Int)) ∧ ob (pr.ld 3 (a13.add ((0 : Int).toNat * 1)) M2) fun v14 => shI .i64 v14 fun n15 => nc l.a fun a16 => (0 ≤ (1 : Int) ∧ (1 : Int) < ((l.n : Nat) : Int)) ∧ ob (pr.ld 3 (a16.add ((1 : Int).toNat * 1)) M2) fun v17 => shI .i64 v17 fun n18 => bs ((n15 == n18)) (nc l.a fun a19 => (0 ≤ (0 : Int) ∧ (0 : Int) < ((l.n : Nat) : Int)) ∧ ob (pr.ld 3 (a19.add ((0 : Int).toNat * 1)) M2) fun v20 => shI .i64 v20 fun n21 => (0 ≤ (2 : Int) ∧ (2 : Int) ≤ ((l.n : Nat) : Int) ∧ ((l.n : Nat) : Int) ≤ ((l.c : Nat) : Int)) ∧ pr.bsl 34 1 [(0, .int .i64 (w64 (n21 + 1)))] (fun v22 M23 => shS v22 fun s24 => pr.app #[34, 34] 34 [SV.v s24, .slice (if l.c = (2 : Int).toNat then l.a else l.a.map (·.add ((2 : Int).toNat * 1))) (((l.n : Nat) : Int).toNat - (2 : Int).toNat) (l.c - (2 : Int).toNat)] (fun v25 M26 => shS v25 fun s27 => R (SV.v s27) M26) M23) M2) (pr.bsl 34 1 [(0, .int .i64 0)] (fun v28 M29 => shS v28 fun s30 => pr.app #[34, 34] 34 [SV.v s30, SV.v l] (fun v31 M32 => shS v31 fun s33 => R (SV.v s33) M32) M29) M2)) (pr.bsl 34 1 [(0, .int .i64 0)] (fun v34 M35 => shS v34 fun s36 => pr.app #[34, 34] 34 [SV.v s36, SV.v l] (fun v37 M38 => shS v37 fun s39 => R (SV.v s39) M38) M35) M2))) (bs (decide (((l.n : Nat) : Int) > 1)) (nc l.a fun a40 => (0 ≤ (0 : Int) ∧ (0 : Int) < ((l.n : Nat) : Int)) ∧ ob (pr.ld 3 (a40.add ((0 : Int).toNat * 1)) M2) fun v41 => shI .i64 v41 fun n42 => nc l.a fun a43 => (0 ≤ (1 : Int) ∧ (1 : Int) < ((l.n : Nat) : Int)) ∧ ob (pr.ld 3 (a43.add ((1 : Int).toNat * 1)) M2) fun v44 => shI .i64 v44 fun n45 => bs ((n42 == n45)) (nc l.a fun a46 => (0 ≤ (0 : Int) ∧ (0 : Int) < ((l.n : Nat) : Int)) ∧ ob (pr.ld 3 (a46.add ((0 : Int).toNat * 1)) M2) fun v47 => shI .i64 v47 fun n48 => (0 ≤ (2 : Int) ∧ (2 : Int) ≤ ((l.n : Nat) : Int) ∧ ((l.n : Nat) : Int) ≤ ((l.c : Nat) : Int)) ∧ pr.bsl 34 1 [(0, .int .i64 (w64 (n48 + 1)))] (fun v49 M50 => shS v49 fun s51 => pr.app #[34, 34] 34 [SV.v s51, .slice (if l.c = (2 : Int).toNat then l.a else l.a.map (·.add ((2 : Int).toNat * 1))) (((l.n : Nat) : Int).toNat - (2 : Int).toNat) (l.c - (2 : Int).toNat)] (fun v52 M53 => shS v52 fun s54 => R (SV.v s54) M53) M50) M2) (pr.bsl 34 1 [(0, .int .i64 0)] (fun v55 M56 => shS v55 fun s57 => pr.app #[34, 34] 34 [SV.v s57, SV.v l] (fun v58 M59 => shS v58 fun s60 => R (SV.v s60) M59) M56) M2)) (pr.bsl 34 1 [(0, .int .i64 0)] (fun v61 M62 => shS v61 fun s63 => pr.app #[34, 34] 34 [SV.v s63, SV.v l] (fun v64 M65 => shS v64 fun s66 => R (SV.v s66) M65) M62) M2))) (bs (decide (((l.n : Nat) : Int) > 1)) (nc l.a fun a67 => (0 ≤ (0 : Int) ∧ (0 : Int) < ((l.n : Nat) : Int)) ∧ ob (pr.ld 3 (a67.add ((0 : Int).toNat * 1)) M2) fun v68 => shI .i64 v68 fun n69 => nc l.a fun a70 => (0 ≤ (1 : Int) ∧ (1 : Int) < ((l.n : Nat) : Int)) ∧ ob (pr.ld 3 (a70.add ((1 : Int).toNat * 1)) M2) fun v71 => shI .i64 v71 fun n72 => bs ((n69 == n72)) (nc l.a fun a73 => (0 ≤ (0 : Int) ∧ (0 : Int) < ((l.n : Nat) : Int)) ∧ ob (pr.ld 3 (a73.add ((0 : Int).toNat * 1)) M2) fun v74 => shI .i64 v74 fun n75 => (0 ≤ (2 : Int) ∧ (2 : Int) ≤ ((l.n : Nat) : Int) ∧ ((l.n : Nat) : Int) ≤ ((l.c : Nat) : Int)) ∧ pr.bsl 34 1 [(0, .int .i64 (w64 (n75 + 1)))] (fun v76 M77 => shS v76 fun s78 => pr.app #[34, 34] 34 [SV.v s78, .slice (if l.c = (2 : Int).toNat then l.a else l.a.map (·.add ((2 : Int).toNat * 1))) (((l.n : Nat) : Int).toNat - (2 : Int).toNat) (l.c - (2 : Int).toNat)] (fun v79 M80 => shS v79 fun s81 => R (SV.v s81) M80) M77) M2) (pr.bsl 34 1 [(0, .int .i64 0)] (fun v82 M83 => shS v82 fun s84 => pr.app #[34, 34] 34 [SV.v s84, SV.v l] (fun v85 M86 => shS v85 fun s87 => R (SV.v s87) M86) M83) M2)) (pr.bsl 34 1 [(0, .int .i64 0)] (fun v88 M89 => shS v88 fun s90 => pr.app #[34, 34] 34 [SV.v s90, SV.v l] (fun v91 M92 => shS v91 fun s93 => R (SV.v s93) M92) M89) M2)))) M
theorem skewnum_Inc.eqX (pr : Prim) (pts : Pts) (l : SV) (R : Value → Mem → Prop) (M : Mem) : wpX PP pr pts skewnum_Inc.h [] [] (retH pr Try.f20.results.toList R) (argEnv 0 [SV.v l]) M = skewnum_Inc.T pr l R M := by kernel_rfl
theorem skewnum_Inc.eq (pr : Prim) (l : SV) (R : Value → Mem → Prop) (M : Mem) : wpH PP pr skewnum_Inc.h (retH pr Try.f20.results.toList R) (argEnv 0 [SV.v l]) M = skewnum_Inc.T pr l R M := root_eq.trans (skewnum_Inc.eqX pr (ptsR PP pr skewnum_Inc.h (retH pr Try.f20.results.toList R)) l R M)
theorem skewnum_Inc.fn : PP.funcs[Id.skewnum_Inc]? = some Try.f20 := Try.func20
theorem skewnum_Inc.can : callable PP Id.skewnum_Inc = true := by kernel_rfl
theorem skewnum_Inc.good : okH Try.f20.ntmps skewnum_Inc.h = true := by kernel_rfl
theorem skewnum_Inc.body : Try.f20.body = some ((Try.f20.body).getD .skip) := by kernel_rfl
theorem skewnum_Inc.size : (1 : Nat) ≤ Try.f20.ntmps := by decide
theorem skewnum_Inc.go (w0 : World) (l : SV) {R : Value → Mem → Prop} {M : Mem} (h : skewnum_Inc.T (std PP w0) l R M) : C PP w0 Id.skewnum_Inc #[SV.v l] R M :=
  C_intro mixed skewnum_Inc.fn skewnum_Inc.body skewnum_Inc.can (annot_code _ _) skewnum_Inc.good skewnum_Inc.size ((skewnum_Inc.eq (std PP w0) l R M).mpr h)
-- thicket/thicketbook.Same[int]
noncomputable def thicketbook_Same_int.h : HC := annot ((Try.f21.body).getD .skip) [([true, true, false, true, false], [0, 1, 5])]
abbrev thicketbook_Same_int.L1 (pts : Pts) (k : Nat) (a_0 : SV) (b_1 : SV) (i_5 : Int) (M : Mem) : Prop := pts [false, false, true, false, true, true] [k] [(0, SV.v a_0), (1, SV.v b_1), (5, .int .i64 i_5)] M
def thicketbook_Same_int.pts (pr : Prim) (R : Value → Mem → Prop) : Pts := ptsR PP pr thicketbook_Same_int.h (retH pr Try.f21.results.toList R)
def thicketbook_Same_int.L1.T (pr : Prim) (pts : Pts) (k : Nat) (a_0 : SV) (b_1 : SV) (i_5 : Int) (R : Value → Mem → Prop) (M : Mem) : Prop := bs (decide (i_5 < ((a_0.n : Nat) : Int))) (nc a_0.a fun a2 => (0 ≤ i_5 ∧ i_5 < ((a_0.n : Nat) : Int)) ∧ ob (pr.ld 3 (a2.add (i_5.toNat * 1)) M) fun v3 => shI .i64 v3 fun n4 => nc b_1.a fun a5 => (0 ≤ i_5 ∧ i_5 < ((b_1.n : Nat) : Int)) ∧ ob (pr.ld 3 (a5.add (i_5.toNat * 1)) M) fun v6 => shI .i64 v6 fun n7 => bs ((n4 != n7)) (R (.bool false) M) (thicketbook_Same_int.L1 pts k a_0 b_1 (w64 (i_5 + 1)) M)) (R (.bool true) M)
theorem thicketbook_Same_int.L1.zero (pr : Prim) (a_0 : SV) (b_1 : SV) (i_5 : Int) (R : Value → Mem → Prop) (M : Mem) : thicketbook_Same_int.L1 (thicketbook_Same_int.pts pr R) 0 a_0 b_1 i_5 M = False :=
  (ptsR_eq (b := false) (p := [false, true, false, true, true]) (ns := [0]) rfl _ _).trans (by kernel_rfl)
theorem thicketbook_Same_int.L1.eqX (pr : Prim) (pts : Pts) (k : Nat) (a_0 : SV) (b_1 : SV) (i_5 : Int) (R : Value → Mem → Prop) (M : Mem) : bodyX PP pr pts thicketbook_Same_int.h (retH pr Try.f21.results.toList R) [false, false, true, false, true, true] [k + 1] [(0, SV.v a_0), (1, SV.v b_1), (5, .int .i64 i_5)] M = thicketbook_Same_int.L1.T pr pts k a_0 b_1 i_5 R M := by kernel_rfl
theorem thicketbook_Same_int.L1.succ (pr : Prim) (k : Nat) (a_0 : SV) (b_1 : SV) (i_5 : Int) (R : Value → Mem → Prop) (M : Mem) : thicketbook_Same_int.L1 (thicketbook_Same_int.pts pr R) (k + 1) a_0 b_1 i_5 M = thicketbook_Same_int.L1.T pr (thicketbook_Same_int.pts pr R) k a_0 b_1 i_5 R M :=
  (ptsR_eq (b := false) (p := [false, true, false, true, true]) (ns := [k + 1]) rfl _ _).trans (thicketbook_Same_int.L1.eqX pr (thicketbook_Same_int.pts pr R) k a_0 b_1 i_5 R M)
structure thicketbook_Same_int.Is (pr : Prim) (pts : Pts) (R : Value → Mem → Prop) : Prop where
  L1 : ∀ (k : Nat) (a_0 : SV) (b_1 : SV) (i_5 : Int) (M : Mem), thicketbook_Same_int.L1 pts (k + 1) a_0 b_1 i_5 M = thicketbook_Same_int.L1.T pr pts k a_0 b_1 i_5 R M
theorem thicketbook_Same_int.is (pr : Prim) (R : Value → Mem → Prop) : thicketbook_Same_int.Is pr (thicketbook_Same_int.pts pr R) R := ⟨fun k a_0 b_1 i_5 M => thicketbook_Same_int.L1.succ pr k a_0 b_1 i_5 R M⟩
def thicketbook_Same_int.T (pr : Prim) (pts : Pts) (a : SV) (b : SV) (R : Value → Mem → Prop) (M : Mem) : Prop := bs ((((a.n : Nat) : Int) != ((b.n : Nat) : Int))) (R (.bool false) M) (∃ k1, thicketbook_Same_int.L1 pts k1 a b 0 M)
theorem thicketbook_Same_int.eqX (pr : Prim) (pts : Pts) (a : SV) (b : SV) (R : Value → Mem → Prop) (M : Mem) : wpX PP pr pts thicketbook_Same_int.h [] [] (retH pr Try.f21.results.toList R) (argEnv 0 [SV.v a, SV.v b]) M = thicketbook_Same_int.T pr pts a b R M := by kernel_rfl
theorem thicketbook_Same_int.eq (pr : Prim) (a : SV) (b : SV) (R : Value → Mem → Prop) (M : Mem) : wpH PP pr thicketbook_Same_int.h (retH pr Try.f21.results.toList R) (argEnv 0 [SV.v a, SV.v b]) M = thicketbook_Same_int.T pr (thicketbook_Same_int.pts pr R) a b R M := root_eq.trans (thicketbook_Same_int.eqX pr (thicketbook_Same_int.pts pr R) a b R M)
theorem thicketbook_Same_int.fn : PP.funcs[Id.thicketbook_Same_int]? = some Try.f21 := Try.func21
theorem thicketbook_Same_int.can : callable PP Id.thicketbook_Same_int = true := by kernel_rfl
theorem thicketbook_Same_int.good : okH Try.f21.ntmps thicketbook_Same_int.h = true := by kernel_rfl
theorem thicketbook_Same_int.body : Try.f21.body = some ((Try.f21.body).getD .skip) := by kernel_rfl
theorem thicketbook_Same_int.size : (2 : Nat) ≤ Try.f21.ntmps := by decide
theorem thicketbook_Same_int.go (w0 : World) (a : SV) (b : SV) {R : Value → Mem → Prop} {M : Mem} (h : ∀ pts, thicketbook_Same_int.Is (std PP w0) pts R → thicketbook_Same_int.T (std PP w0) pts a b R M) : C PP w0 Id.thicketbook_Same_int #[SV.v a, SV.v b] R M :=
  C_intro mixed thicketbook_Same_int.fn thicketbook_Same_int.body thicketbook_Same_int.can (annot_code _ _) thicketbook_Same_int.good thicketbook_Same_int.size ((thicketbook_Same_int.eq (std PP w0) a b R M).mpr (h _ (thicketbook_Same_int.is _ _)))
-- thicket/thicketref10.Of
noncomputable def thicketref10_Of.h : HC := annot ((Try.f22.body).getD .skip) [([true], [0]), ([true, true, true, false, true, false], [0, 3, 4]), ([true, true, true, false, true, false, false, true, false, false, false], [0, 3, 4])]
abbrev thicketref10_Of.J1 (pts : Pts) (n_0 : Int) (M : Mem) : Prop := pts [true, true] [] [(0, .int .i64 n_0)] M
abbrev thicketref10_Of.L2 (pts : Pts) (k : Nat) (n_0 : Int) (out_3 : SV) (k_4 : Int) (M : Mem) : Prop := pts [false, false, true, false, true, true, true] [k] [(0, .int .i64 n_0), (3, SV.v out_3), (4, .int .i64 k_4)] M
abbrev thicketref10_Of.L3 (pts : Pts) (k : Nat) (k' : Nat) (n_0 : Int) (out_3 : SV) (k_4 : Int) (M : Mem) : Prop := pts [false, false, false, false, true, false, false, true, false, true, true, true] [k', k] [(0, .int .i64 n_0), (3, SV.v out_3), (4, .int .i64 k_4)] M
def thicketref10_Of.pts (pr : Prim) (R : Value → Mem → Prop) : Pts := ptsR PP pr thicketref10_Of.h (retH pr Try.f22.results.toList R)
def thicketref10_Of.J1.T (pr : Prim) (pts : Pts) (n_0 : Int) (R : Value → Mem → Prop) (M : Mem) : Prop := ∃ k1, thicketref10_Of.L2 pts k1 n_0 ⟨none, 0, 0⟩ 28 M
theorem thicketref10_Of.J1.eqX (pr : Prim) (pts : Pts) (n_0 : Int) (R : Value → Mem → Prop) (M : Mem) : bodyX PP pr pts thicketref10_Of.h (retH pr Try.f22.results.toList R) [true, true] [] [(0, .int .i64 n_0)] M = thicketref10_Of.J1.T pr pts n_0 R M := by kernel_rfl
theorem thicketref10_Of.J1.eq (pr : Prim) (n_0 : Int) (R : Value → Mem → Prop) (M : Mem) : thicketref10_Of.J1 (thicketref10_Of.pts pr R) n_0 M = thicketref10_Of.J1.T pr (thicketref10_Of.pts pr R) n_0 R M :=
  (ptsR_eq (b := true) (p := [true]) (ns := []) rfl _ _).trans (thicketref10_Of.J1.eqX pr (thicketref10_Of.pts pr R) n_0 R M)
def thicketref10_Of.L2.T (pr : Prim) (pts : Pts) (k : Nat) (n_0 : Int) (out_3 : SV) (k_4 : Int) (R : Value → Mem → Prop) (M : Mem) : Prop := bs (decide (k_4 ≥ 0)) (∃ k2, thicketref10_Of.L3 pts k k2 n_0 out_3 k_4 M) (R (SV.v out_3) M)
theorem thicketref10_Of.L2.zero (pr : Prim) (n_0 : Int) (out_3 : SV) (k_4 : Int) (R : Value → Mem → Prop) (M : Mem) : thicketref10_Of.L2 (thicketref10_Of.pts pr R) 0 n_0 out_3 k_4 M = False :=
  (ptsR_eq (b := false) (p := [false, true, false, true, true, true]) (ns := [0]) rfl _ _).trans (by kernel_rfl)
theorem thicketref10_Of.L2.eqX (pr : Prim) (pts : Pts) (k : Nat) (n_0 : Int) (out_3 : SV) (k_4 : Int) (R : Value → Mem → Prop) (M : Mem) : bodyX PP pr pts thicketref10_Of.h (retH pr Try.f22.results.toList R) [false, false, true, false, true, true, true] [k + 1] [(0, .int .i64 n_0), (3, SV.v out_3), (4, .int .i64 k_4)] M = thicketref10_Of.L2.T pr pts k n_0 out_3 k_4 R M := by kernel_rfl
theorem thicketref10_Of.L2.succ (pr : Prim) (k : Nat) (n_0 : Int) (out_3 : SV) (k_4 : Int) (R : Value → Mem → Prop) (M : Mem) : thicketref10_Of.L2 (thicketref10_Of.pts pr R) (k + 1) n_0 out_3 k_4 M = thicketref10_Of.L2.T pr (thicketref10_Of.pts pr R) k n_0 out_3 k_4 R M :=
  (ptsR_eq (b := false) (p := [false, true, false, true, true, true]) (ns := [k + 1]) rfl _ _).trans (thicketref10_Of.L2.eqX pr (thicketref10_Of.pts pr R) k n_0 out_3 k_4 R M)
def thicketref10_Of.L3.T (pr : Prim) (pts : Pts) (k : Nat) (k' : Nat) (n_0 : Int) (out_3 : SV) (k_4 : Int) (R : Value → Mem → Prop) (M : Mem) : Prop := (0 ≤ (u64 ((w64 (k_4 + 1)))) ∧ bs (decide ((w64 ((w64 (1 * 2 ^ (min (u64 ((w64 (k_4 + 1)))).toNat (IntKind.bits .i64)))) - 1)) ≤ n_0)) (pr.bsl 34 1 [(0, .int .i64 k_4)] (fun v3 M4 => shS v3 fun s5 => pr.app #[34, 34] 34 [SV.v s5, SV.v out_3] (fun v6 M7 => shS v6 fun s8 => (0 ≤ (u64 ((w64 (k_4 + 1)))) ∧ thicketref10_Of.L3 pts k k' (w64 (n_0 - (w64 ((w64 (1 * 2 ^ (min (u64 ((w64 (k_4 + 1)))).toNat (IntKind.bits .i64)))) - 1)))) s8 k_4 M7)) M4) M) (thicketref10_Of.L2 pts k n_0 out_3 (w64 (k_4 - 1)) M))
theorem thicketref10_Of.L3.zero (pr : Prim) (k : Nat) (n_0 : Int) (out_3 : SV) (k_4 : Int) (R : Value → Mem → Prop) (M : Mem) : thicketref10_Of.L3 (thicketref10_Of.pts pr R) k 0 n_0 out_3 k_4 M = False :=
  (ptsR_eq (b := false) (p := [false, false, false, true, false, false, true, false, true, true, true]) (ns := [0, k]) rfl _ _).trans (by kernel_rfl)
theorem thicketref10_Of.L3.eqX (pr : Prim) (pts : Pts) (k : Nat) (k' : Nat) (n_0 : Int) (out_3 : SV) (k_4 : Int) (R : Value → Mem → Prop) (M : Mem) : bodyX PP pr pts thicketref10_Of.h (retH pr Try.f22.results.toList R) [false, false, false, false, true, false, false, true, false, true, true, true] [k' + 1, k] [(0, .int .i64 n_0), (3, SV.v out_3), (4, .int .i64 k_4)] M = thicketref10_Of.L3.T pr pts k k' n_0 out_3 k_4 R M := by kernel_rfl
theorem thicketref10_Of.L3.succ (pr : Prim) (k : Nat) (k' : Nat) (n_0 : Int) (out_3 : SV) (k_4 : Int) (R : Value → Mem → Prop) (M : Mem) : thicketref10_Of.L3 (thicketref10_Of.pts pr R) k (k' + 1) n_0 out_3 k_4 M = thicketref10_Of.L3.T pr (thicketref10_Of.pts pr R) k k' n_0 out_3 k_4 R M :=
  (ptsR_eq (b := false) (p := [false, false, false, true, false, false, true, false, true, true, true]) (ns := [k' + 1, k]) rfl _ _).trans (thicketref10_Of.L3.eqX pr (thicketref10_Of.pts pr R) k k' n_0 out_3 k_4 R M)
structure thicketref10_Of.Is (pr : Prim) (pts : Pts) (R : Value → Mem → Prop) : Prop where
  J1 : ∀ (n_0 : Int) (M : Mem), thicketref10_Of.J1 pts n_0 M = thicketref10_Of.J1.T pr pts n_0 R M
  L2 : ∀ (k : Nat) (n_0 : Int) (out_3 : SV) (k_4 : Int) (M : Mem), thicketref10_Of.L2 pts (k + 1) n_0 out_3 k_4 M = thicketref10_Of.L2.T pr pts k n_0 out_3 k_4 R M
  L3 : ∀ (k : Nat) (k' : Nat) (n_0 : Int) (out_3 : SV) (k_4 : Int) (M : Mem), thicketref10_Of.L3 pts k (k' + 1) n_0 out_3 k_4 M = thicketref10_Of.L3.T pr pts k k' n_0 out_3 k_4 R M
theorem thicketref10_Of.is (pr : Prim) (R : Value → Mem → Prop) : thicketref10_Of.Is pr (thicketref10_Of.pts pr R) R := ⟨fun n_0 M => thicketref10_Of.J1.eq pr n_0 R M, fun k n_0 out_3 k_4 M => thicketref10_Of.L2.succ pr k n_0 out_3 k_4 R M, fun k k' n_0 out_3 k_4 M => thicketref10_Of.L3.succ pr k k' n_0 out_3 k_4 R M⟩
def thicketref10_Of.T (pr : Prim) (pts : Pts) (n : Int) (R : Value → Mem → Prop) (M : Mem) : Prop := bs (decide (n < 1)) (R (.slice none 0 0) M) (bs (decide (n > 268435456)) (R (.slice none 0 0) M) (thicketref10_Of.J1 pts n M))
theorem thicketref10_Of.eqX (pr : Prim) (pts : Pts) (n : Int) (R : Value → Mem → Prop) (M : Mem) : wpX PP pr pts thicketref10_Of.h [] [] (retH pr Try.f22.results.toList R) (argEnv 0 [.int .i64 n]) M = thicketref10_Of.T pr pts n R M := by kernel_rfl
theorem thicketref10_Of.eq (pr : Prim) (n : Int) (R : Value → Mem → Prop) (M : Mem) : wpH PP pr thicketref10_Of.h (retH pr Try.f22.results.toList R) (argEnv 0 [.int .i64 n]) M = thicketref10_Of.T pr (thicketref10_Of.pts pr R) n R M := root_eq.trans (thicketref10_Of.eqX pr (thicketref10_Of.pts pr R) n R M)
theorem thicketref10_Of.fn : PP.funcs[Id.thicketref10_Of]? = some Try.f22 := Try.func22
theorem thicketref10_Of.can : callable PP Id.thicketref10_Of = true := by kernel_rfl
theorem thicketref10_Of.good : okH Try.f22.ntmps thicketref10_Of.h = true := by kernel_rfl
theorem thicketref10_Of.body : Try.f22.body = some ((Try.f22.body).getD .skip) := by kernel_rfl
theorem thicketref10_Of.size : (1 : Nat) ≤ Try.f22.ntmps := by decide
theorem thicketref10_Of.go (w0 : World) (n : Int) {R : Value → Mem → Prop} {M : Mem} (h : ∀ pts, thicketref10_Of.Is (std PP w0) pts R → thicketref10_Of.T (std PP w0) pts n R M) : C PP w0 Id.thicketref10_Of #[.int .i64 n] R M :=
  C_intro mixed thicketref10_Of.fn thicketref10_Of.body thicketref10_Of.can (annot_code _ _) thicketref10_Of.good thicketref10_Of.size ((thicketref10_Of.eq (std PP w0) n R M).mpr (h _ (thicketref10_Of.is _ _)))
-- thicket/skewnum.Value
noncomputable def skewnum_Value.h : HC := annot ((Try.f23.body).getD .skip) [([true, true, true, false, true, false], [3, 9, 10, 11])]
abbrev skewnum_Value.L1 (pts : Pts) (k : Nat) (n_3 : Int) (t9 : SV) (t10 : Int) (t11 : Int) (M : Mem) : Prop := pts [false, false, true, false, true, true, true] [k] [(3, .int .i64 n_3), (9, SV.v t9), (10, .int .i64 t10), (11, .int .i64 t11)] M
def skewnum_Value.pts (pr : Prim) (R : Value → Mem → Prop) : Pts := ptsR PP pr skewnum_Value.h (retH pr Try.f23.results.toList R)
def skewnum_Value.L1.T (pr : Prim) (pts : Pts) (k : Nat) (n_3 : Int) (t9 : SV) (t10 : Int) (t11 : Int) (R : Value → Mem → Prop) (M : Mem) : Prop := bs (decide (t11 < t10)) (nc t9.a fun a5 => (0 ≤ t11 ∧ t11 < ((t9.n : Nat) : Int)) ∧ ob (pr.ld 3 (a5.add (t11.toNat * 1)) M) fun v6 => shI .i64 v6 fun n7 => pr.call Id.skewnum_weight #[.int .i64 n7] (fun v8 M9 => shI .i64 v8 fun n10 => skewnum_Value.L1 pts k (w64 (n_3 + n10)) t9 t10 (w64 (t11 + 1)) M9) M) (R (.int .i64 n_3) M)
theorem skewnum_Value.L1.zero (pr : Prim) (n_3 : Int) (t9 : SV) (t10 : Int) (t11 : Int) (R : Value → Mem → Prop) (M : Mem) : skewnum_Value.L1 (skewnum_Value.pts pr R) 0 n_3 t9 t10 t11 M = False :=
  (ptsR_eq (b := false) (p := [false, true, false, true, true, true]) (ns := [0]) rfl _ _).trans (by kernel_rfl)
theorem skewnum_Value.L1.eqX (pr : Prim) (pts : Pts) (k : Nat) (n_3 : Int) (t9 : SV) (t10 : Int) (t11 : Int) (R : Value → Mem → Prop) (M : Mem) : bodyX PP pr pts skewnum_Value.h (retH pr Try.f23.results.toList R) [false, false, true, false, true, true, true] [k + 1] [(3, .int .i64 n_3), (9, SV.v t9), (10, .int .i64 t10), (11, .int .i64 t11)] M = skewnum_Value.L1.T pr pts k n_3 t9 t10 t11 R M := by kernel_rfl
theorem skewnum_Value.L1.succ (pr : Prim) (k : Nat) (n_3 : Int) (t9 : SV) (t10 : Int) (t11 : Int) (R : Value → Mem → Prop) (M : Mem) : skewnum_Value.L1 (skewnum_Value.pts pr R) (k + 1) n_3 t9 t10 t11 M = skewnum_Value.L1.T pr (skewnum_Value.pts pr R) k n_3 t9 t10 t11 R M :=
  (ptsR_eq (b := false) (p := [false, true, false, true, true, true]) (ns := [k + 1]) rfl _ _).trans (skewnum_Value.L1.eqX pr (skewnum_Value.pts pr R) k n_3 t9 t10 t11 R M)
structure skewnum_Value.Is (pr : Prim) (pts : Pts) (R : Value → Mem → Prop) : Prop where
  L1 : ∀ (k : Nat) (n_3 : Int) (t9 : SV) (t10 : Int) (t11 : Int) (M : Mem), skewnum_Value.L1 pts (k + 1) n_3 t9 t10 t11 M = skewnum_Value.L1.T pr pts k n_3 t9 t10 t11 R M
theorem skewnum_Value.is (pr : Prim) (R : Value → Mem → Prop) : skewnum_Value.Is pr (skewnum_Value.pts pr R) R := ⟨fun k n_3 t9 t10 t11 M => skewnum_Value.L1.succ pr k n_3 t9 t10 t11 R M⟩
def skewnum_Value.T (pr : Prim) (pts : Pts) (l : SV) (R : Value → Mem → Prop) (M : Mem) : Prop := pr.call Id.skewnum_Right #[SV.v l] (fun v1 M2 => shB v1 fun b3 => bs (!b3) (R (.int .i64 (-1)) M2) (∃ k4, skewnum_Value.L1 pts k4 0 l ((l.n : Nat) : Int) 0 M2)) M
theorem skewnum_Value.eqX (pr : Prim) (pts : Pts) (l : SV) (R : Value → Mem → Prop) (M : Mem) : wpX PP pr pts skewnum_Value.h [] [] (retH pr Try.f23.results.toList R) (argEnv 0 [SV.v l]) M = skewnum_Value.T pr pts l R M := by kernel_rfl
theorem skewnum_Value.eq (pr : Prim) (l : SV) (R : Value → Mem → Prop) (M : Mem) : wpH PP pr skewnum_Value.h (retH pr Try.f23.results.toList R) (argEnv 0 [SV.v l]) M = skewnum_Value.T pr (skewnum_Value.pts pr R) l R M := root_eq.trans (skewnum_Value.eqX pr (skewnum_Value.pts pr R) l R M)
theorem skewnum_Value.fn : PP.funcs[Id.skewnum_Value]? = some Try.f23 := Try.func23
theorem skewnum_Value.can : callable PP Id.skewnum_Value = true := by kernel_rfl
theorem skewnum_Value.good : okH Try.f23.ntmps skewnum_Value.h = true := by kernel_rfl
theorem skewnum_Value.body : Try.f23.body = some ((Try.f23.body).getD .skip) := by kernel_rfl
theorem skewnum_Value.size : (1 : Nat) ≤ Try.f23.ntmps := by decide
theorem skewnum_Value.go (w0 : World) (l : SV) {R : Value → Mem → Prop} {M : Mem} (h : ∀ pts, skewnum_Value.Is (std PP w0) pts R → skewnum_Value.T (std PP w0) pts l R M) : C PP w0 Id.skewnum_Value #[SV.v l] R M :=
  C_intro mixed skewnum_Value.fn skewnum_Value.body skewnum_Value.can (annot_code _ _) skewnum_Value.good skewnum_Value.size ((skewnum_Value.eq (std PP w0) l R M).mpr (h _ (skewnum_Value.is _ _)))
-- thicket/skewnum.Of
noncomputable def skewnum_Of.h : HC := annot ((Try.f24.body).getD .skip) [([true], [0]), ([true, true, true, false, true, false], [0, 3, 4]), ([true, true, true, false, true, false, false, true, false, false, false], [0, 3, 4])]
abbrev skewnum_Of.J1 (pts : Pts) (n_0 : Int) (M : Mem) : Prop := pts [true, true] [] [(0, .int .i64 n_0)] M
abbrev skewnum_Of.L2 (pts : Pts) (k : Nat) (n_0 : Int) (out_3 : SV) (k_4 : Int) (M : Mem) : Prop := pts [false, false, true, false, true, true, true] [k] [(0, .int .i64 n_0), (3, SV.v out_3), (4, .int .i64 k_4)] M
abbrev skewnum_Of.L3 (pts : Pts) (k : Nat) (k' : Nat) (n_0 : Int) (out_3 : SV) (k_4 : Int) (M : Mem) : Prop := pts [false, false, false, false, true, false, false, true, false, true, true, true] [k', k] [(0, .int .i64 n_0), (3, SV.v out_3), (4, .int .i64 k_4)] M
def skewnum_Of.pts (pr : Prim) (R : Value → Mem → Prop) : Pts := ptsR PP pr skewnum_Of.h (retH pr Try.f24.results.toList R)
def skewnum_Of.J1.T (pr : Prim) (pts : Pts) (n_0 : Int) (R : Value → Mem → Prop) (M : Mem) : Prop := ∃ k1, skewnum_Of.L2 pts k1 n_0 ⟨none, 0, 0⟩ 28 M
theorem skewnum_Of.J1.eqX (pr : Prim) (pts : Pts) (n_0 : Int) (R : Value → Mem → Prop) (M : Mem) : bodyX PP pr pts skewnum_Of.h (retH pr Try.f24.results.toList R) [true, true] [] [(0, .int .i64 n_0)] M = skewnum_Of.J1.T pr pts n_0 R M := by kernel_rfl
theorem skewnum_Of.J1.eq (pr : Prim) (n_0 : Int) (R : Value → Mem → Prop) (M : Mem) : skewnum_Of.J1 (skewnum_Of.pts pr R) n_0 M = skewnum_Of.J1.T pr (skewnum_Of.pts pr R) n_0 R M :=
  (ptsR_eq (b := true) (p := [true]) (ns := []) rfl _ _).trans (skewnum_Of.J1.eqX pr (skewnum_Of.pts pr R) n_0 R M)
def skewnum_Of.L2.T (pr : Prim) (pts : Pts) (k : Nat) (n_0 : Int) (out_3 : SV) (k_4 : Int) (R : Value → Mem → Prop) (M : Mem) : Prop := bs (decide (k_4 ≥ 0)) (∃ k2, skewnum_Of.L3 pts k k2 n_0 out_3 k_4 M) (pr.call Id.slices_Reverse_int_int #[SV.v out_3] (fun v3 M4 => R (SV.v out_3) M4) M)
theorem skewnum_Of.L2.zero (pr : Prim) (n_0 : Int) (out_3 : SV) (k_4 : Int) (R : Value → Mem → Prop) (M : Mem) : skewnum_Of.L2 (skewnum_Of.pts pr R) 0 n_0 out_3 k_4 M = False :=
  (ptsR_eq (b := false) (p := [false, true, false, true, true, true]) (ns := [0]) rfl _ _).trans (by kernel_rfl)
theorem skewnum_Of.L2.eqX (pr : Prim) (pts : Pts) (k : Nat) (n_0 : Int) (out_3 : SV) (k_4 : Int) (R : Value → Mem → Prop) (M : Mem) : bodyX PP pr pts skewnum_Of.h (retH pr Try.f24.results.toList R) [false, false, true, false, true, true, true] [k + 1] [(0, .int .i64 n_0), (3, SV.v out_3), (4, .int .i64 k_4)] M = skewnum_Of.L2.T pr pts k n_0 out_3 k_4 R M := by kernel_rfl
theorem skewnum_Of.L2.succ (pr : Prim) (k : Nat) (n_0 : Int) (out_3 : SV) (k_4 : Int) (R : Value → Mem → Prop) (M : Mem) : skewnum_Of.L2 (skewnum_Of.pts pr R) (k + 1) n_0 out_3 k_4 M = skewnum_Of.L2.T pr (skewnum_Of.pts pr R) k n_0 out_3 k_4 R M :=
  (ptsR_eq (b := false) (p := [false, true, false, true, true, true]) (ns := [k + 1]) rfl _ _).trans (skewnum_Of.L2.eqX pr (skewnum_Of.pts pr R) k n_0 out_3 k_4 R M)
def skewnum_Of.L3.T (pr : Prim) (pts : Pts) (k : Nat) (k' : Nat) (n_0 : Int) (out_3 : SV) (k_4 : Int) (R : Value → Mem → Prop) (M : Mem) : Prop := pr.call Id.skewnum_weight #[.int .i64 k_4] (fun v5 M6 => shI .i64 v5 fun n7 => bs (decide (n_0 ≥ n7)) (pr.bsl 34 1 [(0, .int .i64 k_4)] (fun v8 M9 => shS v8 fun s10 => pr.app #[34, 34] 34 [SV.v out_3, SV.v s10] (fun v11 M12 => shS v11 fun s13 => pr.call Id.skewnum_weight #[.int .i64 k_4] (fun v14 M15 => shI .i64 v14 fun n16 => skewnum_Of.L3 pts k k' (w64 (n_0 - n16)) s13 k_4 M15) M12) M9) M6) (skewnum_Of.L2 pts k n_0 out_3 (w64 (k_4 - 1)) M6)) M
theorem skewnum_Of.L3.zero (pr : Prim) (k : Nat) (n_0 : Int) (out_3 : SV) (k_4 : Int) (R : Value → Mem → Prop) (M : Mem) : skewnum_Of.L3 (skewnum_Of.pts pr R) k 0 n_0 out_3 k_4 M = False :=
  (ptsR_eq (b := false) (p := [false, false, false, true, false, false, true, false, true, true, true]) (ns := [0, k]) rfl _ _).trans (by kernel_rfl)
theorem skewnum_Of.L3.eqX (pr : Prim) (pts : Pts) (k : Nat) (k' : Nat) (n_0 : Int) (out_3 : SV) (k_4 : Int) (R : Value → Mem → Prop) (M : Mem) : bodyX PP pr pts skewnum_Of.h (retH pr Try.f24.results.toList R) [false, false, false, false, true, false, false, true, false, true, true, true] [k' + 1, k] [(0, .int .i64 n_0), (3, SV.v out_3), (4, .int .i64 k_4)] M = skewnum_Of.L3.T pr pts k k' n_0 out_3 k_4 R M := by kernel_rfl
theorem skewnum_Of.L3.succ (pr : Prim) (k : Nat) (k' : Nat) (n_0 : Int) (out_3 : SV) (k_4 : Int) (R : Value → Mem → Prop) (M : Mem) : skewnum_Of.L3 (skewnum_Of.pts pr R) k (k' + 1) n_0 out_3 k_4 M = skewnum_Of.L3.T pr (skewnum_Of.pts pr R) k k' n_0 out_3 k_4 R M :=
  (ptsR_eq (b := false) (p := [false, false, false, true, false, false, true, false, true, true, true]) (ns := [k' + 1, k]) rfl _ _).trans (skewnum_Of.L3.eqX pr (skewnum_Of.pts pr R) k k' n_0 out_3 k_4 R M)
structure skewnum_Of.Is (pr : Prim) (pts : Pts) (R : Value → Mem → Prop) : Prop where
  J1 : ∀ (n_0 : Int) (M : Mem), skewnum_Of.J1 pts n_0 M = skewnum_Of.J1.T pr pts n_0 R M
  L2 : ∀ (k : Nat) (n_0 : Int) (out_3 : SV) (k_4 : Int) (M : Mem), skewnum_Of.L2 pts (k + 1) n_0 out_3 k_4 M = skewnum_Of.L2.T pr pts k n_0 out_3 k_4 R M
  L3 : ∀ (k : Nat) (k' : Nat) (n_0 : Int) (out_3 : SV) (k_4 : Int) (M : Mem), skewnum_Of.L3 pts k (k' + 1) n_0 out_3 k_4 M = skewnum_Of.L3.T pr pts k k' n_0 out_3 k_4 R M
theorem skewnum_Of.is (pr : Prim) (R : Value → Mem → Prop) : skewnum_Of.Is pr (skewnum_Of.pts pr R) R := ⟨fun n_0 M => skewnum_Of.J1.eq pr n_0 R M, fun k n_0 out_3 k_4 M => skewnum_Of.L2.succ pr k n_0 out_3 k_4 R M, fun k k' n_0 out_3 k_4 M => skewnum_Of.L3.succ pr k k' n_0 out_3 k_4 R M⟩
def skewnum_Of.T (pr : Prim) (pts : Pts) (n : Int) (R : Value → Mem → Prop) (M : Mem) : Prop := bs (decide (n < 1)) (R (.slice none 0 0) M) (bs (decide (n > 268435456)) (R (.slice none 0 0) M) (skewnum_Of.J1 pts n M))
theorem skewnum_Of.eqX (pr : Prim) (pts : Pts) (n : Int) (R : Value → Mem → Prop) (M : Mem) : wpX PP pr pts skewnum_Of.h [] [] (retH pr Try.f24.results.toList R) (argEnv 0 [.int .i64 n]) M = skewnum_Of.T pr pts n R M := by kernel_rfl
theorem skewnum_Of.eq (pr : Prim) (n : Int) (R : Value → Mem → Prop) (M : Mem) : wpH PP pr skewnum_Of.h (retH pr Try.f24.results.toList R) (argEnv 0 [.int .i64 n]) M = skewnum_Of.T pr (skewnum_Of.pts pr R) n R M := root_eq.trans (skewnum_Of.eqX pr (skewnum_Of.pts pr R) n R M)
theorem skewnum_Of.fn : PP.funcs[Id.skewnum_Of]? = some Try.f24 := Try.func24
theorem skewnum_Of.can : callable PP Id.skewnum_Of = true := by kernel_rfl
theorem skewnum_Of.good : okH Try.f24.ntmps skewnum_Of.h = true := by kernel_rfl
theorem skewnum_Of.body : Try.f24.body = some ((Try.f24.body).getD .skip) := by kernel_rfl
theorem skewnum_Of.size : (1 : Nat) ≤ Try.f24.ntmps := by decide
theorem skewnum_Of.go (w0 : World) (n : Int) {R : Value → Mem → Prop} {M : Mem} (h : ∀ pts, skewnum_Of.Is (std PP w0) pts R → skewnum_Of.T (std PP w0) pts n R M) : C PP w0 Id.skewnum_Of #[.int .i64 n] R M :=
  C_intro mixed skewnum_Of.fn skewnum_Of.body skewnum_Of.can (annot_code _ _) skewnum_Of.good skewnum_Of.size ((skewnum_Of.eq (std PP w0) n R M).mpr (h _ (skewnum_Of.is _ _)))
-- thicket/thicketlaw10.same
noncomputable def thicketlaw10_same.h : HC := annot ((Try.f25.body).getD .skip) []
def thicketlaw10_same.T (pr : Prim) (l : SV) (R : Value → Mem → Prop) (M : Mem) : Prop := pr.call Id.thicketref10_Inc #[SV.v l] (fun v1 M2 => shT v1 fun l3 => shCons l3 fun u4 r5 => shS u4 fun s6 => shCons r5 fun u7 r8 => shB u7 fun b9 => shNil r8 (pr.call Id.thicketref10_Dec #[SV.v l] (fun v10 M11 => shT v10 fun l12 => shCons l12 fun u13 r14 => shS u13 fun s15 => shCons r14 fun u16 r17 => shB u16 fun b18 => shNil r17 (pr.call Id.skewnum_Right #[SV.v l] (fun v19 M20 => shB v19 fun b21 => pr.call Id.thicketref10_Right #[SV.v l] (fun v22 M23 => shB v22 fun b24 => ob (pr.bq .eql 4 (.tmp 18) (.tmp 20) (.bool b21) (.bool b24)) fun v25 => shB v25 fun b26 => bs b26 (pr.call Id.skewnum_Value #[SV.v l] (fun v27 M28 => shI .i64 v27 fun n29 => pr.call Id.thicketref10_Value #[SV.v l] (fun v30 M31 => shI .i64 v30 fun n32 => bs ((n29 == n32)) (pr.call Id.skewnum_Inc #[SV.v l] (fun v33 M34 => shS v33 fun s35 => pr.call Id.thicketbook_Same_int #[SV.v s35, SV.v s6] (fun v36 M37 => shB v36 fun b38 => bs b38 (pr.call Id.skewnum_Dec #[SV.v l] (fun v39 M40 => shS v39 fun s41 => pr.call Id.thicketbook_Same_int #[SV.v s41, SV.v s15] (fun v42 M43 => shB v42 fun b44 => R (.bool b44) M43) M40) M37) (R (.bool false) M37)) M34) M31) (R (.bool false) M31)) M28) M23) (R (.bool false) M23)) M20) M11)) M2)) M
theorem thicketlaw10_same.eqX (pr : Prim) (pts : Pts) (l : SV) (R : Value → Mem → Prop) (M : Mem) : wpX PP pr pts thicketlaw10_same.h [] [] (retH pr Try.f25.results.toList R) (argEnv 0 [SV.v l]) M = thicketlaw10_same.T pr l R M := by kernel_rfl
theorem thicketlaw10_same.eq (pr : Prim) (l : SV) (R : Value → Mem → Prop) (M : Mem) : wpH PP pr thicketlaw10_same.h (retH pr Try.f25.results.toList R) (argEnv 0 [SV.v l]) M = thicketlaw10_same.T pr l R M := root_eq.trans (thicketlaw10_same.eqX pr (ptsR PP pr thicketlaw10_same.h (retH pr Try.f25.results.toList R)) l R M)
theorem thicketlaw10_same.fn : PP.funcs[Id.thicketlaw10_same]? = some Try.f25 := Try.func25
theorem thicketlaw10_same.can : callable PP Id.thicketlaw10_same = true := by kernel_rfl
theorem thicketlaw10_same.good : okH Try.f25.ntmps thicketlaw10_same.h = true := by kernel_rfl
theorem thicketlaw10_same.body : Try.f25.body = some ((Try.f25.body).getD .skip) := by kernel_rfl
theorem thicketlaw10_same.size : (1 : Nat) ≤ Try.f25.ntmps := by decide
theorem thicketlaw10_same.go (w0 : World) (l : SV) {R : Value → Mem → Prop} {M : Mem} (h : thicketlaw10_same.T (std PP w0) l R M) : C PP w0 Id.thicketlaw10_same #[SV.v l] R M :=
  C_intro mixed thicketlaw10_same.fn thicketlaw10_same.body thicketlaw10_same.can (annot_code _ _) thicketlaw10_same.good thicketlaw10_same.size ((thicketlaw10_same.eq (std PP w0) l R M).mpr h)
-- thicket/skewnum.Dec
noncomputable def skewnum_Dec.h : HC := annot ((Try.f26.body).getD .skip) [([true], [0])]
abbrev skewnum_Dec.J1 (pts : Pts) (l_0 : SV) (M : Mem) : Prop := pts [true, true] [] [(0, SV.v l_0)] M
def skewnum_Dec.pts (pr : Prim) (R : Value → Mem → Prop) : Pts := ptsR PP pr skewnum_Dec.h (retH pr Try.f26.results.toList R)
def skewnum_Dec.J1.T (pr : Prim) (pts : Pts) (l_0 : SV) (R : Value → Mem → Prop) (M : Mem) : Prop := nc l_0.a fun a10 => (0 ≤ (0 : Int) ∧ (0 : Int) < ((l_0.n : Nat) : Int)) ∧ ob (pr.ld 3 (a10.add ((0 : Int).toNat * 1)) M) fun v11 => shI .i64 v11 fun n12 => nc l_0.a fun a13 => (0 ≤ (0 : Int) ∧ (0 : Int) < ((l_0.n : Nat) : Int)) ∧ ob (pr.ld 3 (a13.add ((0 : Int).toNat * 1)) M) fun v14 => shI .i64 v14 fun n15 => (0 ≤ (1 : Int) ∧ (1 : Int) ≤ ((l_0.n : Nat) : Int) ∧ ((l_0.n : Nat) : Int) ≤ ((l_0.c : Nat) : Int)) ∧ pr.bsl 34 2 [(0, .int .i64 (w64 (n12 - 1))), (1, .int .i64 (w64 (n15 - 1)))] (fun v16 M17 => shS v16 fun s18 => pr.app #[34, 34] 34 [SV.v s18, .slice (if l_0.c = (1 : Int).toNat then l_0.a else l_0.a.map (·.add ((1 : Int).toNat * 1))) (((l_0.n : Nat) : Int).toNat - (1 : Int).toNat) (l_0.c - (1 : Int).toNat)] (fun v19 M20 => shS v19 fun s21 => R (SV.v s21) M20) M17) M
theorem skewnum_Dec.J1.eqX (pr : Prim) (pts : Pts) (l_0 : SV) (R : Value → Mem → Prop) (M : Mem) : bodyX PP pr pts skewnum_Dec.h (retH pr Try.f26.results.toList R) [true, true] [] [(0, SV.v l_0)] M = skewnum_Dec.J1.T pr pts l_0 R M := by kernel_rfl
theorem skewnum_Dec.J1.eq (pr : Prim) (l_0 : SV) (R : Value → Mem → Prop) (M : Mem) : skewnum_Dec.J1 (skewnum_Dec.pts pr R) l_0 M = skewnum_Dec.J1.T pr (skewnum_Dec.pts pr R) l_0 R M :=
  (ptsR_eq (b := true) (p := [true]) (ns := []) rfl _ _).trans (skewnum_Dec.J1.eqX pr (skewnum_Dec.pts pr R) l_0 R M)
structure skewnum_Dec.Is (pr : Prim) (pts : Pts) (R : Value → Mem → Prop) : Prop where
  J1 : ∀ (l_0 : SV) (M : Mem), skewnum_Dec.J1 pts l_0 M = skewnum_Dec.J1.T pr pts l_0 R M
theorem skewnum_Dec.is (pr : Prim) (R : Value → Mem → Prop) : skewnum_Dec.Is pr (skewnum_Dec.pts pr R) R := ⟨fun l_0 M => skewnum_Dec.J1.eq pr l_0 R M⟩
def skewnum_Dec.T (pr : Prim) (pts : Pts) (l : SV) (R : Value → Mem → Prop) (M : Mem) : Prop := pr.call Id.skewnum_Right #[SV.v l] (fun v1 M2 => shB v1 fun b3 => bs (!b3) (R (.slice none 0 0) M2) (bs ((((l.n : Nat) : Int) == 0)) (R (.slice none 0 0) M2) (nc l.a fun a4 => (0 ≤ (0 : Int) ∧ (0 : Int) < ((l.n : Nat) : Int)) ∧ ob (pr.ld 3 (a4.add ((0 : Int).toNat * 1)) M2) fun v5 => shI .i64 v5 fun n6 => bs ((n6 == 0)) ((0 ≤ (1 : Int) ∧ (1 : Int) ≤ ((l.n : Nat) : Int) ∧ ((l.n : Nat) : Int) ≤ ((l.c : Nat) : Int)) ∧ pr.call Id.slices_Clone_int_int #[.slice (if l.c = (1 : Int).toNat then l.a else l.a.map (·.add ((1 : Int).toNat * 1))) (((l.n : Nat) : Int).toNat - (1 : Int).toNat) (l.c - (1 : Int).toNat)] (fun v7 M8 => shS v7 fun s9 => R (SV.v s9) M8) M2) (skewnum_Dec.J1 pts l M2)))) M
theorem skewnum_Dec.eqX (pr : Prim) (pts : Pts) (l : SV) (R : Value → Mem → Prop) (M : Mem) : wpX PP pr pts skewnum_Dec.h [] [] (retH pr Try.f26.results.toList R) (argEnv 0 [SV.v l]) M = skewnum_Dec.T pr pts l R M := by kernel_rfl
theorem skewnum_Dec.eq (pr : Prim) (l : SV) (R : Value → Mem → Prop) (M : Mem) : wpH PP pr skewnum_Dec.h (retH pr Try.f26.results.toList R) (argEnv 0 [SV.v l]) M = skewnum_Dec.T pr (skewnum_Dec.pts pr R) l R M := root_eq.trans (skewnum_Dec.eqX pr (skewnum_Dec.pts pr R) l R M)
theorem skewnum_Dec.fn : PP.funcs[Id.skewnum_Dec]? = some Try.f26 := Try.func26
theorem skewnum_Dec.can : callable PP Id.skewnum_Dec = true := by kernel_rfl
theorem skewnum_Dec.good : okH Try.f26.ntmps skewnum_Dec.h = true := by kernel_rfl
theorem skewnum_Dec.body : Try.f26.body = some ((Try.f26.body).getD .skip) := by kernel_rfl
theorem skewnum_Dec.size : (1 : Nat) ≤ Try.f26.ntmps := by decide
theorem skewnum_Dec.go (w0 : World) (l : SV) {R : Value → Mem → Prop} {M : Mem} (h : ∀ pts, skewnum_Dec.Is (std PP w0) pts R → skewnum_Dec.T (std PP w0) pts l R M) : C PP w0 Id.skewnum_Dec #[SV.v l] R M :=
  C_intro mixed skewnum_Dec.fn skewnum_Dec.body skewnum_Dec.can (annot_code _ _) skewnum_Dec.good skewnum_Dec.size ((skewnum_Dec.eq (std PP w0) l R M).mpr (h _ (skewnum_Dec.is _ _)))
-- thicket/thicketlaw10.known
noncomputable def thicketlaw10_known.h : HC := annot ((Try.f27.body).getD .skip) []
def thicketlaw10_known.T (pr : Prim) (R : Value → Mem → Prop) (M : Mem) : Prop := pr.call Id.skewnum_Of #[.int .i64 5] (fun v1 M2 => shS v1 fun s3 => pr.bsl 34 3 [(0, .int .i64 0), (1, .int .i64 0), (2, .int .i64 1)] (fun v4 M5 => shS v4 fun s6 => pr.call Id.thicketbook_Same_int #[SV.v s3, SV.v s6] (fun v7 M8 => shB v7 fun b9 => bs b9 (pr.bsl 34 2 [(0, .int .i64 0), (1, .int .i64 0)] (fun v10 M11 => shS v10 fun s12 => pr.call Id.skewnum_Inc #[SV.v s12] (fun v13 M14 => shS v13 fun s15 => pr.bsl 34 1 [(0, .int .i64 1)] (fun v16 M17 => shS v16 fun s18 => pr.call Id.thicketbook_Same_int #[SV.v s15, SV.v s18] (fun v19 M20 => shB v19 fun b21 => bs b21 (pr.bsl 34 1 [(0, .int .i64 1)] (fun v22 M23 => shS v22 fun s24 => pr.call Id.skewnum_Dec #[SV.v s24] (fun v25 M26 => shS v25 fun s27 => pr.bsl 34 2 [(0, .int .i64 0), (1, .int .i64 0)] (fun v28 M29 => shS v28 fun s30 => pr.call Id.thicketbook_Same_int #[SV.v s27, SV.v s30] (fun v31 M32 => shB v31 fun b33 => bs b33 (pr.bsl 34 2 [(0, .int .i64 1), (1, .int .i64 0)] (fun v34 M35 => shS v34 fun s36 => pr.call Id.skewnum_Value #[SV.v s36] (fun v37 M38 => shI .i64 v37 fun n39 => bs ((n39 == (-1))) (pr.call Id.skewnum_Right #[.slice none 0 0] (fun v40 M41 => shB v40 fun b42 => R (.bool b42) M41) M38) (R (.bool false) M38)) M35) M32) (R (.bool false) M32)) M29) M26) M23) M20) (R (.bool false) M20)) M17) M14) M11) M8) (R (.bool false) M8)) M5) M2) M
theorem thicketlaw10_known.eqX (pr : Prim) (pts : Pts) (R : Value → Mem → Prop) (M : Mem) : wpX PP pr pts thicketlaw10_known.h [] [] (retH pr Try.f27.results.toList R) (argEnv 0 []) M = thicketlaw10_known.T pr R M := by kernel_rfl
theorem thicketlaw10_known.eq (pr : Prim) (R : Value → Mem → Prop) (M : Mem) : wpH PP pr thicketlaw10_known.h (retH pr Try.f27.results.toList R) (argEnv 0 []) M = thicketlaw10_known.T pr R M := root_eq.trans (thicketlaw10_known.eqX pr (ptsR PP pr thicketlaw10_known.h (retH pr Try.f27.results.toList R)) R M)
theorem thicketlaw10_known.fn : PP.funcs[Id.thicketlaw10_known]? = some Try.f27 := Try.func27
theorem thicketlaw10_known.can : callable PP Id.thicketlaw10_known = true := by kernel_rfl
theorem thicketlaw10_known.good : okH Try.f27.ntmps thicketlaw10_known.h = true := by kernel_rfl
theorem thicketlaw10_known.body : Try.f27.body = some ((Try.f27.body).getD .skip) := by kernel_rfl
theorem thicketlaw10_known.size : (0 : Nat) ≤ Try.f27.ntmps := by decide
theorem thicketlaw10_known.go (w0 : World) {R : Value → Mem → Prop} {M : Mem} (h : thicketlaw10_known.T (std PP w0) R M) : C PP w0 Id.thicketlaw10_known #[] R M :=
  C_intro mixed thicketlaw10_known.fn thicketlaw10_known.body thicketlaw10_known.can (annot_code _ _) thicketlaw10_known.good thicketlaw10_known.size ((thicketlaw10_known.eq (std PP w0) R M).mpr h)
-- thicket/thicketbook.Within
noncomputable def thicketbook_Within.h : HC := annot ((Try.f28.body).getD .skip) [([true], [0, 1, 2])]
abbrev thicketbook_Within.J1 (pts : Pts) (n_0 : Int) (lo_1 : Int) (hi_2 : Int) (M : Mem) : Prop := pts [true, true] [] [(0, .int .i64 n_0), (1, .int .i64 lo_1), (2, .int .i64 hi_2)] M
def thicketbook_Within.pts (pr : Prim) (R : Value → Mem → Prop) : Pts := ptsR PP pr thicketbook_Within.h (retH pr Try.f28.results.toList R)
def thicketbook_Within.J1.T (pr : Prim) (pts : Pts) (n_0 : Int) (lo_1 : Int) (hi_2 : Int) (R : Value → Mem → Prop) (M : Mem) : Prop := (IntKind.i64 = IntKind.i64 ∧ (w64 ((w64 (hi_2 - lo_1)) + 1)) ≠ 0 ∧ bs (decide ((Int.tmod n_0 (w64 ((w64 (hi_2 - lo_1)) + 1))) < 0)) (R (.int .i64 (w64 (lo_1 + (w64 ((w64 ((w64 ((Int.tmod n_0 (w64 ((w64 (hi_2 - lo_1)) + 1))) + hi_2)) - lo_1)) + 1))))) M) (R (.int .i64 (w64 (lo_1 + (Int.tmod n_0 (w64 ((w64 (hi_2 - lo_1)) + 1)))))) M))
theorem thicketbook_Within.J1.eqX (pr : Prim) (pts : Pts) (n_0 : Int) (lo_1 : Int) (hi_2 : Int) (R : Value → Mem → Prop) (M : Mem) : bodyX PP pr pts thicketbook_Within.h (retH pr Try.f28.results.toList R) [true, true] [] [(0, .int .i64 n_0), (1, .int .i64 lo_1), (2, .int .i64 hi_2)] M = thicketbook_Within.J1.T pr pts n_0 lo_1 hi_2 R M := by kernel_rfl
theorem thicketbook_Within.J1.eq (pr : Prim) (n_0 : Int) (lo_1 : Int) (hi_2 : Int) (R : Value → Mem → Prop) (M : Mem) : thicketbook_Within.J1 (thicketbook_Within.pts pr R) n_0 lo_1 hi_2 M = thicketbook_Within.J1.T pr (thicketbook_Within.pts pr R) n_0 lo_1 hi_2 R M :=
  (ptsR_eq (b := true) (p := [true]) (ns := []) rfl _ _).trans (thicketbook_Within.J1.eqX pr (thicketbook_Within.pts pr R) n_0 lo_1 hi_2 R M)
structure thicketbook_Within.Is (pr : Prim) (pts : Pts) (R : Value → Mem → Prop) : Prop where
  J1 : ∀ (n_0 : Int) (lo_1 : Int) (hi_2 : Int) (M : Mem), thicketbook_Within.J1 pts n_0 lo_1 hi_2 M = thicketbook_Within.J1.T pr pts n_0 lo_1 hi_2 R M
theorem thicketbook_Within.is (pr : Prim) (R : Value → Mem → Prop) : thicketbook_Within.Is pr (thicketbook_Within.pts pr R) R := ⟨fun n_0 lo_1 hi_2 M => thicketbook_Within.J1.eq pr n_0 lo_1 hi_2 R M⟩
def thicketbook_Within.T (pr : Prim) (pts : Pts) (n : Int) (lo : Int) (hi : Int) (R : Value → Mem → Prop) (M : Mem) : Prop := bs (decide (n ≥ lo)) (bs (decide (n ≤ hi)) (R (.int .i64 n) M) (thicketbook_Within.J1 pts n lo hi M)) (thicketbook_Within.J1 pts n lo hi M)
theorem thicketbook_Within.eqX (pr : Prim) (pts : Pts) (n : Int) (lo : Int) (hi : Int) (R : Value → Mem → Prop) (M : Mem) : wpX PP pr pts thicketbook_Within.h [] [] (retH pr Try.f28.results.toList R) (argEnv 0 [.int .i64 n, .int .i64 lo, .int .i64 hi]) M = thicketbook_Within.T pr pts n lo hi R M := by kernel_rfl
theorem thicketbook_Within.eq (pr : Prim) (n : Int) (lo : Int) (hi : Int) (R : Value → Mem → Prop) (M : Mem) : wpH PP pr thicketbook_Within.h (retH pr Try.f28.results.toList R) (argEnv 0 [.int .i64 n, .int .i64 lo, .int .i64 hi]) M = thicketbook_Within.T pr (thicketbook_Within.pts pr R) n lo hi R M := root_eq.trans (thicketbook_Within.eqX pr (thicketbook_Within.pts pr R) n lo hi R M)
theorem thicketbook_Within.fn : PP.funcs[Id.thicketbook_Within]? = some Try.f28 := Try.func28
theorem thicketbook_Within.can : callable PP Id.thicketbook_Within = true := by kernel_rfl
theorem thicketbook_Within.good : okH Try.f28.ntmps thicketbook_Within.h = true := by kernel_rfl
theorem thicketbook_Within.body : Try.f28.body = some ((Try.f28.body).getD .skip) := by kernel_rfl
theorem thicketbook_Within.size : (3 : Nat) ≤ Try.f28.ntmps := by decide
theorem thicketbook_Within.go (w0 : World) (n : Int) (lo : Int) (hi : Int) {R : Value → Mem → Prop} {M : Mem} (h : ∀ pts, thicketbook_Within.Is (std PP w0) pts R → thicketbook_Within.T (std PP w0) pts n lo hi R M) : C PP w0 Id.thicketbook_Within #[.int .i64 n, .int .i64 lo, .int .i64 hi] R M :=
  C_intro mixed thicketbook_Within.fn thicketbook_Within.body thicketbook_Within.can (annot_code _ _) thicketbook_Within.good thicketbook_Within.size ((thicketbook_Within.eq (std PP w0) n lo hi R M).mpr (h _ (thicketbook_Within.is _ _)))
end Go.Proofs.Ytkibecgakkhljaa.HL
