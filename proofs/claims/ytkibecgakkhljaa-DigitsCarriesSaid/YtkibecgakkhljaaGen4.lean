/-
  Printed by gen.py (a program of this work) out of Lean's own print of the program: what each function's code comes to over the heap logic; each equation is checked by the kernel.
-/
import Derived.Test.YtkibecgakkhljaaGenId
set_option linter.unusedVariables false
set_option maxRecDepth 100000
namespace Go.Proofs.Ytkibecgakkhljaa.HL
open Go.Proofs
-- thicket/thicketref10.Right
noncomputable def thicketref10_Right.h : HC := annot ((Try.f41.body).getD .skip) [([true, false, true, false], [0, 3])]
abbrev thicketref10_Right.L1 (pts : Pts) (k : Nat) (l_0 : SV) (i_3 : Int) (M : Mem) : Prop := pts [false, false, true, false, true] [k] [(0, SV.v l_0), (3, .int .i64 i_3)] M
def thicketref10_Right.pts (pr : Prim) (R : Value → Mem → Prop) : Pts := ptsR PP pr thicketref10_Right.h (retH pr Try.f41.results.toList R)
def thicketref10_Right.L1.T (pr : Prim) (pts : Pts) (k : Nat) (l_0 : SV) (i_3 : Int) (R : Value → Mem → Prop) (M : Mem) : Prop := bs (decide (i_3 < ((l_0.n : Nat) : Int))) (nc l_0.a fun a2 => (0 ≤ i_3 ∧ i_3 < ((l_0.n : Nat) : Int)) ∧ ob (pr.ld 3 (a2.add (i_3.toNat * 1)) M) fun v3 => shI .i64 v3 fun n4 => bs (decide (n4 < 0)) (R (.bool false) M) (nc l_0.a fun a5 => (0 ≤ i_3 ∧ i_3 < ((l_0.n : Nat) : Int)) ∧ ob (pr.ld 3 (a5.add (i_3.toNat * 1)) M) fun v6 => shI .i64 v6 fun n7 => bs (decide (n7 > 28)) (R (.bool false) M) (bs (decide (i_3 > 0)) (nc l_0.a fun a8 => (0 ≤ i_3 ∧ i_3 < ((l_0.n : Nat) : Int)) ∧ ob (pr.ld 3 (a8.add (i_3.toNat * 1)) M) fun v9 => shI .i64 v9 fun n10 => nc l_0.a fun a11 => (0 ≤ (w64 (i_3 - 1)) ∧ (w64 (i_3 - 1)) < ((l_0.n : Nat) : Int)) ∧ ob (pr.ld 3 (a11.add ((w64 (i_3 - 1)).toNat * 1)) M) fun v12 => shI .i64 v12 fun n13 => bs (decide (n10 < n13)) (R (.bool false) M) (nc l_0.a fun a14 => (0 ≤ i_3 ∧ i_3 < ((l_0.n : Nat) : Int)) ∧ ob (pr.ld 3 (a14.add (i_3.toNat * 1)) M) fun v15 => shI .i64 v15 fun n16 => nc l_0.a fun a17 => (0 ≤ (w64 (i_3 - 1)) ∧ (w64 (i_3 - 1)) < ((l_0.n : Nat) : Int)) ∧ ob (pr.ld 3 (a17.add ((w64 (i_3 - 1)).toNat * 1)) M) fun v18 => shI .i64 v18 fun n19 => bs ((n16 == n19)) (bs (decide (i_3 > 1)) (R (.bool false) M) (thicketref10_Right.L1 pts k l_0 (w64 (i_3 + 1)) M)) (thicketref10_Right.L1 pts k l_0 (w64 (i_3 + 1)) M))) (thicketref10_Right.L1 pts k l_0 (w64 (i_3 + 1)) M)))) (R (.bool true) M)
theorem thicketref10_Right.L1.zero (pr : Prim) (l_0 : SV) (i_3 : Int) (R : Value → Mem → Prop) (M : Mem) : thicketref10_Right.L1 (thicketref10_Right.pts pr R) 0 l_0 i_3 M = False :=
  (ptsR_eq (b := false) (p := [false, true, false, true]) (ns := [0]) rfl _ _).trans (by kernel_rfl)
theorem thicketref10_Right.L1.eqX (pr : Prim) (pts : Pts) (k : Nat) (l_0 : SV) (i_3 : Int) (R : Value → Mem → Prop) (M : Mem) : bodyX PP pr pts thicketref10_Right.h (retH pr Try.f41.results.toList R) [false, false, true, false, true] [k + 1] [(0, SV.v l_0), (3, .int .i64 i_3)] M = thicketref10_Right.L1.T pr pts k l_0 i_3 R M := by kernel_rfl
theorem thicketref10_Right.L1.succ (pr : Prim) (k : Nat) (l_0 : SV) (i_3 : Int) (R : Value → Mem → Prop) (M : Mem) : thicketref10_Right.L1 (thicketref10_Right.pts pr R) (k + 1) l_0 i_3 M = thicketref10_Right.L1.T pr (thicketref10_Right.pts pr R) k l_0 i_3 R M :=
  (ptsR_eq (b := false) (p := [false, true, false, true]) (ns := [k + 1]) rfl _ _).trans (thicketref10_Right.L1.eqX pr (thicketref10_Right.pts pr R) k l_0 i_3 R M)
structure thicketref10_Right.Is (pr : Prim) (pts : Pts) (R : Value → Mem → Prop) : Prop where
  L1 : ∀ (k : Nat) (l_0 : SV) (i_3 : Int) (M : Mem), thicketref10_Right.L1 pts (k + 1) l_0 i_3 M = thicketref10_Right.L1.T pr pts k l_0 i_3 R M
theorem thicketref10_Right.is (pr : Prim) (R : Value → Mem → Prop) : thicketref10_Right.Is pr (thicketref10_Right.pts pr R) R := ⟨fun k l_0 i_3 M => thicketref10_Right.L1.succ pr k l_0 i_3 R M⟩
def thicketref10_Right.T (pr : Prim) (pts : Pts) (l : SV) (R : Value → Mem → Prop) (M : Mem) : Prop := ∃ k1, thicketref10_Right.L1 pts k1 l 0 M
theorem thicketref10_Right.eqX (pr : Prim) (pts : Pts) (l : SV) (R : Value → Mem → Prop) (M : Mem) : wpX PP pr pts thicketref10_Right.h [] [] (retH pr Try.f41.results.toList R) (argEnv 0 [SV.v l]) M = thicketref10_Right.T pr pts l R M := by kernel_rfl
theorem thicketref10_Right.eq (pr : Prim) (l : SV) (R : Value → Mem → Prop) (M : Mem) : wpH PP pr thicketref10_Right.h (retH pr Try.f41.results.toList R) (argEnv 0 [SV.v l]) M = thicketref10_Right.T pr (thicketref10_Right.pts pr R) l R M := root_eq.trans (thicketref10_Right.eqX pr (thicketref10_Right.pts pr R) l R M)
theorem thicketref10_Right.fn : PP.funcs[Id.thicketref10_Right]? = some Try.f41 := Try.func41
theorem thicketref10_Right.can : callable PP Id.thicketref10_Right = true := by kernel_rfl
theorem thicketref10_Right.good : okH Try.f41.ntmps thicketref10_Right.h = true := by kernel_rfl
theorem thicketref10_Right.body : Try.f41.body = some ((Try.f41.body).getD .skip) := by kernel_rfl
theorem thicketref10_Right.size : (1 : Nat) ≤ Try.f41.ntmps := by decide
theorem thicketref10_Right.go (w0 : World) (l : SV) {R : Value → Mem → Prop} {M : Mem} (h : ∀ pts, thicketref10_Right.Is (std PP w0) pts R → thicketref10_Right.T (std PP w0) pts l R M) : C PP w0 Id.thicketref10_Right #[SV.v l] R M :=
  C_intro mixed thicketref10_Right.fn thicketref10_Right.body thicketref10_Right.can (annot_code _ _) thicketref10_Right.good thicketref10_Right.size ((thicketref10_Right.eq (std PP w0) l R M).mpr (h _ (thicketref10_Right.is _ _)))
-- thicket/order.Add
noncomputable def order_Add.h : HC := annot ((Try.f42.body).getD .skip) []
def order_Add.T (pr : Prim) (a : Int) (b : Int) (R : Value → Mem → Prop) (M : Mem) : Prop := bs (decide (b > 0)) (bs (decide (a > (w64 (9223372036854775807 - b)))) (R (.int .i64 9223372036854775807) M) (bs (decide (b < 0)) (bs (decide (a < (w64 ((-9223372036854775808) - b)))) (R (.int .i64 (-9223372036854775808)) M) (R (.int .i64 (w64 (a + b))) M)) (R (.int .i64 (w64 (a + b))) M))) (bs (decide (b < 0)) (bs (decide (a < (w64 ((-9223372036854775808) - b)))) (R (.int .i64 (-9223372036854775808)) M) (R (.int .i64 (w64 (a + b))) M)) (R (.int .i64 (w64 (a + b))) M))
theorem order_Add.eqX (pr : Prim) (pts : Pts) (a : Int) (b : Int) (R : Value → Mem → Prop) (M : Mem) : wpX PP pr pts order_Add.h [] [] (retH pr Try.f42.results.toList R) (argEnv 0 [.int .i64 a, .int .i64 b]) M = order_Add.T pr a b R M := by kernel_rfl
theorem order_Add.eq (pr : Prim) (a : Int) (b : Int) (R : Value → Mem → Prop) (M : Mem) : wpH PP pr order_Add.h (retH pr Try.f42.results.toList R) (argEnv 0 [.int .i64 a, .int .i64 b]) M = order_Add.T pr a b R M := root_eq.trans (order_Add.eqX pr (ptsR PP pr order_Add.h (retH pr Try.f42.results.toList R)) a b R M)
theorem order_Add.fn : PP.funcs[Id.order_Add]? = some Try.f42 := Try.func42
theorem order_Add.can : callable PP Id.order_Add = true := by kernel_rfl
theorem order_Add.good : okH Try.f42.ntmps order_Add.h = true := by kernel_rfl
theorem order_Add.body : Try.f42.body = some ((Try.f42.body).getD .skip) := by kernel_rfl
theorem order_Add.size : (2 : Nat) ≤ Try.f42.ntmps := by decide
theorem order_Add.go (w0 : World) (a : Int) (b : Int) {R : Value → Mem → Prop} {M : Mem} (h : order_Add.T (std PP w0) a b R M) : C PP w0 Id.order_Add #[.int .i64 a, .int .i64 b] R M :=
  C_intro mixed order_Add.fn order_Add.body order_Add.can (annot_code _ _) order_Add.good order_Add.size ((order_Add.eq (std PP w0) a b R M).mpr h)
-- thicket/skewnum.weight
noncomputable def skewnum_weight.h : HC := annot ((Try.f43.body).getD .skip) []
def skewnum_weight.T (pr : Prim) (k : Int) (R : Value → Mem → Prop) (M : Mem) : Prop := (0 ≤ (w64 (k + 1)) ∧ R (.int .i64 (w64 ((w64 (1 * 2 ^ (min (w64 (k + 1)).toNat (IntKind.bits .i64)))) - 1))) M)
theorem skewnum_weight.eqX (pr : Prim) (pts : Pts) (k : Int) (R : Value → Mem → Prop) (M : Mem) : wpX PP pr pts skewnum_weight.h [] [] (retH pr Try.f43.results.toList R) (argEnv 0 [.int .i64 k]) M = skewnum_weight.T pr k R M := by kernel_rfl
theorem skewnum_weight.eq (pr : Prim) (k : Int) (R : Value → Mem → Prop) (M : Mem) : wpH PP pr skewnum_weight.h (retH pr Try.f43.results.toList R) (argEnv 0 [.int .i64 k]) M = skewnum_weight.T pr k R M := root_eq.trans (skewnum_weight.eqX pr (ptsR PP pr skewnum_weight.h (retH pr Try.f43.results.toList R)) k R M)
theorem skewnum_weight.fn : PP.funcs[Id.skewnum_weight]? = some Try.f43 := Try.func43
theorem skewnum_weight.can : callable PP Id.skewnum_weight = true := by kernel_rfl
theorem skewnum_weight.good : okH Try.f43.ntmps skewnum_weight.h = true := by kernel_rfl
theorem skewnum_weight.body : Try.f43.body = some ((Try.f43.body).getD .skip) := by kernel_rfl
theorem skewnum_weight.size : (1 : Nat) ≤ Try.f43.ntmps := by decide
theorem skewnum_weight.go (w0 : World) (k : Int) {R : Value → Mem → Prop} {M : Mem} (h : skewnum_weight.T (std PP w0) k R M) : C PP w0 Id.skewnum_weight #[.int .i64 k] R M :=
  C_intro mixed skewnum_weight.fn skewnum_weight.body skewnum_weight.can (annot_code _ _) skewnum_weight.good skewnum_weight.size ((skewnum_weight.eq (std PP w0) k R M).mpr h)
-- slices.Reverse[[]int,int]
noncomputable def slices_Reverse_int_int.h : HC := annot ((Try.f44.body).getD .skip) [([true, false], [0, 2, 3])]
abbrev slices_Reverse_int_int.L1 (pts : Pts) (k : Nat) (s_0 : SV) (i_2 : Int) (j_3 : Int) (M : Mem) : Prop := pts [false, false, true] [k] [(0, SV.v s_0), (2, .int .i64 i_2), (3, .int .i64 j_3)] M
def slices_Reverse_int_int.pts (pr : Prim) (R : Value → Mem → Prop) : Pts := ptsR PP pr slices_Reverse_int_int.h (retH pr Try.f44.results.toList R)
def slices_Reverse_int_int.L1.T (pr : Prim) (pts : Pts) (k : Nat) (s_0 : SV) (i_2 : Int) (j_3 : Int) (R : Value → Mem → Prop) (M : Mem) : Prop := bs (decide (i_2 < j_3)) (nc s_0.a fun a2 => (0 ≤ j_3 ∧ j_3 < ((s_0.n : Nat) : Int)) ∧ ob (pr.ld 3 (a2.add (j_3.toNat * 1)) M) fun v3 => shI .i64 v3 fun n4 => nc s_0.a fun a5 => (0 ≤ i_2 ∧ i_2 < ((s_0.n : Nat) : Int)) ∧ ob (pr.ld 3 (a5.add (i_2.toNat * 1)) M) fun v6 => shI .i64 v6 fun n7 => nc s_0.a fun a8 => (0 ≤ i_2 ∧ i_2 < ((s_0.n : Nat) : Int)) ∧ pr.st 3 (a8.add (i_2.toNat * 1)) (.int .i64 n4) (fun M9 => nc s_0.a fun a10 => (0 ≤ j_3 ∧ j_3 < ((s_0.n : Nat) : Int)) ∧ pr.st 3 (a10.add (j_3.toNat * 1)) (.int .i64 n7) (fun M11 => slices_Reverse_int_int.L1 pts k s_0 (w64 (i_2 + 1)) (w64 (j_3 - 1)) M11) M9) M) (R (.tuple #[]) M)
theorem slices_Reverse_int_int.L1.zero (pr : Prim) (s_0 : SV) (i_2 : Int) (j_3 : Int) (R : Value → Mem → Prop) (M : Mem) : slices_Reverse_int_int.L1 (slices_Reverse_int_int.pts pr R) 0 s_0 i_2 j_3 M = False :=
  (ptsR_eq (b := false) (p := [false, true]) (ns := [0]) rfl _ _).trans (by kernel_rfl)
theorem slices_Reverse_int_int.L1.eqX (pr : Prim) (pts : Pts) (k : Nat) (s_0 : SV) (i_2 : Int) (j_3 : Int) (R : Value → Mem → Prop) (M : Mem) : bodyX PP pr pts slices_Reverse_int_int.h (retH pr Try.f44.results.toList R) [false, false, true] [k + 1] [(0, SV.v s_0), (2, .int .i64 i_2), (3, .int .i64 j_3)] M = slices_Reverse_int_int.L1.T pr pts k s_0 i_2 j_3 R M := by kernel_rfl
theorem slices_Reverse_int_int.L1.succ (pr : Prim) (k : Nat) (s_0 : SV) (i_2 : Int) (j_3 : Int) (R : Value → Mem → Prop) (M : Mem) : slices_Reverse_int_int.L1 (slices_Reverse_int_int.pts pr R) (k + 1) s_0 i_2 j_3 M = slices_Reverse_int_int.L1.T pr (slices_Reverse_int_int.pts pr R) k s_0 i_2 j_3 R M :=
  (ptsR_eq (b := false) (p := [false, true]) (ns := [k + 1]) rfl _ _).trans (slices_Reverse_int_int.L1.eqX pr (slices_Reverse_int_int.pts pr R) k s_0 i_2 j_3 R M)
structure slices_Reverse_int_int.Is (pr : Prim) (pts : Pts) (R : Value → Mem → Prop) : Prop where
  L1 : ∀ (k : Nat) (s_0 : SV) (i_2 : Int) (j_3 : Int) (M : Mem), slices_Reverse_int_int.L1 pts (k + 1) s_0 i_2 j_3 M = slices_Reverse_int_int.L1.T pr pts k s_0 i_2 j_3 R M
theorem slices_Reverse_int_int.is (pr : Prim) (R : Value → Mem → Prop) : slices_Reverse_int_int.Is pr (slices_Reverse_int_int.pts pr R) R := ⟨fun k s_0 i_2 j_3 M => slices_Reverse_int_int.L1.succ pr k s_0 i_2 j_3 R M⟩
def slices_Reverse_int_int.T (pr : Prim) (pts : Pts) (s : SV) (R : Value → Mem → Prop) (M : Mem) : Prop := ∃ k1, slices_Reverse_int_int.L1 pts k1 s 0 (w64 (((s.n : Nat) : Int) - 1)) M
theorem slices_Reverse_int_int.eqX (pr : Prim) (pts : Pts) (s : SV) (R : Value → Mem → Prop) (M : Mem) : wpX PP pr pts slices_Reverse_int_int.h [] [] (retH pr Try.f44.results.toList R) (argEnv 0 [SV.v s]) M = slices_Reverse_int_int.T pr pts s R M := by kernel_rfl
theorem slices_Reverse_int_int.eq (pr : Prim) (s : SV) (R : Value → Mem → Prop) (M : Mem) : wpH PP pr slices_Reverse_int_int.h (retH pr Try.f44.results.toList R) (argEnv 0 [SV.v s]) M = slices_Reverse_int_int.T pr (slices_Reverse_int_int.pts pr R) s R M := root_eq.trans (slices_Reverse_int_int.eqX pr (slices_Reverse_int_int.pts pr R) s R M)
theorem slices_Reverse_int_int.fn : PP.funcs[Id.slices_Reverse_int_int]? = some Try.f44 := Try.func44
theorem slices_Reverse_int_int.can : callable PP Id.slices_Reverse_int_int = true := by kernel_rfl
theorem slices_Reverse_int_int.good : okH Try.f44.ntmps slices_Reverse_int_int.h = true := by kernel_rfl
theorem slices_Reverse_int_int.body : Try.f44.body = some ((Try.f44.body).getD .skip) := by kernel_rfl
theorem slices_Reverse_int_int.size : (1 : Nat) ≤ Try.f44.ntmps := by decide
theorem slices_Reverse_int_int.go (w0 : World) (s : SV) {R : Value → Mem → Prop} {M : Mem} (h : ∀ pts, slices_Reverse_int_int.Is (std PP w0) pts R → slices_Reverse_int_int.T (std PP w0) pts s R M) : C PP w0 Id.slices_Reverse_int_int #[SV.v s] R M :=
  C_intro mixed slices_Reverse_int_int.fn slices_Reverse_int_int.body slices_Reverse_int_int.can (annot_code _ _) slices_Reverse_int_int.good slices_Reverse_int_int.size ((slices_Reverse_int_int.eq (std PP w0) s R M).mpr (h _ (slices_Reverse_int_int.is _ _)))
-- thicket/thicketref10.Inc
noncomputable def thicketref10_Inc.h : HC := annot ((Try.f45.body).getD .skip) []
def thicketref10_Inc.T (pr : Prim) (l : SV) (R : Value → Mem → Prop) (M : Mem) : Prop := pr.call Id.thicketref10_Right #[SV.v l] (fun v1 M2 => shB v1 fun b3 => bs (!b3) (R (.tuple #[.slice none 0 0, .bool false]) M2) (bs (decide (((l.n : Nat) : Int) > 1)) (nc l.a fun a4 => (0 ≤ (0 : Int) ∧ (0 : Int) < ((l.n : Nat) : Int)) ∧ ob (pr.ld 3 (a4.add ((0 : Int).toNat * 1)) M2) fun v5 => shI .i64 v5 fun n6 => nc l.a fun a7 => (0 ≤ (1 : Int) ∧ (1 : Int) < ((l.n : Nat) : Int)) ∧ ob (pr.ld 3 (a7.add ((1 : Int).toNat * 1)) M2) fun v8 => shI .i64 v8 fun n9 => bs ((n6 == n9)) (nc l.a fun a10 => (0 ≤ (0 : Int) ∧ (0 : Int) < ((l.n : Nat) : Int)) ∧ ob (pr.ld 3 (a10.add ((0 : Int).toNat * 1)) M2) fun v11 => shI .i64 v11 fun n12 => bs ((n12 == 28)) (R (.tuple #[.slice none 0 0, .bool false]) M2) (nc l.a fun a13 => (0 ≤ (0 : Int) ∧ (0 : Int) < ((l.n : Nat) : Int)) ∧ ob (pr.ld 3 (a13.add ((0 : Int).toNat * 1)) M2) fun v14 => shI .i64 v14 fun n15 => (0 ≤ (2 : Int) ∧ (2 : Int) ≤ ((l.n : Nat) : Int) ∧ ((l.n : Nat) : Int) ≤ ((l.c : Nat) : Int)) ∧ pr.bsl 34 1 [(0, .int .i64 (w64 (n15 + 1)))] (fun v16 M17 => shS v16 fun s18 => pr.app #[34, 34] 34 [SV.v s18, .slice (if l.c = (2 : Int).toNat then l.a else l.a.map (·.add ((2 : Int).toNat * 1))) (((l.n : Nat) : Int).toNat - (2 : Int).toNat) (l.c - (2 : Int).toNat)] (fun v19 M20 => shS v19 fun s21 => R (.tuple #[SV.v s21, .bool true]) M20) M17) M2)) (pr.bsl 34 1 [(0, .int .i64 0)] (fun v22 M23 => shS v22 fun s24 => pr.app #[34, 34] 34 [SV.v s24, SV.v l] (fun v25 M26 => shS v25 fun s27 => R (.tuple #[SV.v s27, .bool true]) M26) M23) M2)) (pr.bsl 34 1 [(0, .int .i64 0)] (fun v28 M29 => shS v28 fun s30 => pr.app #[34, 34] 34 [SV.v s30, SV.v l] (fun v31 M32 => shS v31 fun s33 => R (.tuple #[SV.v s33, .bool true]) M32) M29) M2))) M
theorem thicketref10_Inc.eqX (pr : Prim) (pts : Pts) (l : SV) (R : Value → Mem → Prop) (M : Mem) : wpX PP pr pts thicketref10_Inc.h [] [] (retH pr Try.f45.results.toList R) (argEnv 0 [SV.v l]) M = thicketref10_Inc.T pr l R M := by kernel_rfl
theorem thicketref10_Inc.eq (pr : Prim) (l : SV) (R : Value → Mem → Prop) (M : Mem) : wpH PP pr thicketref10_Inc.h (retH pr Try.f45.results.toList R) (argEnv 0 [SV.v l]) M = thicketref10_Inc.T pr l R M := root_eq.trans (thicketref10_Inc.eqX pr (ptsR PP pr thicketref10_Inc.h (retH pr Try.f45.results.toList R)) l R M)
theorem thicketref10_Inc.fn : PP.funcs[Id.thicketref10_Inc]? = some Try.f45 := Try.func45
theorem thicketref10_Inc.can : callable PP Id.thicketref10_Inc = true := by kernel_rfl
theorem thicketref10_Inc.good : okH Try.f45.ntmps thicketref10_Inc.h = true := by kernel_rfl
theorem thicketref10_Inc.body : Try.f45.body = some ((Try.f45.body).getD .skip) := by kernel_rfl
theorem thicketref10_Inc.size : (1 : Nat) ≤ Try.f45.ntmps := by decide
theorem thicketref10_Inc.go (w0 : World) (l : SV) {R : Value → Mem → Prop} {M : Mem} (h : thicketref10_Inc.T (std PP w0) l R M) : C PP w0 Id.thicketref10_Inc #[SV.v l] R M :=
  C_intro mixed thicketref10_Inc.fn thicketref10_Inc.body thicketref10_Inc.can (annot_code _ _) thicketref10_Inc.good thicketref10_Inc.size ((thicketref10_Inc.eq (std PP w0) l R M).mpr h)
-- thicket/thicketref10.Dec
noncomputable def thicketref10_Dec.h : HC := annot ((Try.f46.body).getD .skip) [([true], [0])]
abbrev thicketref10_Dec.J1 (pts : Pts) (l_0 : SV) (M : Mem) : Prop := pts [true, true] [] [(0, SV.v l_0)] M
def thicketref10_Dec.pts (pr : Prim) (R : Value → Mem → Prop) : Pts := ptsR PP pr thicketref10_Dec.h (retH pr Try.f46.results.toList R)
def thicketref10_Dec.J1.T (pr : Prim) (pts : Pts) (l_0 : SV) (R : Value → Mem → Prop) (M : Mem) : Prop := nc l_0.a fun a4 => (0 ≤ (0 : Int) ∧ (0 : Int) < ((l_0.n : Nat) : Int)) ∧ ob (pr.ld 3 (a4.add ((0 : Int).toNat * 1)) M) fun v5 => shI .i64 v5 fun n6 => bs ((n6 == 0)) (pr.bsl 34 0 [] (fun v7 M8 => shS v7 fun s9 => (0 ≤ (1 : Int) ∧ (1 : Int) ≤ ((l_0.n : Nat) : Int) ∧ ((l_0.n : Nat) : Int) ≤ ((l_0.c : Nat) : Int)) ∧ pr.app #[34, 34] 34 [SV.v s9, .slice (if l_0.c = (1 : Int).toNat then l_0.a else l_0.a.map (·.add ((1 : Int).toNat * 1))) (((l_0.n : Nat) : Int).toNat - (1 : Int).toNat) (l_0.c - (1 : Int).toNat)] (fun v10 M11 => shS v10 fun s12 => R (.tuple #[SV.v s12, .bool true]) M11) M8) M) (nc l_0.a fun a13 => (0 ≤ (0 : Int) ∧ (0 : Int) < ((l_0.n : Nat) : Int)) ∧ ob (pr.ld 3 (a13.add ((0 : Int).toNat * 1)) M) fun v14 => shI .i64 v14 fun n15 => nc l_0.a fun a16 => (0 ≤ (0 : Int) ∧ (0 : Int) < ((l_0.n : Nat) : Int)) ∧ ob (pr.ld 3 (a16.add ((0 : Int).toNat * 1)) M) fun v17 => shI .i64 v17 fun n18 => (0 ≤ (1 : Int) ∧ (1 : Int) ≤ ((l_0.n : Nat) : Int) ∧ ((l_0.n : Nat) : Int) ≤ ((l_0.c : Nat) : Int)) ∧ pr.bsl 34 2 [(0, .int .i64 (w64 (n15 - 1))), (1, .int .i64 (w64 (n18 - 1)))] (fun v19 M20 => shS v19 fun s21 => pr.app #[34, 34] 34 [SV.v s21, .slice (if l_0.c = (1 : Int).toNat then l_0.a else l_0.a.map (·.add ((1 : Int).toNat * 1))) (((l_0.n : Nat) : Int).toNat - (1 : Int).toNat) (l_0.c - (1 : Int).toNat)] (fun v22 M23 => shS v22 fun s24 => R (.tuple #[SV.v s24, .bool true]) M23) M20) M)
theorem thicketref10_Dec.J1.eqX (pr : Prim) (pts : Pts) (l_0 : SV) (R : Value → Mem → Prop) (M : Mem) : bodyX PP pr pts thicketref10_Dec.h (retH pr Try.f46.results.toList R) [true, true] [] [(0, SV.v l_0)] M = thicketref10_Dec.J1.T pr pts l_0 R M := by kernel_rfl
theorem thicketref10_Dec.J1.eq (pr : Prim) (l_0 : SV) (R : Value → Mem → Prop) (M : Mem) : thicketref10_Dec.J1 (thicketref10_Dec.pts pr R) l_0 M = thicketref10_Dec.J1.T pr (thicketref10_Dec.pts pr R) l_0 R M :=
  (ptsR_eq (b := true) (p := [true]) (ns := []) rfl _ _).trans (thicketref10_Dec.J1.eqX pr (thicketref10_Dec.pts pr R) l_0 R M)
structure thicketref10_Dec.Is (pr : Prim) (pts : Pts) (R : Value → Mem → Prop) : Prop where
  J1 : ∀ (l_0 : SV) (M : Mem), thicketref10_Dec.J1 pts l_0 M = thicketref10_Dec.J1.T pr pts l_0 R M
theorem thicketref10_Dec.is (pr : Prim) (R : Value → Mem → Prop) : thicketref10_Dec.Is pr (thicketref10_Dec.pts pr R) R := ⟨fun l_0 M => thicketref10_Dec.J1.eq pr l_0 R M⟩
def thicketref10_Dec.T (pr : Prim) (pts : Pts) (l : SV) (R : Value → Mem → Prop) (M : Mem) : Prop := pr.call Id.thicketref10_Right #[SV.v l] (fun v1 M2 => shB v1 fun b3 => bs (!b3) (R (.tuple #[.slice none 0 0, .bool false]) M2) (bs ((((l.n : Nat) : Int) == 0)) (R (.tuple #[.slice none 0 0, .bool false]) M2) (thicketref10_Dec.J1 pts l M2))) M
theorem thicketref10_Dec.eqX (pr : Prim) (pts : Pts) (l : SV) (R : Value → Mem → Prop) (M : Mem) : wpX PP pr pts thicketref10_Dec.h [] [] (retH pr Try.f46.results.toList R) (argEnv 0 [SV.v l]) M = thicketref10_Dec.T pr pts l R M := by kernel_rfl
theorem thicketref10_Dec.eq (pr : Prim) (l : SV) (R : Value → Mem → Prop) (M : Mem) : wpH PP pr thicketref10_Dec.h (retH pr Try.f46.results.toList R) (argEnv 0 [SV.v l]) M = thicketref10_Dec.T pr (thicketref10_Dec.pts pr R) l R M := root_eq.trans (thicketref10_Dec.eqX pr (thicketref10_Dec.pts pr R) l R M)
theorem thicketref10_Dec.fn : PP.funcs[Id.thicketref10_Dec]? = some Try.f46 := Try.func46
theorem thicketref10_Dec.can : callable PP Id.thicketref10_Dec = true := by kernel_rfl
theorem thicketref10_Dec.good : okH Try.f46.ntmps thicketref10_Dec.h = true := by kernel_rfl
theorem thicketref10_Dec.body : Try.f46.body = some ((Try.f46.body).getD .skip) := by kernel_rfl
theorem thicketref10_Dec.size : (1 : Nat) ≤ Try.f46.ntmps := by decide
theorem thicketref10_Dec.go (w0 : World) (l : SV) {R : Value → Mem → Prop} {M : Mem} (h : ∀ pts, thicketref10_Dec.Is (std PP w0) pts R → thicketref10_Dec.T (std PP w0) pts l R M) : C PP w0 Id.thicketref10_Dec #[SV.v l] R M :=
  C_intro mixed thicketref10_Dec.fn thicketref10_Dec.body thicketref10_Dec.can (annot_code _ _) thicketref10_Dec.good thicketref10_Dec.size ((thicketref10_Dec.eq (std PP w0) l R M).mpr (h _ (thicketref10_Dec.is _ _)))
-- thicket/thicketref10.Value
noncomputable def thicketref10_Value.h : HC := annot ((Try.f47.body).getD .skip) [([true, true, true, false, true, false], [0, 3, 4])]
abbrev thicketref10_Value.L1 (pts : Pts) (k : Nat) (l_0 : SV) (n_3 : Int) (i_4 : Int) (M : Mem) : Prop := pts [false, false, true, false, true, true, true] [k] [(0, SV.v l_0), (3, .int .i64 n_3), (4, .int .i64 i_4)] M
def thicketref10_Value.pts (pr : Prim) (R : Value → Mem → Prop) : Pts := ptsR PP pr thicketref10_Value.h (retH pr Try.f47.results.toList R)
def thicketref10_Value.L1.T (pr : Prim) (pts : Pts) (k : Nat) (l_0 : SV) (n_3 : Int) (i_4 : Int) (R : Value → Mem → Prop) (M : Mem) : Prop := bs (decide (i_4 < ((l_0.n : Nat) : Int))) (nc l_0.a fun a5 => (0 ≤ i_4 ∧ i_4 < ((l_0.n : Nat) : Int)) ∧ ob (pr.ld 3 (a5.add (i_4.toNat * 1)) M) fun v6 => shI .i64 v6 fun n7 => (0 ≤ (u64 ((w64 (n7 + 1)))) ∧ thicketref10_Value.L1 pts k l_0 (w64 ((w64 (n_3 + (w64 (1 * 2 ^ (min (u64 ((w64 (n7 + 1)))).toNat (IntKind.bits .i64)))))) - 1)) (w64 (i_4 + 1)) M)) (R (.int .i64 n_3) M)
theorem thicketref10_Value.L1.zero (pr : Prim) (l_0 : SV) (n_3 : Int) (i_4 : Int) (R : Value → Mem → Prop) (M : Mem) : thicketref10_Value.L1 (thicketref10_Value.pts pr R) 0 l_0 n_3 i_4 M = False :=
  (ptsR_eq (b := false) (p := [false, true, false, true, true, true]) (ns := [0]) rfl _ _).trans (by kernel_rfl)
theorem thicketref10_Value.L1.eqX (pr : Prim) (pts : Pts) (k : Nat) (l_0 : SV) (n_3 : Int) (i_4 : Int) (R : Value → Mem → Prop) (M : Mem) : bodyX PP pr pts thicketref10_Value.h (retH pr Try.f47.results.toList R) [false, false, true, false, true, true, true] [k + 1] [(0, SV.v l_0), (3, .int .i64 n_3), (4, .int .i64 i_4)] M = thicketref10_Value.L1.T pr pts k l_0 n_3 i_4 R M := by kernel_rfl
theorem thicketref10_Value.L1.succ (pr : Prim) (k : Nat) (l_0 : SV) (n_3 : Int) (i_4 : Int) (R : Value → Mem → Prop) (M : Mem) : thicketref10_Value.L1 (thicketref10_Value.pts pr R) (k + 1) l_0 n_3 i_4 M = thicketref10_Value.L1.T pr (thicketref10_Value.pts pr R) k l_0 n_3 i_4 R M :=
  (ptsR_eq (b := false) (p := [false, true, false, true, true, true]) (ns := [k + 1]) rfl _ _).trans (thicketref10_Value.L1.eqX pr (thicketref10_Value.pts pr R) k l_0 n_3 i_4 R M)
structure thicketref10_Value.Is (pr : Prim) (pts : Pts) (R : Value → Mem → Prop) : Prop where
  L1 : ∀ (k : Nat) (l_0 : SV) (n_3 : Int) (i_4 : Int) (M : Mem), thicketref10_Value.L1 pts (k + 1) l_0 n_3 i_4 M = thicketref10_Value.L1.T pr pts k l_0 n_3 i_4 R M
theorem thicketref10_Value.is (pr : Prim) (R : Value → Mem → Prop) : thicketref10_Value.Is pr (thicketref10_Value.pts pr R) R := ⟨fun k l_0 n_3 i_4 M => thicketref10_Value.L1.succ pr k l_0 n_3 i_4 R M⟩
def thicketref10_Value.T (pr : Prim) (pts : Pts) (l : SV) (R : Value → Mem → Prop) (M : Mem) : Prop := pr.call Id.thicketref10_Right #[SV.v l] (fun v1 M2 => shB v1 fun b3 => bs (!b3) (R (.int .i64 (-1)) M2) (∃ k4, thicketref10_Value.L1 pts k4 l 0 0 M2)) M
theorem thicketref10_Value.eqX (pr : Prim) (pts : Pts) (l : SV) (R : Value → Mem → Prop) (M : Mem) : wpX PP pr pts thicketref10_Value.h [] [] (retH pr Try.f47.results.toList R) (argEnv 0 [SV.v l]) M = thicketref10_Value.T pr pts l R M := by kernel_rfl
theorem thicketref10_Value.eq (pr : Prim) (l : SV) (R : Value → Mem → Prop) (M : Mem) : wpH PP pr thicketref10_Value.h (retH pr Try.f47.results.toList R) (argEnv 0 [SV.v l]) M = thicketref10_Value.T pr (thicketref10_Value.pts pr R) l R M := root_eq.trans (thicketref10_Value.eqX pr (thicketref10_Value.pts pr R) l R M)
theorem thicketref10_Value.fn : PP.funcs[Id.thicketref10_Value]? = some Try.f47 := Try.func47
theorem thicketref10_Value.can : callable PP Id.thicketref10_Value = true := by kernel_rfl
theorem thicketref10_Value.good : okH Try.f47.ntmps thicketref10_Value.h = true := by kernel_rfl
theorem thicketref10_Value.body : Try.f47.body = some ((Try.f47.body).getD .skip) := by kernel_rfl
theorem thicketref10_Value.size : (1 : Nat) ≤ Try.f47.ntmps := by decide
theorem thicketref10_Value.go (w0 : World) (l : SV) {R : Value → Mem → Prop} {M : Mem} (h : ∀ pts, thicketref10_Value.Is (std PP w0) pts R → thicketref10_Value.T (std PP w0) pts l R M) : C PP w0 Id.thicketref10_Value #[SV.v l] R M :=
  C_intro mixed thicketref10_Value.fn thicketref10_Value.body thicketref10_Value.can (annot_code _ _) thicketref10_Value.good thicketref10_Value.size ((thicketref10_Value.eq (std PP w0) l R M).mpr (h _ (thicketref10_Value.is _ _)))
-- slices.Clone[[]int,int]
noncomputable def slices_Clone_int_int.h : HC := annot ((Try.f48.body).getD .skip) []
def slices_Clone_int_int.T (pr : Prim) (s : SV) (R : Value → Mem → Prop) (M : Mem) : Prop := ob (pr.bq .eql 34 (.tmp 3) (.const (.slice none 0 0)) (SV.v s) (.slice none 0 0)) fun v1 => shB v1 fun b2 => bs b2 (R (.slice none 0 0) M) (pr.bsl 34 0 [] (fun v3 M4 => shS v3 fun s5 => pr.app #[34, 34] 34 [SV.v s5, SV.v s] (fun v6 M7 => shS v6 fun s8 => R (SV.v s8) M7) M4) M)
theorem slices_Clone_int_int.eqX (pr : Prim) (pts : Pts) (s : SV) (R : Value → Mem → Prop) (M : Mem) : wpX PP pr pts slices_Clone_int_int.h [] [] (retH pr Try.f48.results.toList R) (argEnv 0 [SV.v s]) M = slices_Clone_int_int.T pr s R M := by kernel_rfl
theorem slices_Clone_int_int.eq (pr : Prim) (s : SV) (R : Value → Mem → Prop) (M : Mem) : wpH PP pr slices_Clone_int_int.h (retH pr Try.f48.results.toList R) (argEnv 0 [SV.v s]) M = slices_Clone_int_int.T pr s R M := root_eq.trans (slices_Clone_int_int.eqX pr (ptsR PP pr slices_Clone_int_int.h (retH pr Try.f48.results.toList R)) s R M)
theorem slices_Clone_int_int.fn : PP.funcs[Id.slices_Clone_int_int]? = some Try.f48 := Try.func48
theorem slices_Clone_int_int.can : callable PP Id.slices_Clone_int_int = true := by kernel_rfl
theorem slices_Clone_int_int.good : okH Try.f48.ntmps slices_Clone_int_int.h = true := by kernel_rfl
theorem slices_Clone_int_int.body : Try.f48.body = some ((Try.f48.body).getD .skip) := by kernel_rfl
theorem slices_Clone_int_int.size : (1 : Nat) ≤ Try.f48.ntmps := by decide
theorem slices_Clone_int_int.go (w0 : World) (s : SV) {R : Value → Mem → Prop} {M : Mem} (h : slices_Clone_int_int.T (std PP w0) s R M) : C PP w0 Id.slices_Clone_int_int #[SV.v s] R M :=
  C_intro mixed slices_Clone_int_int.fn slices_Clone_int_int.body slices_Clone_int_int.can (annot_code _ _) slices_Clone_int_int.good slices_Clone_int_int.size ((slices_Clone_int_int.eq (std PP w0) s R M).mpr h)
-- slices.Index[[]int,int]
noncomputable def slices_Index_int_int.h : HC := annot ((Try.f49.body).getD .skip) [([true, false, true, false], [0, 1, 7, 8])]
abbrev slices_Index_int_int.L1 (pts : Pts) (k : Nat) (s_0 : SV) (v_1 : Int) (t7 : Int) (t8 : Int) (M : Mem) : Prop := pts [false, false, true, false, true] [k] [(0, SV.v s_0), (1, .int .i64 v_1), (7, .int .i64 t7), (8, .int .i64 t8)] M
def slices_Index_int_int.pts (pr : Prim) (R : Value → Mem → Prop) : Pts := ptsR PP pr slices_Index_int_int.h (retH pr Try.f49.results.toList R)
def slices_Index_int_int.L1.T (pr : Prim) (pts : Pts) (k : Nat) (s_0 : SV) (v_1 : Int) (t7 : Int) (t8 : Int) (R : Value → Mem → Prop) (M : Mem) : Prop := bs (decide (t8 < t7)) (nc s_0.a fun a2 => (0 ≤ t8 ∧ t8 < ((s_0.n : Nat) : Int)) ∧ ob (pr.ld 3 (a2.add (t8.toNat * 1)) M) fun v3 => shI .i64 v3 fun n4 => bs ((v_1 == n4)) (R (.int .i64 t8) M) (slices_Index_int_int.L1 pts k s_0 v_1 t7 (w64 (t8 + 1)) M)) (R (.int .i64 (-1)) M)
theorem slices_Index_int_int.L1.zero (pr : Prim) (s_0 : SV) (v_1 : Int) (t7 : Int) (t8 : Int) (R : Value → Mem → Prop) (M : Mem) : slices_Index_int_int.L1 (slices_Index_int_int.pts pr R) 0 s_0 v_1 t7 t8 M = False :=
  (ptsR_eq (b := false) (p := [false, true, false, true]) (ns := [0]) rfl _ _).trans (by kernel_rfl)
theorem slices_Index_int_int.L1.eqX (pr : Prim) (pts : Pts) (k : Nat) (s_0 : SV) (v_1 : Int) (t7 : Int) (t8 : Int) (R : Value → Mem → Prop) (M : Mem) : bodyX PP pr pts slices_Index_int_int.h (retH pr Try.f49.results.toList R) [false, false, true, false, true] [k + 1] [(0, SV.v s_0), (1, .int .i64 v_1), (7, .int .i64 t7), (8, .int .i64 t8)] M = slices_Index_int_int.L1.T pr pts k s_0 v_1 t7 t8 R M := by kernel_rfl
theorem slices_Index_int_int.L1.succ (pr : Prim) (k : Nat) (s_0 : SV) (v_1 : Int) (t7 : Int) (t8 : Int) (R : Value → Mem → Prop) (M : Mem) : slices_Index_int_int.L1 (slices_Index_int_int.pts pr R) (k + 1) s_0 v_1 t7 t8 M = slices_Index_int_int.L1.T pr (slices_Index_int_int.pts pr R) k s_0 v_1 t7 t8 R M :=
  (ptsR_eq (b := false) (p := [false, true, false, true]) (ns := [k + 1]) rfl _ _).trans (slices_Index_int_int.L1.eqX pr (slices_Index_int_int.pts pr R) k s_0 v_1 t7 t8 R M)
structure slices_Index_int_int.Is (pr : Prim) (pts : Pts) (R : Value → Mem → Prop) : Prop where
  L1 : ∀ (k : Nat) (s_0 : SV) (v_1 : Int) (t7 : Int) (t8 : Int) (M : Mem), slices_Index_int_int.L1 pts (k + 1) s_0 v_1 t7 t8 M = slices_Index_int_int.L1.T pr pts k s_0 v_1 t7 t8 R M
theorem slices_Index_int_int.is (pr : Prim) (R : Value → Mem → Prop) : slices_Index_int_int.Is pr (slices_Index_int_int.pts pr R) R := ⟨fun k s_0 v_1 t7 t8 M => slices_Index_int_int.L1.succ pr k s_0 v_1 t7 t8 R M⟩
def slices_Index_int_int.T (pr : Prim) (pts : Pts) (s : SV) (v : Int) (R : Value → Mem → Prop) (M : Mem) : Prop := ∃ k1, slices_Index_int_int.L1 pts k1 s v ((s.n : Nat) : Int) 0 M
theorem slices_Index_int_int.eqX (pr : Prim) (pts : Pts) (s : SV) (v : Int) (R : Value → Mem → Prop) (M : Mem) : wpX PP pr pts slices_Index_int_int.h [] [] (retH pr Try.f49.results.toList R) (argEnv 0 [SV.v s, .int .i64 v]) M = slices_Index_int_int.T pr pts s v R M := by kernel_rfl
theorem slices_Index_int_int.eq (pr : Prim) (s : SV) (v : Int) (R : Value → Mem → Prop) (M : Mem) : wpH PP pr slices_Index_int_int.h (retH pr Try.f49.results.toList R) (argEnv 0 [SV.v s, .int .i64 v]) M = slices_Index_int_int.T pr (slices_Index_int_int.pts pr R) s v R M := root_eq.trans (slices_Index_int_int.eqX pr (slices_Index_int_int.pts pr R) s v R M)
theorem slices_Index_int_int.fn : PP.funcs[Id.slices_Index_int_int]? = some Try.f49 := Try.func49
theorem slices_Index_int_int.can : callable PP Id.slices_Index_int_int = true := by kernel_rfl
theorem slices_Index_int_int.good : okH Try.f49.ntmps slices_Index_int_int.h = true := by kernel_rfl
theorem slices_Index_int_int.body : Try.f49.body = some ((Try.f49.body).getD .skip) := by kernel_rfl
theorem slices_Index_int_int.size : (2 : Nat) ≤ Try.f49.ntmps := by decide
theorem slices_Index_int_int.go (w0 : World) (s : SV) (v : Int) {R : Value → Mem → Prop} {M : Mem} (h : ∀ pts, slices_Index_int_int.Is (std PP w0) pts R → slices_Index_int_int.T (std PP w0) pts s v R M) : C PP w0 Id.slices_Index_int_int #[SV.v s, .int .i64 v] R M :=
  C_intro mixed slices_Index_int_int.fn slices_Index_int_int.body slices_Index_int_int.can (annot_code _ _) slices_Index_int_int.good slices_Index_int_int.size ((slices_Index_int_int.eq (std PP w0) s v R M).mpr (h _ (slices_Index_int_int.is _ _)))
-- thicket/digits.Value
noncomputable def digits_Value.h : HC := annot ((Try.f50.body).getD .skip) [([true, true, true, false, true, false], [4, 10, 11, 12])]
abbrev digits_Value.L1 (pts : Pts) (k : Nat) (n_4 : Int) (t10 : SV) (t11 : Int) (t12 : Int) (M : Mem) : Prop := pts [false, false, true, false, true, true, true] [k] [(4, .int .i64 n_4), (10, SV.v t10), (11, .int .i64 t11), (12, .int .i64 t12)] M
def digits_Value.pts (pr : Prim) (R : Value → Mem → Prop) : Pts := ptsR PP pr digits_Value.h (retH pr Try.f50.results.toList R)
def digits_Value.L1.T (pr : Prim) (pts : Pts) (k : Nat) (n_4 : Int) (t10 : SV) (t11 : Int) (t12 : Int) (R : Value → Mem → Prop) (M : Mem) : Prop := bs (decide (t12 < t11)) (nc t10.a fun a5 => (0 ≤ t12 ∧ t12 < ((t10.n : Nat) : Int)) ∧ ob (pr.ld 3 (a5.add (t12.toNat * 1)) M) fun v6 => shI .i64 v6 fun n7 => (0 ≤ t12 ∧ digits_Value.L1 pts k (w64 (n_4 + (w64 (n7 * 2 ^ (min t12.toNat (IntKind.bits .i64)))))) t10 t11 (w64 (t12 + 1)) M)) (R (.tuple #[.int .i64 n_4, .bool true]) M)
theorem digits_Value.L1.zero (pr : Prim) (n_4 : Int) (t10 : SV) (t11 : Int) (t12 : Int) (R : Value → Mem → Prop) (M : Mem) : digits_Value.L1 (digits_Value.pts pr R) 0 n_4 t10 t11 t12 M = False :=
  (ptsR_eq (b := false) (p := [false, true, false, true, true, true]) (ns := [0]) rfl _ _).trans (by kernel_rfl)
theorem digits_Value.L1.eqX (pr : Prim) (pts : Pts) (k : Nat) (n_4 : Int) (t10 : SV) (t11 : Int) (t12 : Int) (R : Value → Mem → Prop) (M : Mem) : bodyX PP pr pts digits_Value.h (retH pr Try.f50.results.toList R) [false, false, true, false, true, true, true] [k + 1] [(4, .int .i64 n_4), (10, SV.v t10), (11, .int .i64 t11), (12, .int .i64 t12)] M = digits_Value.L1.T pr pts k n_4 t10 t11 t12 R M := by kernel_rfl
theorem digits_Value.L1.succ (pr : Prim) (k : Nat) (n_4 : Int) (t10 : SV) (t11 : Int) (t12 : Int) (R : Value → Mem → Prop) (M : Mem) : digits_Value.L1 (digits_Value.pts pr R) (k + 1) n_4 t10 t11 t12 M = digits_Value.L1.T pr (digits_Value.pts pr R) k n_4 t10 t11 t12 R M :=
  (ptsR_eq (b := false) (p := [false, true, false, true, true, true]) (ns := [k + 1]) rfl _ _).trans (digits_Value.L1.eqX pr (digits_Value.pts pr R) k n_4 t10 t11 t12 R M)
structure digits_Value.Is (pr : Prim) (pts : Pts) (R : Value → Mem → Prop) : Prop where
  L1 : ∀ (k : Nat) (n_4 : Int) (t10 : SV) (t11 : Int) (t12 : Int) (M : Mem), digits_Value.L1 pts (k + 1) n_4 t10 t11 t12 M = digits_Value.L1.T pr pts k n_4 t10 t11 t12 R M
theorem digits_Value.is (pr : Prim) (R : Value → Mem → Prop) : digits_Value.Is pr (digits_Value.pts pr R) R := ⟨fun k n_4 t10 t11 t12 M => digits_Value.L1.succ pr k n_4 t10 t11 t12 R M⟩
def digits_Value.T (pr : Prim) (pts : Pts) (l : SV) (R : Value → Mem → Prop) (M : Mem) : Prop := pr.call Id.digits_Regular #[SV.v l] (fun v1 M2 => shB v1 fun b3 => bs (!b3) (R (.tuple #[.int .i64 0, .bool false]) M2) (∃ k4, digits_Value.L1 pts k4 0 l ((l.n : Nat) : Int) 0 M2)) M
theorem digits_Value.eqX (pr : Prim) (pts : Pts) (l : SV) (R : Value → Mem → Prop) (M : Mem) : wpX PP pr pts digits_Value.h [] [] (retH pr Try.f50.results.toList R) (argEnv 0 [SV.v l]) M = digits_Value.T pr pts l R M := by kernel_rfl
theorem digits_Value.eq (pr : Prim) (l : SV) (R : Value → Mem → Prop) (M : Mem) : wpH PP pr digits_Value.h (retH pr Try.f50.results.toList R) (argEnv 0 [SV.v l]) M = digits_Value.T pr (digits_Value.pts pr R) l R M := root_eq.trans (digits_Value.eqX pr (digits_Value.pts pr R) l R M)
theorem digits_Value.fn : PP.funcs[Id.digits_Value]? = some Try.f50 := Try.func50
theorem digits_Value.can : callable PP Id.digits_Value = true := by kernel_rfl
theorem digits_Value.good : okH Try.f50.ntmps digits_Value.h = true := by kernel_rfl
theorem digits_Value.body : Try.f50.body = some ((Try.f50.body).getD .skip) := by kernel_rfl
theorem digits_Value.size : (1 : Nat) ≤ Try.f50.ntmps := by decide
theorem digits_Value.go (w0 : World) (l : SV) {R : Value → Mem → Prop} {M : Mem} (h : ∀ pts, digits_Value.Is (std PP w0) pts R → digits_Value.T (std PP w0) pts l R M) : C PP w0 Id.digits_Value #[SV.v l] R M :=
  C_intro mixed digits_Value.fn digits_Value.body digits_Value.can (annot_code _ _) digits_Value.good digits_Value.size ((digits_Value.eq (std PP w0) l R M).mpr (h _ (digits_Value.is _ _)))
-- thicket/thicketref14.Value
noncomputable def thicketref14_Value.h : HC := annot ((Try.f51.body).getD .skip) [([true, true, true, false, true, false], [0, 4, 5])]
abbrev thicketref14_Value.L1 (pts : Pts) (k : Nat) (l_0 : SV) (n_4 : Int) (i_5 : Int) (M : Mem) : Prop := pts [false, false, true, false, true, true, true] [k] [(0, SV.v l_0), (4, .int .i64 n_4), (5, .int .i64 i_5)] M
def thicketref14_Value.pts (pr : Prim) (R : Value → Mem → Prop) : Pts := ptsR PP pr thicketref14_Value.h (retH pr Try.f51.results.toList R)
def thicketref14_Value.L1.T (pr : Prim) (pts : Pts) (k : Nat) (l_0 : SV) (n_4 : Int) (i_5 : Int) (R : Value → Mem → Prop) (M : Mem) : Prop := bs (decide (i_5 ≥ 0)) (nc l_0.a fun a5 => (0 ≤ i_5 ∧ i_5 < ((l_0.n : Nat) : Int)) ∧ ob (pr.ld 3 (a5.add (i_5.toNat * 1)) M) fun v6 => shI .i64 v6 fun n7 => thicketref14_Value.L1 pts k l_0 (w64 ((w64 (2 * n_4)) + n7)) (w64 (i_5 - 1)) M) (R (.tuple #[.int .i64 n_4, .bool true]) M)
theorem thicketref14_Value.L1.zero (pr : Prim) (l_0 : SV) (n_4 : Int) (i_5 : Int) (R : Value → Mem → Prop) (M : Mem) : thicketref14_Value.L1 (thicketref14_Value.pts pr R) 0 l_0 n_4 i_5 M = False :=
  (ptsR_eq (b := false) (p := [false, true, false, true, true, true]) (ns := [0]) rfl _ _).trans (by kernel_rfl)
theorem thicketref14_Value.L1.eqX (pr : Prim) (pts : Pts) (k : Nat) (l_0 : SV) (n_4 : Int) (i_5 : Int) (R : Value → Mem → Prop) (M : Mem) : bodyX PP pr pts thicketref14_Value.h (retH pr Try.f51.results.toList R) [false, false, true, false, true, true, true] [k + 1] [(0, SV.v l_0), (4, .int .i64 n_4), (5, .int .i64 i_5)] M = thicketref14_Value.L1.T pr pts k l_0 n_4 i_5 R M := by kernel_rfl
theorem thicketref14_Value.L1.succ (pr : Prim) (k : Nat) (l_0 : SV) (n_4 : Int) (i_5 : Int) (R : Value → Mem → Prop) (M : Mem) : thicketref14_Value.L1 (thicketref14_Value.pts pr R) (k + 1) l_0 n_4 i_5 M = thicketref14_Value.L1.T pr (thicketref14_Value.pts pr R) k l_0 n_4 i_5 R M :=
  (ptsR_eq (b := false) (p := [false, true, false, true, true, true]) (ns := [k + 1]) rfl _ _).trans (thicketref14_Value.L1.eqX pr (thicketref14_Value.pts pr R) k l_0 n_4 i_5 R M)
structure thicketref14_Value.Is (pr : Prim) (pts : Pts) (R : Value → Mem → Prop) : Prop where
  L1 : ∀ (k : Nat) (l_0 : SV) (n_4 : Int) (i_5 : Int) (M : Mem), thicketref14_Value.L1 pts (k + 1) l_0 n_4 i_5 M = thicketref14_Value.L1.T pr pts k l_0 n_4 i_5 R M
theorem thicketref14_Value.is (pr : Prim) (R : Value → Mem → Prop) : thicketref14_Value.Is pr (thicketref14_Value.pts pr R) R := ⟨fun k l_0 n_4 i_5 M => thicketref14_Value.L1.succ pr k l_0 n_4 i_5 R M⟩
def thicketref14_Value.T (pr : Prim) (pts : Pts) (l : SV) (R : Value → Mem → Prop) (M : Mem) : Prop := pr.call Id.thicketref14_Regular #[SV.v l] (fun v1 M2 => shB v1 fun b3 => bs (!b3) (R (.tuple #[.int .i64 0, .bool false]) M2) (∃ k4, thicketref14_Value.L1 pts k4 l 0 (w64 (((l.n : Nat) : Int) - 1)) M2)) M
theorem thicketref14_Value.eqX (pr : Prim) (pts : Pts) (l : SV) (R : Value → Mem → Prop) (M : Mem) : wpX PP pr pts thicketref14_Value.h [] [] (retH pr Try.f51.results.toList R) (argEnv 0 [SV.v l]) M = thicketref14_Value.T pr pts l R M := by kernel_rfl
theorem thicketref14_Value.eq (pr : Prim) (l : SV) (R : Value → Mem → Prop) (M : Mem) : wpH PP pr thicketref14_Value.h (retH pr Try.f51.results.toList R) (argEnv 0 [SV.v l]) M = thicketref14_Value.T pr (thicketref14_Value.pts pr R) l R M := root_eq.trans (thicketref14_Value.eqX pr (thicketref14_Value.pts pr R) l R M)
theorem thicketref14_Value.fn : PP.funcs[Id.thicketref14_Value]? = some Try.f51 := Try.func51
theorem thicketref14_Value.can : callable PP Id.thicketref14_Value = true := by kernel_rfl
theorem thicketref14_Value.good : okH Try.f51.ntmps thicketref14_Value.h = true := by kernel_rfl
theorem thicketref14_Value.body : Try.f51.body = some ((Try.f51.body).getD .skip) := by kernel_rfl
theorem thicketref14_Value.size : (1 : Nat) ≤ Try.f51.ntmps := by decide
theorem thicketref14_Value.go (w0 : World) (l : SV) {R : Value → Mem → Prop} {M : Mem} (h : ∀ pts, thicketref14_Value.Is (std PP w0) pts R → thicketref14_Value.T (std PP w0) pts l R M) : C PP w0 Id.thicketref14_Value #[SV.v l] R M :=
  C_intro mixed thicketref14_Value.fn thicketref14_Value.body thicketref14_Value.can (annot_code _ _) thicketref14_Value.good thicketref14_Value.size ((thicketref14_Value.eq (std PP w0) l R M).mpr (h _ (thicketref14_Value.is _ _)))
end Go.Proofs.Ytkibecgakkhljaa.HL
