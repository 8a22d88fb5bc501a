/-
  Printed by gen.py (a program of this work) out of Lean's own print of the program: what each function's code comes to over the heap logic; each equation is checked by the kernel.
-/
import Derived.Test.YtoeijcmpkfjbfaaGenId
set_option linter.unusedVariables false
set_option maxRecDepth 100000
namespace Go.Proofs.Ytoeijcmpkfjbfaa.HL
open Go.Proofs
-- thicket/thicketlaw6.turned
noncomputable def thicketlaw6_turned.h : HC := annot ((Try.f60.body).getD .skip) [([true, false, true, false], [0, 1, 5])]
abbrev thicketlaw6_turned.L1 (pts : Pts) (k : Nat) (l_0 : SV) (c_1 : Int) (i_5 : Int) (M : Mem) : Prop := pts [false, false, true, false, true] [k] [(0, SV.v l_0), (1, .int .i64 c_1), (5, .int .i64 i_5)] M
def thicketlaw6_turned.pts (pr : Prim) (R : Value → Mem → Prop) : Pts := ptsR PP pr thicketlaw6_turned.h (retH pr Try.f60.results.toList R)
def thicketlaw6_turned.L1.T (pr : Prim) (pts : Pts) (k : Nat) (l_0 : SV) (c_1 : Int) (i_5 : Int) (R : Value → Mem → Prop) (M : Mem) : Prop := bs (decide (i_5 < ((l_0.n : Nat) : Int))) (nc l_0.a fun a2 => (0 ≤ i_5 ∧ i_5 < ((l_0.n : Nat) : Int)) ∧ ob (pr.ld 3 (a2.add (i_5.toNat * 1)) M) fun v3 => shI .i64 v3 fun n4 => bs ((n4 == c_1)) ((0 ≤ i_5 ∧ i_5 ≤ ((l_0.n : Nat) : Int) ∧ ((l_0.n : Nat) : Int) ≤ ((l_0.c : Nat) : Int)) ∧ (0 ≤ (0 : Int) ∧ (0 : Int) ≤ i_5 ∧ i_5 ≤ ((l_0.c : Nat) : Int)) ∧ pr.bsl 44 0 [] (fun v5 M6 => shS v5 fun s7 => pr.app #[44, 44] 44 [SV.v s7, .slice (if l_0.c = i_5.toNat then l_0.a else l_0.a.map (·.add (i_5.toNat * 1))) (((l_0.n : Nat) : Int).toNat - i_5.toNat) (l_0.c - i_5.toNat)] (fun v8 M9 => shS v8 fun s10 => pr.app #[44, 44] 44 [SV.v s10, .slice (if l_0.c = (0 : Int).toNat then l_0.a else l_0.a.map (·.add ((0 : Int).toNat * 1))) (i_5.toNat - (0 : Int).toNat) (l_0.c - (0 : Int).toNat)] (fun v11 M12 => shS v11 fun s13 => R (SV.v s13) M12) M9) M6) M) (thicketlaw6_turned.L1 pts k l_0 c_1 (w64 (i_5 + 1)) M)) (R (.slice none 0 0) M)
theorem thicketlaw6_turned.L1.zero (pr : Prim) (l_0 : SV) (c_1 : Int) (i_5 : Int) (R : Value → Mem → Prop) (M : Mem) : thicketlaw6_turned.L1 (thicketlaw6_turned.pts pr R) 0 l_0 c_1 i_5 M = False :=
  (ptsR_eq (b := false) (p := [false, true, false, true]) (ns := [0]) rfl _ _).trans (by kernel_rfl)
theorem thicketlaw6_turned.L1.eqX (pr : Prim) (pts : Pts) (k : Nat) (l_0 : SV) (c_1 : Int) (i_5 : Int) (R : Value → Mem → Prop) (M : Mem) : bodyX PP pr pts thicketlaw6_turned.h (retH pr Try.f60.results.toList R) [false, false, true, false, true] [k + 1] [(0, SV.v l_0), (1, .int .i64 c_1), (5, .int .i64 i_5)] M = thicketlaw6_turned.L1.T pr pts k l_0 c_1 i_5 R M := by kernel_rfl
theorem thicketlaw6_turned.L1.succ (pr : Prim) (k : Nat) (l_0 : SV) (c_1 : Int) (i_5 : Int) (R : Value → Mem → Prop) (M : Mem) : thicketlaw6_turned.L1 (thicketlaw6_turned.pts pr R) (k + 1) l_0 c_1 i_5 M = thicketlaw6_turned.L1.T pr (thicketlaw6_turned.pts pr R) k l_0 c_1 i_5 R M :=
  (ptsR_eq (b := false) (p := [false, true, false, true]) (ns := [k + 1]) rfl _ _).trans (thicketlaw6_turned.L1.eqX pr (thicketlaw6_turned.pts pr R) k l_0 c_1 i_5 R M)
structure thicketlaw6_turned.Is (pr : Prim) (pts : Pts) (R : Value → Mem → Prop) : Prop where
  L1 : ∀ (k : Nat) (l_0 : SV) (c_1 : Int) (i_5 : Int) (M : Mem), thicketlaw6_turned.L1 pts (k + 1) l_0 c_1 i_5 M = thicketlaw6_turned.L1.T pr pts k l_0 c_1 i_5 R M
theorem thicketlaw6_turned.is (pr : Prim) (R : Value → Mem → Prop) : thicketlaw6_turned.Is pr (thicketlaw6_turned.pts pr R) R := ⟨fun k l_0 c_1 i_5 M => thicketlaw6_turned.L1.succ pr k l_0 c_1 i_5 R M⟩
def thicketlaw6_turned.T (pr : Prim) (pts : Pts) (l : SV) (c : Int) (R : Value → Mem → Prop) (M : Mem) : Prop := ∃ k1, thicketlaw6_turned.L1 pts k1 l c 0 M
theorem thicketlaw6_turned.eqX (pr : Prim) (pts : Pts) (l : SV) (c : Int) (R : Value → Mem → Prop) (M : Mem) : wpX PP pr pts thicketlaw6_turned.h [] [] (retH pr Try.f60.results.toList R) (argEnv 0 [SV.v l, .int .i64 c]) M = thicketlaw6_turned.T pr pts l c R M := by kernel_rfl
theorem thicketlaw6_turned.eq (pr : Prim) (l : SV) (c : Int) (R : Value → Mem → Prop) (M : Mem) : wpH PP pr thicketlaw6_turned.h (retH pr Try.f60.results.toList R) (argEnv 0 [SV.v l, .int .i64 c]) M = thicketlaw6_turned.T pr (thicketlaw6_turned.pts pr R) l c R M := root_eq.trans (thicketlaw6_turned.eqX pr (thicketlaw6_turned.pts pr R) l c R M)
theorem thicketlaw6_turned.fn : PP.funcs[Id.thicketlaw6_turned]? = some Try.f60 := Try.func60
theorem thicketlaw6_turned.can : callable PP Id.thicketlaw6_turned = true := by kernel_rfl
theorem thicketlaw6_turned.good : okH Try.f60.ntmps thicketlaw6_turned.h = true := by kernel_rfl
theorem thicketlaw6_turned.body : Try.f60.body = some ((Try.f60.body).getD .skip) := by kernel_rfl
theorem thicketlaw6_turned.size : (2 : Nat) ≤ Try.f60.ntmps := by decide
theorem thicketlaw6_turned.go (w0 : World) (l : SV) (c : Int) {R : Value → Mem → Prop} {M : Mem} (h : ∀ pts, thicketlaw6_turned.Is (std PP w0) pts R → thicketlaw6_turned.T (std PP w0) pts l c R M) : C PP w0 Id.thicketlaw6_turned #[SV.v l, .int .i64 c] R M :=
  C_intro mixed thicketlaw6_turned.fn thicketlaw6_turned.body thicketlaw6_turned.can (annot_code _ _) thicketlaw6_turned.good thicketlaw6_turned.size ((thicketlaw6_turned.eq (std PP w0) l c R M).mpr (h _ (thicketlaw6_turned.is _ _)))
-- thicket/order.Compare
noncomputable def order_Compare.h : HC := annot ((Try.f61.body).getD .skip) []
def order_Compare.T (pr : Prim) (a_0 : Int) (a_1 : Int) (b_0 : Int) (b_1 : Int) (R : Value → Mem → Prop) (M : Mem) : Prop := pr.nw [.int .i64 a_0, .int .i64 a_1] 62 (fun b1 M2 => pr.nw [.int .i64 b_0, .int .i64 b_1] 62 (fun b3 M4 => ob (pr.ld 2 ⟨b1, 0, none⟩ M4) fun v5 => shI .i64 v5 fun n6 => ob (pr.ld 2 ⟨b3, 0, none⟩ M4) fun v7 => shI .i64 v7 fun n8 => ob (pr.ld 2 (Addr.add ⟨b1, 0, none⟩ 1) M4) fun v9 => shI .i64 v9 fun n10 => ob (pr.ld 2 (Addr.add ⟨b3, 0, none⟩ 1) M4) fun v11 => shI .i64 v11 fun n12 => pr.call Id.cmp_Compare_int64 #[.int .i64 n6, .int .i64 n8] (fun v13 M14 => shI .i64 v13 fun n15 => (pr.ld 2 (Addr.add ⟨b1, 0, none⟩ 1) M14 = some (.int .i64 n10)) ∧ (pr.ld 2 (Addr.add ⟨b3, 0, none⟩ 1) M14 = some (.int .i64 n12)) ∧ pr.call Id.cmp_Compare_int64 #[.int .i64 n10, .int .i64 n12] (fun v16 M17 => shI .i64 v16 fun n18 => pr.bsl 44 2 [(0, .int .i64 n15), (1, .int .i64 n18)] (fun v19 M20 => shS v19 fun s21 => pr.call Id.cmp_Or_int #[SV.v s21] (fun v22 M23 => shI .i64 v22 fun n24 => R (.int .i64 n24) M23) M20) M17) M14) M4) M2) M
theorem order_Compare.eqX (pr : Prim) (pts : Pts) (a_0 : Int) (a_1 : Int) (b_0 : Int) (b_1 : Int) (R : Value → Mem → Prop) (M : Mem) : wpX PP pr pts order_Compare.h [] [] (retH pr Try.f61.results.toList R) (argEnv 0 [.agg #[.int .i64 a_0, .int .i64 a_1], .agg #[.int .i64 b_0, .int .i64 b_1]]) M = order_Compare.T pr a_0 a_1 b_0 b_1 R M := by kernel_rfl
theorem order_Compare.eq (pr : Prim) (a_0 : Int) (a_1 : Int) (b_0 : Int) (b_1 : Int) (R : Value → Mem → Prop) (M : Mem) : wpH PP pr order_Compare.h (retH pr Try.f61.results.toList R) (argEnv 0 [.agg #[.int .i64 a_0, .int .i64 a_1], .agg #[.int .i64 b_0, .int .i64 b_1]]) M = order_Compare.T pr a_0 a_1 b_0 b_1 R M := root_eq.trans (order_Compare.eqX pr (ptsR PP pr order_Compare.h (retH pr Try.f61.results.toList R)) a_0 a_1 b_0 b_1 R M)
theorem order_Compare.fn : PP.funcs[Id.order_Compare]? = some Try.f61 := Try.func61
theorem order_Compare.can : callable PP Id.order_Compare = true := by kernel_rfl
theorem order_Compare.good : okH Try.f61.ntmps order_Compare.h = true := by kernel_rfl
theorem order_Compare.body : Try.f61.body = some ((Try.f61.body).getD .skip) := by kernel_rfl
theorem order_Compare.size : (2 : Nat) ≤ Try.f61.ntmps := by decide
theorem order_Compare.go (w0 : World) (a_0 : Int) (a_1 : Int) (b_0 : Int) (b_1 : Int) {R : Value → Mem → Prop} {M : Mem} (h : order_Compare.T (std PP w0) a_0 a_1 b_0 b_1 R M) : C PP w0 Id.order_Compare #[.agg #[.int .i64 a_0, .int .i64 a_1], .agg #[.int .i64 b_0, .int .i64 b_1]] R M :=
  C_intro mixed order_Compare.fn order_Compare.body order_Compare.can (annot_code _ _) order_Compare.good order_Compare.size ((order_Compare.eq (std PP w0) a_0 a_1 b_0 b_1 R M).mpr h)
-- thicket/order.Add
noncomputable def order_Add.h : HC := annot ((Try.f62.body).getD .skip) []
def order_Add.T (pr : Prim) (a : Int) (b : Int) (R : Value → Mem → Prop) (M : Mem) : Prop := bs (decide (b > 0)) (bs (decide (a > (w64 (9223372036854775807 - b)))) (R (.int .i64 9223372036854775807) M) (bs (decide (b < 0)) (bs (decide (a < (w64 ((-9223372036854775808) - b)))) (R (.int .i64 (-9223372036854775808)) M) (R (.int .i64 (w64 (a + b))) M)) (R (.int .i64 (w64 (a + b))) M))) (bs (decide (b < 0)) (bs (decide (a < (w64 ((-9223372036854775808) - b)))) (R (.int .i64 (-9223372036854775808)) M) (R (.int .i64 (w64 (a + b))) M)) (R (.int .i64 (w64 (a + b))) M))
theorem order_Add.eqX (pr : Prim) (pts : Pts) (a : Int) (b : Int) (R : Value → Mem → Prop) (M : Mem) : wpX PP pr pts order_Add.h [] [] (retH pr Try.f62.results.toList R) (argEnv 0 [.int .i64 a, .int .i64 b]) M = order_Add.T pr a b R M := by kernel_rfl
theorem order_Add.eq (pr : Prim) (a : Int) (b : Int) (R : Value → Mem → Prop) (M : Mem) : wpH PP pr order_Add.h (retH pr Try.f62.results.toList R) (argEnv 0 [.int .i64 a, .int .i64 b]) M = order_Add.T pr a b R M := root_eq.trans (order_Add.eqX pr (ptsR PP pr order_Add.h (retH pr Try.f62.results.toList R)) a b R M)
theorem order_Add.fn : PP.funcs[Id.order_Add]? = some Try.f62 := Try.func62
theorem order_Add.can : callable PP Id.order_Add = true := by kernel_rfl
theorem order_Add.good : okH Try.f62.ntmps order_Add.h = true := by kernel_rfl
theorem order_Add.body : Try.f62.body = some ((Try.f62.body).getD .skip) := by kernel_rfl
theorem order_Add.size : (2 : Nat) ≤ Try.f62.ntmps := by decide
theorem order_Add.go (w0 : World) (a : Int) (b : Int) {R : Value → Mem → Prop} {M : Mem} (h : order_Add.T (std PP w0) a b R M) : C PP w0 Id.order_Add #[.int .i64 a, .int .i64 b] R M :=
  C_intro mixed order_Add.fn order_Add.body order_Add.can (annot_code _ _) order_Add.good order_Add.size ((order_Add.eq (std PP w0) a b R M).mpr h)
-- thicket/thicketref5.fresh
noncomputable def thicketref5_fresh.h : HC := annot ((Try.f63.body).getD .skip) [([true, true, false, true, false], [1, 2])]
abbrev thicketref5_fresh.L1 (pts : Pts) (k : Nat) (l_1 : SV) (i_2 : Int) (M : Mem) : Prop := pts [false, false, true, false, true, true] [k] [(1, SV.v l_1), (2, .int .i64 i_2)] M
def thicketref5_fresh.pts (pr : Prim) (R : Value → Mem → Prop) : Pts := ptsR PP pr thicketref5_fresh.h (retH pr Try.f63.results.toList R)
def thicketref5_fresh.L1.T (pr : Prim) (pts : Pts) (k : Nat) (l_1 : SV) (i_2 : Int) (R : Value → Mem → Prop) (M : Mem) : Prop := bs (decide (i_2 < 10)) (bs ((i_2 == 0)) (nc l_1.a fun a5 => (0 ≤ i_2 ∧ i_2 < ((l_1.n : Nat) : Int)) ∧ pr.st 2 (a5.add (i_2.toNat * 1)) (.int .i64 (-1)) (fun M6 => thicketref5_fresh.L1 pts k l_1 (w64 (i_2 + 1)) M6) M) (bs ((i_2 == 1)) (nc l_1.a fun a7 => (0 ≤ i_2 ∧ i_2 < ((l_1.n : Nat) : Int)) ∧ pr.st 2 (a7.add (i_2.toNat * 1)) (.int .i64 (-1)) (fun M8 => thicketref5_fresh.L1 pts k l_1 (w64 (i_2 + 1)) M8) M) (bs ((i_2 == 2)) (nc l_1.a fun a9 => (0 ≤ i_2 ∧ i_2 < ((l_1.n : Nat) : Int)) ∧ pr.st 2 (a9.add (i_2.toNat * 1)) (.int .i64 (-1)) (fun M10 => thicketref5_fresh.L1 pts k l_1 (w64 (i_2 + 1)) M10) M) (bs ((i_2 == 3)) (nc l_1.a fun a11 => (0 ≤ i_2 ∧ i_2 < ((l_1.n : Nat) : Int)) ∧ pr.st 2 (a11.add (i_2.toNat * 1)) (.int .i64 (-1)) (fun M12 => thicketref5_fresh.L1 pts k l_1 (w64 (i_2 + 1)) M12) M) (bs ((i_2 == 6)) (nc l_1.a fun a13 => (0 ≤ i_2 ∧ i_2 < ((l_1.n : Nat) : Int)) ∧ pr.st 2 (a13.add (i_2.toNat * 1)) (.int .i64 (-1)) (fun M14 => thicketref5_fresh.L1 pts k l_1 (w64 (i_2 + 1)) M14) M) (bs ((i_2 == 9)) (nc l_1.a fun a15 => (0 ≤ i_2 ∧ i_2 < ((l_1.n : Nat) : Int)) ∧ pr.st 2 (a15.add (i_2.toNat * 1)) (.int .i64 (-1)) (fun M16 => thicketref5_fresh.L1 pts k l_1 (w64 (i_2 + 1)) M16) M) (thicketref5_fresh.L1 pts k l_1 (w64 (i_2 + 1)) M))))))) (R (SV.v l_1) M)
theorem thicketref5_fresh.L1.zero (pr : Prim) (l_1 : SV) (i_2 : Int) (R : Value → Mem → Prop) (M : Mem) : thicketref5_fresh.L1 (thicketref5_fresh.pts pr R) 0 l_1 i_2 M = False :=
  (ptsR_eq (b := false) (p := [false, true, false, true, true]) (ns := [0]) rfl _ _).trans (by kernel_rfl)
theorem thicketref5_fresh.L1.eqX (pr : Prim) (pts : Pts) (k : Nat) (l_1 : SV) (i_2 : Int) (R : Value → Mem → Prop) (M : Mem) : bodyX PP pr pts thicketref5_fresh.h (retH pr Try.f63.results.toList R) [false, false, true, false, true, true] [k + 1] [(1, SV.v l_1), (2, .int .i64 i_2)] M = thicketref5_fresh.L1.T pr pts k l_1 i_2 R M := by kernel_rfl
theorem thicketref5_fresh.L1.succ (pr : Prim) (k : Nat) (l_1 : SV) (i_2 : Int) (R : Value → Mem → Prop) (M : Mem) : thicketref5_fresh.L1 (thicketref5_fresh.pts pr R) (k + 1) l_1 i_2 M = thicketref5_fresh.L1.T pr (thicketref5_fresh.pts pr R) k l_1 i_2 R M :=
  (ptsR_eq (b := false) (p := [false, true, false, true, true]) (ns := [k + 1]) rfl _ _).trans (thicketref5_fresh.L1.eqX pr (thicketref5_fresh.pts pr R) k l_1 i_2 R M)
structure thicketref5_fresh.Is (pr : Prim) (pts : Pts) (R : Value → Mem → Prop) : Prop where
  L1 : ∀ (k : Nat) (l_1 : SV) (i_2 : Int) (M : Mem), thicketref5_fresh.L1 pts (k + 1) l_1 i_2 M = thicketref5_fresh.L1.T pr pts k l_1 i_2 R M
theorem thicketref5_fresh.is (pr : Prim) (R : Value → Mem → Prop) : thicketref5_fresh.Is pr (thicketref5_fresh.pts pr R) R := ⟨fun k l_1 i_2 M => thicketref5_fresh.L1.succ pr k l_1 i_2 R M⟩
def thicketref5_fresh.T (pr : Prim) (pts : Pts) (R : Value → Mem → Prop) (M : Mem) : Prop := pr.mks 38 (.int .i64 10) (.int .i64 10) (fun v1 M2 => shS v1 fun s3 => ∃ k4, thicketref5_fresh.L1 pts k4 s3 0 M2) M
theorem thicketref5_fresh.eqX (pr : Prim) (pts : Pts) (R : Value → Mem → Prop) (M : Mem) : wpX PP pr pts thicketref5_fresh.h [] [] (retH pr Try.f63.results.toList R) (argEnv 0 []) M = thicketref5_fresh.T pr pts R M := by kernel_rfl
theorem thicketref5_fresh.eq (pr : Prim) (R : Value → Mem → Prop) (M : Mem) : wpH PP pr thicketref5_fresh.h (retH pr Try.f63.results.toList R) (argEnv 0 []) M = thicketref5_fresh.T pr (thicketref5_fresh.pts pr R) R M := root_eq.trans (thicketref5_fresh.eqX pr (thicketref5_fresh.pts pr R) R M)
theorem thicketref5_fresh.fn : PP.funcs[Id.thicketref5_fresh]? = some Try.f63 := Try.func63
theorem thicketref5_fresh.can : callable PP Id.thicketref5_fresh = true := by kernel_rfl
theorem thicketref5_fresh.good : okH Try.f63.ntmps thicketref5_fresh.h = true := by kernel_rfl
theorem thicketref5_fresh.body : Try.f63.body = some ((Try.f63.body).getD .skip) := by kernel_rfl
theorem thicketref5_fresh.size : (0 : Nat) ≤ Try.f63.ntmps := by decide
theorem thicketref5_fresh.go (w0 : World) {R : Value → Mem → Prop} {M : Mem} (h : ∀ pts, thicketref5_fresh.Is (std PP w0) pts R → thicketref5_fresh.T (std PP w0) pts R M) : C PP w0 Id.thicketref5_fresh #[] R M :=
  C_intro mixed thicketref5_fresh.fn thicketref5_fresh.body thicketref5_fresh.can (annot_code _ _) thicketref5_fresh.good thicketref5_fresh.size ((thicketref5_fresh.eq (std PP w0) R M).mpr (h _ (thicketref5_fresh.is _ _)))
-- cmp.Or[int]
noncomputable def cmp_Or_int.h : HC := annot ((Try.f64.body).getD .skip) [([true, true, false, true, false], [3, 6, 7, 8])]
abbrev cmp_Or_int.L1 (pts : Pts) (k : Nat) (zero_3 : Int) (t6 : SV) (t7 : Int) (t8 : Int) (M : Mem) : Prop := pts [false, false, true, false, true, true] [k] [(3, .int .i64 zero_3), (6, SV.v t6), (7, .int .i64 t7), (8, .int .i64 t8)] M
def cmp_Or_int.pts (pr : Prim) (R : Value → Mem → Prop) : Pts := ptsR PP pr cmp_Or_int.h (retH pr Try.f64.results.toList R)
def cmp_Or_int.L1.T (pr : Prim) (pts : Pts) (k : Nat) (zero_3 : Int) (t6 : SV) (t7 : Int) (t8 : Int) (R : Value → Mem → Prop) (M : Mem) : Prop := bs (decide (t8 < t7)) (nc t6.a fun a2 => (0 ≤ t8 ∧ t8 < ((t6.n : Nat) : Int)) ∧ ob (pr.ld 3 (a2.add (t8.toNat * 1)) M) fun v3 => shI .i64 v3 fun n4 => bs ((n4 != zero_3)) (R (.int .i64 n4) M) (cmp_Or_int.L1 pts k zero_3 t6 t7 (w64 (t8 + 1)) M)) (R (.int .i64 zero_3) M)
theorem cmp_Or_int.L1.zero (pr : Prim) (zero_3 : Int) (t6 : SV) (t7 : Int) (t8 : Int) (R : Value → Mem → Prop) (M : Mem) : cmp_Or_int.L1 (cmp_Or_int.pts pr R) 0 zero_3 t6 t7 t8 M = False :=
  (ptsR_eq (b := false) (p := [false, true, false, true, true]) (ns := [0]) rfl _ _).trans (by kernel_rfl)
theorem cmp_Or_int.L1.eqX (pr : Prim) (pts : Pts) (k : Nat) (zero_3 : Int) (t6 : SV) (t7 : Int) (t8 : Int) (R : Value → Mem → Prop) (M : Mem) : bodyX PP pr pts cmp_Or_int.h (retH pr Try.f64.results.toList R) [false, false, true, false, true, true] [k + 1] [(3, .int .i64 zero_3), (6, SV.v t6), (7, .int .i64 t7), (8, .int .i64 t8)] M = cmp_Or_int.L1.T pr pts k zero_3 t6 t7 t8 R M := by kernel_rfl
theorem cmp_Or_int.L1.succ (pr : Prim) (k : Nat) (zero_3 : Int) (t6 : SV) (t7 : Int) (t8 : Int) (R : Value → Mem → Prop) (M : Mem) : cmp_Or_int.L1 (cmp_Or_int.pts pr R) (k + 1) zero_3 t6 t7 t8 M = cmp_Or_int.L1.T pr (cmp_Or_int.pts pr R) k zero_3 t6 t7 t8 R M :=
  (ptsR_eq (b := false) (p := [false, true, false, true, true]) (ns := [k + 1]) rfl _ _).trans (cmp_Or_int.L1.eqX pr (cmp_Or_int.pts pr R) k zero_3 t6 t7 t8 R M)
structure cmp_Or_int.Is (pr : Prim) (pts : Pts) (R : Value → Mem → Prop) : Prop where
  L1 : ∀ (k : Nat) (zero_3 : Int) (t6 : SV) (t7 : Int) (t8 : Int) (M : Mem), cmp_Or_int.L1 pts (k + 1) zero_3 t6 t7 t8 M = cmp_Or_int.L1.T pr pts k zero_3 t6 t7 t8 R M
theorem cmp_Or_int.is (pr : Prim) (R : Value → Mem → Prop) : cmp_Or_int.Is pr (cmp_Or_int.pts pr R) R := ⟨fun k zero_3 t6 t7 t8 M => cmp_Or_int.L1.succ pr k zero_3 t6 t7 t8 R M⟩
def cmp_Or_int.T (pr : Prim) (pts : Pts) (vals : SV) (R : Value → Mem → Prop) (M : Mem) : Prop := ∃ k1, cmp_Or_int.L1 pts k1 0 vals ((vals.n : Nat) : Int) 0 M
theorem cmp_Or_int.eqX (pr : Prim) (pts : Pts) (vals : SV) (R : Value → Mem → Prop) (M : Mem) : wpX PP pr pts cmp_Or_int.h [] [] (retH pr Try.f64.results.toList R) (argEnv 0 [SV.v vals]) M = cmp_Or_int.T pr pts vals R M := by kernel_rfl
theorem cmp_Or_int.eq (pr : Prim) (vals : SV) (R : Value → Mem → Prop) (M : Mem) : wpH PP pr cmp_Or_int.h (retH pr Try.f64.results.toList R) (argEnv 0 [SV.v vals]) M = cmp_Or_int.T pr (cmp_Or_int.pts pr R) vals R M := root_eq.trans (cmp_Or_int.eqX pr (cmp_Or_int.pts pr R) vals R M)
theorem cmp_Or_int.fn : PP.funcs[Id.cmp_Or_int]? = some Try.f64 := Try.func64
theorem cmp_Or_int.can : callable PP Id.cmp_Or_int = true := by kernel_rfl
theorem cmp_Or_int.good : okH Try.f64.ntmps cmp_Or_int.h = true := by kernel_rfl
theorem cmp_Or_int.body : Try.f64.body = some ((Try.f64.body).getD .skip) := by kernel_rfl
theorem cmp_Or_int.size : (1 : Nat) ≤ Try.f64.ntmps := by decide
theorem cmp_Or_int.go (w0 : World) (vals : SV) {R : Value → Mem → Prop} {M : Mem} (h : ∀ pts, cmp_Or_int.Is (std PP w0) pts R → cmp_Or_int.T (std PP w0) pts vals R M) : C PP w0 Id.cmp_Or_int #[SV.v vals] R M :=
  C_intro mixed cmp_Or_int.fn cmp_Or_int.body cmp_Or_int.can (annot_code _ _) cmp_Or_int.good cmp_Or_int.size ((cmp_Or_int.eq (std PP w0) vals R M).mpr (h _ (cmp_Or_int.is _ _)))
-- cmp.Compare[int64]
noncomputable def cmp_Compare_int64.h : HC := annot ((Try.f65.body).getD .skip) []
def cmp_Compare_int64.T (pr : Prim) (x : Int) (y : Int) (R : Value → Mem → Prop) (M : Mem) : Prop := pr.call Id.cmp_isNaN_int64 #[.int .i64 x] (fun v1 M2 => shB v1 fun b3 => pr.call Id.cmp_isNaN_int64 #[.int .i64 y] (fun v4 M5 => shB v4 fun b6 => bs b3 (bs b6 (R (.int .i64 0) M5) (R (.int .i64 (-1)) M5)) (bs b6 (R (.int .i64 1) M5) (bs (decide (x < y)) (R (.int .i64 (-1)) M5) (bs (decide (x > y)) (R (.int .i64 1) M5) (R (.int .i64 0) M5))))) M2) M
theorem cmp_Compare_int64.eqX (pr : Prim) (pts : Pts) (x : Int) (y : Int) (R : Value → Mem → Prop) (M : Mem) : wpX PP pr pts cmp_Compare_int64.h [] [] (retH pr Try.f65.results.toList R) (argEnv 0 [.int .i64 x, .int .i64 y]) M = cmp_Compare_int64.T pr x y R M := by kernel_rfl
theorem cmp_Compare_int64.eq (pr : Prim) (x : Int) (y : Int) (R : Value → Mem → Prop) (M : Mem) : wpH PP pr cmp_Compare_int64.h (retH pr Try.f65.results.toList R) (argEnv 0 [.int .i64 x, .int .i64 y]) M = cmp_Compare_int64.T pr x y R M := root_eq.trans (cmp_Compare_int64.eqX pr (ptsR PP pr cmp_Compare_int64.h (retH pr Try.f65.results.toList R)) x y R M)
theorem cmp_Compare_int64.fn : PP.funcs[Id.cmp_Compare_int64]? = some Try.f65 := Try.func65
theorem cmp_Compare_int64.can : callable PP Id.cmp_Compare_int64 = true := by kernel_rfl
theorem cmp_Compare_int64.good : okH Try.f65.ntmps cmp_Compare_int64.h = true := by kernel_rfl
theorem cmp_Compare_int64.body : Try.f65.body = some ((Try.f65.body).getD .skip) := by kernel_rfl
theorem cmp_Compare_int64.size : (2 : Nat) ≤ Try.f65.ntmps := by decide
theorem cmp_Compare_int64.go (w0 : World) (x : Int) (y : Int) {R : Value → Mem → Prop} {M : Mem} (h : cmp_Compare_int64.T (std PP w0) x y R M) : C PP w0 Id.cmp_Compare_int64 #[.int .i64 x, .int .i64 y] R M :=
  C_intro mixed cmp_Compare_int64.fn cmp_Compare_int64.body cmp_Compare_int64.can (annot_code _ _) cmp_Compare_int64.good cmp_Compare_int64.size ((cmp_Compare_int64.eq (std PP w0) x y R M).mpr h)
-- cmp.isNaN[int64]
noncomputable def cmp_isNaN_int64.h : HC := annot ((Try.f66.body).getD .skip) []
def cmp_isNaN_int64.T (pr : Prim) (x : Int) (R : Value → Mem → Prop) (M : Mem) : Prop := R (.bool ((x != x))) M
theorem cmp_isNaN_int64.eqX (pr : Prim) (pts : Pts) (x : Int) (R : Value → Mem → Prop) (M : Mem) : wpX PP pr pts cmp_isNaN_int64.h [] [] (retH pr Try.f66.results.toList R) (argEnv 0 [.int .i64 x]) M = cmp_isNaN_int64.T pr x R M := by kernel_rfl
theorem cmp_isNaN_int64.eq (pr : Prim) (x : Int) (R : Value → Mem → Prop) (M : Mem) : wpH PP pr cmp_isNaN_int64.h (retH pr Try.f66.results.toList R) (argEnv 0 [.int .i64 x]) M = cmp_isNaN_int64.T pr x R M := root_eq.trans (cmp_isNaN_int64.eqX pr (ptsR PP pr cmp_isNaN_int64.h (retH pr Try.f66.results.toList R)) x R M)
theorem cmp_isNaN_int64.fn : PP.funcs[Id.cmp_isNaN_int64]? = some Try.f66 := Try.func66
theorem cmp_isNaN_int64.can : callable PP Id.cmp_isNaN_int64 = true := by kernel_rfl
theorem cmp_isNaN_int64.good : okH Try.f66.ntmps cmp_isNaN_int64.h = true := by kernel_rfl
theorem cmp_isNaN_int64.body : Try.f66.body = some ((Try.f66.body).getD .skip) := by kernel_rfl
theorem cmp_isNaN_int64.size : (1 : Nat) ≤ Try.f66.ntmps := by decide
theorem cmp_isNaN_int64.go (w0 : World) (x : Int) {R : Value → Mem → Prop} {M : Mem} (h : cmp_isNaN_int64.T (std PP w0) x R M) : C PP w0 Id.cmp_isNaN_int64 #[.int .i64 x] R M :=
  C_intro mixed cmp_isNaN_int64.fn cmp_isNaN_int64.body cmp_isNaN_int64.can (annot_code _ _) cmp_isNaN_int64.good cmp_isNaN_int64.size ((cmp_isNaN_int64.eq (std PP w0) x R M).mpr h)
end Go.Proofs.Ytoeijcmpkfjbfaa.HL
