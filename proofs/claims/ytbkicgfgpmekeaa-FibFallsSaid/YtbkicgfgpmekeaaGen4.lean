/-
  Printed by gen.py (a program of this work) out of Lean's own print of the program: what each function's code comes to over the heap logic; each equation is checked by the kernel.
-/
import Derived.Test.YtbkicgfgpmekeaaGenId
set_option linter.unusedVariables false
set_option maxRecDepth 100000
namespace Go.Proofs.Ytbkicgfgpmekeaa.HL
open Go.Proofs
-- (*thicket/thicketlaw12.world).shape
noncomputable def thicketlaw12_world_shape.h : HC := annot ((Try.f46.body).getD .skip) [([true, true, true, true, false, true, false], [0, 1, 5, 7, 8]), ([true, true, true, true, true], [0, 1, 7])]
abbrev thicketlaw12_world_shape.L1 (pts : Pts) (k : Nat) (w_0 : Option Addr) (h_1 : Int) (l_5 : SV) (all_7 : Int) (i_8 : Int) (M : Mem) : Prop := pts [false, false, true, false, true, true, true, true] [k] [(0, .pointer w_0), (1, .int .i64 h_1), (5, SV.v l_5), (7, .int .i64 all_7), (8, .int .i64 i_8)] M
abbrev thicketlaw12_world_shape.J2 (pts : Pts) (w_0 : Option Addr) (h_1 : Int) (all_7 : Int) (M : Mem) : Prop := pts [true, true, true, true, true, true] [] [(0, .pointer w_0), (1, .int .i64 h_1), (7, .int .i64 all_7)] M
def thicketlaw12_world_shape.pts (pr : Prim) (R : Value → Mem → Prop) : Pts := ptsR PP pr thicketlaw12_world_shape.h (retH pr Try.f46.results.toList R)
def thicketlaw12_world_shape.L1.T (pr : Prim) (pts : Pts) (k : Nat) (w_0 : Option Addr) (h_1 : Int) (l_5 : SV) (all_7 : Int) (i_8 : Int) (R : Value → Mem → Prop) (M : Mem) : Prop := bs (decide (i_8 < ((l_5.n : Nat) : Int))) (nc l_5.a fun a14 => (0 ≤ i_8 ∧ i_8 < ((l_5.n : Nat) : Int)) ∧ ob (pr.ld 3 (a14.add (i_8.toNat * 1)) M) fun v15 => shI .i64 v15 fun n16 => ob (pr.bld 58 []) fun v17 => shA v17 fun l18 => shCons l18 fun u19 r20 => shI .i64 u19 fun n21 => shCons r20 fun u22 r23 => shI .i64 u22 fun n24 => shCons r23 fun u25 r26 => shI .i64 u25 fun n27 => shNil r26 (pr.call Id.thicketlaw12_world_tree #[.pointer w_0, .int .i64 h_1, .int .i64 n16, .int .i64 (-1), .agg #[.int .i64 n21, .int .i64 n24, .int .i64 n27], .bool true] (fun v28 M29 => shI .i64 v28 fun n30 => bs ((n30 == 0)) (R (.bool false) M29) (thicketlaw12_world_shape.L1 pts k w_0 h_1 l_5 (w64 (all_7 + n30)) (w64 (i_8 + 1)) M29)) M)) (bs (decide (((l_5.n : Nat) : Int) > 0)) (nc w_0 fun a31 => (0 ≤ h_1 ∧ h_1 < ((2 : Nat) : Int)) ∧ ob (pr.ld 3 (Addr.add (Addr.add a31 1) (h_1.toNat * 1)) M) fun v32 => shI .i64 v32 fun n33 => pr.call Id.thicketlaw12_world_node #[.pointer w_0, .int .i64 h_1, .int .i64 n33] (fun v34 M35 => shT v34 fun l36 => shCons l36 fun u37 r38 => shA u37 fun l39 => shCons l39 fun u40 r41 => shI .i64 u40 fun n42 => shCons r41 fun u43 r44 => shI .i64 u43 fun n45 => shCons r44 fun u46 r47 => shI .i64 u46 fun n48 => shNil r47 (shCons r38 fun u49 r50 => shB u49 fun b51 => shNil r50 (pr.nw [.int .i64 0, .int .i64 0, .int .i64 0] 58 (fun b52 M53 => pr.st 58 ⟨b52, 0, none⟩ (.agg #[.int .i64 n42, .int .i64 n45, .int .i64 n48]) (fun M54 => ob (pr.ld 58 ⟨b52, 0, none⟩ M54) fun v55 => shA v55 fun l56 => shCons l56 fun u57 r58 => shI .i64 u57 fun n59 => shCons r58 fun u60 r61 => shI .i64 u60 fun n62 => shCons r61 fun u63 r64 => shI .i64 u63 fun n65 => shNil r64 (nc w_0 fun a66 => (0 ≤ h_1 ∧ h_1 < ((2 : Nat) : Int)) ∧ ob (pr.ld 30 (Addr.add (Addr.add a66 3) (h_1.toNat * 1)) M54) fun v67 => shS v67 fun s68 => nc w_0 fun a69 => (0 ≤ h_1 ∧ h_1 < ((2 : Nat) : Int)) ∧ ob (pr.ld 30 (Addr.add (Addr.add a69 3) (h_1.toNat * 1)) M54) fun v70 => shS v70 fun s71 => pr.call Id.thicketlaw12_least #[SV.v s71] (fun v72 M73 => shI .i64 v72 fun n74 => nc s68.a fun a75 => (0 ≤ n74 ∧ n74 < ((s68.n : Nat) : Int)) ∧ ob (pr.ld 58 (a75.add (n74.toNat * 3)) M73) fun v76 => shA v76 fun l77 => shCons l77 fun u78 r79 => shI .i64 u78 fun n80 => shCons r79 fun u81 r82 => shI .i64 u81 fun n83 => shCons r82 fun u84 r85 => shI .i64 u84 fun n86 => shNil r85 (ob (pr.bq .neq 58 (.tmp 60) (.tmp 75) (.agg #[.int .i64 n59, .int .i64 n62, .int .i64 n65]) (.agg #[.int .i64 n80, .int .i64 n83, .int .i64 n86])) fun v87 => shB v87 fun b88 => (pr.ld 58 ⟨b52, 0, none⟩ M73 = some (.agg #[.int .i64 n59, .int .i64 n62, .int .i64 n65])) ∧ (pr.ld 30 (Addr.add (Addr.add a66 3) (h_1.toNat * 1)) M73 = some (SV.v s68)) ∧ bs b88 (R (.bool false) M73) (thicketlaw12_world_shape.J2 pts w_0 h_1 all_7 M73))) M54)) M53) M35))) M) (thicketlaw12_world_shape.J2 pts w_0 h_1 all_7 M))
theorem thicketlaw12_world_shape.L1.zero (pr : Prim) (w_0 : Option Addr) (h_1 : Int) (l_5 : SV) (all_7 : Int) (i_8 : Int) (R : Value → Mem → Prop) (M : Mem) : thicketlaw12_world_shape.L1 (thicketlaw12_world_shape.pts pr R) 0 w_0 h_1 l_5 all_7 i_8 M = False :=
  (ptsR_eq (b := false) (p := [false, true, false, true, true, true, true]) (ns := [0]) rfl _ _).trans (by kernel_rfl)
theorem thicketlaw12_world_shape.L1.eqX (pr : Prim) (pts : Pts) (k : Nat) (w_0 : Option Addr) (h_1 : Int) (l_5 : SV) (all_7 : Int) (i_8 : Int) (R : Value → Mem → Prop) (M : Mem) : bodyX PP pr pts thicketlaw12_world_shape.h (retH pr Try.f46.results.toList R) [false, false, true, false, true, true, true, true] [k + 1] [(0, .pointer w_0), (1, .int .i64 h_1), (5, SV.v l_5), (7, .int .i64 all_7), (8, .int .i64 i_8)] M = thicketlaw12_world_shape.L1.T pr pts k w_0 h_1 l_5 all_7 i_8 R M := by kernel_rfl
theorem thicketlaw12_world_shape.L1.succ (pr : Prim) (k : Nat) (w_0 : Option Addr) (h_1 : Int) (l_5 : SV) (all_7 : Int) (i_8 : Int) (R : Value → Mem → Prop) (M : Mem) : thicketlaw12_world_shape.L1 (thicketlaw12_world_shape.pts pr R) (k + 1) w_0 h_1 l_5 all_7 i_8 M = thicketlaw12_world_shape.L1.T pr (thicketlaw12_world_shape.pts pr R) k w_0 h_1 l_5 all_7 i_8 R M :=
  (ptsR_eq (b := false) (p := [false, true, false, true, true, true, true]) (ns := [k + 1]) rfl _ _).trans (thicketlaw12_world_shape.L1.eqX pr (thicketlaw12_world_shape.pts pr R) k w_0 h_1 l_5 all_7 i_8 R M)
def thicketlaw12_world_shape.J2.T (pr : Prim) (pts : Pts) (w_0 : Option Addr) (h_1 : Int) (all_7 : Int) (R : Value → Mem → Prop) (M : Mem) : Prop := nc w_0 fun a89 => (0 ≤ h_1 ∧ h_1 < ((2 : Nat) : Int)) ∧ ob (pr.ld 30 (Addr.add (Addr.add a89 3) (h_1.toNat * 1)) M) fun v90 => shS v90 fun s91 => R (.bool ((all_7 == ((s91.n : Nat) : Int)))) M
theorem thicketlaw12_world_shape.J2.eqX (pr : Prim) (pts : Pts) (w_0 : Option Addr) (h_1 : Int) (all_7 : Int) (R : Value → Mem → Prop) (M : Mem) : bodyX PP pr pts thicketlaw12_world_shape.h (retH pr Try.f46.results.toList R) [true, true, true, true, true, true] [] [(0, .pointer w_0), (1, .int .i64 h_1), (7, .int .i64 all_7)] M = thicketlaw12_world_shape.J2.T pr pts w_0 h_1 all_7 R M := by kernel_rfl
theorem thicketlaw12_world_shape.J2.eq (pr : Prim) (w_0 : Option Addr) (h_1 : Int) (all_7 : Int) (R : Value → Mem → Prop) (M : Mem) : thicketlaw12_world_shape.J2 (thicketlaw12_world_shape.pts pr R) w_0 h_1 all_7 M = thicketlaw12_world_shape.J2.T pr (thicketlaw12_world_shape.pts pr R) w_0 h_1 all_7 R M :=
  (ptsR_eq (b := true) (p := [true, true, true, true, true]) (ns := []) rfl _ _).trans (thicketlaw12_world_shape.J2.eqX pr (thicketlaw12_world_shape.pts pr R) w_0 h_1 all_7 R M)
structure thicketlaw12_world_shape.Is (pr : Prim) (pts : Pts) (R : Value → Mem → Prop) : Prop where
  L1 : ∀ (k : Nat) (w_0 : Option Addr) (h_1 : Int) (l_5 : SV) (all_7 : Int) (i_8 : Int) (M : Mem), thicketlaw12_world_shape.L1 pts (k + 1) w_0 h_1 l_5 all_7 i_8 M = thicketlaw12_world_shape.L1.T pr pts k w_0 h_1 l_5 all_7 i_8 R M
  J2 : ∀ (w_0 : Option Addr) (h_1 : Int) (all_7 : Int) (M : Mem), thicketlaw12_world_shape.J2 pts w_0 h_1 all_7 M = thicketlaw12_world_shape.J2.T pr pts w_0 h_1 all_7 R M
theorem thicketlaw12_world_shape.is (pr : Prim) (R : Value → Mem → Prop) : thicketlaw12_world_shape.Is pr (thicketlaw12_world_shape.pts pr R) R := ⟨fun k w_0 h_1 l_5 all_7 i_8 M => thicketlaw12_world_shape.L1.succ pr k w_0 h_1 l_5 all_7 i_8 R M, fun w_0 h_1 all_7 M => thicketlaw12_world_shape.J2.eq pr w_0 h_1 all_7 R M⟩
def thicketlaw12_world_shape.T (pr : Prim) (pts : Pts) (w : Option Addr) (h_1 : Int) (R : Value → Mem → Prop) (M : Mem) : Prop := nc w fun a1 => (0 ≤ h_1 ∧ h_1 < ((2 : Nat) : Int)) ∧ ob (pr.ld 3 (Addr.add (Addr.add a1 1) (h_1.toNat * 1)) M) fun v2 => shI .i64 v2 fun n3 => pr.call Id.thicketlaw12_world_ring #[.pointer w, .int .i64 h_1, .int .i64 n3] (fun v4 M5 => shT v4 fun l6 => shCons l6 fun u7 r8 => shS u7 fun s9 => shCons r8 fun u10 r11 => shB u10 fun b12 => shNil r11 (bs (!b12) (R (.bool false) M5) (∃ k13, thicketlaw12_world_shape.L1 pts k13 w h_1 s9 0 0 M5))) M
theorem thicketlaw12_world_shape.eqX (pr : Prim) (pts : Pts) (w : Option Addr) (h_1 : Int) (R : Value → Mem → Prop) (M : Mem) : wpX PP pr pts thicketlaw12_world_shape.h [] [] (retH pr Try.f46.results.toList R) (argEnv 0 [.pointer w, .int .i64 h_1]) M = thicketlaw12_world_shape.T pr pts w h_1 R M := by kernel_rfl
theorem thicketlaw12_world_shape.eq (pr : Prim) (w : Option Addr) (h_1 : Int) (R : Value → Mem → Prop) (M : Mem) : wpH PP pr thicketlaw12_world_shape.h (retH pr Try.f46.results.toList R) (argEnv 0 [.pointer w, .int .i64 h_1]) M = thicketlaw12_world_shape.T pr (thicketlaw12_world_shape.pts pr R) w h_1 R M := root_eq.trans (thicketlaw12_world_shape.eqX pr (thicketlaw12_world_shape.pts pr R) w h_1 R M)
theorem thicketlaw12_world_shape.fn : PP.funcs[Id.thicketlaw12_world_shape]? = some Try.f46 := Try.func46
theorem thicketlaw12_world_shape.can : callable PP Id.thicketlaw12_world_shape = true := by kernel_rfl
theorem thicketlaw12_world_shape.good : okH Try.f46.ntmps thicketlaw12_world_shape.h = true := by kernel_rfl
theorem thicketlaw12_world_shape.body : Try.f46.body = some ((Try.f46.body).getD .skip) := by kernel_rfl
theorem thicketlaw12_world_shape.size : (2 : Nat) ≤ Try.f46.ntmps := by decide
theorem thicketlaw12_world_shape.go (w0 : World) (w : Option Addr) (h_1 : Int) {R : Value → Mem → Prop} {M : Mem} (h : ∀ pts, thicketlaw12_world_shape.Is (std PP w0) pts R → thicketlaw12_world_shape.T (std PP w0) pts w h_1 R M) : C PP w0 Id.thicketlaw12_world_shape #[.pointer w, .int .i64 h_1] R M :=
  C_intro mixed thicketlaw12_world_shape.fn thicketlaw12_world_shape.body thicketlaw12_world_shape.can (annot_code _ _) thicketlaw12_world_shape.good thicketlaw12_world_shape.size ((thicketlaw12_world_shape.eq (std PP w0) w h_1 R M).mpr (h _ (thicketlaw12_world_shape.is _ _)))
-- thicket/fib.Meld
noncomputable def fib_Meld.h : HC := annot ((Try.f47.body).getD .skip) [([true], [0, 1, 2])]
abbrev fib_Meld.J1 (pts : Pts) (a_0 : Option Addr) (r_1 : Int) (s_2 : Int) (M : Mem) : Prop := pts [true, true] [] [(0, .pointer a_0), (1, .int .i64 r_1), (2, .int .i64 s_2)] M
def fib_Meld.pts (pr : Prim) (R : Value → Mem → Prop) : Pts := ptsR PP pr fib_Meld.h (retH pr Try.f47.results.toList R)
def fib_Meld.J1.T (pr : Prim) (pts : Pts) (a_0 : Option Addr) (r_1 : Int) (s_2 : Int) (R : Value → Mem → Prop) (M : Mem) : Prop := pr.call Id.chain_Join #[.pointer a_0, .int .i64 r_1, .int .i64 s_2] (fun v3 M4 => pr.call Id.fib_lesser #[.pointer a_0, .int .i64 r_1, .int .i64 s_2] (fun v5 M6 => shI .i64 v5 fun n7 => R (.int .i64 n7) M6) M4) M
theorem fib_Meld.J1.eqX (pr : Prim) (pts : Pts) (a_0 : Option Addr) (r_1 : Int) (s_2 : Int) (R : Value → Mem → Prop) (M : Mem) : bodyX PP pr pts fib_Meld.h (retH pr Try.f47.results.toList R) [true, true] [] [(0, .pointer a_0), (1, .int .i64 r_1), (2, .int .i64 s_2)] M = fib_Meld.J1.T pr pts a_0 r_1 s_2 R M := by kernel_rfl
theorem fib_Meld.J1.eq (pr : Prim) (a_0 : Option Addr) (r_1 : Int) (s_2 : Int) (R : Value → Mem → Prop) (M : Mem) : fib_Meld.J1 (fib_Meld.pts pr R) a_0 r_1 s_2 M = fib_Meld.J1.T pr (fib_Meld.pts pr R) a_0 r_1 s_2 R M :=
  (ptsR_eq (b := true) (p := [true]) (ns := []) rfl _ _).trans (fib_Meld.J1.eqX pr (fib_Meld.pts pr R) a_0 r_1 s_2 R M)
structure fib_Meld.Is (pr : Prim) (pts : Pts) (R : Value → Mem → Prop) : Prop where
  J1 : ∀ (a_0 : Option Addr) (r_1 : Int) (s_2 : Int) (M : Mem), fib_Meld.J1 pts a_0 r_1 s_2 M = fib_Meld.J1.T pr pts a_0 r_1 s_2 R M
theorem fib_Meld.is (pr : Prim) (R : Value → Mem → Prop) : fib_Meld.Is pr (fib_Meld.pts pr R) R := ⟨fun a_0 r_1 s_2 M => fib_Meld.J1.eq pr a_0 r_1 s_2 R M⟩
def fib_Meld.T (pr : Prim) (pts : Pts) (a : Option Addr) (r : Int) (s : Int) (R : Value → Mem → Prop) (M : Mem) : Prop := ob (pr.bq .eql 28 (.tmp 8) (.const (.pointer none)) (.pointer a) (.pointer none)) fun v1 => shB v1 fun b2 => bs b2 (R (.int .i64 (-1)) M) (bs ((r == (-1))) (R (.int .i64 s) M) (bs ((s == (-1))) (R (.int .i64 r) M) (bs ((r == s)) (R (.int .i64 r) M) (fib_Meld.J1 pts a r s M))))
theorem fib_Meld.eqX (pr : Prim) (pts : Pts) (a : Option Addr) (r : Int) (s : Int) (R : Value → Mem → Prop) (M : Mem) : wpX PP pr pts fib_Meld.h [] [] (retH pr Try.f47.results.toList R) (argEnv 0 [.pointer a, .int .i64 r, .int .i64 s]) M = fib_Meld.T pr pts a r s R M := by kernel_rfl
theorem fib_Meld.eq (pr : Prim) (a : Option Addr) (r : Int) (s : Int) (R : Value → Mem → Prop) (M : Mem) : wpH PP pr fib_Meld.h (retH pr Try.f47.results.toList R) (argEnv 0 [.pointer a, .int .i64 r, .int .i64 s]) M = fib_Meld.T pr (fib_Meld.pts pr R) a r s R M := root_eq.trans (fib_Meld.eqX pr (fib_Meld.pts pr R) a r s R M)
theorem fib_Meld.fn : PP.funcs[Id.fib_Meld]? = some Try.f47 := Try.func47
theorem fib_Meld.can : callable PP Id.fib_Meld = true := by kernel_rfl
theorem fib_Meld.good : okH Try.f47.ntmps fib_Meld.h = true := by kernel_rfl
theorem fib_Meld.body : Try.f47.body = some ((Try.f47.body).getD .skip) := by kernel_rfl
theorem fib_Meld.size : (3 : Nat) ≤ Try.f47.ntmps := by decide
theorem fib_Meld.go (w0 : World) (a : Option Addr) (r : Int) (s : Int) {R : Value → Mem → Prop} {M : Mem} (h : ∀ pts, fib_Meld.Is (std PP w0) pts R → fib_Meld.T (std PP w0) pts a r s R M) : C PP w0 Id.fib_Meld #[.pointer a, .int .i64 r, .int .i64 s] R M :=
  C_intro mixed fib_Meld.fn fib_Meld.body fib_Meld.can (annot_code _ _) fib_Meld.good fib_Meld.size ((fib_Meld.eq (std PP w0) a r s R M).mpr (h _ (fib_Meld.is _ _)))
-- thicket/item.Lower
noncomputable def item_Lower.h : HC := annot ((Try.f48.body).getD .skip) []
def item_Lower.T (pr : Prim) (a : Option Addr) (i : Int) (key : Int) (R : Value → Mem → Prop) (M : Mem) : Prop := ob (pr.bq .eql 28 (.tmp 7) (.const (.pointer none)) (.pointer a) (.pointer none)) fun v1 => shB v1 fun b2 => bs b2 (R (.bool false) M) (pr.call Id.arena_Arena_Get #[.pointer a, .int .i64 i, .int .i64 7] (fun v3 M4 => shI .i64 v3 fun n5 => bs (decide (key > n5)) (R (.bool false) M4) (pr.call Id.arena_Arena_Set #[.pointer a, .int .i64 i, .int .i64 7, .int .i64 key] (fun v6 M7 => shB v6 fun b8 => R (.bool b8) M7) M4)) M)
theorem item_Lower.eqX (pr : Prim) (pts : Pts) (a : Option Addr) (i : Int) (key : Int) (R : Value → Mem → Prop) (M : Mem) : wpX PP pr pts item_Lower.h [] [] (retH pr Try.f48.results.toList R) (argEnv 0 [.pointer a, .int .i64 i, .int .i64 key]) M = item_Lower.T pr a i key R M := by kernel_rfl
theorem item_Lower.eq (pr : Prim) (a : Option Addr) (i : Int) (key : Int) (R : Value → Mem → Prop) (M : Mem) : wpH PP pr item_Lower.h (retH pr Try.f48.results.toList R) (argEnv 0 [.pointer a, .int .i64 i, .int .i64 key]) M = item_Lower.T pr a i key R M := root_eq.trans (item_Lower.eqX pr (ptsR PP pr item_Lower.h (retH pr Try.f48.results.toList R)) a i key R M)
theorem item_Lower.fn : PP.funcs[Id.item_Lower]? = some Try.f48 := Try.func48
theorem item_Lower.can : callable PP Id.item_Lower = true := by kernel_rfl
theorem item_Lower.good : okH Try.f48.ntmps item_Lower.h = true := by kernel_rfl
theorem item_Lower.body : Try.f48.body = some ((Try.f48.body).getD .skip) := by kernel_rfl
theorem item_Lower.size : (3 : Nat) ≤ Try.f48.ntmps := by decide
theorem item_Lower.go (w0 : World) (a : Option Addr) (i : Int) (key : Int) {R : Value → Mem → Prop} {M : Mem} (h : item_Lower.T (std PP w0) a i key R M) : C PP w0 Id.item_Lower #[.pointer a, .int .i64 i, .int .i64 key] R M :=
  C_intro mixed item_Lower.fn item_Lower.body item_Lower.can (annot_code _ _) item_Lower.good item_Lower.size ((item_Lower.eq (std PP w0) a i key R M).mpr h)
-- thicket/fib.Fall
noncomputable def fib_Fall.h : HC := annot ((Try.f49.body).getD .skip) [([true, true, true], [0, 1, 7])]
abbrev fib_Fall.J1 (pts : Pts) (a_0 : Option Addr) (r_1 : Int) (n_7 : Int) (M : Mem) : Prop := pts [true, true, true, true] [] [(0, .pointer a_0), (1, .int .i64 r_1), (7, .int .i64 n_7)] M
def fib_Fall.pts (pr : Prim) (R : Value → Mem → Prop) : Pts := ptsR PP pr fib_Fall.h (retH pr Try.f49.results.toList R)
def fib_Fall.J1.T (pr : Prim) (pts : Pts) (a_0 : Option Addr) (r_1 : Int) (n_7 : Int) (R : Value → Mem → Prop) (M : Mem) : Prop := pr.call Id.arena_Arena_Cell #[.pointer a_0, .int .i64 n_7, .int .i64 0] (fun v6 M7 => shI .i64 v6 fun n8 => bs ((n8 != (-1))) (pr.call Id.node_Before #[.pointer a_0, .int .i64 n_7, .int .i64 n8] (fun v9 M10 => shB v9 fun b11 => bs (!b11) (R (.int .i64 r_1) M10) (pr.call Id.fib_cut #[.pointer a_0, .int .i64 r_1, .int .i64 n_7] (fun v12 M13 => pr.call Id.fib_lesser #[.pointer a_0, .int .i64 r_1, .int .i64 n_7] (fun v14 M15 => shI .i64 v14 fun n16 => R (.int .i64 n16) M15) M13) M10)) M7) (pr.call Id.fib_lesser #[.pointer a_0, .int .i64 r_1, .int .i64 n_7] (fun v17 M18 => shI .i64 v17 fun n19 => R (.int .i64 n19) M18) M7)) M
theorem fib_Fall.J1.eqX (pr : Prim) (pts : Pts) (a_0 : Option Addr) (r_1 : Int) (n_7 : Int) (R : Value → Mem → Prop) (M : Mem) : bodyX PP pr pts fib_Fall.h (retH pr Try.f49.results.toList R) [true, true, true, true] [] [(0, .pointer a_0), (1, .int .i64 r_1), (7, .int .i64 n_7)] M = fib_Fall.J1.T pr pts a_0 r_1 n_7 R M := by kernel_rfl
theorem fib_Fall.J1.eq (pr : Prim) (a_0 : Option Addr) (r_1 : Int) (n_7 : Int) (R : Value → Mem → Prop) (M : Mem) : fib_Fall.J1 (fib_Fall.pts pr R) a_0 r_1 n_7 M = fib_Fall.J1.T pr (fib_Fall.pts pr R) a_0 r_1 n_7 R M :=
  (ptsR_eq (b := true) (p := [true, true, true]) (ns := []) rfl _ _).trans (fib_Fall.J1.eqX pr (fib_Fall.pts pr R) a_0 r_1 n_7 R M)
structure fib_Fall.Is (pr : Prim) (pts : Pts) (R : Value → Mem → Prop) : Prop where
  J1 : ∀ (a_0 : Option Addr) (r_1 : Int) (n_7 : Int) (M : Mem), fib_Fall.J1 pts a_0 r_1 n_7 M = fib_Fall.J1.T pr pts a_0 r_1 n_7 R M
theorem fib_Fall.is (pr : Prim) (R : Value → Mem → Prop) : fib_Fall.Is pr (fib_Fall.pts pr R) R := ⟨fun a_0 r_1 n_7 M => fib_Fall.J1.eq pr a_0 r_1 n_7 R M⟩
def fib_Fall.T (pr : Prim) (pts : Pts) (a : Option Addr) (r : Int) (i : Int) (R : Value → Mem → Prop) (M : Mem) : Prop := ob (pr.bq .eql 28 (.tmp 9) (.const (.pointer none)) (.pointer a) (.pointer none)) fun v1 => shB v1 fun b2 => bs b2 (R (.int .i64 (-1)) M) (pr.call Id.item_Node #[.pointer a, .int .i64 i] (fun v3 M4 => shI .i64 v3 fun n5 => bs ((n5 == (-1))) (R (.int .i64 r) M4) (bs ((n5 == r)) (R (.int .i64 r) M4) (fib_Fall.J1 pts a r n5 M4))) M)
theorem fib_Fall.eqX (pr : Prim) (pts : Pts) (a : Option Addr) (r : Int) (i : Int) (R : Value → Mem → Prop) (M : Mem) : wpX PP pr pts fib_Fall.h [] [] (retH pr Try.f49.results.toList R) (argEnv 0 [.pointer a, .int .i64 r, .int .i64 i]) M = fib_Fall.T pr pts a r i R M := by kernel_rfl
theorem fib_Fall.eq (pr : Prim) (a : Option Addr) (r : Int) (i : Int) (R : Value → Mem → Prop) (M : Mem) : wpH PP pr fib_Fall.h (retH pr Try.f49.results.toList R) (argEnv 0 [.pointer a, .int .i64 r, .int .i64 i]) M = fib_Fall.T pr (fib_Fall.pts pr R) a r i R M := root_eq.trans (fib_Fall.eqX pr (fib_Fall.pts pr R) a r i R M)
theorem fib_Fall.fn : PP.funcs[Id.fib_Fall]? = some Try.f49 := Try.func49
theorem fib_Fall.can : callable PP Id.fib_Fall = true := by kernel_rfl
theorem fib_Fall.good : okH Try.f49.ntmps fib_Fall.h = true := by kernel_rfl
theorem fib_Fall.body : Try.f49.body = some ((Try.f49.body).getD .skip) := by kernel_rfl
theorem fib_Fall.size : (3 : Nat) ≤ Try.f49.ntmps := by decide
theorem fib_Fall.go (w0 : World) (a : Option Addr) (r : Int) (i : Int) {R : Value → Mem → Prop} {M : Mem} (h : ∀ pts, fib_Fall.Is (std PP w0) pts R → fib_Fall.T (std PP w0) pts a r i R M) : C PP w0 Id.fib_Fall #[.pointer a, .int .i64 r, .int .i64 i] R M :=
  C_intro mixed fib_Fall.fn fib_Fall.body fib_Fall.can (annot_code _ _) fib_Fall.good fib_Fall.size ((fib_Fall.eq (std PP w0) a r i R M).mpr (h _ (fib_Fall.is _ _)))
-- (*thicket/arena.Arena).Cell
noncomputable def arena_Arena_Cell.h : HC := annot ((Try.f50.body).getD .skip) []
def arena_Arena_Cell.T (pr : Prim) (a : Option Addr) (c : Int) (field : Int) (R : Value → Mem → Prop) (M : Mem) : Prop := pr.call Id.arena_Arena_Get #[.pointer a, .int .i64 c, .int .i64 field] (fun v1 M2 => shI .i64 v1 fun n3 => bs (decide (n3 < 0)) (R (.int .i64 (-1)) M2) (nc a fun a4 => ob (pr.ld 63 a4 M2) fun v5 => shS v5 fun s6 => bs (decide (n3 ≥ ((s6.n : Nat) : Int))) (R (.int .i64 (-1)) M2) (R (.int .i64 n3) M2))) M
theorem arena_Arena_Cell.eqX (pr : Prim) (pts : Pts) (a : Option Addr) (c : Int) (field : Int) (R : Value → Mem → Prop) (M : Mem) : wpX PP pr pts arena_Arena_Cell.h [] [] (retH pr Try.f50.results.toList R) (argEnv 0 [.pointer a, .int .i64 c, .int .i64 field]) M = arena_Arena_Cell.T pr a c field R M := by kernel_rfl
theorem arena_Arena_Cell.eq (pr : Prim) (a : Option Addr) (c : Int) (field : Int) (R : Value → Mem → Prop) (M : Mem) : wpH PP pr arena_Arena_Cell.h (retH pr Try.f50.results.toList R) (argEnv 0 [.pointer a, .int .i64 c, .int .i64 field]) M = arena_Arena_Cell.T pr a c field R M := root_eq.trans (arena_Arena_Cell.eqX pr (ptsR PP pr arena_Arena_Cell.h (retH pr Try.f50.results.toList R)) a c field R M)
theorem arena_Arena_Cell.fn : PP.funcs[Id.arena_Arena_Cell]? = some Try.f50 := Try.func50
theorem arena_Arena_Cell.can : callable PP Id.arena_Arena_Cell = true := by kernel_rfl
theorem arena_Arena_Cell.good : okH Try.f50.ntmps arena_Arena_Cell.h = true := by kernel_rfl
theorem arena_Arena_Cell.body : Try.f50.body = some ((Try.f50.body).getD .skip) := by kernel_rfl
theorem arena_Arena_Cell.size : (3 : Nat) ≤ Try.f50.ntmps := by decide
theorem arena_Arena_Cell.go (w0 : World) (a : Option Addr) (c : Int) (field : Int) {R : Value → Mem → Prop} {M : Mem} (h : arena_Arena_Cell.T (std PP w0) a c field R M) : C PP w0 Id.arena_Arena_Cell #[.pointer a, .int .i64 c, .int .i64 field] R M :=
  C_intro mixed arena_Arena_Cell.fn arena_Arena_Cell.body arena_Arena_Cell.can (annot_code _ _) arena_Arena_Cell.good arena_Arena_Cell.size ((arena_Arena_Cell.eq (std PP w0) a c field R M).mpr h)
-- thicket/fib.Cut
noncomputable def fib_Cut.h : HC := annot ((Try.f51.body).getD .skip) [([true, true, true, true], [0, 7])]
abbrev fib_Cut.J1 (pts : Pts) (a_0 : Option Addr) (n_7 : Int) (M : Mem) : Prop := pts [true, true, true, true, true] [] [(0, .pointer a_0), (7, .int .i64 n_7)] M
def fib_Cut.pts (pr : Prim) (R : Value → Mem → Prop) : Pts := ptsR PP pr fib_Cut.h (retH pr Try.f51.results.toList R)
def fib_Cut.J1.T (pr : Prim) (pts : Pts) (a_0 : Option Addr) (n_7 : Int) (R : Value → Mem → Prop) (M : Mem) : Prop := pr.call Id.fib_pop #[.pointer a_0, .int .i64 n_7] (fun v11 M12 => shT v11 fun l13 => shCons l13 fun u14 r15 => shI .i64 u14 fun n16 => shCons r15 fun u17 r18 => shI .i64 u17 fun n19 => shNil r18 (R (.int .i64 n16) M12)) M
theorem fib_Cut.J1.eqX (pr : Prim) (pts : Pts) (a_0 : Option Addr) (n_7 : Int) (R : Value → Mem → Prop) (M : Mem) : bodyX PP pr pts fib_Cut.h (retH pr Try.f51.results.toList R) [true, true, true, true, true] [] [(0, .pointer a_0), (7, .int .i64 n_7)] M = fib_Cut.J1.T pr pts a_0 n_7 R M := by kernel_rfl
theorem fib_Cut.J1.eq (pr : Prim) (a_0 : Option Addr) (n_7 : Int) (R : Value → Mem → Prop) (M : Mem) : fib_Cut.J1 (fib_Cut.pts pr R) a_0 n_7 M = fib_Cut.J1.T pr (fib_Cut.pts pr R) a_0 n_7 R M :=
  (ptsR_eq (b := true) (p := [true, true, true, true]) (ns := []) rfl _ _).trans (fib_Cut.J1.eqX pr (fib_Cut.pts pr R) a_0 n_7 R M)
structure fib_Cut.Is (pr : Prim) (pts : Pts) (R : Value → Mem → Prop) : Prop where
  J1 : ∀ (a_0 : Option Addr) (n_7 : Int) (M : Mem), fib_Cut.J1 pts a_0 n_7 M = fib_Cut.J1.T pr pts a_0 n_7 R M
theorem fib_Cut.is (pr : Prim) (R : Value → Mem → Prop) : fib_Cut.Is pr (fib_Cut.pts pr R) R := ⟨fun a_0 n_7 M => fib_Cut.J1.eq pr a_0 n_7 R M⟩
def fib_Cut.T (pr : Prim) (pts : Pts) (a : Option Addr) (r : Int) (i : Int) (R : Value → Mem → Prop) (M : Mem) : Prop := ob (pr.bq .eql 28 (.tmp 10) (.const (.pointer none)) (.pointer a) (.pointer none)) fun v1 => shB v1 fun b2 => bs b2 (R (.int .i64 (-1)) M) (pr.call Id.item_Node #[.pointer a, .int .i64 i] (fun v3 M4 => shI .i64 v3 fun n5 => bs ((n5 == (-1))) (R (.int .i64 r) M4) (pr.call Id.arena_Arena_Cell #[.pointer a, .int .i64 n5, .int .i64 0] (fun v6 M7 => shI .i64 v6 fun n8 => bs ((n8 != (-1))) (pr.call Id.fib_cut #[.pointer a, .int .i64 r, .int .i64 n5] (fun v9 M10 => fib_Cut.J1 pts a n5 M10) M7) (fib_Cut.J1 pts a n5 M7)) M4)) M)
theorem fib_Cut.eqX (pr : Prim) (pts : Pts) (a : Option Addr) (r : Int) (i : Int) (R : Value → Mem → Prop) (M : Mem) : wpX PP pr pts fib_Cut.h [] [] (retH pr Try.f51.results.toList R) (argEnv 0 [.pointer a, .int .i64 r, .int .i64 i]) M = fib_Cut.T pr pts a r i R M := by kernel_rfl
theorem fib_Cut.eq (pr : Prim) (a : Option Addr) (r : Int) (i : Int) (R : Value → Mem → Prop) (M : Mem) : wpH PP pr fib_Cut.h (retH pr Try.f51.results.toList R) (argEnv 0 [.pointer a, .int .i64 r, .int .i64 i]) M = fib_Cut.T pr (fib_Cut.pts pr R) a r i R M := root_eq.trans (fib_Cut.eqX pr (fib_Cut.pts pr R) a r i R M)
theorem fib_Cut.fn : PP.funcs[Id.fib_Cut]? = some Try.f51 := Try.func51
theorem fib_Cut.can : callable PP Id.fib_Cut = true := by kernel_rfl
theorem fib_Cut.good : okH Try.f51.ntmps fib_Cut.h = true := by kernel_rfl
theorem fib_Cut.body : Try.f51.body = some ((Try.f51.body).getD .skip) := by kernel_rfl
theorem fib_Cut.size : (3 : Nat) ≤ Try.f51.ntmps := by decide
theorem fib_Cut.go (w0 : World) (a : Option Addr) (r : Int) (i : Int) {R : Value → Mem → Prop} {M : Mem} (h : ∀ pts, fib_Cut.Is (std PP w0) pts R → fib_Cut.T (std PP w0) pts a r i R M) : C PP w0 Id.fib_Cut #[.pointer a, .int .i64 r, .int .i64 i] R M :=
  C_intro mixed fib_Cut.fn fib_Cut.body fib_Cut.can (annot_code _ _) fib_Cut.good fib_Cut.size ((fib_Cut.eq (std PP w0) a r i R M).mpr (h _ (fib_Cut.is _ _)))
-- thicket/meter.New
noncomputable def meter_New.h : HC := annot ((Try.f52.body).getD .skip) []
def meter_New.T (pr : Prim) (R : Value → Mem → Prop) (M : Mem) : Prop := ob (pr.bld 67 []) fun v1 => shA v1 fun l2 => shCons l2 fun u3 r4 => shI .i64 u3 fun n5 => shCons r4 fun u6 r7 => shI .i64 u6 fun n8 => shCons r7 fun u9 r10 => shI .i64 u9 fun n11 => shNil r10 (pr.nw [.int .i64 n5, .int .i64 n8, .int .i64 n11] 67 (fun b12 M13 => R (.pointer (some ⟨b12, 0, none⟩)) M13) M)
theorem meter_New.eqX (pr : Prim) (pts : Pts) (R : Value → Mem → Prop) (M : Mem) : wpX PP pr pts meter_New.h [] [] (retH pr Try.f52.results.toList R) (argEnv 0 []) M = meter_New.T pr R M := by kernel_rfl
theorem meter_New.eq (pr : Prim) (R : Value → Mem → Prop) (M : Mem) : wpH PP pr meter_New.h (retH pr Try.f52.results.toList R) (argEnv 0 []) M = meter_New.T pr R M := root_eq.trans (meter_New.eqX pr (ptsR PP pr meter_New.h (retH pr Try.f52.results.toList R)) R M)
theorem meter_New.fn : PP.funcs[Id.meter_New]? = some Try.f52 := Try.func52
theorem meter_New.can : callable PP Id.meter_New = true := by kernel_rfl
theorem meter_New.good : okH Try.f52.ntmps meter_New.h = true := by kernel_rfl
theorem meter_New.body : Try.f52.body = some ((Try.f52.body).getD .skip) := by kernel_rfl
theorem meter_New.size : (0 : Nat) ≤ Try.f52.ntmps := by decide
theorem meter_New.go (w0 : World) {R : Value → Mem → Prop} {M : Mem} (h : meter_New.T (std PP w0) R M) : C PP w0 Id.meter_New #[] R M :=
  C_intro mixed meter_New.fn meter_New.body meter_New.can (annot_code _ _) meter_New.good meter_New.size ((meter_New.eq (std PP w0) R M).mpr h)
-- thicket/arena.fresh
noncomputable def arena_fresh.h : HC := annot ((Try.f53.body).getD .skip) [([true, true, false, true, false], [0, 1, 5, 6, 7])]
abbrev arena_fresh.L1 (pts : Pts) (k : Nat) (t0 : Addr) (x_1 : Addr) (t5 : SV) (t6 : Int) (t7 : Int) (M : Mem) : Prop := pts [false, false, true, false, true, true] [k] [(0, .pointer (some t0)), (1, .pointer (some x_1)), (5, SV.v t5), (6, .int .i64 t6), (7, .int .i64 t7)] M
def arena_fresh.pts (pr : Prim) (R : Value → Mem → Prop) : Pts := ptsR PP pr arena_fresh.h (retH pr Try.f53.results.toList R)
def arena_fresh.L1.T (pr : Prim) (pts : Pts) (k : Nat) (t0 : Addr) (x_1 : Addr) (t5 : SV) (t6 : Int) (t7 : Int) (R : Value → Mem → Prop) (M : Mem) : Prop := bs (decide (t7 < t6)) (nc t5.a fun a45 => (0 ≤ t7 ∧ t7 < ((t5.n : Nat) : Int)) ∧ ob (pr.ld 3 (a45.add (t7.toNat * 1)) M) fun v46 => shI .i64 v46 fun n47 => (0 ≤ n47 ∧ n47 < ((10 : Nat) : Int)) ∧ pr.st 2 (Addr.add x_1 (n47.toNat * 1)) (.int .i64 (-1)) (fun M48 => arena_fresh.L1 pts k t0 x_1 t5 t6 (w64 (t7 + 1)) M48) M) (ob (pr.ld 77 x_1 M) fun v49 => shA v49 fun l50 => shCons l50 fun u51 r52 => shI .i64 u51 fun n53 => shCons r52 fun u54 r55 => shI .i64 u54 fun n56 => shCons r55 fun u57 r58 => shI .i64 u57 fun n59 => shCons r58 fun u60 r61 => shI .i64 u60 fun n62 => shCons r61 fun u63 r64 => shI .i64 u63 fun n65 => shCons r64 fun u66 r67 => shI .i64 u66 fun n68 => shCons r67 fun u69 r70 => shI .i64 u69 fun n71 => shCons r70 fun u72 r73 => shI .i64 u72 fun n74 => shCons r73 fun u75 r76 => shI .i64 u75 fun n77 => shCons r76 fun u78 r79 => shI .i64 u78 fun n80 => shCons r79 fun u81 r82 => shB u81 fun b83 => shNil r82 (pr.st 77 t0 (.agg #[.int .i64 n53, .int .i64 n56, .int .i64 n59, .int .i64 n62, .int .i64 n65, .int .i64 n68, .int .i64 n71, .int .i64 n74, .int .i64 n77, .int .i64 n80, .bool b83]) (fun M84 => ob (pr.rdv 77 (.pointer (some t0)) M84) fun v85 => R v85 M84) M))
theorem arena_fresh.L1.zero (pr : Prim) (t0 : Addr) (x_1 : Addr) (t5 : SV) (t6 : Int) (t7 : Int) (R : Value → Mem → Prop) (M : Mem) : arena_fresh.L1 (arena_fresh.pts pr R) 0 t0 x_1 t5 t6 t7 M = False :=
  (ptsR_eq (b := false) (p := [false, true, false, true, true]) (ns := [0]) rfl _ _).trans (by kernel_rfl)
theorem arena_fresh.L1.eqX (pr : Prim) (pts : Pts) (k : Nat) (t0 : Addr) (x_1 : Addr) (t5 : SV) (t6 : Int) (t7 : Int) (R : Value → Mem → Prop) (M : Mem) : bodyX PP pr pts arena_fresh.h (retH pr Try.f53.results.toList R) [false, false, true, false, true, true] [k + 1] [(0, .pointer (some t0)), (1, .pointer (some x_1)), (5, SV.v t5), (6, .int .i64 t6), (7, .int .i64 t7)] M = arena_fresh.L1.T pr pts k t0 x_1 t5 t6 t7 R M := by kernel_rfl
theorem arena_fresh.L1.succ (pr : Prim) (k : Nat) (t0 : Addr) (x_1 : Addr) (t5 : SV) (t6 : Int) (t7 : Int) (R : Value → Mem → Prop) (M : Mem) : arena_fresh.L1 (arena_fresh.pts pr R) (k + 1) t0 x_1 t5 t6 t7 M = arena_fresh.L1.T pr (arena_fresh.pts pr R) k t0 x_1 t5 t6 t7 R M :=
  (ptsR_eq (b := false) (p := [false, true, false, true, true]) (ns := [k + 1]) rfl _ _).trans (arena_fresh.L1.eqX pr (arena_fresh.pts pr R) k t0 x_1 t5 t6 t7 R M)
structure arena_fresh.Is (pr : Prim) (pts : Pts) (R : Value → Mem → Prop) : Prop where
  L1 : ∀ (k : Nat) (t0 : Addr) (x_1 : Addr) (t5 : SV) (t6 : Int) (t7 : Int) (M : Mem), arena_fresh.L1 pts (k + 1) t0 x_1 t5 t6 t7 M = arena_fresh.L1.T pr pts k t0 x_1 t5 t6 t7 R M
theorem arena_fresh.is (pr : Prim) (R : Value → Mem → Prop) : arena_fresh.Is pr (arena_fresh.pts pr R) R := ⟨fun k t0 x_1 t5 t6 t7 M => arena_fresh.L1.succ pr k t0 x_1 t5 t6 t7 R M⟩
def arena_fresh.T (pr : Prim) (pts : Pts) (R : Value → Mem → Prop) (M : Mem) : Prop := pr.nw [.int .i64 0, .int .i64 0, .int .i64 0, .int .i64 0, .int .i64 0, .int .i64 0, .int .i64 0, .int .i64 0, .int .i64 0, .int .i64 0, .bool false] 77 (fun b1 M2 => ob (pr.bld 77 [(1, .bool true)]) fun v3 => shA v3 fun l4 => shCons l4 fun u5 r6 => shI .i64 u5 fun n7 => shCons r6 fun u8 r9 => shI .i64 u8 fun n10 => shCons r9 fun u11 r12 => shI .i64 u11 fun n13 => shCons r12 fun u14 r15 => shI .i64 u14 fun n16 => shCons r15 fun u17 r18 => shI .i64 u17 fun n19 => shCons r18 fun u20 r21 => shI .i64 u20 fun n22 => shCons r21 fun u23 r24 => shI .i64 u23 fun n25 => shCons r24 fun u26 r27 => shI .i64 u26 fun n28 => shCons r27 fun u29 r30 => shI .i64 u29 fun n31 => shCons r30 fun u32 r33 => shI .i64 u32 fun n34 => shCons r33 fun u35 r36 => shB u35 fun b37 => shNil r36 (pr.nw [.int .i64 0, .int .i64 0, .int .i64 0, .int .i64 0, .int .i64 0, .int .i64 0, .int .i64 0, .int .i64 0, .int .i64 0, .int .i64 0, .bool false] 77 (fun b38 M39 => pr.st 77 ⟨b38, 0, none⟩ (.agg #[.int .i64 n7, .int .i64 n10, .int .i64 n13, .int .i64 n16, .int .i64 n19, .int .i64 n22, .int .i64 n25, .int .i64 n28, .int .i64 n31, .int .i64 n34, .bool b37]) (fun M40 => pr.bsl 53 6 [(0, .int .i64 0), (1, .int .i64 1), (2, .int .i64 2), (3, .int .i64 3), (4, .int .i64 6), (5, .int .i64 9)] (fun v41 M42 => shS v41 fun s43 => ∃ k44, arena_fresh.L1 pts k44 ⟨b1, 0, none⟩ ⟨b38, 0, none⟩ s43 ((s43.n : Nat) : Int) 0 M42) M40) M39) M2)) M
theorem arena_fresh.eqX (pr : Prim) (pts : Pts) (R : Value → Mem → Prop) (M : Mem) : wpX PP pr pts arena_fresh.h [] [] (retH pr Try.f53.results.toList R) (argEnv 0 []) M = arena_fresh.T pr pts R M := by kernel_rfl
theorem arena_fresh.eq (pr : Prim) (R : Value → Mem → Prop) (M : Mem) : wpH PP pr arena_fresh.h (retH pr Try.f53.results.toList R) (argEnv 0 []) M = arena_fresh.T pr (arena_fresh.pts pr R) R M := root_eq.trans (arena_fresh.eqX pr (arena_fresh.pts pr R) R M)
theorem arena_fresh.fn : PP.funcs[Id.arena_fresh]? = some Try.f53 := Try.func53
theorem arena_fresh.can : callable PP Id.arena_fresh = true := by kernel_rfl
theorem arena_fresh.good : okH Try.f53.ntmps arena_fresh.h = true := by kernel_rfl
theorem arena_fresh.body : Try.f53.body = some ((Try.f53.body).getD .skip) := by kernel_rfl
theorem arena_fresh.size : (0 : Nat) ≤ Try.f53.ntmps := by decide
theorem arena_fresh.go (w0 : World) {R : Value → Mem → Prop} {M : Mem} (h : ∀ pts, arena_fresh.Is (std PP w0) pts R → arena_fresh.T (std PP w0) pts R M) : C PP w0 Id.arena_fresh #[] R M :=
  C_intro mixed arena_fresh.fn arena_fresh.body arena_fresh.can (annot_code _ _) arena_fresh.good arena_fresh.size ((arena_fresh.eq (std PP w0) R M).mpr (h _ (arena_fresh.is _ _)))
-- (*thicket/arena.Arena).has
noncomputable def arena_Arena_has.h : HC := annot ((Try.f54.body).getD .skip) []
def arena_Arena_has.T (pr : Prim) (a : Option Addr) (c : Int) (field : Int) (R : Value → Mem → Prop) (M : Mem) : Prop := pr.call Id.arena_Arena_Live #[.pointer a, .int .i64 c] (fun v1 M2 => shB v1 fun b3 => bs b3 (bs (decide (field ≥ 0)) (R (.bool (decide (field < 10))) M2) (R (.bool false) M2)) (R (.bool false) M2)) M
theorem arena_Arena_has.eqX (pr : Prim) (pts : Pts) (a : Option Addr) (c : Int) (field : Int) (R : Value → Mem → Prop) (M : Mem) : wpX PP pr pts arena_Arena_has.h [] [] (retH pr Try.f54.results.toList R) (argEnv 0 [.pointer a, .int .i64 c, .int .i64 field]) M = arena_Arena_has.T pr a c field R M := by kernel_rfl
theorem arena_Arena_has.eq (pr : Prim) (a : Option Addr) (c : Int) (field : Int) (R : Value → Mem → Prop) (M : Mem) : wpH PP pr arena_Arena_has.h (retH pr Try.f54.results.toList R) (argEnv 0 [.pointer a, .int .i64 c, .int .i64 field]) M = arena_Arena_has.T pr a c field R M := root_eq.trans (arena_Arena_has.eqX pr (ptsR PP pr arena_Arena_has.h (retH pr Try.f54.results.toList R)) a c field R M)
theorem arena_Arena_has.fn : PP.funcs[Id.arena_Arena_has]? = some Try.f54 := Try.func54
theorem arena_Arena_has.can : callable PP Id.arena_Arena_has = true := by kernel_rfl
theorem arena_Arena_has.good : okH Try.f54.ntmps arena_Arena_has.h = true := by kernel_rfl
theorem arena_Arena_has.body : Try.f54.body = some ((Try.f54.body).getD .skip) := by kernel_rfl
theorem arena_Arena_has.size : (3 : Nat) ≤ Try.f54.ntmps := by decide
theorem arena_Arena_has.go (w0 : World) (a : Option Addr) (c : Int) (field : Int) {R : Value → Mem → Prop} {M : Mem} (h : arena_Arena_has.T (std PP w0) a c field R M) : C PP w0 Id.arena_Arena_has #[.pointer a, .int .i64 c, .int .i64 field] R M :=
  C_intro mixed arena_Arena_has.fn arena_Arena_has.body arena_Arena_has.can (annot_code _ _) arena_Arena_has.good arena_Arena_has.size ((arena_Arena_has.eq (std PP w0) a c field R M).mpr h)
-- thicket/item.Put
noncomputable def item_Put.h : HC := annot ((Try.f55.body).getD .skip) []
def item_Put.T (pr : Prim) (a : Option Addr) (n : Int) (i : Int) (R : Value → Mem → Prop) (M : Mem) : Prop := ob (pr.bq .neq 28 (.tmp 6) (.const (.pointer none)) (.pointer a) (.pointer none)) fun v1 => shB v1 fun b2 => bs b2 (pr.call Id.arena_Arena_Set #[.pointer a, .int .i64 n, .int .i64 6, .int .i64 i] (fun v3 M4 => shB v3 fun b5 => pr.call Id.arena_Arena_Set #[.pointer a, .int .i64 i, .int .i64 9, .int .i64 n] (fun v6 M7 => shB v6 fun b8 => R (.tuple #[]) M7) M4) M) (R (.tuple #[]) M)
theorem item_Put.eqX (pr : Prim) (pts : Pts) (a : Option Addr) (n : Int) (i : Int) (R : Value → Mem → Prop) (M : Mem) : wpX PP pr pts item_Put.h [] [] (retH pr Try.f55.results.toList R) (argEnv 0 [.pointer a, .int .i64 n, .int .i64 i]) M = item_Put.T pr a n i R M := by kernel_rfl
theorem item_Put.eq (pr : Prim) (a : Option Addr) (n : Int) (i : Int) (R : Value → Mem → Prop) (M : Mem) : wpH PP pr item_Put.h (retH pr Try.f55.results.toList R) (argEnv 0 [.pointer a, .int .i64 n, .int .i64 i]) M = item_Put.T pr a n i R M := root_eq.trans (item_Put.eqX pr (ptsR PP pr item_Put.h (retH pr Try.f55.results.toList R)) a n i R M)
theorem item_Put.fn : PP.funcs[Id.item_Put]? = some Try.f55 := Try.func55
theorem item_Put.can : callable PP Id.item_Put = true := by kernel_rfl
theorem item_Put.good : okH Try.f55.ntmps item_Put.h = true := by kernel_rfl
theorem item_Put.body : Try.f55.body = some ((Try.f55.body).getD .skip) := by kernel_rfl
theorem item_Put.size : (3 : Nat) ≤ Try.f55.ntmps := by decide
theorem item_Put.go (w0 : World) (a : Option Addr) (n : Int) (i : Int) {R : Value → Mem → Prop} {M : Mem} (h : item_Put.T (std PP w0) a n i R M) : C PP w0 Id.item_Put #[.pointer a, .int .i64 n, .int .i64 i] R M :=
  C_intro mixed item_Put.fn item_Put.body item_Put.can (annot_code _ _) item_Put.good item_Put.size ((item_Put.eq (std PP w0) a n i R M).mpr h)
-- thicket/chain.link
noncomputable def chain_link.h : HC := annot ((Try.f56.body).getD .skip) []
def chain_link.T (pr : Prim) (a : Option Addr) (c : Int) (d : Int) (R : Value → Mem → Prop) (M : Mem) : Prop := pr.call Id.arena_Arena_Set #[.pointer a, .int .i64 c, .int .i64 3, .int .i64 d] (fun v1 M2 => shB v1 fun b3 => pr.call Id.arena_Arena_Set #[.pointer a, .int .i64 d, .int .i64 2, .int .i64 c] (fun v4 M5 => shB v4 fun b6 => R (.tuple #[]) M5) M2) M
theorem chain_link.eqX (pr : Prim) (pts : Pts) (a : Option Addr) (c : Int) (d : Int) (R : Value → Mem → Prop) (M : Mem) : wpX PP pr pts chain_link.h [] [] (retH pr Try.f56.results.toList R) (argEnv 0 [.pointer a, .int .i64 c, .int .i64 d]) M = chain_link.T pr a c d R M := by kernel_rfl
theorem chain_link.eq (pr : Prim) (a : Option Addr) (c : Int) (d : Int) (R : Value → Mem → Prop) (M : Mem) : wpH PP pr chain_link.h (retH pr Try.f56.results.toList R) (argEnv 0 [.pointer a, .int .i64 c, .int .i64 d]) M = chain_link.T pr a c d R M := root_eq.trans (chain_link.eqX pr (ptsR PP pr chain_link.h (retH pr Try.f56.results.toList R)) a c d R M)
theorem chain_link.fn : PP.funcs[Id.chain_link]? = some Try.f56 := Try.func56
theorem chain_link.can : callable PP Id.chain_link = true := by kernel_rfl
theorem chain_link.good : okH Try.f56.ntmps chain_link.h = true := by kernel_rfl
theorem chain_link.body : Try.f56.body = some ((Try.f56.body).getD .skip) := by kernel_rfl
theorem chain_link.size : (3 : Nat) ≤ Try.f56.ntmps := by decide
theorem chain_link.go (w0 : World) (a : Option Addr) (c : Int) (d : Int) {R : Value → Mem → Prop} {M : Mem} (h : chain_link.T (std PP w0) a c d R M) : C PP w0 Id.chain_link #[.pointer a, .int .i64 c, .int .i64 d] R M :=
  C_intro mixed chain_link.fn chain_link.body chain_link.can (annot_code _ _) chain_link.good chain_link.size ((chain_link.eq (std PP w0) a c d R M).mpr h)
-- thicket/node.Before
noncomputable def node_Before.h : HC := annot ((Try.f57.body).getD .skip) []
def node_Before.T (pr : Prim) (a : Option Addr) (n : Int) (m : Int) (R : Value → Mem → Prop) (M : Mem) : Prop := pr.call Id.arena_Arena_Cell #[.pointer a, .int .i64 n, .int .i64 6] (fun v1 M2 => shI .i64 v1 fun n3 => pr.call Id.arena_Arena_Cell #[.pointer a, .int .i64 m, .int .i64 6] (fun v4 M5 => shI .i64 v4 fun n6 => pr.call Id.item_Before #[.pointer a, .int .i64 n3, .int .i64 n6] (fun v7 M8 => shB v7 fun b9 => R (.bool b9) M8) M5) M2) M
theorem node_Before.eqX (pr : Prim) (pts : Pts) (a : Option Addr) (n : Int) (m : Int) (R : Value → Mem → Prop) (M : Mem) : wpX PP pr pts node_Before.h [] [] (retH pr Try.f57.results.toList R) (argEnv 0 [.pointer a, .int .i64 n, .int .i64 m]) M = node_Before.T pr a n m R M := by kernel_rfl
theorem node_Before.eq (pr : Prim) (a : Option Addr) (n : Int) (m : Int) (R : Value → Mem → Prop) (M : Mem) : wpH PP pr node_Before.h (retH pr Try.f57.results.toList R) (argEnv 0 [.pointer a, .int .i64 n, .int .i64 m]) M = node_Before.T pr a n m R M := root_eq.trans (node_Before.eqX pr (ptsR PP pr node_Before.h (retH pr Try.f57.results.toList R)) a n m R M)
theorem node_Before.fn : PP.funcs[Id.node_Before]? = some Try.f57 := Try.func57
theorem node_Before.can : callable PP Id.node_Before = true := by kernel_rfl
theorem node_Before.good : okH Try.f57.ntmps node_Before.h = true := by kernel_rfl
theorem node_Before.body : Try.f57.body = some ((Try.f57.body).getD .skip) := by kernel_rfl
theorem node_Before.size : (3 : Nat) ≤ Try.f57.ntmps := by decide
theorem node_Before.go (w0 : World) (a : Option Addr) (n : Int) (m : Int) {R : Value → Mem → Prop} {M : Mem} (h : node_Before.T (std PP w0) a n m R M) : C PP w0 Id.node_Before #[.pointer a, .int .i64 n, .int .i64 m] R M :=
  C_intro mixed node_Before.fn node_Before.body node_Before.can (annot_code _ _) node_Before.good node_Before.size ((node_Before.eq (std PP w0) a n m R M).mpr h)
-- thicket/thicketref1.Bits
noncomputable def thicketref1_Bits.h : HC := annot ((Try.f58.body).getD .skip) [([true, true, false, false], [0, 3])]
abbrev thicketref1_Bits.L1 (pts : Pts) (k : Nat) (n_0 : Int) (k_3 : Int) (M : Mem) : Prop := pts [false, false, false, true, true] [k] [(0, .int .i64 n_0), (3, .int .i64 k_3)] M
def thicketref1_Bits.pts (pr : Prim) (R : Value → Mem → Prop) : Pts := ptsR PP pr thicketref1_Bits.h (retH pr Try.f58.results.toList R)
def thicketref1_Bits.L1.T (pr : Prim) (pts : Pts) (k : Nat) (n_0 : Int) (k_3 : Int) (R : Value → Mem → Prop) (M : Mem) : Prop := bs (decide (n_0 > 0)) ((IntKind.i64 = IntKind.i64 ∧ (2 : Int) ≠ 0 ∧ thicketref1_Bits.L1 pts k (w64 (Int.tdiv n_0 2)) (w64 (k_3 + 1)) M)) (R (.int .i64 k_3) M)
theorem thicketref1_Bits.L1.zero (pr : Prim) (n_0 : Int) (k_3 : Int) (R : Value → Mem → Prop) (M : Mem) : thicketref1_Bits.L1 (thicketref1_Bits.pts pr R) 0 n_0 k_3 M = False :=
  (ptsR_eq (b := false) (p := [false, false, true, true]) (ns := [0]) rfl _ _).trans (by kernel_rfl)
theorem thicketref1_Bits.L1.eqX (pr : Prim) (pts : Pts) (k : Nat) (n_0 : Int) (k_3 : Int) (R : Value → Mem → Prop) (M : Mem) : bodyX PP pr pts thicketref1_Bits.h (retH pr Try.f58.results.toList R) [false, false, false, true, true] [k + 1] [(0, .int .i64 n_0), (3, .int .i64 k_3)] M = thicketref1_Bits.L1.T pr pts k n_0 k_3 R M := by kernel_rfl
theorem thicketref1_Bits.L1.succ (pr : Prim) (k : Nat) (n_0 : Int) (k_3 : Int) (R : Value → Mem → Prop) (M : Mem) : thicketref1_Bits.L1 (thicketref1_Bits.pts pr R) (k + 1) n_0 k_3 M = thicketref1_Bits.L1.T pr (thicketref1_Bits.pts pr R) k n_0 k_3 R M :=
  (ptsR_eq (b := false) (p := [false, false, true, true]) (ns := [k + 1]) rfl _ _).trans (thicketref1_Bits.L1.eqX pr (thicketref1_Bits.pts pr R) k n_0 k_3 R M)
structure thicketref1_Bits.Is (pr : Prim) (pts : Pts) (R : Value → Mem → Prop) : Prop where
  L1 : ∀ (k : Nat) (n_0 : Int) (k_3 : Int) (M : Mem), thicketref1_Bits.L1 pts (k + 1) n_0 k_3 M = thicketref1_Bits.L1.T pr pts k n_0 k_3 R M
theorem thicketref1_Bits.is (pr : Prim) (R : Value → Mem → Prop) : thicketref1_Bits.Is pr (thicketref1_Bits.pts pr R) R := ⟨fun k n_0 k_3 M => thicketref1_Bits.L1.succ pr k n_0 k_3 R M⟩
def thicketref1_Bits.T (pr : Prim) (pts : Pts) (n : Int) (R : Value → Mem → Prop) (M : Mem) : Prop := ∃ k1, thicketref1_Bits.L1 pts k1 n 0 M
theorem thicketref1_Bits.eqX (pr : Prim) (pts : Pts) (n : Int) (R : Value → Mem → Prop) (M : Mem) : wpX PP pr pts thicketref1_Bits.h [] [] (retH pr Try.f58.results.toList R) (argEnv 0 [.int .i64 n]) M = thicketref1_Bits.T pr pts n R M := by kernel_rfl
theorem thicketref1_Bits.eq (pr : Prim) (n : Int) (R : Value → Mem → Prop) (M : Mem) : wpH PP pr thicketref1_Bits.h (retH pr Try.f58.results.toList R) (argEnv 0 [.int .i64 n]) M = thicketref1_Bits.T pr (thicketref1_Bits.pts pr R) n R M := root_eq.trans (thicketref1_Bits.eqX pr (thicketref1_Bits.pts pr R) n R M)
theorem thicketref1_Bits.fn : PP.funcs[Id.thicketref1_Bits]? = some Try.f58 := Try.func58
theorem thicketref1_Bits.can : callable PP Id.thicketref1_Bits = true := by kernel_rfl
theorem thicketref1_Bits.good : okH Try.f58.ntmps thicketref1_Bits.h = true := by kernel_rfl
theorem thicketref1_Bits.body : Try.f58.body = some ((Try.f58.body).getD .skip) := by kernel_rfl
theorem thicketref1_Bits.size : (1 : Nat) ≤ Try.f58.ntmps := by decide
theorem thicketref1_Bits.go (w0 : World) (n : Int) {R : Value → Mem → Prop} {M : Mem} (h : ∀ pts, thicketref1_Bits.Is (std PP w0) pts R → thicketref1_Bits.T (std PP w0) pts n R M) : C PP w0 Id.thicketref1_Bits #[.int .i64 n] R M :=
  C_intro mixed thicketref1_Bits.fn thicketref1_Bits.body thicketref1_Bits.can (annot_code _ _) thicketref1_Bits.good thicketref1_Bits.size ((thicketref1_Bits.eq (std PP w0) n R M).mpr (h _ (thicketref1_Bits.is _ _)))
-- thicket/thicketref1.Add
noncomputable def thicketref1_Add.h : HC := annot ((Try.f59.body).getD .skip) [([true], [0, 1])]
abbrev thicketref1_Add.J1 (pts : Pts) (a_0 : Int) (b_1 : Int) (M : Mem) : Prop := pts [true, true] [] [(0, .int .i64 a_0), (1, .int .i64 b_1)] M
def thicketref1_Add.pts (pr : Prim) (R : Value → Mem → Prop) : Pts := ptsR PP pr thicketref1_Add.h (retH pr Try.f59.results.toList R)
def thicketref1_Add.J1.T (pr : Prim) (pts : Pts) (a_0 : Int) (b_1 : Int) (R : Value → Mem → Prop) (M : Mem) : Prop := bs (decide (a_0 < 0)) (bs (decide (b_1 < (w64 ((-9223372036854775808) - a_0)))) (R (.int .i64 (-9223372036854775808)) M) (R (.int .i64 (w64 (a_0 + b_1))) M)) (R (.int .i64 (w64 (a_0 + b_1))) M)
theorem thicketref1_Add.J1.eqX (pr : Prim) (pts : Pts) (a_0 : Int) (b_1 : Int) (R : Value → Mem → Prop) (M : Mem) : bodyX PP pr pts thicketref1_Add.h (retH pr Try.f59.results.toList R) [true, true] [] [(0, .int .i64 a_0), (1, .int .i64 b_1)] M = thicketref1_Add.J1.T pr pts a_0 b_1 R M := by kernel_rfl
theorem thicketref1_Add.J1.eq (pr : Prim) (a_0 : Int) (b_1 : Int) (R : Value → Mem → Prop) (M : Mem) : thicketref1_Add.J1 (thicketref1_Add.pts pr R) a_0 b_1 M = thicketref1_Add.J1.T pr (thicketref1_Add.pts pr R) a_0 b_1 R M :=
  (ptsR_eq (b := true) (p := [true]) (ns := []) rfl _ _).trans (thicketref1_Add.J1.eqX pr (thicketref1_Add.pts pr R) a_0 b_1 R M)
structure thicketref1_Add.Is (pr : Prim) (pts : Pts) (R : Value → Mem → Prop) : Prop where
  J1 : ∀ (a_0 : Int) (b_1 : Int) (M : Mem), thicketref1_Add.J1 pts a_0 b_1 M = thicketref1_Add.J1.T pr pts a_0 b_1 R M
theorem thicketref1_Add.is (pr : Prim) (R : Value → Mem → Prop) : thicketref1_Add.Is pr (thicketref1_Add.pts pr R) R := ⟨fun a_0 b_1 M => thicketref1_Add.J1.eq pr a_0 b_1 R M⟩
def thicketref1_Add.T (pr : Prim) (pts : Pts) (a : Int) (b : Int) (R : Value → Mem → Prop) (M : Mem) : Prop := bs (decide (a > 0)) (bs (decide (b > (w64 (9223372036854775807 - a)))) (R (.int .i64 9223372036854775807) M) (thicketref1_Add.J1 pts a b M)) (thicketref1_Add.J1 pts a b M)
theorem thicketref1_Add.eqX (pr : Prim) (pts : Pts) (a : Int) (b : Int) (R : Value → Mem → Prop) (M : Mem) : wpX PP pr pts thicketref1_Add.h [] [] (retH pr Try.f59.results.toList R) (argEnv 0 [.int .i64 a, .int .i64 b]) M = thicketref1_Add.T pr pts a b R M := by kernel_rfl
theorem thicketref1_Add.eq (pr : Prim) (a : Int) (b : Int) (R : Value → Mem → Prop) (M : Mem) : wpH PP pr thicketref1_Add.h (retH pr Try.f59.results.toList R) (argEnv 0 [.int .i64 a, .int .i64 b]) M = thicketref1_Add.T pr (thicketref1_Add.pts pr R) a b R M := root_eq.trans (thicketref1_Add.eqX pr (thicketref1_Add.pts pr R) a b R M)
theorem thicketref1_Add.fn : PP.funcs[Id.thicketref1_Add]? = some Try.f59 := Try.func59
theorem thicketref1_Add.can : callable PP Id.thicketref1_Add = true := by kernel_rfl
theorem thicketref1_Add.good : okH Try.f59.ntmps thicketref1_Add.h = true := by kernel_rfl
theorem thicketref1_Add.body : Try.f59.body = some ((Try.f59.body).getD .skip) := by kernel_rfl
theorem thicketref1_Add.size : (2 : Nat) ≤ Try.f59.ntmps := by decide
theorem thicketref1_Add.go (w0 : World) (a : Int) (b : Int) {R : Value → Mem → Prop} {M : Mem} (h : ∀ pts, thicketref1_Add.Is (std PP w0) pts R → thicketref1_Add.T (std PP w0) pts a b R M) : C PP w0 Id.thicketref1_Add #[.int .i64 a, .int .i64 b] R M :=
  C_intro mixed thicketref1_Add.fn thicketref1_Add.body thicketref1_Add.can (annot_code _ _) thicketref1_Add.good thicketref1_Add.size ((thicketref1_Add.eq (std PP w0) a b R M).mpr (h _ (thicketref1_Add.is _ _)))
-- thicket/chain.All
noncomputable def chain_All.h : HC := annot ((Try.f60.body).getD .skip) [([true], [0, 1]), ([true, true, true, false, true, false], [0, 1, 5, 6]), ([true, true, true, false, true, false, false], [0, 1, 5, 6])]
abbrev chain_All.J1 (pts : Pts) (a_0 : Option Addr) (c_1 : Int) (M : Mem) : Prop := pts [true, true] [] [(0, .pointer a_0), (1, .int .i64 c_1)] M
abbrev chain_All.L2 (pts : Pts) (k : Nat) (a_0 : Option Addr) (c_1 : Int) (out_5 : SV) (d_6 : Int) (M : Mem) : Prop := pts [false, false, true, false, true, true, true] [k] [(0, .pointer a_0), (1, .int .i64 c_1), (5, SV.v out_5), (6, .int .i64 d_6)] M
abbrev chain_All.J3 (pts : Pts) (k : Nat) (a_0 : Option Addr) (c_1 : Int) (out_5 : SV) (d_6 : Int) (M : Mem) : Prop := pts [true, false, false, true, false, true, true, true] [k] [(0, .pointer a_0), (1, .int .i64 c_1), (5, SV.v out_5), (6, .int .i64 d_6)] M
def chain_All.pts (pr : Prim) (R : Value → Mem → Prop) : Pts := ptsR PP pr chain_All.h (retH pr Try.f60.results.toList R)
def chain_All.J1.T (pr : Prim) (pts : Pts) (a_0 : Option Addr) (c_1 : Int) (R : Value → Mem → Prop) (M : Mem) : Prop := pr.bsl 53 1 [(0, .int .i64 c_1)] (fun v6 M7 => shS v6 fun s8 => pr.call Id.arena_Arena_Cell #[.pointer a_0, .int .i64 c_1, .int .i64 3] (fun v9 M10 => shI .i64 v9 fun n11 => ∃ k12, chain_All.L2 pts k12 a_0 c_1 s8 n11 M10) M7) M
theorem chain_All.J1.eqX (pr : Prim) (pts : Pts) (a_0 : Option Addr) (c_1 : Int) (R : Value → Mem → Prop) (M : Mem) : bodyX PP pr pts chain_All.h (retH pr Try.f60.results.toList R) [true, true] [] [(0, .pointer a_0), (1, .int .i64 c_1)] M = chain_All.J1.T pr pts a_0 c_1 R M := by kernel_rfl
theorem chain_All.J1.eq (pr : Prim) (a_0 : Option Addr) (c_1 : Int) (R : Value → Mem → Prop) (M : Mem) : chain_All.J1 (chain_All.pts pr R) a_0 c_1 M = chain_All.J1.T pr (chain_All.pts pr R) a_0 c_1 R M :=
  (ptsR_eq (b := true) (p := [true]) (ns := []) rfl _ _).trans (chain_All.J1.eqX pr (chain_All.pts pr R) a_0 c_1 R M)
def chain_All.L2.T (pr : Prim) (pts : Pts) (k : Nat) (a_0 : Option Addr) (c_1 : Int) (out_5 : SV) (d_6 : Int) (R : Value → Mem → Prop) (M : Mem) : Prop := bs ((d_6 != c_1)) (pr.call Id.arena_Arena_Live #[.pointer a_0, .int .i64 d_6] (fun v13 M14 => shB v13 fun b15 => bs b15 (pr.call Id.arena_Arena_Cells #[.pointer a_0] (fun v16 M17 => shI .i64 v16 fun n18 => bs (decide (((out_5.n : Nat) : Int) < n18)) (chain_All.J3 pts k a_0 c_1 out_5 d_6 M17) (R (SV.v out_5) M17)) M14) (R (SV.v out_5) M14)) M) (R (SV.v out_5) M)
theorem chain_All.L2.zero (pr : Prim) (a_0 : Option Addr) (c_1 : Int) (out_5 : SV) (d_6 : Int) (R : Value → Mem → Prop) (M : Mem) : chain_All.L2 (chain_All.pts pr R) 0 a_0 c_1 out_5 d_6 M = False :=
  (ptsR_eq (b := false) (p := [false, true, false, true, true, true]) (ns := [0]) rfl _ _).trans (by kernel_rfl)
theorem chain_All.L2.eqX (pr : Prim) (pts : Pts) (k : Nat) (a_0 : Option Addr) (c_1 : Int) (out_5 : SV) (d_6 : Int) (R : Value → Mem → Prop) (M : Mem) : bodyX PP pr pts chain_All.h (retH pr Try.f60.results.toList R) [false, false, true, false, true, true, true] [k + 1] [(0, .pointer a_0), (1, .int .i64 c_1), (5, SV.v out_5), (6, .int .i64 d_6)] M = chain_All.L2.T pr pts k a_0 c_1 out_5 d_6 R M := by kernel_rfl
theorem chain_All.L2.succ (pr : Prim) (k : Nat) (a_0 : Option Addr) (c_1 : Int) (out_5 : SV) (d_6 : Int) (R : Value → Mem → Prop) (M : Mem) : chain_All.L2 (chain_All.pts pr R) (k + 1) a_0 c_1 out_5 d_6 M = chain_All.L2.T pr (chain_All.pts pr R) k a_0 c_1 out_5 d_6 R M :=
  (ptsR_eq (b := false) (p := [false, true, false, true, true, true]) (ns := [k + 1]) rfl _ _).trans (chain_All.L2.eqX pr (chain_All.pts pr R) k a_0 c_1 out_5 d_6 R M)
def chain_All.J3.T (pr : Prim) (pts : Pts) (k : Nat) (a_0 : Option Addr) (c_1 : Int) (out_5 : SV) (d_6 : Int) (R : Value → Mem → Prop) (M : Mem) : Prop := pr.bsl 53 1 [(0, .int .i64 d_6)] (fun v19 M20 => shS v19 fun s21 => pr.app #[53, 53] 53 [SV.v out_5, SV.v s21] (fun v22 M23 => shS v22 fun s24 => pr.call Id.arena_Arena_Cell #[.pointer a_0, .int .i64 d_6, .int .i64 3] (fun v25 M26 => shI .i64 v25 fun n27 => chain_All.L2 pts k a_0 c_1 s24 n27 M26) M23) M20) M
theorem chain_All.J3.eqX (pr : Prim) (pts : Pts) (k : Nat) (a_0 : Option Addr) (c_1 : Int) (out_5 : SV) (d_6 : Int) (R : Value → Mem → Prop) (M : Mem) : bodyX PP pr pts chain_All.h (retH pr Try.f60.results.toList R) [true, false, false, true, false, true, true, true] [k] [(0, .pointer a_0), (1, .int .i64 c_1), (5, SV.v out_5), (6, .int .i64 d_6)] M = chain_All.J3.T pr pts k a_0 c_1 out_5 d_6 R M := by kernel_rfl
theorem chain_All.J3.eq (pr : Prim) (k : Nat) (a_0 : Option Addr) (c_1 : Int) (out_5 : SV) (d_6 : Int) (R : Value → Mem → Prop) (M : Mem) : chain_All.J3 (chain_All.pts pr R) k a_0 c_1 out_5 d_6 M = chain_All.J3.T pr (chain_All.pts pr R) k a_0 c_1 out_5 d_6 R M :=
  (ptsR_eq (b := true) (p := [false, false, true, false, true, true, true]) (ns := [k]) rfl _ _).trans (chain_All.J3.eqX pr (chain_All.pts pr R) k a_0 c_1 out_5 d_6 R M)
structure chain_All.Is (pr : Prim) (pts : Pts) (R : Value → Mem → Prop) : Prop where
  J1 : ∀ (a_0 : Option Addr) (c_1 : Int) (M : Mem), chain_All.J1 pts a_0 c_1 M = chain_All.J1.T pr pts a_0 c_1 R M
  L2 : ∀ (k : Nat) (a_0 : Option Addr) (c_1 : Int) (out_5 : SV) (d_6 : Int) (M : Mem), chain_All.L2 pts (k + 1) a_0 c_1 out_5 d_6 M = chain_All.L2.T pr pts k a_0 c_1 out_5 d_6 R M
  J3 : ∀ (k : Nat) (a_0 : Option Addr) (c_1 : Int) (out_5 : SV) (d_6 : Int) (M : Mem), chain_All.J3 pts k a_0 c_1 out_5 d_6 M = chain_All.J3.T pr pts k a_0 c_1 out_5 d_6 R M
theorem chain_All.is (pr : Prim) (R : Value → Mem → Prop) : chain_All.Is pr (chain_All.pts pr R) R := ⟨fun a_0 c_1 M => chain_All.J1.eq pr a_0 c_1 R M, fun k a_0 c_1 out_5 d_6 M => chain_All.L2.succ pr k a_0 c_1 out_5 d_6 R M, fun k a_0 c_1 out_5 d_6 M => chain_All.J3.eq pr k a_0 c_1 out_5 d_6 R M⟩
def chain_All.T (pr : Prim) (pts : Pts) (a : Option Addr) (c : Int) (R : Value → Mem → Prop) (M : Mem) : Prop := ob (pr.bq .eql 28 (.tmp 7) (.const (.pointer none)) (.pointer a) (.pointer none)) fun v1 => shB v1 fun b2 => bs b2 (R (.slice none 0 0) M) (pr.call Id.arena_Arena_Live #[.pointer a, .int .i64 c] (fun v3 M4 => shB v3 fun b5 => bs (!b5) (R (.slice none 0 0) M4) (chain_All.J1 pts a c M4)) M)
theorem chain_All.eqX (pr : Prim) (pts : Pts) (a : Option Addr) (c : Int) (R : Value → Mem → Prop) (M : Mem) : wpX PP pr pts chain_All.h [] [] (retH pr Try.f60.results.toList R) (argEnv 0 [.pointer a, .int .i64 c]) M = chain_All.T pr pts a c R M := by kernel_rfl
theorem chain_All.eq (pr : Prim) (a : Option Addr) (c : Int) (R : Value → Mem → Prop) (M : Mem) : wpH PP pr chain_All.h (retH pr Try.f60.results.toList R) (argEnv 0 [.pointer a, .int .i64 c]) M = chain_All.T pr (chain_All.pts pr R) a c R M := root_eq.trans (chain_All.eqX pr (chain_All.pts pr R) a c R M)
theorem chain_All.fn : PP.funcs[Id.chain_All]? = some Try.f60 := Try.func60
theorem chain_All.can : callable PP Id.chain_All = true := by kernel_rfl
theorem chain_All.good : okH Try.f60.ntmps chain_All.h = true := by kernel_rfl
theorem chain_All.body : Try.f60.body = some ((Try.f60.body).getD .skip) := by kernel_rfl
theorem chain_All.size : (2 : Nat) ≤ Try.f60.ntmps := by decide
theorem chain_All.go (w0 : World) (a : Option Addr) (c : Int) {R : Value → Mem → Prop} {M : Mem} (h : ∀ pts, chain_All.Is (std PP w0) pts R → chain_All.T (std PP w0) pts a c R M) : C PP w0 Id.chain_All #[.pointer a, .int .i64 c] R M :=
  C_intro mixed chain_All.fn chain_All.body chain_All.can (annot_code _ _) chain_All.good chain_All.size ((chain_All.eq (std PP w0) a c R M).mpr (h _ (chain_All.is _ _)))
-- thicket/chain.Out
noncomputable def chain_Out.h : HC := annot ((Try.f61.body).getD .skip) []
def chain_Out.T (pr : Prim) (a : Option Addr) (c : Int) (R : Value → Mem → Prop) (M : Mem) : Prop := ob (pr.bq .eql 28 (.tmp 7) (.const (.pointer none)) (.pointer a) (.pointer none)) fun v1 => shB v1 fun b2 => bs b2 (R (.int .i64 (-1)) M) (pr.call Id.arena_Arena_Cell #[.pointer a, .int .i64 c, .int .i64 3] (fun v3 M4 => shI .i64 v3 fun n5 => pr.call Id.arena_Arena_Cell #[.pointer a, .int .i64 c, .int .i64 2] (fun v6 M7 => shI .i64 v6 fun n8 => bs ((n5 == c)) (R (.int .i64 (-1)) M7) (pr.call Id.chain_link #[.pointer a, .int .i64 n8, .int .i64 n5] (fun v9 M10 => pr.call Id.chain_link #[.pointer a, .int .i64 c, .int .i64 c] (fun v11 M12 => R (.int .i64 n5) M12) M10) M7)) M4) M)
theorem chain_Out.eqX (pr : Prim) (pts : Pts) (a : Option Addr) (c : Int) (R : Value → Mem → Prop) (M : Mem) : wpX PP pr pts chain_Out.h [] [] (retH pr Try.f61.results.toList R) (argEnv 0 [.pointer a, .int .i64 c]) M = chain_Out.T pr a c R M := by kernel_rfl
theorem chain_Out.eq (pr : Prim) (a : Option Addr) (c : Int) (R : Value → Mem → Prop) (M : Mem) : wpH PP pr chain_Out.h (retH pr Try.f61.results.toList R) (argEnv 0 [.pointer a, .int .i64 c]) M = chain_Out.T pr a c R M := root_eq.trans (chain_Out.eqX pr (ptsR PP pr chain_Out.h (retH pr Try.f61.results.toList R)) a c R M)
theorem chain_Out.fn : PP.funcs[Id.chain_Out]? = some Try.f61 := Try.func61
theorem chain_Out.can : callable PP Id.chain_Out = true := by kernel_rfl
theorem chain_Out.good : okH Try.f61.ntmps chain_Out.h = true := by kernel_rfl
theorem chain_Out.body : Try.f61.body = some ((Try.f61.body).getD .skip) := by kernel_rfl
theorem chain_Out.size : (2 : Nat) ≤ Try.f61.ntmps := by decide
theorem chain_Out.go (w0 : World) (a : Option Addr) (c : Int) {R : Value → Mem → Prop} {M : Mem} (h : chain_Out.T (std PP w0) a c R M) : C PP w0 Id.chain_Out #[.pointer a, .int .i64 c] R M :=
  C_intro mixed chain_Out.fn chain_Out.body chain_Out.can (annot_code _ _) chain_Out.good chain_Out.size ((chain_Out.eq (std PP w0) a c R M).mpr h)
end Go.Proofs.Ytbkicgfgpmekeaa.HL
