/-
  Printed by gen.py (a program of this work) out of Lean's own print of the program: what each function's code comes to over the heap logic; each equation is checked by the kernel.
-/
import Derived.Test.YtiejdmkobmphfaaGenId
set_option linter.unusedVariables false
set_option maxRecDepth 100000
namespace Go.Proofs.Ytiejdmkobmphfaa.HL
open Go.Proofs
-- (*thicket/thicketlaw8.world).shape
noncomputable def thicketlaw8_world_shape.h : HC := annot ((Try.f52.body).getD .skip) []
def thicketlaw8_world_shape.T (pr : Prim) (w : Option Addr) (h_1 : Int) (R : Value → Mem → Prop) (M : Mem) : Prop := nc w fun a1 => (0 ≤ h_1 ∧ h_1 < ((2 : Nat) : Int)) ∧ ob (pr.ld 3 (Addr.add (Addr.add a1 1) (h_1.toNat * 1)) M) fun v2 => shI .i64 v2 fun n3 => ob (pr.bld 58 []) fun v4 => shA v4 fun l5 => shCons l5 fun u6 r7 => shI .i64 u6 fun n8 => shCons r7 fun u9 r10 => shI .i64 u9 fun n11 => shCons r10 fun u12 r13 => shI .i64 u12 fun n14 => shNil r13 (pr.call Id.thicketlaw8_world_walk #[.pointer w, .int .i64 h_1, .int .i64 n3, .int .i64 (-1), .agg #[.int .i64 n8, .int .i64 n11, .int .i64 n14], .bool true] (fun v15 M16 => shT v15 fun l17 => shCons l17 fun u18 r19 => shI .i64 u18 fun n20 => shCons r19 fun u21 r22 => shI .i64 u21 fun n23 => shCons r22 fun u24 r25 => shB u24 fun b26 => shNil r25 (bs b26 (nc w fun a27 => (0 ≤ h_1 ∧ h_1 < ((2 : Nat) : Int)) ∧ ob (pr.ld 30 (Addr.add (Addr.add a27 3) (h_1.toNat * 1)) M16) fun v28 => shS v28 fun s29 => R (.bool ((n23 == ((s29.n : Nat) : Int)))) M16) (R (.bool false) M16))) M)
theorem thicketlaw8_world_shape.eqX (pr : Prim) (pts : Pts) (w : Option Addr) (h_1 : Int) (R : Value → Mem → Prop) (M : Mem) : wpX PP pr pts thicketlaw8_world_shape.h [] [] (retH pr Try.f52.results.toList R) (argEnv 0 [.pointer w, .int .i64 h_1]) M = thicketlaw8_world_shape.T pr w h_1 R M := by kernel_rfl
theorem thicketlaw8_world_shape.eq (pr : Prim) (w : Option Addr) (h_1 : Int) (R : Value → Mem → Prop) (M : Mem) : wpH PP pr thicketlaw8_world_shape.h (retH pr Try.f52.results.toList R) (argEnv 0 [.pointer w, .int .i64 h_1]) M = thicketlaw8_world_shape.T pr w h_1 R M := root_eq.trans (thicketlaw8_world_shape.eqX pr (ptsR PP pr thicketlaw8_world_shape.h (retH pr Try.f52.results.toList R)) w h_1 R M)
theorem thicketlaw8_world_shape.fn : PP.funcs[Id.thicketlaw8_world_shape]? = some Try.f52 := Try.func52
theorem thicketlaw8_world_shape.can : callable PP Id.thicketlaw8_world_shape = true := by kernel_rfl
theorem thicketlaw8_world_shape.good : okH Try.f52.ntmps thicketlaw8_world_shape.h = true := by kernel_rfl
theorem thicketlaw8_world_shape.body : Try.f52.body = some ((Try.f52.body).getD .skip) := by kernel_rfl
theorem thicketlaw8_world_shape.size : (2 : Nat) ≤ Try.f52.ntmps := by decide
theorem thicketlaw8_world_shape.go (w0 : World) (w : Option Addr) (h_1 : Int) {R : Value → Mem → Prop} {M : Mem} (h : thicketlaw8_world_shape.T (std PP w0) w h_1 R M) : C PP w0 Id.thicketlaw8_world_shape #[.pointer w, .int .i64 h_1] R M :=
  C_intro mixed thicketlaw8_world_shape.fn thicketlaw8_world_shape.body thicketlaw8_world_shape.can (annot_code _ _) thicketlaw8_world_shape.good thicketlaw8_world_shape.size ((thicketlaw8_world_shape.eq (std PP w0) w h_1 R M).mpr h)
-- thicket/leftist.Meld
noncomputable def leftist_Meld.h : HC := annot ((Try.f53.body).getD .skip) []
def leftist_Meld.T (pr : Prim) (a : Option Addr) (r : Int) (s : Int) (R : Value → Mem → Prop) (M : Mem) : Prop := ob (pr.bq .eql 28 (.tmp 7) (.const (.pointer none)) (.pointer a) (.pointer none)) fun v1 => shB v1 fun b2 => bs b2 (R (.int .i64 (-1)) M) (pr.call Id.leftist_meld #[.pointer a, .int .i64 r, .int .i64 s] (fun v3 M4 => shI .i64 v3 fun n5 => R (.int .i64 n5) M4) M)
theorem leftist_Meld.eqX (pr : Prim) (pts : Pts) (a : Option Addr) (r : Int) (s : Int) (R : Value → Mem → Prop) (M : Mem) : wpX PP pr pts leftist_Meld.h [] [] (retH pr Try.f53.results.toList R) (argEnv 0 [.pointer a, .int .i64 r, .int .i64 s]) M = leftist_Meld.T pr a r s R M := by kernel_rfl
theorem leftist_Meld.eq (pr : Prim) (a : Option Addr) (r : Int) (s : Int) (R : Value → Mem → Prop) (M : Mem) : wpH PP pr leftist_Meld.h (retH pr Try.f53.results.toList R) (argEnv 0 [.pointer a, .int .i64 r, .int .i64 s]) M = leftist_Meld.T pr a r s R M := root_eq.trans (leftist_Meld.eqX pr (ptsR PP pr leftist_Meld.h (retH pr Try.f53.results.toList R)) a r s R M)
theorem leftist_Meld.fn : PP.funcs[Id.leftist_Meld]? = some Try.f53 := Try.func53
theorem leftist_Meld.can : callable PP Id.leftist_Meld = true := by kernel_rfl
theorem leftist_Meld.good : okH Try.f53.ntmps leftist_Meld.h = true := by kernel_rfl
theorem leftist_Meld.body : Try.f53.body = some ((Try.f53.body).getD .skip) := by kernel_rfl
theorem leftist_Meld.size : (3 : Nat) ≤ Try.f53.ntmps := by decide
theorem leftist_Meld.go (w0 : World) (a : Option Addr) (r : Int) (s : Int) {R : Value → Mem → Prop} {M : Mem} (h : leftist_Meld.T (std PP w0) a r s R M) : C PP w0 Id.leftist_Meld #[.pointer a, .int .i64 r, .int .i64 s] R M :=
  C_intro mixed leftist_Meld.fn leftist_Meld.body leftist_Meld.can (annot_code _ _) leftist_Meld.good leftist_Meld.size ((leftist_Meld.eq (std PP w0) a r s R M).mpr h)
-- thicket/item.Lower
noncomputable def item_Lower.h : HC := annot ((Try.f54.body).getD .skip) []
def item_Lower.T (pr : Prim) (a : Option Addr) (i : Int) (key : Int) (R : Value → Mem → Prop) (M : Mem) : Prop := ob (pr.bq .eql 28 (.tmp 7) (.const (.pointer none)) (.pointer a) (.pointer none)) fun v1 => shB v1 fun b2 => bs b2 (R (.bool false) M) (pr.call Id.arena_Arena_Get #[.pointer a, .int .i64 i, .int .i64 7] (fun v3 M4 => shI .i64 v3 fun n5 => bs (decide (key > n5)) (R (.bool false) M4) (pr.call Id.arena_Arena_Set #[.pointer a, .int .i64 i, .int .i64 7, .int .i64 key] (fun v6 M7 => shB v6 fun b8 => R (.bool b8) M7) M4)) M)
theorem item_Lower.eqX (pr : Prim) (pts : Pts) (a : Option Addr) (i : Int) (key : Int) (R : Value → Mem → Prop) (M : Mem) : wpX PP pr pts item_Lower.h [] [] (retH pr Try.f54.results.toList R) (argEnv 0 [.pointer a, .int .i64 i, .int .i64 key]) M = item_Lower.T pr a i key R M := by kernel_rfl
theorem item_Lower.eq (pr : Prim) (a : Option Addr) (i : Int) (key : Int) (R : Value → Mem → Prop) (M : Mem) : wpH PP pr item_Lower.h (retH pr Try.f54.results.toList R) (argEnv 0 [.pointer a, .int .i64 i, .int .i64 key]) M = item_Lower.T pr a i key R M := root_eq.trans (item_Lower.eqX pr (ptsR PP pr item_Lower.h (retH pr Try.f54.results.toList R)) a i key R M)
theorem item_Lower.fn : PP.funcs[Id.item_Lower]? = some Try.f54 := Try.func54
theorem item_Lower.can : callable PP Id.item_Lower = true := by kernel_rfl
theorem item_Lower.good : okH Try.f54.ntmps item_Lower.h = true := by kernel_rfl
theorem item_Lower.body : Try.f54.body = some ((Try.f54.body).getD .skip) := by kernel_rfl
theorem item_Lower.size : (3 : Nat) ≤ Try.f54.ntmps := by decide
theorem item_Lower.go (w0 : World) (a : Option Addr) (i : Int) (key : Int) {R : Value → Mem → Prop} {M : Mem} (h : item_Lower.T (std PP w0) a i key R M) : C PP w0 Id.item_Lower #[.pointer a, .int .i64 i, .int .i64 key] R M :=
  C_intro mixed item_Lower.fn item_Lower.body item_Lower.can (annot_code _ _) item_Lower.good item_Lower.size ((item_Lower.eq (std PP w0) a i key R M).mpr h)
-- thicket/leftist.Fall
noncomputable def leftist_Fall.h : HC := annot ((Try.f55.body).getD .skip) [([true, true, true], [0, 1, 7])]
abbrev leftist_Fall.J1 (pts : Pts) (a_0 : Option Addr) (r_1 : Int) (n_7 : Int) (M : Mem) : Prop := pts [true, true, true, true] [] [(0, .pointer a_0), (1, .int .i64 r_1), (7, .int .i64 n_7)] M
def leftist_Fall.pts (pr : Prim) (R : Value → Mem → Prop) : Pts := ptsR PP pr leftist_Fall.h (retH pr Try.f55.results.toList R)
def leftist_Fall.J1.T (pr : Prim) (pts : Pts) (a_0 : Option Addr) (r_1 : Int) (n_7 : Int) (R : Value → Mem → Prop) (M : Mem) : Prop := pr.call Id.leftist_leave #[.pointer a_0, .int .i64 n_7] (fun v9 M10 => pr.call Id.leftist_meld #[.pointer a_0, .int .i64 r_1, .int .i64 n_7] (fun v11 M12 => shI .i64 v11 fun n13 => R (.int .i64 n13) M12) M10) M
theorem leftist_Fall.J1.eqX (pr : Prim) (pts : Pts) (a_0 : Option Addr) (r_1 : Int) (n_7 : Int) (R : Value → Mem → Prop) (M : Mem) : bodyX PP pr pts leftist_Fall.h (retH pr Try.f55.results.toList R) [true, true, true, true] [] [(0, .pointer a_0), (1, .int .i64 r_1), (7, .int .i64 n_7)] M = leftist_Fall.J1.T pr pts a_0 r_1 n_7 R M := by kernel_rfl
theorem leftist_Fall.J1.eq (pr : Prim) (a_0 : Option Addr) (r_1 : Int) (n_7 : Int) (R : Value → Mem → Prop) (M : Mem) : leftist_Fall.J1 (leftist_Fall.pts pr R) a_0 r_1 n_7 M = leftist_Fall.J1.T pr (leftist_Fall.pts pr R) a_0 r_1 n_7 R M :=
  (ptsR_eq (b := true) (p := [true, true, true]) (ns := []) rfl _ _).trans (leftist_Fall.J1.eqX pr (leftist_Fall.pts pr R) a_0 r_1 n_7 R M)
structure leftist_Fall.Is (pr : Prim) (pts : Pts) (R : Value → Mem → Prop) : Prop where
  J1 : ∀ (a_0 : Option Addr) (r_1 : Int) (n_7 : Int) (M : Mem), leftist_Fall.J1 pts a_0 r_1 n_7 M = leftist_Fall.J1.T pr pts a_0 r_1 n_7 R M
theorem leftist_Fall.is (pr : Prim) (R : Value → Mem → Prop) : leftist_Fall.Is pr (leftist_Fall.pts pr R) R := ⟨fun a_0 r_1 n_7 M => leftist_Fall.J1.eq pr a_0 r_1 n_7 R M⟩
def leftist_Fall.T (pr : Prim) (pts : Pts) (a : Option Addr) (r : Int) (i : Int) (R : Value → Mem → Prop) (M : Mem) : Prop := ob (pr.bq .eql 28 (.tmp 8) (.const (.pointer none)) (.pointer a) (.pointer none)) fun v1 => shB v1 fun b2 => bs b2 (R (.int .i64 (-1)) M) (pr.call Id.item_Node #[.pointer a, .int .i64 i] (fun v3 M4 => shI .i64 v3 fun n5 => bs ((n5 == (-1))) (R (.int .i64 r) M4) (bs ((n5 == r)) (R (.int .i64 r) M4) (pr.call Id.arena_Arena_Cell #[.pointer a, .int .i64 n5, .int .i64 0] (fun v6 M7 => shI .i64 v6 fun n8 => bs ((n8 == (-1))) (R (.int .i64 r) M7) (leftist_Fall.J1 pts a r n5 M7)) M4))) M)
theorem leftist_Fall.eqX (pr : Prim) (pts : Pts) (a : Option Addr) (r : Int) (i : Int) (R : Value → Mem → Prop) (M : Mem) : wpX PP pr pts leftist_Fall.h [] [] (retH pr Try.f55.results.toList R) (argEnv 0 [.pointer a, .int .i64 r, .int .i64 i]) M = leftist_Fall.T pr pts a r i R M := by kernel_rfl
theorem leftist_Fall.eq (pr : Prim) (a : Option Addr) (r : Int) (i : Int) (R : Value → Mem → Prop) (M : Mem) : wpH PP pr leftist_Fall.h (retH pr Try.f55.results.toList R) (argEnv 0 [.pointer a, .int .i64 r, .int .i64 i]) M = leftist_Fall.T pr (leftist_Fall.pts pr R) a r i R M := root_eq.trans (leftist_Fall.eqX pr (leftist_Fall.pts pr R) a r i R M)
theorem leftist_Fall.fn : PP.funcs[Id.leftist_Fall]? = some Try.f55 := Try.func55
theorem leftist_Fall.can : callable PP Id.leftist_Fall = true := by kernel_rfl
theorem leftist_Fall.good : okH Try.f55.ntmps leftist_Fall.h = true := by kernel_rfl
theorem leftist_Fall.body : Try.f55.body = some ((Try.f55.body).getD .skip) := by kernel_rfl
theorem leftist_Fall.size : (3 : Nat) ≤ Try.f55.ntmps := by decide
theorem leftist_Fall.go (w0 : World) (a : Option Addr) (r : Int) (i : Int) {R : Value → Mem → Prop} {M : Mem} (h : ∀ pts, leftist_Fall.Is (std PP w0) pts R → leftist_Fall.T (std PP w0) pts a r i R M) : C PP w0 Id.leftist_Fall #[.pointer a, .int .i64 r, .int .i64 i] R M :=
  C_intro mixed leftist_Fall.fn leftist_Fall.body leftist_Fall.can (annot_code _ _) leftist_Fall.good leftist_Fall.size ((leftist_Fall.eq (std PP w0) a r i R M).mpr (h _ (leftist_Fall.is _ _)))
-- (*thicket/arena.Arena).Cell
noncomputable def arena_Arena_Cell.h : HC := annot ((Try.f56.body).getD .skip) []
def arena_Arena_Cell.T (pr : Prim) (a : Option Addr) (c : Int) (field : Int) (R : Value → Mem → Prop) (M : Mem) : Prop := pr.call Id.arena_Arena_Get #[.pointer a, .int .i64 c, .int .i64 field] (fun v1 M2 => shI .i64 v1 fun n3 => bs (decide (n3 < 0)) (R (.int .i64 (-1)) M2) (nc a fun a4 => ob (pr.ld 71 a4 M2) fun v5 => shS v5 fun s6 => bs (decide (n3 ≥ ((s6.n : Nat) : Int))) (R (.int .i64 (-1)) M2) (R (.int .i64 n3) M2))) M
theorem arena_Arena_Cell.eqX (pr : Prim) (pts : Pts) (a : Option Addr) (c : Int) (field : Int) (R : Value → Mem → Prop) (M : Mem) : wpX PP pr pts arena_Arena_Cell.h [] [] (retH pr Try.f56.results.toList R) (argEnv 0 [.pointer a, .int .i64 c, .int .i64 field]) M = arena_Arena_Cell.T pr a c field R M := by kernel_rfl
theorem arena_Arena_Cell.eq (pr : Prim) (a : Option Addr) (c : Int) (field : Int) (R : Value → Mem → Prop) (M : Mem) : wpH PP pr arena_Arena_Cell.h (retH pr Try.f56.results.toList R) (argEnv 0 [.pointer a, .int .i64 c, .int .i64 field]) M = arena_Arena_Cell.T pr a c field R M := root_eq.trans (arena_Arena_Cell.eqX pr (ptsR PP pr arena_Arena_Cell.h (retH pr Try.f56.results.toList R)) a c field R M)
theorem arena_Arena_Cell.fn : PP.funcs[Id.arena_Arena_Cell]? = some Try.f56 := Try.func56
theorem arena_Arena_Cell.can : callable PP Id.arena_Arena_Cell = true := by kernel_rfl
theorem arena_Arena_Cell.good : okH Try.f56.ntmps arena_Arena_Cell.h = true := by kernel_rfl
theorem arena_Arena_Cell.body : Try.f56.body = some ((Try.f56.body).getD .skip) := by kernel_rfl
theorem arena_Arena_Cell.size : (3 : Nat) ≤ Try.f56.ntmps := by decide
theorem arena_Arena_Cell.go (w0 : World) (a : Option Addr) (c : Int) (field : Int) {R : Value → Mem → Prop} {M : Mem} (h : arena_Arena_Cell.T (std PP w0) a c field R M) : C PP w0 Id.arena_Arena_Cell #[.pointer a, .int .i64 c, .int .i64 field] R M :=
  C_intro mixed arena_Arena_Cell.fn arena_Arena_Cell.body arena_Arena_Cell.can (annot_code _ _) arena_Arena_Cell.good arena_Arena_Cell.size ((arena_Arena_Cell.eq (std PP w0) a c field R M).mpr h)
-- thicket/leftist.Cut
noncomputable def leftist_Cut.h : HC := annot ((Try.f57.body).getD .skip) [([true, true, true, true], [0, 1, 7])]
abbrev leftist_Cut.J1 (pts : Pts) (a_0 : Option Addr) (r_1 : Int) (n_7 : Int) (M : Mem) : Prop := pts [true, true, true, true, true] [] [(0, .pointer a_0), (1, .int .i64 r_1), (7, .int .i64 n_7)] M
def leftist_Cut.pts (pr : Prim) (R : Value → Mem → Prop) : Pts := ptsR PP pr leftist_Cut.h (retH pr Try.f57.results.toList R)
def leftist_Cut.J1.T (pr : Prim) (pts : Pts) (a_0 : Option Addr) (r_1 : Int) (n_7 : Int) (R : Value → Mem → Prop) (M : Mem) : Prop := pr.call Id.leftist_leave #[.pointer a_0, .int .i64 n_7] (fun v27 M28 => pr.call Id.leftist_Pop #[.pointer a_0, .int .i64 n_7] (fun v29 M30 => shT v29 fun l31 => shCons l31 fun u32 r33 => shI .i64 u32 fun n34 => shCons r33 fun u35 r36 => shI .i64 u35 fun n37 => shNil r36 (pr.call Id.leftist_meld #[.pointer a_0, .int .i64 r_1, .int .i64 n34] (fun v38 M39 => shI .i64 v38 fun n40 => R (.int .i64 n40) M39) M30)) M28) M
theorem leftist_Cut.J1.eqX (pr : Prim) (pts : Pts) (a_0 : Option Addr) (r_1 : Int) (n_7 : Int) (R : Value → Mem → Prop) (M : Mem) : bodyX PP pr pts leftist_Cut.h (retH pr Try.f57.results.toList R) [true, true, true, true, true] [] [(0, .pointer a_0), (1, .int .i64 r_1), (7, .int .i64 n_7)] M = leftist_Cut.J1.T pr pts a_0 r_1 n_7 R M := by kernel_rfl
theorem leftist_Cut.J1.eq (pr : Prim) (a_0 : Option Addr) (r_1 : Int) (n_7 : Int) (R : Value → Mem → Prop) (M : Mem) : leftist_Cut.J1 (leftist_Cut.pts pr R) a_0 r_1 n_7 M = leftist_Cut.J1.T pr (leftist_Cut.pts pr R) a_0 r_1 n_7 R M :=
  (ptsR_eq (b := true) (p := [true, true, true, true]) (ns := []) rfl _ _).trans (leftist_Cut.J1.eqX pr (leftist_Cut.pts pr R) a_0 r_1 n_7 R M)
structure leftist_Cut.Is (pr : Prim) (pts : Pts) (R : Value → Mem → Prop) : Prop where
  J1 : ∀ (a_0 : Option Addr) (r_1 : Int) (n_7 : Int) (M : Mem), leftist_Cut.J1 pts a_0 r_1 n_7 M = leftist_Cut.J1.T pr pts a_0 r_1 n_7 R M
theorem leftist_Cut.is (pr : Prim) (R : Value → Mem → Prop) : leftist_Cut.Is pr (leftist_Cut.pts pr R) R := ⟨fun a_0 r_1 n_7 M => leftist_Cut.J1.eq pr a_0 r_1 n_7 R M⟩
def leftist_Cut.T (pr : Prim) (pts : Pts) (a : Option Addr) (r : Int) (i : Int) (R : Value → Mem → Prop) (M : Mem) : Prop := ob (pr.bq .eql 28 (.tmp 12) (.const (.pointer none)) (.pointer a) (.pointer none)) fun v1 => shB v1 fun b2 => bs b2 (R (.int .i64 (-1)) M) (pr.call Id.item_Node #[.pointer a, .int .i64 i] (fun v3 M4 => shI .i64 v3 fun n5 => bs ((n5 == (-1))) (R (.int .i64 r) M4) (bs ((n5 == r)) (pr.call Id.leftist_Pop #[.pointer a, .int .i64 n5] (fun v6 M7 => shT v6 fun l8 => shCons l8 fun u9 r10 => shI .i64 u9 fun n11 => shCons r10 fun u12 r13 => shI .i64 u12 fun n14 => shNil r13 (R (.int .i64 n11) M7)) M4) (pr.call Id.arena_Arena_Cell #[.pointer a, .int .i64 n5, .int .i64 0] (fun v15 M16 => shI .i64 v15 fun n17 => bs ((n17 == (-1))) (pr.call Id.leftist_Pop #[.pointer a, .int .i64 n5] (fun v18 M19 => shT v18 fun l20 => shCons l20 fun u21 r22 => shI .i64 u21 fun n23 => shCons r22 fun u24 r25 => shI .i64 u24 fun n26 => shNil r25 (R (.int .i64 n23) M19)) M16) (leftist_Cut.J1 pts a r n5 M16)) M4))) M)
theorem leftist_Cut.eqX (pr : Prim) (pts : Pts) (a : Option Addr) (r : Int) (i : Int) (R : Value → Mem → Prop) (M : Mem) : wpX PP pr pts leftist_Cut.h [] [] (retH pr Try.f57.results.toList R) (argEnv 0 [.pointer a, .int .i64 r, .int .i64 i]) M = leftist_Cut.T pr pts a r i R M := by kernel_rfl
theorem leftist_Cut.eq (pr : Prim) (a : Option Addr) (r : Int) (i : Int) (R : Value → Mem → Prop) (M : Mem) : wpH PP pr leftist_Cut.h (retH pr Try.f57.results.toList R) (argEnv 0 [.pointer a, .int .i64 r, .int .i64 i]) M = leftist_Cut.T pr (leftist_Cut.pts pr R) a r i R M := root_eq.trans (leftist_Cut.eqX pr (leftist_Cut.pts pr R) a r i R M)
theorem leftist_Cut.fn : PP.funcs[Id.leftist_Cut]? = some Try.f57 := Try.func57
theorem leftist_Cut.can : callable PP Id.leftist_Cut = true := by kernel_rfl
theorem leftist_Cut.good : okH Try.f57.ntmps leftist_Cut.h = true := by kernel_rfl
theorem leftist_Cut.body : Try.f57.body = some ((Try.f57.body).getD .skip) := by kernel_rfl
theorem leftist_Cut.size : (3 : Nat) ≤ Try.f57.ntmps := by decide
theorem leftist_Cut.go (w0 : World) (a : Option Addr) (r : Int) (i : Int) {R : Value → Mem → Prop} {M : Mem} (h : ∀ pts, leftist_Cut.Is (std PP w0) pts R → leftist_Cut.T (std PP w0) pts a r i R M) : C PP w0 Id.leftist_Cut #[.pointer a, .int .i64 r, .int .i64 i] R M :=
  C_intro mixed leftist_Cut.fn leftist_Cut.body leftist_Cut.can (annot_code _ _) leftist_Cut.good leftist_Cut.size ((leftist_Cut.eq (std PP w0) a r i R M).mpr (h _ (leftist_Cut.is _ _)))
-- thicket/leftist.Drop
noncomputable def leftist_Drop.h : HC := annot ((Try.f58.body).getD .skip) []
def leftist_Drop.T (pr : Prim) (a : Option Addr) (r : Int) (R : Value → Mem → Prop) (M : Mem) : Prop := ob (pr.bq .eql 28 (.tmp 5) (.const (.pointer none)) (.pointer a) (.pointer none)) fun v1 => shB v1 fun b2 => bs b2 (R (.slice none 0 0) M) (pr.call Id.leftist_nodes #[.pointer a, .int .i64 r] (fun v3 M4 => shS v3 fun s5 => pr.call Id.node_Drop #[.pointer a, SV.v s5] (fun v6 M7 => shS v6 fun s8 => R (SV.v s8) M7) M4) M)
theorem leftist_Drop.eqX (pr : Prim) (pts : Pts) (a : Option Addr) (r : Int) (R : Value → Mem → Prop) (M : Mem) : wpX PP pr pts leftist_Drop.h [] [] (retH pr Try.f58.results.toList R) (argEnv 0 [.pointer a, .int .i64 r]) M = leftist_Drop.T pr a r R M := by kernel_rfl
theorem leftist_Drop.eq (pr : Prim) (a : Option Addr) (r : Int) (R : Value → Mem → Prop) (M : Mem) : wpH PP pr leftist_Drop.h (retH pr Try.f58.results.toList R) (argEnv 0 [.pointer a, .int .i64 r]) M = leftist_Drop.T pr a r R M := root_eq.trans (leftist_Drop.eqX pr (ptsR PP pr leftist_Drop.h (retH pr Try.f58.results.toList R)) a r R M)
theorem leftist_Drop.fn : PP.funcs[Id.leftist_Drop]? = some Try.f58 := Try.func58
theorem leftist_Drop.can : callable PP Id.leftist_Drop = true := by kernel_rfl
theorem leftist_Drop.good : okH Try.f58.ntmps leftist_Drop.h = true := by kernel_rfl
theorem leftist_Drop.body : Try.f58.body = some ((Try.f58.body).getD .skip) := by kernel_rfl
theorem leftist_Drop.size : (2 : Nat) ≤ Try.f58.ntmps := by decide
theorem leftist_Drop.go (w0 : World) (a : Option Addr) (r : Int) {R : Value → Mem → Prop} {M : Mem} (h : leftist_Drop.T (std PP w0) a r R M) : C PP w0 Id.leftist_Drop #[.pointer a, .int .i64 r] R M :=
  C_intro mixed leftist_Drop.fn leftist_Drop.body leftist_Drop.can (annot_code _ _) leftist_Drop.good leftist_Drop.size ((leftist_Drop.eq (std PP w0) a r R M).mpr h)
-- thicket/meter.New
noncomputable def meter_New.h : HC := annot ((Try.f59.body).getD .skip) []
def meter_New.T (pr : Prim) (R : Value → Mem → Prop) (M : Mem) : Prop := ob (pr.bld 75 []) fun v1 => shA v1 fun l2 => shCons l2 fun u3 r4 => shI .i64 u3 fun n5 => shCons r4 fun u6 r7 => shI .i64 u6 fun n8 => shCons r7 fun u9 r10 => shI .i64 u9 fun n11 => shNil r10 (pr.nw [.int .i64 n5, .int .i64 n8, .int .i64 n11] 75 (fun b12 M13 => R (.pointer (some ⟨b12, 0, none⟩)) M13) M)
theorem meter_New.eqX (pr : Prim) (pts : Pts) (R : Value → Mem → Prop) (M : Mem) : wpX PP pr pts meter_New.h [] [] (retH pr Try.f59.results.toList R) (argEnv 0 []) M = meter_New.T pr R M := by kernel_rfl
theorem meter_New.eq (pr : Prim) (R : Value → Mem → Prop) (M : Mem) : wpH PP pr meter_New.h (retH pr Try.f59.results.toList R) (argEnv 0 []) M = meter_New.T pr R M := root_eq.trans (meter_New.eqX pr (ptsR PP pr meter_New.h (retH pr Try.f59.results.toList R)) R M)
theorem meter_New.fn : PP.funcs[Id.meter_New]? = some Try.f59 := Try.func59
theorem meter_New.can : callable PP Id.meter_New = true := by kernel_rfl
theorem meter_New.good : okH Try.f59.ntmps meter_New.h = true := by kernel_rfl
theorem meter_New.body : Try.f59.body = some ((Try.f59.body).getD .skip) := by kernel_rfl
theorem meter_New.size : (0 : Nat) ≤ Try.f59.ntmps := by decide
theorem meter_New.go (w0 : World) {R : Value → Mem → Prop} {M : Mem} (h : meter_New.T (std PP w0) R M) : C PP w0 Id.meter_New #[] R M :=
  C_intro mixed meter_New.fn meter_New.body meter_New.can (annot_code _ _) meter_New.good meter_New.size ((meter_New.eq (std PP w0) R M).mpr h)
-- thicket/arena.fresh
noncomputable def arena_fresh.h : HC := annot ((Try.f60.body).getD .skip) [([true, true, false, true, false], [0, 1, 5, 6, 7])]
abbrev arena_fresh.L1 (pts : Pts) (k : Nat) (t0 : Addr) (x_1 : Addr) (t5 : SV) (t6 : Int) (t7 : Int) (M : Mem) : Prop := pts [false, false, true, false, true, true] [k] [(0, .pointer (some t0)), (1, .pointer (some x_1)), (5, SV.v t5), (6, .int .i64 t6), (7, .int .i64 t7)] M
def arena_fresh.pts (pr : Prim) (R : Value → Mem → Prop) : Pts := ptsR PP pr arena_fresh.h (retH pr Try.f60.results.toList R)
def arena_fresh.L1.T (pr : Prim) (pts : Pts) (k : Nat) (t0 : Addr) (x_1 : Addr) (t5 : SV) (t6 : Int) (t7 : Int) (R : Value → Mem → Prop) (M : Mem) : Prop := bs (decide (t7 < t6)) (nc t5.a fun a45 => (0 ≤ t7 ∧ t7 < ((t5.n : Nat) : Int)) ∧ ob (pr.ld 3 (a45.add (t7.toNat * 1)) M) fun v46 => shI .i64 v46 fun n47 => (0 ≤ n47 ∧ n47 < ((10 : Nat) : Int)) ∧ pr.st 2 (Addr.add x_1 (n47.toNat * 1)) (.int .i64 (-1)) (fun M48 => arena_fresh.L1 pts k t0 x_1 t5 t6 (w64 (t7 + 1)) M48) M) (ob (pr.ld 83 x_1 M) fun v49 => shA v49 fun l50 => shCons l50 fun u51 r52 => shI .i64 u51 fun n53 => shCons r52 fun u54 r55 => shI .i64 u54 fun n56 => shCons r55 fun u57 r58 => shI .i64 u57 fun n59 => shCons r58 fun u60 r61 => shI .i64 u60 fun n62 => shCons r61 fun u63 r64 => shI .i64 u63 fun n65 => shCons r64 fun u66 r67 => shI .i64 u66 fun n68 => shCons r67 fun u69 r70 => shI .i64 u69 fun n71 => shCons r70 fun u72 r73 => shI .i64 u72 fun n74 => shCons r73 fun u75 r76 => shI .i64 u75 fun n77 => shCons r76 fun u78 r79 => shI .i64 u78 fun n80 => shCons r79 fun u81 r82 => shB u81 fun b83 => shNil r82 (pr.st 83 t0 (.agg #[.int .i64 n53, .int .i64 n56, .int .i64 n59, .int .i64 n62, .int .i64 n65, .int .i64 n68, .int .i64 n71, .int .i64 n74, .int .i64 n77, .int .i64 n80, .bool b83]) (fun M84 => ob (pr.rdv 83 (.pointer (some t0)) M84) fun v85 => R v85 M84) M))
theorem arena_fresh.L1.zero (pr : Prim) (t0 : Addr) (x_1 : Addr) (t5 : SV) (t6 : Int) (t7 : Int) (R : Value → Mem → Prop) (M : Mem) : arena_fresh.L1 (arena_fresh.pts pr R) 0 t0 x_1 t5 t6 t7 M = False :=
  (ptsR_eq (b := false) (p := [false, true, false, true, true]) (ns := [0]) rfl _ _).trans (by kernel_rfl)
theorem arena_fresh.L1.eqX (pr : Prim) (pts : Pts) (k : Nat) (t0 : Addr) (x_1 : Addr) (t5 : SV) (t6 : Int) (t7 : Int) (R : Value → Mem → Prop) (M : Mem) : bodyX PP pr pts arena_fresh.h (retH pr Try.f60.results.toList R) [false, false, true, false, true, true] [k + 1] [(0, .pointer (some t0)), (1, .pointer (some x_1)), (5, SV.v t5), (6, .int .i64 t6), (7, .int .i64 t7)] M = arena_fresh.L1.T pr pts k t0 x_1 t5 t6 t7 R M := by kernel_rfl
theorem arena_fresh.L1.succ (pr : Prim) (k : Nat) (t0 : Addr) (x_1 : Addr) (t5 : SV) (t6 : Int) (t7 : Int) (R : Value → Mem → Prop) (M : Mem) : arena_fresh.L1 (arena_fresh.pts pr R) (k + 1) t0 x_1 t5 t6 t7 M = arena_fresh.L1.T pr (arena_fresh.pts pr R) k t0 x_1 t5 t6 t7 R M :=
  (ptsR_eq (b := false) (p := [false, true, false, true, true]) (ns := [k + 1]) rfl _ _).trans (arena_fresh.L1.eqX pr (arena_fresh.pts pr R) k t0 x_1 t5 t6 t7 R M)
structure arena_fresh.Is (pr : Prim) (pts : Pts) (R : Value → Mem → Prop) : Prop where
  L1 : ∀ (k : Nat) (t0 : Addr) (x_1 : Addr) (t5 : SV) (t6 : Int) (t7 : Int) (M : Mem), arena_fresh.L1 pts (k + 1) t0 x_1 t5 t6 t7 M = arena_fresh.L1.T pr pts k t0 x_1 t5 t6 t7 R M
theorem arena_fresh.is (pr : Prim) (R : Value → Mem → Prop) : arena_fresh.Is pr (arena_fresh.pts pr R) R := ⟨fun k t0 x_1 t5 t6 t7 M => arena_fresh.L1.succ pr k t0 x_1 t5 t6 t7 R M⟩
def arena_fresh.T (pr : Prim) (pts : Pts) (R : Value → Mem → Prop) (M : Mem) : Prop := pr.nw [.int .i64 0, .int .i64 0, .int .i64 0, .int .i64 0, .int .i64 0, .int .i64 0, .int .i64 0, .int .i64 0, .int .i64 0, .int .i64 0, .bool false] 83 (fun b1 M2 => ob (pr.bld 83 [(1, .bool true)]) fun v3 => shA v3 fun l4 => shCons l4 fun u5 r6 => shI .i64 u5 fun n7 => shCons r6 fun u8 r9 => shI .i64 u8 fun n10 => shCons r9 fun u11 r12 => shI .i64 u11 fun n13 => shCons r12 fun u14 r15 => shI .i64 u14 fun n16 => shCons r15 fun u17 r18 => shI .i64 u17 fun n19 => shCons r18 fun u20 r21 => shI .i64 u20 fun n22 => shCons r21 fun u23 r24 => shI .i64 u23 fun n25 => shCons r24 fun u26 r27 => shI .i64 u26 fun n28 => shCons r27 fun u29 r30 => shI .i64 u29 fun n31 => shCons r30 fun u32 r33 => shI .i64 u32 fun n34 => shCons r33 fun u35 r36 => shB u35 fun b37 => shNil r36 (pr.nw [.int .i64 0, .int .i64 0, .int .i64 0, .int .i64 0, .int .i64 0, .int .i64 0, .int .i64 0, .int .i64 0, .int .i64 0, .int .i64 0, .bool false] 83 (fun b38 M39 => pr.st 83 ⟨b38, 0, none⟩ (.agg #[.int .i64 n7, .int .i64 n10, .int .i64 n13, .int .i64 n16, .int .i64 n19, .int .i64 n22, .int .i64 n25, .int .i64 n28, .int .i64 n31, .int .i64 n34, .bool b37]) (fun M40 => pr.bsl 53 6 [(0, .int .i64 0), (1, .int .i64 1), (2, .int .i64 2), (3, .int .i64 3), (4, .int .i64 6), (5, .int .i64 9)] (fun v41 M42 => shS v41 fun s43 => ∃ k44, arena_fresh.L1 pts k44 ⟨b1, 0, none⟩ ⟨b38, 0, none⟩ s43 ((s43.n : Nat) : Int) 0 M42) M40) M39) M2)) M
theorem arena_fresh.eqX (pr : Prim) (pts : Pts) (R : Value → Mem → Prop) (M : Mem) : wpX PP pr pts arena_fresh.h [] [] (retH pr Try.f60.results.toList R) (argEnv 0 []) M = arena_fresh.T pr pts R M := by kernel_rfl
theorem arena_fresh.eq (pr : Prim) (R : Value → Mem → Prop) (M : Mem) : wpH PP pr arena_fresh.h (retH pr Try.f60.results.toList R) (argEnv 0 []) M = arena_fresh.T pr (arena_fresh.pts pr R) R M := root_eq.trans (arena_fresh.eqX pr (arena_fresh.pts pr R) R M)
theorem arena_fresh.fn : PP.funcs[Id.arena_fresh]? = some Try.f60 := Try.func60
theorem arena_fresh.can : callable PP Id.arena_fresh = true := by kernel_rfl
theorem arena_fresh.good : okH Try.f60.ntmps arena_fresh.h = true := by kernel_rfl
theorem arena_fresh.body : Try.f60.body = some ((Try.f60.body).getD .skip) := by kernel_rfl
theorem arena_fresh.size : (0 : Nat) ≤ Try.f60.ntmps := by decide
theorem arena_fresh.go (w0 : World) {R : Value → Mem → Prop} {M : Mem} (h : ∀ pts, arena_fresh.Is (std PP w0) pts R → arena_fresh.T (std PP w0) pts R M) : C PP w0 Id.arena_fresh #[] R M :=
  C_intro mixed arena_fresh.fn arena_fresh.body arena_fresh.can (annot_code _ _) arena_fresh.good arena_fresh.size ((arena_fresh.eq (std PP w0) R M).mpr (h _ (arena_fresh.is _ _)))
-- (*thicket/arena.Arena).has
noncomputable def arena_Arena_has.h : HC := annot ((Try.f61.body).getD .skip) []
def arena_Arena_has.T (pr : Prim) (a : Option Addr) (c : Int) (field : Int) (R : Value → Mem → Prop) (M : Mem) : Prop := pr.call Id.arena_Arena_Live #[.pointer a, .int .i64 c] (fun v1 M2 => shB v1 fun b3 => bs b3 (bs (decide (field ≥ 0)) (R (.bool (decide (field < 10))) M2) (R (.bool false) M2)) (R (.bool false) M2)) M
theorem arena_Arena_has.eqX (pr : Prim) (pts : Pts) (a : Option Addr) (c : Int) (field : Int) (R : Value → Mem → Prop) (M : Mem) : wpX PP pr pts arena_Arena_has.h [] [] (retH pr Try.f61.results.toList R) (argEnv 0 [.pointer a, .int .i64 c, .int .i64 field]) M = arena_Arena_has.T pr a c field R M := by kernel_rfl
theorem arena_Arena_has.eq (pr : Prim) (a : Option Addr) (c : Int) (field : Int) (R : Value → Mem → Prop) (M : Mem) : wpH PP pr arena_Arena_has.h (retH pr Try.f61.results.toList R) (argEnv 0 [.pointer a, .int .i64 c, .int .i64 field]) M = arena_Arena_has.T pr a c field R M := root_eq.trans (arena_Arena_has.eqX pr (ptsR PP pr arena_Arena_has.h (retH pr Try.f61.results.toList R)) a c field R M)
theorem arena_Arena_has.fn : PP.funcs[Id.arena_Arena_has]? = some Try.f61 := Try.func61
theorem arena_Arena_has.can : callable PP Id.arena_Arena_has = true := by kernel_rfl
theorem arena_Arena_has.good : okH Try.f61.ntmps arena_Arena_has.h = true := by kernel_rfl
theorem arena_Arena_has.body : Try.f61.body = some ((Try.f61.body).getD .skip) := by kernel_rfl
theorem arena_Arena_has.size : (3 : Nat) ≤ Try.f61.ntmps := by decide
theorem arena_Arena_has.go (w0 : World) (a : Option Addr) (c : Int) (field : Int) {R : Value → Mem → Prop} {M : Mem} (h : arena_Arena_has.T (std PP w0) a c field R M) : C PP w0 Id.arena_Arena_has #[.pointer a, .int .i64 c, .int .i64 field] R M :=
  C_intro mixed arena_Arena_has.fn arena_Arena_has.body arena_Arena_has.can (annot_code _ _) arena_Arena_has.good arena_Arena_has.size ((arena_Arena_has.eq (std PP w0) a c field R M).mpr h)
-- thicket/item.Put
noncomputable def item_Put.h : HC := annot ((Try.f62.body).getD .skip) []
def item_Put.T (pr : Prim) (a : Option Addr) (n : Int) (i : Int) (R : Value → Mem → Prop) (M : Mem) : Prop := ob (pr.bq .neq 28 (.tmp 6) (.const (.pointer none)) (.pointer a) (.pointer none)) fun v1 => shB v1 fun b2 => bs b2 (pr.call Id.arena_Arena_Set #[.pointer a, .int .i64 n, .int .i64 6, .int .i64 i] (fun v3 M4 => shB v3 fun b5 => pr.call Id.arena_Arena_Set #[.pointer a, .int .i64 i, .int .i64 9, .int .i64 n] (fun v6 M7 => shB v6 fun b8 => R (.tuple #[]) M7) M4) M) (R (.tuple #[]) M)
theorem item_Put.eqX (pr : Prim) (pts : Pts) (a : Option Addr) (n : Int) (i : Int) (R : Value → Mem → Prop) (M : Mem) : wpX PP pr pts item_Put.h [] [] (retH pr Try.f62.results.toList R) (argEnv 0 [.pointer a, .int .i64 n, .int .i64 i]) M = item_Put.T pr a n i R M := by kernel_rfl
theorem item_Put.eq (pr : Prim) (a : Option Addr) (n : Int) (i : Int) (R : Value → Mem → Prop) (M : Mem) : wpH PP pr item_Put.h (retH pr Try.f62.results.toList R) (argEnv 0 [.pointer a, .int .i64 n, .int .i64 i]) M = item_Put.T pr a n i R M := root_eq.trans (item_Put.eqX pr (ptsR PP pr item_Put.h (retH pr Try.f62.results.toList R)) a n i R M)
theorem item_Put.fn : PP.funcs[Id.item_Put]? = some Try.f62 := Try.func62
theorem item_Put.can : callable PP Id.item_Put = true := by kernel_rfl
theorem item_Put.good : okH Try.f62.ntmps item_Put.h = true := by kernel_rfl
theorem item_Put.body : Try.f62.body = some ((Try.f62.body).getD .skip) := by kernel_rfl
theorem item_Put.size : (3 : Nat) ≤ Try.f62.ntmps := by decide
theorem item_Put.go (w0 : World) (a : Option Addr) (n : Int) (i : Int) {R : Value → Mem → Prop} {M : Mem} (h : item_Put.T (std PP w0) a n i R M) : C PP w0 Id.item_Put #[.pointer a, .int .i64 n, .int .i64 i] R M :=
  C_intro mixed item_Put.fn item_Put.body item_Put.can (annot_code _ _) item_Put.good item_Put.size ((item_Put.eq (std PP w0) a n i R M).mpr h)
-- thicket/node.Before
noncomputable def node_Before.h : HC := annot ((Try.f63.body).getD .skip) []
def node_Before.T (pr : Prim) (a : Option Addr) (n : Int) (m : Int) (R : Value → Mem → Prop) (M : Mem) : Prop := pr.call Id.arena_Arena_Cell #[.pointer a, .int .i64 n, .int .i64 6] (fun v1 M2 => shI .i64 v1 fun n3 => pr.call Id.arena_Arena_Cell #[.pointer a, .int .i64 m, .int .i64 6] (fun v4 M5 => shI .i64 v4 fun n6 => pr.call Id.item_Before #[.pointer a, .int .i64 n3, .int .i64 n6] (fun v7 M8 => shB v7 fun b9 => R (.bool b9) M8) M5) M2) M
theorem node_Before.eqX (pr : Prim) (pts : Pts) (a : Option Addr) (n : Int) (m : Int) (R : Value → Mem → Prop) (M : Mem) : wpX PP pr pts node_Before.h [] [] (retH pr Try.f63.results.toList R) (argEnv 0 [.pointer a, .int .i64 n, .int .i64 m]) M = node_Before.T pr a n m R M := by kernel_rfl
theorem node_Before.eq (pr : Prim) (a : Option Addr) (n : Int) (m : Int) (R : Value → Mem → Prop) (M : Mem) : wpH PP pr node_Before.h (retH pr Try.f63.results.toList R) (argEnv 0 [.pointer a, .int .i64 n, .int .i64 m]) M = node_Before.T pr a n m R M := root_eq.trans (node_Before.eqX pr (ptsR PP pr node_Before.h (retH pr Try.f63.results.toList R)) a n m R M)
theorem node_Before.fn : PP.funcs[Id.node_Before]? = some Try.f63 := Try.func63
theorem node_Before.can : callable PP Id.node_Before = true := by kernel_rfl
theorem node_Before.good : okH Try.f63.ntmps node_Before.h = true := by kernel_rfl
theorem node_Before.body : Try.f63.body = some ((Try.f63.body).getD .skip) := by kernel_rfl
theorem node_Before.size : (3 : Nat) ≤ Try.f63.ntmps := by decide
theorem node_Before.go (w0 : World) (a : Option Addr) (n : Int) (m : Int) {R : Value → Mem → Prop} {M : Mem} (h : node_Before.T (std PP w0) a n m R M) : C PP w0 Id.node_Before #[.pointer a, .int .i64 n, .int .i64 m] R M :=
  C_intro mixed node_Before.fn node_Before.body node_Before.can (annot_code _ _) node_Before.good node_Before.size ((node_Before.eq (std PP w0) a n m R M).mpr h)
-- thicket/leftist.fix
noncomputable def leftist_fix.h : HC := annot ((Try.f64.body).getD .skip) [([true, true, true], [0, 1, 8])]
abbrev leftist_fix.J1 (pts : Pts) (a_0 : Option Addr) (n_1 : Int) (low_8 : Int) (M : Mem) : Prop := pts [true, true, true, true] [] [(0, .pointer a_0), (1, .int .i64 n_1), (8, .int .i64 low_8)] M
def leftist_fix.pts (pr : Prim) (R : Value → Mem → Prop) : Pts := ptsR PP pr leftist_fix.h (retH pr Try.f64.results.toList R)
def leftist_fix.J1.T (pr : Prim) (pts : Pts) (a_0 : Option Addr) (n_1 : Int) (low_8 : Int) (R : Value → Mem → Prop) (M : Mem) : Prop := pr.call Id.arena_Arena_Get #[.pointer a_0, .int .i64 n_1, .int .i64 4] (fun v19 M20 => shI .i64 v19 fun n21 => pr.call Id.arena_Arena_Set #[.pointer a_0, .int .i64 n_1, .int .i64 4, .int .i64 (w64 (low_8 + 1))] (fun v22 M23 => shB v22 fun b24 => R (.bool ((n21 != (w64 (low_8 + 1))))) M23) M20) M
theorem leftist_fix.J1.eqX (pr : Prim) (pts : Pts) (a_0 : Option Addr) (n_1 : Int) (low_8 : Int) (R : Value → Mem → Prop) (M : Mem) : bodyX PP pr pts leftist_fix.h (retH pr Try.f64.results.toList R) [true, true, true, true] [] [(0, .pointer a_0), (1, .int .i64 n_1), (8, .int .i64 low_8)] M = leftist_fix.J1.T pr pts a_0 n_1 low_8 R M := by kernel_rfl
theorem leftist_fix.J1.eq (pr : Prim) (a_0 : Option Addr) (n_1 : Int) (low_8 : Int) (R : Value → Mem → Prop) (M : Mem) : leftist_fix.J1 (leftist_fix.pts pr R) a_0 n_1 low_8 M = leftist_fix.J1.T pr (leftist_fix.pts pr R) a_0 n_1 low_8 R M :=
  (ptsR_eq (b := true) (p := [true, true, true]) (ns := []) rfl _ _).trans (leftist_fix.J1.eqX pr (leftist_fix.pts pr R) a_0 n_1 low_8 R M)
structure leftist_fix.Is (pr : Prim) (pts : Pts) (R : Value → Mem → Prop) : Prop where
  J1 : ∀ (a_0 : Option Addr) (n_1 : Int) (low_8 : Int) (M : Mem), leftist_fix.J1 pts a_0 n_1 low_8 M = leftist_fix.J1.T pr pts a_0 n_1 low_8 R M
theorem leftist_fix.is (pr : Prim) (R : Value → Mem → Prop) : leftist_fix.Is pr (leftist_fix.pts pr R) R := ⟨fun a_0 n_1 low_8 M => leftist_fix.J1.eq pr a_0 n_1 low_8 R M⟩
def leftist_fix.T (pr : Prim) (pts : Pts) (a : Option Addr) (n : Int) (R : Value → Mem → Prop) (M : Mem) : Prop := pr.call Id.arena_Arena_Cell #[.pointer a, .int .i64 n, .int .i64 2] (fun v1 M2 => shI .i64 v1 fun n3 => pr.call Id.arena_Arena_Cell #[.pointer a, .int .i64 n, .int .i64 3] (fun v4 M5 => shI .i64 v4 fun n6 => pr.call Id.leftist_rank #[.pointer a, .int .i64 n3] (fun v7 M8 => shI .i64 v7 fun n9 => pr.call Id.leftist_rank #[.pointer a, .int .i64 n6] (fun v10 M11 => shI .i64 v10 fun n12 => bs (decide (n9 < n12)) (pr.call Id.arena_Arena_Set #[.pointer a, .int .i64 n, .int .i64 2, .int .i64 n6] (fun v13 M14 => shB v13 fun b15 => pr.call Id.arena_Arena_Set #[.pointer a, .int .i64 n, .int .i64 3, .int .i64 n3] (fun v16 M17 => shB v16 fun b18 => leftist_fix.J1 pts a n n9 M17) M14) M11) (leftist_fix.J1 pts a n n12 M11)) M8) M5) M2) M
theorem leftist_fix.eqX (pr : Prim) (pts : Pts) (a : Option Addr) (n : Int) (R : Value → Mem → Prop) (M : Mem) : wpX PP pr pts leftist_fix.h [] [] (retH pr Try.f64.results.toList R) (argEnv 0 [.pointer a, .int .i64 n]) M = leftist_fix.T pr pts a n R M := by kernel_rfl
theorem leftist_fix.eq (pr : Prim) (a : Option Addr) (n : Int) (R : Value → Mem → Prop) (M : Mem) : wpH PP pr leftist_fix.h (retH pr Try.f64.results.toList R) (argEnv 0 [.pointer a, .int .i64 n]) M = leftist_fix.T pr (leftist_fix.pts pr R) a n R M := root_eq.trans (leftist_fix.eqX pr (leftist_fix.pts pr R) a n R M)
theorem leftist_fix.fn : PP.funcs[Id.leftist_fix]? = some Try.f64 := Try.func64
theorem leftist_fix.can : callable PP Id.leftist_fix = true := by kernel_rfl
theorem leftist_fix.good : okH Try.f64.ntmps leftist_fix.h = true := by kernel_rfl
theorem leftist_fix.body : Try.f64.body = some ((Try.f64.body).getD .skip) := by kernel_rfl
theorem leftist_fix.size : (2 : Nat) ≤ Try.f64.ntmps := by decide
theorem leftist_fix.go (w0 : World) (a : Option Addr) (n : Int) {R : Value → Mem → Prop} {M : Mem} (h : ∀ pts, leftist_fix.Is (std PP w0) pts R → leftist_fix.T (std PP w0) pts a n R M) : C PP w0 Id.leftist_fix #[.pointer a, .int .i64 n] R M :=
  C_intro mixed leftist_fix.fn leftist_fix.body leftist_fix.can (annot_code _ _) leftist_fix.good leftist_fix.size ((leftist_fix.eq (std PP w0) a n R M).mpr (h _ (leftist_fix.is _ _)))
-- thicket/thicketref1.Bits
noncomputable def thicketref1_Bits.h : HC := annot ((Try.f65.body).getD .skip) [([true, true, false, false], [0, 3])]
abbrev thicketref1_Bits.L1 (pts : Pts) (k : Nat) (n_0 : Int) (k_3 : Int) (M : Mem) : Prop := pts [false, false, false, true, true] [k] [(0, .int .i64 n_0), (3, .int .i64 k_3)] M
def thicketref1_Bits.pts (pr : Prim) (R : Value → Mem → Prop) : Pts := ptsR PP pr thicketref1_Bits.h (retH pr Try.f65.results.toList R)
def thicketref1_Bits.L1.T (pr : Prim) (pts : Pts) (k : Nat) (n_0 : Int) (k_3 : Int) (R : Value → Mem → Prop) (M : Mem) : Prop := bs (decide (n_0 > 0)) ((IntKind.i64 = IntKind.i64 ∧ (2 : Int) ≠ 0 ∧ thicketref1_Bits.L1 pts k (w64 (Int.tdiv n_0 2)) (w64 (k_3 + 1)) M)) (R (.int .i64 k_3) M)
theorem thicketref1_Bits.L1.zero (pr : Prim) (n_0 : Int) (k_3 : Int) (R : Value → Mem → Prop) (M : Mem) : thicketref1_Bits.L1 (thicketref1_Bits.pts pr R) 0 n_0 k_3 M = False :=
  (ptsR_eq (b := false) (p := [false, false, true, true]) (ns := [0]) rfl _ _).trans (by kernel_rfl)
theorem thicketref1_Bits.L1.eqX (pr : Prim) (pts : Pts) (k : Nat) (n_0 : Int) (k_3 : Int) (R : Value → Mem → Prop) (M : Mem) : bodyX PP pr pts thicketref1_Bits.h (retH pr Try.f65.results.toList R) [false, false, false, true, true] [k + 1] [(0, .int .i64 n_0), (3, .int .i64 k_3)] M = thicketref1_Bits.L1.T pr pts k n_0 k_3 R M := by kernel_rfl
theorem thicketref1_Bits.L1.succ (pr : Prim) (k : Nat) (n_0 : Int) (k_3 : Int) (R : Value → Mem → Prop) (M : Mem) : thicketref1_Bits.L1 (thicketref1_Bits.pts pr R) (k + 1) n_0 k_3 M = thicketref1_Bits.L1.T pr (thicketref1_Bits.pts pr R) k n_0 k_3 R M :=
  (ptsR_eq (b := false) (p := [false, false, true, true]) (ns := [k + 1]) rfl _ _).trans (thicketref1_Bits.L1.eqX pr (thicketref1_Bits.pts pr R) k n_0 k_3 R M)
structure thicketref1_Bits.Is (pr : Prim) (pts : Pts) (R : Value → Mem → Prop) : Prop where
  L1 : ∀ (k : Nat) (n_0 : Int) (k_3 : Int) (M : Mem), thicketref1_Bits.L1 pts (k + 1) n_0 k_3 M = thicketref1_Bits.L1.T pr pts k n_0 k_3 R M
theorem thicketref1_Bits.is (pr : Prim) (R : Value → Mem → Prop) : thicketref1_Bits.Is pr (thicketref1_Bits.pts pr R) R := ⟨fun k n_0 k_3 M => thicketref1_Bits.L1.succ pr k n_0 k_3 R M⟩
def thicketref1_Bits.T (pr : Prim) (pts : Pts) (n : Int) (R : Value → Mem → Prop) (M : Mem) : Prop := ∃ k1, thicketref1_Bits.L1 pts k1 n 0 M
theorem thicketref1_Bits.eqX (pr : Prim) (pts : Pts) (n : Int) (R : Value → Mem → Prop) (M : Mem) : wpX PP pr pts thicketref1_Bits.h [] [] (retH pr Try.f65.results.toList R) (argEnv 0 [.int .i64 n]) M = thicketref1_Bits.T pr pts n R M := by kernel_rfl
theorem thicketref1_Bits.eq (pr : Prim) (n : Int) (R : Value → Mem → Prop) (M : Mem) : wpH PP pr thicketref1_Bits.h (retH pr Try.f65.results.toList R) (argEnv 0 [.int .i64 n]) M = thicketref1_Bits.T pr (thicketref1_Bits.pts pr R) n R M := root_eq.trans (thicketref1_Bits.eqX pr (thicketref1_Bits.pts pr R) n R M)
theorem thicketref1_Bits.fn : PP.funcs[Id.thicketref1_Bits]? = some Try.f65 := Try.func65
theorem thicketref1_Bits.can : callable PP Id.thicketref1_Bits = true := by kernel_rfl
theorem thicketref1_Bits.good : okH Try.f65.ntmps thicketref1_Bits.h = true := by kernel_rfl
theorem thicketref1_Bits.body : Try.f65.body = some ((Try.f65.body).getD .skip) := by kernel_rfl
theorem thicketref1_Bits.size : (1 : Nat) ≤ Try.f65.ntmps := by decide
theorem thicketref1_Bits.go (w0 : World) (n : Int) {R : Value → Mem → Prop} {M : Mem} (h : ∀ pts, thicketref1_Bits.Is (std PP w0) pts R → thicketref1_Bits.T (std PP w0) pts n R M) : C PP w0 Id.thicketref1_Bits #[.int .i64 n] R M :=
  C_intro mixed thicketref1_Bits.fn thicketref1_Bits.body thicketref1_Bits.can (annot_code _ _) thicketref1_Bits.good thicketref1_Bits.size ((thicketref1_Bits.eq (std PP w0) n R M).mpr (h _ (thicketref1_Bits.is _ _)))
-- thicket/thicketref1.Add
noncomputable def thicketref1_Add.h : HC := annot ((Try.f66.body).getD .skip) [([true], [0, 1])]
abbrev thicketref1_Add.J1 (pts : Pts) (a_0 : Int) (b_1 : Int) (M : Mem) : Prop := pts [true, true] [] [(0, .int .i64 a_0), (1, .int .i64 b_1)] M
def thicketref1_Add.pts (pr : Prim) (R : Value → Mem → Prop) : Pts := ptsR PP pr thicketref1_Add.h (retH pr Try.f66.results.toList R)
def thicketref1_Add.J1.T (pr : Prim) (pts : Pts) (a_0 : Int) (b_1 : Int) (R : Value → Mem → Prop) (M : Mem) : Prop := bs (decide (a_0 < 0)) (bs (decide (b_1 < (w64 ((-9223372036854775808) - a_0)))) (R (.int .i64 (-9223372036854775808)) M) (R (.int .i64 (w64 (a_0 + b_1))) M)) (R (.int .i64 (w64 (a_0 + b_1))) M)
theorem thicketref1_Add.J1.eqX (pr : Prim) (pts : Pts) (a_0 : Int) (b_1 : Int) (R : Value → Mem → Prop) (M : Mem) : bodyX PP pr pts thicketref1_Add.h (retH pr Try.f66.results.toList R) [true, true] [] [(0, .int .i64 a_0), (1, .int .i64 b_1)] M = thicketref1_Add.J1.T pr pts a_0 b_1 R M := by kernel_rfl
theorem thicketref1_Add.J1.eq (pr : Prim) (a_0 : Int) (b_1 : Int) (R : Value → Mem → Prop) (M : Mem) : thicketref1_Add.J1 (thicketref1_Add.pts pr R) a_0 b_1 M = thicketref1_Add.J1.T pr (thicketref1_Add.pts pr R) a_0 b_1 R M :=
  (ptsR_eq (b := true) (p := [true]) (ns := []) rfl _ _).trans (thicketref1_Add.J1.eqX pr (thicketref1_Add.pts pr R) a_0 b_1 R M)
structure thicketref1_Add.Is (pr : Prim) (pts : Pts) (R : Value → Mem → Prop) : Prop where
  J1 : ∀ (a_0 : Int) (b_1 : Int) (M : Mem), thicketref1_Add.J1 pts a_0 b_1 M = thicketref1_Add.J1.T pr pts a_0 b_1 R M
theorem thicketref1_Add.is (pr : Prim) (R : Value → Mem → Prop) : thicketref1_Add.Is pr (thicketref1_Add.pts pr R) R := ⟨fun a_0 b_1 M => thicketref1_Add.J1.eq pr a_0 b_1 R M⟩
def thicketref1_Add.T (pr : Prim) (pts : Pts) (a : Int) (b : Int) (R : Value → Mem → Prop) (M : Mem) : Prop := bs (decide (a > 0)) (bs (decide (b > (w64 (9223372036854775807 - a)))) (R (.int .i64 9223372036854775807) M) (thicketref1_Add.J1 pts a b M)) (thicketref1_Add.J1 pts a b M)
theorem thicketref1_Add.eqX (pr : Prim) (pts : Pts) (a : Int) (b : Int) (R : Value → Mem → Prop) (M : Mem) : wpX PP pr pts thicketref1_Add.h [] [] (retH pr Try.f66.results.toList R) (argEnv 0 [.int .i64 a, .int .i64 b]) M = thicketref1_Add.T pr pts a b R M := by kernel_rfl
theorem thicketref1_Add.eq (pr : Prim) (a : Int) (b : Int) (R : Value → Mem → Prop) (M : Mem) : wpH PP pr thicketref1_Add.h (retH pr Try.f66.results.toList R) (argEnv 0 [.int .i64 a, .int .i64 b]) M = thicketref1_Add.T pr (thicketref1_Add.pts pr R) a b R M := root_eq.trans (thicketref1_Add.eqX pr (thicketref1_Add.pts pr R) a b R M)
theorem thicketref1_Add.fn : PP.funcs[Id.thicketref1_Add]? = some Try.f66 := Try.func66
theorem thicketref1_Add.can : callable PP Id.thicketref1_Add = true := by kernel_rfl
theorem thicketref1_Add.good : okH Try.f66.ntmps thicketref1_Add.h = true := by kernel_rfl
theorem thicketref1_Add.body : Try.f66.body = some ((Try.f66.body).getD .skip) := by kernel_rfl
theorem thicketref1_Add.size : (2 : Nat) ≤ Try.f66.ntmps := by decide
theorem thicketref1_Add.go (w0 : World) (a : Int) (b : Int) {R : Value → Mem → Prop} {M : Mem} (h : ∀ pts, thicketref1_Add.Is (std PP w0) pts R → thicketref1_Add.T (std PP w0) pts a b R M) : C PP w0 Id.thicketref1_Add #[.int .i64 a, .int .i64 b] R M :=
  C_intro mixed thicketref1_Add.fn thicketref1_Add.body thicketref1_Add.can (annot_code _ _) thicketref1_Add.good thicketref1_Add.size ((thicketref1_Add.eq (std PP w0) a b R M).mpr (h _ (thicketref1_Add.is _ _)))
-- thicket/order.Add
noncomputable def order_Add.h : HC := annot ((Try.f67.body).getD .skip) []
def order_Add.T (pr : Prim) (a : Int) (b : Int) (R : Value → Mem → Prop) (M : Mem) : Prop := bs (decide (b > 0)) (bs (decide (a > (w64 (9223372036854775807 - b)))) (R (.int .i64 9223372036854775807) M) (bs (decide (b < 0)) (bs (decide (a < (w64 ((-9223372036854775808) - b)))) (R (.int .i64 (-9223372036854775808)) M) (R (.int .i64 (w64 (a + b))) M)) (R (.int .i64 (w64 (a + b))) M))) (bs (decide (b < 0)) (bs (decide (a < (w64 ((-9223372036854775808) - b)))) (R (.int .i64 (-9223372036854775808)) M) (R (.int .i64 (w64 (a + b))) M)) (R (.int .i64 (w64 (a + b))) M))
theorem order_Add.eqX (pr : Prim) (pts : Pts) (a : Int) (b : Int) (R : Value → Mem → Prop) (M : Mem) : wpX PP pr pts order_Add.h [] [] (retH pr Try.f67.results.toList R) (argEnv 0 [.int .i64 a, .int .i64 b]) M = order_Add.T pr a b R M := by kernel_rfl
theorem order_Add.eq (pr : Prim) (a : Int) (b : Int) (R : Value → Mem → Prop) (M : Mem) : wpH PP pr order_Add.h (retH pr Try.f67.results.toList R) (argEnv 0 [.int .i64 a, .int .i64 b]) M = order_Add.T pr a b R M := root_eq.trans (order_Add.eqX pr (ptsR PP pr order_Add.h (retH pr Try.f67.results.toList R)) a b R M)
theorem order_Add.fn : PP.funcs[Id.order_Add]? = some Try.f67 := Try.func67
theorem order_Add.can : callable PP Id.order_Add = true := by kernel_rfl
theorem order_Add.good : okH Try.f67.ntmps order_Add.h = true := by kernel_rfl
theorem order_Add.body : Try.f67.body = some ((Try.f67.body).getD .skip) := by kernel_rfl
theorem order_Add.size : (2 : Nat) ≤ Try.f67.ntmps := by decide
theorem order_Add.go (w0 : World) (a : Int) (b : Int) {R : Value → Mem → Prop} {M : Mem} (h : order_Add.T (std PP w0) a b R M) : C PP w0 Id.order_Add #[.int .i64 a, .int .i64 b] R M :=
  C_intro mixed order_Add.fn order_Add.body order_Add.can (annot_code _ _) order_Add.good order_Add.size ((order_Add.eq (std PP w0) a b R M).mpr h)
-- thicket/thicketlaw8.before
noncomputable def thicketlaw8_before.h : HC := annot ((Try.f68.body).getD .skip) []
def thicketlaw8_before.T (pr : Prim) (x_0 : Int) (x_1 : Int) (x_2 : Int) (y_0 : Int) (y_1 : Int) (y_2 : Int) (R : Value → Mem → Prop) (M : Mem) : Prop := pr.nw [.int .i64 x_0, .int .i64 x_1, .int .i64 x_2] 58 (fun b1 M2 => pr.nw [.int .i64 y_0, .int .i64 y_1, .int .i64 y_2] 58 (fun b3 M4 => ob (pr.ld 40 (Addr.add ⟨b1, 0, none⟩ 1) M4) fun v5 => shA v5 fun l6 => shCons l6 fun u7 r8 => shI .i64 u7 fun n9 => shCons r8 fun u10 r11 => shI .i64 u10 fun n12 => shNil r11 (ob (pr.ld 40 (Addr.add ⟨b3, 0, none⟩ 1) M4) fun v13 => shA v13 fun l14 => shCons l14 fun u15 r16 => shI .i64 u15 fun n17 => shCons r16 fun u18 r19 => shI .i64 u18 fun n20 => shNil r19 (pr.call Id.thicketref1_Before #[.agg #[.int .i64 n9, .int .i64 n12], .agg #[.int .i64 n17, .int .i64 n20]] (fun v21 M22 => shB v21 fun b23 => bs b23 (R (.bool true) M22) (ob (pr.ld 40 (Addr.add ⟨b1, 0, none⟩ 1) M22) fun v24 => shA v24 fun l25 => shCons l25 fun u26 r27 => shI .i64 u26 fun n28 => shCons r27 fun u29 r30 => shI .i64 u29 fun n31 => shNil r30 (ob (pr.ld 40 (Addr.add ⟨b3, 0, none⟩ 1) M22) fun v32 => shA v32 fun l33 => shCons l33 fun u34 r35 => shI .i64 u34 fun n36 => shCons r35 fun u37 r38 => shI .i64 u37 fun n39 => shNil r38 (ob (pr.bq .eql 40 (.tmp 12) (.tmp 14) (.agg #[.int .i64 n28, .int .i64 n31]) (.agg #[.int .i64 n36, .int .i64 n39])) fun v40 => shB v40 fun b41 => bs b41 (ob (pr.ld 3 ⟨b1, 0, none⟩ M22) fun v42 => shI .i64 v42 fun n43 => ob (pr.ld 3 ⟨b3, 0, none⟩ M22) fun v44 => shI .i64 v44 fun n45 => R (.bool (decide (n43 < n45))) M22) (R (.bool false) M22))))) M4))) M2) M
theorem thicketlaw8_before.eqX (pr : Prim) (pts : Pts) (x_0 : Int) (x_1 : Int) (x_2 : Int) (y_0 : Int) (y_1 : Int) (y_2 : Int) (R : Value → Mem → Prop) (M : Mem) : wpX PP pr pts thicketlaw8_before.h [] [] (retH pr Try.f68.results.toList R) (argEnv 0 [.agg #[.int .i64 x_0, .int .i64 x_1, .int .i64 x_2], .agg #[.int .i64 y_0, .int .i64 y_1, .int .i64 y_2]]) M = thicketlaw8_before.T pr x_0 x_1 x_2 y_0 y_1 y_2 R M := by kernel_rfl
theorem thicketlaw8_before.eq (pr : Prim) (x_0 : Int) (x_1 : Int) (x_2 : Int) (y_0 : Int) (y_1 : Int) (y_2 : Int) (R : Value → Mem → Prop) (M : Mem) : wpH PP pr thicketlaw8_before.h (retH pr Try.f68.results.toList R) (argEnv 0 [.agg #[.int .i64 x_0, .int .i64 x_1, .int .i64 x_2], .agg #[.int .i64 y_0, .int .i64 y_1, .int .i64 y_2]]) M = thicketlaw8_before.T pr x_0 x_1 x_2 y_0 y_1 y_2 R M := root_eq.trans (thicketlaw8_before.eqX pr (ptsR PP pr thicketlaw8_before.h (retH pr Try.f68.results.toList R)) x_0 x_1 x_2 y_0 y_1 y_2 R M)
theorem thicketlaw8_before.fn : PP.funcs[Id.thicketlaw8_before]? = some Try.f68 := Try.func68
theorem thicketlaw8_before.can : callable PP Id.thicketlaw8_before = true := by kernel_rfl
theorem thicketlaw8_before.good : okH Try.f68.ntmps thicketlaw8_before.h = true := by kernel_rfl
theorem thicketlaw8_before.body : Try.f68.body = some ((Try.f68.body).getD .skip) := by kernel_rfl
theorem thicketlaw8_before.size : (2 : Nat) ≤ Try.f68.ntmps := by decide
theorem thicketlaw8_before.go (w0 : World) (x_0 : Int) (x_1 : Int) (x_2 : Int) (y_0 : Int) (y_1 : Int) (y_2 : Int) {R : Value → Mem → Prop} {M : Mem} (h : thicketlaw8_before.T (std PP w0) x_0 x_1 x_2 y_0 y_1 y_2 R M) : C PP w0 Id.thicketlaw8_before #[.agg #[.int .i64 x_0, .int .i64 x_1, .int .i64 x_2], .agg #[.int .i64 y_0, .int .i64 y_1, .int .i64 y_2]] R M :=
  C_intro mixed thicketlaw8_before.fn thicketlaw8_before.body thicketlaw8_before.can (annot_code _ _) thicketlaw8_before.good thicketlaw8_before.size ((thicketlaw8_before.eq (std PP w0) x_0 x_1 x_2 y_0 y_1 y_2 R M).mpr h)
-- thicket/node.Items
noncomputable def node_Items.h : HC := annot ((Try.f69.body).getD .skip) [([true, true, false, true, false], [0, 5, 9, 10, 11])]
abbrev node_Items.L1 (pts : Pts) (k : Nat) (a_0 : Option Addr) (out_5 : SV) (t9 : SV) (t10 : Int) (t11 : Int) (M : Mem) : Prop := pts [false, false, true, false, true, true] [k] [(0, .pointer a_0), (5, SV.v out_5), (9, SV.v t9), (10, .int .i64 t10), (11, .int .i64 t11)] M
def node_Items.pts (pr : Prim) (R : Value → Mem → Prop) : Pts := ptsR PP pr node_Items.h (retH pr Try.f69.results.toList R)
def node_Items.L1.T (pr : Prim) (pts : Pts) (k : Nat) (a_0 : Option Addr) (out_5 : SV) (t9 : SV) (t10 : Int) (t11 : Int) (R : Value → Mem → Prop) (M : Mem) : Prop := bs (decide (t11 < t10)) (nc t9.a fun a2 => (0 ≤ t11 ∧ t11 < ((t9.n : Nat) : Int)) ∧ ob (pr.ld 3 (a2.add (t11.toNat * 1)) M) fun v3 => shI .i64 v3 fun n4 => pr.call Id.arena_Arena_Cell #[.pointer a_0, .int .i64 n4, .int .i64 6] (fun v5 M6 => shI .i64 v5 fun n7 => bs ((n7 != (-1))) (pr.bsl 53 1 [(0, .int .i64 n7)] (fun v8 M9 => shS v8 fun s10 => pr.app #[53, 53] 53 [SV.v out_5, SV.v s10] (fun v11 M12 => shS v11 fun s13 => node_Items.L1 pts k a_0 s13 t9 t10 (w64 (t11 + 1)) M12) M9) M6) (node_Items.L1 pts k a_0 out_5 t9 t10 (w64 (t11 + 1)) M6)) M) (pr.call Id.slices_Sort_int_int #[SV.v out_5] (fun v14 M15 => R (SV.v out_5) M15) M)
theorem node_Items.L1.zero (pr : Prim) (a_0 : Option Addr) (out_5 : SV) (t9 : SV) (t10 : Int) (t11 : Int) (R : Value → Mem → Prop) (M : Mem) : node_Items.L1 (node_Items.pts pr R) 0 a_0 out_5 t9 t10 t11 M = False :=
  (ptsR_eq (b := false) (p := [false, true, false, true, true]) (ns := [0]) rfl _ _).trans (by kernel_rfl)
theorem node_Items.L1.eqX (pr : Prim) (pts : Pts) (k : Nat) (a_0 : Option Addr) (out_5 : SV) (t9 : SV) (t10 : Int) (t11 : Int) (R : Value → Mem → Prop) (M : Mem) : bodyX PP pr pts node_Items.h (retH pr Try.f69.results.toList R) [false, false, true, false, true, true] [k + 1] [(0, .pointer a_0), (5, SV.v out_5), (9, SV.v t9), (10, .int .i64 t10), (11, .int .i64 t11)] M = node_Items.L1.T pr pts k a_0 out_5 t9 t10 t11 R M := by kernel_rfl
theorem node_Items.L1.succ (pr : Prim) (k : Nat) (a_0 : Option Addr) (out_5 : SV) (t9 : SV) (t10 : Int) (t11 : Int) (R : Value → Mem → Prop) (M : Mem) : node_Items.L1 (node_Items.pts pr R) (k + 1) a_0 out_5 t9 t10 t11 M = node_Items.L1.T pr (node_Items.pts pr R) k a_0 out_5 t9 t10 t11 R M :=
  (ptsR_eq (b := false) (p := [false, true, false, true, true]) (ns := [k + 1]) rfl _ _).trans (node_Items.L1.eqX pr (node_Items.pts pr R) k a_0 out_5 t9 t10 t11 R M)
structure node_Items.Is (pr : Prim) (pts : Pts) (R : Value → Mem → Prop) : Prop where
  L1 : ∀ (k : Nat) (a_0 : Option Addr) (out_5 : SV) (t9 : SV) (t10 : Int) (t11 : Int) (M : Mem), node_Items.L1 pts (k + 1) a_0 out_5 t9 t10 t11 M = node_Items.L1.T pr pts k a_0 out_5 t9 t10 t11 R M
theorem node_Items.is (pr : Prim) (R : Value → Mem → Prop) : node_Items.Is pr (node_Items.pts pr R) R := ⟨fun k a_0 out_5 t9 t10 t11 M => node_Items.L1.succ pr k a_0 out_5 t9 t10 t11 R M⟩
def node_Items.T (pr : Prim) (pts : Pts) (a : Option Addr) (l : SV) (R : Value → Mem → Prop) (M : Mem) : Prop := ∃ k1, node_Items.L1 pts k1 a ⟨none, 0, 0⟩ l ((l.n : Nat) : Int) 0 M
theorem node_Items.eqX (pr : Prim) (pts : Pts) (a : Option Addr) (l : SV) (R : Value → Mem → Prop) (M : Mem) : wpX PP pr pts node_Items.h [] [] (retH pr Try.f69.results.toList R) (argEnv 0 [.pointer a, SV.v l]) M = node_Items.T pr pts a l R M := by kernel_rfl
theorem node_Items.eq (pr : Prim) (a : Option Addr) (l : SV) (R : Value → Mem → Prop) (M : Mem) : wpH PP pr node_Items.h (retH pr Try.f69.results.toList R) (argEnv 0 [.pointer a, SV.v l]) M = node_Items.T pr (node_Items.pts pr R) a l R M := root_eq.trans (node_Items.eqX pr (node_Items.pts pr R) a l R M)
theorem node_Items.fn : PP.funcs[Id.node_Items]? = some Try.f69 := Try.func69
theorem node_Items.can : callable PP Id.node_Items = true := by kernel_rfl
theorem node_Items.good : okH Try.f69.ntmps node_Items.h = true := by kernel_rfl
theorem node_Items.body : Try.f69.body = some ((Try.f69.body).getD .skip) := by kernel_rfl
theorem node_Items.size : (2 : Nat) ≤ Try.f69.ntmps := by decide
theorem node_Items.go (w0 : World) (a : Option Addr) (l : SV) {R : Value → Mem → Prop} {M : Mem} (h : ∀ pts, node_Items.Is (std PP w0) pts R → node_Items.T (std PP w0) pts a l R M) : C PP w0 Id.node_Items #[.pointer a, SV.v l] R M :=
  C_intro mixed node_Items.fn node_Items.body node_Items.can (annot_code _ _) node_Items.good node_Items.size ((node_Items.eq (std PP w0) a l R M).mpr (h _ (node_Items.is _ _)))
-- thicket/leftist.nodes
noncomputable def leftist_nodes.h : HC := annot ((Try.f70.body).getD .skip) []
def leftist_nodes.T (pr : Prim) (a : Option Addr) (r : Int) (R : Value → Mem → Prop) (M : Mem) : Prop := pr.nw [.pointer a] 28 (fun b1 M2 => ob (pr.ld 28 ⟨b1, 0, none⟩ M2) fun v3 => shP v3 fun p4 => pr.bsl 53 1 [(0, .int .i64 r)] (fun v5 M6 => shS v5 fun s7 => pr.call Id.node_Below #[.pointer p4, SV.v s7, .func (.func Id.leftist_nodes_1) #[] #[.pointer (some ⟨b1, 0, none⟩)]] (fun v8 M9 => shS v8 fun s10 => R (SV.v s10) M9) M6) M2) M
theorem leftist_nodes.eqX (pr : Prim) (pts : Pts) (a : Option Addr) (r : Int) (R : Value → Mem → Prop) (M : Mem) : wpX PP pr pts leftist_nodes.h [] [] (retH pr Try.f70.results.toList R) (argEnv 0 [.pointer a, .int .i64 r]) M = leftist_nodes.T pr a r R M := by kernel_rfl
theorem leftist_nodes.eq (pr : Prim) (a : Option Addr) (r : Int) (R : Value → Mem → Prop) (M : Mem) : wpH PP pr leftist_nodes.h (retH pr Try.f70.results.toList R) (argEnv 0 [.pointer a, .int .i64 r]) M = leftist_nodes.T pr a r R M := root_eq.trans (leftist_nodes.eqX pr (ptsR PP pr leftist_nodes.h (retH pr Try.f70.results.toList R)) a r R M)
theorem leftist_nodes.fn : PP.funcs[Id.leftist_nodes]? = some Try.f70 := Try.func70
theorem leftist_nodes.can : callable PP Id.leftist_nodes = true := by kernel_rfl
theorem leftist_nodes.good : okH Try.f70.ntmps leftist_nodes.h = true := by kernel_rfl
theorem leftist_nodes.body : Try.f70.body = some ((Try.f70.body).getD .skip) := by kernel_rfl
theorem leftist_nodes.size : (2 : Nat) ≤ Try.f70.ntmps := by decide
theorem leftist_nodes.go (w0 : World) (a : Option Addr) (r : Int) {R : Value → Mem → Prop} {M : Mem} (h : leftist_nodes.T (std PP w0) a r R M) : C PP w0 Id.leftist_nodes #[.pointer a, .int .i64 r] R M :=
  C_intro mixed leftist_nodes.fn leftist_nodes.body leftist_nodes.can (annot_code _ _) leftist_nodes.good leftist_nodes.size ((leftist_nodes.eq (std PP w0) a r R M).mpr h)
end Go.Proofs.Ytiejdmkobmphfaa.HL
