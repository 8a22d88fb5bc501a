/-
  Printed by gen.py (a program of this work) out of Lean's own print of the program: what each function's code comes to over the heap logic; each equation is checked by the kernel.
-/
import Derived.Test.YtmabiogngbkhhaaGenId
set_option linter.unusedVariables false
set_option maxRecDepth 100000
namespace Go.Proofs.Ytmabiogngbkhhaa.HL
open Go.Proofs
-- (*thicket/thicketlaw13.world).shape
noncomputable def thicketlaw13_world_shape.h : HC := annot ((Try.f51.body).getD .skip) []
def thicketlaw13_world_shape.T (pr : Prim) (w : Option Addr) (h_1 : Int) (R : Value → Mem → Prop) (M : Mem) : Prop := nc w fun a1 => (0 ≤ h_1 ∧ h_1 < ((2 : Nat) : Int)) ∧ ob (pr.ld 3 (Addr.add (Addr.add a1 1) (h_1.toNat * 1)) M) fun v2 => shI .i64 v2 fun n3 => bs ((n3 == (-1))) (nc w fun a4 => (0 ≤ h_1 ∧ h_1 < ((2 : Nat) : Int)) ∧ ob (pr.ld 30 (Addr.add (Addr.add a4 3) (h_1.toNat * 1)) M) fun v5 => shS v5 fun s6 => R (.bool ((((s6.n : Nat) : Int) == 0))) M) (nc w fun a7 => ob (pr.ld 28 a7 M) fun v8 => shP v8 fun p9 => pr.call Id.arena_Arena_Cell #[.pointer p9, .int .i64 n3, .int .i64 2] (fun v10 M11 => shI .i64 v10 fun n12 => bs ((n12 == (-1))) (nc w fun a13 => ob (pr.ld 28 a13 M11) fun v14 => shP v14 fun p15 => pr.call Id.arena_Arena_Cell #[.pointer p15, .int .i64 n3, .int .i64 3] (fun v16 M17 => shI .i64 v16 fun n18 => bs ((n18 == (-1))) (ob (pr.bld 58 []) fun v19 => shA v19 fun l20 => shCons l20 fun u21 r22 => shI .i64 u21 fun n23 => shCons r22 fun u24 r25 => shI .i64 u24 fun n26 => shCons r25 fun u27 r28 => shI .i64 u27 fun n29 => shNil r28 (nc w fun a30 => (0 ≤ h_1 ∧ h_1 < ((2 : Nat) : Int)) ∧ ob (pr.ld 30 (Addr.add (Addr.add a30 3) (h_1.toNat * 1)) M17) fun v31 => shS v31 fun s32 => pr.call Id.thicketlaw13_world_tree #[.pointer w, .int .i64 h_1, .int .i64 n3, .int .i64 (-1), .agg #[.int .i64 n23, .int .i64 n26, .int .i64 n29], .bool true] (fun v33 M34 => shI .i64 v33 fun n35 => (pr.ld 30 (Addr.add (Addr.add a30 3) (h_1.toNat * 1)) M34 = some (SV.v s32)) ∧ R (.bool ((n35 == ((s32.n : Nat) : Int)))) M34) M17)) (R (.bool false) M17)) M11) (R (.bool false) M11)) M)
theorem thicketlaw13_world_shape.eqX (pr : Prim) (pts : Pts) (w : Option Addr) (h_1 : Int) (R : Value → Mem → Prop) (M : Mem) : wpX PP pr pts thicketlaw13_world_shape.h [] [] (retH pr Try.f51.results.toList R) (argEnv 0 [.pointer w, .int .i64 h_1]) M = thicketlaw13_world_shape.T pr w h_1 R M := by kernel_rfl
theorem thicketlaw13_world_shape.eq (pr : Prim) (w : Option Addr) (h_1 : Int) (R : Value → Mem → Prop) (M : Mem) : wpH PP pr thicketlaw13_world_shape.h (retH pr Try.f51.results.toList R) (argEnv 0 [.pointer w, .int .i64 h_1]) M = thicketlaw13_world_shape.T pr w h_1 R M := root_eq.trans (thicketlaw13_world_shape.eqX pr (ptsR PP pr thicketlaw13_world_shape.h (retH pr Try.f51.results.toList R)) w h_1 R M)
theorem thicketlaw13_world_shape.fn : PP.funcs[Id.thicketlaw13_world_shape]? = some Try.f51 := Try.func51
theorem thicketlaw13_world_shape.can : callable PP Id.thicketlaw13_world_shape = true := by kernel_rfl
theorem thicketlaw13_world_shape.good : okH Try.f51.ntmps thicketlaw13_world_shape.h = true := by kernel_rfl
theorem thicketlaw13_world_shape.body : Try.f51.body = some ((Try.f51.body).getD .skip) := by kernel_rfl
theorem thicketlaw13_world_shape.size : (2 : Nat) ≤ Try.f51.ntmps := by decide
theorem thicketlaw13_world_shape.go (w0 : World) (w : Option Addr) (h_1 : Int) {R : Value → Mem → Prop} {M : Mem} (h : thicketlaw13_world_shape.T (std PP w0) w h_1 R M) : C PP w0 Id.thicketlaw13_world_shape #[.pointer w, .int .i64 h_1] R M :=
  C_intro mixed thicketlaw13_world_shape.fn thicketlaw13_world_shape.body thicketlaw13_world_shape.can (annot_code _ _) thicketlaw13_world_shape.good thicketlaw13_world_shape.size ((thicketlaw13_world_shape.eq (std PP w0) w h_1 R M).mpr h)
-- thicket/pairing.Meld
noncomputable def pairing_Meld.h : HC := annot ((Try.f52.body).getD .skip) []
def pairing_Meld.T (pr : Prim) (a : Option Addr) (r : Int) (s : Int) (R : Value → Mem → Prop) (M : Mem) : Prop := ob (pr.bq .eql 28 (.tmp 7) (.const (.pointer none)) (.pointer a) (.pointer none)) fun v1 => shB v1 fun b2 => bs b2 (R (.int .i64 (-1)) M) (pr.call Id.pairing_link #[.pointer a, .int .i64 r, .int .i64 s] (fun v3 M4 => shI .i64 v3 fun n5 => R (.int .i64 n5) M4) M)
theorem pairing_Meld.eqX (pr : Prim) (pts : Pts) (a : Option Addr) (r : Int) (s : Int) (R : Value → Mem → Prop) (M : Mem) : wpX PP pr pts pairing_Meld.h [] [] (retH pr Try.f52.results.toList R) (argEnv 0 [.pointer a, .int .i64 r, .int .i64 s]) M = pairing_Meld.T pr a r s R M := by kernel_rfl
theorem pairing_Meld.eq (pr : Prim) (a : Option Addr) (r : Int) (s : Int) (R : Value → Mem → Prop) (M : Mem) : wpH PP pr pairing_Meld.h (retH pr Try.f52.results.toList R) (argEnv 0 [.pointer a, .int .i64 r, .int .i64 s]) M = pairing_Meld.T pr a r s R M := root_eq.trans (pairing_Meld.eqX pr (ptsR PP pr pairing_Meld.h (retH pr Try.f52.results.toList R)) a r s R M)
theorem pairing_Meld.fn : PP.funcs[Id.pairing_Meld]? = some Try.f52 := Try.func52
theorem pairing_Meld.can : callable PP Id.pairing_Meld = true := by kernel_rfl
theorem pairing_Meld.good : okH Try.f52.ntmps pairing_Meld.h = true := by kernel_rfl
theorem pairing_Meld.body : Try.f52.body = some ((Try.f52.body).getD .skip) := by kernel_rfl
theorem pairing_Meld.size : (3 : Nat) ≤ Try.f52.ntmps := by decide
theorem pairing_Meld.go (w0 : World) (a : Option Addr) (r : Int) (s : Int) {R : Value → Mem → Prop} {M : Mem} (h : pairing_Meld.T (std PP w0) a r s R M) : C PP w0 Id.pairing_Meld #[.pointer a, .int .i64 r, .int .i64 s] R M :=
  C_intro mixed pairing_Meld.fn pairing_Meld.body pairing_Meld.can (annot_code _ _) pairing_Meld.good pairing_Meld.size ((pairing_Meld.eq (std PP w0) a r s R M).mpr h)
-- thicket/item.Lower
noncomputable def item_Lower.h : HC := annot ((Try.f53.body).getD .skip) []
def item_Lower.T (pr : Prim) (a : Option Addr) (i : Int) (key : Int) (R : Value → Mem → Prop) (M : Mem) : Prop := ob (pr.bq .eql 28 (.tmp 7) (.const (.pointer none)) (.pointer a) (.pointer none)) fun v1 => shB v1 fun b2 => bs b2 (R (.bool false) M) (pr.call Id.arena_Arena_Get #[.pointer a, .int .i64 i, .int .i64 7] (fun v3 M4 => shI .i64 v3 fun n5 => bs (decide (key > n5)) (R (.bool false) M4) (pr.call Id.arena_Arena_Set #[.pointer a, .int .i64 i, .int .i64 7, .int .i64 key] (fun v6 M7 => shB v6 fun b8 => R (.bool b8) M7) M4)) M)
theorem item_Lower.eqX (pr : Prim) (pts : Pts) (a : Option Addr) (i : Int) (key : Int) (R : Value → Mem → Prop) (M : Mem) : wpX PP pr pts item_Lower.h [] [] (retH pr Try.f53.results.toList R) (argEnv 0 [.pointer a, .int .i64 i, .int .i64 key]) M = item_Lower.T pr a i key R M := by kernel_rfl
theorem item_Lower.eq (pr : Prim) (a : Option Addr) (i : Int) (key : Int) (R : Value → Mem → Prop) (M : Mem) : wpH PP pr item_Lower.h (retH pr Try.f53.results.toList R) (argEnv 0 [.pointer a, .int .i64 i, .int .i64 key]) M = item_Lower.T pr a i key R M := root_eq.trans (item_Lower.eqX pr (ptsR PP pr item_Lower.h (retH pr Try.f53.results.toList R)) a i key R M)
theorem item_Lower.fn : PP.funcs[Id.item_Lower]? = some Try.f53 := Try.func53
theorem item_Lower.can : callable PP Id.item_Lower = true := by kernel_rfl
theorem item_Lower.good : okH Try.f53.ntmps item_Lower.h = true := by kernel_rfl
theorem item_Lower.body : Try.f53.body = some ((Try.f53.body).getD .skip) := by kernel_rfl
theorem item_Lower.size : (3 : Nat) ≤ Try.f53.ntmps := by decide
theorem item_Lower.go (w0 : World) (a : Option Addr) (i : Int) (key : Int) {R : Value → Mem → Prop} {M : Mem} (h : item_Lower.T (std PP w0) a i key R M) : C PP w0 Id.item_Lower #[.pointer a, .int .i64 i, .int .i64 key] R M :=
  C_intro mixed item_Lower.fn item_Lower.body item_Lower.can (annot_code _ _) item_Lower.good item_Lower.size ((item_Lower.eq (std PP w0) a i key R M).mpr h)
-- thicket/pairing.Fall
noncomputable def pairing_Fall.h : HC := annot ((Try.f54.body).getD .skip) [([true, true, true], [0, 1, 7])]
abbrev pairing_Fall.J1 (pts : Pts) (a_0 : Option Addr) (r_1 : Int) (n_7 : Int) (M : Mem) : Prop := pts [true, true, true, true] [] [(0, .pointer a_0), (1, .int .i64 r_1), (7, .int .i64 n_7)] M
def pairing_Fall.pts (pr : Prim) (R : Value → Mem → Prop) : Pts := ptsR PP pr pairing_Fall.h (retH pr Try.f54.results.toList R)
def pairing_Fall.J1.T (pr : Prim) (pts : Pts) (a_0 : Option Addr) (r_1 : Int) (n_7 : Int) (R : Value → Mem → Prop) (M : Mem) : Prop := pr.call Id.pairing_leave #[.pointer a_0, .int .i64 n_7] (fun v9 M10 => pr.call Id.pairing_link #[.pointer a_0, .int .i64 r_1, .int .i64 n_7] (fun v11 M12 => shI .i64 v11 fun n13 => R (.int .i64 n13) M12) M10) M
theorem pairing_Fall.J1.eqX (pr : Prim) (pts : Pts) (a_0 : Option Addr) (r_1 : Int) (n_7 : Int) (R : Value → Mem → Prop) (M : Mem) : bodyX PP pr pts pairing_Fall.h (retH pr Try.f54.results.toList R) [true, true, true, true] [] [(0, .pointer a_0), (1, .int .i64 r_1), (7, .int .i64 n_7)] M = pairing_Fall.J1.T pr pts a_0 r_1 n_7 R M := by kernel_rfl
theorem pairing_Fall.J1.eq (pr : Prim) (a_0 : Option Addr) (r_1 : Int) (n_7 : Int) (R : Value → Mem → Prop) (M : Mem) : pairing_Fall.J1 (pairing_Fall.pts pr R) a_0 r_1 n_7 M = pairing_Fall.J1.T pr (pairing_Fall.pts pr R) a_0 r_1 n_7 R M :=
  (ptsR_eq (b := true) (p := [true, true, true]) (ns := []) rfl _ _).trans (pairing_Fall.J1.eqX pr (pairing_Fall.pts pr R) a_0 r_1 n_7 R M)
structure pairing_Fall.Is (pr : Prim) (pts : Pts) (R : Value → Mem → Prop) : Prop where
  J1 : ∀ (a_0 : Option Addr) (r_1 : Int) (n_7 : Int) (M : Mem), pairing_Fall.J1 pts a_0 r_1 n_7 M = pairing_Fall.J1.T pr pts a_0 r_1 n_7 R M
theorem pairing_Fall.is (pr : Prim) (R : Value → Mem → Prop) : pairing_Fall.Is pr (pairing_Fall.pts pr R) R := ⟨fun a_0 r_1 n_7 M => pairing_Fall.J1.eq pr a_0 r_1 n_7 R M⟩
def pairing_Fall.T (pr : Prim) (pts : Pts) (a : Option Addr) (r : Int) (i : Int) (R : Value → Mem → Prop) (M : Mem) : Prop := ob (pr.bq .eql 28 (.tmp 8) (.const (.pointer none)) (.pointer a) (.pointer none)) fun v1 => shB v1 fun b2 => bs b2 (R (.int .i64 (-1)) M) (pr.call Id.item_Node #[.pointer a, .int .i64 i] (fun v3 M4 => shI .i64 v3 fun n5 => bs ((n5 == (-1))) (R (.int .i64 r) M4) (bs ((n5 == r)) (R (.int .i64 r) M4) (pr.call Id.arena_Arena_Cell #[.pointer a, .int .i64 n5, .int .i64 0] (fun v6 M7 => shI .i64 v6 fun n8 => bs ((n8 == (-1))) (R (.int .i64 r) M7) (pairing_Fall.J1 pts a r n5 M7)) M4))) M)
theorem pairing_Fall.eqX (pr : Prim) (pts : Pts) (a : Option Addr) (r : Int) (i : Int) (R : Value → Mem → Prop) (M : Mem) : wpX PP pr pts pairing_Fall.h [] [] (retH pr Try.f54.results.toList R) (argEnv 0 [.pointer a, .int .i64 r, .int .i64 i]) M = pairing_Fall.T pr pts a r i R M := by kernel_rfl
theorem pairing_Fall.eq (pr : Prim) (a : Option Addr) (r : Int) (i : Int) (R : Value → Mem → Prop) (M : Mem) : wpH PP pr pairing_Fall.h (retH pr Try.f54.results.toList R) (argEnv 0 [.pointer a, .int .i64 r, .int .i64 i]) M = pairing_Fall.T pr (pairing_Fall.pts pr R) a r i R M := root_eq.trans (pairing_Fall.eqX pr (pairing_Fall.pts pr R) a r i R M)
theorem pairing_Fall.fn : PP.funcs[Id.pairing_Fall]? = some Try.f54 := Try.func54
theorem pairing_Fall.can : callable PP Id.pairing_Fall = true := by kernel_rfl
theorem pairing_Fall.good : okH Try.f54.ntmps pairing_Fall.h = true := by kernel_rfl
theorem pairing_Fall.body : Try.f54.body = some ((Try.f54.body).getD .skip) := by kernel_rfl
theorem pairing_Fall.size : (3 : Nat) ≤ Try.f54.ntmps := by decide
theorem pairing_Fall.go (w0 : World) (a : Option Addr) (r : Int) (i : Int) {R : Value → Mem → Prop} {M : Mem} (h : ∀ pts, pairing_Fall.Is (std PP w0) pts R → pairing_Fall.T (std PP w0) pts a r i R M) : C PP w0 Id.pairing_Fall #[.pointer a, .int .i64 r, .int .i64 i] R M :=
  C_intro mixed pairing_Fall.fn pairing_Fall.body pairing_Fall.can (annot_code _ _) pairing_Fall.good pairing_Fall.size ((pairing_Fall.eq (std PP w0) a r i R M).mpr (h _ (pairing_Fall.is _ _)))
-- (*thicket/arena.Arena).Cell
noncomputable def arena_Arena_Cell.h : HC := annot ((Try.f55.body).getD .skip) []
def arena_Arena_Cell.T (pr : Prim) (a : Option Addr) (c : Int) (field : Int) (R : Value → Mem → Prop) (M : Mem) : Prop := pr.call Id.arena_Arena_Get #[.pointer a, .int .i64 c, .int .i64 field] (fun v1 M2 => shI .i64 v1 fun n3 => bs (decide (n3 < 0)) (R (.int .i64 (-1)) M2) (nc a fun a4 => ob (pr.ld 71 a4 M2) fun v5 => shS v5 fun s6 => bs (decide (n3 ≥ ((s6.n : Nat) : Int))) (R (.int .i64 (-1)) M2) (R (.int .i64 n3) M2))) M
theorem arena_Arena_Cell.eqX (pr : Prim) (pts : Pts) (a : Option Addr) (c : Int) (field : Int) (R : Value → Mem → Prop) (M : Mem) : wpX PP pr pts arena_Arena_Cell.h [] [] (retH pr Try.f55.results.toList R) (argEnv 0 [.pointer a, .int .i64 c, .int .i64 field]) M = arena_Arena_Cell.T pr a c field R M := by kernel_rfl
theorem arena_Arena_Cell.eq (pr : Prim) (a : Option Addr) (c : Int) (field : Int) (R : Value → Mem → Prop) (M : Mem) : wpH PP pr arena_Arena_Cell.h (retH pr Try.f55.results.toList R) (argEnv 0 [.pointer a, .int .i64 c, .int .i64 field]) M = arena_Arena_Cell.T pr a c field R M := root_eq.trans (arena_Arena_Cell.eqX pr (ptsR PP pr arena_Arena_Cell.h (retH pr Try.f55.results.toList R)) a c field R M)
theorem arena_Arena_Cell.fn : PP.funcs[Id.arena_Arena_Cell]? = some Try.f55 := Try.func55
theorem arena_Arena_Cell.can : callable PP Id.arena_Arena_Cell = true := by kernel_rfl
theorem arena_Arena_Cell.good : okH Try.f55.ntmps arena_Arena_Cell.h = true := by kernel_rfl
theorem arena_Arena_Cell.body : Try.f55.body = some ((Try.f55.body).getD .skip) := by kernel_rfl
theorem arena_Arena_Cell.size : (3 : Nat) ≤ Try.f55.ntmps := by decide
theorem arena_Arena_Cell.go (w0 : World) (a : Option Addr) (c : Int) (field : Int) {R : Value → Mem → Prop} {M : Mem} (h : arena_Arena_Cell.T (std PP w0) a c field R M) : C PP w0 Id.arena_Arena_Cell #[.pointer a, .int .i64 c, .int .i64 field] R M :=
  C_intro mixed arena_Arena_Cell.fn arena_Arena_Cell.body arena_Arena_Cell.can (annot_code _ _) arena_Arena_Cell.good arena_Arena_Cell.size ((arena_Arena_Cell.eq (std PP w0) a c field R M).mpr h)
-- thicket/pairing.Cut
noncomputable def pairing_Cut.h : HC := annot ((Try.f56.body).getD .skip) [([true, true, true, true], [0, 1, 7])]
abbrev pairing_Cut.J1 (pts : Pts) (a_0 : Option Addr) (r_1 : Int) (n_7 : Int) (M : Mem) : Prop := pts [true, true, true, true, true] [] [(0, .pointer a_0), (1, .int .i64 r_1), (7, .int .i64 n_7)] M
def pairing_Cut.pts (pr : Prim) (R : Value → Mem → Prop) : Pts := ptsR PP pr pairing_Cut.h (retH pr Try.f56.results.toList R)
def pairing_Cut.J1.T (pr : Prim) (pts : Pts) (a_0 : Option Addr) (r_1 : Int) (n_7 : Int) (R : Value → Mem → Prop) (M : Mem) : Prop := pr.call Id.pairing_leave #[.pointer a_0, .int .i64 n_7] (fun v27 M28 => pr.call Id.pairing_pop #[.pointer a_0, .int .i64 n_7] (fun v29 M30 => shT v29 fun l31 => shCons l31 fun u32 r33 => shI .i64 u32 fun n34 => shCons r33 fun u35 r36 => shI .i64 u35 fun n37 => shNil r36 (pr.call Id.pairing_link #[.pointer a_0, .int .i64 r_1, .int .i64 n34] (fun v38 M39 => shI .i64 v38 fun n40 => R (.int .i64 n40) M39) M30)) M28) M
theorem pairing_Cut.J1.eqX (pr : Prim) (pts : Pts) (a_0 : Option Addr) (r_1 : Int) (n_7 : Int) (R : Value → Mem → Prop) (M : Mem) : bodyX PP pr pts pairing_Cut.h (retH pr Try.f56.results.toList R) [true, true, true, true, true] [] [(0, .pointer a_0), (1, .int .i64 r_1), (7, .int .i64 n_7)] M = pairing_Cut.J1.T pr pts a_0 r_1 n_7 R M := by kernel_rfl
theorem pairing_Cut.J1.eq (pr : Prim) (a_0 : Option Addr) (r_1 : Int) (n_7 : Int) (R : Value → Mem → Prop) (M : Mem) : pairing_Cut.J1 (pairing_Cut.pts pr R) a_0 r_1 n_7 M = pairing_Cut.J1.T pr (pairing_Cut.pts pr R) a_0 r_1 n_7 R M :=
  (ptsR_eq (b := true) (p := [true, true, true, true]) (ns := []) rfl _ _).trans (pairing_Cut.J1.eqX pr (pairing_Cut.pts pr R) a_0 r_1 n_7 R M)
structure pairing_Cut.Is (pr : Prim) (pts : Pts) (R : Value → Mem → Prop) : Prop where
  J1 : ∀ (a_0 : Option Addr) (r_1 : Int) (n_7 : Int) (M : Mem), pairing_Cut.J1 pts a_0 r_1 n_7 M = pairing_Cut.J1.T pr pts a_0 r_1 n_7 R M
theorem pairing_Cut.is (pr : Prim) (R : Value → Mem → Prop) : pairing_Cut.Is pr (pairing_Cut.pts pr R) R := ⟨fun a_0 r_1 n_7 M => pairing_Cut.J1.eq pr a_0 r_1 n_7 R M⟩
def pairing_Cut.T (pr : Prim) (pts : Pts) (a : Option Addr) (r : Int) (i : Int) (R : Value → Mem → Prop) (M : Mem) : Prop := ob (pr.bq .eql 28 (.tmp 12) (.const (.pointer none)) (.pointer a) (.pointer none)) fun v1 => shB v1 fun b2 => bs b2 (R (.int .i64 (-1)) M) (pr.call Id.item_Node #[.pointer a, .int .i64 i] (fun v3 M4 => shI .i64 v3 fun n5 => bs ((n5 == (-1))) (R (.int .i64 r) M4) (bs ((n5 == r)) (pr.call Id.pairing_pop #[.pointer a, .int .i64 n5] (fun v6 M7 => shT v6 fun l8 => shCons l8 fun u9 r10 => shI .i64 u9 fun n11 => shCons r10 fun u12 r13 => shI .i64 u12 fun n14 => shNil r13 (R (.int .i64 n11) M7)) M4) (pr.call Id.arena_Arena_Cell #[.pointer a, .int .i64 n5, .int .i64 0] (fun v15 M16 => shI .i64 v15 fun n17 => bs ((n17 == (-1))) (pr.call Id.pairing_pop #[.pointer a, .int .i64 n5] (fun v18 M19 => shT v18 fun l20 => shCons l20 fun u21 r22 => shI .i64 u21 fun n23 => shCons r22 fun u24 r25 => shI .i64 u24 fun n26 => shNil r25 (R (.int .i64 n23) M19)) M16) (pairing_Cut.J1 pts a r n5 M16)) M4))) M)
theorem pairing_Cut.eqX (pr : Prim) (pts : Pts) (a : Option Addr) (r : Int) (i : Int) (R : Value → Mem → Prop) (M : Mem) : wpX PP pr pts pairing_Cut.h [] [] (retH pr Try.f56.results.toList R) (argEnv 0 [.pointer a, .int .i64 r, .int .i64 i]) M = pairing_Cut.T pr pts a r i R M := by kernel_rfl
theorem pairing_Cut.eq (pr : Prim) (a : Option Addr) (r : Int) (i : Int) (R : Value → Mem → Prop) (M : Mem) : wpH PP pr pairing_Cut.h (retH pr Try.f56.results.toList R) (argEnv 0 [.pointer a, .int .i64 r, .int .i64 i]) M = pairing_Cut.T pr (pairing_Cut.pts pr R) a r i R M := root_eq.trans (pairing_Cut.eqX pr (pairing_Cut.pts pr R) a r i R M)
theorem pairing_Cut.fn : PP.funcs[Id.pairing_Cut]? = some Try.f56 := Try.func56
theorem pairing_Cut.can : callable PP Id.pairing_Cut = true := by kernel_rfl
theorem pairing_Cut.good : okH Try.f56.ntmps pairing_Cut.h = true := by kernel_rfl
theorem pairing_Cut.body : Try.f56.body = some ((Try.f56.body).getD .skip) := by kernel_rfl
theorem pairing_Cut.size : (3 : Nat) ≤ Try.f56.ntmps := by decide
theorem pairing_Cut.go (w0 : World) (a : Option Addr) (r : Int) (i : Int) {R : Value → Mem → Prop} {M : Mem} (h : ∀ pts, pairing_Cut.Is (std PP w0) pts R → pairing_Cut.T (std PP w0) pts a r i R M) : C PP w0 Id.pairing_Cut #[.pointer a, .int .i64 r, .int .i64 i] R M :=
  C_intro mixed pairing_Cut.fn pairing_Cut.body pairing_Cut.can (annot_code _ _) pairing_Cut.good pairing_Cut.size ((pairing_Cut.eq (std PP w0) a r i R M).mpr (h _ (pairing_Cut.is _ _)))
-- thicket/pairing.Drop
noncomputable def pairing_Drop.h : HC := annot ((Try.f57.body).getD .skip) []
def pairing_Drop.T (pr : Prim) (a : Option Addr) (r : Int) (R : Value → Mem → Prop) (M : Mem) : Prop := ob (pr.bq .eql 28 (.tmp 5) (.const (.pointer none)) (.pointer a) (.pointer none)) fun v1 => shB v1 fun b2 => bs b2 (R (.slice none 0 0) M) (pr.call Id.pairing_nodes #[.pointer a, .int .i64 r] (fun v3 M4 => shS v3 fun s5 => pr.call Id.node_Drop #[.pointer a, SV.v s5] (fun v6 M7 => shS v6 fun s8 => R (SV.v s8) M7) M4) M)
theorem pairing_Drop.eqX (pr : Prim) (pts : Pts) (a : Option Addr) (r : Int) (R : Value → Mem → Prop) (M : Mem) : wpX PP pr pts pairing_Drop.h [] [] (retH pr Try.f57.results.toList R) (argEnv 0 [.pointer a, .int .i64 r]) M = pairing_Drop.T pr a r R M := by kernel_rfl
theorem pairing_Drop.eq (pr : Prim) (a : Option Addr) (r : Int) (R : Value → Mem → Prop) (M : Mem) : wpH PP pr pairing_Drop.h (retH pr Try.f57.results.toList R) (argEnv 0 [.pointer a, .int .i64 r]) M = pairing_Drop.T pr a r R M := root_eq.trans (pairing_Drop.eqX pr (ptsR PP pr pairing_Drop.h (retH pr Try.f57.results.toList R)) a r R M)
theorem pairing_Drop.fn : PP.funcs[Id.pairing_Drop]? = some Try.f57 := Try.func57
theorem pairing_Drop.can : callable PP Id.pairing_Drop = true := by kernel_rfl
theorem pairing_Drop.good : okH Try.f57.ntmps pairing_Drop.h = true := by kernel_rfl
theorem pairing_Drop.body : Try.f57.body = some ((Try.f57.body).getD .skip) := by kernel_rfl
theorem pairing_Drop.size : (2 : Nat) ≤ Try.f57.ntmps := by decide
theorem pairing_Drop.go (w0 : World) (a : Option Addr) (r : Int) {R : Value → Mem → Prop} {M : Mem} (h : pairing_Drop.T (std PP w0) a r R M) : C PP w0 Id.pairing_Drop #[.pointer a, .int .i64 r] R M :=
  C_intro mixed pairing_Drop.fn pairing_Drop.body pairing_Drop.can (annot_code _ _) pairing_Drop.good pairing_Drop.size ((pairing_Drop.eq (std PP w0) a r R M).mpr h)
-- thicket/meter.New
noncomputable def meter_New.h : HC := annot ((Try.f58.body).getD .skip) []
def meter_New.T (pr : Prim) (R : Value → Mem → Prop) (M : Mem) : Prop := ob (pr.bld 75 []) fun v1 => shA v1 fun l2 => shCons l2 fun u3 r4 => shI .i64 u3 fun n5 => shCons r4 fun u6 r7 => shI .i64 u6 fun n8 => shCons r7 fun u9 r10 => shI .i64 u9 fun n11 => shNil r10 (pr.nw [.int .i64 n5, .int .i64 n8, .int .i64 n11] 75 (fun b12 M13 => R (.pointer (some ⟨b12, 0, none⟩)) M13) M)
theorem meter_New.eqX (pr : Prim) (pts : Pts) (R : Value → Mem → Prop) (M : Mem) : wpX PP pr pts meter_New.h [] [] (retH pr Try.f58.results.toList R) (argEnv 0 []) M = meter_New.T pr R M := by kernel_rfl
theorem meter_New.eq (pr : Prim) (R : Value → Mem → Prop) (M : Mem) : wpH PP pr meter_New.h (retH pr Try.f58.results.toList R) (argEnv 0 []) M = meter_New.T pr R M := root_eq.trans (meter_New.eqX pr (ptsR PP pr meter_New.h (retH pr Try.f58.results.toList R)) R M)
theorem meter_New.fn : PP.funcs[Id.meter_New]? = some Try.f58 := Try.func58
theorem meter_New.can : callable PP Id.meter_New = true := by kernel_rfl
theorem meter_New.good : okH Try.f58.ntmps meter_New.h = true := by kernel_rfl
theorem meter_New.body : Try.f58.body = some ((Try.f58.body).getD .skip) := by kernel_rfl
theorem meter_New.size : (0 : Nat) ≤ Try.f58.ntmps := by decide
theorem meter_New.go (w0 : World) {R : Value → Mem → Prop} {M : Mem} (h : meter_New.T (std PP w0) R M) : C PP w0 Id.meter_New #[] R M :=
  C_intro mixed meter_New.fn meter_New.body meter_New.can (annot_code _ _) meter_New.good meter_New.size ((meter_New.eq (std PP w0) R M).mpr h)
-- thicket/arena.fresh
noncomputable def arena_fresh.h : HC := annot ((Try.f59.body).getD .skip) [([true, true, false, true, false], [0, 1, 5, 6, 7])]
abbrev arena_fresh.L1 (pts : Pts) (k : Nat) (t0 : Addr) (x_1 : Addr) (t5 : SV) (t6 : Int) (t7 : Int) (M : Mem) : Prop := pts [false, false, true, false, true, true] [k] [(0, .pointer (some t0)), (1, .pointer (some x_1)), (5, SV.v t5), (6, .int .i64 t6), (7, .int .i64 t7)] M
def arena_fresh.pts (pr : Prim) (R : Value → Mem → Prop) : Pts := ptsR PP pr arena_fresh.h (retH pr Try.f59.results.toList R)
def arena_fresh.L1.T (pr : Prim) (pts : Pts) (k : Nat) (t0 : Addr) (x_1 : Addr) (t5 : SV) (t6 : Int) (t7 : Int) (R : Value → Mem → Prop) (M : Mem) : Prop := bs (decide (t7 < t6)) (nc t5.a fun a45 => (0 ≤ t7 ∧ t7 < ((t5.n : Nat) : Int)) ∧ ob (pr.ld 3 (a45.add (t7.toNat * 1)) M) fun v46 => shI .i64 v46 fun n47 => (0 ≤ n47 ∧ n47 < ((10 : Nat) : Int)) ∧ pr.st 2 (Addr.add x_1 (n47.toNat * 1)) (.int .i64 (-1)) (fun M48 => arena_fresh.L1 pts k t0 x_1 t5 t6 (w64 (t7 + 1)) M48) M) (ob (pr.ld 83 x_1 M) fun v49 => shA v49 fun l50 => shCons l50 fun u51 r52 => shI .i64 u51 fun n53 => shCons r52 fun u54 r55 => shI .i64 u54 fun n56 => shCons r55 fun u57 r58 => shI .i64 u57 fun n59 => shCons r58 fun u60 r61 => shI .i64 u60 fun n62 => shCons r61 fun u63 r64 => shI .i64 u63 fun n65 => shCons r64 fun u66 r67 => shI .i64 u66 fun n68 => shCons r67 fun u69 r70 => shI .i64 u69 fun n71 => shCons r70 fun u72 r73 => shI .i64 u72 fun n74 => shCons r73 fun u75 r76 => shI .i64 u75 fun n77 => shCons r76 fun u78 r79 => shI .i64 u78 fun n80 => shCons r79 fun u81 r82 => shB u81 fun b83 => shNil r82 (pr.st 83 t0 (.agg #[.int .i64 n53, .int .i64 n56, .int .i64 n59, .int .i64 n62, .int .i64 n65, .int .i64 n68, .int .i64 n71, .int .i64 n74, .int .i64 n77, .int .i64 n80, .bool b83]) (fun M84 => ob (pr.rdv 83 (.pointer (some t0)) M84) fun v85 => R v85 M84) M))
theorem arena_fresh.L1.zero (pr : Prim) (t0 : Addr) (x_1 : Addr) (t5 : SV) (t6 : Int) (t7 : Int) (R : Value → Mem → Prop) (M : Mem) : arena_fresh.L1 (arena_fresh.pts pr R) 0 t0 x_1 t5 t6 t7 M = False :=
  (ptsR_eq (b := false) (p := [false, true, false, true, true]) (ns := [0]) rfl _ _).trans (by kernel_rfl)
theorem arena_fresh.L1.eqX (pr : Prim) (pts : Pts) (k : Nat) (t0 : Addr) (x_1 : Addr) (t5 : SV) (t6 : Int) (t7 : Int) (R : Value → Mem → Prop) (M : Mem) : bodyX PP pr pts arena_fresh.h (retH pr Try.f59.results.toList R) [false, false, true, false, true, true] [k + 1] [(0, .pointer (some t0)), (1, .pointer (some x_1)), (5, SV.v t5), (6, .int .i64 t6), (7, .int .i64 t7)] M = arena_fresh.L1.T pr pts k t0 x_1 t5 t6 t7 R M := by kernel_rfl
theorem arena_fresh.L1.succ (pr : Prim) (k : Nat) (t0 : Addr) (x_1 : Addr) (t5 : SV) (t6 : Int) (t7 : Int) (R : Value → Mem → Prop) (M : Mem) : arena_fresh.L1 (arena_fresh.pts pr R) (k + 1) t0 x_1 t5 t6 t7 M = arena_fresh.L1.T pr (arena_fresh.pts pr R) k t0 x_1 t5 t6 t7 R M :=
  (ptsR_eq (b := false) (p := [false, true, false, true, true]) (ns := [k + 1]) rfl _ _).trans (arena_fresh.L1.eqX pr (arena_fresh.pts pr R) k t0 x_1 t5 t6 t7 R M)
structure arena_fresh.Is (pr : Prim) (pts : Pts) (R : Value → Mem → Prop) : Prop where
  L1 : ∀ (k : Nat) (t0 : Addr) (x_1 : Addr) (t5 : SV) (t6 : Int) (t7 : Int) (M : Mem), arena_fresh.L1 pts (k + 1) t0 x_1 t5 t6 t7 M = arena_fresh.L1.T pr pts k t0 x_1 t5 t6 t7 R M
theorem arena_fresh.is (pr : Prim) (R : Value → Mem → Prop) : arena_fresh.Is pr (arena_fresh.pts pr R) R := ⟨fun k t0 x_1 t5 t6 t7 M => arena_fresh.L1.succ pr k t0 x_1 t5 t6 t7 R M⟩
def arena_fresh.T (pr : Prim) (pts : Pts) (R : Value → Mem → Prop) (M : Mem) : Prop := pr.nw [.int .i64 0, .int .i64 0, .int .i64 0, .int .i64 0, .int .i64 0, .int .i64 0, .int .i64 0, .int .i64 0, .int .i64 0, .int .i64 0, .bool false] 83 (fun b1 M2 => ob (pr.bld 83 [(1, .bool true)]) fun v3 => shA v3 fun l4 => shCons l4 fun u5 r6 => shI .i64 u5 fun n7 => shCons r6 fun u8 r9 => shI .i64 u8 fun n10 => shCons r9 fun u11 r12 => shI .i64 u11 fun n13 => shCons r12 fun u14 r15 => shI .i64 u14 fun n16 => shCons r15 fun u17 r18 => shI .i64 u17 fun n19 => shCons r18 fun u20 r21 => shI .i64 u20 fun n22 => shCons r21 fun u23 r24 => shI .i64 u23 fun n25 => shCons r24 fun u26 r27 => shI .i64 u26 fun n28 => shCons r27 fun u29 r30 => shI .i64 u29 fun n31 => shCons r30 fun u32 r33 => shI .i64 u32 fun n34 => shCons r33 fun u35 r36 => shB u35 fun b37 => shNil r36 (pr.nw [.int .i64 0, .int .i64 0, .int .i64 0, .int .i64 0, .int .i64 0, .int .i64 0, .int .i64 0, .int .i64 0, .int .i64 0, .int .i64 0, .bool false] 83 (fun b38 M39 => pr.st 83 ⟨b38, 0, none⟩ (.agg #[.int .i64 n7, .int .i64 n10, .int .i64 n13, .int .i64 n16, .int .i64 n19, .int .i64 n22, .int .i64 n25, .int .i64 n28, .int .i64 n31, .int .i64 n34, .bool b37]) (fun M40 => pr.bsl 53 6 [(0, .int .i64 0), (1, .int .i64 1), (2, .int .i64 2), (3, .int .i64 3), (4, .int .i64 6), (5, .int .i64 9)] (fun v41 M42 => shS v41 fun s43 => ∃ k44, arena_fresh.L1 pts k44 ⟨b1, 0, none⟩ ⟨b38, 0, none⟩ s43 ((s43.n : Nat) : Int) 0 M42) M40) M39) M2)) M
theorem arena_fresh.eqX (pr : Prim) (pts : Pts) (R : Value → Mem → Prop) (M : Mem) : wpX PP pr pts arena_fresh.h [] [] (retH pr Try.f59.results.toList R) (argEnv 0 []) M = arena_fresh.T pr pts R M := by kernel_rfl
theorem arena_fresh.eq (pr : Prim) (R : Value → Mem → Prop) (M : Mem) : wpH PP pr arena_fresh.h (retH pr Try.f59.results.toList R) (argEnv 0 []) M = arena_fresh.T pr (arena_fresh.pts pr R) R M := root_eq.trans (arena_fresh.eqX pr (arena_fresh.pts pr R) R M)
theorem arena_fresh.fn : PP.funcs[Id.arena_fresh]? = some Try.f59 := Try.func59
theorem arena_fresh.can : callable PP Id.arena_fresh = true := by kernel_rfl
theorem arena_fresh.good : okH Try.f59.ntmps arena_fresh.h = true := by kernel_rfl
theorem arena_fresh.body : Try.f59.body = some ((Try.f59.body).getD .skip) := by kernel_rfl
theorem arena_fresh.size : (0 : Nat) ≤ Try.f59.ntmps := by decide
theorem arena_fresh.go (w0 : World) {R : Value → Mem → Prop} {M : Mem} (h : ∀ pts, arena_fresh.Is (std PP w0) pts R → arena_fresh.T (std PP w0) pts R M) : C PP w0 Id.arena_fresh #[] R M :=
  C_intro mixed arena_fresh.fn arena_fresh.body arena_fresh.can (annot_code _ _) arena_fresh.good arena_fresh.size ((arena_fresh.eq (std PP w0) R M).mpr (h _ (arena_fresh.is _ _)))
-- (*thicket/arena.Arena).has
noncomputable def arena_Arena_has.h : HC := annot ((Try.f60.body).getD .skip) []
def arena_Arena_has.T (pr : Prim) (a : Option Addr) (c : Int) (field : Int) (R : Value → Mem → Prop) (M : Mem) : Prop := pr.call Id.arena_Arena_Live #[.pointer a, .int .i64 c] (fun v1 M2 => shB v1 fun b3 => bs b3 (bs (decide (field ≥ 0)) (R (.bool (decide (field < 10))) M2) (R (.bool false) M2)) (R (.bool false) M2)) M
theorem arena_Arena_has.eqX (pr : Prim) (pts : Pts) (a : Option Addr) (c : Int) (field : Int) (R : Value → Mem → Prop) (M : Mem) : wpX PP pr pts arena_Arena_has.h [] [] (retH pr Try.f60.results.toList R) (argEnv 0 [.pointer a, .int .i64 c, .int .i64 field]) M = arena_Arena_has.T pr a c field R M := by kernel_rfl
theorem arena_Arena_has.eq (pr : Prim) (a : Option Addr) (c : Int) (field : Int) (R : Value → Mem → Prop) (M : Mem) : wpH PP pr arena_Arena_has.h (retH pr Try.f60.results.toList R) (argEnv 0 [.pointer a, .int .i64 c, .int .i64 field]) M = arena_Arena_has.T pr a c field R M := root_eq.trans (arena_Arena_has.eqX pr (ptsR PP pr arena_Arena_has.h (retH pr Try.f60.results.toList R)) a c field R M)
theorem arena_Arena_has.fn : PP.funcs[Id.arena_Arena_has]? = some Try.f60 := Try.func60
theorem arena_Arena_has.can : callable PP Id.arena_Arena_has = true := by kernel_rfl
theorem arena_Arena_has.good : okH Try.f60.ntmps arena_Arena_has.h = true := by kernel_rfl
theorem arena_Arena_has.body : Try.f60.body = some ((Try.f60.body).getD .skip) := by kernel_rfl
theorem arena_Arena_has.size : (3 : Nat) ≤ Try.f60.ntmps := by decide
theorem arena_Arena_has.go (w0 : World) (a : Option Addr) (c : Int) (field : Int) {R : Value → Mem → Prop} {M : Mem} (h : arena_Arena_has.T (std PP w0) a c field R M) : C PP w0 Id.arena_Arena_has #[.pointer a, .int .i64 c, .int .i64 field] R M :=
  C_intro mixed arena_Arena_has.fn arena_Arena_has.body arena_Arena_has.can (annot_code _ _) arena_Arena_has.good arena_Arena_has.size ((arena_Arena_has.eq (std PP w0) a c field R M).mpr h)
-- thicket/item.Put
noncomputable def item_Put.h : HC := annot ((Try.f61.body).getD .skip) []
def item_Put.T (pr : Prim) (a : Option Addr) (n : Int) (i : Int) (R : Value → Mem → Prop) (M : Mem) : Prop := ob (pr.bq .neq 28 (.tmp 6) (.const (.pointer none)) (.pointer a) (.pointer none)) fun v1 => shB v1 fun b2 => bs b2 (pr.call Id.arena_Arena_Set #[.pointer a, .int .i64 n, .int .i64 6, .int .i64 i] (fun v3 M4 => shB v3 fun b5 => pr.call Id.arena_Arena_Set #[.pointer a, .int .i64 i, .int .i64 9, .int .i64 n] (fun v6 M7 => shB v6 fun b8 => R (.tuple #[]) M7) M4) M) (R (.tuple #[]) M)
theorem item_Put.eqX (pr : Prim) (pts : Pts) (a : Option Addr) (n : Int) (i : Int) (R : Value → Mem → Prop) (M : Mem) : wpX PP pr pts item_Put.h [] [] (retH pr Try.f61.results.toList R) (argEnv 0 [.pointer a, .int .i64 n, .int .i64 i]) M = item_Put.T pr a n i R M := by kernel_rfl
theorem item_Put.eq (pr : Prim) (a : Option Addr) (n : Int) (i : Int) (R : Value → Mem → Prop) (M : Mem) : wpH PP pr item_Put.h (retH pr Try.f61.results.toList R) (argEnv 0 [.pointer a, .int .i64 n, .int .i64 i]) M = item_Put.T pr a n i R M := root_eq.trans (item_Put.eqX pr (ptsR PP pr item_Put.h (retH pr Try.f61.results.toList R)) a n i R M)
theorem item_Put.fn : PP.funcs[Id.item_Put]? = some Try.f61 := Try.func61
theorem item_Put.can : callable PP Id.item_Put = true := by kernel_rfl
theorem item_Put.good : okH Try.f61.ntmps item_Put.h = true := by kernel_rfl
theorem item_Put.body : Try.f61.body = some ((Try.f61.body).getD .skip) := by kernel_rfl
theorem item_Put.size : (3 : Nat) ≤ Try.f61.ntmps := by decide
theorem item_Put.go (w0 : World) (a : Option Addr) (n : Int) (i : Int) {R : Value → Mem → Prop} {M : Mem} (h : item_Put.T (std PP w0) a n i R M) : C PP w0 Id.item_Put #[.pointer a, .int .i64 n, .int .i64 i] R M :=
  C_intro mixed item_Put.fn item_Put.body item_Put.can (annot_code _ _) item_Put.good item_Put.size ((item_Put.eq (std PP w0) a n i R M).mpr h)
-- thicket/node.Before
noncomputable def node_Before.h : HC := annot ((Try.f62.body).getD .skip) []
def node_Before.T (pr : Prim) (a : Option Addr) (n : Int) (m : Int) (R : Value → Mem → Prop) (M : Mem) : Prop := pr.call Id.arena_Arena_Cell #[.pointer a, .int .i64 n, .int .i64 6] (fun v1 M2 => shI .i64 v1 fun n3 => pr.call Id.arena_Arena_Cell #[.pointer a, .int .i64 m, .int .i64 6] (fun v4 M5 => shI .i64 v4 fun n6 => pr.call Id.item_Before #[.pointer a, .int .i64 n3, .int .i64 n6] (fun v7 M8 => shB v7 fun b9 => R (.bool b9) M8) M5) M2) M
theorem node_Before.eqX (pr : Prim) (pts : Pts) (a : Option Addr) (n : Int) (m : Int) (R : Value → Mem → Prop) (M : Mem) : wpX PP pr pts node_Before.h [] [] (retH pr Try.f62.results.toList R) (argEnv 0 [.pointer a, .int .i64 n, .int .i64 m]) M = node_Before.T pr a n m R M := by kernel_rfl
theorem node_Before.eq (pr : Prim) (a : Option Addr) (n : Int) (m : Int) (R : Value → Mem → Prop) (M : Mem) : wpH PP pr node_Before.h (retH pr Try.f62.results.toList R) (argEnv 0 [.pointer a, .int .i64 n, .int .i64 m]) M = node_Before.T pr a n m R M := root_eq.trans (node_Before.eqX pr (ptsR PP pr node_Before.h (retH pr Try.f62.results.toList R)) a n m R M)
theorem node_Before.fn : PP.funcs[Id.node_Before]? = some Try.f62 := Try.func62
theorem node_Before.can : callable PP Id.node_Before = true := by kernel_rfl
theorem node_Before.good : okH Try.f62.ntmps node_Before.h = true := by kernel_rfl
theorem node_Before.body : Try.f62.body = some ((Try.f62.body).getD .skip) := by kernel_rfl
theorem node_Before.size : (3 : Nat) ≤ Try.f62.ntmps := by decide
theorem node_Before.go (w0 : World) (a : Option Addr) (n : Int) (m : Int) {R : Value → Mem → Prop} {M : Mem} (h : node_Before.T (std PP w0) a n m R M) : C PP w0 Id.node_Before #[.pointer a, .int .i64 n, .int .i64 m] R M :=
  C_intro mixed node_Before.fn node_Before.body node_Before.can (annot_code _ _) node_Before.good node_Before.size ((node_Before.eq (std PP w0) a n m R M).mpr h)
-- thicket/thicketref1.Bits
noncomputable def thicketref1_Bits.h : HC := annot ((Try.f63.body).getD .skip) [([true, true, false, false], [0, 3])]
abbrev thicketref1_Bits.L1 (pts : Pts) (k : Nat) (n_0 : Int) (k_3 : Int) (M : Mem) : Prop := pts [false, false, false, true, true] [k] [(0, .int .i64 n_0), (3, .int .i64 k_3)] M
def thicketref1_Bits.pts (pr : Prim) (R : Value → Mem → Prop) : Pts := ptsR PP pr thicketref1_Bits.h (retH pr Try.f63.results.toList R)
def thicketref1_Bits.L1.T (pr : Prim) (pts : Pts) (k : Nat) (n_0 : Int) (k_3 : Int) (R : Value → Mem → Prop) (M : Mem) : Prop := bs (decide (n_0 > 0)) ((IntKind.i64 = IntKind.i64 ∧ (2 : Int) ≠ 0 ∧ thicketref1_Bits.L1 pts k (w64 (Int.tdiv n_0 2)) (w64 (k_3 + 1)) M)) (R (.int .i64 k_3) M)
theorem thicketref1_Bits.L1.zero (pr : Prim) (n_0 : Int) (k_3 : Int) (R : Value → Mem → Prop) (M : Mem) : thicketref1_Bits.L1 (thicketref1_Bits.pts pr R) 0 n_0 k_3 M = False :=
  (ptsR_eq (b := false) (p := [false, false, true, true]) (ns := [0]) rfl _ _).trans (by kernel_rfl)
theorem thicketref1_Bits.L1.eqX (pr : Prim) (pts : Pts) (k : Nat) (n_0 : Int) (k_3 : Int) (R : Value → Mem → Prop) (M : Mem) : bodyX PP pr pts thicketref1_Bits.h (retH pr Try.f63.results.toList R) [false, false, false, true, true] [k + 1] [(0, .int .i64 n_0), (3, .int .i64 k_3)] M = thicketref1_Bits.L1.T pr pts k n_0 k_3 R M := by kernel_rfl
theorem thicketref1_Bits.L1.succ (pr : Prim) (k : Nat) (n_0 : Int) (k_3 : Int) (R : Value → Mem → Prop) (M : Mem) : thicketref1_Bits.L1 (thicketref1_Bits.pts pr R) (k + 1) n_0 k_3 M = thicketref1_Bits.L1.T pr (thicketref1_Bits.pts pr R) k n_0 k_3 R M :=
  (ptsR_eq (b := false) (p := [false, false, true, true]) (ns := [k + 1]) rfl _ _).trans (thicketref1_Bits.L1.eqX pr (thicketref1_Bits.pts pr R) k n_0 k_3 R M)
structure thicketref1_Bits.Is (pr : Prim) (pts : Pts) (R : Value → Mem → Prop) : Prop where
  L1 : ∀ (k : Nat) (n_0 : Int) (k_3 : Int) (M : Mem), thicketref1_Bits.L1 pts (k + 1) n_0 k_3 M = thicketref1_Bits.L1.T pr pts k n_0 k_3 R M
theorem thicketref1_Bits.is (pr : Prim) (R : Value → Mem → Prop) : thicketref1_Bits.Is pr (thicketref1_Bits.pts pr R) R := ⟨fun k n_0 k_3 M => thicketref1_Bits.L1.succ pr k n_0 k_3 R M⟩
def thicketref1_Bits.T (pr : Prim) (pts : Pts) (n : Int) (R : Value → Mem → Prop) (M : Mem) : Prop := ∃ k1, thicketref1_Bits.L1 pts k1 n 0 M
theorem thicketref1_Bits.eqX (pr : Prim) (pts : Pts) (n : Int) (R : Value → Mem → Prop) (M : Mem) : wpX PP pr pts thicketref1_Bits.h [] [] (retH pr Try.f63.results.toList R) (argEnv 0 [.int .i64 n]) M = thicketref1_Bits.T pr pts n R M := by kernel_rfl
theorem thicketref1_Bits.eq (pr : Prim) (n : Int) (R : Value → Mem → Prop) (M : Mem) : wpH PP pr thicketref1_Bits.h (retH pr Try.f63.results.toList R) (argEnv 0 [.int .i64 n]) M = thicketref1_Bits.T pr (thicketref1_Bits.pts pr R) n R M := root_eq.trans (thicketref1_Bits.eqX pr (thicketref1_Bits.pts pr R) n R M)
theorem thicketref1_Bits.fn : PP.funcs[Id.thicketref1_Bits]? = some Try.f63 := Try.func63
theorem thicketref1_Bits.can : callable PP Id.thicketref1_Bits = true := by kernel_rfl
theorem thicketref1_Bits.good : okH Try.f63.ntmps thicketref1_Bits.h = true := by kernel_rfl
theorem thicketref1_Bits.body : Try.f63.body = some ((Try.f63.body).getD .skip) := by kernel_rfl
theorem thicketref1_Bits.size : (1 : Nat) ≤ Try.f63.ntmps := by decide
theorem thicketref1_Bits.go (w0 : World) (n : Int) {R : Value → Mem → Prop} {M : Mem} (h : ∀ pts, thicketref1_Bits.Is (std PP w0) pts R → thicketref1_Bits.T (std PP w0) pts n R M) : C PP w0 Id.thicketref1_Bits #[.int .i64 n] R M :=
  C_intro mixed thicketref1_Bits.fn thicketref1_Bits.body thicketref1_Bits.can (annot_code _ _) thicketref1_Bits.good thicketref1_Bits.size ((thicketref1_Bits.eq (std PP w0) n R M).mpr (h _ (thicketref1_Bits.is _ _)))
-- thicket/thicketref1.Add
noncomputable def thicketref1_Add.h : HC := annot ((Try.f64.body).getD .skip) [([true], [0, 1])]
abbrev thicketref1_Add.J1 (pts : Pts) (a_0 : Int) (b_1 : Int) (M : Mem) : Prop := pts [true, true] [] [(0, .int .i64 a_0), (1, .int .i64 b_1)] M
def thicketref1_Add.pts (pr : Prim) (R : Value → Mem → Prop) : Pts := ptsR PP pr thicketref1_Add.h (retH pr Try.f64.results.toList R)
def thicketref1_Add.J1.T (pr : Prim) (pts : Pts) (a_0 : Int) (b_1 : Int) (R : Value → Mem → Prop) (M : Mem) : Prop := bs (decide (a_0 < 0)) (bs (decide (b_1 < (w64 ((-9223372036854775808) - a_0)))) (R (.int .i64 (-9223372036854775808)) M) (R (.int .i64 (w64 (a_0 + b_1))) M)) (R (.int .i64 (w64 (a_0 + b_1))) M)
theorem thicketref1_Add.J1.eqX (pr : Prim) (pts : Pts) (a_0 : Int) (b_1 : Int) (R : Value → Mem → Prop) (M : Mem) : bodyX PP pr pts thicketref1_Add.h (retH pr Try.f64.results.toList R) [true, true] [] [(0, .int .i64 a_0), (1, .int .i64 b_1)] M = thicketref1_Add.J1.T pr pts a_0 b_1 R M := by kernel_rfl
theorem thicketref1_Add.J1.eq (pr : Prim) (a_0 : Int) (b_1 : Int) (R : Value → Mem → Prop) (M : Mem) : thicketref1_Add.J1 (thicketref1_Add.pts pr R) a_0 b_1 M = thicketref1_Add.J1.T pr (thicketref1_Add.pts pr R) a_0 b_1 R M :=
  (ptsR_eq (b := true) (p := [true]) (ns := []) rfl _ _).trans (thicketref1_Add.J1.eqX pr (thicketref1_Add.pts pr R) a_0 b_1 R M)
structure thicketref1_Add.Is (pr : Prim) (pts : Pts) (R : Value → Mem → Prop) : Prop where
  J1 : ∀ (a_0 : Int) (b_1 : Int) (M : Mem), thicketref1_Add.J1 pts a_0 b_1 M = thicketref1_Add.J1.T pr pts a_0 b_1 R M
theorem thicketref1_Add.is (pr : Prim) (R : Value → Mem → Prop) : thicketref1_Add.Is pr (thicketref1_Add.pts pr R) R := ⟨fun a_0 b_1 M => thicketref1_Add.J1.eq pr a_0 b_1 R M⟩
def thicketref1_Add.T (pr : Prim) (pts : Pts) (a : Int) (b : Int) (R : Value → Mem → Prop) (M : Mem) : Prop := bs (decide (a > 0)) (bs (decide (b > (w64 (9223372036854775807 - a)))) (R (.int .i64 9223372036854775807) M) (thicketref1_Add.J1 pts a b M)) (thicketref1_Add.J1 pts a b M)
theorem thicketref1_Add.eqX (pr : Prim) (pts : Pts) (a : Int) (b : Int) (R : Value → Mem → Prop) (M : Mem) : wpX PP pr pts thicketref1_Add.h [] [] (retH pr Try.f64.results.toList R) (argEnv 0 [.int .i64 a, .int .i64 b]) M = thicketref1_Add.T pr pts a b R M := by kernel_rfl
theorem thicketref1_Add.eq (pr : Prim) (a : Int) (b : Int) (R : Value → Mem → Prop) (M : Mem) : wpH PP pr thicketref1_Add.h (retH pr Try.f64.results.toList R) (argEnv 0 [.int .i64 a, .int .i64 b]) M = thicketref1_Add.T pr (thicketref1_Add.pts pr R) a b R M := root_eq.trans (thicketref1_Add.eqX pr (thicketref1_Add.pts pr R) a b R M)
theorem thicketref1_Add.fn : PP.funcs[Id.thicketref1_Add]? = some Try.f64 := Try.func64
theorem thicketref1_Add.can : callable PP Id.thicketref1_Add = true := by kernel_rfl
theorem thicketref1_Add.good : okH Try.f64.ntmps thicketref1_Add.h = true := by kernel_rfl
theorem thicketref1_Add.body : Try.f64.body = some ((Try.f64.body).getD .skip) := by kernel_rfl
theorem thicketref1_Add.size : (2 : Nat) ≤ Try.f64.ntmps := by decide
theorem thicketref1_Add.go (w0 : World) (a : Int) (b : Int) {R : Value → Mem → Prop} {M : Mem} (h : ∀ pts, thicketref1_Add.Is (std PP w0) pts R → thicketref1_Add.T (std PP w0) pts a b R M) : C PP w0 Id.thicketref1_Add #[.int .i64 a, .int .i64 b] R M :=
  C_intro mixed thicketref1_Add.fn thicketref1_Add.body thicketref1_Add.can (annot_code _ _) thicketref1_Add.good thicketref1_Add.size ((thicketref1_Add.eq (std PP w0) a b R M).mpr (h _ (thicketref1_Add.is _ _)))
-- thicket/pairing.kids
noncomputable def pairing_kids.h : HC := annot ((Try.f65.body).getD .skip) []
def pairing_kids.T (pr : Prim) (a : Option Addr) (n : Int) (R : Value → Mem → Prop) (M : Mem) : Prop := pr.call Id.arena_Arena_Cell #[.pointer a, .int .i64 n, .int .i64 1] (fun v1 M2 => shI .i64 v1 fun n3 => pr.call Id.node_Row #[.pointer a, .int .i64 n3, .int .i64 3] (fun v4 M5 => shS v4 fun s6 => R (SV.v s6) M5) M2) M
theorem pairing_kids.eqX (pr : Prim) (pts : Pts) (a : Option Addr) (n : Int) (R : Value → Mem → Prop) (M : Mem) : wpX PP pr pts pairing_kids.h [] [] (retH pr Try.f65.results.toList R) (argEnv 0 [.pointer a, .int .i64 n]) M = pairing_kids.T pr a n R M := by kernel_rfl
theorem pairing_kids.eq (pr : Prim) (a : Option Addr) (n : Int) (R : Value → Mem → Prop) (M : Mem) : wpH PP pr pairing_kids.h (retH pr Try.f65.results.toList R) (argEnv 0 [.pointer a, .int .i64 n]) M = pairing_kids.T pr a n R M := root_eq.trans (pairing_kids.eqX pr (ptsR PP pr pairing_kids.h (retH pr Try.f65.results.toList R)) a n R M)
theorem pairing_kids.fn : PP.funcs[Id.pairing_kids]? = some Try.f65 := Try.func65
theorem pairing_kids.can : callable PP Id.pairing_kids = true := by kernel_rfl
theorem pairing_kids.good : okH Try.f65.ntmps pairing_kids.h = true := by kernel_rfl
theorem pairing_kids.body : Try.f65.body = some ((Try.f65.body).getD .skip) := by kernel_rfl
theorem pairing_kids.size : (2 : Nat) ≤ Try.f65.ntmps := by decide
theorem pairing_kids.go (w0 : World) (a : Option Addr) (n : Int) {R : Value → Mem → Prop} {M : Mem} (h : pairing_kids.T (std PP w0) a n R M) : C PP w0 Id.pairing_kids #[.pointer a, .int .i64 n] R M :=
  C_intro mixed pairing_kids.fn pairing_kids.body pairing_kids.can (annot_code _ _) pairing_kids.good pairing_kids.size ((pairing_kids.eq (std PP w0) a n R M).mpr h)
-- thicket/node.End
noncomputable def node_End.h : HC := annot ((Try.f66.body).getD .skip) []
def node_End.T (pr : Prim) (a : Option Addr) (n : Int) (R : Value → Mem → Prop) (M : Mem) : Prop := pr.call Id.arena_Arena_Cell #[.pointer a, .int .i64 n, .int .i64 6] (fun v1 M2 => shI .i64 v1 fun n3 => pr.call Id.arena_Arena_Set #[.pointer a, .int .i64 n3, .int .i64 9, .int .i64 (-1)] (fun v4 M5 => shB v4 fun b6 => pr.call Id.arena_Arena_Give #[.pointer a, .int .i64 n] (fun v7 M8 => shB v7 fun b9 => R (.int .i64 n3) M8) M5) M2) M
theorem node_End.eqX (pr : Prim) (pts : Pts) (a : Option Addr) (n : Int) (R : Value → Mem → Prop) (M : Mem) : wpX PP pr pts node_End.h [] [] (retH pr Try.f66.results.toList R) (argEnv 0 [.pointer a, .int .i64 n]) M = node_End.T pr a n R M := by kernel_rfl
theorem node_End.eq (pr : Prim) (a : Option Addr) (n : Int) (R : Value → Mem → Prop) (M : Mem) : wpH PP pr node_End.h (retH pr Try.f66.results.toList R) (argEnv 0 [.pointer a, .int .i64 n]) M = node_End.T pr a n R M := root_eq.trans (node_End.eqX pr (ptsR PP pr node_End.h (retH pr Try.f66.results.toList R)) a n R M)
theorem node_End.fn : PP.funcs[Id.node_End]? = some Try.f66 := Try.func66
theorem node_End.can : callable PP Id.node_End = true := by kernel_rfl
theorem node_End.good : okH Try.f66.ntmps node_End.h = true := by kernel_rfl
theorem node_End.body : Try.f66.body = some ((Try.f66.body).getD .skip) := by kernel_rfl
theorem node_End.size : (2 : Nat) ≤ Try.f66.ntmps := by decide
theorem node_End.go (w0 : World) (a : Option Addr) (n : Int) {R : Value → Mem → Prop} {M : Mem} (h : node_End.T (std PP w0) a n R M) : C PP w0 Id.node_End #[.pointer a, .int .i64 n] R M :=
  C_intro mixed node_End.fn node_End.body node_End.can (annot_code _ _) node_End.good node_End.size ((node_End.eq (std PP w0) a n R M).mpr h)
-- thicket/pairing.paired
noncomputable def pairing_paired.h : HC := annot ((Try.f67.body).getD .skip) [([true, false, true, false], [0, 1, 11, 12, 13]), ([true, true, true, false, true, false], [0, 1, 7, 8]), ([true, true, true, true, true, false, true, false], [0, 7, 9, 10])]
abbrev pairing_paired.L1 (pts : Pts) (k : Nat) (a_0 : Option Addr) (l_1 : SV) (t11 : SV) (t12 : Int) (t13 : Int) (M : Mem) : Prop := pts [false, false, true, false, true] [k] [(0, .pointer a_0), (1, SV.v l_1), (11, SV.v t11), (12, .int .i64 t12), (13, .int .i64 t13)] M
abbrev pairing_paired.L2 (pts : Pts) (k : Nat) (a_0 : Option Addr) (l_1 : SV) (pairs_7 : SV) (k_8 : Int) (M : Mem) : Prop := pts [false, false, true, false, true, true, true] [k] [(0, .pointer a_0), (1, SV.v l_1), (7, SV.v pairs_7), (8, .int .i64 k_8)] M
abbrev pairing_paired.L3 (pts : Pts) (k : Nat) (a_0 : Option Addr) (pairs_7 : SV) (top_9 : Int) (k_10 : Int) (M : Mem) : Prop := pts [false, false, true, false, true, true, true, true, true] [k] [(0, .pointer a_0), (7, SV.v pairs_7), (9, .int .i64 top_9), (10, .int .i64 k_10)] M
def pairing_paired.pts (pr : Prim) (R : Value → Mem → Prop) : Pts := ptsR PP pr pairing_paired.h (retH pr Try.f67.results.toList R)
def pairing_paired.L1.T (pr : Prim) (pts : Pts) (k : Nat) (a_0 : Option Addr) (l_1 : SV) (t11 : SV) (t12 : Int) (t13 : Int) (R : Value → Mem → Prop) (M : Mem) : Prop := bs (decide (t13 < t12)) (nc t11.a fun a2 => (0 ≤ t13 ∧ t13 < ((t11.n : Nat) : Int)) ∧ ob (pr.ld 3 (a2.add (t13.toNat * 1)) M) fun v3 => shI .i64 v3 fun n4 => pr.call Id.pairing_root #[.pointer a_0, .int .i64 n4] (fun v5 M6 => pairing_paired.L1 pts k a_0 l_1 t11 t12 (w64 (t13 + 1)) M6) M) (∃ k7, pairing_paired.L2 pts k7 a_0 l_1 ⟨none, 0, 0⟩ 0 M)
theorem pairing_paired.L1.zero (pr : Prim) (a_0 : Option Addr) (l_1 : SV) (t11 : SV) (t12 : Int) (t13 : Int) (R : Value → Mem → Prop) (M : Mem) : pairing_paired.L1 (pairing_paired.pts pr R) 0 a_0 l_1 t11 t12 t13 M = False :=
  (ptsR_eq (b := false) (p := [false, true, false, true]) (ns := [0]) rfl _ _).trans (by kernel_rfl)
theorem pairing_paired.L1.eqX (pr : Prim) (pts : Pts) (k : Nat) (a_0 : Option Addr) (l_1 : SV) (t11 : SV) (t12 : Int) (t13 : Int) (R : Value → Mem → Prop) (M : Mem) : bodyX PP pr pts pairing_paired.h (retH pr Try.f67.results.toList R) [false, false, true, false, true] [k + 1] [(0, .pointer a_0), (1, SV.v l_1), (11, SV.v t11), (12, .int .i64 t12), (13, .int .i64 t13)] M = pairing_paired.L1.T pr pts k a_0 l_1 t11 t12 t13 R M := by kernel_rfl
theorem pairing_paired.L1.succ (pr : Prim) (k : Nat) (a_0 : Option Addr) (l_1 : SV) (t11 : SV) (t12 : Int) (t13 : Int) (R : Value → Mem → Prop) (M : Mem) : pairing_paired.L1 (pairing_paired.pts pr R) (k + 1) a_0 l_1 t11 t12 t13 M = pairing_paired.L1.T pr (pairing_paired.pts pr R) k a_0 l_1 t11 t12 t13 R M :=
  (ptsR_eq (b := false) (p := [false, true, false, true]) (ns := [k + 1]) rfl _ _).trans (pairing_paired.L1.eqX pr (pairing_paired.pts pr R) k a_0 l_1 t11 t12 t13 R M)
def pairing_paired.L2.T (pr : Prim) (pts : Pts) (k : Nat) (a_0 : Option Addr) (l_1 : SV) (pairs_7 : SV) (k_8 : Int) (R : Value → Mem → Prop) (M : Mem) : Prop := bs (decide (k_8 < ((l_1.n : Nat) : Int))) (bs (decide ((w64 (k_8 + 1)) < ((l_1.n : Nat) : Int))) (nc l_1.a fun a8 => (0 ≤ k_8 ∧ k_8 < ((l_1.n : Nat) : Int)) ∧ ob (pr.ld 3 (a8.add (k_8.toNat * 1)) M) fun v9 => shI .i64 v9 fun n10 => nc l_1.a fun a11 => (0 ≤ (w64 (k_8 + 1)) ∧ (w64 (k_8 + 1)) < ((l_1.n : Nat) : Int)) ∧ ob (pr.ld 3 (a11.add ((w64 (k_8 + 1)).toNat * 1)) M) fun v12 => shI .i64 v12 fun n13 => pr.call Id.pairing_link #[.pointer a_0, .int .i64 n10, .int .i64 n13] (fun v14 M15 => shI .i64 v14 fun n16 => pr.bsl 53 1 [(0, .int .i64 n16)] (fun v17 M18 => shS v17 fun s19 => pr.app #[53, 53] 53 [SV.v pairs_7, SV.v s19] (fun v20 M21 => shS v20 fun s22 => pairing_paired.L2 pts k a_0 l_1 s22 (w64 (k_8 + 2)) M21) M18) M15) M) (nc l_1.a fun a23 => (0 ≤ k_8 ∧ k_8 < ((l_1.n : Nat) : Int)) ∧ ob (pr.ld 3 (a23.add (k_8.toNat * 1)) M) fun v24 => shI .i64 v24 fun n25 => pr.bsl 53 1 [(0, .int .i64 n25)] (fun v26 M27 => shS v26 fun s28 => pr.app #[53, 53] 53 [SV.v pairs_7, SV.v s28] (fun v29 M30 => shS v29 fun s31 => pairing_paired.L2 pts k a_0 l_1 s31 (w64 (k_8 + 2)) M30) M27) M)) (∃ k32, pairing_paired.L3 pts k32 a_0 pairs_7 (-1) (w64 (((pairs_7.n : Nat) : Int) - 1)) M)
theorem pairing_paired.L2.zero (pr : Prim) (a_0 : Option Addr) (l_1 : SV) (pairs_7 : SV) (k_8 : Int) (R : Value → Mem → Prop) (M : Mem) : pairing_paired.L2 (pairing_paired.pts pr R) 0 a_0 l_1 pairs_7 k_8 M = False :=
  (ptsR_eq (b := false) (p := [false, true, false, true, true, true]) (ns := [0]) rfl _ _).trans (by kernel_rfl)
theorem pairing_paired.L2.eqX (pr : Prim) (pts : Pts) (k : Nat) (a_0 : Option Addr) (l_1 : SV) (pairs_7 : SV) (k_8 : Int) (R : Value → Mem → Prop) (M : Mem) : bodyX PP pr pts pairing_paired.h (retH pr Try.f67.results.toList R) [false, false, true, false, true, true, true] [k + 1] [(0, .pointer a_0), (1, SV.v l_1), (7, SV.v pairs_7), (8, .int .i64 k_8)] M = pairing_paired.L2.T pr pts k a_0 l_1 pairs_7 k_8 R M := by kernel_rfl
theorem pairing_paired.L2.succ (pr : Prim) (k : Nat) (a_0 : Option Addr) (l_1 : SV) (pairs_7 : SV) (k_8 : Int) (R : Value → Mem → Prop) (M : Mem) : pairing_paired.L2 (pairing_paired.pts pr R) (k + 1) a_0 l_1 pairs_7 k_8 M = pairing_paired.L2.T pr (pairing_paired.pts pr R) k a_0 l_1 pairs_7 k_8 R M :=
  (ptsR_eq (b := false) (p := [false, true, false, true, true, true]) (ns := [k + 1]) rfl _ _).trans (pairing_paired.L2.eqX pr (pairing_paired.pts pr R) k a_0 l_1 pairs_7 k_8 R M)
def pairing_paired.L3.T (pr : Prim) (pts : Pts) (k : Nat) (a_0 : Option Addr) (pairs_7 : SV) (top_9 : Int) (k_10 : Int) (R : Value → Mem → Prop) (M : Mem) : Prop := bs (decide (k_10 ≥ 0)) (nc pairs_7.a fun a33 => (0 ≤ k_10 ∧ k_10 < ((pairs_7.n : Nat) : Int)) ∧ ob (pr.ld 3 (a33.add (k_10.toNat * 1)) M) fun v34 => shI .i64 v34 fun n35 => pr.call Id.pairing_link #[.pointer a_0, .int .i64 n35, .int .i64 top_9] (fun v36 M37 => shI .i64 v36 fun n38 => pairing_paired.L3 pts k a_0 pairs_7 n38 (w64 (k_10 - 1)) M37) M) (R (.int .i64 top_9) M)
theorem pairing_paired.L3.zero (pr : Prim) (a_0 : Option Addr) (pairs_7 : SV) (top_9 : Int) (k_10 : Int) (R : Value → Mem → Prop) (M : Mem) : pairing_paired.L3 (pairing_paired.pts pr R) 0 a_0 pairs_7 top_9 k_10 M = False :=
  (ptsR_eq (b := false) (p := [false, true, false, true, true, true, true, true]) (ns := [0]) rfl _ _).trans (by kernel_rfl)
theorem pairing_paired.L3.eqX (pr : Prim) (pts : Pts) (k : Nat) (a_0 : Option Addr) (pairs_7 : SV) (top_9 : Int) (k_10 : Int) (R : Value → Mem → Prop) (M : Mem) : bodyX PP pr pts pairing_paired.h (retH pr Try.f67.results.toList R) [false, false, true, false, true, true, true, true, true] [k + 1] [(0, .pointer a_0), (7, SV.v pairs_7), (9, .int .i64 top_9), (10, .int .i64 k_10)] M = pairing_paired.L3.T pr pts k a_0 pairs_7 top_9 k_10 R M := by kernel_rfl
theorem pairing_paired.L3.succ (pr : Prim) (k : Nat) (a_0 : Option Addr) (pairs_7 : SV) (top_9 : Int) (k_10 : Int) (R : Value → Mem → Prop) (M : Mem) : pairing_paired.L3 (pairing_paired.pts pr R) (k + 1) a_0 pairs_7 top_9 k_10 M = pairing_paired.L3.T pr (pairing_paired.pts pr R) k a_0 pairs_7 top_9 k_10 R M :=
  (ptsR_eq (b := false) (p := [false, true, false, true, true, true, true, true]) (ns := [k + 1]) rfl _ _).trans (pairing_paired.L3.eqX pr (pairing_paired.pts pr R) k a_0 pairs_7 top_9 k_10 R M)
structure pairing_paired.Is (pr : Prim) (pts : Pts) (R : Value → Mem → Prop) : Prop where
  L1 : ∀ (k : Nat) (a_0 : Option Addr) (l_1 : SV) (t11 : SV) (t12 : Int) (t13 : Int) (M : Mem), pairing_paired.L1 pts (k + 1) a_0 l_1 t11 t12 t13 M = pairing_paired.L1.T pr pts k a_0 l_1 t11 t12 t13 R M
  L2 : ∀ (k : Nat) (a_0 : Option Addr) (l_1 : SV) (pairs_7 : SV) (k_8 : Int) (M : Mem), pairing_paired.L2 pts (k + 1) a_0 l_1 pairs_7 k_8 M = pairing_paired.L2.T pr pts k a_0 l_1 pairs_7 k_8 R M
  L3 : ∀ (k : Nat) (a_0 : Option Addr) (pairs_7 : SV) (top_9 : Int) (k_10 : Int) (M : Mem), pairing_paired.L3 pts (k + 1) a_0 pairs_7 top_9 k_10 M = pairing_paired.L3.T pr pts k a_0 pairs_7 top_9 k_10 R M
theorem pairing_paired.is (pr : Prim) (R : Value → Mem → Prop) : pairing_paired.Is pr (pairing_paired.pts pr R) R := ⟨fun k a_0 l_1 t11 t12 t13 M => pairing_paired.L1.succ pr k a_0 l_1 t11 t12 t13 R M, fun k a_0 l_1 pairs_7 k_8 M => pairing_paired.L2.succ pr k a_0 l_1 pairs_7 k_8 R M, fun k a_0 pairs_7 top_9 k_10 M => pairing_paired.L3.succ pr k a_0 pairs_7 top_9 k_10 R M⟩
def pairing_paired.T (pr : Prim) (pts : Pts) (a : Option Addr) (l : SV) (R : Value → Mem → Prop) (M : Mem) : Prop := ∃ k1, pairing_paired.L1 pts k1 a l l ((l.n : Nat) : Int) 0 M
theorem pairing_paired.eqX (pr : Prim) (pts : Pts) (a : Option Addr) (l : SV) (R : Value → Mem → Prop) (M : Mem) : wpX PP pr pts pairing_paired.h [] [] (retH pr Try.f67.results.toList R) (argEnv 0 [.pointer a, SV.v l]) M = pairing_paired.T pr pts a l R M := by kernel_rfl
theorem pairing_paired.eq (pr : Prim) (a : Option Addr) (l : SV) (R : Value → Mem → Prop) (M : Mem) : wpH PP pr pairing_paired.h (retH pr Try.f67.results.toList R) (argEnv 0 [.pointer a, SV.v l]) M = pairing_paired.T pr (pairing_paired.pts pr R) a l R M := root_eq.trans (pairing_paired.eqX pr (pairing_paired.pts pr R) a l R M)
theorem pairing_paired.fn : PP.funcs[Id.pairing_paired]? = some Try.f67 := Try.func67
theorem pairing_paired.can : callable PP Id.pairing_paired = true := by kernel_rfl
theorem pairing_paired.good : okH Try.f67.ntmps pairing_paired.h = true := by kernel_rfl
theorem pairing_paired.body : Try.f67.body = some ((Try.f67.body).getD .skip) := by kernel_rfl
theorem pairing_paired.size : (2 : Nat) ≤ Try.f67.ntmps := by decide
theorem pairing_paired.go (w0 : World) (a : Option Addr) (l : SV) {R : Value → Mem → Prop} {M : Mem} (h : ∀ pts, pairing_paired.Is (std PP w0) pts R → pairing_paired.T (std PP w0) pts a l R M) : C PP w0 Id.pairing_paired #[.pointer a, SV.v l] R M :=
  C_intro mixed pairing_paired.fn pairing_paired.body pairing_paired.can (annot_code _ _) pairing_paired.good pairing_paired.size ((pairing_paired.eq (std PP w0) a l R M).mpr (h _ (pairing_paired.is _ _)))
-- thicket/order.Add
noncomputable def order_Add.h : HC := annot ((Try.f68.body).getD .skip) []
def order_Add.T (pr : Prim) (a : Int) (b : Int) (R : Value → Mem → Prop) (M : Mem) : Prop := bs (decide (b > 0)) (bs (decide (a > (w64 (9223372036854775807 - b)))) (R (.int .i64 9223372036854775807) M) (bs (decide (b < 0)) (bs (decide (a < (w64 ((-9223372036854775808) - b)))) (R (.int .i64 (-9223372036854775808)) M) (R (.int .i64 (w64 (a + b))) M)) (R (.int .i64 (w64 (a + b))) M))) (bs (decide (b < 0)) (bs (decide (a < (w64 ((-9223372036854775808) - b)))) (R (.int .i64 (-9223372036854775808)) M) (R (.int .i64 (w64 (a + b))) M)) (R (.int .i64 (w64 (a + b))) M))
theorem order_Add.eqX (pr : Prim) (pts : Pts) (a : Int) (b : Int) (R : Value → Mem → Prop) (M : Mem) : wpX PP pr pts order_Add.h [] [] (retH pr Try.f68.results.toList R) (argEnv 0 [.int .i64 a, .int .i64 b]) M = order_Add.T pr a b R M := by kernel_rfl
theorem order_Add.eq (pr : Prim) (a : Int) (b : Int) (R : Value → Mem → Prop) (M : Mem) : wpH PP pr order_Add.h (retH pr Try.f68.results.toList R) (argEnv 0 [.int .i64 a, .int .i64 b]) M = order_Add.T pr a b R M := root_eq.trans (order_Add.eqX pr (ptsR PP pr order_Add.h (retH pr Try.f68.results.toList R)) a b R M)
theorem order_Add.fn : PP.funcs[Id.order_Add]? = some Try.f68 := Try.func68
theorem order_Add.can : callable PP Id.order_Add = true := by kernel_rfl
theorem order_Add.good : okH Try.f68.ntmps order_Add.h = true := by kernel_rfl
theorem order_Add.body : Try.f68.body = some ((Try.f68.body).getD .skip) := by kernel_rfl
theorem order_Add.size : (2 : Nat) ≤ Try.f68.ntmps := by decide
theorem order_Add.go (w0 : World) (a : Int) (b : Int) {R : Value → Mem → Prop} {M : Mem} (h : order_Add.T (std PP w0) a b R M) : C PP w0 Id.order_Add #[.int .i64 a, .int .i64 b] R M :=
  C_intro mixed order_Add.fn order_Add.body order_Add.can (annot_code _ _) order_Add.good order_Add.size ((order_Add.eq (std PP w0) a b R M).mpr h)
end Go.Proofs.Ytmabiogngbkhhaa.HL
