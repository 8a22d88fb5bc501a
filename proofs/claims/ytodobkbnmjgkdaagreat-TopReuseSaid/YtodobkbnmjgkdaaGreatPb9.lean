import Derived.Test.YtodobkbnmjgkdaaGreatPb8
namespace Go.Proofs.YtodobkbnmjgkdaaGreat
open Go.RowKit (Below)
set_option linter.unusedVariables false
set_option maxRecDepth 100000
namespace HL
namespace W
theorem c2 : gP PP 2 = true := by kernel_rfl
@[go_sem] theorem ld2 {w0 : World} {M : Mem} (a : Addr) : (aH PP w0).ld 2 a M = rd w0 M a := aP c2 a
theorem e2 : jV PP 2 (.int .i64 0) 1 := oB (by kernel_rfl) rfl
theorem c3 : gP PP 3 = true := by kernel_rfl
@[go_sem] theorem ld3 {w0 : World} {M : Mem} (a : Addr) : (aH PP w0).ld 3 a M = rd w0 M a := aP c3 a
theorem e3 : jV PP 3 (.int .i64 0) 1 := oB (by kernel_rfl) rfl
theorem c4 : gP PP 4 = true := by kernel_rfl
@[go_sem] theorem ld4 {w0 : World} {M : Mem} (a : Addr) : (aH PP w0).ld 4 a M = rd w0 M a := aP c4 a
theorem e4 : jV PP 4 (.bool false) 1 := oB (by kernel_rfl) rfl
theorem c25 : gP PP 25 = true := by kernel_rfl
theorem g33 : gM PP 33 2 = true := by kernel_rfl
theorem e33 : jV PP 33 (.agg #[.int .i64 0, .int .i64 0]) 2 := oB (by kernel_rfl) rfl
theorem g35 : gM PP 35 9 = true := by kernel_rfl
theorem g44 : gM PP 44 2 = true := by kernel_rfl
theorem e44 : jV PP 44 (.agg #[.int .i64 0, .int .i64 0]) 2 := oB (by kernel_rfl) rfl
theorem g46 : gM PP 46 8 = true := by kernel_rfl
theorem c52 : gP PP 52 = true := by kernel_rfl
theorem c53 : gP PP 53 = true := by kernel_rfl
@[go_sem] theorem aL0 {w0 : World} {M : Mem} (a : Addr) : (aH PP w0).ld 53 a M = rd w0 M a := aP c53 a
theorem c59 : gP PP 59 = true := by kernel_rfl
theorem g65 : gM PP 65 6 = true := by kernel_rfl
theorem g68 : gM PP 68 6 = true := by kernel_rfl
theorem c71 : gP PP 71 = true := by kernel_rfl
@[go_sem] theorem aLW {w0 : World} {X Y : Operand} (a : Option Addr) : (aH PP w0).bq .eql 89 X Y (.pointer a) (.pointer none) = some (.bool a.isNone) := z2 Tryz.underlying89 a
@[go_sem] theorem aLY {w0 : World} {X Y : Operand} (a : Option Addr) : (aH PP w0).bq .neq 89 X Y (.pointer a) (.pointer none) = some (.bool (!a.isNone)) := aI1 Tryz.underlying89 a
theorem aLz : gP PP 103 = true := by kernel_rfl
@[go_sem] theorem aLX {w0 : World} {M : Mem} (a : Addr) : (aH PP w0).ld 103 a M = rd w0 M a := aP aLz a
theorem aF0 : gM PP 130 6 = true := by kernel_rfl
theorem aBl : jV PP 130 (.agg #[.int .i64 0, .int .i64 0, .int .i64 0, .int .i64 0, .int .i64 0, .int .i64 0]) 6 := oB (by kernel_rfl) rfl
theorem aBf : gM PP 138 5 = true := by kernel_rfl
theorem aLP : gP PP 143 = true := by kernel_rfl
@[go_sem] theorem aLZ {w0 : World} {M : Mem} (a : Addr) : (aH PP w0).ld 143 a M = rd w0 M a := aP aLP a
theorem aLR : gP PP 146 = true := by kernel_rfl
theorem aBe : gM PP 149 3 = true := by kernel_rfl
theorem aLI : gP PP 150 = true := by kernel_rfl
theorem aBg : gM PP 153 3 = true := by kernel_rfl
theorem aHa : gP PP 157 = true := by kernel_rfl
theorem aHz : gP PP 206 = true := by kernel_rfl
theorem aEd : gP PP 209 = true := by kernel_rfl
theorem aLg : jV PP 213 (.agg #[.int .i64 0, .bool false, .int .i64 0, .int .i64 0, .int .i64 0]) 5 := oB (by kernel_rfl) rfl
theorem aD0 : gP PP 237 = true := by kernel_rfl
theorem aLn : gM PP 241 7 = true := by kernel_rfl
theorem aKX : jV PP 241 (.agg #[.int .i64 0, .bool false, .int .i64 0, .int .i64 0, .int .i64 0, .int .i64 0, .int .i64 0]) 7 := oB (by kernel_rfl) rfl
theorem aGx : gM PP 251 11 = true := by kernel_rfl
theorem aLS : jV PP 251 (.agg #[.int .i64 0, .int .i64 0, .int .i64 0, .int .i64 0, .int .i64 0, .int .i64 0, .int .i64 0, .int .i64 0, .int .i64 0, .int .i64 0, .bool false]) 11 := oB (by kernel_rfl) rfl
theorem aLc : gM PP 259 5 = true := by kernel_rfl
theorem aK3 : jV PP 259 (.agg #[.int .i64 0, .bool false, .int .i64 0, .int .i64 0, .int .i64 0]) 5 := oB (by kernel_rfl) rfl
theorem aJt : gM PP 276 2 = true := by kernel_rfl
theorem aJb : jV PP 276 (.agg #[.int .i64 0, .int .i64 0]) 2 := oB (by kernel_rfl) rfl
@[go_sem] theorem aLU {w0 : World} (x0 : SV) (x1 : Option Addr) : (aH PP w0).nM 145 [(0, SV.v x0), (3, .pointer x1)] = some (.agg #[SV.v x0, .int .i64 0, .slice none 0 0, .pointer x1]) := by kernel_rfl
@[go_sem] theorem aLr {w0 : World} : (aH PP w0).nM 163 [] = some (.agg #[.int .i64 0, .int .i64 0, .int .i64 0]) := by kernel_rfl
@[go_sem] theorem aLq {w0 : World} (x0 : Bool) : (aH PP w0).nM 251 [(1, .bool x0)] = some (.agg #[.int .i64 0, .int .i64 0, .int .i64 0, .int .i64 0, .int .i64 0, .int .i64 0, .int .i64 0, .int .i64 0, .int .i64 0, .int .i64 0, .bool x0]) := by kernel_rfl
@[go_sem] theorem aLD {w0 : World} (x0 x1 : Int) : (aH PP w0).nM 44 [(0, .int .i64 x0), (1, .int .i64 x1)] = some (.agg #[.int .i64 x0, .int .i64 x1]) := by kernel_rfl
@[go_sem] theorem aLt {w0 : World} : (aH PP w0).nM 44 [] = some (.agg #[.int .i64 0, .int .i64 0]) := by kernel_rfl
end W
end HL
namespace HL
section
variable (pr : Prim) (aB : fE) (w0 : World) {R : VP} {M : Mem}
noncomputable def aK.h : HC := aF (bd Tryz.f5) [([true, true, true, true], [5, 6]), ([true, true, true, true, false, true, false], [1, 5, 6, 7, 8]), ([true, true, true, true, false, true, false, false], [1, 5, 6, 7, 8]), ([true, true, true, true, false, true, false, false, true, false, false, true], [1, 5, 6, 7, 8, 9]), ([true, true, true, true, false, true, false, false, true, false, false, true, true, true, true, true, false, false, true, false], [1, 5, 6, 7, 8, 10, 11])]
def aK.Is (R : VP) : Prop := pK PP pr aB aK.h Tryz.f5 R
abbrev aK.J1 (d_5 m_6 : Option Addr) (M : Mem) : Prop := aB [true, true, true, true, true] [] [(5, .pointer d_5), (6, .pointer m_6)] M
def aK.J1.T (d_5 m_6 : Option Addr) (R : VP) (M : Mem) : Prop := aJ pr aB R (bO PP aK.h (gR Tryz.f5) [true, true, true, true, true] [] [(5, .ptr (.v d_5)), (6, .ptr (.v m_6))] M)
theorem aK.Is.J1 {pr : Prim} {aB : fE} (H : aK.Is pr aB R) (d_5 m_6 : Option Addr) (M : Mem) : aK.J1 aB d_5 m_6 M = aK.J1.T pr aB d_5 m_6 R M := (H _ _ _ _ _ rfl).trans (by kernel_rfl)
abbrev aK.L2 (k : Nat) (l_1 : SV) (d_5 m_6 : Option Addr) (told_7 : SV) (i_8 : Int) (M : Mem) : Prop := aB [false, false, true, false, true, true, true, true] [k] [(1, SV.v l_1), (5, .pointer d_5), (6, .pointer m_6), (7, SV.v told_7), (8, .int .i64 i_8)] M
def aK.L2.T (k : Nat) (l_1 : SV) (d_5 m_6 : Option Addr) (told_7 : SV) (i_8 : Int) (R : VP) (M : Mem) : Prop := aJ pr aB R (bO PP aK.h (gR Tryz.f5) [false, false, true, false, true, true, true, true] [k] [(1, .sv l_1), (5, .ptr (.v d_5)), (6, .ptr (.v m_6)), (7, .sv told_7), (8, .int .i64 (.v i_8))] M)
theorem aK.Is.L2 {pr : Prim} {aB : fE} (H : aK.Is pr aB R) (k : Nat) (l_1 : SV) (d_5 m_6 : Option Addr) (told_7 : SV) (i_8 : Int) (M : Mem) : aK.L2 aB (k + 1) l_1 d_5 m_6 told_7 i_8 M = aK.L2.T pr aB k l_1 d_5 m_6 told_7 i_8 R M := (H _ _ _ _ _ rfl).trans (by kernel_rfl)
abbrev aK.J3 (k : Nat) (l_1 : SV) (d_5 m_6 : Option Addr) (told_7 : SV) (i_8 : Int) (M : Mem) : Prop := aB [true, false, false, true, false, true, true, true, true] [k] [(1, SV.v l_1), (5, .pointer d_5), (6, .pointer m_6), (7, SV.v told_7), (8, .int .i64 i_8)] M
def aK.J3.T (k : Nat) (l_1 : SV) (d_5 m_6 : Option Addr) (told_7 : SV) (i_8 : Int) (R : VP) (M : Mem) : Prop := aJ pr aB R (bO PP aK.h (gR Tryz.f5) [true, false, false, true, false, true, true, true, true] [k] [(1, .sv l_1), (5, .ptr (.v d_5)), (6, .ptr (.v m_6)), (7, .sv told_7), (8, .int .i64 (.v i_8))] M)
theorem aK.Is.J3 {pr : Prim} {aB : fE} (H : aK.Is pr aB R) (k : Nat) (l_1 : SV) (d_5 m_6 : Option Addr) (told_7 : SV) (i_8 : Int) (M : Mem) : aK.J3 aB k l_1 d_5 m_6 told_7 i_8 M = aK.J3.T pr aB k l_1 d_5 m_6 told_7 i_8 R M := (H _ _ _ _ _ rfl).trans (by kernel_rfl)
abbrev aK.J4 (k : Nat) (l_1 : SV) (d_5 m_6 : Option Addr) (told_7 : SV) (i_8 : Int) (c_9 : Addr) (M : Mem) : Prop := aB [true, true, false, false, true, false, false, true, false, true, true, true, true] [k] [(1, SV.v l_1), (5, .pointer d_5), (6, .pointer m_6), (7, SV.v told_7), (8, .int .i64 i_8), (9, .pointer (some c_9))] M
def aK.J4.T (k : Nat) (l_1 : SV) (d_5 m_6 : Option Addr) (told_7 : SV) (i_8 : Int) (c_9 : Addr) (R : VP) (M : Mem) : Prop := aJ pr aB R (bO PP aK.h (gR Tryz.f5) [true, true, false, false, true, false, false, true, false, true, true, true, true] [k] [(1, .sv l_1), (5, .ptr (.v d_5)), (6, .ptr (.v m_6)), (7, .sv told_7), (8, .int .i64 (.v i_8)), (9, .ptr (.a (.v c_9)))] M)
theorem aK.Is.J4 {pr : Prim} {aB : fE} (H : aK.Is pr aB R) (k : Nat) (l_1 : SV) (d_5 m_6 : Option Addr) (told_7 : SV) (i_8 : Int) (c_9 : Addr) (M : Mem) : aK.J4 aB k l_1 d_5 m_6 told_7 i_8 c_9 M = aK.J4.T pr aB k l_1 d_5 m_6 told_7 i_8 c_9 R M := (H _ _ _ _ _ rfl).trans (by kernel_rfl)
abbrev aK.L5 (k : Nat) (k' : Nat) (l_1 : SV) (d_5 m_6 : Option Addr) (told_7 : SV) (i_8 : Int) (r_10 : Addr) (n_11 : Int) (M : Mem) : Prop := aB [false, false, true, false, false, true, true, true, true, true, false, false, true, false, false, true, false, true, true, true, true] [k', k] [(1, SV.v l_1), (5, .pointer d_5), (6, .pointer m_6), (7, SV.v told_7), (8, .int .i64 i_8), (10, .pointer (some r_10)), (11, .int .i64 n_11)] M
def aK.L5.T (k : Nat) (k' : Nat) (l_1 : SV) (d_5 m_6 : Option Addr) (told_7 : SV) (i_8 : Int) (r_10 : Addr) (n_11 : Int) (R : VP) (M : Mem) : Prop := aJ pr aB R (bO PP aK.h (gR Tryz.f5) [false, false, true, false, false, true, true, true, true, true, false, false, true, false, false, true, false, true, true, true, true] [k', k] [(1, .sv l_1), (5, .ptr (.v d_5)), (6, .ptr (.v m_6)), (7, .sv told_7), (8, .int .i64 (.v i_8)), (10, .ptr (.a (.v r_10))), (11, .int .i64 (.v n_11))] M)
theorem aK.Is.L5 {pr : Prim} {aB : fE} (H : aK.Is pr aB R) (k : Nat) (k' : Nat) (l_1 : SV) (d_5 m_6 : Option Addr) (told_7 : SV) (i_8 : Int) (r_10 : Addr) (n_11 : Int) (M : Mem) : aK.L5 aB k (k' + 1) l_1 d_5 m_6 told_7 i_8 r_10 n_11 M = aK.L5.T pr aB k k' l_1 d_5 m_6 told_7 i_8 r_10 n_11 R M := (H _ _ _ _ _ rfl).trans (by kernel_rfl)
def aK.T (k : Int) (l : SV) (R : VP) (M : Mem) : Prop := aJ pr aB R (gX PP aK.h [] [] (gR Tryz.f5) [(0, .int .i64 (.v k)), (1, .sv l)] M)
theorem aK.go (k : Int) (l : SV) (h : ∀ aB, aK.Is (aH PP w0) aB R → aK.T (aH PP w0) aB k l R M) : C PP w0 Id.aK #[.int .i64 k, SV.v l] R M :=
  c8 mixed (h := aK.h) (T := fun pr aB => aK.T pr aB k l R M) Tryz.func5 (cZ _ _) (by kernel_rfl) (fun pr aB => by kernel_rfl) h
noncomputable def cK.h : HC := aF (bd Tryz.f9) [([true], [0, 1, 2])]
def cK.Is (R : VP) : Prop := pK PP pr aB cK.h Tryz.f9 R
abbrev cK.J1 (n_0 lo_1 hi_2 : Int) (M : Mem) : Prop := aB [true, true] [] [(0, .int .i64 n_0), (1, .int .i64 lo_1), (2, .int .i64 hi_2)] M
def cK.J1.T (n_0 lo_1 hi_2 : Int) (R : VP) (M : Mem) : Prop := aJ pr aB R (bO PP cK.h (gR Tryz.f9) [true, true] [] [(0, .int .i64 (.v n_0)), (1, .int .i64 (.v lo_1)), (2, .int .i64 (.v hi_2))] M)
theorem cK.Is.J1 {pr : Prim} {aB : fE} (H : cK.Is pr aB R) (n_0 lo_1 hi_2 : Int) (M : Mem) : cK.J1 aB n_0 lo_1 hi_2 M = cK.J1.T pr aB n_0 lo_1 hi_2 R M := (H _ _ _ _ _ rfl).trans (by kernel_rfl)
def cK.T (n lo hi : Int) (R : VP) (M : Mem) : Prop := aJ pr aB R (gX PP cK.h [] [] (gR Tryz.f9) [(0, .int .i64 (.v n)), (1, .int .i64 (.v lo)), (2, .int .i64 (.v hi))] M)
theorem cK.go (n lo hi : Int) (h : ∀ aB, cK.Is (aH PP w0) aB R → cK.T (aH PP w0) aB n lo hi R M) : C PP w0 Id.cK #[.int .i64 n, .int .i64 lo, .int .i64 hi] R M :=
  c8 mixed (h := cK.h) (T := fun pr aB => cK.T pr aB n lo hi R M) Tryz.func9 (cZ _ _) (by kernel_rfl) (fun pr aB => by kernel_rfl) h
noncomputable def jN.h : HC := aF (bd Tryz.f10) [([true], [0])]
def jN.Is (R : VP) : Prop := pK PP pr aB jN.h Tryz.f10 R
abbrev jN.J1 (items_0 : Int) (M : Mem) : Prop := aB [true, true] [] [(0, .int .i64 items_0)] M
def jN.J1.T (items_0 : Int) (R : VP) (M : Mem) : Prop := aJ pr aB R (bO PP jN.h (gR Tryz.f10) [true, true] [] [(0, .int .i64 (.v items_0))] M)
theorem jN.Is.J1 {pr : Prim} {aB : fE} (H : jN.Is pr aB R) (items_0 : Int) (M : Mem) : jN.J1 aB items_0 M = jN.J1.T pr aB items_0 R M := (H _ _ _ _ _ rfl).trans (by kernel_rfl)
def jN.T (items : Int) (R : VP) (M : Mem) : Prop := aJ pr aB R (gX PP jN.h [] [] (gR Tryz.f10) [(0, .int .i64 (.v items))] M)
theorem jN.go (items : Int) (h : ∀ aB, jN.Is (aH PP w0) aB R → jN.T (aH PP w0) aB items R M) : C PP w0 Id.jN #[.int .i64 items] R M :=
  c8 mixed (h := jN.h) (T := fun pr aB => jN.T pr aB items R M) Tryz.func10 (cZ _ _) (by kernel_rfl) (fun pr aB => by kernel_rfl) h
end
end HL
namespace HL
section
variable (pr : Prim) (aB : fE) (w0 : World) {R : VP} {M : Mem}
noncomputable def iK.h : HC := aF (bd Tryz.f14) []
def iK.T (q : Option Addr) (c_0 c_1 c_2 c_3 c_4 c_5 c_6 c_7 c_8 : Int) (R : VP) (M : Mem) : Prop := aJ pr (fun _ _ _ _ => False) R (gX PP iK.h [] [] (gR Tryz.f14) [(0, .ptr (.v q)), (1, .agg [.int .i64 (.v c_0), .int .i64 (.v c_1), .int .i64 (.v c_2), .int .i64 (.v c_3), .int .i64 (.v c_4), .int .i64 (.v c_5), .int .i64 (.v c_6), .int .i64 (.v c_7), .int .i64 (.v c_8)])] M)
theorem iK.go (q : Option Addr) (c_0 c_1 c_2 c_3 c_4 c_5 c_6 c_7 c_8 : Int) (h : iK.T (aH PP w0) q c_0 c_1 c_2 c_3 c_4 c_5 c_6 c_7 c_8 R M) : C PP w0 Id.iK #[.pointer q, .agg #[.int .i64 c_0, .int .i64 c_1, .int .i64 c_2, .int .i64 c_3, .int .i64 c_4, .int .i64 c_5, .int .i64 c_6, .int .i64 c_7, .int .i64 c_8]] R M :=
  c8 mixed (h := iK.h) (T := fun pr aB => iK.T pr q c_0 c_1 c_2 c_3 c_4 c_5 c_6 c_7 c_8 R M) Tryz.func14 (cZ _ _) (by kernel_rfl) (fun pr aB => by kernel_rfl) fun _ _ => h
noncomputable def lZ.h : HC := aF (bd Tryz.f16) []
def lZ.T (q : Option Addr) (R : VP) (M : Mem) : Prop := aJ pr (fun _ _ _ _ => False) R (gX PP lZ.h [] [] (gR Tryz.f16) [(0, .ptr (.v q))] M)
theorem lZ.go (q : Option Addr) (h : lZ.T (aH PP w0) q R M) : C PP w0 Id.lZ #[.pointer q] R M :=
  c8 mixed (h := lZ.h) (T := fun pr aB => lZ.T pr q R M) Tryz.func16 (cZ _ _) (by kernel_rfl) (fun pr aB => by kernel_rfl) fun _ _ => h
noncomputable def eX.h : HC := aF (bd Tryz.f19) [([true], [0, 1, 2])]
def eX.Is (R : VP) : Prop := pK PP pr aB eX.h Tryz.f19 R
abbrev eX.J1 (k_0 op_1 n_2 : Int) (M : Mem) : Prop := aB [true, true] [] [(0, .int .i64 k_0), (1, .int .i64 op_1), (2, .int .i64 n_2)] M
def eX.J1.T (k_0 op_1 n_2 : Int) (R : VP) (M : Mem) : Prop := aJ pr aB R (bO PP eX.h (gR Tryz.f19) [true, true] [] [(0, .int .i64 (.v k_0)), (1, .int .i64 (.v op_1)), (2, .int .i64 (.v n_2))] M)
theorem eX.Is.J1 {pr : Prim} {aB : fE} (H : eX.Is pr aB R) (k_0 op_1 n_2 : Int) (M : Mem) : eX.J1 aB k_0 op_1 n_2 M = eX.J1.T pr aB k_0 op_1 n_2 R M := (H _ _ _ _ _ rfl).trans (by kernel_rfl)
def eX.T (k op n : Int) (R : VP) (M : Mem) : Prop := aJ pr aB R (gX PP eX.h [] [] (gR Tryz.f19) [(0, .int .i64 (.v k)), (1, .int .i64 (.v op)), (2, .int .i64 (.v n))] M)
theorem eX.go (k op n : Int) (h : ∀ aB, eX.Is (aH PP w0) aB R → eX.T (aH PP w0) aB k op n R M) : C PP w0 Id.eX #[.int .i64 k, .int .i64 op, .int .i64 n] R M :=
  c8 mixed (h := eX.h) (T := fun pr aB => eX.T pr aB k op n R M) Tryz.func19 (cZ _ _) (by kernel_rfl) (fun pr aB => by kernel_rfl) h
noncomputable def eS.h : HC := aF (bd Tryz.f21) [([true, true], [1])]
def eS.Is (R : VP) : Prop := pK PP pr aB eS.h Tryz.f21 R
abbrev eS.J1 (q_1 : Option Addr) (M : Mem) : Prop := aB [true, true, true] [] [(1, .pointer q_1)] M
def eS.J1.T (q_1 : Option Addr) (R : VP) (M : Mem) : Prop := aJ pr aB R (bO PP eS.h (gR Tryz.f21) [true, true, true] [] [(1, .ptr (.v q_1))] M)
theorem eS.Is.J1 {pr : Prim} {aB : fE} (H : eS.Is pr aB R) (q_1 : Option Addr) (M : Mem) : eS.J1 aB q_1 M = eS.J1.T pr aB q_1 R M := (H _ _ _ _ _ rfl).trans (by kernel_rfl)
def eS.T (R : VP) (M : Mem) : Prop := aJ pr aB R (gX PP eS.h [] [] (gR Tryz.f21) [] M)
theorem eS.go (h : ∀ aB, eS.Is (aH PP w0) aB R → eS.T (aH PP w0) aB R M) : C PP w0 Id.eS #[] R M :=
  c8 mixed (h := eS.h) (T := fun pr aB => eS.T pr aB R M) Tryz.func21 (cZ _ _) (by kernel_rfl) (fun pr aB => by kernel_rfl) h
noncomputable def fI.h : HC := aF (bd Tryz.f22) []
def fI.T (k jobs : Int) (R : VP) (M : Mem) : Prop := aJ pr (fun _ _ _ _ => False) R (gX PP fI.h [] [] (gR Tryz.f22) [(0, .int .i64 (.v k)), (1, .int .i64 (.v jobs))] M)
theorem fI.go (k jobs : Int) (h : fI.T (aH PP w0) k jobs R M) : C PP w0 Id.fI #[.int .i64 k, .int .i64 jobs] R M :=
  c8 mixed (h := fI.h) (T := fun pr aB => fI.T pr k jobs R M) Tryz.func22 (cZ _ _) (by kernel_rfl) (fun pr aB => by kernel_rfl) fun _ _ => h
noncomputable def vT.h : HC := aF (bd Tryz.f23) []
def vT.T (d : Option Addr) (c_0 c_1 c_2 c_3 c_4 c_5 : Int) (R : VP) (M : Mem) : Prop := aJ pr (fun _ _ _ _ => False) R (gX PP vT.h [] [] (gR Tryz.f23) [(0, .ptr (.v d)), (1, .agg [.int .i64 (.v c_0), .int .i64 (.v c_1), .int .i64 (.v c_2), .int .i64 (.v c_3), .int .i64 (.v c_4), .int .i64 (.v c_5)])] M)
theorem vT.go (d : Option Addr) (c_0 c_1 c_2 c_3 c_4 c_5 : Int) (h : vT.T (aH PP w0) d c_0 c_1 c_2 c_3 c_4 c_5 R M) : C PP w0 Id.vT #[.pointer d, .agg #[.int .i64 c_0, .int .i64 c_1, .int .i64 c_2, .int .i64 c_3, .int .i64 c_4, .int .i64 c_5]] R M :=
  c8 mixed (h := vT.h) (T := fun pr aB => vT.T pr d c_0 c_1 c_2 c_3 c_4 c_5 R M) Tryz.func23 (cZ _ _) (by kernel_rfl) (fun pr aB => by kernel_rfl) fun _ _ => h
noncomputable def fA.h : HC := aF (bd Tryz.f25) [([true, false, true, false], [0, 3, 4, 9, 10]), ([true, false, true, false, true, true], [0, 3, 4, 9, 27])]
def fA.Is (R : VP) : Prop := pK PP pr aB fA.h Tryz.f25 R
abbrev fA.J1 (d_0 : Option Addr) (c_3 : Addr) (t4 : Addr) (t9 : Int) (t10 : Bool) (M : Mem) : Prop := aB [true, false, true, false, true] [] [(0, .pointer d_0), (3, .pointer (some c_3)), (4, .pointer (some t4)), (9, .int .i64 t9), (10, .bool t10)] M
def fA.J1.T (d_0 : Option Addr) (c_3 : Addr) (t4 : Addr) (t9 : Int) (t10 : Bool) (R : VP) (M : Mem) : Prop := aJ pr aB R (bO PP fA.h (gR Tryz.f25) [true, false, true, false, true] [] [(0, .ptr (.v d_0)), (3, .ptr (.a (.v c_3))), (4, .ptr (.a (.v t4))), (9, .int .i64 (.v t9)), (10, .bool (.v t10))] M)
theorem fA.Is.J1 {pr : Prim} {aB : fE} (H : fA.Is pr aB R) (d_0 : Option Addr) (c_3 : Addr) (t4 : Addr) (t9 : Int) (t10 : Bool) (M : Mem) : fA.J1 aB d_0 c_3 t4 t9 t10 M = fA.J1.T pr aB d_0 c_3 t4 t9 t10 R M := (H _ _ _ _ _ rfl).trans (by kernel_rfl)
abbrev fA.J2 (d_0 : Option Addr) (c_3 : Addr) (t4 : Addr) (t9 : Int) (t27 : Bool) (M : Mem) : Prop := aB [true, true, true, false, true, false, true] [] [(0, .pointer d_0), (3, .pointer (some c_3)), (4, .pointer (some t4)), (9, .int .i64 t9), (27, .bool t27)] M
def fA.J2.T (d_0 : Option Addr) (c_3 : Addr) (t4 : Addr) (t9 : Int) (t27 : Bool) (R : VP) (M : Mem) : Prop := aJ pr aB R (bO PP fA.h (gR Tryz.f25) [true, true, true, false, true, false, true] [] [(0, .ptr (.v d_0)), (3, .ptr (.a (.v c_3))), (4, .ptr (.a (.v t4))), (9, .int .i64 (.v t9)), (27, .bool (.v t27))] M)
theorem fA.Is.J2 {pr : Prim} {aB : fE} (H : fA.Is pr aB R) (d_0 : Option Addr) (c_3 : Addr) (t4 : Addr) (t9 : Int) (t27 : Bool) (M : Mem) : fA.J2 aB d_0 c_3 t4 t9 t27 M = fA.J2.T pr aB d_0 c_3 t4 t9 t27 R M := (H _ _ _ _ _ rfl).trans (by kernel_rfl)
def fA.T (d : Option Addr) (c_0 c_1 c_2 c_3 c_4 c_5 : Int) (R : VP) (M : Mem) : Prop := aJ pr aB R (gX PP fA.h [] [] (gR Tryz.f25) [(0, .ptr (.v d)), (1, .agg [.int .i64 (.v c_0), .int .i64 (.v c_1), .int .i64 (.v c_2), .int .i64 (.v c_3), .int .i64 (.v c_4), .int .i64 (.v c_5)])] M)
theorem fA.go (d : Option Addr) (c_0 c_1 c_2 c_3 c_4 c_5 : Int) (h : ∀ aB, fA.Is (aH PP w0) aB R → fA.T (aH PP w0) aB d c_0 c_1 c_2 c_3 c_4 c_5 R M) : C PP w0 Id.fA #[.pointer d, .agg #[.int .i64 c_0, .int .i64 c_1, .int .i64 c_2, .int .i64 c_3, .int .i64 c_4, .int .i64 c_5]] R M :=
  c8 mixed (h := fA.h) (T := fun pr aB => fA.T pr aB d c_0 c_1 c_2 c_3 c_4 c_5 R M) Tryz.func25 (cZ _ _) (by kernel_rfl) (fun pr aB => by kernel_rfl) h
noncomputable def rA.h : HC := aF (bd Tryz.f26) []
def rA.T (d : Option Addr) (R : VP) (M : Mem) : Prop := aJ pr (fun _ _ _ _ => False) R (gX PP rA.h [] [] (gR Tryz.f26) [(0, .ptr (.v d))] M)
theorem rA.go (d : Option Addr) (h : rA.T (aH PP w0) d R M) : C PP w0 Id.rA #[.pointer d] R M :=
  c8 mixed (h := rA.h) (T := fun pr aB => rA.T pr d R M) Tryz.func26 (cZ _ _) (by kernel_rfl) (fun pr aB => by kernel_rfl) fun _ _ => h
noncomputable def bG.h : HC := aF (bd Tryz.f31) [([true, true, true, true, true, true, false, true, false], [0, 8, 10, 38])]
def bG.Is (R : VP) : Prop := pK PP pr aB bG.h Tryz.f31 R
abbrev bG.L1 (k : Nat) (k_0 : Int) (q_8 d_10 : Option Addr) (t38 : Int) (M : Mem) : Prop := aB [false, false, true, false, true, true, true, true, true, true] [k] [(0, .int .i64 k_0), (8, .pointer q_8), (10, .pointer d_10), (38, .int .i64 t38)] M
def bG.L1.T (k : Nat) (k_0 : Int) (q_8 d_10 : Option Addr) (t38 : Int) (R : VP) (M : Mem) : Prop := aJ pr aB R (bO PP bG.h (gR Tryz.f31) [false, false, true, false, true, true, true, true, true, true] [k] [(0, .int .i64 (.v k_0)), (8, .ptr (.v q_8)), (10, .ptr (.v d_10)), (38, .int .i64 (.v t38))] M)
theorem bG.Is.L1 {pr : Prim} {aB : fE} (H : bG.Is pr aB R) (k : Nat) (k_0 : Int) (q_8 d_10 : Option Addr) (t38 : Int) (M : Mem) : bG.L1 aB (k + 1) k_0 q_8 d_10 t38 M = bG.L1.T pr aB k k_0 q_8 d_10 t38 R M := (H _ _ _ _ _ rfl).trans (by kernel_rfl)
def bG.T (k most : Int) (R : VP) (M : Mem) : Prop := aJ pr aB R (gX PP bG.h [] [] (gR Tryz.f31) [(0, .int .i64 (.v k)), (1, .int .i64 (.v most))] M)
theorem bG.go (k most : Int) (h : ∀ aB, bG.Is (aH PP w0) aB R → bG.T (aH PP w0) aB k most R M) : C PP w0 Id.bG #[.int .i64 k, .int .i64 most] R M :=
  c8 mixed (h := bG.h) (T := fun pr aB => bG.T pr aB k most R M) Tryz.func31 (cZ _ _) (by kernel_rfl) (fun pr aB => by kernel_rfl) h
noncomputable def j7.h : HC := aF (bd Tryz.f35) []
def j7.T (cells : Int) (R : VP) (M : Mem) : Prop := aJ pr (fun _ _ _ _ => False) R (gX PP j7.h [] [] (gR Tryz.f35) [(0, .int .i64 (.v cells))] M)
theorem j7.go (cells : Int) (h : j7.T (aH PP w0) cells R M) : C PP w0 Id.j7 #[.int .i64 cells] R M :=
  c8 mixed (h := j7.h) (T := fun pr aB => j7.T pr cells R M) Tryz.func35 (cZ _ _) (by kernel_rfl) (fun pr aB => by kernel_rfl) fun _ _ => h
noncomputable def kL.h : HC := aF (bd Tryz.f36) []
def kL.T (items : Int) (R : VP) (M : Mem) : Prop := aJ pr (fun _ _ _ _ => False) R (gX PP kL.h [] [] (gR Tryz.f36) [(0, .int .i64 (.v items))] M)
theorem kL.go (items : Int) (h : kL.T (aH PP w0) items R M) : C PP w0 Id.kL #[.int .i64 items] R M :=
  c8 mixed (h := kL.h) (T := fun pr aB => kL.T pr items R M) Tryz.func36 (cZ _ _) (by kernel_rfl) (fun pr aB => by kernel_rfl) fun _ _ => h
noncomputable def qQ.h : HC := aF (bd Tryz.f37) []
def qQ.T (places : Int) (R : VP) (M : Mem) : Prop := aJ pr (fun _ _ _ _ => False) R (gX PP qQ.h [] [] (gR Tryz.f37) [(0, .int .i64 (.v places))] M)
theorem qQ.go (places : Int) (h : qQ.T (aH PP w0) places R M) : C PP w0 Id.qQ #[.int .i64 places] R M :=
  c8 mixed (h := qQ.h) (T := fun pr aB => qQ.T pr places R M) Tryz.func37 (cZ _ _) (by kernel_rfl) (fun pr aB => by kernel_rfl) fun _ _ => h
noncomputable def jU.h : HC := aF (bd Tryz.f40) []
def jU.T (a : Option Addr) (R : VP) (M : Mem) : Prop := aJ pr (fun _ _ _ _ => False) R (gX PP jU.h [] [] (gR Tryz.f40) [(0, .ptr (.v a))] M)
theorem jU.go (a : Option Addr) (h : jU.T (aH PP w0) a R M) : C PP w0 Id.jU #[.pointer a] R M :=
  c8 mixed (h := jU.h) (T := fun pr aB => jU.T pr a R M) Tryz.func40 (cZ _ _) (by kernel_rfl) (fun pr aB => by kernel_rfl) fun _ _ => h
noncomputable def lU.h : HC := aF (bd Tryz.f41) []
def lU.T (m : Option Addr) (R : VP) (M : Mem) : Prop := aJ pr (fun _ _ _ _ => False) R (gX PP lU.h [] [] (gR Tryz.f41) [(0, .ptr (.v m))] M)
theorem lU.go (m : Option Addr) (h : lU.T (aH PP w0) m R M) : C PP w0 Id.lU #[.pointer m] R M :=
  c8 mixed (h := lU.h) (T := fun pr aB => lU.T pr m R M) Tryz.func41 (cZ _ _) (by kernel_rfl) (fun pr aB => by kernel_rfl) fun _ _ => h
noncomputable def oC.h : HC := aF (bd Tryz.f42) []
def oC.T (t : Option Addr) (k : Int) (R : VP) (M : Mem) : Prop := aJ pr (fun _ _ _ _ => False) R (gX PP oC.h [] [] (gR Tryz.f42) [(0, .ptr (.v t)), (1, .int .i64 (.v k))] M)
theorem oC.go (t : Option Addr) (k : Int) (h : oC.T (aH PP w0) t k R M) : C PP w0 Id.oC #[.pointer t, .int .i64 k] R M :=
  c8 mixed (h := oC.h) (T := fun pr aB => oC.T pr t k R M) Tryz.func42 (cZ _ _) (by kernel_rfl) (fun pr aB => by kernel_rfl) fun _ _ => h
noncomputable def kR.h : HC := aF (bd Tryz.f43) []
def kR.T (q : Option Addr) (c_0 c_1 c_2 c_3 c_4 c_5 c_6 c_7 c_8 : Int) (R : VP) (M : Mem) : Prop := aJ pr (fun _ _ _ _ => False) R (gX PP kR.h [] [] (gR Tryz.f43) [(0, .ptr (.v q)), (1, .agg [.int .i64 (.v c_0), .int .i64 (.v c_1), .int .i64 (.v c_2), .int .i64 (.v c_3), .int .i64 (.v c_4), .int .i64 (.v c_5), .int .i64 (.v c_6), .int .i64 (.v c_7), .int .i64 (.v c_8)])] M)
theorem kR.go (q : Option Addr) (c_0 c_1 c_2 c_3 c_4 c_5 c_6 c_7 c_8 : Int) (h : kR.T (aH PP w0) q c_0 c_1 c_2 c_3 c_4 c_5 c_6 c_7 c_8 R M) : C PP w0 Id.kR #[.pointer q, .agg #[.int .i64 c_0, .int .i64 c_1, .int .i64 c_2, .int .i64 c_3, .int .i64 c_4, .int .i64 c_5, .int .i64 c_6, .int .i64 c_7, .int .i64 c_8]] R M :=
  c8 mixed (h := kR.h) (T := fun pr aB => kR.T pr q c_0 c_1 c_2 c_3 c_4 c_5 c_6 c_7 c_8 R M) Tryz.func43 (cZ _ _) (by kernel_rfl) (fun pr aB => by kernel_rfl) fun _ _ => h
noncomputable def mB.h : HC := aF (bd Tryz.f44) []
def mB.T (q : Option Addr) (h_1_0 h_1_1 : Int) (out : Bool) (R : VP) (M : Mem) : Prop := aJ pr (fun _ _ _ _ => False) R (gX PP mB.h [] [] (gR Tryz.f44) [(0, .ptr (.v q)), (1, .agg [.int .i64 (.v h_1_0), .int .i64 (.v h_1_1)]), (2, .bool (.v out))] M)
theorem mB.go (q : Option Addr) (h_1_0 h_1_1 : Int) (out : Bool) (h : mB.T (aH PP w0) q h_1_0 h_1_1 out R M) : C PP w0 Id.mB #[.pointer q, .agg #[.int .i64 h_1_0, .int .i64 h_1_1], .bool out] R M :=
  c8 mixed (h := mB.h) (T := fun pr aB => mB.T pr q h_1_0 h_1_1 out R M) Tryz.func44 (cZ _ _) (by kernel_rfl) (fun pr aB => by kernel_rfl) fun _ _ => h
noncomputable def gT.h : HC := aF (bd Tryz.f45) []
def gT.T (q : Option Addr) (c_0 c_1 c_2 c_3 c_4 c_5 c_6 c_7 c_8 : Int) (R : VP) (M : Mem) : Prop := aJ pr (fun _ _ _ _ => False) R (gX PP gT.h [] [] (gR Tryz.f45) [(0, .ptr (.v q)), (1, .agg [.int .i64 (.v c_0), .int .i64 (.v c_1), .int .i64 (.v c_2), .int .i64 (.v c_3), .int .i64 (.v c_4), .int .i64 (.v c_5), .int .i64 (.v c_6), .int .i64 (.v c_7), .int .i64 (.v c_8)])] M)
theorem gT.go (q : Option Addr) (c_0 c_1 c_2 c_3 c_4 c_5 c_6 c_7 c_8 : Int) (h : gT.T (aH PP w0) q c_0 c_1 c_2 c_3 c_4 c_5 c_6 c_7 c_8 R M) : C PP w0 Id.gT #[.pointer q, .agg #[.int .i64 c_0, .int .i64 c_1, .int .i64 c_2, .int .i64 c_3, .int .i64 c_4, .int .i64 c_5, .int .i64 c_6, .int .i64 c_7, .int .i64 c_8]] R M :=
  c8 mixed (h := gT.h) (T := fun pr aB => gT.T pr q c_0 c_1 c_2 c_3 c_4 c_5 c_6 c_7 c_8 R M) Tryz.func45 (cZ _ _) (by kernel_rfl) (fun pr aB => by kernel_rfl) fun _ _ => h
noncomputable def kP.h : HC := aF (bd Tryz.f46) []
def kP.T (q : Option Addr) (i_0 i_1 : Int) (R : VP) (M : Mem) : Prop := aJ pr (fun _ _ _ _ => False) R (gX PP kP.h [] [] (gR Tryz.f46) [(0, .ptr (.v q)), (1, .agg [.int .i64 (.v i_0), .int .i64 (.v i_1)])] M)
theorem kP.go (q : Option Addr) (i_0 i_1 : Int) (h : kP.T (aH PP w0) q i_0 i_1 R M) : C PP w0 Id.kP #[.pointer q, .agg #[.int .i64 i_0, .int .i64 i_1]] R M :=
  c8 mixed (h := kP.h) (T := fun pr aB => kP.T pr q i_0 i_1 R M) Tryz.func46 (cZ _ _) (by kernel_rfl) (fun pr aB => by kernel_rfl) fun _ _ => h
noncomputable def oN.h : HC := aF (bd Tryz.f47) []
def oN.T (q : Option Addr) (h_1_0 h_1_1 o_0 o_1 : Int) (R : VP) (M : Mem) : Prop := aJ pr (fun _ _ _ _ => False) R (gX PP oN.h [] [] (gR Tryz.f47) [(0, .ptr (.v q)), (1, .agg [.int .i64 (.v h_1_0), .int .i64 (.v h_1_1)]), (2, .agg [.int .i64 (.v o_0), .int .i64 (.v o_1)])] M)
theorem oN.go (q : Option Addr) (h_1_0 h_1_1 o_0 o_1 : Int) (h : oN.T (aH PP w0) q h_1_0 h_1_1 o_0 o_1 R M) : C PP w0 Id.oN #[.pointer q, .agg #[.int .i64 h_1_0, .int .i64 h_1_1], .agg #[.int .i64 o_0, .int .i64 o_1]] R M :=
  c8 mixed (h := oN.h) (T := fun pr aB => oN.T pr q h_1_0 h_1_1 o_0 o_1 R M) Tryz.func47 (cZ _ _) (by kernel_rfl) (fun pr aB => by kernel_rfl) fun _ _ => h
noncomputable def oV.h : HC := aF (bd Tryz.f48) []
def oV.T (t : Option Addr) (h_1_0 h_1_1 : Int) (R : VP) (M : Mem) : Prop := aJ pr (fun _ _ _ _ => False) R (gX PP oV.h [] [] (gR Tryz.f48) [(0, .ptr (.v t)), (1, .agg [.int .i64 (.v h_1_0), .int .i64 (.v h_1_1)])] M)
theorem oV.go (t : Option Addr) (h_1_0 h_1_1 : Int) (h : oV.T (aH PP w0) t h_1_0 h_1_1 R M) : C PP w0 Id.oV #[.pointer t, .agg #[.int .i64 h_1_0, .int .i64 h_1_1]] R M :=
  c8 mixed (h := oV.h) (T := fun pr aB => oV.T pr t h_1_0 h_1_1 R M) Tryz.func48 (cZ _ _) (by kernel_rfl) (fun pr aB => by kernel_rfl) fun _ _ => h
noncomputable def iY.h : HC := aF (bd Tryz.f50) []
def iY.T (why : Int) (R : VP) (M : Mem) : Prop := aJ pr (fun _ _ _ _ => False) R (gX PP iY.h [] [] (gR Tryz.f50) [(0, .int .i64 (.v why))] M)
theorem iY.go (why : Int) (h : iY.T (aH PP w0) why R M) : C PP w0 Id.iY #[.int .i64 why] R M :=
  c8 mixed (h := iY.h) (T := fun pr aB => iY.T pr why R M) Tryz.func50 (cZ _ _) (by kernel_rfl) (fun pr aB => by kernel_rfl) fun _ _ => h
noncomputable def fW.h : HC := aF (bd Tryz.f51) [([true, true], [0, 1, 4, 6])]
def fW.Is (R : VP) : Prop := pK PP pr aB fW.h Tryz.f51 R
abbrev fW.J1 (p_0 : Option Addr) (v_1 : Int) (t4 : Addr) (at_6 : Int) (M : Mem) : Prop := aB [true, true, true] [] [(0, .pointer p_0), (1, .int .i64 v_1), (4, .pointer (some t4)), (6, .int .i64 at_6)] M
def fW.J1.T (p_0 : Option Addr) (v_1 : Int) (t4 : Addr) (at_6 : Int) (R : VP) (M : Mem) : Prop := aJ pr aB R (bO PP fW.h (gR Tryz.f51) [true, true, true] [] [(0, .ptr (.v p_0)), (1, .int .i64 (.v v_1)), (4, .ptr (.a (.v t4))), (6, .int .i64 (.v at_6))] M)
theorem fW.Is.J1 {pr : Prim} {aB : fE} (H : fW.Is pr aB R) (p_0 : Option Addr) (v_1 : Int) (t4 : Addr) (at_6 : Int) (M : Mem) : fW.J1 aB p_0 v_1 t4 at_6 M = fW.J1.T pr aB p_0 v_1 t4 at_6 R M := (H _ _ _ _ _ rfl).trans (by kernel_rfl)
def fW.T (p : Option Addr) (v : Int) (R : VP) (M : Mem) : Prop := aJ pr aB R (gX PP fW.h [] [] (gR Tryz.f51) [(0, .ptr (.v p)), (1, .int .i64 (.v v))] M)
theorem fW.go (p : Option Addr) (v : Int) (h : ∀ aB, fW.Is (aH PP w0) aB R → fW.T (aH PP w0) aB p v R M) : C PP w0 Id.fW #[.pointer p, .int .i64 v] R M :=
  c8 mixed (h := fW.h) (T := fun pr aB => fW.T pr aB p v R M) Tryz.func51 (cZ _ _) (by kernel_rfl) (fun pr aB => by kernel_rfl) h
noncomputable def lG.h : HC := aF (bd Tryz.f54) []
def lG.T (m : Option Addr) (R : VP) (M : Mem) : Prop := aJ pr (fun _ _ _ _ => False) R (gX PP lG.h [] [] (gR Tryz.f54) [(0, .ptr (.v m))] M)
theorem lG.go (m : Option Addr) (h : lG.T (aH PP w0) m R M) : C PP w0 Id.lG #[.pointer m] R M :=
  c8 mixed (h := lG.h) (T := fun pr aB => lG.T pr m R M) Tryz.func54 (cZ _ _) (by kernel_rfl) (fun pr aB => by kernel_rfl) fun _ _ => h
noncomputable def kW.h : HC := aF (bd Tryz.f55) []
def kW.T (a b : Int) (R : VP) (M : Mem) : Prop := aJ pr (fun _ _ _ _ => False) R (gX PP kW.h [] [] (gR Tryz.f55) [(0, .int .i64 (.v a)), (1, .int .i64 (.v b))] M)
theorem kW.go (a b : Int) (h : kW.T (aH PP w0) a b R M) : C PP w0 Id.kW #[.int .i64 a, .int .i64 b] R M :=
  c8 mixed (h := kW.h) (T := fun pr aB => kW.T pr a b R M) Tryz.func55 (cZ _ _) (by kernel_rfl) (fun pr aB => by kernel_rfl) fun _ _ => h
end
end HL
namespace HL
section
variable (pr : Prim) (aB : fE) (w0 : World) {R : VP} {M : Mem}
noncomputable def m6.h : HC := aF (bd Tryz.f57) []
def m6.T (m : Option Addr) (R : VP) (M : Mem) : Prop := aJ pr (fun _ _ _ _ => False) R (gX PP m6.h [] [] (gR Tryz.f57) [(0, .ptr (.v m))] M)
theorem m6.go (m : Option Addr) (h : m6.T (aH PP w0) m R M) : C PP w0 Id.m6 #[.pointer m] R M :=
  c8 mixed (h := m6.h) (T := fun pr aB => m6.T pr m R M) Tryz.func57 (cZ _ _) (by kernel_rfl) (fun pr aB => by kernel_rfl) fun _ _ => h
noncomputable def jE.h : HC := aF (bd Tryz.f58) []
def jE.T (k : Int) (R : VP) (M : Mem) : Prop := aJ pr (fun _ _ _ _ => False) R (gX PP jE.h [] [] (gR Tryz.f58) [(0, .int .i64 (.v k))] M)
theorem jE.go (k : Int) (h : jE.T (aH PP w0) k R M) : C PP w0 Id.jE #[.int .i64 k] R M :=
  c8 mixed (h := jE.h) (T := fun pr aB => jE.T pr k R M) Tryz.func58 (cZ _ _) (by kernel_rfl) (fun pr aB => by kernel_rfl) fun _ _ => h
noncomputable def jD.h : HC := aF (bd Tryz.f60) []
def jD.T (k : Int) (R : VP) (M : Mem) : Prop := aJ pr (fun _ _ _ _ => False) R (gX PP jD.h [] [] (gR Tryz.f60) [(0, .int .i64 (.v k))] M)
theorem jD.go (k : Int) (h : jD.T (aH PP w0) k R M) : C PP w0 Id.jD #[.int .i64 k] R M :=
  c8 mixed (h := jD.h) (T := fun pr aB => jD.T pr k R M) Tryz.func60 (cZ _ _) (by kernel_rfl) (fun pr aB => by kernel_rfl) fun _ _ => h
noncomputable def mA.h : HC := aF (bd Tryz.f62) []
def mA.T (t : Option Addr) (R : VP) (M : Mem) : Prop := aJ pr (fun _ _ _ _ => False) R (gX PP mA.h [] [] (gR Tryz.f62) [(0, .ptr (.v t))] M)
theorem mA.go (t : Option Addr) (h : mA.T (aH PP w0) t R M) : C PP w0 Id.mA #[.pointer t] R M :=
  c8 mixed (h := mA.h) (T := fun pr aB => mA.T pr t R M) Tryz.func62 (cZ _ _) (by kernel_rfl) (fun pr aB => by kernel_rfl) fun _ _ => h
noncomputable def p7.h : HC := aF (bd Tryz.f63) []
def p7.T (jobs : Int) (R : VP) (M : Mem) : Prop := aJ pr (fun _ _ _ _ => False) R (gX PP p7.h [] [] (gR Tryz.f63) [(0, .int .i64 (.v jobs))] M)
theorem p7.go (jobs : Int) (h : p7.T (aH PP w0) jobs R M) : C PP w0 Id.p7 #[.int .i64 jobs] R M :=
  c8 mixed (h := p7.h) (T := fun pr aB => p7.T pr jobs R M) Tryz.func63 (cZ _ _) (by kernel_rfl) (fun pr aB => by kernel_rfl) fun _ _ => h
noncomputable def fK.h : HC := aF (bd Tryz.f64) [([true], [0, 3, 4, 5]), ([true, true], [0, 3, 4])]
def fK.Is (R : VP) : Prop := pK PP pr aB fK.h Tryz.f64 R
abbrev fK.J1 (d_0 : Option Addr) (c_3 : Addr) (t4 : Addr) (right_5 : Bool) (M : Mem) : Prop := aB [true, true] [] [(0, .pointer d_0), (3, .pointer (some c_3)), (4, .pointer (some t4)), (5, .bool right_5)] M
def fK.J1.T (d_0 : Option Addr) (c_3 : Addr) (t4 : Addr) (right_5 : Bool) (R : VP) (M : Mem) : Prop := aJ pr aB R (bO PP fK.h (gR Tryz.f64) [true, true] [] [(0, .ptr (.v d_0)), (3, .ptr (.a (.v c_3))), (4, .ptr (.a (.v t4))), (5, .bool (.v right_5))] M)
theorem fK.Is.J1 {pr : Prim} {aB : fE} (H : fK.Is pr aB R) (d_0 : Option Addr) (c_3 : Addr) (t4 : Addr) (right_5 : Bool) (M : Mem) : fK.J1 aB d_0 c_3 t4 right_5 M = fK.J1.T pr aB d_0 c_3 t4 right_5 R M := (H _ _ _ _ _ rfl).trans (by kernel_rfl)
abbrev fK.J2 (d_0 : Option Addr) (c_3 : Addr) (t4 : Addr) (M : Mem) : Prop := aB [true, true, true] [] [(0, .pointer d_0), (3, .pointer (some c_3)), (4, .pointer (some t4))] M
def fK.J2.T (d_0 : Option Addr) (c_3 : Addr) (t4 : Addr) (R : VP) (M : Mem) : Prop := aJ pr aB R (bO PP fK.h (gR Tryz.f64) [true, true, true] [] [(0, .ptr (.v d_0)), (3, .ptr (.a (.v c_3))), (4, .ptr (.a (.v t4)))] M)
theorem fK.Is.J2 {pr : Prim} {aB : fE} (H : fK.Is pr aB R) (d_0 : Option Addr) (c_3 : Addr) (t4 : Addr) (M : Mem) : fK.J2 aB d_0 c_3 t4 M = fK.J2.T pr aB d_0 c_3 t4 R M := (H _ _ _ _ _ rfl).trans (by kernel_rfl)
def fK.T (d : Option Addr) (c_0 c_1 c_2 c_3 c_4 c_5 : Int) (R : VP) (M : Mem) : Prop := aJ pr aB R (gX PP fK.h [] [] (gR Tryz.f64) [(0, .ptr (.v d)), (1, .agg [.int .i64 (.v c_0), .int .i64 (.v c_1), .int .i64 (.v c_2), .int .i64 (.v c_3), .int .i64 (.v c_4), .int .i64 (.v c_5)])] M)
theorem fK.go (d : Option Addr) (c_0 c_1 c_2 c_3 c_4 c_5 : Int) (h : ∀ aB, fK.Is (aH PP w0) aB R → fK.T (aH PP w0) aB d c_0 c_1 c_2 c_3 c_4 c_5 R M) : C PP w0 Id.fK #[.pointer d, .agg #[.int .i64 c_0, .int .i64 c_1, .int .i64 c_2, .int .i64 c_3, .int .i64 c_4, .int .i64 c_5]] R M :=
  c8 mixed (h := fK.h) (T := fun pr aB => fK.T pr aB d c_0 c_1 c_2 c_3 c_4 c_5 R M) Tryz.func64 (cZ _ _) (by kernel_rfl) (fun pr aB => by kernel_rfl) h
noncomputable def cB.h : HC := aF (bd Tryz.f65) []
def cB.T (why : Int) (R : VP) (M : Mem) : Prop := aJ pr (fun _ _ _ _ => False) R (gX PP cB.h [] [] (gR Tryz.f65) [(0, .int .i64 (.v why))] M)
theorem cB.go (why : Int) (h : cB.T (aH PP w0) why R M) : C PP w0 Id.cB #[.int .i64 why] R M :=
  c8 mixed (h := cB.h) (T := fun pr aB => cB.T pr why R M) Tryz.func65 (cZ _ _) (by kernel_rfl) (fun pr aB => by kernel_rfl) fun _ _ => h
noncomputable def bR.h : HC := aF (bd Tryz.f66) [([true, false, true, false, true, true, true, false, true], [0, 4, 7]), ([true, false, true, false, true, true, true, true, true, false, true, true, false, true, false], [0, 4, 9, 10])]
def bR.Is (R : VP) : Prop := pK PP pr aB bR.h Tryz.f66 R
abbrev bR.J1 (d_0 : Option Addr) (t4 : Addr) (k_7 : Int) (M : Mem) : Prop := aB [true, true, false, true, true, true, false, true, false, true] [] [(0, .pointer d_0), (4, .pointer (some t4)), (7, .int .i64 k_7)] M
def bR.J1.T (d_0 : Option Addr) (t4 : Addr) (k_7 : Int) (R : VP) (M : Mem) : Prop := aJ pr aB R (bO PP bR.h (gR Tryz.f66) [true, true, false, true, true, true, false, true, false, true] [] [(0, .ptr (.v d_0)), (4, .ptr (.a (.v t4))), (7, .int .i64 (.v k_7))] M)
theorem bR.Is.J1 {pr : Prim} {aB : fE} (H : bR.Is pr aB R) (d_0 : Option Addr) (t4 : Addr) (k_7 : Int) (M : Mem) : bR.J1 aB d_0 t4 k_7 M = bR.J1.T pr aB d_0 t4 k_7 R M := (H _ _ _ _ _ rfl).trans (by kernel_rfl)
abbrev bR.L2 (k : Nat) (d_0 : Option Addr) (t4 : Addr) (n_9 i_10 : Int) (M : Mem) : Prop := aB [false, false, true, false, true, true, false, true, true, true, true, true, false, true, false, true] [k] [(0, .pointer d_0), (4, .pointer (some t4)), (9, .int .i64 n_9), (10, .int .i64 i_10)] M
def bR.L2.T (k : Nat) (d_0 : Option Addr) (t4 : Addr) (n_9 i_10 : Int) (R : VP) (M : Mem) : Prop := aJ pr aB R (bO PP bR.h (gR Tryz.f66) [false, false, true, false, true, true, false, true, true, true, true, true, false, true, false, true] [k] [(0, .ptr (.v d_0)), (4, .ptr (.a (.v t4))), (9, .int .i64 (.v n_9)), (10, .int .i64 (.v i_10))] M)
theorem bR.Is.L2 {pr : Prim} {aB : fE} (H : bR.Is pr aB R) (k : Nat) (d_0 : Option Addr) (t4 : Addr) (n_9 i_10 : Int) (M : Mem) : bR.L2 aB (k + 1) d_0 t4 n_9 i_10 M = bR.L2.T pr aB k d_0 t4 n_9 i_10 R M := (H _ _ _ _ _ rfl).trans (by kernel_rfl)
def bR.T (d : Option Addr) (c_0 c_1 c_2 c_3 c_4 c_5 : Int) (R : VP) (M : Mem) : Prop := aJ pr aB R (gX PP bR.h [] [] (gR Tryz.f66) [(0, .ptr (.v d)), (1, .agg [.int .i64 (.v c_0), .int .i64 (.v c_1), .int .i64 (.v c_2), .int .i64 (.v c_3), .int .i64 (.v c_4), .int .i64 (.v c_5)])] M)
theorem bR.go (d : Option Addr) (c_0 c_1 c_2 c_3 c_4 c_5 : Int) (h : ∀ aB, bR.Is (aH PP w0) aB R → bR.T (aH PP w0) aB d c_0 c_1 c_2 c_3 c_4 c_5 R M) : C PP w0 Id.bR #[.pointer d, .agg #[.int .i64 c_0, .int .i64 c_1, .int .i64 c_2, .int .i64 c_3, .int .i64 c_4, .int .i64 c_5]] R M :=
  c8 mixed (h := bR.h) (T := fun pr aB => bR.T pr aB d c_0 c_1 c_2 c_3 c_4 c_5 R M) Tryz.func66 (cZ _ _) (by kernel_rfl) (fun pr aB => by kernel_rfl) h
noncomputable def gD.h : HC := aF (bd Tryz.f67) [([true], [0, 3])]
def gD.Is (R : VP) : Prop := pK PP pr aB gD.h Tryz.f67 R
abbrev gD.J1 (p_0 : Option Addr) (r_3 : Addr) (M : Mem) : Prop := aB [true, true] [] [(0, .pointer p_0), (3, .pointer (some r_3))] M
def gD.J1.T (p_0 : Option Addr) (r_3 : Addr) (R : VP) (M : Mem) : Prop := aJ pr aB R (bO PP gD.h (gR Tryz.f67) [true, true] [] [(0, .ptr (.v p_0)), (3, .ptr (.a (.v r_3)))] M)
theorem gD.Is.J1 {pr : Prim} {aB : fE} (H : gD.Is pr aB R) (p_0 : Option Addr) (r_3 : Addr) (M : Mem) : gD.J1 aB p_0 r_3 M = gD.J1.T pr aB p_0 r_3 R M := (H _ _ _ _ _ rfl).trans (by kernel_rfl)
def gD.T (p : Option Addr) (r_0 r_1 : Int) (R : VP) (M : Mem) : Prop := aJ pr aB R (gX PP gD.h [] [] (gR Tryz.f67) [(0, .ptr (.v p)), (1, .agg [.int .i64 (.v r_0), .int .i64 (.v r_1)])] M)
theorem gD.go (p : Option Addr) (r_0 r_1 : Int) (h : ∀ aB, gD.Is (aH PP w0) aB R → gD.T (aH PP w0) aB p r_0 r_1 R M) : C PP w0 Id.gD #[.pointer p, .agg #[.int .i64 r_0, .int .i64 r_1]] R M :=
  c8 mixed (h := gD.h) (T := fun pr aB => gD.T pr aB p r_0 r_1 R M) Tryz.func67 (cZ _ _) (by kernel_rfl) (fun pr aB => by kernel_rfl) h
noncomputable def iT.h : HC := aF (bd Tryz.f68) [([true, false, true, false], [0, 3, 5])]
def iT.Is (R : VP) : Prop := pK PP pr aB iT.h Tryz.f68 R
abbrev iT.L1 (k : Nat) (d_0 : Option Addr) (r_3 : Addr) (i_5 : Int) (M : Mem) : Prop := aB [false, false, true, false, true] [k] [(0, .pointer d_0), (3, .pointer (some r_3)), (5, .int .i64 i_5)] M
def iT.L1.T (k : Nat) (d_0 : Option Addr) (r_3 : Addr) (i_5 : Int) (R : VP) (M : Mem) : Prop := aJ pr aB R (bO PP iT.h (gR Tryz.f68) [false, false, true, false, true] [k] [(0, .ptr (.v d_0)), (3, .ptr (.a (.v r_3))), (5, .int .i64 (.v i_5))] M)
theorem iT.Is.L1 {pr : Prim} {aB : fE} (H : iT.Is pr aB R) (k : Nat) (d_0 : Option Addr) (r_3 : Addr) (i_5 : Int) (M : Mem) : iT.L1 aB (k + 1) d_0 r_3 i_5 M = iT.L1.T pr aB k d_0 r_3 i_5 R M := (H _ _ _ _ _ rfl).trans (by kernel_rfl)
def iT.T (d : Option Addr) (r_0 r_1 : Int) (R : VP) (M : Mem) : Prop := aJ pr aB R (gX PP iT.h [] [] (gR Tryz.f68) [(0, .ptr (.v d)), (1, .agg [.int .i64 (.v r_0), .int .i64 (.v r_1)])] M)
theorem iT.go (d : Option Addr) (r_0 r_1 : Int) (h : ∀ aB, iT.Is (aH PP w0) aB R → iT.T (aH PP w0) aB d r_0 r_1 R M) : C PP w0 Id.iT #[.pointer d, .agg #[.int .i64 r_0, .int .i64 r_1]] R M :=
  c8 mixed (h := iT.h) (T := fun pr aB => iT.T pr aB d r_0 r_1 R M) Tryz.func68 (cZ _ _) (by kernel_rfl) (fun pr aB => by kernel_rfl) h
noncomputable def nU.h : HC := aF (bd Tryz.f69) []
def nU.T (d : Option Addr) (k : Int) (R : VP) (M : Mem) : Prop := aJ pr (fun _ _ _ _ => False) R (gX PP nU.h [] [] (gR Tryz.f69) [(0, .ptr (.v d)), (1, .int .i64 (.v k))] M)
theorem nU.go (d : Option Addr) (k : Int) (h : nU.T (aH PP w0) d k R M) : C PP w0 Id.nU #[.pointer d, .int .i64 k] R M :=
  c8 mixed (h := nU.h) (T := fun pr aB => nU.T pr d k R M) Tryz.func69 (cZ _ _) (by kernel_rfl) (fun pr aB => by kernel_rfl) fun _ _ => h
noncomputable def iP.h : HC := aF (bd Tryz.f70) [([true], [0, 1])]
def iP.Is (R : VP) : Prop := pK PP pr aB iP.h Tryz.f70 R
abbrev iP.J1 (a_0 b_1 : Int) (M : Mem) : Prop := aB [true, true] [] [(0, .int .i64 a_0), (1, .int .i64 b_1)] M
def iP.J1.T (a_0 b_1 : Int) (R : VP) (M : Mem) : Prop := aJ pr aB R (bO PP iP.h (gR Tryz.f70) [true, true] [] [(0, .int .i64 (.v a_0)), (1, .int .i64 (.v b_1))] M)
theorem iP.Is.J1 {pr : Prim} {aB : fE} (H : iP.Is pr aB R) (a_0 b_1 : Int) (M : Mem) : iP.J1 aB a_0 b_1 M = iP.J1.T pr aB a_0 b_1 R M := (H _ _ _ _ _ rfl).trans (by kernel_rfl)
def iP.T (a b : Int) (R : VP) (M : Mem) : Prop := aJ pr aB R (gX PP iP.h [] [] (gR Tryz.f70) [(0, .int .i64 (.v a)), (1, .int .i64 (.v b))] M)
theorem iP.go (a b : Int) (h : ∀ aB, iP.Is (aH PP w0) aB R → iP.T (aH PP w0) aB a b R M) : C PP w0 Id.iP #[.int .i64 a, .int .i64 b] R M :=
  c8 mixed (h := iP.h) (T := fun pr aB => iP.T pr aB a b R M) Tryz.func70 (cZ _ _) (by kernel_rfl) (fun pr aB => by kernel_rfl) h
noncomputable def qP.h : HC := aF (bd Tryz.f71) []
def qP.T (t : Option Addr) (R : VP) (M : Mem) : Prop := aJ pr (fun _ _ _ _ => False) R (gX PP qP.h [] [] (gR Tryz.f71) [(0, .ptr (.v t))] M)
theorem qP.go (t : Option Addr) (h : qP.T (aH PP w0) t R M) : C PP w0 Id.qP #[.pointer t] R M :=
  c8 mixed (h := qP.h) (T := fun pr aB => qP.T pr t R M) Tryz.func71 (cZ _ _) (by kernel_rfl) (fun pr aB => by kernel_rfl) fun _ _ => h
noncomputable def gH.h : HC := aF (bd Tryz.f72) []
def gH.T (k items : Int) (R : VP) (M : Mem) : Prop := aJ pr (fun _ _ _ _ => False) R (gX PP gH.h [] [] (gR Tryz.f72) [(0, .int .i64 (.v k)), (1, .int .i64 (.v items))] M)
theorem gH.go (k items : Int) (h : gH.T (aH PP w0) k items R M) : C PP w0 Id.gH #[.int .i64 k, .int .i64 items] R M :=
  c8 mixed (h := gH.h) (T := fun pr aB => gH.T pr k items R M) Tryz.func72 (cZ _ _) (by kernel_rfl) (fun pr aB => by kernel_rfl) fun _ _ => h
noncomputable def mL.h : HC := aF (bd Tryz.f73) []
def mL.T (jobs : Int) (R : VP) (M : Mem) : Prop := aJ pr (fun _ _ _ _ => False) R (gX PP mL.h [] [] (gR Tryz.f73) [(0, .int .i64 (.v jobs))] M)
theorem mL.go (jobs : Int) (h : mL.T (aH PP w0) jobs R M) : C PP w0 Id.mL #[.int .i64 jobs] R M :=
  c8 mixed (h := mL.h) (T := fun pr aB => mL.T pr jobs R M) Tryz.func73 (cZ _ _) (by kernel_rfl) (fun pr aB => by kernel_rfl) fun _ _ => h
noncomputable def kF.h : HC := aF (bd Tryz.f74) []
def kF.T (R : VP) (M : Mem) : Prop := aJ pr (fun _ _ _ _ => False) R (gX PP kF.h [] [] (gR Tryz.f74) [] M)
theorem kF.go (h : kF.T (aH PP w0) R M) : C PP w0 Id.kF #[] R M :=
  c8 mixed (h := kF.h) (T := fun pr aB => kF.T pr R M) Tryz.func74 (cZ _ _) (by kernel_rfl) (fun pr aB => by kernel_rfl) fun _ _ => h
noncomputable def pL.h : HC := aF (bd Tryz.f76) []
def pL.T (t : Option Addr) (r_0 r_1 : Int) (R : VP) (M : Mem) : Prop := aJ pr (fun _ _ _ _ => False) R (gX PP pL.h [] [] (gR Tryz.f76) [(0, .ptr (.v t)), (1, .agg [.int .i64 (.v r_0), .int .i64 (.v r_1)])] M)
theorem pL.go (t : Option Addr) (r_0 r_1 : Int) (h : pL.T (aH PP w0) t r_0 r_1 R M) : C PP w0 Id.pL #[.pointer t, .agg #[.int .i64 r_0, .int .i64 r_1]] R M :=
  c8 mixed (h := pL.h) (T := fun pr aB => pL.T pr t r_0 r_1 R M) Tryz.func76 (cZ _ _) (by kernel_rfl) (fun pr aB => by kernel_rfl) fun _ _ => h
noncomputable def kV.h : HC := aF (bd Tryz.f79) []
def kV.T (R : VP) (M : Mem) : Prop := aJ pr (fun _ _ _ _ => False) R (gX PP kV.h [] [] (gR Tryz.f79) [] M)
theorem kV.go (h : kV.T (aH PP w0) R M) : C PP w0 Id.kV #[] R M :=
  c8 mixed (h := kV.h) (T := fun pr aB => kV.T pr R M) Tryz.func79 (cZ _ _) (by kernel_rfl) (fun pr aB => by kernel_rfl) fun _ _ => h
noncomputable def cO.h : HC := aF (bd Tryz.f80) []
def cO.T (places : Int) (R : VP) (M : Mem) : Prop := aJ pr (fun _ _ _ _ => False) R (gX PP cO.h [] [] (gR Tryz.f80) [(0, .int .i64 (.v places))] M)
theorem cO.go (places : Int) (h : cO.T (aH PP w0) places R M) : C PP w0 Id.cO #[.int .i64 places] R M :=
  c8 mixed (h := cO.h) (T := fun pr aB => cO.T pr places R M) Tryz.func80 (cZ _ _) (by kernel_rfl) (fun pr aB => by kernel_rfl) fun _ _ => h
noncomputable def cG.h : HC := aF (bd Tryz.f81) []
def cG.T (places : Int) (R : VP) (M : Mem) : Prop := aJ pr (fun _ _ _ _ => False) R (gX PP cG.h [] [] (gR Tryz.f81) [(0, .int .i64 (.v places))] M)
theorem cG.go (places : Int) (h : cG.T (aH PP w0) places R M) : C PP w0 Id.cG #[.int .i64 places] R M :=
  c8 mixed (h := cG.h) (T := fun pr aB => cG.T pr places R M) Tryz.func81 (cZ _ _) (by kernel_rfl) (fun pr aB => by kernel_rfl) fun _ _ => h
noncomputable def pO.h : HC := aF (bd Tryz.f83) []
def pO.T (m : Option Addr) (R : VP) (M : Mem) : Prop := aJ pr (fun _ _ _ _ => False) R (gX PP pO.h [] [] (gR Tryz.f83) [(0, .ptr (.v m))] M)
theorem pO.go (m : Option Addr) (h : pO.T (aH PP w0) m R M) : C PP w0 Id.pO #[.pointer m] R M :=
  c8 mixed (h := pO.h) (T := fun pr aB => pO.T pr m R M) Tryz.func83 (cZ _ _) (by kernel_rfl) (fun pr aB => by kernel_rfl) fun _ _ => h
noncomputable def cQ.h : HC := aF (bd Tryz.f84) [([true, true], [0, 3, 4, 6])]
def cQ.Is (R : VP) : Prop := pK PP pr aB cQ.h Tryz.f84 R
abbrev cQ.J1 (p_0 : Option Addr) (v_3 : Addr) (t4 : Addr) (at_6 : Int) (M : Mem) : Prop := aB [true, true, true] [] [(0, .pointer p_0), (3, .pointer (some v_3)), (4, .pointer (some t4)), (6, .int .i64 at_6)] M
def cQ.J1.T (p_0 : Option Addr) (v_3 : Addr) (t4 : Addr) (at_6 : Int) (R : VP) (M : Mem) : Prop := aJ pr aB R (bO PP cQ.h (gR Tryz.f84) [true, true, true] [] [(0, .ptr (.v p_0)), (3, .ptr (.a (.v v_3))), (4, .ptr (.a (.v t4))), (6, .int .i64 (.v at_6))] M)
theorem cQ.Is.J1 {pr : Prim} {aB : fE} (H : cQ.Is pr aB R) (p_0 : Option Addr) (v_3 : Addr) (t4 : Addr) (at_6 : Int) (M : Mem) : cQ.J1 aB p_0 v_3 t4 at_6 M = cQ.J1.T pr aB p_0 v_3 t4 at_6 R M := (H _ _ _ _ _ rfl).trans (by kernel_rfl)
def cQ.T (p : Option Addr) (v_0 v_1 v_2 : Int) (R : VP) (M : Mem) : Prop := aJ pr aB R (gX PP cQ.h [] [] (gR Tryz.f84) [(0, .ptr (.v p)), (1, .agg [.int .i64 (.v v_0), .int .i64 (.v v_1), .int .i64 (.v v_2)])] M)
theorem cQ.go (p : Option Addr) (v_0 v_1 v_2 : Int) (h : ∀ aB, cQ.Is (aH PP w0) aB R → cQ.T (aH PP w0) aB p v_0 v_1 v_2 R M) : C PP w0 Id.cQ #[.pointer p, .agg #[.int .i64 v_0, .int .i64 v_1, .int .i64 v_2]] R M :=
  c8 mixed (h := cQ.h) (T := fun pr aB => cQ.T pr aB p v_0 v_1 v_2 R M) Tryz.func84 (cZ _ _) (by kernel_rfl) (fun pr aB => by kernel_rfl) h
noncomputable def mD.h : HC := aF (bd Tryz.f85) []
def mD.T (a : Option Addr) (key serial : Int) (R : VP) (M : Mem) : Prop := aJ pr (fun _ _ _ _ => False) R (gX PP mD.h [] [] (gR Tryz.f85) [(0, .ptr (.v a)), (1, .int .i64 (.v key)), (2, .int .i64 (.v serial))] M)
theorem mD.go (a : Option Addr) (key serial : Int) (h : mD.T (aH PP w0) a key serial R M) : C PP w0 Id.mD #[.pointer a, .int .i64 key, .int .i64 serial] R M :=
  c8 mixed (h := mD.h) (T := fun pr aB => mD.T pr a key serial R M) Tryz.func85 (cZ _ _) (by kernel_rfl) (fun pr aB => by kernel_rfl) fun _ _ => h
noncomputable def j4.h : HC := aF (bd Tryz.f86) []
def j4.T (k : Int) (a : Option Addr) (r i : Int) (R : VP) (M : Mem) : Prop := aJ pr (fun _ _ _ _ => False) R (gX PP j4.h [] [] (gR Tryz.f86) [(0, .int .i64 (.v k)), (1, .ptr (.v a)), (2, .int .i64 (.v r)), (3, .int .i64 (.v i))] M)
theorem j4.go (k : Int) (a : Option Addr) (r i : Int) (h : j4.T (aH PP w0) k a r i R M) : C PP w0 Id.j4 #[.int .i64 k, .pointer a, .int .i64 r, .int .i64 i] R M :=
  c8 mixed (h := j4.h) (T := fun pr aB => j4.T pr k a r i R M) Tryz.func86 (cZ _ _) (by kernel_rfl) (fun pr aB => by kernel_rfl) fun _ _ => h
noncomputable def qM.h : HC := aF (bd Tryz.f87) []
def qM.T (t : Option Addr) (h_1_0 h_1_1 cell : Int) (R : VP) (M : Mem) : Prop := aJ pr (fun _ _ _ _ => False) R (gX PP qM.h [] [] (gR Tryz.f87) [(0, .ptr (.v t)), (1, .agg [.int .i64 (.v h_1_0), .int .i64 (.v h_1_1)]), (2, .int .i64 (.v cell))] M)
theorem qM.go (t : Option Addr) (h_1_0 h_1_1 cell : Int) (h : qM.T (aH PP w0) t h_1_0 h_1_1 cell R M) : C PP w0 Id.qM #[.pointer t, .agg #[.int .i64 h_1_0, .int .i64 h_1_1], .int .i64 cell] R M :=
  c8 mixed (h := qM.h) (T := fun pr aB => qM.T pr t h_1_0 h_1_1 cell R M) Tryz.func87 (cZ _ _) (by kernel_rfl) (fun pr aB => by kernel_rfl) fun _ _ => h
noncomputable def nQ.h : HC := aF (bd Tryz.f88) []
def nQ.T (t : Option Addr) (h_1_0 h_1_1 r n : Int) (R : VP) (M : Mem) : Prop := aJ pr (fun _ _ _ _ => False) R (gX PP nQ.h [] [] (gR Tryz.f88) [(0, .ptr (.v t)), (1, .agg [.int .i64 (.v h_1_0), .int .i64 (.v h_1_1)]), (2, .int .i64 (.v r)), (3, .int .i64 (.v n))] M)
theorem nQ.go (t : Option Addr) (h_1_0 h_1_1 r n : Int) (h : nQ.T (aH PP w0) t h_1_0 h_1_1 r n R M) : C PP w0 Id.nQ #[.pointer t, .agg #[.int .i64 h_1_0, .int .i64 h_1_1], .int .i64 r, .int .i64 n] R M :=
  c8 mixed (h := nQ.h) (T := fun pr aB => nQ.T pr t h_1_0 h_1_1 r n R M) Tryz.func88 (cZ _ _) (by kernel_rfl) (fun pr aB => by kernel_rfl) fun _ _ => h
noncomputable def vJ.h : HC := aF (bd Tryz.f89) []
def vJ.T (t : Option Addr) (cell : Int) (R : VP) (M : Mem) : Prop := aJ pr (fun _ _ _ _ => False) R (gX PP vJ.h [] [] (gR Tryz.f89) [(0, .ptr (.v t)), (1, .int .i64 (.v cell))] M)
theorem vJ.go (t : Option Addr) (cell : Int) (h : vJ.T (aH PP w0) t cell R M) : C PP w0 Id.vJ #[.pointer t, .int .i64 cell] R M :=
  c8 mixed (h := vJ.h) (T := fun pr aB => vJ.T pr t cell R M) Tryz.func89 (cZ _ _) (by kernel_rfl) (fun pr aB => by kernel_rfl) fun _ _ => h
noncomputable def mM.h : HC := aF (bd Tryz.f90) []
def mM.T (k : Int) (a : Option Addr) (r : Int) (R : VP) (M : Mem) : Prop := aJ pr (fun _ _ _ _ => False) R (gX PP mM.h [] [] (gR Tryz.f90) [(0, .int .i64 (.v k)), (1, .ptr (.v a)), (2, .int .i64 (.v r))] M)
theorem mM.go (k : Int) (a : Option Addr) (r : Int) (h : mM.T (aH PP w0) k a r R M) : C PP w0 Id.mM #[.int .i64 k, .pointer a, .int .i64 r] R M :=
  c8 mixed (h := mM.h) (T := fun pr aB => mM.T pr k a r R M) Tryz.func90 (cZ _ _) (by kernel_rfl) (fun pr aB => by kernel_rfl) fun _ _ => h
noncomputable def lV.h : HC := aF (bd Tryz.f91) []
def lV.T (k : Int) (a : Option Addr) (r : Int) (R : VP) (M : Mem) : Prop := aJ pr (fun _ _ _ _ => False) R (gX PP lV.h [] [] (gR Tryz.f91) [(0, .int .i64 (.v k)), (1, .ptr (.v a)), (2, .int .i64 (.v r))] M)
theorem lV.go (k : Int) (a : Option Addr) (r : Int) (h : lV.T (aH PP w0) k a r R M) : C PP w0 Id.lV #[.int .i64 k, .pointer a, .int .i64 r] R M :=
  c8 mixed (h := lV.h) (T := fun pr aB => lV.T pr k a r R M) Tryz.func91 (cZ _ _) (by kernel_rfl) (fun pr aB => by kernel_rfl) fun _ _ => h
noncomputable def nW.h : HC := aF (bd Tryz.f92) []
def nW.T (q : Option Addr) (i_0 i_1 : Int) (R : VP) (M : Mem) : Prop := aJ pr (fun _ _ _ _ => False) R (gX PP nW.h [] [] (gR Tryz.f92) [(0, .ptr (.v q)), (1, .agg [.int .i64 (.v i_0), .int .i64 (.v i_1)])] M)
theorem nW.go (q : Option Addr) (i_0 i_1 : Int) (h : nW.T (aH PP w0) q i_0 i_1 R M) : C PP w0 Id.nW #[.pointer q, .agg #[.int .i64 i_0, .int .i64 i_1]] R M :=
  c8 mixed (h := nW.h) (T := fun pr aB => nW.T pr q i_0 i_1 R M) Tryz.func92 (cZ _ _) (by kernel_rfl) (fun pr aB => by kernel_rfl) fun _ _ => h
noncomputable def oO.h : HC := aF (bd Tryz.f93) []
def oO.T (t : Option Addr) (i_0 i_1 : Int) (R : VP) (M : Mem) : Prop := aJ pr (fun _ _ _ _ => False) R (gX PP oO.h [] [] (gR Tryz.f93) [(0, .ptr (.v t)), (1, .agg [.int .i64 (.v i_0), .int .i64 (.v i_1)])] M)
theorem oO.go (t : Option Addr) (i_0 i_1 : Int) (h : oO.T (aH PP w0) t i_0 i_1 R M) : C PP w0 Id.oO #[.pointer t, .agg #[.int .i64 i_0, .int .i64 i_1]] R M :=
  c8 mixed (h := oO.h) (T := fun pr aB => oO.T pr t i_0 i_1 R M) Tryz.func93 (cZ _ _) (by kernel_rfl) (fun pr aB => by kernel_rfl) fun _ _ => h
noncomputable def vP.h : HC := aF (bd Tryz.f94) []
def vP.T (t : Option Addr) (i_0 i_1 : Int) (R : VP) (M : Mem) : Prop := aJ pr (fun _ _ _ _ => False) R (gX PP vP.h [] [] (gR Tryz.f94) [(0, .ptr (.v t)), (1, .agg [.int .i64 (.v i_0), .int .i64 (.v i_1)])] M)
theorem vP.go (t : Option Addr) (i_0 i_1 : Int) (h : vP.T (aH PP w0) t i_0 i_1 R M) : C PP w0 Id.vP #[.pointer t, .agg #[.int .i64 i_0, .int .i64 i_1]] R M :=
  c8 mixed (h := vP.h) (T := fun pr aB => vP.T pr t i_0 i_1 R M) Tryz.func94 (cZ _ _) (by kernel_rfl) (fun pr aB => by kernel_rfl) fun _ _ => h
noncomputable def iO.h : HC := aF (bd Tryz.f95) []
def iO.T (a : Option Addr) (i key : Int) (R : VP) (M : Mem) : Prop := aJ pr (fun _ _ _ _ => False) R (gX PP iO.h [] [] (gR Tryz.f95) [(0, .ptr (.v a)), (1, .int .i64 (.v i)), (2, .int .i64 (.v key))] M)
theorem iO.go (a : Option Addr) (i key : Int) (h : iO.T (aH PP w0) a i key R M) : C PP w0 Id.iO #[.pointer a, .int .i64 i, .int .i64 key] R M :=
  c8 mixed (h := iO.h) (T := fun pr aB => iO.T pr a i key R M) Tryz.func95 (cZ _ _) (by kernel_rfl) (fun pr aB => by kernel_rfl) fun _ _ => h
noncomputable def kT.h : HC := aF (bd Tryz.f96) []
def kT.T (k : Int) (a : Option Addr) (r i : Int) (R : VP) (M : Mem) : Prop := aJ pr (fun _ _ _ _ => False) R (gX PP kT.h [] [] (gR Tryz.f96) [(0, .int .i64 (.v k)), (1, .ptr (.v a)), (2, .int .i64 (.v r)), (3, .int .i64 (.v i))] M)
theorem kT.go (k : Int) (a : Option Addr) (r i : Int) (h : kT.T (aH PP w0) k a r i R M) : C PP w0 Id.kT #[.int .i64 k, .pointer a, .int .i64 r, .int .i64 i] R M :=
  c8 mixed (h := kT.h) (T := fun pr aB => kT.T pr k a r i R M) Tryz.func96 (cZ _ _) (by kernel_rfl) (fun pr aB => by kernel_rfl) fun _ _ => h
noncomputable def lY.h : HC := aF (bd Tryz.f97) []
def lY.T (k : Int) (a : Option Addr) (r i : Int) (R : VP) (M : Mem) : Prop := aJ pr (fun _ _ _ _ => False) R (gX PP lY.h [] [] (gR Tryz.f97) [(0, .int .i64 (.v k)), (1, .ptr (.v a)), (2, .int .i64 (.v r)), (3, .int .i64 (.v i))] M)
theorem lY.go (k : Int) (a : Option Addr) (r i : Int) (h : lY.T (aH PP w0) k a r i R M) : C PP w0 Id.lY #[.int .i64 k, .pointer a, .int .i64 r, .int .i64 i] R M :=
  c8 mixed (h := lY.h) (T := fun pr aB => lY.T pr k a r i R M) Tryz.func97 (cZ _ _) (by kernel_rfl) (fun pr aB => by kernel_rfl) fun _ _ => h
noncomputable def fX.h : HC := aF (bd Tryz.f98) [([true, true, true, true, true, false, true, false], [0, 4, 5, 51, 52, 53])]
def fX.Is (R : VP) : Prop := pK PP pr aB fX.h Tryz.f98 R
abbrev fX.L1 (k : Nat) (t_0 : Option Addr) (h_4 : Addr) (o_5 : Addr) (t51 : SV) (t52 t53 : Int) (M : Mem) : Prop := aB [false, false, true, false, true, true, true, true, true] [k] [(0, .pointer t_0), (4, .pointer (some h_4)), (5, .pointer (some o_5)), (51, SV.v t51), (52, .int .i64 t52), (53, .int .i64 t53)] M
def fX.L1.T (k : Nat) (t_0 : Option Addr) (h_4 : Addr) (o_5 : Addr) (t51 : SV) (t52 t53 : Int) (R : VP) (M : Mem) : Prop := aJ pr aB R (bO PP fX.h (gR Tryz.f98) [false, false, true, false, true, true, true, true, true] [k] [(0, .ptr (.v t_0)), (4, .ptr (.a (.v h_4))), (5, .ptr (.a (.v o_5))), (51, .sv t51), (52, .int .i64 (.v t52)), (53, .int .i64 (.v t53))] M)
theorem fX.Is.L1 {pr : Prim} {aB : fE} (H : fX.Is pr aB R) (k : Nat) (t_0 : Option Addr) (h_4 : Addr) (o_5 : Addr) (t51 : SV) (t52 t53 : Int) (M : Mem) : fX.L1 aB (k + 1) t_0 h_4 o_5 t51 t52 t53 M = fX.L1.T pr aB k t_0 h_4 o_5 t51 t52 t53 R M := (H _ _ _ _ _ rfl).trans (by kernel_rfl)
def fX.T (t : Option Addr) (h_1_0 h_1_1 o_0 o_1 : Int) (R : VP) (M : Mem) : Prop := aJ pr aB R (gX PP fX.h [] [] (gR Tryz.f98) [(0, .ptr (.v t)), (1, .agg [.int .i64 (.v h_1_0), .int .i64 (.v h_1_1)]), (2, .agg [.int .i64 (.v o_0), .int .i64 (.v o_1)])] M)
theorem fX.go (t : Option Addr) (h_1_0 h_1_1 o_0 o_1 : Int) (h : ∀ aB, fX.Is (aH PP w0) aB R → fX.T (aH PP w0) aB t h_1_0 h_1_1 o_0 o_1 R M) : C PP w0 Id.fX #[.pointer t, .agg #[.int .i64 h_1_0, .int .i64 h_1_1], .agg #[.int .i64 o_0, .int .i64 o_1]] R M :=
  c8 mixed (h := fX.h) (T := fun pr aB => fX.T pr aB t h_1_0 h_1_1 o_0 o_1 R M) Tryz.func98 (cZ _ _) (by kernel_rfl) (fun pr aB => by kernel_rfl) h
noncomputable def kN.h : HC := aF (bd Tryz.f99) []
def kN.T (k : Int) (a : Option Addr) (r s : Int) (R : VP) (M : Mem) : Prop := aJ pr (fun _ _ _ _ => False) R (gX PP kN.h [] [] (gR Tryz.f99) [(0, .int .i64 (.v k)), (1, .ptr (.v a)), (2, .int .i64 (.v r)), (3, .int .i64 (.v s))] M)
theorem kN.go (k : Int) (a : Option Addr) (r s : Int) (h : kN.T (aH PP w0) k a r s R M) : C PP w0 Id.kN #[.int .i64 k, .pointer a, .int .i64 r, .int .i64 s] R M :=
  c8 mixed (h := kN.h) (T := fun pr aB => kN.T pr k a r s R M) Tryz.func99 (cZ _ _) (by kernel_rfl) (fun pr aB => by kernel_rfl) fun _ _ => h
noncomputable def jO.h : HC := aF (bd Tryz.f100) []
def jO.T (p : Option Addr) (r_0 r_1 : Int) (R : VP) (M : Mem) : Prop := aJ pr (fun _ _ _ _ => False) R (gX PP jO.h [] [] (gR Tryz.f100) [(0, .ptr (.v p)), (1, .agg [.int .i64 (.v r_0), .int .i64 (.v r_1)])] M)
theorem jO.go (p : Option Addr) (r_0 r_1 : Int) (h : jO.T (aH PP w0) p r_0 r_1 R M) : C PP w0 Id.jO #[.pointer p, .agg #[.int .i64 r_0, .int .i64 r_1]] R M :=
  c8 mixed (h := jO.h) (T := fun pr aB => jO.T pr p r_0 r_1 R M) Tryz.func100 (cZ _ _) (by kernel_rfl) (fun pr aB => by kernel_rfl) fun _ _ => h
noncomputable def fP.h : HC := aF (bd Tryz.f102) [([true, true, false, true, false], [0, 3, 5, 14, 15, 16])]
def fP.Is (R : VP) : Prop := pK PP pr aB fP.h Tryz.f102 R
abbrev fP.L1 (k : Nat) (t_0 : Option Addr) (h_3 : Addr) (out_5 t14 : SV) (t15 t16 : Int) (M : Mem) : Prop := aB [false, false, true, false, true, true] [k] [(0, .pointer t_0), (3, .pointer (some h_3)), (5, SV.v out_5), (14, SV.v t14), (15, .int .i64 t15), (16, .int .i64 t16)] M
def fP.L1.T (k : Nat) (t_0 : Option Addr) (h_3 : Addr) (out_5 t14 : SV) (t15 t16 : Int) (R : VP) (M : Mem) : Prop := aJ pr aB R (bO PP fP.h (gR Tryz.f102) [false, false, true, false, true, true] [k] [(0, .ptr (.v t_0)), (3, .ptr (.a (.v h_3))), (5, .sv out_5), (14, .sv t14), (15, .int .i64 (.v t15)), (16, .int .i64 (.v t16))] M)
theorem fP.Is.L1 {pr : Prim} {aB : fE} (H : fP.Is pr aB R) (k : Nat) (t_0 : Option Addr) (h_3 : Addr) (out_5 t14 : SV) (t15 t16 : Int) (M : Mem) : fP.L1 aB (k + 1) t_0 h_3 out_5 t14 t15 t16 M = fP.L1.T pr aB k t_0 h_3 out_5 t14 t15 t16 R M := (H _ _ _ _ _ rfl).trans (by kernel_rfl)
def fP.T (t : Option Addr) (h_1_0 h_1_1 : Int) (R : VP) (M : Mem) : Prop := aJ pr aB R (gX PP fP.h [] [] (gR Tryz.f102) [(0, .ptr (.v t)), (1, .agg [.int .i64 (.v h_1_0), .int .i64 (.v h_1_1)])] M)
theorem fP.go (t : Option Addr) (h_1_0 h_1_1 : Int) (h : ∀ aB, fP.Is (aH PP w0) aB R → fP.T (aH PP w0) aB t h_1_0 h_1_1 R M) : C PP w0 Id.fP #[.pointer t, .agg #[.int .i64 h_1_0, .int .i64 h_1_1]] R M :=
  c8 mixed (h := fP.h) (T := fun pr aB => fP.T pr aB t h_1_0 h_1_1 R M) Tryz.func102 (cZ _ _) (by kernel_rfl) (fun pr aB => by kernel_rfl) h
noncomputable def oQ.h : HC := aF (bd Tryz.f105) []
def oQ.T (p : Option Addr) (r_0 r_1 : Int) (R : VP) (M : Mem) : Prop := aJ pr (fun _ _ _ _ => False) R (gX PP oQ.h [] [] (gR Tryz.f105) [(0, .ptr (.v p)), (1, .agg [.int .i64 (.v r_0), .int .i64 (.v r_1)])] M)
theorem oQ.go (p : Option Addr) (r_0 r_1 : Int) (h : oQ.T (aH PP w0) p r_0 r_1 R M) : C PP w0 Id.oQ #[.pointer p, .agg #[.int .i64 r_0, .int .i64 r_1]] R M :=
  c8 mixed (h := oQ.h) (T := fun pr aB => oQ.T pr p r_0 r_1 R M) Tryz.func105 (cZ _ _) (by kernel_rfl) (fun pr aB => by kernel_rfl) fun _ _ => h
end
end HL
namespace HL
section
variable (pr : Prim) (aB : fE) (w0 : World) {R : VP} {M : Mem}
noncomputable def bY.h : HC := aF (bd Tryz.f114) [([true, false, true, false], [0, 1, 8, 9])]
def bY.Is (R : VP) : Prop := pK PP pr aB bY.h Tryz.f114 R
abbrev bY.L1 (k : Nat) (a_0 b_1 t8 t9 : Int) (M : Mem) : Prop := aB [false, false, true, false, true] [k] [(0, .int .i64 a_0), (1, .int .i64 b_1), (8, .int .i64 t8), (9, .int .i64 t9)] M
def bY.L1.T (k : Nat) (a_0 b_1 t8 t9 : Int) (R : VP) (M : Mem) : Prop := aJ pr aB R (bO PP bY.h (gR Tryz.f114) [false, false, true, false, true] [k] [(0, .int .i64 (.v a_0)), (1, .int .i64 (.v b_1)), (8, .int .i64 (.v t8)), (9, .int .i64 (.v t9))] M)
theorem bY.Is.L1 {pr : Prim} {aB : fE} (H : bY.Is pr aB R) (k : Nat) (a_0 b_1 t8 t9 : Int) (M : Mem) : bY.L1 aB (k + 1) a_0 b_1 t8 t9 M = bY.L1.T pr aB k a_0 b_1 t8 t9 R M := (H _ _ _ _ _ rfl).trans (by kernel_rfl)
def bY.T (a b n : Int) (R : VP) (M : Mem) : Prop := aJ pr aB R (gX PP bY.h [] [] (gR Tryz.f114) [(0, .int .i64 (.v a)), (1, .int .i64 (.v b)), (2, .int .i64 (.v n))] M)
theorem bY.go (a b n : Int) (h : ∀ aB, bY.Is (aH PP w0) aB R → bY.T (aH PP w0) aB a b n R M) : C PP w0 Id.bY #[.int .i64 a, .int .i64 b, .int .i64 n] R M :=
  c8 mixed (h := bY.h) (T := fun pr aB => bY.T pr aB a b n R M) Tryz.func114 (cZ _ _) (by kernel_rfl) (fun pr aB => by kernel_rfl) h
noncomputable def kD.h : HC := aF (bd Tryz.f115) []
def kD.T (p : Option Addr) (R : VP) (M : Mem) : Prop := aJ pr (fun _ _ _ _ => False) R (gX PP kD.h [] [] (gR Tryz.f115) [(0, .ptr (.v p))] M)
theorem kD.go (p : Option Addr) (h : kD.T (aH PP w0) p R M) : C PP w0 Id.kD #[.pointer p] R M :=
  c8 mixed (h := kD.h) (T := fun pr aB => kD.T pr p R M) Tryz.func115 (cZ _ _) (by kernel_rfl) (fun pr aB => by kernel_rfl) fun _ _ => h
noncomputable def gW.h : HC := aF (bd Tryz.f116) []
def gW.T (d : Option Addr) (c_0 c_1 c_2 c_3 c_4 c_5 : Int) (R : VP) (M : Mem) : Prop := aJ pr (fun _ _ _ _ => False) R (gX PP gW.h [] [] (gR Tryz.f116) [(0, .ptr (.v d)), (1, .agg [.int .i64 (.v c_0), .int .i64 (.v c_1), .int .i64 (.v c_2), .int .i64 (.v c_3), .int .i64 (.v c_4), .int .i64 (.v c_5)])] M)
theorem gW.go (d : Option Addr) (c_0 c_1 c_2 c_3 c_4 c_5 : Int) (h : gW.T (aH PP w0) d c_0 c_1 c_2 c_3 c_4 c_5 R M) : C PP w0 Id.gW #[.pointer d, .agg #[.int .i64 c_0, .int .i64 c_1, .int .i64 c_2, .int .i64 c_3, .int .i64 c_4, .int .i64 c_5]] R M :=
  c8 mixed (h := gW.h) (T := fun pr aB => gW.T pr d c_0 c_1 c_2 c_3 c_4 c_5 R M) Tryz.func116 (cZ _ _) (by kernel_rfl) (fun pr aB => by kernel_rfl) fun _ _ => h
noncomputable def kU.h : HC := aF (bd Tryz.f117) []
def kU.T (d : Option Addr) (c_0 c_1 c_2 c_3 c_4 c_5 : Int) (R : VP) (M : Mem) : Prop := aJ pr (fun _ _ _ _ => False) R (gX PP kU.h [] [] (gR Tryz.f117) [(0, .ptr (.v d)), (1, .agg [.int .i64 (.v c_0), .int .i64 (.v c_1), .int .i64 (.v c_2), .int .i64 (.v c_3), .int .i64 (.v c_4), .int .i64 (.v c_5)])] M)
theorem kU.go (d : Option Addr) (c_0 c_1 c_2 c_3 c_4 c_5 : Int) (h : kU.T (aH PP w0) d c_0 c_1 c_2 c_3 c_4 c_5 R M) : C PP w0 Id.kU #[.pointer d, .agg #[.int .i64 c_0, .int .i64 c_1, .int .i64 c_2, .int .i64 c_3, .int .i64 c_4, .int .i64 c_5]] R M :=
  c8 mixed (h := kU.h) (T := fun pr aB => kU.T pr d c_0 c_1 c_2 c_3 c_4 c_5 R M) Tryz.func117 (cZ _ _) (by kernel_rfl) (fun pr aB => by kernel_rfl) fun _ _ => h
noncomputable def j6.h : HC := aF (bd Tryz.f118) []
def j6.T (d : Option Addr) (r_0 r_1 : Int) (R : VP) (M : Mem) : Prop := aJ pr (fun _ _ _ _ => False) R (gX PP j6.h [] [] (gR Tryz.f118) [(0, .ptr (.v d)), (1, .agg [.int .i64 (.v r_0), .int .i64 (.v r_1)])] M)
theorem j6.go (d : Option Addr) (r_0 r_1 : Int) (h : j6.T (aH PP w0) d r_0 r_1 R M) : C PP w0 Id.j6 #[.pointer d, .agg #[.int .i64 r_0, .int .i64 r_1]] R M :=
  c8 mixed (h := j6.h) (T := fun pr aB => j6.T pr d r_0 r_1 R M) Tryz.func118 (cZ _ _) (by kernel_rfl) (fun pr aB => by kernel_rfl) fun _ _ => h
noncomputable def eT.h : HC := aF (bd Tryz.f119) []
def eT.T (c : Option Addr) (by_1 : Int) (R : VP) (M : Mem) : Prop := aJ pr (fun _ _ _ _ => False) R (gX PP eT.h [] [] (gR Tryz.f119) [(0, .ptr (.v c)), (1, .int .i64 (.v by_1))] M)
theorem eT.go (c : Option Addr) (by_1 : Int) (h : eT.T (aH PP w0) c by_1 R M) : C PP w0 Id.eT #[.pointer c, .int .i64 by_1] R M :=
  c8 mixed (h := eT.h) (T := fun pr aB => eT.T pr c by_1 R M) Tryz.func119 (cZ _ _) (by kernel_rfl) (fun pr aB => by kernel_rfl) fun _ _ => h
noncomputable def dZ.h : HC := aF (bd Tryz.f120) []
def dZ.T (c : Option Addr) (R : VP) (M : Mem) : Prop := aJ pr (fun _ _ _ _ => False) R (gX PP dZ.h [] [] (gR Tryz.f120) [(0, .ptr (.v c))] M)
theorem dZ.go (c : Option Addr) (h : dZ.T (aH PP w0) c R M) : C PP w0 Id.dZ #[.pointer c] R M :=
  c8 mixed (h := dZ.h) (T := fun pr aB => dZ.T pr c R M) Tryz.func120 (cZ _ _) (by kernel_rfl) (fun pr aB => by kernel_rfl) fun _ _ => h
noncomputable def gJ.h : HC := aF (bd Tryz.f121) [([true, true, true], [0, 4, 5, 6])]
def gJ.Is (R : VP) : Prop := pK PP pr aB gJ.h Tryz.f121 R
abbrev gJ.J1 (d_0 : Option Addr) (t4 : Addr) (h_5 : Addr) (x_6 : Addr) (M : Mem) : Prop := aB [true, true, true, true] [] [(0, .pointer d_0), (4, .pointer (some t4)), (5, .pointer (some h_5)), (6, .pointer (some x_6))] M
def gJ.J1.T (d_0 : Option Addr) (t4 : Addr) (h_5 : Addr) (x_6 : Addr) (R : VP) (M : Mem) : Prop := aJ pr aB R (bO PP gJ.h (gR Tryz.f121) [true, true, true, true] [] [(0, .ptr (.v d_0)), (4, .ptr (.a (.v t4))), (5, .ptr (.a (.v h_5))), (6, .ptr (.a (.v x_6)))] M)
theorem gJ.Is.J1 {pr : Prim} {aB : fE} (H : gJ.Is pr aB R) (d_0 : Option Addr) (t4 : Addr) (h_5 : Addr) (x_6 : Addr) (M : Mem) : gJ.J1 aB d_0 t4 h_5 x_6 M = gJ.J1.T pr aB d_0 t4 h_5 x_6 R M := (H _ _ _ _ _ rfl).trans (by kernel_rfl)
def gJ.T (d : Option Addr) (queue : Int) (R : VP) (M : Mem) : Prop := aJ pr aB R (gX PP gJ.h [] [] (gR Tryz.f121) [(0, .ptr (.v d)), (1, .int .i64 (.v queue))] M)
theorem gJ.go (d : Option Addr) (queue : Int) (h : ∀ aB, gJ.Is (aH PP w0) aB R → gJ.T (aH PP w0) aB d queue R M) : C PP w0 Id.gJ #[.pointer d, .int .i64 queue] R M :=
  c8 mixed (h := gJ.h) (T := fun pr aB => gJ.T pr aB d queue R M) Tryz.func121 (cZ _ _) (by kernel_rfl) (fun pr aB => by kernel_rfl) h
noncomputable def mH.h : HC := aF (bd Tryz.f122) []
def mH.T (d : Option Addr) (R : VP) (M : Mem) : Prop := aJ pr (fun _ _ _ _ => False) R (gX PP mH.h [] [] (gR Tryz.f122) [(0, .ptr (.v d))] M)
theorem mH.go (d : Option Addr) (h : mH.T (aH PP w0) d R M) : C PP w0 Id.mH #[.pointer d] R M :=
  c8 mixed (h := mH.h) (T := fun pr aB => mH.T pr d R M) Tryz.func122 (cZ _ _) (by kernel_rfl) (fun pr aB => by kernel_rfl) fun _ _ => h
noncomputable def eK.h : HC := aF (bd Tryz.f123) [([true, true, false, true, false], [0, 1, 5, 14, 15, 16])]
def eK.Is (R : VP) : Prop := pK PP pr aB eK.h Tryz.f123 R
abbrev eK.L1 (k : Nat) (t_0 : Option Addr) (queue_1 n_5 : Int) (t14 : SV) (t15 t16 : Int) (M : Mem) : Prop := aB [false, false, true, false, true, true] [k] [(0, .pointer t_0), (1, .int .i64 queue_1), (5, .int .i64 n_5), (14, SV.v t14), (15, .int .i64 t15), (16, .int .i64 t16)] M
def eK.L1.T (k : Nat) (t_0 : Option Addr) (queue_1 n_5 : Int) (t14 : SV) (t15 t16 : Int) (R : VP) (M : Mem) : Prop := aJ pr aB R (bO PP eK.h (gR Tryz.f123) [false, false, true, false, true, true] [k] [(0, .ptr (.v t_0)), (1, .int .i64 (.v queue_1)), (5, .int .i64 (.v n_5)), (14, .sv t14), (15, .int .i64 (.v t15)), (16, .int .i64 (.v t16))] M)
theorem eK.Is.L1 {pr : Prim} {aB : fE} (H : eK.Is pr aB R) (k : Nat) (t_0 : Option Addr) (queue_1 n_5 : Int) (t14 : SV) (t15 t16 : Int) (M : Mem) : eK.L1 aB (k + 1) t_0 queue_1 n_5 t14 t15 t16 M = eK.L1.T pr aB k t_0 queue_1 n_5 t14 t15 t16 R M := (H _ _ _ _ _ rfl).trans (by kernel_rfl)
def eK.T (t : Option Addr) (queue : Int) (R : VP) (M : Mem) : Prop := aJ pr aB R (gX PP eK.h [] [] (gR Tryz.f123) [(0, .ptr (.v t)), (1, .int .i64 (.v queue))] M)
theorem eK.go (t : Option Addr) (queue : Int) (h : ∀ aB, eK.Is (aH PP w0) aB R → eK.T (aH PP w0) aB t queue R M) : C PP w0 Id.eK #[.pointer t, .int .i64 queue] R M :=
  c8 mixed (h := eK.h) (T := fun pr aB => eK.T pr aB t queue R M) Tryz.func123 (cZ _ _) (by kernel_rfl) (fun pr aB => by kernel_rfl) h
noncomputable def cX.h : HC := aF (bd Tryz.f124) [([true, true, false, true, false], [0, 1, 5, 6])]
def cX.Is (R : VP) : Prop := pK PP pr aB cX.h Tryz.f124 R
abbrev cX.L1 (k : Nat) (d_0 : Option Addr) (queue_1 k_5 i_6 : Int) (M : Mem) : Prop := aB [false, false, true, false, true, true] [k] [(0, .pointer d_0), (1, .int .i64 queue_1), (5, .int .i64 k_5), (6, .int .i64 i_6)] M
def cX.L1.T (k : Nat) (d_0 : Option Addr) (queue_1 k_5 i_6 : Int) (R : VP) (M : Mem) : Prop := aJ pr aB R (bO PP cX.h (gR Tryz.f124) [false, false, true, false, true, true] [k] [(0, .ptr (.v d_0)), (1, .int .i64 (.v queue_1)), (5, .int .i64 (.v k_5)), (6, .int .i64 (.v i_6))] M)
theorem cX.Is.L1 {pr : Prim} {aB : fE} (H : cX.Is pr aB R) (k : Nat) (d_0 : Option Addr) (queue_1 k_5 i_6 : Int) (M : Mem) : cX.L1 aB (k + 1) d_0 queue_1 k_5 i_6 M = cX.L1.T pr aB k d_0 queue_1 k_5 i_6 R M := (H _ _ _ _ _ rfl).trans (by kernel_rfl)
def cX.T (d : Option Addr) (queue : Int) (R : VP) (M : Mem) : Prop := aJ pr aB R (gX PP cX.h [] [] (gR Tryz.f124) [(0, .ptr (.v d)), (1, .int .i64 (.v queue))] M)
theorem cX.go (d : Option Addr) (queue : Int) (h : ∀ aB, cX.Is (aH PP w0) aB R → cX.T (aH PP w0) aB d queue R M) : C PP w0 Id.cX #[.pointer d, .int .i64 queue] R M :=
  c8 mixed (h := cX.h) (T := fun pr aB => cX.T pr aB d queue R M) Tryz.func124 (cZ _ _) (by kernel_rfl) (fun pr aB => by kernel_rfl) h
noncomputable def dL.h : HC := aF (bd Tryz.f125) [([true, true, false, true, false], [0, 1, 5, 6])]
def dL.Is (R : VP) : Prop := pK PP pr aB dL.h Tryz.f125 R
abbrev dL.L1 (k : Nat) (d_0 : Option Addr) (queue_1 n_5 i_6 : Int) (M : Mem) : Prop := aB [false, false, true, false, true, true] [k] [(0, .pointer d_0), (1, .int .i64 queue_1), (5, .int .i64 n_5), (6, .int .i64 i_6)] M
def dL.L1.T (k : Nat) (d_0 : Option Addr) (queue_1 n_5 i_6 : Int) (R : VP) (M : Mem) : Prop := aJ pr aB R (bO PP dL.h (gR Tryz.f125) [false, false, true, false, true, true] [k] [(0, .ptr (.v d_0)), (1, .int .i64 (.v queue_1)), (5, .int .i64 (.v n_5)), (6, .int .i64 (.v i_6))] M)
theorem dL.Is.L1 {pr : Prim} {aB : fE} (H : dL.Is pr aB R) (k : Nat) (d_0 : Option Addr) (queue_1 n_5 i_6 : Int) (M : Mem) : dL.L1 aB (k + 1) d_0 queue_1 n_5 i_6 M = dL.L1.T pr aB k d_0 queue_1 n_5 i_6 R M := (H _ _ _ _ _ rfl).trans (by kernel_rfl)
def dL.T (d : Option Addr) (queue : Int) (R : VP) (M : Mem) : Prop := aJ pr aB R (gX PP dL.h [] [] (gR Tryz.f125) [(0, .ptr (.v d)), (1, .int .i64 (.v queue))] M)
theorem dL.go (d : Option Addr) (queue : Int) (h : ∀ aB, dL.Is (aH PP w0) aB R → dL.T (aH PP w0) aB d queue R M) : C PP w0 Id.dL #[.pointer d, .int .i64 queue] R M :=
  c8 mixed (h := dL.h) (T := fun pr aB => dL.T pr aB d queue R M) Tryz.func125 (cZ _ _) (by kernel_rfl) (fun pr aB => by kernel_rfl) h
noncomputable def kJ.h : HC := aF (bd Tryz.f126) []
def kJ.T (p : Option Addr) (R : VP) (M : Mem) : Prop := aJ pr (fun _ _ _ _ => False) R (gX PP kJ.h [] [] (gR Tryz.f126) [(0, .ptr (.v p))] M)
theorem kJ.go (p : Option Addr) (h : kJ.T (aH PP w0) p R M) : C PP w0 Id.kJ #[.pointer p] R M :=
  c8 mixed (h := kJ.h) (T := fun pr aB => kJ.T pr p R M) Tryz.func126 (cZ _ _) (by kernel_rfl) (fun pr aB => by kernel_rfl) fun _ _ => h
noncomputable def dM.h : HC := aF (bd Tryz.f127) []
def dM.T (places : Int) (R : VP) (M : Mem) : Prop := aJ pr (fun _ _ _ _ => False) R (gX PP dM.h [] [] (gR Tryz.f127) [(0, .int .i64 (.v places))] M)
theorem dM.go (places : Int) (h : dM.T (aH PP w0) places R M) : C PP w0 Id.dM #[.int .i64 places] R M :=
  c8 mixed (h := dM.h) (T := fun pr aB => dM.T pr places R M) Tryz.func127 (cZ _ _) (by kernel_rfl) (fun pr aB => by kernel_rfl) fun _ _ => h
noncomputable def dE.h : HC := aF (bd Tryz.f128) [([true, true, false, true, false], [3, 9, 10, 11])]
def dE.Is (R : VP) : Prop := pK PP pr aB dE.h Tryz.f128 R
abbrev dE.L1 (k : Nat) (out_3 t9 : SV) (t10 t11 : Int) (M : Mem) : Prop := aB [false, false, true, false, true, true] [k] [(3, SV.v out_3), (9, SV.v t9), (10, .int .i64 t10), (11, .int .i64 t11)] M
def dE.L1.T (k : Nat) (out_3 t9 : SV) (t10 t11 : Int) (R : VP) (M : Mem) : Prop := aJ pr aB R (bO PP dE.h (gR Tryz.f128) [false, false, true, false, true, true] [k] [(3, .sv out_3), (9, .sv t9), (10, .int .i64 (.v t10)), (11, .int .i64 (.v t11))] M)
theorem dE.Is.L1 {pr : Prim} {aB : fE} (H : dE.Is pr aB R) (k : Nat) (out_3 t9 : SV) (t10 t11 : Int) (M : Mem) : dE.L1 aB (k + 1) out_3 t9 t10 t11 M = dE.L1.T pr aB k out_3 t9 t10 t11 R M := (H _ _ _ _ _ rfl).trans (by kernel_rfl)
def dE.T (p : Option Addr) (R : VP) (M : Mem) : Prop := aJ pr aB R (gX PP dE.h [] [] (gR Tryz.f128) [(0, .ptr (.v p))] M)
theorem dE.go (p : Option Addr) (h : ∀ aB, dE.Is (aH PP w0) aB R → dE.T (aH PP w0) aB p R M) : C PP w0 Id.dE #[.pointer p] R M :=
  c8 mixed (h := dE.h) (T := fun pr aB => dE.T pr aB p R M) Tryz.func128 (cZ _ _) (by kernel_rfl) (fun pr aB => by kernel_rfl) h
noncomputable def jP.h : HC := aF (bd Tryz.f129) []
def jP.T (p : Option Addr) (r_0 r_1 : Int) (R : VP) (M : Mem) : Prop := aJ pr (fun _ _ _ _ => False) R (gX PP jP.h [] [] (gR Tryz.f129) [(0, .ptr (.v p)), (1, .agg [.int .i64 (.v r_0), .int .i64 (.v r_1)])] M)
theorem jP.go (p : Option Addr) (r_0 r_1 : Int) (h : jP.T (aH PP w0) p r_0 r_1 R M) : C PP w0 Id.jP #[.pointer p, .agg #[.int .i64 r_0, .int .i64 r_1]] R M :=
  c8 mixed (h := jP.h) (T := fun pr aB => jP.T pr p r_0 r_1 R M) Tryz.func129 (cZ _ _) (by kernel_rfl) (fun pr aB => by kernel_rfl) fun _ _ => h
noncomputable def fF.h : HC := aF (bd Tryz.f132) []
def fF.T (a_0 a_1 b_0 b_1 : Int) (R : VP) (M : Mem) : Prop := aJ pr (fun _ _ _ _ => False) R (gX PP fF.h [] [] (gR Tryz.f132) [(0, .agg [.int .i64 (.v a_0), .int .i64 (.v a_1)]), (1, .agg [.int .i64 (.v b_0), .int .i64 (.v b_1)])] M)
theorem fF.go (a_0 a_1 b_0 b_1 : Int) (h : fF.T (aH PP w0) a_0 a_1 b_0 b_1 R M) : C PP w0 Id.fF #[.agg #[.int .i64 a_0, .int .i64 a_1], .agg #[.int .i64 b_0, .int .i64 b_1]] R M :=
  c8 mixed (h := fF.h) (T := fun pr aB => fF.T pr a_0 a_1 b_0 b_1 R M) Tryz.func132 (cZ _ _) (by kernel_rfl) (fun pr aB => by kernel_rfl) fun _ _ => h
noncomputable def iA.h : HC := aF (bd Tryz.f133) []
def iA.T (a_0 a_1 b_0 b_1 : Int) (R : VP) (M : Mem) : Prop := aJ pr (fun _ _ _ _ => False) R (gX PP iA.h [] [] (gR Tryz.f133) [(0, .agg [.int .i64 (.v a_0), .int .i64 (.v a_1)]), (1, .agg [.int .i64 (.v b_0), .int .i64 (.v b_1)])] M)
theorem iA.go (a_0 a_1 b_0 b_1 : Int) (h : iA.T (aH PP w0) a_0 a_1 b_0 b_1 R M) : C PP w0 Id.iA #[.agg #[.int .i64 a_0, .int .i64 a_1], .agg #[.int .i64 b_0, .int .i64 b_1]] R M :=
  c8 mixed (h := iA.h) (T := fun pr aB => iA.T pr a_0 a_1 b_0 b_1 R M) Tryz.func133 (cZ _ _) (by kernel_rfl) (fun pr aB => by kernel_rfl) fun _ _ => h
noncomputable def gC.h : HC := aF (bd Tryz.f134) [([true, true, true], [0, 4])]
def gC.Is (R : VP) : Prop := pK PP pr aB gC.h Tryz.f134 R
abbrev gC.J1 (a_0 : Option Addr) (c_4 : Int) (M : Mem) : Prop := aB [true, true, true, true] [] [(0, .pointer a_0), (4, .int .i64 c_4)] M
def gC.J1.T (a_0 : Option Addr) (c_4 : Int) (R : VP) (M : Mem) : Prop := aJ pr aB R (bO PP gC.h (gR Tryz.f134) [true, true, true, true] [] [(0, .ptr (.v a_0)), (4, .int .i64 (.v c_4))] M)
theorem gC.Is.J1 {pr : Prim} {aB : fE} (H : gC.Is pr aB R) (a_0 : Option Addr) (c_4 : Int) (M : Mem) : gC.J1 aB a_0 c_4 M = gC.J1.T pr aB a_0 c_4 R M := (H _ _ _ _ _ rfl).trans (by kernel_rfl)
def gC.T (a : Option Addr) (R : VP) (M : Mem) : Prop := aJ pr aB R (gX PP gC.h [] [] (gR Tryz.f134) [(0, .ptr (.v a))] M)
theorem gC.go (a : Option Addr) (h : ∀ aB, gC.Is (aH PP w0) aB R → gC.T (aH PP w0) aB a R M) : C PP w0 Id.gC #[.pointer a] R M :=
  c8 mixed (h := gC.h) (T := fun pr aB => gC.T pr aB a R M) Tryz.func134 (cZ _ _) (by kernel_rfl) (fun pr aB => by kernel_rfl) h
noncomputable def pN.h : HC := aF (bd Tryz.f135) []
def pN.T (a : Option Addr) (c field v : Int) (R : VP) (M : Mem) : Prop := aJ pr (fun _ _ _ _ => False) R (gX PP pN.h [] [] (gR Tryz.f135) [(0, .ptr (.v a)), (1, .int .i64 (.v c)), (2, .int .i64 (.v field)), (3, .int .i64 (.v v))] M)
theorem pN.go (a : Option Addr) (c field v : Int) (h : pN.T (aH PP w0) a c field v R M) : C PP w0 Id.pN #[.pointer a, .int .i64 c, .int .i64 field, .int .i64 v] R M :=
  c8 mixed (h := pN.h) (T := fun pr aB => pN.T pr a c field v R M) Tryz.func135 (cZ _ _) (by kernel_rfl) (fun pr aB => by kernel_rfl) fun _ _ => h
noncomputable def oL.h : HC := aF (bd Tryz.f136) []
def oL.T (a : Option Addr) (r i : Int) (R : VP) (M : Mem) : Prop := aJ pr (fun _ _ _ _ => False) R (gX PP oL.h [] [] (gR Tryz.f136) [(0, .ptr (.v a)), (1, .int .i64 (.v r)), (2, .int .i64 (.v i))] M)
theorem oL.go (a : Option Addr) (r i : Int) (h : oL.T (aH PP w0) a r i R M) : C PP w0 Id.oL #[.pointer a, .int .i64 r, .int .i64 i] R M :=
  c8 mixed (h := oL.h) (T := fun pr aB => oL.T pr a r i R M) Tryz.func136 (cZ _ _) (by kernel_rfl) (fun pr aB => by kernel_rfl) fun _ _ => h
noncomputable def n6.h : HC := aF (bd Tryz.f137) []
def n6.T (a : Option Addr) (r i : Int) (R : VP) (M : Mem) : Prop := aJ pr (fun _ _ _ _ => False) R (gX PP n6.h [] [] (gR Tryz.f137) [(0, .ptr (.v a)), (1, .int .i64 (.v r)), (2, .int .i64 (.v i))] M)
theorem n6.go (a : Option Addr) (r i : Int) (h : n6.T (aH PP w0) a r i R M) : C PP w0 Id.n6 #[.pointer a, .int .i64 r, .int .i64 i] R M :=
  c8 mixed (h := n6.h) (T := fun pr aB => n6.T pr a r i R M) Tryz.func137 (cZ _ _) (by kernel_rfl) (fun pr aB => by kernel_rfl) fun _ _ => h
noncomputable def jZ.h : HC := aF (bd Tryz.f138) []
def jZ.T (a : Option Addr) (r i : Int) (R : VP) (M : Mem) : Prop := aJ pr (fun _ _ _ _ => False) R (gX PP jZ.h [] [] (gR Tryz.f138) [(0, .ptr (.v a)), (1, .int .i64 (.v r)), (2, .int .i64 (.v i))] M)
theorem jZ.go (a : Option Addr) (r i : Int) (h : jZ.T (aH PP w0) a r i R M) : C PP w0 Id.jZ #[.pointer a, .int .i64 r, .int .i64 i] R M :=
  c8 mixed (h := jZ.h) (T := fun pr aB => jZ.T pr a r i R M) Tryz.func138 (cZ _ _) (by kernel_rfl) (fun pr aB => by kernel_rfl) fun _ _ => h
noncomputable def gE.h : HC := aF (bd Tryz.f141) []
def gE.T (p : Option Addr) (R : VP) (M : Mem) : Prop := aJ pr (fun _ _ _ _ => False) R (gX PP gE.h [] [] (gR Tryz.f141) [(0, .ptr (.v p))] M)
theorem gE.go (p : Option Addr) (h : gE.T (aH PP w0) p R M) : C PP w0 Id.gE #[.pointer p] R M :=
  c8 mixed (h := gE.h) (T := fun pr aB => gE.T pr p R M) Tryz.func141 (cZ _ _) (by kernel_rfl) (fun pr aB => by kernel_rfl) fun _ _ => h
noncomputable def cP.h : HC := aF (bd Tryz.f142) [([true, true], [0, 3, 4, 6])]
def cP.Is (R : VP) : Prop := pK PP pr aB cP.h Tryz.f142 R
abbrev cP.J1 (p_0 : Option Addr) (v_3 : Addr) (t4 : Addr) (at_6 : Int) (M : Mem) : Prop := aB [true, true, true] [] [(0, .pointer p_0), (3, .pointer (some v_3)), (4, .pointer (some t4)), (6, .int .i64 at_6)] M
def cP.J1.T (p_0 : Option Addr) (v_3 : Addr) (t4 : Addr) (at_6 : Int) (R : VP) (M : Mem) : Prop := aJ pr aB R (bO PP cP.h (gR Tryz.f142) [true, true, true] [] [(0, .ptr (.v p_0)), (3, .ptr (.a (.v v_3))), (4, .ptr (.a (.v t4))), (6, .int .i64 (.v at_6))] M)
theorem cP.Is.J1 {pr : Prim} {aB : fE} (H : cP.Is pr aB R) (p_0 : Option Addr) (v_3 : Addr) (t4 : Addr) (at_6 : Int) (M : Mem) : cP.J1 aB p_0 v_3 t4 at_6 M = cP.J1.T pr aB p_0 v_3 t4 at_6 R M := (H _ _ _ _ _ rfl).trans (by kernel_rfl)
def cP.T (p : Option Addr) (v_0 v_1 v_2 : Int) (R : VP) (M : Mem) : Prop := aJ pr aB R (gX PP cP.h [] [] (gR Tryz.f142) [(0, .ptr (.v p)), (1, .agg [.int .i64 (.v v_0), .int .i64 (.v v_1), .int .i64 (.v v_2)])] M)
theorem cP.go (p : Option Addr) (v_0 v_1 v_2 : Int) (h : ∀ aB, cP.Is (aH PP w0) aB R → cP.T (aH PP w0) aB p v_0 v_1 v_2 R M) : C PP w0 Id.cP #[.pointer p, .agg #[.int .i64 v_0, .int .i64 v_1, .int .i64 v_2]] R M :=
  c8 mixed (h := cP.h) (T := fun pr aB => cP.T pr aB p v_0 v_1 v_2 R M) Tryz.func142 (cZ _ _) (by kernel_rfl) (fun pr aB => by kernel_rfl) h
noncomputable def j0.h : HC := aF (bd Tryz.f143) []
def j0.T (p : Option Addr) (r_0 r_1 v_0 v_1 v_2 : Int) (R : VP) (M : Mem) : Prop := aJ pr (fun _ _ _ _ => False) R (gX PP j0.h [] [] (gR Tryz.f143) [(0, .ptr (.v p)), (1, .agg [.int .i64 (.v r_0), .int .i64 (.v r_1)]), (2, .agg [.int .i64 (.v v_0), .int .i64 (.v v_1), .int .i64 (.v v_2)])] M)
theorem j0.go (p : Option Addr) (r_0 r_1 v_0 v_1 v_2 : Int) (h : j0.T (aH PP w0) p r_0 r_1 v_0 v_1 v_2 R M) : C PP w0 Id.j0 #[.pointer p, .agg #[.int .i64 r_0, .int .i64 r_1], .agg #[.int .i64 v_0, .int .i64 v_1, .int .i64 v_2]] R M :=
  c8 mixed (h := j0.h) (T := fun pr aB => j0.T pr p r_0 r_1 v_0 v_1 v_2 R M) Tryz.func143 (cZ _ _) (by kernel_rfl) (fun pr aB => by kernel_rfl) fun _ _ => h
noncomputable def qX.h : HC := aF (bd Tryz.f144) []
def qX.T (a : Option Addr) (r : Int) (R : VP) (M : Mem) : Prop := aJ pr (fun _ _ _ _ => False) R (gX PP qX.h [] [] (gR Tryz.f144) [(0, .ptr (.v a)), (1, .int .i64 (.v r))] M)
theorem qX.go (a : Option Addr) (r : Int) (h : qX.T (aH PP w0) a r R M) : C PP w0 Id.qX #[.pointer a, .int .i64 r] R M :=
  c8 mixed (h := qX.h) (T := fun pr aB => qX.T pr a r R M) Tryz.func144 (cZ _ _) (by kernel_rfl) (fun pr aB => by kernel_rfl) fun _ _ => h
noncomputable def qR.h : HC := aF (bd Tryz.f145) []
def qR.T (a : Option Addr) (r : Int) (R : VP) (M : Mem) : Prop := aJ pr (fun _ _ _ _ => False) R (gX PP qR.h [] [] (gR Tryz.f145) [(0, .ptr (.v a)), (1, .int .i64 (.v r))] M)
theorem qR.go (a : Option Addr) (r : Int) (h : qR.T (aH PP w0) a r R M) : C PP w0 Id.qR #[.pointer a, .int .i64 r] R M :=
  c8 mixed (h := qR.h) (T := fun pr aB => qR.T pr a r R M) Tryz.func145 (cZ _ _) (by kernel_rfl) (fun pr aB => by kernel_rfl) fun _ _ => h
noncomputable def lS.h : HC := aF (bd Tryz.f146) []
def lS.T (a : Option Addr) (r : Int) (R : VP) (M : Mem) : Prop := aJ pr (fun _ _ _ _ => False) R (gX PP lS.h [] [] (gR Tryz.f146) [(0, .ptr (.v a)), (1, .int .i64 (.v r))] M)
theorem lS.go (a : Option Addr) (r : Int) (h : lS.T (aH PP w0) a r R M) : C PP w0 Id.lS #[.pointer a, .int .i64 r] R M :=
  c8 mixed (h := lS.h) (T := fun pr aB => lS.T pr a r R M) Tryz.func146 (cZ _ _) (by kernel_rfl) (fun pr aB => by kernel_rfl) fun _ _ => h
noncomputable def iC.h : HC := aF (bd Tryz.f149) [([true], [0, 1])]
def iC.Is (R : VP) : Prop := pK PP pr aB iC.h Tryz.f149 R
abbrev iC.J1 (a_0 : Option Addr) (r_1 : Int) (M : Mem) : Prop := aB [true, true] [] [(0, .pointer a_0), (1, .int .i64 r_1)] M
def iC.J1.T (a_0 : Option Addr) (r_1 : Int) (R : VP) (M : Mem) : Prop := aJ pr aB R (bO PP iC.h (gR Tryz.f149) [true, true] [] [(0, .ptr (.v a_0)), (1, .int .i64 (.v r_1))] M)
theorem iC.Is.J1 {pr : Prim} {aB : fE} (H : iC.Is pr aB R) (a_0 : Option Addr) (r_1 : Int) (M : Mem) : iC.J1 aB a_0 r_1 M = iC.J1.T pr aB a_0 r_1 R M := (H _ _ _ _ _ rfl).trans (by kernel_rfl)
def iC.T (a : Option Addr) (r : Int) (R : VP) (M : Mem) : Prop := aJ pr aB R (gX PP iC.h [] [] (gR Tryz.f149) [(0, .ptr (.v a)), (1, .int .i64 (.v r))] M)
theorem iC.go (a : Option Addr) (r : Int) (h : ∀ aB, iC.Is (aH PP w0) aB R → iC.T (aH PP w0) aB a r R M) : C PP w0 Id.iC #[.pointer a, .int .i64 r] R M :=
  c8 mixed (h := iC.h) (T := fun pr aB => iC.T pr aB a r R M) Tryz.func149 (cZ _ _) (by kernel_rfl) (fun pr aB => by kernel_rfl) h
noncomputable def jM.h : HC := aF (bd Tryz.f150) [([true], [0, 1])]
def jM.Is (R : VP) : Prop := pK PP pr aB jM.h Tryz.f150 R
abbrev jM.J1 (a_0 : Option Addr) (r_1 : Int) (M : Mem) : Prop := aB [true, true] [] [(0, .pointer a_0), (1, .int .i64 r_1)] M
def jM.J1.T (a_0 : Option Addr) (r_1 : Int) (R : VP) (M : Mem) : Prop := aJ pr aB R (bO PP jM.h (gR Tryz.f150) [true, true] [] [(0, .ptr (.v a_0)), (1, .int .i64 (.v r_1))] M)
theorem jM.Is.J1 {pr : Prim} {aB : fE} (H : jM.Is pr aB R) (a_0 : Option Addr) (r_1 : Int) (M : Mem) : jM.J1 aB a_0 r_1 M = jM.J1.T pr aB a_0 r_1 R M := (H _ _ _ _ _ rfl).trans (by kernel_rfl)
def jM.T (a : Option Addr) (r : Int) (R : VP) (M : Mem) : Prop := aJ pr aB R (gX PP jM.h [] [] (gR Tryz.f150) [(0, .ptr (.v a)), (1, .int .i64 (.v r))] M)
theorem jM.go (a : Option Addr) (r : Int) (h : ∀ aB, jM.Is (aH PP w0) aB R → jM.T (aH PP w0) aB a r R M) : C PP w0 Id.jM #[.pointer a, .int .i64 r] R M :=
  c8 mixed (h := jM.h) (T := fun pr aB => jM.T pr aB a r R M) Tryz.func150 (cZ _ _) (by kernel_rfl) (fun pr aB => by kernel_rfl) h
noncomputable def eY.h : HC := aF (bd Tryz.f151) [([true], [0, 1])]
def eY.Is (R : VP) : Prop := pK PP pr aB eY.h Tryz.f151 R
abbrev eY.J1 (a_0 : Option Addr) (r_1 : Int) (M : Mem) : Prop := aB [true, true] [] [(0, .pointer a_0), (1, .int .i64 r_1)] M
def eY.J1.T (a_0 : Option Addr) (r_1 : Int) (R : VP) (M : Mem) : Prop := aJ pr aB R (bO PP eY.h (gR Tryz.f151) [true, true] [] [(0, .ptr (.v a_0)), (1, .int .i64 (.v r_1))] M)
theorem eY.Is.J1 {pr : Prim} {aB : fE} (H : eY.Is pr aB R) (a_0 : Option Addr) (r_1 : Int) (M : Mem) : eY.J1 aB a_0 r_1 M = eY.J1.T pr aB a_0 r_1 R M := (H _ _ _ _ _ rfl).trans (by kernel_rfl)
def eY.T (a : Option Addr) (r : Int) (R : VP) (M : Mem) : Prop := aJ pr aB R (gX PP eY.h [] [] (gR Tryz.f151) [(0, .ptr (.v a)), (1, .int .i64 (.v r))] M)
theorem eY.go (a : Option Addr) (r : Int) (h : ∀ aB, eY.Is (aH PP w0) aB R → eY.T (aH PP w0) aB a r R M) : C PP w0 Id.eY #[.pointer a, .int .i64 r] R M :=
  c8 mixed (h := eY.h) (T := fun pr aB => eY.T pr aB a r R M) Tryz.func151 (cZ _ _) (by kernel_rfl) (fun pr aB => by kernel_rfl) h
noncomputable def oK.h : HC := aF (bd Tryz.f154) []
def oK.T (t : Option Addr) (i_0 i_1 : Int) (R : VP) (M : Mem) : Prop := aJ pr (fun _ _ _ _ => False) R (gX PP oK.h [] [] (gR Tryz.f154) [(0, .ptr (.v t)), (1, .agg [.int .i64 (.v i_0), .int .i64 (.v i_1)])] M)
theorem oK.go (t : Option Addr) (i_0 i_1 : Int) (h : oK.T (aH PP w0) t i_0 i_1 R M) : C PP w0 Id.oK #[.pointer t, .agg #[.int .i64 i_0, .int .i64 i_1]] R M :=
  c8 mixed (h := oK.h) (T := fun pr aB => oK.T pr t i_0 i_1 R M) Tryz.func154 (cZ _ _) (by kernel_rfl) (fun pr aB => by kernel_rfl) fun _ _ => h
noncomputable def oP.h : HC := aF (bd Tryz.f155) []
def oP.T (a : Option Addr) (c : Int) (R : VP) (M : Mem) : Prop := aJ pr (fun _ _ _ _ => False) R (gX PP oP.h [] [] (gR Tryz.f155) [(0, .ptr (.v a)), (1, .int .i64 (.v c))] M)
theorem oP.go (a : Option Addr) (c : Int) (h : oP.T (aH PP w0) a c R M) : C PP w0 Id.oP #[.pointer a, .int .i64 c] R M :=
  c8 mixed (h := oP.h) (T := fun pr aB => oP.T pr a c R M) Tryz.func155 (cZ _ _) (by kernel_rfl) (fun pr aB => by kernel_rfl) fun _ _ => h
noncomputable def jQ.h : HC := aF (bd Tryz.f156) []
def jQ.T (p : Option Addr) (r_0 r_1 : Int) (R : VP) (M : Mem) : Prop := aJ pr (fun _ _ _ _ => False) R (gX PP jQ.h [] [] (gR Tryz.f156) [(0, .ptr (.v p)), (1, .agg [.int .i64 (.v r_0), .int .i64 (.v r_1)])] M)
theorem jQ.go (p : Option Addr) (r_0 r_1 : Int) (h : jQ.T (aH PP w0) p r_0 r_1 R M) : C PP w0 Id.jQ #[.pointer p, .agg #[.int .i64 r_0, .int .i64 r_1]] R M :=
  c8 mixed (h := jQ.h) (T := fun pr aB => jQ.T pr p r_0 r_1 R M) Tryz.func156 (cZ _ _) (by kernel_rfl) (fun pr aB => by kernel_rfl) fun _ _ => h
noncomputable def rK.h : HC := aF (bd Tryz.f157) []
def rK.T (a : Option Addr) (c field : Int) (R : VP) (M : Mem) : Prop := aJ pr (fun _ _ _ _ => False) R (gX PP rK.h [] [] (gR Tryz.f157) [(0, .ptr (.v a)), (1, .int .i64 (.v c)), (2, .int .i64 (.v field))] M)
theorem rK.go (a : Option Addr) (c field : Int) (h : rK.T (aH PP w0) a c field R M) : C PP w0 Id.rK #[.pointer a, .int .i64 c, .int .i64 field] R M :=
  c8 mixed (h := rK.h) (T := fun pr aB => rK.T pr a c field R M) Tryz.func157 (cZ _ _) (by kernel_rfl) (fun pr aB => by kernel_rfl) fun _ _ => h
noncomputable def gL.h : HC := aF (bd Tryz.f158) [([true, true, true], [0, 1, 7])]
def gL.Is (R : VP) : Prop := pK PP pr aB gL.h Tryz.f158 R
abbrev gL.J1 (a_0 : Option Addr) (r_1 n_7 : Int) (M : Mem) : Prop := aB [true, true, true, true] [] [(0, .pointer a_0), (1, .int .i64 r_1), (7, .int .i64 n_7)] M
def gL.J1.T (a_0 : Option Addr) (r_1 n_7 : Int) (R : VP) (M : Mem) : Prop := aJ pr aB R (bO PP gL.h (gR Tryz.f158) [true, true, true, true] [] [(0, .ptr (.v a_0)), (1, .int .i64 (.v r_1)), (7, .int .i64 (.v n_7))] M)
theorem gL.Is.J1 {pr : Prim} {aB : fE} (H : gL.Is pr aB R) (a_0 : Option Addr) (r_1 n_7 : Int) (M : Mem) : gL.J1 aB a_0 r_1 n_7 M = gL.J1.T pr aB a_0 r_1 n_7 R M := (H _ _ _ _ _ rfl).trans (by kernel_rfl)
def gL.T (a : Option Addr) (r i : Int) (R : VP) (M : Mem) : Prop := aJ pr aB R (gX PP gL.h [] [] (gR Tryz.f158) [(0, .ptr (.v a)), (1, .int .i64 (.v r)), (2, .int .i64 (.v i))] M)
theorem gL.go (a : Option Addr) (r i : Int) (h : ∀ aB, gL.Is (aH PP w0) aB R → gL.T (aH PP w0) aB a r i R M) : C PP w0 Id.gL #[.pointer a, .int .i64 r, .int .i64 i] R M :=
  c8 mixed (h := gL.h) (T := fun pr aB => gL.T pr aB a r i R M) Tryz.func158 (cZ _ _) (by kernel_rfl) (fun pr aB => by kernel_rfl) h
noncomputable def nX.h : HC := aF (bd Tryz.f159) []
def nX.T (a : Option Addr) (r i : Int) (R : VP) (M : Mem) : Prop := aJ pr (fun _ _ _ _ => False) R (gX PP nX.h [] [] (gR Tryz.f159) [(0, .ptr (.v a)), (1, .int .i64 (.v r)), (2, .int .i64 (.v i))] M)
theorem nX.go (a : Option Addr) (r i : Int) (h : nX.T (aH PP w0) a r i R M) : C PP w0 Id.nX #[.pointer a, .int .i64 r, .int .i64 i] R M :=
  c8 mixed (h := nX.h) (T := fun pr aB => nX.T pr a r i R M) Tryz.func159 (cZ _ _) (by kernel_rfl) (fun pr aB => by kernel_rfl) fun _ _ => h
noncomputable def kI.h : HC := aF (bd Tryz.f160) []
def kI.T (a : Option Addr) (r i : Int) (R : VP) (M : Mem) : Prop := aJ pr (fun _ _ _ _ => False) R (gX PP kI.h [] [] (gR Tryz.f160) [(0, .ptr (.v a)), (1, .int .i64 (.v r)), (2, .int .i64 (.v i))] M)
theorem kI.go (a : Option Addr) (r i : Int) (h : kI.T (aH PP w0) a r i R M) : C PP w0 Id.kI #[.pointer a, .int .i64 r, .int .i64 i] R M :=
  c8 mixed (h := kI.h) (T := fun pr aB => kI.T pr a r i R M) Tryz.func160 (cZ _ _) (by kernel_rfl) (fun pr aB => by kernel_rfl) fun _ _ => h
noncomputable def jL.h : HC := aF (bd Tryz.f163) [([true, true, true, true], [0, 1, 7])]
def jL.Is (R : VP) : Prop := pK PP pr aB jL.h Tryz.f163 R
abbrev jL.J1 (a_0 : Option Addr) (r_1 n_7 : Int) (M : Mem) : Prop := aB [true, true, true, true, true] [] [(0, .pointer a_0), (1, .int .i64 r_1), (7, .int .i64 n_7)] M
def jL.J1.T (a_0 : Option Addr) (r_1 n_7 : Int) (R : VP) (M : Mem) : Prop := aJ pr aB R (bO PP jL.h (gR Tryz.f163) [true, true, true, true, true] [] [(0, .ptr (.v a_0)), (1, .int .i64 (.v r_1)), (7, .int .i64 (.v n_7))] M)
theorem jL.Is.J1 {pr : Prim} {aB : fE} (H : jL.Is pr aB R) (a_0 : Option Addr) (r_1 n_7 : Int) (M : Mem) : jL.J1 aB a_0 r_1 n_7 M = jL.J1.T pr aB a_0 r_1 n_7 R M := (H _ _ _ _ _ rfl).trans (by kernel_rfl)
def jL.T (a : Option Addr) (r i : Int) (R : VP) (M : Mem) : Prop := aJ pr aB R (gX PP jL.h [] [] (gR Tryz.f163) [(0, .ptr (.v a)), (1, .int .i64 (.v r)), (2, .int .i64 (.v i))] M)
theorem jL.go (a : Option Addr) (r i : Int) (h : ∀ aB, jL.Is (aH PP w0) aB R → jL.T (aH PP w0) aB a r i R M) : C PP w0 Id.jL #[.pointer a, .int .i64 r, .int .i64 i] R M :=
  c8 mixed (h := jL.h) (T := fun pr aB => jL.T pr aB a r i R M) Tryz.func163 (cZ _ _) (by kernel_rfl) (fun pr aB => by kernel_rfl) h
noncomputable def rE.h : HC := aF (bd Tryz.f164) []
def rE.T (a : Option Addr) (r i : Int) (R : VP) (M : Mem) : Prop := aJ pr (fun _ _ _ _ => False) R (gX PP rE.h [] [] (gR Tryz.f164) [(0, .ptr (.v a)), (1, .int .i64 (.v r)), (2, .int .i64 (.v i))] M)
theorem rE.go (a : Option Addr) (r i : Int) (h : rE.T (aH PP w0) a r i R M) : C PP w0 Id.rE #[.pointer a, .int .i64 r, .int .i64 i] R M :=
  c8 mixed (h := rE.h) (T := fun pr aB => rE.T pr a r i R M) Tryz.func164 (cZ _ _) (by kernel_rfl) (fun pr aB => by kernel_rfl) fun _ _ => h
noncomputable def mG.h : HC := aF (bd Tryz.f165) []
def mG.T (a : Option Addr) (r i : Int) (R : VP) (M : Mem) : Prop := aJ pr (fun _ _ _ _ => False) R (gX PP mG.h [] [] (gR Tryz.f165) [(0, .ptr (.v a)), (1, .int .i64 (.v r)), (2, .int .i64 (.v i))] M)
theorem mG.go (a : Option Addr) (r i : Int) (h : mG.T (aH PP w0) a r i R M) : C PP w0 Id.mG #[.pointer a, .int .i64 r, .int .i64 i] R M :=
  c8 mixed (h := mG.h) (T := fun pr aB => mG.T pr a r i R M) Tryz.func165 (cZ _ _) (by kernel_rfl) (fun pr aB => by kernel_rfl) fun _ _ => h
end
end HL
namespace HL
section
variable (pr : Prim) (aB : fE) (w0 : World) {R : VP} {M : Mem}
noncomputable def j5.h : HC := aF (bd Tryz.f168) []
def j5.T (p : Option Addr) (r_0 r_1 v_0 v_1 v_2 : Int) (R : VP) (M : Mem) : Prop := aJ pr (fun _ _ _ _ => False) R (gX PP j5.h [] [] (gR Tryz.f168) [(0, .ptr (.v p)), (1, .agg [.int .i64 (.v r_0), .int .i64 (.v r_1)]), (2, .agg [.int .i64 (.v v_0), .int .i64 (.v v_1), .int .i64 (.v v_2)])] M)
theorem j5.go (p : Option Addr) (r_0 r_1 v_0 v_1 v_2 : Int) (h : j5.T (aH PP w0) p r_0 r_1 v_0 v_1 v_2 R M) : C PP w0 Id.j5 #[.pointer p, .agg #[.int .i64 r_0, .int .i64 r_1], .agg #[.int .i64 v_0, .int .i64 v_1, .int .i64 v_2]] R M :=
  c8 mixed (h := j5.h) (T := fun pr aB => j5.T pr p r_0 r_1 v_0 v_1 v_2 R M) Tryz.func168 (cZ _ _) (by kernel_rfl) (fun pr aB => by kernel_rfl) fun _ _ => h
noncomputable def iS.h : HC := aF (bd Tryz.f169) []
def iS.T (p : Option Addr) (r_0 r_1 : Int) (R : VP) (M : Mem) : Prop := aJ pr (fun _ _ _ _ => False) R (gX PP iS.h [] [] (gR Tryz.f169) [(0, .ptr (.v p)), (1, .agg [.int .i64 (.v r_0), .int .i64 (.v r_1)])] M)
theorem iS.go (p : Option Addr) (r_0 r_1 : Int) (h : iS.T (aH PP w0) p r_0 r_1 R M) : C PP w0 Id.iS #[.pointer p, .agg #[.int .i64 r_0, .int .i64 r_1]] R M :=
  c8 mixed (h := iS.h) (T := fun pr aB => iS.T pr p r_0 r_1 R M) Tryz.func169 (cZ _ _) (by kernel_rfl) (fun pr aB => by kernel_rfl) fun _ _ => h
noncomputable def oF.h : HC := aF (bd Tryz.f170) []
def oF.T (a : Option Addr) (r s : Int) (R : VP) (M : Mem) : Prop := aJ pr (fun _ _ _ _ => False) R (gX PP oF.h [] [] (gR Tryz.f170) [(0, .ptr (.v a)), (1, .int .i64 (.v r)), (2, .int .i64 (.v s))] M)
theorem oF.go (a : Option Addr) (r s : Int) (h : oF.T (aH PP w0) a r s R M) : C PP w0 Id.oF #[.pointer a, .int .i64 r, .int .i64 s] R M :=
  c8 mixed (h := oF.h) (T := fun pr aB => oF.T pr a r s R M) Tryz.func170 (cZ _ _) (by kernel_rfl) (fun pr aB => by kernel_rfl) fun _ _ => h
noncomputable def nP.h : HC := aF (bd Tryz.f171) []
def nP.T (a : Option Addr) (r s : Int) (R : VP) (M : Mem) : Prop := aJ pr (fun _ _ _ _ => False) R (gX PP nP.h [] [] (gR Tryz.f171) [(0, .ptr (.v a)), (1, .int .i64 (.v r)), (2, .int .i64 (.v s))] M)
theorem nP.go (a : Option Addr) (r s : Int) (h : nP.T (aH PP w0) a r s R M) : C PP w0 Id.nP #[.pointer a, .int .i64 r, .int .i64 s] R M :=
  c8 mixed (h := nP.h) (T := fun pr aB => nP.T pr a r s R M) Tryz.func171 (cZ _ _) (by kernel_rfl) (fun pr aB => by kernel_rfl) fun _ _ => h
noncomputable def j8.h : HC := aF (bd Tryz.f172) []
def j8.T (a : Option Addr) (r s : Int) (R : VP) (M : Mem) : Prop := aJ pr (fun _ _ _ _ => False) R (gX PP j8.h [] [] (gR Tryz.f172) [(0, .ptr (.v a)), (1, .int .i64 (.v r)), (2, .int .i64 (.v s))] M)
theorem j8.go (a : Option Addr) (r s : Int) (h : j8.T (aH PP w0) a r s R M) : C PP w0 Id.j8 #[.pointer a, .int .i64 r, .int .i64 s] R M :=
  c8 mixed (h := j8.h) (T := fun pr aB => j8.T pr a r s R M) Tryz.func172 (cZ _ _) (by kernel_rfl) (fun pr aB => by kernel_rfl) fun _ _ => h
noncomputable def cU.h : HC := aF (bd Tryz.f175) [([true], [0, 3])]
def cU.Is (R : VP) : Prop := pK PP pr aB cU.h Tryz.f175 R
abbrev cU.J1 (p_0 : Option Addr) (r_3 : Addr) (M : Mem) : Prop := aB [true, true] [] [(0, .pointer p_0), (3, .pointer (some r_3))] M
def cU.J1.T (p_0 : Option Addr) (r_3 : Addr) (R : VP) (M : Mem) : Prop := aJ pr aB R (bO PP cU.h (gR Tryz.f175) [true, true] [] [(0, .ptr (.v p_0)), (3, .ptr (.a (.v r_3)))] M)
theorem cU.Is.J1 {pr : Prim} {aB : fE} (H : cU.Is pr aB R) (p_0 : Option Addr) (r_3 : Addr) (M : Mem) : cU.J1 aB p_0 r_3 M = cU.J1.T pr aB p_0 r_3 R M := (H _ _ _ _ _ rfl).trans (by kernel_rfl)
def cU.T (p : Option Addr) (r_0 r_1 : Int) (R : VP) (M : Mem) : Prop := aJ pr aB R (gX PP cU.h [] [] (gR Tryz.f175) [(0, .ptr (.v p)), (1, .agg [.int .i64 (.v r_0), .int .i64 (.v r_1)])] M)
theorem cU.go (p : Option Addr) (r_0 r_1 : Int) (h : ∀ aB, cU.Is (aH PP w0) aB R → cU.T (aH PP w0) aB p r_0 r_1 R M) : C PP w0 Id.cU #[.pointer p, .agg #[.int .i64 r_0, .int .i64 r_1]] R M :=
  c8 mixed (h := cU.h) (T := fun pr aB => cU.T pr aB p r_0 r_1 R M) Tryz.func175 (cZ _ _) (by kernel_rfl) (fun pr aB => by kernel_rfl) h
noncomputable def dC.h : HC := aF (bd Tryz.f181) [([true, true, false, true, false], [3, 9, 10, 11])]
def dC.Is (R : VP) : Prop := pK PP pr aB dC.h Tryz.f181 R
abbrev dC.L1 (k : Nat) (out_3 t9 : SV) (t10 t11 : Int) (M : Mem) : Prop := aB [false, false, true, false, true, true] [k] [(3, SV.v out_3), (9, SV.v t9), (10, .int .i64 t10), (11, .int .i64 t11)] M
def dC.L1.T (k : Nat) (out_3 t9 : SV) (t10 t11 : Int) (R : VP) (M : Mem) : Prop := aJ pr aB R (bO PP dC.h (gR Tryz.f181) [false, false, true, false, true, true] [k] [(3, .sv out_3), (9, .sv t9), (10, .int .i64 (.v t10)), (11, .int .i64 (.v t11))] M)
theorem dC.Is.L1 {pr : Prim} {aB : fE} (H : dC.Is pr aB R) (k : Nat) (out_3 t9 : SV) (t10 t11 : Int) (M : Mem) : dC.L1 aB (k + 1) out_3 t9 t10 t11 M = dC.L1.T pr aB k out_3 t9 t10 t11 R M := (H _ _ _ _ _ rfl).trans (by kernel_rfl)
def dC.T (p : Option Addr) (R : VP) (M : Mem) : Prop := aJ pr aB R (gX PP dC.h [] [] (gR Tryz.f181) [(0, .ptr (.v p))] M)
theorem dC.go (p : Option Addr) (h : ∀ aB, dC.Is (aH PP w0) aB R → dC.T (aH PP w0) aB p R M) : C PP w0 Id.dC #[.pointer p] R M :=
  c8 mixed (h := dC.h) (T := fun pr aB => dC.T pr aB p R M) Tryz.func181 (cZ _ _) (by kernel_rfl) (fun pr aB => by kernel_rfl) h
noncomputable def iU.h : HC := aF (bd Tryz.f183) []
def iU.T (n : Int) (R : VP) (M : Mem) : Prop := aJ pr (fun _ _ _ _ => False) R (gX PP iU.h [] [] (gR Tryz.f183) [(0, .int .i64 (.v n))] M)
theorem iU.go (n : Int) (h : iU.T (aH PP w0) n R M) : C PP w0 Id.iU #[.int .i64 n] R M :=
  c8 mixed (h := iU.h) (T := fun pr aB => iU.T pr n R M) Tryz.func183 (cZ _ _) (by kernel_rfl) (fun pr aB => by kernel_rfl) fun _ _ => h
noncomputable def qY.h : HC := aF (bd Tryz.f184) []
def qY.T (t : Option Addr) (j_0 j_1 j_2 j_3 j_4 : Int) (R : VP) (M : Mem) : Prop := aJ pr (fun _ _ _ _ => False) R (gX PP qY.h [] [] (gR Tryz.f184) [(0, .ptr (.v t)), (1, .agg [.int .i64 (.v j_0), .int .i64 (.v j_1), .int .i64 (.v j_2), .int .i64 (.v j_3), .int .i64 (.v j_4)])] M)
theorem qY.go (t : Option Addr) (j_0 j_1 j_2 j_3 j_4 : Int) (h : qY.T (aH PP w0) t j_0 j_1 j_2 j_3 j_4 R M) : C PP w0 Id.qY #[.pointer t, .agg #[.int .i64 j_0, .int .i64 j_1, .int .i64 j_2, .int .i64 j_3, .int .i64 j_4]] R M :=
  c8 mixed (h := qY.h) (T := fun pr aB => qY.T pr t j_0 j_1 j_2 j_3 j_4 R M) Tryz.func184 (cZ _ _) (by kernel_rfl) (fun pr aB => by kernel_rfl) fun _ _ => h
noncomputable def fM.h : HC := aF (bd Tryz.f185) []
def fM.T (j_0 j_1 j_2 j_3 j_4 : Int) (R : VP) (M : Mem) : Prop := aJ pr (fun _ _ _ _ => False) R (gX PP fM.h [] [] (gR Tryz.f185) [(0, .agg [.int .i64 (.v j_0), .int .i64 (.v j_1), .int .i64 (.v j_2), .int .i64 (.v j_3), .int .i64 (.v j_4)])] M)
theorem fM.go (j_0 j_1 j_2 j_3 j_4 : Int) (h : fM.T (aH PP w0) j_0 j_1 j_2 j_3 j_4 R M) : C PP w0 Id.fM #[.agg #[.int .i64 j_0, .int .i64 j_1, .int .i64 j_2, .int .i64 j_3, .int .i64 j_4]] R M :=
  c8 mixed (h := fM.h) (T := fun pr aB => fM.T pr j_0 j_1 j_2 j_3 j_4 R M) Tryz.func185 (cZ _ _) (by kernel_rfl) (fun pr aB => by kernel_rfl) fun _ _ => h
noncomputable def iN.h : HC := aF (bd Tryz.f186) [([true, true, true], [0, 4, 5, 7])]
def iN.Is (R : VP) : Prop := pK PP pr aB iN.h Tryz.f186 R
abbrev iN.J1 (t_0 : Option Addr) (r_4 : Addr) (j_5 : Addr) (was_7 : Addr) (M : Mem) : Prop := aB [true, true, true, true] [] [(0, .pointer t_0), (4, .pointer (some r_4)), (5, .pointer (some j_5)), (7, .pointer (some was_7))] M
def iN.J1.T (t_0 : Option Addr) (r_4 : Addr) (j_5 : Addr) (was_7 : Addr) (R : VP) (M : Mem) : Prop := aJ pr aB R (bO PP iN.h (gR Tryz.f186) [true, true, true, true] [] [(0, .ptr (.v t_0)), (4, .ptr (.a (.v r_4))), (5, .ptr (.a (.v j_5))), (7, .ptr (.a (.v was_7)))] M)
theorem iN.Is.J1 {pr : Prim} {aB : fE} (H : iN.Is pr aB R) (t_0 : Option Addr) (r_4 : Addr) (j_5 : Addr) (was_7 : Addr) (M : Mem) : iN.J1 aB t_0 r_4 j_5 was_7 M = iN.J1.T pr aB t_0 r_4 j_5 was_7 R M := (H _ _ _ _ _ rfl).trans (by kernel_rfl)
def iN.T (t : Option Addr) (r_0 r_1 j_0 j_1 j_2 j_3 j_4 : Int) (R : VP) (M : Mem) : Prop := aJ pr aB R (gX PP iN.h [] [] (gR Tryz.f186) [(0, .ptr (.v t)), (1, .agg [.int .i64 (.v r_0), .int .i64 (.v r_1)]), (2, .agg [.int .i64 (.v j_0), .int .i64 (.v j_1), .int .i64 (.v j_2), .int .i64 (.v j_3), .int .i64 (.v j_4)])] M)
theorem iN.go (t : Option Addr) (r_0 r_1 j_0 j_1 j_2 j_3 j_4 : Int) (h : ∀ aB, iN.Is (aH PP w0) aB R → iN.T (aH PP w0) aB t r_0 r_1 j_0 j_1 j_2 j_3 j_4 R M) : C PP w0 Id.iN #[.pointer t, .agg #[.int .i64 r_0, .int .i64 r_1], .agg #[.int .i64 j_0, .int .i64 j_1, .int .i64 j_2, .int .i64 j_3, .int .i64 j_4]] R M :=
  c8 mixed (h := iN.h) (T := fun pr aB => iN.T pr aB t r_0 r_1 j_0 j_1 j_2 j_3 j_4 R M) Tryz.func186 (cZ _ _) (by kernel_rfl) (fun pr aB => by kernel_rfl) h
noncomputable def lN.h : HC := aF (bd Tryz.f187) []
def lN.T (d : Option Addr) (r_0 r_1 : Int) (R : VP) (M : Mem) : Prop := aJ pr (fun _ _ _ _ => False) R (gX PP lN.h [] [] (gR Tryz.f187) [(0, .ptr (.v d)), (1, .agg [.int .i64 (.v r_0), .int .i64 (.v r_1)])] M)
theorem lN.go (d : Option Addr) (r_0 r_1 : Int) (h : lN.T (aH PP w0) d r_0 r_1 R M) : C PP w0 Id.lN #[.pointer d, .agg #[.int .i64 r_0, .int .i64 r_1]] R M :=
  c8 mixed (h := lN.h) (T := fun pr aB => lN.T pr d r_0 r_1 R M) Tryz.func187 (cZ _ _) (by kernel_rfl) (fun pr aB => by kernel_rfl) fun _ _ => h
noncomputable def eC.h : HC := aF (bd Tryz.f188) []
def eC.T (c : Option Addr) (at_1 : Int) (R : VP) (M : Mem) : Prop := aJ pr (fun _ _ _ _ => False) R (gX PP eC.h [] [] (gR Tryz.f188) [(0, .ptr (.v c)), (1, .int .i64 (.v at_1))] M)
theorem eC.go (c : Option Addr) (at_1 : Int) (h : eC.T (aH PP w0) c at_1 R M) : C PP w0 Id.eC #[.pointer c, .int .i64 at_1] R M :=
  c8 mixed (h := eC.h) (T := fun pr aB => eC.T pr c at_1 R M) Tryz.func188 (cZ _ _) (by kernel_rfl) (fun pr aB => by kernel_rfl) fun _ _ => h
noncomputable def vG.h : HC := aF (bd Tryz.f189) []
def vG.T (t : Option Addr) (item_0 item_1 : Int) (R : VP) (M : Mem) : Prop := aJ pr (fun _ _ _ _ => False) R (gX PP vG.h [] [] (gR Tryz.f189) [(0, .ptr (.v t)), (1, .agg [.int .i64 (.v item_0), .int .i64 (.v item_1)])] M)
theorem vG.go (t : Option Addr) (item_0 item_1 : Int) (h : vG.T (aH PP w0) t item_0 item_1 R M) : C PP w0 Id.vG #[.pointer t, .agg #[.int .i64 item_0, .int .i64 item_1]] R M :=
  c8 mixed (h := vG.h) (T := fun pr aB => vG.T pr t item_0 item_1 R M) Tryz.func189 (cZ _ _) (by kernel_rfl) (fun pr aB => by kernel_rfl) fun _ _ => h
noncomputable def fY.h : HC := aF (bd Tryz.f190) [([true, true, false, true, false], [0, 1, 2, 7, 16, 17, 18])]
def fY.Is (R : VP) : Prop := pK PP pr aB fY.h Tryz.f190 R
abbrev fY.L1 (k : Nat) (t_0 : Option Addr) (from_1 to_2 n_7 : Int) (t16 : SV) (t17 t18 : Int) (M : Mem) : Prop := aB [false, false, true, false, true, true] [k] [(0, .pointer t_0), (1, .int .i64 from_1), (2, .int .i64 to_2), (7, .int .i64 n_7), (16, SV.v t16), (17, .int .i64 t17), (18, .int .i64 t18)] M
def fY.L1.T (k : Nat) (t_0 : Option Addr) (from_1 to_2 n_7 : Int) (t16 : SV) (t17 t18 : Int) (R : VP) (M : Mem) : Prop := aJ pr aB R (bO PP fY.h (gR Tryz.f190) [false, false, true, false, true, true] [k] [(0, .ptr (.v t_0)), (1, .int .i64 (.v from_1)), (2, .int .i64 (.v to_2)), (7, .int .i64 (.v n_7)), (16, .sv t16), (17, .int .i64 (.v t17)), (18, .int .i64 (.v t18))] M)
theorem fY.Is.L1 {pr : Prim} {aB : fE} (H : fY.Is pr aB R) (k : Nat) (t_0 : Option Addr) (from_1 to_2 n_7 : Int) (t16 : SV) (t17 t18 : Int) (M : Mem) : fY.L1 aB (k + 1) t_0 from_1 to_2 n_7 t16 t17 t18 M = fY.L1.T pr aB k t_0 from_1 to_2 n_7 t16 t17 t18 R M := (H _ _ _ _ _ rfl).trans (by kernel_rfl)
def fY.T (t : Option Addr) (from_1 to : Int) (R : VP) (M : Mem) : Prop := aJ pr aB R (gX PP fY.h [] [] (gR Tryz.f190) [(0, .ptr (.v t)), (1, .int .i64 (.v from_1)), (2, .int .i64 (.v to))] M)
theorem fY.go (t : Option Addr) (from_1 to : Int) (h : ∀ aB, fY.Is (aH PP w0) aB R → fY.T (aH PP w0) aB t from_1 to R M) : C PP w0 Id.fY #[.pointer t, .int .i64 from_1, .int .i64 to] R M :=
  c8 mixed (h := fY.h) (T := fun pr aB => fY.T pr aB t from_1 to R M) Tryz.func190 (cZ _ _) (by kernel_rfl) (fun pr aB => by kernel_rfl) h
noncomputable def cS.h : HC := aF (bd Tryz.f191) [([true], [0, 3])]
def cS.Is (R : VP) : Prop := pK PP pr aB cS.h Tryz.f191 R
abbrev cS.J1 (p_0 : Option Addr) (r_3 : Addr) (M : Mem) : Prop := aB [true, true] [] [(0, .pointer p_0), (3, .pointer (some r_3))] M
def cS.J1.T (p_0 : Option Addr) (r_3 : Addr) (R : VP) (M : Mem) : Prop := aJ pr aB R (bO PP cS.h (gR Tryz.f191) [true, true] [] [(0, .ptr (.v p_0)), (3, .ptr (.a (.v r_3)))] M)
theorem cS.Is.J1 {pr : Prim} {aB : fE} (H : cS.Is pr aB R) (p_0 : Option Addr) (r_3 : Addr) (M : Mem) : cS.J1 aB p_0 r_3 M = cS.J1.T pr aB p_0 r_3 R M := (H _ _ _ _ _ rfl).trans (by kernel_rfl)
def cS.T (p : Option Addr) (r_0 r_1 : Int) (R : VP) (M : Mem) : Prop := aJ pr aB R (gX PP cS.h [] [] (gR Tryz.f191) [(0, .ptr (.v p)), (1, .agg [.int .i64 (.v r_0), .int .i64 (.v r_1)])] M)
theorem cS.go (p : Option Addr) (r_0 r_1 : Int) (h : ∀ aB, cS.Is (aH PP w0) aB R → cS.T (aH PP w0) aB p r_0 r_1 R M) : C PP w0 Id.cS #[.pointer p, .agg #[.int .i64 r_0, .int .i64 r_1]] R M :=
  c8 mixed (h := cS.h) (T := fun pr aB => cS.T pr aB p r_0 r_1 R M) Tryz.func191 (cZ _ _) (by kernel_rfl) (fun pr aB => by kernel_rfl) h
noncomputable def cH.h : HC := aF (bd Tryz.f193) [([true, true, false, true, false], [3, 6, 7, 8])]
def cH.Is (R : VP) : Prop := pK PP pr aB cH.h Tryz.f193 R
abbrev cH.L1 (k : Nat) (zero_3 : Int) (t6 : SV) (t7 t8 : Int) (M : Mem) : Prop := aB [false, false, true, false, true, true] [k] [(3, .int .i64 zero_3), (6, SV.v t6), (7, .int .i64 t7), (8, .int .i64 t8)] M
def cH.L1.T (k : Nat) (zero_3 : Int) (t6 : SV) (t7 t8 : Int) (R : VP) (M : Mem) : Prop := aJ pr aB R (bO PP cH.h (gR Tryz.f193) [false, false, true, false, true, true] [k] [(3, .int .i64 (.v zero_3)), (6, .sv t6), (7, .int .i64 (.v t7)), (8, .int .i64 (.v t8))] M)
theorem cH.Is.L1 {pr : Prim} {aB : fE} (H : cH.Is pr aB R) (k : Nat) (zero_3 : Int) (t6 : SV) (t7 t8 : Int) (M : Mem) : cH.L1 aB (k + 1) zero_3 t6 t7 t8 M = cH.L1.T pr aB k zero_3 t6 t7 t8 R M := (H _ _ _ _ _ rfl).trans (by kernel_rfl)
def cH.T (vals : SV) (R : VP) (M : Mem) : Prop := aJ pr aB R (gX PP cH.h [] [] (gR Tryz.f193) [(0, .sv vals)] M)
theorem cH.go (vals : SV) (h : ∀ aB, cH.Is (aH PP w0) aB R → cH.T (aH PP w0) aB vals R M) : C PP w0 Id.cH #[SV.v vals] R M :=
  c8 mixed (h := cH.h) (T := fun pr aB => cH.T pr aB vals R M) Tryz.func193 (cZ _ _) (by kernel_rfl) (fun pr aB => by kernel_rfl) h
noncomputable def c7.h : HC := aF (bd Tryz.f194) []
def c7.T (x y : Int) (R : VP) (M : Mem) : Prop := aJ pr (fun _ _ _ _ => False) R (gX PP c7.h [] [] (gR Tryz.f194) [(0, .int .i64 (.v x)), (1, .int .i64 (.v y))] M)
theorem c7.go (x y : Int) (h : c7.T (aH PP w0) x y R M) : C PP w0 Id.c7 #[.int .i64 x, .int .i64 y] R M :=
  c8 mixed (h := c7.h) (T := fun pr aB => c7.T pr x y R M) Tryz.func194 (cZ _ _) (by kernel_rfl) (fun pr aB => by kernel_rfl) fun _ _ => h
noncomputable def n9.h : HC := aF (bd Tryz.f195) []
def n9.T (m : Option Addr) (n : Int) (R : VP) (M : Mem) : Prop := aJ pr (fun _ _ _ _ => False) R (gX PP n9.h [] [] (gR Tryz.f195) [(0, .ptr (.v m)), (1, .int .i64 (.v n))] M)
theorem n9.go (m : Option Addr) (n : Int) (h : n9.T (aH PP w0) m n R M) : C PP w0 Id.n9 #[.pointer m, .int .i64 n] R M :=
  c8 mixed (h := n9.h) (T := fun pr aB => n9.T pr m n R M) Tryz.func195 (cZ _ _) (by kernel_rfl) (fun pr aB => by kernel_rfl) fun _ _ => h
noncomputable def bS.h : HC := aF (bd Tryz.f196) [([true, true, false, true, false], [0, 1, 5, 6, 7])]
def bS.Is (R : VP) : Prop := pK PP pr aB bS.h Tryz.f196 R
abbrev bS.L1 (k : Nat) (t0 : Addr) (x_1 : Addr) (t5 : SV) (t6 t7 : Int) (M : Mem) : Prop := aB [false, false, true, false, true, true] [k] [(0, .pointer (some t0)), (1, .pointer (some x_1)), (5, SV.v t5), (6, .int .i64 t6), (7, .int .i64 t7)] M
def bS.L1.T (k : Nat) (t0 : Addr) (x_1 : Addr) (t5 : SV) (t6 t7 : Int) (R : VP) (M : Mem) : Prop := aJ pr aB R (bO PP bS.h (gR Tryz.f196) [false, false, true, false, true, true] [k] [(0, .ptr (.a (.v t0))), (1, .ptr (.a (.v x_1))), (5, .sv t5), (6, .int .i64 (.v t6)), (7, .int .i64 (.v t7))] M)
theorem bS.Is.L1 {pr : Prim} {aB : fE} (H : bS.Is pr aB R) (k : Nat) (t0 : Addr) (x_1 : Addr) (t5 : SV) (t6 t7 : Int) (M : Mem) : bS.L1 aB (k + 1) t0 x_1 t5 t6 t7 M = bS.L1.T pr aB k t0 x_1 t5 t6 t7 R M := (H _ _ _ _ _ rfl).trans (by kernel_rfl)
def bS.T (R : VP) (M : Mem) : Prop := aJ pr aB R (gX PP bS.h [] [] (gR Tryz.f196) [] M)
theorem bS.go (h : ∀ aB, bS.Is (aH PP w0) aB R → bS.T (aH PP w0) aB R M) : C PP w0 Id.bS #[] R M :=
  c8 mixed (h := bS.h) (T := fun pr aB => bS.T pr aB R M) Tryz.func196 (cZ _ _) (by kernel_rfl) (fun pr aB => by kernel_rfl) h
noncomputable def qT.h : HC := aF (bd Tryz.f197) []
def qT.T (a : Option Addr) (c field : Int) (R : VP) (M : Mem) : Prop := aJ pr (fun _ _ _ _ => False) R (gX PP qT.h [] [] (gR Tryz.f197) [(0, .ptr (.v a)), (1, .int .i64 (.v c)), (2, .int .i64 (.v field))] M)
theorem qT.go (a : Option Addr) (c field : Int) (h : qT.T (aH PP w0) a c field R M) : C PP w0 Id.qT #[.pointer a, .int .i64 c, .int .i64 field] R M :=
  c8 mixed (h := qT.h) (T := fun pr aB => qT.T pr a c field R M) Tryz.func197 (cZ _ _) (by kernel_rfl) (fun pr aB => by kernel_rfl) fun _ _ => h
noncomputable def l0.h : HC := aF (bd Tryz.f198) []
def l0.T (a : Option Addr) (i : Int) (R : VP) (M : Mem) : Prop := aJ pr (fun _ _ _ _ => False) R (gX PP l0.h [] [] (gR Tryz.f198) [(0, .ptr (.v a)), (1, .int .i64 (.v i))] M)
theorem l0.go (a : Option Addr) (i : Int) (h : l0.T (aH PP w0) a i R M) : C PP w0 Id.l0 #[.pointer a, .int .i64 i] R M :=
  c8 mixed (h := l0.h) (T := fun pr aB => l0.T pr a i R M) Tryz.func198 (cZ _ _) (by kernel_rfl) (fun pr aB => by kernel_rfl) fun _ _ => h
noncomputable def bD.h : HC := aF (bd Tryz.f199) [([true, true, true], [0, 1, 2, 7]), ([true, true, true, false, false], [0, 1, 2, 7]), ([true, true, true, false, false, false], [0, 1, 2, 7]), ([true, true, true, false, false, false, true, false], [0, 1, 2, 7]), ([true, true, true, true, true, false, true, false], [0, 7, 8, 9])]
def bD.Is (R : VP) : Prop := pK PP pr aB bD.h Tryz.f199 R
abbrev bD.J1 (a_0 : Option Addr) (r_1 s_2 : Int) (path_7 : SV) (M : Mem) : Prop := aB [true, true, true, true] [] [(0, .pointer a_0), (1, .int .i64 r_1), (2, .int .i64 s_2), (7, SV.v path_7)] M
def bD.J1.T (a_0 : Option Addr) (r_1 s_2 : Int) (path_7 : SV) (R : VP) (M : Mem) : Prop := aJ pr aB R (bO PP bD.h (gR Tryz.f199) [true, true, true, true] [] [(0, .ptr (.v a_0)), (1, .int .i64 (.v r_1)), (2, .int .i64 (.v s_2)), (7, .sv path_7)] M)
theorem bD.Is.J1 {pr : Prim} {aB : fE} (H : bD.Is pr aB R) (a_0 : Option Addr) (r_1 s_2 : Int) (path_7 : SV) (M : Mem) : bD.J1 aB a_0 r_1 s_2 path_7 M = bD.J1.T pr aB a_0 r_1 s_2 path_7 R M := (H _ _ _ _ _ rfl).trans (by kernel_rfl)
abbrev bD.L2 (k : Nat) (a_0 : Option Addr) (r_1 s_2 : Int) (path_7 : SV) (M : Mem) : Prop := aB [false, false, false, true, true, true] [k] [(0, .pointer a_0), (1, .int .i64 r_1), (2, .int .i64 s_2), (7, SV.v path_7)] M
def bD.L2.T (k : Nat) (a_0 : Option Addr) (r_1 s_2 : Int) (path_7 : SV) (R : VP) (M : Mem) : Prop := aJ pr aB R (bO PP bD.h (gR Tryz.f199) [false, false, false, true, true, true] [k] [(0, .ptr (.v a_0)), (1, .int .i64 (.v r_1)), (2, .int .i64 (.v s_2)), (7, .sv path_7)] M)
theorem bD.Is.L2 {pr : Prim} {aB : fE} (H : bD.Is pr aB R) (k : Nat) (a_0 : Option Addr) (r_1 s_2 : Int) (path_7 : SV) (M : Mem) : bD.L2 aB (k + 1) a_0 r_1 s_2 path_7 M = bD.L2.T pr aB k a_0 r_1 s_2 path_7 R M := (H _ _ _ _ _ rfl).trans (by kernel_rfl)
abbrev bD.L3 (k : Nat) (a_0 : Option Addr) (path_7 : SV) (top_8 k_9 : Int) (M : Mem) : Prop := aB [false, false, true, false, true, true, true, true, true] [k] [(0, .pointer a_0), (7, SV.v path_7), (8, .int .i64 top_8), (9, .int .i64 k_9)] M
def bD.L3.T (k : Nat) (a_0 : Option Addr) (path_7 : SV) (top_8 k_9 : Int) (R : VP) (M : Mem) : Prop := aJ pr aB R (bO PP bD.h (gR Tryz.f199) [false, false, true, false, true, true, true, true, true] [k] [(0, .ptr (.v a_0)), (7, .sv path_7), (8, .int .i64 (.v top_8)), (9, .int .i64 (.v k_9))] M)
theorem bD.Is.L3 {pr : Prim} {aB : fE} (H : bD.Is pr aB R) (k : Nat) (a_0 : Option Addr) (path_7 : SV) (top_8 k_9 : Int) (M : Mem) : bD.L3 aB (k + 1) a_0 path_7 top_8 k_9 M = bD.L3.T pr aB k a_0 path_7 top_8 k_9 R M := (H _ _ _ _ _ rfl).trans (by kernel_rfl)
abbrev bD.J4 (k : Nat) (a_0 : Option Addr) (r_1 s_2 : Int) (path_7 : SV) (M : Mem) : Prop := aB [true, false, false, false, true, true, true] [k] [(0, .pointer a_0), (1, .int .i64 r_1), (2, .int .i64 s_2), (7, SV.v path_7)] M
def bD.J4.T (k : Nat) (a_0 : Option Addr) (r_1 s_2 : Int) (path_7 : SV) (R : VP) (M : Mem) : Prop := aJ pr aB R (bO PP bD.h (gR Tryz.f199) [true, false, false, false, true, true, true] [k] [(0, .ptr (.v a_0)), (1, .int .i64 (.v r_1)), (2, .int .i64 (.v s_2)), (7, .sv path_7)] M)
theorem bD.Is.J4 {pr : Prim} {aB : fE} (H : bD.Is pr aB R) (k : Nat) (a_0 : Option Addr) (r_1 s_2 : Int) (path_7 : SV) (M : Mem) : bD.J4 aB k a_0 r_1 s_2 path_7 M = bD.J4.T pr aB k a_0 r_1 s_2 path_7 R M := (H _ _ _ _ _ rfl).trans (by kernel_rfl)
abbrev bD.J5 (k : Nat) (a_0 : Option Addr) (r_1 s_2 : Int) (path_7 : SV) (M : Mem) : Prop := aB [true, false, true, false, false, false, true, true, true] [k] [(0, .pointer a_0), (1, .int .i64 r_1), (2, .int .i64 s_2), (7, SV.v path_7)] M
def bD.J5.T (k : Nat) (a_0 : Option Addr) (r_1 s_2 : Int) (path_7 : SV) (R : VP) (M : Mem) : Prop := aJ pr aB R (bO PP bD.h (gR Tryz.f199) [true, false, true, false, false, false, true, true, true] [k] [(0, .ptr (.v a_0)), (1, .int .i64 (.v r_1)), (2, .int .i64 (.v s_2)), (7, .sv path_7)] M)
theorem bD.Is.J5 {pr : Prim} {aB : fE} (H : bD.Is pr aB R) (k : Nat) (a_0 : Option Addr) (r_1 s_2 : Int) (path_7 : SV) (M : Mem) : bD.J5 aB k a_0 r_1 s_2 path_7 M = bD.J5.T pr aB k a_0 r_1 s_2 path_7 R M := (H _ _ _ _ _ rfl).trans (by kernel_rfl)
def bD.T (a : Option Addr) (r s : Int) (R : VP) (M : Mem) : Prop := aJ pr aB R (gX PP bD.h [] [] (gR Tryz.f199) [(0, .ptr (.v a)), (1, .int .i64 (.v r)), (2, .int .i64 (.v s))] M)
theorem bD.go (a : Option Addr) (r s : Int) (h : ∀ aB, bD.Is (aH PP w0) aB R → bD.T (aH PP w0) aB a r s R M) : C PP w0 Id.bD #[.pointer a, .int .i64 r, .int .i64 s] R M :=
  c8 mixed (h := bD.h) (T := fun pr aB => bD.T pr aB a r s R M) Tryz.func199 (cZ _ _) (by kernel_rfl) (fun pr aB => by kernel_rfl) h
noncomputable def m9.h : HC := aF (bd Tryz.f200) [([true, true, false, true, false], [0, 5, 12, 13, 14]), ([true, true, true, true, true, false, false], [0, 5, 8]), ([true, true, true, true, true, false, false, false, true, false, true], [0, 5, 8, 9]), ([true, true, true, true, true, false, false, false, true, false, true, true, true, true, true], [0, 5, 8, 10, 11]), ([true, true, true, true, true, false, false, false, true, false, true, true, true, true, true, false, false], [0, 5, 8, 10, 11])]
def m9.Is (R : VP) : Prop := pK PP pr aB m9.h Tryz.f200 R
abbrev m9.L1 (k : Nat) (a_0 : Option Addr) (wait_5 t12 : SV) (t13 t14 : Int) (M : Mem) : Prop := aB [false, false, true, false, true, true] [k] [(0, .pointer a_0), (5, SV.v wait_5), (12, SV.v t12), (13, .int .i64 t13), (14, .int .i64 t14)] M
def m9.L1.T (k : Nat) (a_0 : Option Addr) (wait_5 t12 : SV) (t13 t14 : Int) (R : VP) (M : Mem) : Prop := aJ pr aB R (bO PP m9.h (gR Tryz.f200) [false, false, true, false, true, true] [k] [(0, .ptr (.v a_0)), (5, .sv wait_5), (12, .sv t12), (13, .int .i64 (.v t13)), (14, .int .i64 (.v t14))] M)
theorem m9.Is.L1 {pr : Prim} {aB : fE} (H : m9.Is pr aB R) (k : Nat) (a_0 : Option Addr) (wait_5 t12 : SV) (t13 t14 : Int) (M : Mem) : m9.L1 aB (k + 1) a_0 wait_5 t12 t13 t14 M = m9.L1.T pr aB k a_0 wait_5 t12 t13 t14 R M := (H _ _ _ _ _ rfl).trans (by kernel_rfl)
abbrev m9.L2 (k : Nat) (a_0 : Option Addr) (wait_5 out_8 : SV) (M : Mem) : Prop := aB [false, false, false, true, true, true, true, true] [k] [(0, .pointer a_0), (5, SV.v wait_5), (8, SV.v out_8)] M
def m9.L2.T (k : Nat) (a_0 : Option Addr) (wait_5 out_8 : SV) (R : VP) (M : Mem) : Prop := aJ pr aB R (bO PP m9.h (gR Tryz.f200) [false, false, false, true, true, true, true, true] [k] [(0, .ptr (.v a_0)), (5, .sv wait_5), (8, .sv out_8)] M)
theorem m9.Is.L2 {pr : Prim} {aB : fE} (H : m9.Is pr aB R) (k : Nat) (a_0 : Option Addr) (wait_5 out_8 : SV) (M : Mem) : m9.L2 aB (k + 1) a_0 wait_5 out_8 M = m9.L2.T pr aB k a_0 wait_5 out_8 R M := (H _ _ _ _ _ rfl).trans (by kernel_rfl)
abbrev m9.J3 (k : Nat) (a_0 : Option Addr) (wait_5 out_8 : SV) (x_9 : Addr) (M : Mem) : Prop := aB [true, true, false, true, false, false, false, true, true, true, true, true] [k] [(0, .pointer a_0), (5, SV.v wait_5), (8, SV.v out_8), (9, .pointer (some x_9))] M
def m9.J3.T (k : Nat) (a_0 : Option Addr) (wait_5 out_8 : SV) (x_9 : Addr) (R : VP) (M : Mem) : Prop := aJ pr aB R (bO PP m9.h (gR Tryz.f200) [true, true, false, true, false, false, false, true, true, true, true, true] [k] [(0, .ptr (.v a_0)), (5, .sv wait_5), (8, .sv out_8), (9, .ptr (.a (.v x_9)))] M)
theorem m9.Is.J3 {pr : Prim} {aB : fE} (H : m9.Is pr aB R) (k : Nat) (a_0 : Option Addr) (wait_5 out_8 : SV) (x_9 : Addr) (M : Mem) : m9.J3 aB k a_0 wait_5 out_8 x_9 M = m9.J3.T pr aB k a_0 wait_5 out_8 x_9 R M := (H _ _ _ _ _ rfl).trans (by kernel_rfl)
abbrev m9.J4 (k : Nat) (a_0 : Option Addr) (wait_5 out_8 : SV) (y_10 : Addr) (k_11 : Int) (M : Mem) : Prop := aB [true, true, true, true, true, true, false, true, false, false, false, true, true, true, true, true] [k] [(0, .pointer a_0), (5, SV.v wait_5), (8, SV.v out_8), (10, .pointer (some y_10)), (11, .int .i64 k_11)] M
def m9.J4.T (k : Nat) (a_0 : Option Addr) (wait_5 out_8 : SV) (y_10 : Addr) (k_11 : Int) (R : VP) (M : Mem) : Prop := aJ pr aB R (bO PP m9.h (gR Tryz.f200) [true, true, true, true, true, true, false, true, false, false, false, true, true, true, true, true] [k] [(0, .ptr (.v a_0)), (5, .sv wait_5), (8, .sv out_8), (10, .ptr (.a (.v y_10))), (11, .int .i64 (.v k_11))] M)
theorem m9.Is.J4 {pr : Prim} {aB : fE} (H : m9.Is pr aB R) (k : Nat) (a_0 : Option Addr) (wait_5 out_8 : SV) (y_10 : Addr) (k_11 : Int) (M : Mem) : m9.J4 aB k a_0 wait_5 out_8 y_10 k_11 M = m9.J4.T pr aB k a_0 wait_5 out_8 y_10 k_11 R M := (H _ _ _ _ _ rfl).trans (by kernel_rfl)
abbrev m9.L5 (k : Nat) (k' : Nat) (a_0 : Option Addr) (wait_5 out_8 : SV) (y_10 : Addr) (k_11 : Int) (M : Mem) : Prop := aB [false, false, false, true, true, true, true, true, false, true, false, false, false, true, true, true, true, true] [k', k] [(0, .pointer a_0), (5, SV.v wait_5), (8, SV.v out_8), (10, .pointer (some y_10)), (11, .int .i64 k_11)] M
def m9.L5.T (k : Nat) (k' : Nat) (a_0 : Option Addr) (wait_5 out_8 : SV) (y_10 : Addr) (k_11 : Int) (R : VP) (M : Mem) : Prop := aJ pr aB R (bO PP m9.h (gR Tryz.f200) [false, false, false, true, true, true, true, true, false, true, false, false, false, true, true, true, true, true] [k', k] [(0, .ptr (.v a_0)), (5, .sv wait_5), (8, .sv out_8), (10, .ptr (.a (.v y_10))), (11, .int .i64 (.v k_11))] M)
theorem m9.Is.L5 {pr : Prim} {aB : fE} (H : m9.Is pr aB R) (k : Nat) (k' : Nat) (a_0 : Option Addr) (wait_5 out_8 : SV) (y_10 : Addr) (k_11 : Int) (M : Mem) : m9.L5 aB k (k' + 1) a_0 wait_5 out_8 y_10 k_11 M = m9.L5.T pr aB k k' a_0 wait_5 out_8 y_10 k_11 R M := (H _ _ _ _ _ rfl).trans (by kernel_rfl)
def m9.T (a : Option Addr) (l : SV) (R : VP) (M : Mem) : Prop := aJ pr aB R (gX PP m9.h [] [] (gR Tryz.f200) [(0, .ptr (.v a)), (1, .sv l)] M)
theorem m9.go (a : Option Addr) (l : SV) (h : ∀ aB, m9.Is (aH PP w0) aB R → m9.T (aH PP w0) aB a l R M) : C PP w0 Id.m9 #[.pointer a, SV.v l] R M :=
  c8 mixed (h := m9.h) (T := fun pr aB => m9.T pr aB a l R M) Tryz.func200 (cZ _ _) (by kernel_rfl) (fun pr aB => by kernel_rfl) h
noncomputable def iX.h : HC := aF (bd Tryz.f201) []
def iX.T (a : Option Addr) (r : Int) (R : VP) (M : Mem) : Prop := aJ pr (fun _ _ _ _ => False) R (gX PP iX.h [] [] (gR Tryz.f201) [(0, .ptr (.v a)), (1, .int .i64 (.v r))] M)
theorem iX.go (a : Option Addr) (r : Int) (h : iX.T (aH PP w0) a r R M) : C PP w0 Id.iX #[.pointer a, .int .i64 r] R M :=
  c8 mixed (h := iX.h) (T := fun pr aB => iX.T pr a r R M) Tryz.func201 (cZ _ _) (by kernel_rfl) (fun pr aB => by kernel_rfl) fun _ _ => h
noncomputable def sN.h : HC := aF (bd Tryz.f202) [([true, true], [0, 1, 2, 7]), ([true, true, true, true], [0, 1, 2, 7, 8]), ([true, true, true, true, true, true, true], [0, 2, 9, 10])]
def sN.Is (R : VP) : Prop := pK PP pr aB sN.h Tryz.f202 R
abbrev sN.J1 (a_0 : Option Addr) (r_1 n_2 second_7 : Int) (M : Mem) : Prop := aB [true, true, true] [] [(0, .pointer a_0), (1, .int .i64 r_1), (2, .int .i64 n_2), (7, .int .i64 second_7)] M
def sN.J1.T (a_0 : Option Addr) (r_1 n_2 second_7 : Int) (R : VP) (M : Mem) : Prop := aJ pr aB R (bO PP sN.h (gR Tryz.f202) [true, true, true] [] [(0, .ptr (.v a_0)), (1, .int .i64 (.v r_1)), (2, .int .i64 (.v n_2)), (7, .int .i64 (.v second_7))] M)
theorem sN.Is.J1 {pr : Prim} {aB : fE} (H : sN.Is pr aB R) (a_0 : Option Addr) (r_1 n_2 second_7 : Int) (M : Mem) : sN.J1 aB a_0 r_1 n_2 second_7 M = sN.J1.T pr aB a_0 r_1 n_2 second_7 R M := (H _ _ _ _ _ rfl).trans (by kernel_rfl)
abbrev sN.J2 (a_0 : Option Addr) (r_1 n_2 second_7 rank_8 : Int) (M : Mem) : Prop := aB [true, true, true, true, true] [] [(0, .pointer a_0), (1, .int .i64 r_1), (2, .int .i64 n_2), (7, .int .i64 second_7), (8, .int .i64 rank_8)] M
def sN.J2.T (a_0 : Option Addr) (r_1 n_2 second_7 rank_8 : Int) (R : VP) (M : Mem) : Prop := aJ pr aB R (bO PP sN.h (gR Tryz.f202) [true, true, true, true, true] [] [(0, .ptr (.v a_0)), (1, .int .i64 (.v r_1)), (2, .int .i64 (.v n_2)), (7, .int .i64 (.v second_7)), (8, .int .i64 (.v rank_8))] M)
theorem sN.Is.J2 {pr : Prim} {aB : fE} (H : sN.Is pr aB R) (a_0 : Option Addr) (r_1 n_2 second_7 rank_8 : Int) (M : Mem) : sN.J2 aB a_0 r_1 n_2 second_7 rank_8 M = sN.J2.T pr aB a_0 r_1 n_2 second_7 rank_8 R M := (H _ _ _ _ _ rfl).trans (by kernel_rfl)
abbrev sN.J3 (a_0 : Option Addr) (n_2 rest_9 top_10 : Int) (M : Mem) : Prop := aB [true, true, true, true, true, true, true, true] [] [(0, .pointer a_0), (2, .int .i64 n_2), (9, .int .i64 rest_9), (10, .int .i64 top_10)] M
def sN.J3.T (a_0 : Option Addr) (n_2 rest_9 top_10 : Int) (R : VP) (M : Mem) : Prop := aJ pr aB R (bO PP sN.h (gR Tryz.f202) [true, true, true, true, true, true, true, true] [] [(0, .ptr (.v a_0)), (2, .int .i64 (.v n_2)), (9, .int .i64 (.v rest_9)), (10, .int .i64 (.v top_10))] M)
theorem sN.Is.J3 {pr : Prim} {aB : fE} (H : sN.Is pr aB R) (a_0 : Option Addr) (n_2 rest_9 top_10 : Int) (M : Mem) : sN.J3 aB a_0 n_2 rest_9 top_10 M = sN.J3.T pr aB a_0 n_2 rest_9 top_10 R M := (H _ _ _ _ _ rfl).trans (by kernel_rfl)
def sN.T (a : Option Addr) (r n : Int) (R : VP) (M : Mem) : Prop := aJ pr aB R (gX PP sN.h [] [] (gR Tryz.f202) [(0, .ptr (.v a)), (1, .int .i64 (.v r)), (2, .int .i64 (.v n))] M)
theorem sN.go (a : Option Addr) (r n : Int) (h : ∀ aB, sN.Is (aH PP w0) aB R → sN.T (aH PP w0) aB a r n R M) : C PP w0 Id.sN #[.pointer a, .int .i64 r, .int .i64 n] R M :=
  c8 mixed (h := sN.h) (T := fun pr aB => sN.T pr aB a r n R M) Tryz.func202 (cZ _ _) (by kernel_rfl) (fun pr aB => by kernel_rfl) h
end
end HL
namespace HL
section
variable (pr : Prim) (aB : fE) (w0 : World) {R : VP} {M : Mem}
noncomputable def oI.h : HC := aF (bd Tryz.f207) []
def oI.T (a : Option Addr) (c field : Int) (R : VP) (M : Mem) : Prop := aJ pr (fun _ _ _ _ => False) R (gX PP oI.h [] [] (gR Tryz.f207) [(0, .ptr (.v a)), (1, .int .i64 (.v c)), (2, .int .i64 (.v field))] M)
theorem oI.go (a : Option Addr) (c field : Int) (h : oI.T (aH PP w0) a c field R M) : C PP w0 Id.oI #[.pointer a, .int .i64 c, .int .i64 field] R M :=
  c8 mixed (h := oI.h) (T := fun pr aB => oI.T pr a c field R M) Tryz.func207 (cZ _ _) (by kernel_rfl) (fun pr aB => by kernel_rfl) fun _ _ => h
noncomputable def bZ.h : HC := aF (bd Tryz.f208) [([true, true, false, true, false], [0, 5, 8, 9, 10])]
def bZ.Is (R : VP) : Prop := pK PP pr aB bZ.h Tryz.f208 R
abbrev bZ.L1 (k : Nat) (a_0 : Option Addr) (best_5 : Int) (t8 : SV) (t9 t10 : Int) (M : Mem) : Prop := aB [false, false, true, false, true, true] [k] [(0, .pointer a_0), (5, .int .i64 best_5), (8, SV.v t8), (9, .int .i64 t9), (10, .int .i64 t10)] M
def bZ.L1.T (k : Nat) (a_0 : Option Addr) (best_5 : Int) (t8 : SV) (t9 t10 : Int) (R : VP) (M : Mem) : Prop := aJ pr aB R (bO PP bZ.h (gR Tryz.f208) [false, false, true, false, true, true] [k] [(0, .ptr (.v a_0)), (5, .int .i64 (.v best_5)), (8, .sv t8), (9, .int .i64 (.v t9)), (10, .int .i64 (.v t10))] M)
theorem bZ.Is.L1 {pr : Prim} {aB : fE} (H : bZ.Is pr aB R) (k : Nat) (a_0 : Option Addr) (best_5 : Int) (t8 : SV) (t9 t10 : Int) (M : Mem) : bZ.L1 aB (k + 1) a_0 best_5 t8 t9 t10 M = bZ.L1.T pr aB k a_0 best_5 t8 t9 t10 R M := (H _ _ _ _ _ rfl).trans (by kernel_rfl)
def bZ.T (a : Option Addr) (l : SV) (R : VP) (M : Mem) : Prop := aJ pr aB R (gX PP bZ.h [] [] (gR Tryz.f208) [(0, .ptr (.v a)), (1, .sv l)] M)
theorem bZ.go (a : Option Addr) (l : SV) (h : ∀ aB, bZ.Is (aH PP w0) aB R → bZ.T (aH PP w0) aB a l R M) : C PP w0 Id.bZ #[.pointer a, SV.v l] R M :=
  c8 mixed (h := bZ.h) (T := fun pr aB => bZ.T pr aB a l R M) Tryz.func208 (cZ _ _) (by kernel_rfl) (fun pr aB => by kernel_rfl) h
noncomputable def nC.h : HC := aF (bd Tryz.f209) []
def nC.T (a : Option Addr) (c : Int) (R : VP) (M : Mem) : Prop := aJ pr (fun _ _ _ _ => False) R (gX PP nC.h [] [] (gR Tryz.f209) [(0, .ptr (.v a)), (1, .int .i64 (.v c))] M)
theorem nC.go (a : Option Addr) (c : Int) (h : nC.T (aH PP w0) a c R M) : C PP w0 Id.nC #[.pointer a, .int .i64 c] R M :=
  c8 mixed (h := nC.h) (T := fun pr aB => nC.T pr a c R M) Tryz.func209 (cZ _ _) (by kernel_rfl) (fun pr aB => by kernel_rfl) fun _ _ => h
noncomputable def nO.h : HC := aF (bd Tryz.f210) []
def nO.T (a : Option Addr) (n : Int) (R : VP) (M : Mem) : Prop := aJ pr (fun _ _ _ _ => False) R (gX PP nO.h [] [] (gR Tryz.f210) [(0, .ptr (.v a)), (1, .int .i64 (.v n))] M)
theorem nO.go (a : Option Addr) (n : Int) (h : nO.T (aH PP w0) a n R M) : C PP w0 Id.nO #[.pointer a, .int .i64 n] R M :=
  c8 mixed (h := nO.h) (T := fun pr aB => nO.T pr a n R M) Tryz.func210 (cZ _ _) (by kernel_rfl) (fun pr aB => by kernel_rfl) fun _ _ => h
noncomputable def lA.h : HC := aF (bd Tryz.f211) []
def lA.T (a : Option Addr) (n : Int) (R : VP) (M : Mem) : Prop := aJ pr (fun _ _ _ _ => False) R (gX PP lA.h [] [] (gR Tryz.f211) [(0, .ptr (.v a)), (1, .int .i64 (.v n))] M)
theorem lA.go (a : Option Addr) (n : Int) (h : lA.T (aH PP w0) a n R M) : C PP w0 Id.lA #[.pointer a, .int .i64 n] R M :=
  c8 mixed (h := lA.h) (T := fun pr aB => lA.T pr a n R M) Tryz.func211 (cZ _ _) (by kernel_rfl) (fun pr aB => by kernel_rfl) fun _ _ => h
noncomputable def jB.h : HC := aF (bd Tryz.f212) []
def jB.T (a : Option Addr) (l : SV) (n : Int) (R : VP) (M : Mem) : Prop := aJ pr (fun _ _ _ _ => False) R (gX PP jB.h [] [] (gR Tryz.f212) [(0, .ptr (.v a)), (1, .sv l), (2, .int .i64 (.v n))] M)
theorem jB.go (a : Option Addr) (l : SV) (n : Int) (h : jB.T (aH PP w0) a l n R M) : C PP w0 Id.jB #[.pointer a, SV.v l, .int .i64 n] R M :=
  c8 mixed (h := jB.h) (T := fun pr aB => jB.T pr a l n R M) Tryz.func212 (cZ _ _) (by kernel_rfl) (fun pr aB => by kernel_rfl) fun _ _ => h
noncomputable def uW.h : HC := aF (bd Tryz.f213) [([true, true, true, false, true, false], [0, 5, 8, 9, 21, 22, 23]), ([true, true, true, true, true, true, false, true, false], [0, 12, 13, 46, 47, 48])]
def uW.Is (R : VP) : Prop := pK PP pr aB uW.h Tryz.f213 R
abbrev uW.L1 (k : Nat) (a_0 : Option Addr) (n_5 : Addr) (rest_8 alone_9 t21 : SV) (t22 t23 : Int) (M : Mem) : Prop := aB [false, false, true, false, true, true, true] [k] [(0, .pointer a_0), (5, .pointer (some n_5)), (8, SV.v rest_8), (9, SV.v alone_9), (21, SV.v t21), (22, .int .i64 t22), (23, .int .i64 t23)] M
def uW.L1.T (k : Nat) (a_0 : Option Addr) (n_5 : Addr) (rest_8 alone_9 t21 : SV) (t22 t23 : Int) (R : VP) (M : Mem) : Prop := aJ pr aB R (bO PP uW.h (gR Tryz.f213) [false, false, true, false, true, true, true] [k] [(0, .ptr (.v a_0)), (5, .ptr (.a (.v n_5))), (8, .sv rest_8), (9, .sv alone_9), (21, .sv t21), (22, .int .i64 (.v t22)), (23, .int .i64 (.v t23))] M)
theorem uW.Is.L1 {pr : Prim} {aB : fE} (H : uW.Is pr aB R) (k : Nat) (a_0 : Option Addr) (n_5 : Addr) (rest_8 alone_9 t21 : SV) (t22 t23 : Int) (M : Mem) : uW.L1 aB (k + 1) a_0 n_5 rest_8 alone_9 t21 t22 t23 M = uW.L1.T pr aB k a_0 n_5 rest_8 alone_9 t21 t22 t23 R M := (H _ _ _ _ _ rfl).trans (by kernel_rfl)
abbrev uW.L2 (k : Nat) (a_0 : Option Addr) (i_12 r_13 : Int) (t46 : SV) (t47 t48 : Int) (M : Mem) : Prop := aB [false, false, true, false, true, true, true, true, true, true] [k] [(0, .pointer a_0), (12, .int .i64 i_12), (13, .int .i64 r_13), (46, SV.v t46), (47, .int .i64 t47), (48, .int .i64 t48)] M
def uW.L2.T (k : Nat) (a_0 : Option Addr) (i_12 r_13 : Int) (t46 : SV) (t47 t48 : Int) (R : VP) (M : Mem) : Prop := aJ pr aB R (bO PP uW.h (gR Tryz.f213) [false, false, true, false, true, true, true, true, true, true] [k] [(0, .ptr (.v a_0)), (12, .int .i64 (.v i_12)), (13, .int .i64 (.v r_13)), (46, .sv t46), (47, .int .i64 (.v t47)), (48, .int .i64 (.v t48))] M)
theorem uW.Is.L2 {pr : Prim} {aB : fE} (H : uW.Is pr aB R) (k : Nat) (a_0 : Option Addr) (i_12 r_13 : Int) (t46 : SV) (t47 t48 : Int) (M : Mem) : uW.L2 aB (k + 1) a_0 i_12 r_13 t46 t47 t48 M = uW.L2.T pr aB k a_0 i_12 r_13 t46 t47 t48 R M := (H _ _ _ _ _ rfl).trans (by kernel_rfl)
def uW.T (a : Option Addr) (l : SV) (n : Int) (R : VP) (M : Mem) : Prop := aJ pr aB R (gX PP uW.h [] [] (gR Tryz.f213) [(0, .ptr (.v a)), (1, .sv l), (2, .int .i64 (.v n))] M)
theorem uW.go (a : Option Addr) (l : SV) (n : Int) (h : ∀ aB, uW.Is (aH PP w0) aB R → uW.T (aH PP w0) aB a l n R M) : C PP w0 Id.uW #[.pointer a, SV.v l, .int .i64 n] R M :=
  c8 mixed (h := uW.h) (T := fun pr aB => uW.T pr aB a l n R M) Tryz.func213 (cZ _ _) (by kernel_rfl) (fun pr aB => by kernel_rfl) h
noncomputable def iQ.h : HC := aF (bd Tryz.f216) []
def iQ.T (p : Option Addr) (r_0 r_1 : Int) (R : VP) (M : Mem) : Prop := aJ pr (fun _ _ _ _ => False) R (gX PP iQ.h [] [] (gR Tryz.f216) [(0, .ptr (.v p)), (1, .agg [.int .i64 (.v r_0), .int .i64 (.v r_1)])] M)
theorem iQ.go (p : Option Addr) (r_0 r_1 : Int) (h : iQ.T (aH PP w0) p r_0 r_1 R M) : C PP w0 Id.iQ #[.pointer p, .agg #[.int .i64 r_0, .int .i64 r_1]] R M :=
  c8 mixed (h := iQ.h) (T := fun pr aB => iQ.T pr p r_0 r_1 R M) Tryz.func216 (cZ _ _) (by kernel_rfl) (fun pr aB => by kernel_rfl) fun _ _ => h
noncomputable def cT.h : HC := aF (bd Tryz.f217) [([true], [0, 3])]
def cT.Is (R : VP) : Prop := pK PP pr aB cT.h Tryz.f217 R
abbrev cT.J1 (p_0 : Option Addr) (r_3 : Addr) (M : Mem) : Prop := aB [true, true] [] [(0, .pointer p_0), (3, .pointer (some r_3))] M
def cT.J1.T (p_0 : Option Addr) (r_3 : Addr) (R : VP) (M : Mem) : Prop := aJ pr aB R (bO PP cT.h (gR Tryz.f217) [true, true] [] [(0, .ptr (.v p_0)), (3, .ptr (.a (.v r_3)))] M)
theorem cT.Is.J1 {pr : Prim} {aB : fE} (H : cT.Is pr aB R) (p_0 : Option Addr) (r_3 : Addr) (M : Mem) : cT.J1 aB p_0 r_3 M = cT.J1.T pr aB p_0 r_3 R M := (H _ _ _ _ _ rfl).trans (by kernel_rfl)
def cT.T (p : Option Addr) (r_0 r_1 : Int) (R : VP) (M : Mem) : Prop := aJ pr aB R (gX PP cT.h [] [] (gR Tryz.f217) [(0, .ptr (.v p)), (1, .agg [.int .i64 (.v r_0), .int .i64 (.v r_1)])] M)
theorem cT.go (p : Option Addr) (r_0 r_1 : Int) (h : ∀ aB, cT.Is (aH PP w0) aB R → cT.T (aH PP w0) aB p r_0 r_1 R M) : C PP w0 Id.cT #[.pointer p, .agg #[.int .i64 r_0, .int .i64 r_1]] R M :=
  c8 mixed (h := cT.h) (T := fun pr aB => cT.T pr aB p r_0 r_1 R M) Tryz.func217 (cZ _ _) (by kernel_rfl) (fun pr aB => by kernel_rfl) h
noncomputable def kM.h : HC := aF (bd Tryz.f218) []
def kM.T (a : Option Addr) (i : Int) (R : VP) (M : Mem) : Prop := aJ pr (fun _ _ _ _ => False) R (gX PP kM.h [] [] (gR Tryz.f218) [(0, .ptr (.v a)), (1, .int .i64 (.v i))] M)
theorem kM.go (a : Option Addr) (i : Int) (h : kM.T (aH PP w0) a i R M) : C PP w0 Id.kM #[.pointer a, .int .i64 i] R M :=
  c8 mixed (h := kM.h) (T := fun pr aB => kM.T pr a i R M) Tryz.func218 (cZ _ _) (by kernel_rfl) (fun pr aB => by kernel_rfl) fun _ _ => h
noncomputable def bN.h : HC := aF (bd Tryz.f219) [([true], [0, 1, 4]), ([true, true, true, true, false], [0, 4, 5]), ([true, true, true, true, false, false], [0, 4, 5])]
def bN.Is (R : VP) : Prop := pK PP pr aB bN.h Tryz.f219 R
abbrev bN.J1 (a_0 : Option Addr) (n_1 p_4 : Int) (M : Mem) : Prop := aB [true, true] [] [(0, .pointer a_0), (1, .int .i64 n_1), (4, .int .i64 p_4)] M
def bN.J1.T (a_0 : Option Addr) (n_1 p_4 : Int) (R : VP) (M : Mem) : Prop := aJ pr aB R (bO PP bN.h (gR Tryz.f219) [true, true] [] [(0, .ptr (.v a_0)), (1, .int .i64 (.v n_1)), (4, .int .i64 (.v p_4))] M)
theorem bN.Is.J1 {pr : Prim} {aB : fE} (H : bN.Is pr aB R) (a_0 : Option Addr) (n_1 p_4 : Int) (M : Mem) : bN.J1 aB a_0 n_1 p_4 M = bN.J1.T pr aB a_0 n_1 p_4 R M := (H _ _ _ _ _ rfl).trans (by kernel_rfl)
abbrev bN.L2 (k : Nat) (a_0 : Option Addr) (p_4 k_5 : Int) (M : Mem) : Prop := aB [false, false, true, true, true, true] [k] [(0, .pointer a_0), (4, .int .i64 p_4), (5, .int .i64 k_5)] M
def bN.L2.T (k : Nat) (a_0 : Option Addr) (p_4 k_5 : Int) (R : VP) (M : Mem) : Prop := aJ pr aB R (bO PP bN.h (gR Tryz.f219) [false, false, true, true, true, true] [k] [(0, .ptr (.v a_0)), (4, .int .i64 (.v p_4)), (5, .int .i64 (.v k_5))] M)
theorem bN.Is.L2 {pr : Prim} {aB : fE} (H : bN.Is pr aB R) (k : Nat) (a_0 : Option Addr) (p_4 k_5 : Int) (M : Mem) : bN.L2 aB (k + 1) a_0 p_4 k_5 M = bN.L2.T pr aB k a_0 p_4 k_5 R M := (H _ _ _ _ _ rfl).trans (by kernel_rfl)
abbrev bN.J3 (k : Nat) (a_0 : Option Addr) (p_4 k_5 : Int) (M : Mem) : Prop := aB [true, false, false, true, true, true, true] [k] [(0, .pointer a_0), (4, .int .i64 p_4), (5, .int .i64 k_5)] M
def bN.J3.T (k : Nat) (a_0 : Option Addr) (p_4 k_5 : Int) (R : VP) (M : Mem) : Prop := aJ pr aB R (bO PP bN.h (gR Tryz.f219) [true, false, false, true, true, true, true] [k] [(0, .ptr (.v a_0)), (4, .int .i64 (.v p_4)), (5, .int .i64 (.v k_5))] M)
theorem bN.Is.J3 {pr : Prim} {aB : fE} (H : bN.Is pr aB R) (k : Nat) (a_0 : Option Addr) (p_4 k_5 : Int) (M : Mem) : bN.J3 aB k a_0 p_4 k_5 M = bN.J3.T pr aB k a_0 p_4 k_5 R M := (H _ _ _ _ _ rfl).trans (by kernel_rfl)
def bN.T (a : Option Addr) (n : Int) (R : VP) (M : Mem) : Prop := aJ pr aB R (gX PP bN.h [] [] (gR Tryz.f219) [(0, .ptr (.v a)), (1, .int .i64 (.v n))] M)
theorem bN.go (a : Option Addr) (n : Int) (h : ∀ aB, bN.Is (aH PP w0) aB R → bN.T (aH PP w0) aB a n R M) : C PP w0 Id.bN #[.pointer a, .int .i64 n] R M :=
  c8 mixed (h := bN.h) (T := fun pr aB => bN.T pr aB a n R M) Tryz.func219 (cZ _ _) (by kernel_rfl) (fun pr aB => by kernel_rfl) h
noncomputable def sK.h : HC := aF (bd Tryz.f220) [([true, true, false, true, false], [0, 2, 7, 8]), ([true, true, false, true, false, false], [0, 2, 7, 8]), ([true, true, false, true, false, false, true, false, false, true], [0, 2, 7, 8, 9])]
def sK.Is (R : VP) : Prop := pK PP pr aB sK.h Tryz.f220 R
abbrev sK.L1 (k : Nat) (a_0 : Option Addr) (any_2 : Bool) (n_7 k_8 : Int) (M : Mem) : Prop := aB [false, false, true, false, true, true] [k] [(0, .pointer a_0), (2, .bool any_2), (7, .int .i64 n_7), (8, .int .i64 k_8)] M
def sK.L1.T (k : Nat) (a_0 : Option Addr) (any_2 : Bool) (n_7 k_8 : Int) (R : VP) (M : Mem) : Prop := aJ pr aB R (bO PP sK.h (gR Tryz.f220) [false, false, true, false, true, true] [k] [(0, .ptr (.v a_0)), (2, .bool (.v any_2)), (7, .int .i64 (.v n_7)), (8, .int .i64 (.v k_8))] M)
theorem sK.Is.L1 {pr : Prim} {aB : fE} (H : sK.Is pr aB R) (k : Nat) (a_0 : Option Addr) (any_2 : Bool) (n_7 k_8 : Int) (M : Mem) : sK.L1 aB (k + 1) a_0 any_2 n_7 k_8 M = sK.L1.T pr aB k a_0 any_2 n_7 k_8 R M := (H _ _ _ _ _ rfl).trans (by kernel_rfl)
abbrev sK.J2 (k : Nat) (a_0 : Option Addr) (any_2 : Bool) (n_7 k_8 : Int) (M : Mem) : Prop := aB [true, false, false, true, false, true, true] [k] [(0, .pointer a_0), (2, .bool any_2), (7, .int .i64 n_7), (8, .int .i64 k_8)] M
def sK.J2.T (k : Nat) (a_0 : Option Addr) (any_2 : Bool) (n_7 k_8 : Int) (R : VP) (M : Mem) : Prop := aJ pr aB R (bO PP sK.h (gR Tryz.f220) [true, false, false, true, false, true, true] [k] [(0, .ptr (.v a_0)), (2, .bool (.v any_2)), (7, .int .i64 (.v n_7)), (8, .int .i64 (.v k_8))] M)
theorem sK.Is.J2 {pr : Prim} {aB : fE} (H : sK.Is pr aB R) (k : Nat) (a_0 : Option Addr) (any_2 : Bool) (n_7 k_8 : Int) (M : Mem) : sK.J2 aB k a_0 any_2 n_7 k_8 M = sK.J2.T pr aB k a_0 any_2 n_7 k_8 R M := (H _ _ _ _ _ rfl).trans (by kernel_rfl)
abbrev sK.J3 (k : Nat) (a_0 : Option Addr) (any_2 : Bool) (n_7 k_8 up_9 : Int) (M : Mem) : Prop := aB [true, true, false, false, true, false, false, true, false, true, true] [k] [(0, .pointer a_0), (2, .bool any_2), (7, .int .i64 n_7), (8, .int .i64 k_8), (9, .int .i64 up_9)] M
def sK.J3.T (k : Nat) (a_0 : Option Addr) (any_2 : Bool) (n_7 k_8 up_9 : Int) (R : VP) (M : Mem) : Prop := aJ pr aB R (bO PP sK.h (gR Tryz.f220) [true, true, false, false, true, false, false, true, false, true, true] [k] [(0, .ptr (.v a_0)), (2, .bool (.v any_2)), (7, .int .i64 (.v n_7)), (8, .int .i64 (.v k_8)), (9, .int .i64 (.v up_9))] M)
theorem sK.Is.J3 {pr : Prim} {aB : fE} (H : sK.Is pr aB R) (k : Nat) (a_0 : Option Addr) (any_2 : Bool) (n_7 k_8 up_9 : Int) (M : Mem) : sK.J3 aB k a_0 any_2 n_7 k_8 up_9 M = sK.J3.T pr aB k a_0 any_2 n_7 k_8 up_9 R M := (H _ _ _ _ _ rfl).trans (by kernel_rfl)
def sK.T (a : Option Addr) (i : Int) (any : Bool) (R : VP) (M : Mem) : Prop := aJ pr aB R (gX PP sK.h [] [] (gR Tryz.f220) [(0, .ptr (.v a)), (1, .int .i64 (.v i)), (2, .bool (.v any))] M)
theorem sK.go (a : Option Addr) (i : Int) (any : Bool) (h : ∀ aB, sK.Is (aH PP w0) aB R → sK.T (aH PP w0) aB a i any R M) : C PP w0 Id.sK #[.pointer a, .int .i64 i, .bool any] R M :=
  c8 mixed (h := sK.h) (T := fun pr aB => sK.T pr aB a i any R M) Tryz.func220 (cZ _ _) (by kernel_rfl) (fun pr aB => by kernel_rfl) h
noncomputable def hJ.h : HC := aF (bd Tryz.f221) []
def hJ.T (a : Option Addr) (n m : Int) (R : VP) (M : Mem) : Prop := aJ pr (fun _ _ _ _ => False) R (gX PP hJ.h [] [] (gR Tryz.f221) [(0, .ptr (.v a)), (1, .int .i64 (.v n)), (2, .int .i64 (.v m))] M)
theorem hJ.go (a : Option Addr) (n m : Int) (h : hJ.T (aH PP w0) a n m R M) : C PP w0 Id.hJ #[.pointer a, .int .i64 n, .int .i64 m] R M :=
  c8 mixed (h := hJ.h) (T := fun pr aB => hJ.T pr a n m R M) Tryz.func221 (cZ _ _) (by kernel_rfl) (fun pr aB => by kernel_rfl) fun _ _ => h
noncomputable def cF.h : HC := aF (bd Tryz.f224) []
def cF.T (s : SV) (v : Int) (R : VP) (M : Mem) : Prop := aJ pr (fun _ _ _ _ => False) R (gX PP cF.h [] [] (gR Tryz.f224) [(0, .sv s), (1, .int .i64 (.v v))] M)
theorem cF.go (s : SV) (v : Int) (h : cF.T (aH PP w0) s v R M) : C PP w0 Id.cF #[SV.v s, .int .i64 v] R M :=
  c8 mixed (h := cF.h) (T := fun pr aB => cF.T pr s v R M) Tryz.func224 (cZ _ _) (by kernel_rfl) (fun pr aB => by kernel_rfl) fun _ _ => h
noncomputable def lW.h : HC := aF (bd Tryz.f231) []
def lW.T (x : Int) (R : VP) (M : Mem) : Prop := aJ pr (fun _ _ _ _ => False) R (gX PP lW.h [] [] (gR Tryz.f231) [(0, .int .u64 (.v x))] M)
theorem lW.go (x : Int) (h : lW.T (aH PP w0) x R M) : C PP w0 Id.lW #[.int .u64 x] R M :=
  c8 mixed (h := lW.h) (T := fun pr aB => lW.T pr x R M) Tryz.func231 (cZ _ _) (by kernel_rfl) (fun pr aB => by kernel_rfl) fun _ _ => h
noncomputable def gG.h : HC := aF (bd Tryz.f232) []
def gG.T (p : Option Addr) (R : VP) (M : Mem) : Prop := aJ pr (fun _ _ _ _ => False) R (gX PP gG.h [] [] (gR Tryz.f232) [(0, .ptr (.v p))] M)
theorem gG.go (p : Option Addr) (h : gG.T (aH PP w0) p R M) : C PP w0 Id.gG #[.pointer p] R M :=
  c8 mixed (h := gG.h) (T := fun pr aB => gG.T pr p R M) Tryz.func232 (cZ _ _) (by kernel_rfl) (fun pr aB => by kernel_rfl) fun _ _ => h
noncomputable def cN.h : HC := aF (bd Tryz.f233) [([true, true], [0, 3, 4, 6])]
def cN.Is (R : VP) : Prop := pK PP pr aB cN.h Tryz.f233 R
abbrev cN.J1 (p_0 : Option Addr) (v_3 : Addr) (t4 : Addr) (at_6 : Int) (M : Mem) : Prop := aB [true, true, true] [] [(0, .pointer p_0), (3, .pointer (some v_3)), (4, .pointer (some t4)), (6, .int .i64 at_6)] M
def cN.J1.T (p_0 : Option Addr) (v_3 : Addr) (t4 : Addr) (at_6 : Int) (R : VP) (M : Mem) : Prop := aJ pr aB R (bO PP cN.h (gR Tryz.f233) [true, true, true] [] [(0, .ptr (.v p_0)), (3, .ptr (.a (.v v_3))), (4, .ptr (.a (.v t4))), (6, .int .i64 (.v at_6))] M)
theorem cN.Is.J1 {pr : Prim} {aB : fE} (H : cN.Is pr aB R) (p_0 : Option Addr) (v_3 : Addr) (t4 : Addr) (at_6 : Int) (M : Mem) : cN.J1 aB p_0 v_3 t4 at_6 M = cN.J1.T pr aB p_0 v_3 t4 at_6 R M := (H _ _ _ _ _ rfl).trans (by kernel_rfl)
def cN.T (p : Option Addr) (v_0 v_1 v_2 v_3 v_4 : Int) (R : VP) (M : Mem) : Prop := aJ pr aB R (gX PP cN.h [] [] (gR Tryz.f233) [(0, .ptr (.v p)), (1, .agg [.int .i64 (.v v_0), .int .i64 (.v v_1), .int .i64 (.v v_2), .int .i64 (.v v_3), .int .i64 (.v v_4)])] M)
theorem cN.go (p : Option Addr) (v_0 v_1 v_2 v_3 v_4 : Int) (h : ∀ aB, cN.Is (aH PP w0) aB R → cN.T (aH PP w0) aB p v_0 v_1 v_2 v_3 v_4 R M) : C PP w0 Id.cN #[.pointer p, .agg #[.int .i64 v_0, .int .i64 v_1, .int .i64 v_2, .int .i64 v_3, .int .i64 v_4]] R M :=
  c8 mixed (h := cN.h) (T := fun pr aB => cN.T pr aB p v_0 v_1 v_2 v_3 v_4 R M) Tryz.func233 (cZ _ _) (by kernel_rfl) (fun pr aB => by kernel_rfl) h
noncomputable def kH.h : HC := aF (bd Tryz.f234) []
def kH.T (p : Option Addr) (r_0 r_1 v_0 v_1 v_2 v_3 v_4 : Int) (R : VP) (M : Mem) : Prop := aJ pr (fun _ _ _ _ => False) R (gX PP kH.h [] [] (gR Tryz.f234) [(0, .ptr (.v p)), (1, .agg [.int .i64 (.v r_0), .int .i64 (.v r_1)]), (2, .agg [.int .i64 (.v v_0), .int .i64 (.v v_1), .int .i64 (.v v_2), .int .i64 (.v v_3), .int .i64 (.v v_4)])] M)
theorem kH.go (p : Option Addr) (r_0 r_1 v_0 v_1 v_2 v_3 v_4 : Int) (h : kH.T (aH PP w0) p r_0 r_1 v_0 v_1 v_2 v_3 v_4 R M) : C PP w0 Id.kH #[.pointer p, .agg #[.int .i64 r_0, .int .i64 r_1], .agg #[.int .i64 v_0, .int .i64 v_1, .int .i64 v_2, .int .i64 v_3, .int .i64 v_4]] R M :=
  c8 mixed (h := kH.h) (T := fun pr aB => kH.T pr p r_0 r_1 v_0 v_1 v_2 v_3 v_4 R M) Tryz.func234 (cZ _ _) (by kernel_rfl) (fun pr aB => by kernel_rfl) fun _ _ => h
noncomputable def lL.h : HC := aF (bd Tryz.f235) []
def lL.T (t : Option Addr) (r_0 r_1 : Int) (R : VP) (M : Mem) : Prop := aJ pr (fun _ _ _ _ => False) R (gX PP lL.h [] [] (gR Tryz.f235) [(0, .ptr (.v t)), (1, .agg [.int .i64 (.v r_0), .int .i64 (.v r_1)])] M)
theorem lL.go (t : Option Addr) (r_0 r_1 : Int) (h : lL.T (aH PP w0) t r_0 r_1 R M) : C PP w0 Id.lL #[.pointer t, .agg #[.int .i64 r_0, .int .i64 r_1]] R M :=
  c8 mixed (h := lL.h) (T := fun pr aB => lL.T pr t r_0 r_1 R M) Tryz.func235 (cZ _ _) (by kernel_rfl) (fun pr aB => by kernel_rfl) fun _ _ => h
noncomputable def eA.h : HC := aF (bd Tryz.f238) []
def eA.T (x : Int) (R : VP) (M : Mem) : Prop := aJ pr (fun _ _ _ _ => False) R (gX PP eA.h [] [] (gR Tryz.f238) [(0, .int .i64 (.v x))] M)
theorem eA.go (x : Int) (h : eA.T (aH PP w0) x R M) : C PP w0 Id.eA #[.int .i64 x] R M :=
  c8 mixed (h := eA.h) (T := fun pr aB => eA.T pr x R M) Tryz.func238 (cZ _ _) (by kernel_rfl) (fun pr aB => by kernel_rfl) fun _ _ => h
noncomputable def mI.h : HC := aF (bd Tryz.f239) []
def mI.T (a : Option Addr) (n i : Int) (R : VP) (M : Mem) : Prop := aJ pr (fun _ _ _ _ => False) R (gX PP mI.h [] [] (gR Tryz.f239) [(0, .ptr (.v a)), (1, .int .i64 (.v n)), (2, .int .i64 (.v i))] M)
theorem mI.go (a : Option Addr) (n i : Int) (h : mI.T (aH PP w0) a n i R M) : C PP w0 Id.mI #[.pointer a, .int .i64 n, .int .i64 i] R M :=
  c8 mixed (h := mI.h) (T := fun pr aB => mI.T pr a n i R M) Tryz.func239 (cZ _ _) (by kernel_rfl) (fun pr aB => by kernel_rfl) fun _ _ => h
noncomputable def mF.h : HC := aF (bd Tryz.f240) []
def mF.T (a : Option Addr) (R : VP) (M : Mem) : Prop := aJ pr (fun _ _ _ _ => False) R (gX PP mF.h [] [] (gR Tryz.f240) [(0, .ptr (.v a))] M)
theorem mF.go (a : Option Addr) (h : mF.T (aH PP w0) a R M) : C PP w0 Id.mF #[.pointer a] R M :=
  c8 mixed (h := mF.h) (T := fun pr aB => mF.T pr a R M) Tryz.func240 (cZ _ _) (by kernel_rfl) (fun pr aB => by kernel_rfl) fun _ _ => h
noncomputable def iW.h : HC := aF (bd Tryz.f241) [([true, true, true], [0, 1, 8])]
def iW.Is (R : VP) : Prop := pK PP pr aB iW.h Tryz.f241 R
abbrev iW.J1 (a_0 : Option Addr) (n_1 low_8 : Int) (M : Mem) : Prop := aB [true, true, true, true] [] [(0, .pointer a_0), (1, .int .i64 n_1), (8, .int .i64 low_8)] M
def iW.J1.T (a_0 : Option Addr) (n_1 low_8 : Int) (R : VP) (M : Mem) : Prop := aJ pr aB R (bO PP iW.h (gR Tryz.f241) [true, true, true, true] [] [(0, .ptr (.v a_0)), (1, .int .i64 (.v n_1)), (8, .int .i64 (.v low_8))] M)
theorem iW.Is.J1 {pr : Prim} {aB : fE} (H : iW.Is pr aB R) (a_0 : Option Addr) (n_1 low_8 : Int) (M : Mem) : iW.J1 aB a_0 n_1 low_8 M = iW.J1.T pr aB a_0 n_1 low_8 R M := (H _ _ _ _ _ rfl).trans (by kernel_rfl)
def iW.T (a : Option Addr) (n : Int) (R : VP) (M : Mem) : Prop := aJ pr aB R (gX PP iW.h [] [] (gR Tryz.f241) [(0, .ptr (.v a)), (1, .int .i64 (.v n))] M)
theorem iW.go (a : Option Addr) (n : Int) (h : ∀ aB, iW.Is (aH PP w0) aB R → iW.T (aH PP w0) aB a n R M) : C PP w0 Id.iW #[.pointer a, .int .i64 n] R M :=
  c8 mixed (h := iW.h) (T := fun pr aB => iW.T pr aB a n R M) Tryz.func241 (cZ _ _) (by kernel_rfl) (fun pr aB => by kernel_rfl) h
end
end HL
namespace HL
noncomputable def aAB.h : HC := aF (bd Tryz.f242) []
def aAB.T (pr : Prim) (x : SV) (cmp : FuncId × Array Value) (R : VP) (M : Mem) : Prop := aJ pr (fun _ _ _ _ => False) R (gX PP aAB.h [] [] (gR Tryz.f242) [(0, .sv x), (1, .kf cmp)] M)
theorem aAB.go (w0 : World) (x : SV) (cmp : FuncId × Array Value) {R : VP} {M : Mem} (h : aAB.T (aH PP w0) x cmp R M) : C PP w0 Id.aAB #[SV.v x, .func (.func cmp.1) #[] cmp.2] R M :=
  c8 mixed (h := aAB.h) (T := fun pr aB => aAB.T pr x cmp R M) Tryz.func242 (cZ _ _) (by kernel_rfl) (fun pr aB => by kernel_rfl) fun _ _ => h
noncomputable def m5.h : HC := aF (bd Tryz.f243) []
def m5.T (pr : Prim) (x_0 x_1 y_0 y_1 : Int) (R : VP) (M : Mem) : Prop := aJ pr (fun _ _ _ _ => False) R (gX PP m5.h [] [] (gR Tryz.f243) [(0, .agg [.int .i64 (.v x_0), .int .i64 (.v x_1)]), (1, .agg [.int .i64 (.v y_0), .int .i64 (.v y_1)])] M)
theorem m5.go (w0 : World) (x_0 x_1 y_0 y_1 : Int) {R : VP} {M : Mem} (h : m5.T (aH PP w0) x_0 x_1 y_0 y_1 R M) : C PP w0 Id.m5 #[.agg #[.int .i64 x_0, .int .i64 x_1], .agg #[.int .i64 y_0, .int .i64 y_1]] R M :=
  c8 mixed (h := m5.h) (T := fun pr aB => m5.T pr x_0 x_1 y_0 y_1 R M) Tryz.func243 (cZ _ _) (by kernel_rfl) (fun pr aB => by kernel_rfl) fun _ _ => h
noncomputable def cI.h : HC := aF (bd Tryz.f244) [([true], [0, 1, 2, 3])]
def cI.Is (pr : Prim) (aB : fE) (R : VP) : Prop := pK PP pr aB cI.h Tryz.f244 R
abbrev cI.J1 (aB : fE) (a_0 : Option Addr) (n_1 m_2 rank_3 : Int) (M : Mem) : Prop := aB [true, true] [] [(0, .pointer a_0), (1, .int .i64 n_1), (2, .int .i64 m_2), (3, .int .i64 rank_3)] M
def cI.J1.T (pr : Prim) (aB : fE) (a_0 : Option Addr) (n_1 m_2 rank_3 : Int) (R : VP) (M : Mem) : Prop := aJ pr aB R (bO PP cI.h (gR Tryz.f244) [true, true] [] [(0, .ptr (.v a_0)), (1, .int .i64 (.v n_1)), (2, .int .i64 (.v m_2)), (3, .int .i64 (.v rank_3))] M)
theorem cI.Is.J1 {pr : Prim} {aB : fE} {R : VP} (H : cI.Is pr aB R) (a_0 : Option Addr) (n_1 m_2 rank_3 : Int) (M : Mem) : cI.J1 aB a_0 n_1 m_2 rank_3 M = cI.J1.T pr aB a_0 n_1 m_2 rank_3 R M := (H _ _ _ _ _ rfl).trans (by kernel_rfl)
def cI.T (pr : Prim) (aB : fE) (a : Option Addr) (n m rank : Int) (R : VP) (M : Mem) : Prop := aJ pr aB R (gX PP cI.h [] [] (gR Tryz.f244) [(0, .ptr (.v a)), (1, .int .i64 (.v n)), (2, .int .i64 (.v m)), (3, .int .i64 (.v rank))] M)
theorem cI.go (w0 : World) (a : Option Addr) (n m rank : Int) {R : VP} {M : Mem} (h : ∀ aB, cI.Is (aH PP w0) aB R → cI.T (aH PP w0) aB a n m rank R M) : C PP w0 Id.cI #[.pointer a, .int .i64 n, .int .i64 m, .int .i64 rank] R M :=
  c8 mixed (h := cI.h) (T := fun pr aB => cI.T pr aB a n m rank R M) Tryz.func244 (cZ _ _) (by kernel_rfl) (fun pr aB => by kernel_rfl) h
noncomputable def dO.h : HC := aF (bd Tryz.f245) []
def dO.T (pr : Prim) (s : SV) (i : Int) (v : SV) (R : VP) (M : Mem) : Prop := aJ pr (fun _ _ _ _ => False) R (gX PP dO.h [] [] (gR Tryz.f245) [(0, .sv s), (1, .int .i64 (.v i)), (2, .sv v)] M)
theorem dO.go (w0 : World) (s : SV) (i : Int) (v : SV) {R : VP} {M : Mem} (h : dO.T (aH PP w0) s i v R M) : C PP w0 Id.dO #[SV.v s, .int .i64 i, SV.v v] R M :=
  c8 mixed (h := dO.h) (T := fun pr aB => dO.T pr s i v R M) Tryz.func245 (cZ _ _) (by kernel_rfl) (fun pr aB => by kernel_rfl) fun _ _ => h
noncomputable def dD.h : HC := aF (bd Tryz.f246) [([true, true, false, true, false], [0, 1, 5, 6])]
def dD.Is (pr : Prim) (aB : fE) (R : VP) : Prop := pK PP pr aB dD.h Tryz.f246 R
abbrev dD.L1 (aB : fE) (k : Nat) (a_0 : Option Addr) (l_1 : SV) (next_5 k_6 : Int) (M : Mem) : Prop := aB [false, false, true, false, true, true] [k] [(0, .pointer a_0), (1, SV.v l_1), (5, .int .i64 next_5), (6, .int .i64 k_6)] M
def dD.L1.T (pr : Prim) (aB : fE) (k : Nat) (a_0 : Option Addr) (l_1 : SV) (next_5 k_6 : Int) (R : VP) (M : Mem) : Prop := aJ pr aB R (bO PP dD.h (gR Tryz.f246) [false, false, true, false, true, true] [k] [(0, .ptr (.v a_0)), (1, .sv l_1), (5, .int .i64 (.v next_5)), (6, .int .i64 (.v k_6))] M)
theorem dD.Is.L1 {pr : Prim} {aB : fE} {R : VP} (H : dD.Is pr aB R) (k : Nat) (a_0 : Option Addr) (l_1 : SV) (next_5 k_6 : Int) (M : Mem) : dD.L1 aB (k + 1) a_0 l_1 next_5 k_6 M = dD.L1.T pr aB k a_0 l_1 next_5 k_6 R M := (H _ _ _ _ _ rfl).trans (by kernel_rfl)
def dD.T (pr : Prim) (aB : fE) (a : Option Addr) (l : SV) (R : VP) (M : Mem) : Prop := aJ pr aB R (gX PP dD.h [] [] (gR Tryz.f246) [(0, .ptr (.v a)), (1, .sv l)] M)
theorem dD.go (w0 : World) (a : Option Addr) (l : SV) {R : VP} {M : Mem} (h : ∀ aB, dD.Is (aH PP w0) aB R → dD.T (aH PP w0) aB a l R M) : C PP w0 Id.dD #[.pointer a, SV.v l] R M :=
  c8 mixed (h := dD.h) (T := fun pr aB => dD.T pr aB a l R M) Tryz.func246 (cZ _ _) (by kernel_rfl) (fun pr aB => by kernel_rfl) h
noncomputable def cJ.h : HC := aF (bd Tryz.f247) [([true, true, false, false], [0, 1, 2, 7]), ([true, true, false, false, false], [0, 1, 2, 7])]
def cJ.Is (pr : Prim) (aB : fE) (R : VP) : Prop := pK PP pr aB cJ.h Tryz.f247 R
abbrev cJ.L1 (aB : fE) (k : Nat) (a_0 : Option Addr) (n_1 field_2 : Int) (out_7 : SV) (M : Mem) : Prop := aB [false, false, false, true, true] [k] [(0, .pointer a_0), (1, .int .i64 n_1), (2, .int .i64 field_2), (7, SV.v out_7)] M
def cJ.L1.T (pr : Prim) (aB : fE) (k : Nat) (a_0 : Option Addr) (n_1 field_2 : Int) (out_7 : SV) (R : VP) (M : Mem) : Prop := aJ pr aB R (bO PP cJ.h (gR Tryz.f247) [false, false, false, true, true] [k] [(0, .ptr (.v a_0)), (1, .int .i64 (.v n_1)), (2, .int .i64 (.v field_2)), (7, .sv out_7)] M)
theorem cJ.Is.L1 {pr : Prim} {aB : fE} {R : VP} (H : cJ.Is pr aB R) (k : Nat) (a_0 : Option Addr) (n_1 field_2 : Int) (out_7 : SV) (M : Mem) : cJ.L1 aB (k + 1) a_0 n_1 field_2 out_7 M = cJ.L1.T pr aB k a_0 n_1 field_2 out_7 R M := (H _ _ _ _ _ rfl).trans (by kernel_rfl)
abbrev cJ.J2 (aB : fE) (k : Nat) (a_0 : Option Addr) (n_1 field_2 : Int) (out_7 : SV) (M : Mem) : Prop := aB [true, false, false, false, true, true] [k] [(0, .pointer a_0), (1, .int .i64 n_1), (2, .int .i64 field_2), (7, SV.v out_7)] M
def cJ.J2.T (pr : Prim) (aB : fE) (k : Nat) (a_0 : Option Addr) (n_1 field_2 : Int) (out_7 : SV) (R : VP) (M : Mem) : Prop := aJ pr aB R (bO PP cJ.h (gR Tryz.f247) [true, false, false, false, true, true] [k] [(0, .ptr (.v a_0)), (1, .int .i64 (.v n_1)), (2, .int .i64 (.v field_2)), (7, .sv out_7)] M)
theorem cJ.Is.J2 {pr : Prim} {aB : fE} {R : VP} (H : cJ.Is pr aB R) (k : Nat) (a_0 : Option Addr) (n_1 field_2 : Int) (out_7 : SV) (M : Mem) : cJ.J2 aB k a_0 n_1 field_2 out_7 M = cJ.J2.T pr aB k a_0 n_1 field_2 out_7 R M := (H _ _ _ _ _ rfl).trans (by kernel_rfl)
def cJ.T (pr : Prim) (aB : fE) (a : Option Addr) (n field : Int) (R : VP) (M : Mem) : Prop := aJ pr aB R (gX PP cJ.h [] [] (gR Tryz.f247) [(0, .ptr (.v a)), (1, .int .i64 (.v n)), (2, .int .i64 (.v field))] M)
theorem cJ.go (w0 : World) (a : Option Addr) (n field : Int) {R : VP} {M : Mem} (h : ∀ aB, cJ.Is (aH PP w0) aB R → cJ.T (aH PP w0) aB a n field R M) : C PP w0 Id.cJ #[.pointer a, .int .i64 n, .int .i64 field] R M :=
  c8 mixed (h := cJ.h) (T := fun pr aB => cJ.T pr aB a n field R M) Tryz.func247 (cZ _ _) (by kernel_rfl) (fun pr aB => by kernel_rfl) h
noncomputable def kK.h : HC := aF (bd Tryz.f248) []
def kK.T (pr : Prim) (a : Option Addr) (n m : Int) (R : VP) (M : Mem) : Prop := aJ pr (fun _ _ _ _ => False) R (gX PP kK.h [] [] (gR Tryz.f248) [(0, .ptr (.v a)), (1, .int .i64 (.v n)), (2, .int .i64 (.v m))] M)
theorem kK.go (w0 : World) (a : Option Addr) (n m : Int) {R : VP} {M : Mem} (h : kK.T (aH PP w0) a n m R M) : C PP w0 Id.kK #[.pointer a, .int .i64 n, .int .i64 m] R M :=
  c8 mixed (h := kK.h) (T := fun pr aB => kK.T pr a n m R M) Tryz.func248 (cZ _ _) (by kernel_rfl) (fun pr aB => by kernel_rfl) fun _ _ => h
noncomputable def gY.h : HC := aF (bd Tryz.f249) []
def gY.T (pr : Prim) (a : Option Addr) (n up : Int) (R : VP) (M : Mem) : Prop := aJ pr (fun _ _ _ _ => False) R (gX PP gY.h [] [] (gR Tryz.f249) [(0, .ptr (.v a)), (1, .int .i64 (.v n)), (2, .int .i64 (.v up))] M)
theorem gY.go (w0 : World) (a : Option Addr) (n up : Int) {R : VP} {M : Mem} (h : gY.T (aH PP w0) a n up R M) : C PP w0 Id.gY #[.pointer a, .int .i64 n, .int .i64 up] R M :=
  c8 mixed (h := gY.h) (T := fun pr aB => gY.T pr a n up R M) Tryz.func249 (cZ _ _) (by kernel_rfl) (fun pr aB => by kernel_rfl) fun _ _ => h
noncomputable def p6.h : HC := aF (bd Tryz.f251) [([true, true, true, false, true, false], [0, 1, 5, 6])]
def p6.Is (pr : Prim) (aB : fE) (R : VP) : Prop := pK PP pr aB p6.h Tryz.f251 R
abbrev p6.L1 (aB : fE) (k : Nat) (s_0 : SV) (del_1 : FuncId × Array Value) (i_5 j_6 : Int) (M : Mem) : Prop := aB [false, false, true, false, true, true, true] [k] [(0, SV.v s_0), (1, kfV del_1), (5, .int .i64 i_5), (6, .int .i64 j_6)] M
def p6.L1.T (pr : Prim) (aB : fE) (k : Nat) (s_0 : SV) (del_1 : FuncId × Array Value) (i_5 j_6 : Int) (R : VP) (M : Mem) : Prop := aJ pr aB R (bO PP p6.h (gR Tryz.f251) [false, false, true, false, true, true, true] [k] [(0, .sv s_0), (1, .kf del_1), (5, .int .i64 (.v i_5)), (6, .int .i64 (.v j_6))] M)
theorem p6.Is.L1 {pr : Prim} {aB : fE} {R : VP} (H : p6.Is pr aB R) (k : Nat) (s_0 : SV) (del_1 : FuncId × Array Value) (i_5 j_6 : Int) (M : Mem) : p6.L1 aB (k + 1) s_0 del_1 i_5 j_6 M = p6.L1.T pr aB k s_0 del_1 i_5 j_6 R M := (H _ _ _ _ _ rfl).trans (by kernel_rfl)
def p6.T (pr : Prim) (aB : fE) (s : SV) (del : FuncId × Array Value) (R : VP) (M : Mem) : Prop := aJ pr aB R (gX PP p6.h [] [] (gR Tryz.f251) [(0, .sv s), (1, .kf del)] M)
theorem p6.go (w0 : World) (s : SV) (del : FuncId × Array Value) {R : VP} {M : Mem} (h : ∀ aB, p6.Is (aH PP w0) aB R → p6.T (aH PP w0) aB s del R M) : C PP w0 Id.p6 #[SV.v s, .func (.func del.1) #[] del.2] R M :=
  c8 mixed (h := p6.h) (T := fun pr aB => p6.T pr aB s del R M) Tryz.func251 (cZ _ _) (by kernel_rfl) (fun pr aB => by kernel_rfl) h
noncomputable def fS.h : HC := aF (bd Tryz.f252) []
def fS.T (pr : Prim) (x : Int) (c1 : Addr) (R : VP) (M : Mem) : Prop := aJ pr (fun _ _ _ _ => False) R (gX PP fS.h [] [] (gR Tryz.f252) [(0, .int .i64 (.v x)), (1, .ptr (.a (.v c1)))] M)
theorem fS.go (w0 : World) (x : Int) (c1 : Addr) {R : VP} {M : Mem} (h : fS.T (aH PP w0) x c1 R M) : C PP w0 Id.fS #[.int .i64 x, .pointer (some c1)] R M :=
  c8 mixed (h := fS.h) (T := fun pr aB => fS.T pr x c1 R M) Tryz.func252 (cZ _ _) (by kernel_rfl) (fun pr aB => by kernel_rfl) fun _ _ => h
noncomputable def iZ.h : HC := aF (bd Tryz.f253) []
def iZ.T (pr : Prim) (a : Option Addr) (n : Int) (R : VP) (M : Mem) : Prop := aJ pr (fun _ _ _ _ => False) R (gX PP iZ.h [] [] (gR Tryz.f253) [(0, .ptr (.v a)), (1, .int .i64 (.v n))] M)
theorem iZ.go (w0 : World) (a : Option Addr) (n : Int) {R : VP} {M : Mem} (h : iZ.T (aH PP w0) a n R M) : C PP w0 Id.iZ #[.pointer a, .int .i64 n] R M :=
  c8 mixed (h := iZ.h) (T := fun pr aB => iZ.T pr a n R M) Tryz.func253 (cZ _ _) (by kernel_rfl) (fun pr aB => by kernel_rfl) fun _ _ => h
noncomputable def uO.h : HC := aF (bd Tryz.f254) []
def uO.T (pr : Prim) (x : Int) (c1 : Addr) (R : VP) (M : Mem) : Prop := aJ pr (fun _ _ _ _ => False) R (gX PP uO.h [] [] (gR Tryz.f254) [(0, .int .i64 (.v x)), (1, .ptr (.a (.v c1)))] M)
theorem uO.go (w0 : World) (x : Int) (c1 : Addr) {R : VP} {M : Mem} (h : uO.T (aH PP w0) x c1 R M) : C PP w0 Id.uO #[.int .i64 x, .pointer (some c1)] R M :=
  c8 mixed (h := uO.h) (T := fun pr aB => uO.T pr x c1 R M) Tryz.func254 (cZ _ _) (by kernel_rfl) (fun pr aB => by kernel_rfl) fun _ _ => h
noncomputable def gV.h : HC := aF (bd Tryz.f260) []
def gV.T (pr : Prim) (a : Option Addr) (i j : Int) (R : VP) (M : Mem) : Prop := aJ pr (fun _ _ _ _ => False) R (gX PP gV.h [] [] (gR Tryz.f260) [(0, .ptr (.v a)), (1, .int .i64 (.v i)), (2, .int .i64 (.v j))] M)
theorem gV.go (w0 : World) (a : Option Addr) (i j : Int) {R : VP} {M : Mem} (h : gV.T (aH PP w0) a i j R M) : C PP w0 Id.gV #[.pointer a, .int .i64 i, .int .i64 j] R M :=
  c8 mixed (h := gV.h) (T := fun pr aB => gV.T pr a i j R M) Tryz.func260 (cZ _ _) (by kernel_rfl) (fun pr aB => by kernel_rfl) fun _ _ => h
noncomputable def rP.h : HC := aF (bd Tryz.f263) [([true, false, true, false], [0, 1, 7, 8])]
def rP.Is (pr : Prim) (aB : fE) (R : VP) : Prop := pK PP pr aB rP.h Tryz.f263 R
abbrev rP.L1 (aB : fE) (k : Nat) (s_0 : SV) (v_1 t7 t8 : Int) (M : Mem) : Prop := aB [false, false, true, false, true] [k] [(0, SV.v s_0), (1, .int .i64 v_1), (7, .int .i64 t7), (8, .int .i64 t8)] M
def rP.L1.T (pr : Prim) (aB : fE) (k : Nat) (s_0 : SV) (v_1 t7 t8 : Int) (R : VP) (M : Mem) : Prop := aJ pr aB R (bO PP rP.h (gR Tryz.f263) [false, false, true, false, true] [k] [(0, .sv s_0), (1, .int .i64 (.v v_1)), (7, .int .i64 (.v t7)), (8, .int .i64 (.v t8))] M)
theorem rP.Is.L1 {pr : Prim} {aB : fE} {R : VP} (H : rP.Is pr aB R) (k : Nat) (s_0 : SV) (v_1 t7 t8 : Int) (M : Mem) : rP.L1 aB (k + 1) s_0 v_1 t7 t8 M = rP.L1.T pr aB k s_0 v_1 t7 t8 R M := (H _ _ _ _ _ rfl).trans (by kernel_rfl)
def rP.T (pr : Prim) (aB : fE) (s : SV) (v : Int) (R : VP) (M : Mem) : Prop := aJ pr aB R (gX PP rP.h [] [] (gR Tryz.f263) [(0, .sv s), (1, .int .i64 (.v v))] M)
theorem rP.go (w0 : World) (s : SV) (v : Int) {R : VP} {M : Mem} (h : ∀ aB, rP.Is (aH PP w0) aB R → rP.T (aH PP w0) aB s v R M) : C PP w0 Id.rP #[SV.v s, .int .i64 v] R M :=
  c8 mixed (h := rP.h) (T := fun pr aB => rP.T pr aB s v R M) Tryz.func263 (cZ _ _) (by kernel_rfl) (fun pr aB => by kernel_rfl) h
noncomputable def aD.h : HC := aF ((Tryz.f271.body).getD .skip) [([true], [0, 2]), ([true, true], [0, 2]), ([true, true, true], [0, 2])]
abbrev aD.J1 (aB : fE) (x_0 n_2 : Int) (M : Mem) : Prop := aB [true, true] [] [(0, .int .u64 x_0), (2, .int .i64 n_2)] M
abbrev aD.J2 (aB : fE) (x_0 n_2 : Int) (M : Mem) : Prop := aB [true, true, true] [] [(0, .int .u64 x_0), (2, .int .i64 n_2)] M
abbrev aD.J3 (aB : fE) (x_0 n_2 : Int) (M : Mem) : Prop := aB [true, true, true, true] [] [(0, .int .u64 x_0), (2, .int .i64 n_2)] M
def aD.aB (pr : Prim) (R : VP) : fE := tY PP pr aD.h (aBm pr Tryz.f271.results.toList R)
def aD.J1.T (pr : Prim) (aB : fE) (x_0 n_2 : Int) (R : VP) (M : Mem) : Prop := bs (decide (x_0 ≥ 65536)) ((0 ≤ (16 : Int) ∧ aD.J2 aB (Int.fdiv x_0 (2 ^ (min (16 : Int).toNat (IntKind.bits .u64)))) (p4 (n_2 + 16)) M)) (aD.J2 aB x_0 n_2 M)
theorem aD.J1.eqX (pr : Prim) (aB : fE) (x_0 n_2 : Int) (R : VP) (M : Mem) : zM PP pr aB aD.h (aBm pr Tryz.f271.results.toList R) [true, true] [] [(0, .int .u64 x_0), (2, .int .i64 n_2)] M = aD.J1.T pr aB x_0 n_2 R M := by kernel_rfl
theorem aD.J1.eq (pr : Prim) (x_0 n_2 : Int) (R : VP) (M : Mem) : aD.J1 (aD.aB pr R) x_0 n_2 M = aD.J1.T pr (aD.aB pr R) x_0 n_2 R M :=
  (z7 (b := true) (p := [true]) (ns := []) rfl _ _).trans (aD.J1.eqX pr (aD.aB pr R) x_0 n_2 R M)
def aD.J2.T (pr : Prim) (aB : fE) (x_0 n_2 : Int) (R : VP) (M : Mem) : Prop := bs (decide (x_0 ≥ 256)) ((0 ≤ (8 : Int) ∧ aD.J3 aB (Int.fdiv x_0 (2 ^ (min (8 : Int).toNat (IntKind.bits .u64)))) (p4 (n_2 + 8)) M)) (aD.J3 aB x_0 n_2 M)
theorem aD.J2.eqX (pr : Prim) (aB : fE) (x_0 n_2 : Int) (R : VP) (M : Mem) : zM PP pr aB aD.h (aBm pr Tryz.f271.results.toList R) [true, true, true] [] [(0, .int .u64 x_0), (2, .int .i64 n_2)] M = aD.J2.T pr aB x_0 n_2 R M := by kernel_rfl
theorem aD.J2.eq (pr : Prim) (x_0 n_2 : Int) (R : VP) (M : Mem) : aD.J2 (aD.aB pr R) x_0 n_2 M = aD.J2.T pr (aD.aB pr R) x_0 n_2 R M :=
  (z7 (b := true) (p := [true, true]) (ns := []) rfl _ _).trans (aD.J2.eqX pr (aD.aB pr R) x_0 n_2 R M)
def aD.J3.T (pr : Prim) (aB : fE) (x_0 n_2 : Int) (R : VP) (M : Mem) : Prop := ob (pr.idx 9 (Value.string ⟨(([0, 1, 2, 2, 3, 3, 3, 3, 4, 4, 4, 4, 4, 4, 4, 4, 5, 5, 5, 5, 5, 5, 5, 5, 5, 5, 5, 5, 5, 5, 5, 5, 6, 6, 6, 6, 6, 6, 6, 6, 6, 6, 6, 6, 6, 6, 6, 6, 6, 6, 6, 6, 6, 6, 6, 6, 6, 6, 6, 6, 6, 6, 6, 6, 7, 7, 7, 7, 7, 7, 7, 7, 7, 7, 7, 7, 7, 7, 7, 7, 7, 7, 7, 7, 7, 7, 7, 7, 7, 7, 7, 7, 7, 7, 7, 7, 7, 7, 7, 7, 7, 7, 7, 7, 7, 7, 7, 7, 7, 7, 7, 7, 7, 7, 7, 7, 7, 7, 7, 7, 7, 7, 7, 7, 7, 7, 7, 7, 8, 8, 8, 8, 8, 8, 8, 8, 8, 8, 8, 8, 8, 8, 8, 8, 8, 8, 8, 8, 8, 8, 8, 8, 8, 8, 8, 8, 8, 8, 8, 8, 8, 8, 8, 8, 8, 8, 8, 8, 8, 8, 8, 8, 8, 8, 8, 8, 8, 8, 8, 8, 8, 8, 8, 8, 8, 8, 8, 8, 8, 8, 8, 8, 8, 8, 8, 8, 8, 8, 8, 8, 8, 8, 8, 8, 8, 8, 8, 8, 8, 8, 8, 8, 8, 8, 8, 8, 8, 8, 8, 8, 8, 8, 8, 8, 8, 8, 8, 8, 8, 8, 8, 8, 8, 8, 8, 8, 8, 8, 8, 8, 8, 8, 8, 8, 8, 8, 8, 8, 8, 8, 8, 8, 8, 8, 8, 8] : List UInt8)).toArray⟩) (.int .u8 (IntKind.wrap .u8 (x_0)))) fun v1 => nA .u8 v1 fun n2 => R (.int .i64 (p4 (n_2 + (p4 (n2))))) M
theorem aD.J3.eqX (pr : Prim) (aB : fE) (x_0 n_2 : Int) (R : VP) (M : Mem) : zM PP pr aB aD.h (aBm pr Tryz.f271.results.toList R) [true, true, true, true] [] [(0, .int .u64 x_0), (2, .int .i64 n_2)] M = aD.J3.T pr aB x_0 n_2 R M := by kernel_rfl
theorem aD.J3.eq (pr : Prim) (x_0 n_2 : Int) (R : VP) (M : Mem) : aD.J3 (aD.aB pr R) x_0 n_2 M = aD.J3.T pr (aD.aB pr R) x_0 n_2 R M :=
  (z7 (b := true) (p := [true, true, true]) (ns := []) rfl _ _).trans (aD.J3.eqX pr (aD.aB pr R) x_0 n_2 R M)
structure aD.Is (pr : Prim) (aB : fE) (R : VP) : Prop where
  J1 : ∀ (x_0 : Int) (n_2 : Int) (M : Mem), aD.J1 aB x_0 n_2 M = aD.J1.T pr aB x_0 n_2 R M
  J2 : ∀ (x_0 : Int) (n_2 : Int) (M : Mem), aD.J2 aB x_0 n_2 M = aD.J2.T pr aB x_0 n_2 R M
  J3 : ∀ (x_0 : Int) (n_2 : Int) (M : Mem), aD.J3 aB x_0 n_2 M = aD.J3.T pr aB x_0 n_2 R M
theorem aD.is (pr : Prim) (R : VP) : aD.Is pr (aD.aB pr R) R := ⟨fun x_0 n_2 M => aD.J1.eq pr x_0 n_2 R M, fun x_0 n_2 M => aD.J2.eq pr x_0 n_2 R M, fun x_0 n_2 M => aD.J3.eq pr x_0 n_2 R M⟩
def aD.T (pr : Prim) (aB : fE) (x : Int) (R : VP) (M : Mem) : Prop := bs (decide (x ≥ 4294967296)) ((0 ≤ (32 : Int) ∧ aD.J1 aB (Int.fdiv x (2 ^ (min (32 : Int).toNat (IntKind.bits .u64)))) 32 M)) (aD.J1 aB x 0 M)
theorem aD.eqX (pr : Prim) (aB : fE) (x : Int) (R : VP) (M : Mem) : wpX PP pr aB aD.h [] [] (aBm pr Tryz.f271.results.toList R) (xI 0 [.int .u64 x]) M = aD.T pr aB x R M := by kernel_rfl
theorem aD.eq (pr : Prim) (x : Int) (R : VP) (M : Mem) : sJ PP pr aD.h (aBm pr Tryz.f271.results.toList R) (xI 0 [.int .u64 x]) M = aD.T pr (aD.aB pr R) x R M := aE4.trans (aD.eqX pr (aD.aB pr R) x R M)
theorem aD.fn : PP.funcs[Id.aD]? = some Tryz.f271 := Tryz.func271
theorem aD.can : oS PP Id.aD = true := by kernel_rfl
theorem aD.aLB : okH Tryz.f271.ntmps aD.h = true := by kernel_rfl
theorem aD.body : Tryz.f271.body = some ((Tryz.f271.body).getD .skip) := by kernel_rfl
theorem aD.size : (1 : Nat) ≤ Tryz.f271.ntmps := by decide
theorem aD.go (w0 : World) (x : Int) {R : VP} {M : Mem} (h : ∀ aB, aD.Is (aH PP w0) aB R → aD.T (aH PP w0) aB x R M) : C PP w0 Id.aD #[.int .u64 x] R M :=
  aEC mixed aD.fn aD.body aD.can (cZ _ _) aD.aLB aD.size ((aD.eq (aH PP w0) x R M).mpr (h _ (aD.is _ _)))
noncomputable def gB.h : HC := aF (bd Tryz.f272) []
def gB.T (pr : Prim) (p : Option Addr) (r_0 r_1 : Int) (R : VP) (M : Mem) : Prop := aJ pr (fun _ _ _ _ => False) R (gX PP gB.h [] [] (gR Tryz.f272) [(0, .ptr (.v p)), (1, .agg [.int .i64 (.v r_0), .int .i64 (.v r_1)])] M)
theorem gB.go (w0 : World) (p : Option Addr) (r_0 r_1 : Int) {R : VP} {M : Mem} (h : gB.T (aH PP w0) p r_0 r_1 R M) : C PP w0 Id.gB #[.pointer p, .agg #[.int .i64 r_0, .int .i64 r_1]] R M :=
  c8 mixed (h := gB.h) (T := fun pr aB => gB.T pr p r_0 r_1 R M) Tryz.func272 (cZ _ _) (by kernel_rfl) (fun pr aB => by kernel_rfl) fun _ _ => h
noncomputable def oW.h : HC := aF (bd Tryz.f274) []
def oW.T (pr : Prim) (a : Option Addr) (n : Int) (R : VP) (M : Mem) : Prop := aJ pr (fun _ _ _ _ => False) R (gX PP oW.h [] [] (gR Tryz.f274) [(0, .ptr (.v a)), (1, .int .i64 (.v n))] M)
theorem oW.go (w0 : World) (a : Option Addr) (n : Int) {R : VP} {M : Mem} (h : oW.T (aH PP w0) a n R M) : C PP w0 Id.oW #[.pointer a, .int .i64 n] R M :=
  c8 mixed (h := oW.h) (T := fun pr aB => oW.T pr a n R M) Tryz.func274 (cZ _ _) (by kernel_rfl) (fun pr aB => by kernel_rfl) fun _ _ => h
end HL
namespace HL
section
variable (pr : Prim) (aB : fE) (w0 : World) {R : VP} {M : Mem}
noncomputable def nD.h : HC := aF (bd Tryz.f275) [([true, true, false, false], [0, 1, 2, 6, 7, 8]), ([true, true, true, true, false], [0, 1, 2, 6]), ([true, true, true, true, false, false, true, false, true, false, false], [0, 1, 2, 6, 7, 8])]
def nD.Is (R : VP) : Prop := pK PP pr aB nD.h Tryz.f275 R
abbrev nD.L1 (k : Nat) (data_0 : SV) (n_1 : Int) (cmp_2 : FuncId × Array Value) (blockSize_6 a_7 b_8 : Int) (M : Mem) : Prop := aB [false, false, false, true, true] [k] [(0, SV.v data_0), (1, .int .i64 n_1), (2, kfV cmp_2), (6, .int .i64 blockSize_6), (7, .int .i64 a_7), (8, .int .i64 b_8)] M
def nD.L1.T (k : Nat) (data_0 : SV) (n_1 : Int) (cmp_2 : FuncId × Array Value) (blockSize_6 a_7 b_8 : Int) (R : VP) (M : Mem) : Prop := aJ pr aB R (bO PP nD.h (gR Tryz.f275) [false, false, false, true, true] [k] [(0, .sv data_0), (1, .int .i64 (.v n_1)), (2, .kf cmp_2), (6, .int .i64 (.v blockSize_6)), (7, .int .i64 (.v a_7)), (8, .int .i64 (.v b_8))] M)
theorem nD.Is.L1 {pr : Prim} {aB : fE} (H : nD.Is pr aB R) (k : Nat) (data_0 : SV) (n_1 : Int) (cmp_2 : FuncId × Array Value) (blockSize_6 a_7 b_8 : Int) (M : Mem) : nD.L1 aB (k + 1) data_0 n_1 cmp_2 blockSize_6 a_7 b_8 M = nD.L1.T pr aB k data_0 n_1 cmp_2 blockSize_6 a_7 b_8 R M := (H _ _ _ _ _ rfl).trans (by kernel_rfl)
abbrev nD.L2 (k : Nat) (data_0 : SV) (n_1 : Int) (cmp_2 : FuncId × Array Value) (blockSize_6 : Int) (M : Mem) : Prop := aB [false, false, true, true, true, true] [k] [(0, SV.v data_0), (1, .int .i64 n_1), (2, kfV cmp_2), (6, .int .i64 blockSize_6)] M
def nD.L2.T (k : Nat) (data_0 : SV) (n_1 : Int) (cmp_2 : FuncId × Array Value) (blockSize_6 : Int) (R : VP) (M : Mem) : Prop := aJ pr aB R (bO PP nD.h (gR Tryz.f275) [false, false, true, true, true, true] [k] [(0, .sv data_0), (1, .int .i64 (.v n_1)), (2, .kf cmp_2), (6, .int .i64 (.v blockSize_6))] M)
theorem nD.Is.L2 {pr : Prim} {aB : fE} (H : nD.Is pr aB R) (k : Nat) (data_0 : SV) (n_1 : Int) (cmp_2 : FuncId × Array Value) (blockSize_6 : Int) (M : Mem) : nD.L2 aB (k + 1) data_0 n_1 cmp_2 blockSize_6 M = nD.L2.T pr aB k data_0 n_1 cmp_2 blockSize_6 R M := (H _ _ _ _ _ rfl).trans (by kernel_rfl)
def nD.T (data : SV) (n : Int) (cmp : FuncId × Array Value) (R : VP) (M : Mem) : Prop := aJ pr aB R (gX PP nD.h [] [] (gR Tryz.f275) [(0, .sv data), (1, .int .i64 (.v n)), (2, .kf cmp)] M)
theorem nD.go (data : SV) (n : Int) (cmp : FuncId × Array Value) (h : ∀ aB, nD.Is (aH PP w0) aB R → nD.T (aH PP w0) aB data n cmp R M) : C PP w0 Id.nD #[SV.v data, .int .i64 n, .func (.func cmp.1) #[] cmp.2] R M :=
  c8 mixed (h := nD.h) (T := fun pr aB => nD.T pr aB data n cmp R M) Tryz.func275 (cZ _ _) (by kernel_rfl) (fun pr aB => by kernel_rfl) h
noncomputable def qG.h : HC := aF (bd Tryz.f278) [([true, false, true, false], [0, 1, 7, 8])]
def qG.Is (R : VP) : Prop := pK PP pr aB qG.h Tryz.f278 R
abbrev qG.L1 (k : Nat) (s_0 : SV) (f_1 : FuncId × Array Value) (t7 t8 : Int) (M : Mem) : Prop := aB [false, false, true, false, true] [k] [(0, SV.v s_0), (1, kfV f_1), (7, .int .i64 t7), (8, .int .i64 t8)] M
def qG.L1.T (k : Nat) (s_0 : SV) (f_1 : FuncId × Array Value) (t7 t8 : Int) (R : VP) (M : Mem) : Prop := aJ pr aB R (bO PP qG.h (gR Tryz.f278) [false, false, true, false, true] [k] [(0, .sv s_0), (1, .kf f_1), (7, .int .i64 (.v t7)), (8, .int .i64 (.v t8))] M)
theorem qG.Is.L1 {pr : Prim} {aB : fE} (H : qG.Is pr aB R) (k : Nat) (s_0 : SV) (f_1 : FuncId × Array Value) (t7 t8 : Int) (M : Mem) : qG.L1 aB (k + 1) s_0 f_1 t7 t8 M = qG.L1.T pr aB k s_0 f_1 t7 t8 R M := (H _ _ _ _ _ rfl).trans (by kernel_rfl)
def qG.T (s : SV) (f : FuncId × Array Value) (R : VP) (M : Mem) : Prop := aJ pr aB R (gX PP qG.h [] [] (gR Tryz.f278) [(0, .sv s), (1, .kf f)] M)
theorem qG.go (s : SV) (f : FuncId × Array Value) (h : ∀ aB, qG.Is (aH PP w0) aB R → qG.T (aH PP w0) aB s f R M) : C PP w0 Id.qG #[SV.v s, .func (.func f.1) #[] f.2] R M :=
  c8 mixed (h := qG.h) (T := fun pr aB => qG.T pr aB s f R M) Tryz.func278 (cZ _ _) (by kernel_rfl) (fun pr aB => by kernel_rfl) h
noncomputable def iV.h : HC := aF (bd Tryz.f283) []
def iV.T (a : Option Addr) (i : Int) (R : VP) (M : Mem) : Prop := aJ pr (fun _ _ _ _ => False) R (gX PP iV.h [] [] (gR Tryz.f283) [(0, .ptr (.v a)), (1, .int .i64 (.v i))] M)
theorem iV.go (a : Option Addr) (i : Int) (h : iV.T (aH PP w0) a i R M) : C PP w0 Id.iV #[.pointer a, .int .i64 i] R M :=
  c8 mixed (h := iV.h) (T := fun pr aB => iV.T pr a i R M) Tryz.func283 (cZ _ _) (by kernel_rfl) (fun pr aB => by kernel_rfl) fun _ _ => h
noncomputable def jX.h : HC := aF (bd Tryz.f287) [([true, false], [0, 1, 2, 3, 8]), ([true, false, false, true, false, false, true, false], [0, 1, 2, 3, 8, 9]), ([true, false, false, true, false, false, true, false, false], [0, 1, 2, 3, 8, 9])]
def jX.Is (R : VP) : Prop := pK PP pr aB jX.h Tryz.f287 R
abbrev jX.L1 (k : Nat) (data_0 : SV) (a_1 b_2 : Int) (cmp_3 : FuncId × Array Value) (i_8 : Int) (M : Mem) : Prop := aB [false, false, true] [k] [(0, SV.v data_0), (1, .int .i64 a_1), (2, .int .i64 b_2), (3, kfV cmp_3), (8, .int .i64 i_8)] M
def jX.L1.T (k : Nat) (data_0 : SV) (a_1 b_2 : Int) (cmp_3 : FuncId × Array Value) (i_8 : Int) (R : VP) (M : Mem) : Prop := aJ pr aB R (bO PP jX.h (gR Tryz.f287) [false, false, true] [k] [(0, .sv data_0), (1, .int .i64 (.v a_1)), (2, .int .i64 (.v b_2)), (3, .kf cmp_3), (8, .int .i64 (.v i_8))] M)
theorem jX.Is.L1 {pr : Prim} {aB : fE} (H : jX.Is pr aB R) (k : Nat) (data_0 : SV) (a_1 b_2 : Int) (cmp_3 : FuncId × Array Value) (i_8 : Int) (M : Mem) : jX.L1 aB (k + 1) data_0 a_1 b_2 cmp_3 i_8 M = jX.L1.T pr aB k data_0 a_1 b_2 cmp_3 i_8 R M := (H _ _ _ _ _ rfl).trans (by kernel_rfl)
abbrev jX.L2 (k : Nat) (k' : Nat) (data_0 : SV) (a_1 b_2 : Int) (cmp_3 : FuncId × Array Value) (i_8 j_9 : Int) (M : Mem) : Prop := aB [false, false, true, false, false, true, false, false, true] [k', k] [(0, SV.v data_0), (1, .int .i64 a_1), (2, .int .i64 b_2), (3, kfV cmp_3), (8, .int .i64 i_8), (9, .int .i64 j_9)] M
def jX.L2.T (k : Nat) (k' : Nat) (data_0 : SV) (a_1 b_2 : Int) (cmp_3 : FuncId × Array Value) (i_8 j_9 : Int) (R : VP) (M : Mem) : Prop := aJ pr aB R (bO PP jX.h (gR Tryz.f287) [false, false, true, false, false, true, false, false, true] [k', k] [(0, .sv data_0), (1, .int .i64 (.v a_1)), (2, .int .i64 (.v b_2)), (3, .kf cmp_3), (8, .int .i64 (.v i_8)), (9, .int .i64 (.v j_9))] M)
theorem jX.Is.L2 {pr : Prim} {aB : fE} (H : jX.Is pr aB R) (k : Nat) (k' : Nat) (data_0 : SV) (a_1 b_2 : Int) (cmp_3 : FuncId × Array Value) (i_8 j_9 : Int) (M : Mem) : jX.L2 aB k (k' + 1) data_0 a_1 b_2 cmp_3 i_8 j_9 M = jX.L2.T pr aB k k' data_0 a_1 b_2 cmp_3 i_8 j_9 R M := (H _ _ _ _ _ rfl).trans (by kernel_rfl)
abbrev jX.J3 (k : Nat) (k' : Nat) (data_0 : SV) (a_1 b_2 : Int) (cmp_3 : FuncId × Array Value) (i_8 j_9 : Int) (M : Mem) : Prop := aB [true, false, false, true, false, false, true, false, false, true] [k', k] [(0, SV.v data_0), (1, .int .i64 a_1), (2, .int .i64 b_2), (3, kfV cmp_3), (8, .int .i64 i_8), (9, .int .i64 j_9)] M
def jX.J3.T (k : Nat) (k' : Nat) (data_0 : SV) (a_1 b_2 : Int) (cmp_3 : FuncId × Array Value) (i_8 j_9 : Int) (R : VP) (M : Mem) : Prop := aJ pr aB R (bO PP jX.h (gR Tryz.f287) [true, false, false, true, false, false, true, false, false, true] [k', k] [(0, .sv data_0), (1, .int .i64 (.v a_1)), (2, .int .i64 (.v b_2)), (3, .kf cmp_3), (8, .int .i64 (.v i_8)), (9, .int .i64 (.v j_9))] M)
theorem jX.Is.J3 {pr : Prim} {aB : fE} (H : jX.Is pr aB R) (k : Nat) (k' : Nat) (data_0 : SV) (a_1 b_2 : Int) (cmp_3 : FuncId × Array Value) (i_8 j_9 : Int) (M : Mem) : jX.J3 aB k k' data_0 a_1 b_2 cmp_3 i_8 j_9 M = jX.J3.T pr aB k k' data_0 a_1 b_2 cmp_3 i_8 j_9 R M := (H _ _ _ _ _ rfl).trans (by kernel_rfl)
def jX.T (data : SV) (a b : Int) (cmp : FuncId × Array Value) (R : VP) (M : Mem) : Prop := aJ pr aB R (gX PP jX.h [] [] (gR Tryz.f287) [(0, .sv data), (1, .int .i64 (.v a)), (2, .int .i64 (.v b)), (3, .kf cmp)] M)
theorem jX.go (data : SV) (a b : Int) (cmp : FuncId × Array Value) (h : ∀ aB, jX.Is (aH PP w0) aB R → jX.T (aH PP w0) aB data a b cmp R M) : C PP w0 Id.jX #[SV.v data, .int .i64 a, .int .i64 b, .func (.func cmp.1) #[] cmp.2] R M :=
  c8 mixed (h := jX.h) (T := fun pr aB => jX.T pr aB data a b cmp R M) Tryz.func287 (cZ _ _) (by kernel_rfl) (fun pr aB => by kernel_rfl) h
end
end HL
end Go.Proofs.YtodobkbnmjgkdaaGreat
