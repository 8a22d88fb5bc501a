import Derived.Test.YtodobkbnmjgkdaaGreatPe8
namespace Go.Proofs.YtodobkbnmjgkdaaGreat
open Go.RowKit (Below)
set_option linter.unusedVariables false
set_option maxRecDepth 100000
namespace HL
namespace W
theorem c2:iF PP 2 = true:=by kernel_rfl
@[go_sem] theorem ld2 {w0:World} {M:Mem} (a:Addr):(aJ PP w0).ld 2 a M = rd w0 M a:=aR c2 a
theorem e2:jU PP 2 (.int .i64 0) 1:=nW (by kernel_rfl) rfl
theorem c3:iF PP 3 = true:=by kernel_rfl
@[go_sem] theorem ld3 {w0:World} {M:Mem} (a:Addr):(aJ PP w0).ld 3 a M = rd w0 M a:=aR c3 a
theorem e3:jU PP 3 (.int .i64 0) 1:=nW (by kernel_rfl) rfl
theorem c4:iF PP 4 = true:=by kernel_rfl
@[go_sem] theorem ld4 {w0:World} {M:Mem} (a:Addr):(aJ PP w0).ld 4 a M = rd w0 M a:=aR c4 a
theorem e4:jU PP 4 (.bool false) 1:=nW (by kernel_rfl) rfl
theorem c25:iF PP 25 = true:=by kernel_rfl
theorem g33:gV PP 33 2 = true:=by kernel_rfl
theorem e33:jU PP 33 (.agg #[.int .i64 0,.int .i64 0]) 2:=nW (by kernel_rfl) rfl
theorem g35:gV PP 35 9 = true:=by kernel_rfl
theorem g44:gV PP 44 2 = true:=by kernel_rfl
theorem e44:jU PP 44 (.agg #[.int .i64 0,.int .i64 0]) 2:=nW (by kernel_rfl) rfl
theorem g46:gV PP 46 8 = true:=by kernel_rfl
theorem c52:iF PP 52 = true:=by kernel_rfl
theorem c53:iF PP 53 = true:=by kernel_rfl
@[go_sem] theorem aNb {w0:World} {M:Mem} (a:Addr):(aJ PP w0).ld 53 a M = rd w0 M a:=aR c53 a
theorem c59:iF PP 59 = true:=by kernel_rfl
theorem g65:gV PP 65 6 = true:=by kernel_rfl
theorem g68:gV PP 68 6 = true:=by kernel_rfl
theorem c71:iF PP 71 = true:=by kernel_rfl
theorem e71:jU PP 71 (.slice none 0 0) 1:=nW (by kernel_rfl) rfl
@[go_sem] theorem aL3 {w0:World} {X Y:Operand} (s:SV):(aJ PP w0).bq .eql 85 X Y (SV.v s) (.slice none 0 0) = some (.bool s.a.isNone):=aIs Tryz.underlying85 s
@[go_sem] theorem aM7 {w0:World} {X Y:Operand} (a:Option Addr):(aJ PP w0).bq .eql 89 X Y (.pointer a) (.pointer none) = some (.bool a.isNone):=aAJ Tryz.underlying89 a
@[go_sem] theorem aM6 {w0:World} {X Y:Operand} (a:Option Addr):(aJ PP w0).bq .neq 89 X Y (.pointer a) (.pointer none) = some (.bool (!a.isNone)):=aJH Tryz.underlying89 a
theorem aMZ:iF PP 103 = true:=by kernel_rfl
@[go_sem] theorem aM9 {w0:World} {M:Mem} (a:Addr):(aJ PP w0).ld 103 a M = rd w0 M a:=aR aMZ a
theorem aGO:gV PP 130 6 = true:=by kernel_rfl
theorem aB2:jU PP 130 (.agg #[.int .i64 0,.int .i64 0,.int .i64 0,.int .i64 0,.int .i64 0,.int .i64 0]) 6:=nW (by kernel_rfl) rfl
theorem aB1:gV PP 138 5 = true:=by kernel_rfl
theorem aML:iF PP 143 = true:=by kernel_rfl
@[go_sem] theorem aM8 {w0:World} {M:Mem} (a:Addr):(aJ PP w0).ld 143 a M = rd w0 M a:=aR aML a
theorem aMR:iF PP 146 = true:=by kernel_rfl
theorem aBV:gV PP 149 3 = true:=by kernel_rfl
theorem aM2:iF PP 150 = true:=by kernel_rfl
theorem aB0:gV PP 153 3 = true:=by kernel_rfl
theorem aHE:iF PP 157 = true:=by kernel_rfl
theorem aIL:iF PP 206 = true:=by kernel_rfl
theorem aER:iF PP 209 = true:=by kernel_rfl
theorem aMp:jU PP 213 (.agg #[.int .i64 0,.bool false,.int .i64 0,.int .i64 0,.int .i64 0]) 5:=nW (by kernel_rfl) rfl
theorem aFa:iF PP 237 = true:=by kernel_rfl
theorem aMb:gV PP 241 7 = true:=by kernel_rfl
theorem aMq:jU PP 241 (.agg #[.int .i64 0,.bool false,.int .i64 0,.int .i64 0,.int .i64 0,.int .i64 0,.int .i64 0]) 7:=nW (by kernel_rfl) rfl
theorem aJo:gV PP 251 11 = true:=by kernel_rfl
theorem aMV:jU PP 251 (.agg #[.int .i64 0,.int .i64 0,.int .i64 0,.int .i64 0,.int .i64 0,.int .i64 0,.int .i64 0,.int .i64 0,.int .i64 0,.int .i64 0,.bool false]) 11:=nW (by kernel_rfl) rfl
theorem aMu:gV PP 259 5 = true:=by kernel_rfl
theorem aMC:jU PP 259 (.agg #[.int .i64 0,.bool false,.int .i64 0,.int .i64 0,.int .i64 0]) 5:=nW (by kernel_rfl) rfl
theorem aJN:gV PP 276 2 = true:=by kernel_rfl
theorem aKy:jU PP 276 (.agg #[.int .i64 0,.int .i64 0]) 2:=nW (by kernel_rfl) rfl
@[go_sem] theorem aMW {w0:World} (x0:SV) (x1:Option Addr):(aJ PP w0).oF 145 [(0,SV.v x0),(3,.pointer x1)] = some (.agg #[SV.v x0,.int .i64 0,.slice none 0 0,.pointer x1]):=by kernel_rfl
@[go_sem] theorem aMP {w0:World}:(aJ PP w0).oF 163 [] = some (.agg #[.int .i64 0,.int .i64 0,.int .i64 0]):=by kernel_rfl
@[go_sem] theorem aMD {w0:World} (x0:Bool):(aJ PP w0).oF 251 [(1,.bool x0)] = some (.agg #[.int .i64 0,.int .i64 0,.int .i64 0,.int .i64 0,.int .i64 0,.int .i64 0,.int .i64 0,.int .i64 0,.int .i64 0,.int .i64 0,.bool x0]):=by kernel_rfl
@[go_sem] theorem aM3 {w0:World} (x0 x1:Int):(aJ PP w0).oF 44 [(0,.int .i64 x0),(1,.int .i64 x1)] = some (.agg #[.int .i64 x0,.int .i64 x1]):=by kernel_rfl
@[go_sem] theorem aMN {w0:World}:(aJ PP w0).oF 44 [] = some (.agg #[.int .i64 0,.int .i64 0]):=by kernel_rfl
end W
end HL
namespace HL
section
variable (pr:Prim) (aB:eA) (w0:World) {R:VP} {M:Mem}
noncomputable def wP.h:HC:=aK (bd Tryz.f5) [([true,true,true,true],[5,6]),([true,true,true,true,false,true,false],[1,5,6,7,8]),([true,true,true,true,false,true,false,false],[1,5,6,7,8]),([true,true,true,true,false,true,false,false,true,false,false,true],[1,5,6,7,8,9]),([true,true,true,true,false,true,false,false,true,false,false,true,true,true,true,true,false,false,true,false],[1,5,6,7,8,10,11])]
abbrev wP.J1 (d_5 m_6:Option Addr) (M:Mem):Prop:=aB [true,true,true,true,true] [] [(5,.pointer d_5),(6,.pointer m_6)] M
def wP.J1.T (d_5 m_6:Option Addr) (R:VP) (M:Mem):Prop:=aH pr aB R (bD PP wP.h (gR Tryz.f5) [true,true,true,true,true] [] [(5,.ptr (.v d_5)),(6,.ptr (.v m_6))] M)
noncomputable def aD.h:HC:=aK (bd Tryz.f8) [([true,true,true,true],[5,6]),([true,true,true,true,false,true,false],[1,5,6,7,8]),([true,true,true,true,false,true,false,false],[1,5,6,7,8]),([true,true,true,true,false,true,false,false,true,false,false],[1,5,6,7,8]),([true,true,true,true,false,true,false,false,true,false,false,false,true,false],[1,5,6,7,8,9]),([true,true,true,true,false,true,false,false,true,false,false,false,true,false,false],[1,5,6,7,8,9]),([true,true,true,true,false,true,false,false,true,false,false,true,true],[1,5,6,7,8])]
def aD.Is (R:VP):Prop:=nX PP pr aB aD.h Tryz.f8 R
abbrev aD.J1 (d_5 m_6:Option Addr) (M:Mem):Prop:=aB [true,true,true,true,true] [] [(5,.pointer d_5),(6,.pointer m_6)] M
def aD.J1.T (d_5 m_6:Option Addr) (R:VP) (M:Mem):Prop:=aH pr aB R (bD PP aD.h (gR Tryz.f8) [true,true,true,true,true] [] [(5,.ptr (.v d_5)),(6,.ptr (.v m_6))] M)
theorem aD.Is.J1 {pr:Prim} {aB:eA} (H:aD.Is pr aB R) (d_5 m_6:Option Addr) (M:Mem):aD.J1 aB d_5 m_6 M = aD.J1.T pr aB d_5 m_6 R M:=(H _ _ _ _ _ rfl).trans (by kernel_rfl)
abbrev aD.L2 (k:Nat) (rows_1:SV) (d_5 m_6:Option Addr) (told_7:SV) (i_8:Int) (M:Mem):Prop:=aB [false,false,true,false,true,true,true,true] [k] [(1,SV.v rows_1),(5,.pointer d_5),(6,.pointer m_6),(7,SV.v told_7),(8,.int .i64 i_8)] M
def aD.L2.T (k:Nat) (rows_1:SV) (d_5 m_6:Option Addr) (told_7:SV) (i_8:Int) (R:VP) (M:Mem):Prop:=aH pr aB R (bD PP aD.h (gR Tryz.f8) [false,false,true,false,true,true,true,true] [k] [(1,.sv rows_1),(5,.ptr (.v d_5)),(6,.ptr (.v m_6)),(7,.sv told_7),(8,.int .i64 (.v i_8))] M)
theorem aD.Is.L2 {pr:Prim} {aB:eA} (H:aD.Is pr aB R) (k:Nat) (rows_1:SV) (d_5 m_6:Option Addr) (told_7:SV) (i_8:Int) (M:Mem):aD.L2 aB (k + 1) rows_1 d_5 m_6 told_7 i_8 M = aD.L2.T pr aB k rows_1 d_5 m_6 told_7 i_8 R M:=(H _ _ _ _ _ rfl).trans (by kernel_rfl)
abbrev aD.J3 (k:Nat) (rows_1:SV) (d_5 m_6:Option Addr) (told_7:SV) (i_8:Int) (M:Mem):Prop:=aB [true,false,false,true,false,true,true,true,true] [k] [(1,SV.v rows_1),(5,.pointer d_5),(6,.pointer m_6),(7,SV.v told_7),(8,.int .i64 i_8)] M
def aD.J3.T (k:Nat) (rows_1:SV) (d_5 m_6:Option Addr) (told_7:SV) (i_8:Int) (R:VP) (M:Mem):Prop:=aH pr aB R (bD PP aD.h (gR Tryz.f8) [true,false,false,true,false,true,true,true,true] [k] [(1,.sv rows_1),(5,.ptr (.v d_5)),(6,.ptr (.v m_6)),(7,.sv told_7),(8,.int .i64 (.v i_8))] M)
theorem aD.Is.J3 {pr:Prim} {aB:eA} (H:aD.Is pr aB R) (k:Nat) (rows_1:SV) (d_5 m_6:Option Addr) (told_7:SV) (i_8:Int) (M:Mem):aD.J3 aB k rows_1 d_5 m_6 told_7 i_8 M = aD.J3.T pr aB k rows_1 d_5 m_6 told_7 i_8 R M:=(H _ _ _ _ _ rfl).trans (by kernel_rfl)
abbrev aD.J4 (k:Nat) (rows_1:SV) (d_5 m_6:Option Addr) (told_7:SV) (i_8:Int) (M:Mem):Prop:=aB [true,false,false,true,false,false,true,false,true,true,true,true] [k] [(1,SV.v rows_1),(5,.pointer d_5),(6,.pointer m_6),(7,SV.v told_7),(8,.int .i64 i_8)] M
def aD.J4.T (k:Nat) (rows_1:SV) (d_5 m_6:Option Addr) (told_7:SV) (i_8:Int) (R:VP) (M:Mem):Prop:=aH pr aB R (bD PP aD.h (gR Tryz.f8) [true,false,false,true,false,false,true,false,true,true,true,true] [k] [(1,.sv rows_1),(5,.ptr (.v d_5)),(6,.ptr (.v m_6)),(7,.sv told_7),(8,.int .i64 (.v i_8))] M)
theorem aD.Is.J4 {pr:Prim} {aB:eA} (H:aD.Is pr aB R) (k:Nat) (rows_1:SV) (d_5 m_6:Option Addr) (told_7:SV) (i_8:Int) (M:Mem):aD.J4 aB k rows_1 d_5 m_6 told_7 i_8 M = aD.J4.T pr aB k rows_1 d_5 m_6 told_7 i_8 R M:=(H _ _ _ _ _ rfl).trans (by kernel_rfl)
abbrev aD.L5 (k:Nat) (k':Nat) (rows_1:SV) (d_5 m_6:Option Addr) (told_7:SV) (i_8 j_9:Int) (M:Mem):Prop:=aB [false,false,true,false,false,false,true,false,false,true,false,true,true,true,true] [k',k] [(1,SV.v rows_1),(5,.pointer d_5),(6,.pointer m_6),(7,SV.v told_7),(8,.int .i64 i_8),(9,.int .i64 j_9)] M
def aD.L5.T (k:Nat) (k':Nat) (rows_1:SV) (d_5 m_6:Option Addr) (told_7:SV) (i_8 j_9:Int) (R:VP) (M:Mem):Prop:=aH pr aB R (bD PP aD.h (gR Tryz.f8) [false,false,true,false,false,false,true,false,false,true,false,true,true,true,true] [k',k] [(1,.sv rows_1),(5,.ptr (.v d_5)),(6,.ptr (.v m_6)),(7,.sv told_7),(8,.int .i64 (.v i_8)),(9,.int .i64 (.v j_9))] M)
theorem aD.Is.L5 {pr:Prim} {aB:eA} (H:aD.Is pr aB R) (k:Nat) (k':Nat) (rows_1:SV) (d_5 m_6:Option Addr) (told_7:SV) (i_8 j_9:Int) (M:Mem):aD.L5 aB k (k' + 1) rows_1 d_5 m_6 told_7 i_8 j_9 M = aD.L5.T pr aB k k' rows_1 d_5 m_6 told_7 i_8 j_9 R M:=(H _ _ _ _ _ rfl).trans (by kernel_rfl)
abbrev aD.J6 (k:Nat) (rows_1:SV) (d_5 m_6:Option Addr) (told_7:SV) (i_8:Int) (M:Mem):Prop:=aB [true,true,true,false,false,true,false,false,true,false,true,true,true,true] [k] [(1,SV.v rows_1),(5,.pointer d_5),(6,.pointer m_6),(7,SV.v told_7),(8,.int .i64 i_8)] M
def aD.J6.T (k:Nat) (rows_1:SV) (d_5 m_6:Option Addr) (told_7:SV) (i_8:Int) (R:VP) (M:Mem):Prop:=aH pr aB R (bD PP aD.h (gR Tryz.f8) [true,true,true,false,false,true,false,false,true,false,true,true,true,true] [k] [(1,.sv rows_1),(5,.ptr (.v d_5)),(6,.ptr (.v m_6)),(7,.sv told_7),(8,.int .i64 (.v i_8))] M)
theorem aD.Is.J6 {pr:Prim} {aB:eA} (H:aD.Is pr aB R) (k:Nat) (rows_1:SV) (d_5 m_6:Option Addr) (told_7:SV) (i_8:Int) (M:Mem):aD.J6 aB k rows_1 d_5 m_6 told_7 i_8 M = aD.J6.T pr aB k rows_1 d_5 m_6 told_7 i_8 R M:=(H _ _ _ _ _ rfl).trans (by kernel_rfl)
abbrev aD.J7 (k:Nat) (k':Nat) (rows_1:SV) (d_5 m_6:Option Addr) (told_7:SV) (i_8 j_9:Int) (M:Mem):Prop:=aB [true,false,false,true,false,false,false,true,false,false,true,false,true,true,true,true] [k',k] [(1,SV.v rows_1),(5,.pointer d_5),(6,.pointer m_6),(7,SV.v told_7),(8,.int .i64 i_8),(9,.int .i64 j_9)] M
def aD.J7.T (k:Nat) (k':Nat) (rows_1:SV) (d_5 m_6:Option Addr) (told_7:SV) (i_8 j_9:Int) (R:VP) (M:Mem):Prop:=aH pr aB R (bD PP aD.h (gR Tryz.f8) [true,false,false,true,false,false,false,true,false,false,true,false,true,true,true,true] [k',k] [(1,.sv rows_1),(5,.ptr (.v d_5)),(6,.ptr (.v m_6)),(7,.sv told_7),(8,.int .i64 (.v i_8)),(9,.int .i64 (.v j_9))] M)
theorem aD.Is.J7 {pr:Prim} {aB:eA} (H:aD.Is pr aB R) (k:Nat) (k':Nat) (rows_1:SV) (d_5 m_6:Option Addr) (told_7:SV) (i_8 j_9:Int) (M:Mem):aD.J7 aB k k' rows_1 d_5 m_6 told_7 i_8 j_9 M = aD.J7.T pr aB k k' rows_1 d_5 m_6 told_7 i_8 j_9 R M:=(H _ _ _ _ _ rfl).trans (by kernel_rfl)
def aD.T (k:Int) (rows:SV) (R:VP) (M:Mem):Prop:=aH pr aB R (gX PP aD.h [] [] (gR Tryz.f8) [(0,.int .i64 (.v k)),(1,.sv rows)] M)
theorem aD.go (k:Int) (rows:SV) (h:∀ aB,aD.Is (aJ PP w0) aB R→aD.T (aJ PP w0) aB k rows R M):C PP w0 Id.aD #[.int .i64 k,SV.v rows] R M :=
  cW mixed (h:=aD.h) (T:=fun pr aB=>aD.T pr aB k rows R M) Tryz.func8 (cV _ _) (by kernel_rfl) (fun pr aB=>by kernel_rfl) h
noncomputable def cT.h:HC:=aK (bd Tryz.f9) [([true],[0,1,2])]
def cT.Is (R:VP):Prop:=nX PP pr aB cT.h Tryz.f9 R
abbrev cT.J1 (n_0 lo_1 hi_2:Int) (M:Mem):Prop:=aB [true,true] [] [(0,.int .i64 n_0),(1,.int .i64 lo_1),(2,.int .i64 hi_2)] M
def cT.J1.T (n_0 lo_1 hi_2:Int) (R:VP) (M:Mem):Prop:=aH pr aB R (bD PP cT.h (gR Tryz.f9) [true,true] [] [(0,.int .i64 (.v n_0)),(1,.int .i64 (.v lo_1)),(2,.int .i64 (.v hi_2))] M)
theorem cT.Is.J1 {pr:Prim} {aB:eA} (H:cT.Is pr aB R) (n_0 lo_1 hi_2:Int) (M:Mem):cT.J1 aB n_0 lo_1 hi_2 M = cT.J1.T pr aB n_0 lo_1 hi_2 R M:=(H _ _ _ _ _ rfl).trans (by kernel_rfl)
def cT.T (n lo hi:Int) (R:VP) (M:Mem):Prop:=aH pr aB R (gX PP cT.h [] [] (gR Tryz.f9) [(0,.int .i64 (.v n)),(1,.int .i64 (.v lo)),(2,.int .i64 (.v hi))] M)
theorem cT.go (n lo hi:Int) (h:∀ aB,cT.Is (aJ PP w0) aB R→cT.T (aJ PP w0) aB n lo hi R M):C PP w0 Id.cT #[.int .i64 n,.int .i64 lo,.int .i64 hi] R M :=
  cW mixed (h:=cT.h) (T:=fun pr aB=>cT.T pr aB n lo hi R M) Tryz.func9 (cV _ _) (by kernel_rfl) (fun pr aB=>by kernel_rfl) h
noncomputable def jS.h:HC:=aK (bd Tryz.f10) [([true],[0])]
def jS.Is (R:VP):Prop:=nX PP pr aB jS.h Tryz.f10 R
abbrev jS.J1 (items_0:Int) (M:Mem):Prop:=aB [true,true] [] [(0,.int .i64 items_0)] M
def jS.J1.T (items_0:Int) (R:VP) (M:Mem):Prop:=aH pr aB R (bD PP jS.h (gR Tryz.f10) [true,true] [] [(0,.int .i64 (.v items_0))] M)
theorem jS.Is.J1 {pr:Prim} {aB:eA} (H:jS.Is pr aB R) (items_0:Int) (M:Mem):jS.J1 aB items_0 M = jS.J1.T pr aB items_0 R M:=(H _ _ _ _ _ rfl).trans (by kernel_rfl)
def jS.T (items:Int) (R:VP) (M:Mem):Prop:=aH pr aB R (gX PP jS.h [] [] (gR Tryz.f10) [(0,.int .i64 (.v items))] M)
theorem jS.go (items:Int) (h:∀ aB,jS.Is (aJ PP w0) aB R→jS.T (aJ PP w0) aB items R M):C PP w0 Id.jS #[.int .i64 items] R M :=
  cW mixed (h:=jS.h) (T:=fun pr aB=>jS.T pr aB items R M) Tryz.func10 (cV _ _) (by kernel_rfl) (fun pr aB=>by kernel_rfl) h
end
end HL
namespace HL
section
variable (pr:Prim) (aB:eA) (w0:World) {R:VP} {M:Mem}
noncomputable def iU.h:HC:=aK (bd Tryz.f14) []
def iU.T (q:Option Addr) (c_0 c_1 c_2 c_3 c_4 c_5 c_6 c_7 c_8:Int) (R:VP) (M:Mem):Prop:=aH pr (fun _ _ _ _=>False) R (gX PP iU.h [] [] (gR Tryz.f14) [(0,.ptr (.v q)),(1,.agg [.int .i64 (.v c_0),.int .i64 (.v c_1),.int .i64 (.v c_2),.int .i64 (.v c_3),.int .i64 (.v c_4),.int .i64 (.v c_5),.int .i64 (.v c_6),.int .i64 (.v c_7),.int .i64 (.v c_8)])] M)
theorem iU.go (q:Option Addr) (c_0 c_1 c_2 c_3 c_4 c_5 c_6 c_7 c_8:Int) (h:iU.T (aJ PP w0) q c_0 c_1 c_2 c_3 c_4 c_5 c_6 c_7 c_8 R M):C PP w0 Id.iU #[.pointer q,.agg #[.int .i64 c_0,.int .i64 c_1,.int .i64 c_2,.int .i64 c_3,.int .i64 c_4,.int .i64 c_5,.int .i64 c_6,.int .i64 c_7,.int .i64 c_8]] R M :=
  cW mixed (h:=iU.h) (T:=fun pr aB=>iU.T pr q c_0 c_1 c_2 c_3 c_4 c_5 c_6 c_7 c_8 R M) Tryz.func14 (cV _ _) (by kernel_rfl) (fun pr aB=>by kernel_rfl) fun _ _=>h
noncomputable def mS.h:HC:=aK (bd Tryz.f16) []
def mS.T (q:Option Addr) (R:VP) (M:Mem):Prop:=aH pr (fun _ _ _ _=>False) R (gX PP mS.h [] [] (gR Tryz.f16) [(0,.ptr (.v q))] M)
theorem mS.go (q:Option Addr) (h:mS.T (aJ PP w0) q R M):C PP w0 Id.mS #[.pointer q] R M :=
  cW mixed (h:=mS.h) (T:=fun pr aB=>mS.T pr q R M) Tryz.func16 (cV _ _) (by kernel_rfl) (fun pr aB=>by kernel_rfl) fun _ _=>h
noncomputable def fI.h:HC:=aK (bd Tryz.f19) [([true],[0,1,2])]
def fI.Is (R:VP):Prop:=nX PP pr aB fI.h Tryz.f19 R
abbrev fI.J1 (k_0 op_1 n_2:Int) (M:Mem):Prop:=aB [true,true] [] [(0,.int .i64 k_0),(1,.int .i64 op_1),(2,.int .i64 n_2)] M
def fI.J1.T (k_0 op_1 n_2:Int) (R:VP) (M:Mem):Prop:=aH pr aB R (bD PP fI.h (gR Tryz.f19) [true,true] [] [(0,.int .i64 (.v k_0)),(1,.int .i64 (.v op_1)),(2,.int .i64 (.v n_2))] M)
theorem fI.Is.J1 {pr:Prim} {aB:eA} (H:fI.Is pr aB R) (k_0 op_1 n_2:Int) (M:Mem):fI.J1 aB k_0 op_1 n_2 M = fI.J1.T pr aB k_0 op_1 n_2 R M:=(H _ _ _ _ _ rfl).trans (by kernel_rfl)
def fI.T (k op n:Int) (R:VP) (M:Mem):Prop:=aH pr aB R (gX PP fI.h [] [] (gR Tryz.f19) [(0,.int .i64 (.v k)),(1,.int .i64 (.v op)),(2,.int .i64 (.v n))] M)
theorem fI.go (k op n:Int) (h:∀ aB,fI.Is (aJ PP w0) aB R→fI.T (aJ PP w0) aB k op n R M):C PP w0 Id.fI #[.int .i64 k,.int .i64 op,.int .i64 n] R M :=
  cW mixed (h:=fI.h) (T:=fun pr aB=>fI.T pr aB k op n R M) Tryz.func19 (cV _ _) (by kernel_rfl) (fun pr aB=>by kernel_rfl) h
noncomputable def fB.h:HC:=aK (bd Tryz.f21) [([true,true],[1])]
def fB.Is (R:VP):Prop:=nX PP pr aB fB.h Tryz.f21 R
abbrev fB.J1 (q_1:Option Addr) (M:Mem):Prop:=aB [true,true,true] [] [(1,.pointer q_1)] M
def fB.J1.T (q_1:Option Addr) (R:VP) (M:Mem):Prop:=aH pr aB R (bD PP fB.h (gR Tryz.f21) [true,true,true] [] [(1,.ptr (.v q_1))] M)
theorem fB.Is.J1 {pr:Prim} {aB:eA} (H:fB.Is pr aB R) (q_1:Option Addr) (M:Mem):fB.J1 aB q_1 M = fB.J1.T pr aB q_1 R M:=(H _ _ _ _ _ rfl).trans (by kernel_rfl)
def fB.T (R:VP) (M:Mem):Prop:=aH pr aB R (gX PP fB.h [] [] (gR Tryz.f21) [] M)
theorem fB.go (h:∀ aB,fB.Is (aJ PP w0) aB R→fB.T (aJ PP w0) aB R M):C PP w0 Id.fB #[] R M :=
  cW mixed (h:=fB.h) (T:=fun pr aB=>fB.T pr aB R M) Tryz.func21 (cV _ _) (by kernel_rfl) (fun pr aB=>by kernel_rfl) h
noncomputable def fU.h:HC:=aK (bd Tryz.f22) []
def fU.T (k jobs:Int) (R:VP) (M:Mem):Prop:=aH pr (fun _ _ _ _=>False) R (gX PP fU.h [] [] (gR Tryz.f22) [(0,.int .i64 (.v k)),(1,.int .i64 (.v jobs))] M)
theorem fU.go (k jobs:Int) (h:fU.T (aJ PP w0) k jobs R M):C PP w0 Id.fU #[.int .i64 k,.int .i64 jobs] R M :=
  cW mixed (h:=fU.h) (T:=fun pr aB=>fU.T pr k jobs R M) Tryz.func22 (cV _ _) (by kernel_rfl) (fun pr aB=>by kernel_rfl) fun _ _=>h
noncomputable def xD.h:HC:=aK (bd Tryz.f23) []
def xD.T (d:Option Addr) (c_0 c_1 c_2 c_3 c_4 c_5:Int) (R:VP) (M:Mem):Prop:=aH pr (fun _ _ _ _=>False) R (gX PP xD.h [] [] (gR Tryz.f23) [(0,.ptr (.v d)),(1,.agg [.int .i64 (.v c_0),.int .i64 (.v c_1),.int .i64 (.v c_2),.int .i64 (.v c_3),.int .i64 (.v c_4),.int .i64 (.v c_5)])] M)
theorem xD.go (d:Option Addr) (c_0 c_1 c_2 c_3 c_4 c_5:Int) (h:xD.T (aJ PP w0) d c_0 c_1 c_2 c_3 c_4 c_5 R M):C PP w0 Id.xD #[.pointer d,.agg #[.int .i64 c_0,.int .i64 c_1,.int .i64 c_2,.int .i64 c_3,.int .i64 c_4,.int .i64 c_5]] R M :=
  cW mixed (h:=xD.h) (T:=fun pr aB=>xD.T pr d c_0 c_1 c_2 c_3 c_4 c_5 R M) Tryz.func23 (cV _ _) (by kernel_rfl) (fun pr aB=>by kernel_rfl) fun _ _=>h
noncomputable def wZ.h:HC:=aK (bd Tryz.f24) [([true,true,false,true,false],[0,1,5])]
def wZ.T (a b:SV) (R:VP) (M:Mem):Prop:=aH pr aB R (gX PP wZ.h [] [] (gR Tryz.f24) [(0,.sv a),(1,.sv b)] M)
noncomputable def fK.h:HC:=aK (bd Tryz.f25) [([true,false,true,false],[0,3,4,9,10]),([true,false,true,false,true,true],[0,3,4,9,27])]
def fK.Is (R:VP):Prop:=nX PP pr aB fK.h Tryz.f25 R
abbrev fK.J1 (d_0:Option Addr) (c_3:Addr) (t4:Addr) (t9:Int) (t10:Bool) (M:Mem):Prop:=aB [true,false,true,false,true] [] [(0,.pointer d_0),(3,.pointer (some c_3)),(4,.pointer (some t4)),(9,.int .i64 t9),(10,.bool t10)] M
def fK.J1.T (d_0:Option Addr) (c_3:Addr) (t4:Addr) (t9:Int) (t10:Bool) (R:VP) (M:Mem):Prop:=aH pr aB R (bD PP fK.h (gR Tryz.f25) [true,false,true,false,true] [] [(0,.ptr (.v d_0)),(3,.ptr (.a (.v c_3))),(4,.ptr (.a (.v t4))),(9,.int .i64 (.v t9)),(10,.bool (.v t10))] M)
theorem fK.Is.J1 {pr:Prim} {aB:eA} (H:fK.Is pr aB R) (d_0:Option Addr) (c_3:Addr) (t4:Addr) (t9:Int) (t10:Bool) (M:Mem):fK.J1 aB d_0 c_3 t4 t9 t10 M = fK.J1.T pr aB d_0 c_3 t4 t9 t10 R M:=(H _ _ _ _ _ rfl).trans (by kernel_rfl)
abbrev fK.J2 (d_0:Option Addr) (c_3:Addr) (t4:Addr) (t9:Int) (t27:Bool) (M:Mem):Prop:=aB [true,true,true,false,true,false,true] [] [(0,.pointer d_0),(3,.pointer (some c_3)),(4,.pointer (some t4)),(9,.int .i64 t9),(27,.bool t27)] M
def fK.J2.T (d_0:Option Addr) (c_3:Addr) (t4:Addr) (t9:Int) (t27:Bool) (R:VP) (M:Mem):Prop:=aH pr aB R (bD PP fK.h (gR Tryz.f25) [true,true,true,false,true,false,true] [] [(0,.ptr (.v d_0)),(3,.ptr (.a (.v c_3))),(4,.ptr (.a (.v t4))),(9,.int .i64 (.v t9)),(27,.bool (.v t27))] M)
theorem fK.Is.J2 {pr:Prim} {aB:eA} (H:fK.Is pr aB R) (d_0:Option Addr) (c_3:Addr) (t4:Addr) (t9:Int) (t27:Bool) (M:Mem):fK.J2 aB d_0 c_3 t4 t9 t27 M = fK.J2.T pr aB d_0 c_3 t4 t9 t27 R M:=(H _ _ _ _ _ rfl).trans (by kernel_rfl)
def fK.T (d:Option Addr) (c_0 c_1 c_2 c_3 c_4 c_5:Int) (R:VP) (M:Mem):Prop:=aH pr aB R (gX PP fK.h [] [] (gR Tryz.f25) [(0,.ptr (.v d)),(1,.agg [.int .i64 (.v c_0),.int .i64 (.v c_1),.int .i64 (.v c_2),.int .i64 (.v c_3),.int .i64 (.v c_4),.int .i64 (.v c_5)])] M)
theorem fK.go (d:Option Addr) (c_0 c_1 c_2 c_3 c_4 c_5:Int) (h:∀ aB,fK.Is (aJ PP w0) aB R→fK.T (aJ PP w0) aB d c_0 c_1 c_2 c_3 c_4 c_5 R M):C PP w0 Id.fK #[.pointer d,.agg #[.int .i64 c_0,.int .i64 c_1,.int .i64 c_2,.int .i64 c_3,.int .i64 c_4,.int .i64 c_5]] R M :=
  cW mixed (h:=fK.h) (T:=fun pr aB=>fK.T pr aB d c_0 c_1 c_2 c_3 c_4 c_5 R M) Tryz.func25 (cV _ _) (by kernel_rfl) (fun pr aB=>by kernel_rfl) h
noncomputable def sH.h:HC:=aK (bd Tryz.f26) []
def sH.T (d:Option Addr) (R:VP) (M:Mem):Prop:=aH pr (fun _ _ _ _=>False) R (gX PP sH.h [] [] (gR Tryz.f26) [(0,.ptr (.v d))] M)
theorem sH.go (d:Option Addr) (h:sH.T (aJ PP w0) d R M):C PP w0 Id.sH #[.pointer d] R M :=
  cW mixed (h:=sH.h) (T:=fun pr aB=>sH.T pr d R M) Tryz.func26 (cV _ _) (by kernel_rfl) (fun pr aB=>by kernel_rfl) fun _ _=>h
noncomputable def bH.h:HC:=aK (bd Tryz.f31) [([true,true,true,true,true,true,false,true,false],[0,8,10,38])]
def bH.Is (R:VP):Prop:=nX PP pr aB bH.h Tryz.f31 R
abbrev bH.L1 (k:Nat) (k_0:Int) (q_8 d_10:Option Addr) (t38:Int) (M:Mem):Prop:=aB [false,false,true,false,true,true,true,true,true,true] [k] [(0,.int .i64 k_0),(8,.pointer q_8),(10,.pointer d_10),(38,.int .i64 t38)] M
def bH.L1.T (k:Nat) (k_0:Int) (q_8 d_10:Option Addr) (t38:Int) (R:VP) (M:Mem):Prop:=aH pr aB R (bD PP bH.h (gR Tryz.f31) [false,false,true,false,true,true,true,true,true,true] [k] [(0,.int .i64 (.v k_0)),(8,.ptr (.v q_8)),(10,.ptr (.v d_10)),(38,.int .i64 (.v t38))] M)
theorem bH.Is.L1 {pr:Prim} {aB:eA} (H:bH.Is pr aB R) (k:Nat) (k_0:Int) (q_8 d_10:Option Addr) (t38:Int) (M:Mem):bH.L1 aB (k + 1) k_0 q_8 d_10 t38 M = bH.L1.T pr aB k k_0 q_8 d_10 t38 R M:=(H _ _ _ _ _ rfl).trans (by kernel_rfl)
def bH.T (k most:Int) (R:VP) (M:Mem):Prop:=aH pr aB R (gX PP bH.h [] [] (gR Tryz.f31) [(0,.int .i64 (.v k)),(1,.int .i64 (.v most))] M)
theorem bH.go (k most:Int) (h:∀ aB,bH.Is (aJ PP w0) aB R→bH.T (aJ PP w0) aB k most R M):C PP w0 Id.bH #[.int .i64 k,.int .i64 most] R M :=
  cW mixed (h:=bH.h) (T:=fun pr aB=>bH.T pr aB k most R M) Tryz.func31 (cV _ _) (by kernel_rfl) (fun pr aB=>by kernel_rfl) h
noncomputable def gF.h:HC:=aK (bd Tryz.f32) [([true,true,false,true,false],[0,1,5,14,15,16])]
def gF.Is (R:VP):Prop:=nX PP pr aB gF.h Tryz.f32 R
abbrev gF.L1 (k:Nat) (d_0:Option Addr) (queue_1:Int) (out_5 t14:SV) (t15 t16:Int) (M:Mem):Prop:=aB [false,false,true,false,true,true] [k] [(0,.pointer d_0),(1,.int .i64 queue_1),(5,SV.v out_5),(14,SV.v t14),(15,.int .i64 t15),(16,.int .i64 t16)] M
def gF.L1.T (k:Nat) (d_0:Option Addr) (queue_1:Int) (out_5 t14:SV) (t15 t16:Int) (R:VP) (M:Mem):Prop:=aH pr aB R (bD PP gF.h (gR Tryz.f32) [false,false,true,false,true,true] [k] [(0,.ptr (.v d_0)),(1,.int .i64 (.v queue_1)),(5,.sv out_5),(14,.sv t14),(15,.int .i64 (.v t15)),(16,.int .i64 (.v t16))] M)
theorem gF.Is.L1 {pr:Prim} {aB:eA} (H:gF.Is pr aB R) (k:Nat) (d_0:Option Addr) (queue_1:Int) (out_5 t14:SV) (t15 t16:Int) (M:Mem):gF.L1 aB (k + 1) d_0 queue_1 out_5 t14 t15 t16 M = gF.L1.T pr aB k d_0 queue_1 out_5 t14 t15 t16 R M:=(H _ _ _ _ _ rfl).trans (by kernel_rfl)
def gF.T (d:Option Addr) (queue:Int) (R:VP) (M:Mem):Prop:=aH pr aB R (gX PP gF.h [] [] (gR Tryz.f32) [(0,.ptr (.v d)),(1,.int .i64 (.v queue))] M)
theorem gF.go (d:Option Addr) (queue:Int) (h:∀ aB,gF.Is (aJ PP w0) aB R→gF.T (aJ PP w0) aB d queue R M):C PP w0 Id.gF #[.pointer d,.int .i64 queue] R M :=
  cW mixed (h:=gF.h) (T:=fun pr aB=>gF.T pr aB d queue R M) Tryz.func32 (cV _ _) (by kernel_rfl) (fun pr aB=>by kernel_rfl) h
noncomputable def dQ.h:HC:=aK (bd Tryz.f33) [([true,true,false,true,false],[0,1,5])]
def dQ.Is (R:VP):Prop:=nX PP pr aB dQ.h Tryz.f33 R
abbrev dQ.L1 (k:Nat) (a_0 b_1:SV) (i_5:Int) (M:Mem):Prop:=aB [false,false,true,false,true,true] [k] [(0,SV.v a_0),(1,SV.v b_1),(5,.int .i64 i_5)] M
def dQ.L1.T (k:Nat) (a_0 b_1:SV) (i_5:Int) (R:VP) (M:Mem):Prop:=aH pr aB R (bD PP dQ.h (gR Tryz.f33) [false,false,true,false,true,true] [k] [(0,.sv a_0),(1,.sv b_1),(5,.int .i64 (.v i_5))] M)
theorem dQ.Is.L1 {pr:Prim} {aB:eA} (H:dQ.Is pr aB R) (k:Nat) (a_0 b_1:SV) (i_5:Int) (M:Mem):dQ.L1 aB (k + 1) a_0 b_1 i_5 M = dQ.L1.T pr aB k a_0 b_1 i_5 R M:=(H _ _ _ _ _ rfl).trans (by kernel_rfl)
def dQ.T (a b:SV) (R:VP) (M:Mem):Prop:=aH pr aB R (gX PP dQ.h [] [] (gR Tryz.f33) [(0,.sv a),(1,.sv b)] M)
theorem dQ.go (a b:SV) (h:∀ aB,dQ.Is (aJ PP w0) aB R→dQ.T (aJ PP w0) aB a b R M):C PP w0 Id.dQ #[SV.v a,SV.v b] R M :=
  cW mixed (h:=dQ.h) (T:=fun pr aB=>dQ.T pr aB a b R M) Tryz.func33 (cV _ _) (by kernel_rfl) (fun pr aB=>by kernel_rfl) h
noncomputable def eR.h:HC:=aK (bd Tryz.f34) [([true,true,false,true,false],[0,1,5,6])]
def eR.Is (R:VP):Prop:=nX PP pr aB eR.h Tryz.f34 R
abbrev eR.L1 (k:Nat) (d_0:Option Addr) (queue_1:Int) (out_5:SV) (i_6:Int) (M:Mem):Prop:=aB [false,false,true,false,true,true] [k] [(0,.pointer d_0),(1,.int .i64 queue_1),(5,SV.v out_5),(6,.int .i64 i_6)] M
def eR.L1.T (k:Nat) (d_0:Option Addr) (queue_1:Int) (out_5:SV) (i_6:Int) (R:VP) (M:Mem):Prop:=aH pr aB R (bD PP eR.h (gR Tryz.f34) [false,false,true,false,true,true] [k] [(0,.ptr (.v d_0)),(1,.int .i64 (.v queue_1)),(5,.sv out_5),(6,.int .i64 (.v i_6))] M)
theorem eR.Is.L1 {pr:Prim} {aB:eA} (H:eR.Is pr aB R) (k:Nat) (d_0:Option Addr) (queue_1:Int) (out_5:SV) (i_6:Int) (M:Mem):eR.L1 aB (k + 1) d_0 queue_1 out_5 i_6 M = eR.L1.T pr aB k d_0 queue_1 out_5 i_6 R M:=(H _ _ _ _ _ rfl).trans (by kernel_rfl)
def eR.T (d:Option Addr) (queue:Int) (R:VP) (M:Mem):Prop:=aH pr aB R (gX PP eR.h [] [] (gR Tryz.f34) [(0,.ptr (.v d)),(1,.int .i64 (.v queue))] M)
theorem eR.go (d:Option Addr) (queue:Int) (h:∀ aB,eR.Is (aJ PP w0) aB R→eR.T (aJ PP w0) aB d queue R M):C PP w0 Id.eR #[.pointer d,.int .i64 queue] R M :=
  cW mixed (h:=eR.h) (T:=fun pr aB=>eR.T pr aB d queue R M) Tryz.func34 (cV _ _) (by kernel_rfl) (fun pr aB=>by kernel_rfl) h
noncomputable def kY.h:HC:=aK (bd Tryz.f35) []
def kY.T (cells:Int) (R:VP) (M:Mem):Prop:=aH pr (fun _ _ _ _=>False) R (gX PP kY.h [] [] (gR Tryz.f35) [(0,.int .i64 (.v cells))] M)
theorem kY.go (cells:Int) (h:kY.T (aJ PP w0) cells R M):C PP w0 Id.kY #[.int .i64 cells] R M :=
  cW mixed (h:=kY.h) (T:=fun pr aB=>kY.T pr cells R M) Tryz.func35 (cV _ _) (by kernel_rfl) (fun pr aB=>by kernel_rfl) fun _ _=>h
noncomputable def kV.h:HC:=aK (bd Tryz.f36) []
def kV.T (items:Int) (R:VP) (M:Mem):Prop:=aH pr (fun _ _ _ _=>False) R (gX PP kV.h [] [] (gR Tryz.f36) [(0,.int .i64 (.v items))] M)
theorem kV.go (items:Int) (h:kV.T (aJ PP w0) items R M):C PP w0 Id.kV #[.int .i64 items] R M :=
  cW mixed (h:=kV.h) (T:=fun pr aB=>kV.T pr items R M) Tryz.func36 (cV _ _) (by kernel_rfl) (fun pr aB=>by kernel_rfl) fun _ _=>h
noncomputable def rP.h:HC:=aK (bd Tryz.f37) []
def rP.T (places:Int) (R:VP) (M:Mem):Prop:=aH pr (fun _ _ _ _=>False) R (gX PP rP.h [] [] (gR Tryz.f37) [(0,.int .i64 (.v places))] M)
theorem rP.go (places:Int) (h:rP.T (aJ PP w0) places R M):C PP w0 Id.rP #[.int .i64 places] R M :=
  cW mixed (h:=rP.h) (T:=fun pr aB=>rP.T pr places R M) Tryz.func37 (cV _ _) (by kernel_rfl) (fun pr aB=>by kernel_rfl) fun _ _=>h
noncomputable def j8.h:HC:=aK (bd Tryz.f40) []
def j8.T (a:Option Addr) (R:VP) (M:Mem):Prop:=aH pr (fun _ _ _ _=>False) R (gX PP j8.h [] [] (gR Tryz.f40) [(0,.ptr (.v a))] M)
theorem j8.go (a:Option Addr) (h:j8.T (aJ PP w0) a R M):C PP w0 Id.j8 #[.pointer a] R M :=
  cW mixed (h:=j8.h) (T:=fun pr aB=>j8.T pr a R M) Tryz.func40 (cV _ _) (by kernel_rfl) (fun pr aB=>by kernel_rfl) fun _ _=>h
noncomputable def mQ.h:HC:=aK (bd Tryz.f41) []
def mQ.T (m:Option Addr) (R:VP) (M:Mem):Prop:=aH pr (fun _ _ _ _=>False) R (gX PP mQ.h [] [] (gR Tryz.f41) [(0,.ptr (.v m))] M)
theorem mQ.go (m:Option Addr) (h:mQ.T (aJ PP w0) m R M):C PP w0 Id.mQ #[.pointer m] R M :=
  cW mixed (h:=mQ.h) (T:=fun pr aB=>mQ.T pr m R M) Tryz.func41 (cV _ _) (by kernel_rfl) (fun pr aB=>by kernel_rfl) fun _ _=>h
noncomputable def pH.h:HC:=aK (bd Tryz.f42) []
def pH.T (t:Option Addr) (k:Int) (R:VP) (M:Mem):Prop:=aH pr (fun _ _ _ _=>False) R (gX PP pH.h [] [] (gR Tryz.f42) [(0,.ptr (.v t)),(1,.int .i64 (.v k))] M)
theorem pH.go (t:Option Addr) (k:Int) (h:pH.T (aJ PP w0) t k R M):C PP w0 Id.pH #[.pointer t,.int .i64 k] R M :=
  cW mixed (h:=pH.h) (T:=fun pr aB=>pH.T pr t k R M) Tryz.func42 (cV _ _) (by kernel_rfl) (fun pr aB=>by kernel_rfl) fun _ _=>h
noncomputable def lE.h:HC:=aK (bd Tryz.f43) []
def lE.T (q:Option Addr) (c_0 c_1 c_2 c_3 c_4 c_5 c_6 c_7 c_8:Int) (R:VP) (M:Mem):Prop:=aH pr (fun _ _ _ _=>False) R (gX PP lE.h [] [] (gR Tryz.f43) [(0,.ptr (.v q)),(1,.agg [.int .i64 (.v c_0),.int .i64 (.v c_1),.int .i64 (.v c_2),.int .i64 (.v c_3),.int .i64 (.v c_4),.int .i64 (.v c_5),.int .i64 (.v c_6),.int .i64 (.v c_7),.int .i64 (.v c_8)])] M)
theorem lE.go (q:Option Addr) (c_0 c_1 c_2 c_3 c_4 c_5 c_6 c_7 c_8:Int) (h:lE.T (aJ PP w0) q c_0 c_1 c_2 c_3 c_4 c_5 c_6 c_7 c_8 R M):C PP w0 Id.lE #[.pointer q,.agg #[.int .i64 c_0,.int .i64 c_1,.int .i64 c_2,.int .i64 c_3,.int .i64 c_4,.int .i64 c_5,.int .i64 c_6,.int .i64 c_7,.int .i64 c_8]] R M :=
  cW mixed (h:=lE.h) (T:=fun pr aB=>lE.T pr q c_0 c_1 c_2 c_3 c_4 c_5 c_6 c_7 c_8 R M) Tryz.func43 (cV _ _) (by kernel_rfl) (fun pr aB=>by kernel_rfl) fun _ _=>h
noncomputable def mI.h:HC:=aK (bd Tryz.f44) []
def mI.T (q:Option Addr) (h_1_0 h_1_1:Int) (out:Bool) (R:VP) (M:Mem):Prop:=aH pr (fun _ _ _ _=>False) R (gX PP mI.h [] [] (gR Tryz.f44) [(0,.ptr (.v q)),(1,.agg [.int .i64 (.v h_1_0),.int .i64 (.v h_1_1)]),(2,.bool (.v out))] M)
theorem mI.go (q:Option Addr) (h_1_0 h_1_1:Int) (out:Bool) (h:mI.T (aJ PP w0) q h_1_0 h_1_1 out R M):C PP w0 Id.mI #[.pointer q,.agg #[.int .i64 h_1_0,.int .i64 h_1_1],.bool out] R M :=
  cW mixed (h:=mI.h) (T:=fun pr aB=>mI.T pr q h_1_0 h_1_1 out R M) Tryz.func44 (cV _ _) (by kernel_rfl) (fun pr aB=>by kernel_rfl) fun _ _=>h
noncomputable def iB.h:HC:=aK (bd Tryz.f45) []
def iB.T (q:Option Addr) (c_0 c_1 c_2 c_3 c_4 c_5 c_6 c_7 c_8:Int) (R:VP) (M:Mem):Prop:=aH pr (fun _ _ _ _=>False) R (gX PP iB.h [] [] (gR Tryz.f45) [(0,.ptr (.v q)),(1,.agg [.int .i64 (.v c_0),.int .i64 (.v c_1),.int .i64 (.v c_2),.int .i64 (.v c_3),.int .i64 (.v c_4),.int .i64 (.v c_5),.int .i64 (.v c_6),.int .i64 (.v c_7),.int .i64 (.v c_8)])] M)
theorem iB.go (q:Option Addr) (c_0 c_1 c_2 c_3 c_4 c_5 c_6 c_7 c_8:Int) (h:iB.T (aJ PP w0) q c_0 c_1 c_2 c_3 c_4 c_5 c_6 c_7 c_8 R M):C PP w0 Id.iB #[.pointer q,.agg #[.int .i64 c_0,.int .i64 c_1,.int .i64 c_2,.int .i64 c_3,.int .i64 c_4,.int .i64 c_5,.int .i64 c_6,.int .i64 c_7,.int .i64 c_8]] R M :=
  cW mixed (h:=iB.h) (T:=fun pr aB=>iB.T pr q c_0 c_1 c_2 c_3 c_4 c_5 c_6 c_7 c_8 R M) Tryz.func45 (cV _ _) (by kernel_rfl) (fun pr aB=>by kernel_rfl) fun _ _=>h
noncomputable def lA.h:HC:=aK (bd Tryz.f46) []
def lA.T (q:Option Addr) (i_0 i_1:Int) (R:VP) (M:Mem):Prop:=aH pr (fun _ _ _ _=>False) R (gX PP lA.h [] [] (gR Tryz.f46) [(0,.ptr (.v q)),(1,.agg [.int .i64 (.v i_0),.int .i64 (.v i_1)])] M)
theorem lA.go (q:Option Addr) (i_0 i_1:Int) (h:lA.T (aJ PP w0) q i_0 i_1 R M):C PP w0 Id.lA #[.pointer q,.agg #[.int .i64 i_0,.int .i64 i_1]] R M :=
  cW mixed (h:=lA.h) (T:=fun pr aB=>lA.T pr q i_0 i_1 R M) Tryz.func46 (cV _ _) (by kernel_rfl) (fun pr aB=>by kernel_rfl) fun _ _=>h
noncomputable def pL.h:HC:=aK (bd Tryz.f47) []
def pL.T (q:Option Addr) (h_1_0 h_1_1 o_0 o_1:Int) (R:VP) (M:Mem):Prop:=aH pr (fun _ _ _ _=>False) R (gX PP pL.h [] [] (gR Tryz.f47) [(0,.ptr (.v q)),(1,.agg [.int .i64 (.v h_1_0),.int .i64 (.v h_1_1)]),(2,.agg [.int .i64 (.v o_0),.int .i64 (.v o_1)])] M)
theorem pL.go (q:Option Addr) (h_1_0 h_1_1 o_0 o_1:Int) (h:pL.T (aJ PP w0) q h_1_0 h_1_1 o_0 o_1 R M):C PP w0 Id.pL #[.pointer q,.agg #[.int .i64 h_1_0,.int .i64 h_1_1],.agg #[.int .i64 o_0,.int .i64 o_1]] R M :=
  cW mixed (h:=pL.h) (T:=fun pr aB=>pL.T pr q h_1_0 h_1_1 o_0 o_1 R M) Tryz.func47 (cV _ _) (by kernel_rfl) (fun pr aB=>by kernel_rfl) fun _ _=>h
noncomputable def pJ.h:HC:=aK (bd Tryz.f48) []
def pJ.T (t:Option Addr) (h_1_0 h_1_1:Int) (R:VP) (M:Mem):Prop:=aH pr (fun _ _ _ _=>False) R (gX PP pJ.h [] [] (gR Tryz.f48) [(0,.ptr (.v t)),(1,.agg [.int .i64 (.v h_1_0),.int .i64 (.v h_1_1)])] M)
theorem pJ.go (t:Option Addr) (h_1_0 h_1_1:Int) (h:pJ.T (aJ PP w0) t h_1_0 h_1_1 R M):C PP w0 Id.pJ #[.pointer t,.agg #[.int .i64 h_1_0,.int .i64 h_1_1]] R M :=
  cW mixed (h:=pJ.h) (T:=fun pr aB=>pJ.T pr t h_1_0 h_1_1 R M) Tryz.func48 (cV _ _) (by kernel_rfl) (fun pr aB=>by kernel_rfl) fun _ _=>h
noncomputable def jC.h:HC:=aK (bd Tryz.f50) []
def jC.T (why:Int) (R:VP) (M:Mem):Prop:=aH pr (fun _ _ _ _=>False) R (gX PP jC.h [] [] (gR Tryz.f50) [(0,.int .i64 (.v why))] M)
theorem jC.go (why:Int) (h:jC.T (aJ PP w0) why R M):C PP w0 Id.jC #[.int .i64 why] R M :=
  cW mixed (h:=jC.h) (T:=fun pr aB=>jC.T pr why R M) Tryz.func50 (cV _ _) (by kernel_rfl) (fun pr aB=>by kernel_rfl) fun _ _=>h
noncomputable def gD.h:HC:=aK (bd Tryz.f51) [([true,true],[0,1,4,6])]
def gD.Is (R:VP):Prop:=nX PP pr aB gD.h Tryz.f51 R
abbrev gD.J1 (p_0:Option Addr) (v_1:Int) (t4:Addr) (at_6:Int) (M:Mem):Prop:=aB [true,true,true] [] [(0,.pointer p_0),(1,.int .i64 v_1),(4,.pointer (some t4)),(6,.int .i64 at_6)] M
def gD.J1.T (p_0:Option Addr) (v_1:Int) (t4:Addr) (at_6:Int) (R:VP) (M:Mem):Prop:=aH pr aB R (bD PP gD.h (gR Tryz.f51) [true,true,true] [] [(0,.ptr (.v p_0)),(1,.int .i64 (.v v_1)),(4,.ptr (.a (.v t4))),(6,.int .i64 (.v at_6))] M)
theorem gD.Is.J1 {pr:Prim} {aB:eA} (H:gD.Is pr aB R) (p_0:Option Addr) (v_1:Int) (t4:Addr) (at_6:Int) (M:Mem):gD.J1 aB p_0 v_1 t4 at_6 M = gD.J1.T pr aB p_0 v_1 t4 at_6 R M:=(H _ _ _ _ _ rfl).trans (by kernel_rfl)
def gD.T (p:Option Addr) (v:Int) (R:VP) (M:Mem):Prop:=aH pr aB R (gX PP gD.h [] [] (gR Tryz.f51) [(0,.ptr (.v p)),(1,.int .i64 (.v v))] M)
theorem gD.go (p:Option Addr) (v:Int) (h:∀ aB,gD.Is (aJ PP w0) aB R→gD.T (aJ PP w0) aB p v R M):C PP w0 Id.gD #[.pointer p,.int .i64 v] R M :=
  cW mixed (h:=gD.h) (T:=fun pr aB=>gD.T pr aB p v R M) Tryz.func51 (cV _ _) (by kernel_rfl) (fun pr aB=>by kernel_rfl) h
noncomputable def lR.h:HC:=aK (bd Tryz.f54) []
def lR.T (m:Option Addr) (R:VP) (M:Mem):Prop:=aH pr (fun _ _ _ _=>False) R (gX PP lR.h [] [] (gR Tryz.f54) [(0,.ptr (.v m))] M)
theorem lR.go (m:Option Addr) (h:lR.T (aJ PP w0) m R M):C PP w0 Id.lR #[.pointer m] R M :=
  cW mixed (h:=lR.h) (T:=fun pr aB=>lR.T pr m R M) Tryz.func54 (cV _ _) (by kernel_rfl) (fun pr aB=>by kernel_rfl) fun _ _=>h
noncomputable def kS.h:HC:=aK (bd Tryz.f55) []
def kS.T (a b:Int) (R:VP) (M:Mem):Prop:=aH pr (fun _ _ _ _=>False) R (gX PP kS.h [] [] (gR Tryz.f55) [(0,.int .i64 (.v a)),(1,.int .i64 (.v b))] M)
theorem kS.go (a b:Int) (h:kS.T (aJ PP w0) a b R M):C PP w0 Id.kS #[.int .i64 a,.int .i64 b] R M :=
  cW mixed (h:=kS.h) (T:=fun pr aB=>kS.T pr a b R M) Tryz.func55 (cV _ _) (by kernel_rfl) (fun pr aB=>by kernel_rfl) fun _ _=>h
end
end HL
namespace HL
section
variable (pr:Prim) (aB:eA) (w0:World) {R:VP} {M:Mem}
noncomputable def nS.h:HC:=aK (bd Tryz.f57) []
def nS.T (m:Option Addr) (R:VP) (M:Mem):Prop:=aH pr (fun _ _ _ _=>False) R (gX PP nS.h [] [] (gR Tryz.f57) [(0,.ptr (.v m))] M)
theorem nS.go (m:Option Addr) (h:nS.T (aJ PP w0) m R M):C PP w0 Id.nS #[.pointer m] R M :=
  cW mixed (h:=nS.h) (T:=fun pr aB=>nS.T pr m R M) Tryz.func57 (cV _ _) (by kernel_rfl) (fun pr aB=>by kernel_rfl) fun _ _=>h
noncomputable def jD.h:HC:=aK (bd Tryz.f58) []
def jD.T (k:Int) (R:VP) (M:Mem):Prop:=aH pr (fun _ _ _ _=>False) R (gX PP jD.h [] [] (gR Tryz.f58) [(0,.int .i64 (.v k))] M)
theorem jD.go (k:Int) (h:jD.T (aJ PP w0) k R M):C PP w0 Id.jD #[.int .i64 k] R M :=
  cW mixed (h:=jD.h) (T:=fun pr aB=>jD.T pr k R M) Tryz.func58 (cV _ _) (by kernel_rfl) (fun pr aB=>by kernel_rfl) fun _ _=>h
noncomputable def jK.h:HC:=aK (bd Tryz.f60) []
def jK.T (k:Int) (R:VP) (M:Mem):Prop:=aH pr (fun _ _ _ _=>False) R (gX PP jK.h [] [] (gR Tryz.f60) [(0,.int .i64 (.v k))] M)
theorem jK.go (k:Int) (h:jK.T (aJ PP w0) k R M):C PP w0 Id.jK #[.int .i64 k] R M :=
  cW mixed (h:=jK.h) (T:=fun pr aB=>jK.T pr k R M) Tryz.func60 (cV _ _) (by kernel_rfl) (fun pr aB=>by kernel_rfl) fun _ _=>h
noncomputable def mR.h:HC:=aK (bd Tryz.f62) []
def mR.T (t:Option Addr) (R:VP) (M:Mem):Prop:=aH pr (fun _ _ _ _=>False) R (gX PP mR.h [] [] (gR Tryz.f62) [(0,.ptr (.v t))] M)
theorem mR.go (t:Option Addr) (h:mR.T (aJ PP w0) t R M):C PP w0 Id.mR #[.pointer t] R M :=
  cW mixed (h:=mR.h) (T:=fun pr aB=>mR.T pr t R M) Tryz.func62 (cV _ _) (by kernel_rfl) (fun pr aB=>by kernel_rfl) fun _ _=>h
noncomputable def qS.h:HC:=aK (bd Tryz.f63) []
def qS.T (jobs:Int) (R:VP) (M:Mem):Prop:=aH pr (fun _ _ _ _=>False) R (gX PP qS.h [] [] (gR Tryz.f63) [(0,.int .i64 (.v jobs))] M)
theorem qS.go (jobs:Int) (h:qS.T (aJ PP w0) jobs R M):C PP w0 Id.qS #[.int .i64 jobs] R M :=
  cW mixed (h:=qS.h) (T:=fun pr aB=>qS.T pr jobs R M) Tryz.func63 (cV _ _) (by kernel_rfl) (fun pr aB=>by kernel_rfl) fun _ _=>h
noncomputable def fQ.h:HC:=aK (bd Tryz.f64) [([true],[0,3,4,5]),([true,true],[0,3,4])]
def fQ.Is (R:VP):Prop:=nX PP pr aB fQ.h Tryz.f64 R
abbrev fQ.J1 (d_0:Option Addr) (c_3:Addr) (t4:Addr) (right_5:Bool) (M:Mem):Prop:=aB [true,true] [] [(0,.pointer d_0),(3,.pointer (some c_3)),(4,.pointer (some t4)),(5,.bool right_5)] M
def fQ.J1.T (d_0:Option Addr) (c_3:Addr) (t4:Addr) (right_5:Bool) (R:VP) (M:Mem):Prop:=aH pr aB R (bD PP fQ.h (gR Tryz.f64) [true,true] [] [(0,.ptr (.v d_0)),(3,.ptr (.a (.v c_3))),(4,.ptr (.a (.v t4))),(5,.bool (.v right_5))] M)
theorem fQ.Is.J1 {pr:Prim} {aB:eA} (H:fQ.Is pr aB R) (d_0:Option Addr) (c_3:Addr) (t4:Addr) (right_5:Bool) (M:Mem):fQ.J1 aB d_0 c_3 t4 right_5 M = fQ.J1.T pr aB d_0 c_3 t4 right_5 R M:=(H _ _ _ _ _ rfl).trans (by kernel_rfl)
abbrev fQ.J2 (d_0:Option Addr) (c_3:Addr) (t4:Addr) (M:Mem):Prop:=aB [true,true,true] [] [(0,.pointer d_0),(3,.pointer (some c_3)),(4,.pointer (some t4))] M
def fQ.J2.T (d_0:Option Addr) (c_3:Addr) (t4:Addr) (R:VP) (M:Mem):Prop:=aH pr aB R (bD PP fQ.h (gR Tryz.f64) [true,true,true] [] [(0,.ptr (.v d_0)),(3,.ptr (.a (.v c_3))),(4,.ptr (.a (.v t4)))] M)
theorem fQ.Is.J2 {pr:Prim} {aB:eA} (H:fQ.Is pr aB R) (d_0:Option Addr) (c_3:Addr) (t4:Addr) (M:Mem):fQ.J2 aB d_0 c_3 t4 M = fQ.J2.T pr aB d_0 c_3 t4 R M:=(H _ _ _ _ _ rfl).trans (by kernel_rfl)
def fQ.T (d:Option Addr) (c_0 c_1 c_2 c_3 c_4 c_5:Int) (R:VP) (M:Mem):Prop:=aH pr aB R (gX PP fQ.h [] [] (gR Tryz.f64) [(0,.ptr (.v d)),(1,.agg [.int .i64 (.v c_0),.int .i64 (.v c_1),.int .i64 (.v c_2),.int .i64 (.v c_3),.int .i64 (.v c_4),.int .i64 (.v c_5)])] M)
theorem fQ.go (d:Option Addr) (c_0 c_1 c_2 c_3 c_4 c_5:Int) (h:∀ aB,fQ.Is (aJ PP w0) aB R→fQ.T (aJ PP w0) aB d c_0 c_1 c_2 c_3 c_4 c_5 R M):C PP w0 Id.fQ #[.pointer d,.agg #[.int .i64 c_0,.int .i64 c_1,.int .i64 c_2,.int .i64 c_3,.int .i64 c_4,.int .i64 c_5]] R M :=
  cW mixed (h:=fQ.h) (T:=fun pr aB=>fQ.T pr aB d c_0 c_1 c_2 c_3 c_4 c_5 R M) Tryz.func64 (cV _ _) (by kernel_rfl) (fun pr aB=>by kernel_rfl) h
noncomputable def cG.h:HC:=aK (bd Tryz.f65) []
def cG.T (why:Int) (R:VP) (M:Mem):Prop:=aH pr (fun _ _ _ _=>False) R (gX PP cG.h [] [] (gR Tryz.f65) [(0,.int .i64 (.v why))] M)
theorem cG.go (why:Int) (h:cG.T (aJ PP w0) why R M):C PP w0 Id.cG #[.int .i64 why] R M :=
  cW mixed (h:=cG.h) (T:=fun pr aB=>cG.T pr why R M) Tryz.func65 (cV _ _) (by kernel_rfl) (fun pr aB=>by kernel_rfl) fun _ _=>h
noncomputable def bV.h:HC:=aK (bd Tryz.f66) [([true,false,true,false,true,true,true,false,true],[0,4,7]),([true,false,true,false,true,true,true,true,true,false,true,true,false,true,false],[0,4,9,10])]
def bV.Is (R:VP):Prop:=nX PP pr aB bV.h Tryz.f66 R
abbrev bV.J1 (d_0:Option Addr) (t4:Addr) (k_7:Int) (M:Mem):Prop:=aB [true,true,false,true,true,true,false,true,false,true] [] [(0,.pointer d_0),(4,.pointer (some t4)),(7,.int .i64 k_7)] M
def bV.J1.T (d_0:Option Addr) (t4:Addr) (k_7:Int) (R:VP) (M:Mem):Prop:=aH pr aB R (bD PP bV.h (gR Tryz.f66) [true,true,false,true,true,true,false,true,false,true] [] [(0,.ptr (.v d_0)),(4,.ptr (.a (.v t4))),(7,.int .i64 (.v k_7))] M)
theorem bV.Is.J1 {pr:Prim} {aB:eA} (H:bV.Is pr aB R) (d_0:Option Addr) (t4:Addr) (k_7:Int) (M:Mem):bV.J1 aB d_0 t4 k_7 M = bV.J1.T pr aB d_0 t4 k_7 R M:=(H _ _ _ _ _ rfl).trans (by kernel_rfl)
abbrev bV.L2 (k:Nat) (d_0:Option Addr) (t4:Addr) (n_9 i_10:Int) (M:Mem):Prop:=aB [false,false,true,false,true,true,false,true,true,true,true,true,false,true,false,true] [k] [(0,.pointer d_0),(4,.pointer (some t4)),(9,.int .i64 n_9),(10,.int .i64 i_10)] M
def bV.L2.T (k:Nat) (d_0:Option Addr) (t4:Addr) (n_9 i_10:Int) (R:VP) (M:Mem):Prop:=aH pr aB R (bD PP bV.h (gR Tryz.f66) [false,false,true,false,true,true,false,true,true,true,true,true,false,true,false,true] [k] [(0,.ptr (.v d_0)),(4,.ptr (.a (.v t4))),(9,.int .i64 (.v n_9)),(10,.int .i64 (.v i_10))] M)
theorem bV.Is.L2 {pr:Prim} {aB:eA} (H:bV.Is pr aB R) (k:Nat) (d_0:Option Addr) (t4:Addr) (n_9 i_10:Int) (M:Mem):bV.L2 aB (k + 1) d_0 t4 n_9 i_10 M = bV.L2.T pr aB k d_0 t4 n_9 i_10 R M:=(H _ _ _ _ _ rfl).trans (by kernel_rfl)
def bV.T (d:Option Addr) (c_0 c_1 c_2 c_3 c_4 c_5:Int) (R:VP) (M:Mem):Prop:=aH pr aB R (gX PP bV.h [] [] (gR Tryz.f66) [(0,.ptr (.v d)),(1,.agg [.int .i64 (.v c_0),.int .i64 (.v c_1),.int .i64 (.v c_2),.int .i64 (.v c_3),.int .i64 (.v c_4),.int .i64 (.v c_5)])] M)
theorem bV.go (d:Option Addr) (c_0 c_1 c_2 c_3 c_4 c_5:Int) (h:∀ aB,bV.Is (aJ PP w0) aB R→bV.T (aJ PP w0) aB d c_0 c_1 c_2 c_3 c_4 c_5 R M):C PP w0 Id.bV #[.pointer d,.agg #[.int .i64 c_0,.int .i64 c_1,.int .i64 c_2,.int .i64 c_3,.int .i64 c_4,.int .i64 c_5]] R M :=
  cW mixed (h:=bV.h) (T:=fun pr aB=>bV.T pr aB d c_0 c_1 c_2 c_3 c_4 c_5 R M) Tryz.func66 (cV _ _) (by kernel_rfl) (fun pr aB=>by kernel_rfl) h
noncomputable def gL.h:HC:=aK (bd Tryz.f67) [([true],[0,3])]
def gL.Is (R:VP):Prop:=nX PP pr aB gL.h Tryz.f67 R
abbrev gL.J1 (p_0:Option Addr) (r_3:Addr) (M:Mem):Prop:=aB [true,true] [] [(0,.pointer p_0),(3,.pointer (some r_3))] M
def gL.J1.T (p_0:Option Addr) (r_3:Addr) (R:VP) (M:Mem):Prop:=aH pr aB R (bD PP gL.h (gR Tryz.f67) [true,true] [] [(0,.ptr (.v p_0)),(3,.ptr (.a (.v r_3)))] M)
theorem gL.Is.J1 {pr:Prim} {aB:eA} (H:gL.Is pr aB R) (p_0:Option Addr) (r_3:Addr) (M:Mem):gL.J1 aB p_0 r_3 M = gL.J1.T pr aB p_0 r_3 R M:=(H _ _ _ _ _ rfl).trans (by kernel_rfl)
def gL.T (p:Option Addr) (r_0 r_1:Int) (R:VP) (M:Mem):Prop:=aH pr aB R (gX PP gL.h [] [] (gR Tryz.f67) [(0,.ptr (.v p)),(1,.agg [.int .i64 (.v r_0),.int .i64 (.v r_1)])] M)
theorem gL.go (p:Option Addr) (r_0 r_1:Int) (h:∀ aB,gL.Is (aJ PP w0) aB R→gL.T (aJ PP w0) aB p r_0 r_1 R M):C PP w0 Id.gL #[.pointer p,.agg #[.int .i64 r_0,.int .i64 r_1]] R M :=
  cW mixed (h:=gL.h) (T:=fun pr aB=>gL.T pr aB p r_0 r_1 R M) Tryz.func67 (cV _ _) (by kernel_rfl) (fun pr aB=>by kernel_rfl) h
noncomputable def jM.h:HC:=aK (bd Tryz.f68) [([true,false,true,false],[0,3,5])]
def jM.Is (R:VP):Prop:=nX PP pr aB jM.h Tryz.f68 R
abbrev jM.L1 (k:Nat) (d_0:Option Addr) (r_3:Addr) (i_5:Int) (M:Mem):Prop:=aB [false,false,true,false,true] [k] [(0,.pointer d_0),(3,.pointer (some r_3)),(5,.int .i64 i_5)] M
def jM.L1.T (k:Nat) (d_0:Option Addr) (r_3:Addr) (i_5:Int) (R:VP) (M:Mem):Prop:=aH pr aB R (bD PP jM.h (gR Tryz.f68) [false,false,true,false,true] [k] [(0,.ptr (.v d_0)),(3,.ptr (.a (.v r_3))),(5,.int .i64 (.v i_5))] M)
theorem jM.Is.L1 {pr:Prim} {aB:eA} (H:jM.Is pr aB R) (k:Nat) (d_0:Option Addr) (r_3:Addr) (i_5:Int) (M:Mem):jM.L1 aB (k + 1) d_0 r_3 i_5 M = jM.L1.T pr aB k d_0 r_3 i_5 R M:=(H _ _ _ _ _ rfl).trans (by kernel_rfl)
def jM.T (d:Option Addr) (r_0 r_1:Int) (R:VP) (M:Mem):Prop:=aH pr aB R (gX PP jM.h [] [] (gR Tryz.f68) [(0,.ptr (.v d)),(1,.agg [.int .i64 (.v r_0),.int .i64 (.v r_1)])] M)
theorem jM.go (d:Option Addr) (r_0 r_1:Int) (h:∀ aB,jM.Is (aJ PP w0) aB R→jM.T (aJ PP w0) aB d r_0 r_1 R M):C PP w0 Id.jM #[.pointer d,.agg #[.int .i64 r_0,.int .i64 r_1]] R M :=
  cW mixed (h:=jM.h) (T:=fun pr aB=>jM.T pr aB d r_0 r_1 R M) Tryz.func68 (cV _ _) (by kernel_rfl) (fun pr aB=>by kernel_rfl) h
noncomputable def oZ.h:HC:=aK (bd Tryz.f69) []
def oZ.T (d:Option Addr) (k:Int) (R:VP) (M:Mem):Prop:=aH pr (fun _ _ _ _=>False) R (gX PP oZ.h [] [] (gR Tryz.f69) [(0,.ptr (.v d)),(1,.int .i64 (.v k))] M)
theorem oZ.go (d:Option Addr) (k:Int) (h:oZ.T (aJ PP w0) d k R M):C PP w0 Id.oZ #[.pointer d,.int .i64 k] R M :=
  cW mixed (h:=oZ.h) (T:=fun pr aB=>oZ.T pr d k R M) Tryz.func69 (cV _ _) (by kernel_rfl) (fun pr aB=>by kernel_rfl) fun _ _=>h
noncomputable def jL.h:HC:=aK (bd Tryz.f70) [([true],[0,1])]
def jL.Is (R:VP):Prop:=nX PP pr aB jL.h Tryz.f70 R
abbrev jL.J1 (a_0 b_1:Int) (M:Mem):Prop:=aB [true,true] [] [(0,.int .i64 a_0),(1,.int .i64 b_1)] M
def jL.J1.T (a_0 b_1:Int) (R:VP) (M:Mem):Prop:=aH pr aB R (bD PP jL.h (gR Tryz.f70) [true,true] [] [(0,.int .i64 (.v a_0)),(1,.int .i64 (.v b_1))] M)
theorem jL.Is.J1 {pr:Prim} {aB:eA} (H:jL.Is pr aB R) (a_0 b_1:Int) (M:Mem):jL.J1 aB a_0 b_1 M = jL.J1.T pr aB a_0 b_1 R M:=(H _ _ _ _ _ rfl).trans (by kernel_rfl)
def jL.T (a b:Int) (R:VP) (M:Mem):Prop:=aH pr aB R (gX PP jL.h [] [] (gR Tryz.f70) [(0,.int .i64 (.v a)),(1,.int .i64 (.v b))] M)
theorem jL.go (a b:Int) (h:∀ aB,jL.Is (aJ PP w0) aB R→jL.T (aJ PP w0) aB a b R M):C PP w0 Id.jL #[.int .i64 a,.int .i64 b] R M :=
  cW mixed (h:=jL.h) (T:=fun pr aB=>jL.T pr aB a b R M) Tryz.func70 (cV _ _) (by kernel_rfl) (fun pr aB=>by kernel_rfl) h
noncomputable def rT.h:HC:=aK (bd Tryz.f71) []
def rT.T (t:Option Addr) (R:VP) (M:Mem):Prop:=aH pr (fun _ _ _ _=>False) R (gX PP rT.h [] [] (gR Tryz.f71) [(0,.ptr (.v t))] M)
theorem rT.go (t:Option Addr) (h:rT.T (aJ PP w0) t R M):C PP w0 Id.rT #[.pointer t] R M :=
  cW mixed (h:=rT.h) (T:=fun pr aB=>rT.T pr t R M) Tryz.func71 (cV _ _) (by kernel_rfl) (fun pr aB=>by kernel_rfl) fun _ _=>h
noncomputable def gP.h:HC:=aK (bd Tryz.f72) []
def gP.T (k items:Int) (R:VP) (M:Mem):Prop:=aH pr (fun _ _ _ _=>False) R (gX PP gP.h [] [] (gR Tryz.f72) [(0,.int .i64 (.v k)),(1,.int .i64 (.v items))] M)
theorem gP.go (k items:Int) (h:gP.T (aJ PP w0) k items R M):C PP w0 Id.gP #[.int .i64 k,.int .i64 items] R M :=
  cW mixed (h:=gP.h) (T:=fun pr aB=>gP.T pr k items R M) Tryz.func72 (cV _ _) (by kernel_rfl) (fun pr aB=>by kernel_rfl) fun _ _=>h
noncomputable def mP.h:HC:=aK (bd Tryz.f73) []
def mP.T (jobs:Int) (R:VP) (M:Mem):Prop:=aH pr (fun _ _ _ _=>False) R (gX PP mP.h [] [] (gR Tryz.f73) [(0,.int .i64 (.v jobs))] M)
theorem mP.go (jobs:Int) (h:mP.T (aJ PP w0) jobs R M):C PP w0 Id.mP #[.int .i64 jobs] R M :=
  cW mixed (h:=mP.h) (T:=fun pr aB=>mP.T pr jobs R M) Tryz.func73 (cV _ _) (by kernel_rfl) (fun pr aB=>by kernel_rfl) fun _ _=>h
noncomputable def kH.h:HC:=aK (bd Tryz.f74) []
def kH.T (R:VP) (M:Mem):Prop:=aH pr (fun _ _ _ _=>False) R (gX PP kH.h [] [] (gR Tryz.f74) [] M)
theorem kH.go (h:kH.T (aJ PP w0) R M):C PP w0 Id.kH #[] R M :=
  cW mixed (h:=kH.h) (T:=fun pr aB=>kH.T pr R M) Tryz.func74 (cV _ _) (by kernel_rfl) (fun pr aB=>by kernel_rfl) fun _ _=>h
noncomputable def rY.h:HC:=aK (bd Tryz.f75) []
def rY.T (t:Option Addr) (R:VP) (M:Mem):Prop:=aH pr (fun _ _ _ _=>False) R (gX PP rY.h [] [] (gR Tryz.f75) [(0,.ptr (.v t))] M)
theorem rY.go (t:Option Addr) (h:rY.T (aJ PP w0) t R M):C PP w0 Id.rY #[.pointer t] R M :=
  cW mixed (h:=rY.h) (T:=fun pr aB=>rY.T pr t R M) Tryz.func75 (cV _ _) (by kernel_rfl) (fun pr aB=>by kernel_rfl) fun _ _=>h
noncomputable def pB.h:HC:=aK (bd Tryz.f76) []
def pB.T (t:Option Addr) (r_0 r_1:Int) (R:VP) (M:Mem):Prop:=aH pr (fun _ _ _ _=>False) R (gX PP pB.h [] [] (gR Tryz.f76) [(0,.ptr (.v t)),(1,.agg [.int .i64 (.v r_0),.int .i64 (.v r_1)])] M)
theorem pB.go (t:Option Addr) (r_0 r_1:Int) (h:pB.T (aJ PP w0) t r_0 r_1 R M):C PP w0 Id.pB #[.pointer t,.agg #[.int .i64 r_0,.int .i64 r_1]] R M :=
  cW mixed (h:=pB.h) (T:=fun pr aB=>pB.T pr t r_0 r_1 R M) Tryz.func76 (cV _ _) (by kernel_rfl) (fun pr aB=>by kernel_rfl) fun _ _=>h
noncomputable def gQ.h:HC:=aK (bd Tryz.f77) []
def gQ.T (l:SV) (R:VP) (M:Mem):Prop:=aH pr (fun _ _ _ _=>False) R (gX PP gQ.h [] [] (gR Tryz.f77) [(0,.sv l)] M)
theorem gQ.go (l:SV) (h:gQ.T (aJ PP w0) l R M):C PP w0 Id.gQ #[SV.v l] R M :=
  cW mixed (h:=gQ.h) (T:=fun pr aB=>gQ.T pr l R M) Tryz.func77 (cV _ _) (by kernel_rfl) (fun pr aB=>by kernel_rfl) fun _ _=>h
noncomputable def cC.h:HC:=aK (bd Tryz.f78) [([true,true,false,true,false],[0,3,4]),([true,true,false,true,false,false,true,false,false,true],[0,3,4,5]),([true,true,false,true,false,false,true,false,false,true,false,false],[0,3,4,5])]
def cC.Is (R:VP):Prop:=nX PP pr aB cC.h Tryz.f78 R
abbrev cC.L1 (k:Nat) (l_0 out_3:SV) (i_4:Int) (M:Mem):Prop:=aB [false,false,true,false,true,true] [k] [(0,SV.v l_0),(3,SV.v out_3),(4,.int .i64 i_4)] M
def cC.L1.T (k:Nat) (l_0 out_3:SV) (i_4:Int) (R:VP) (M:Mem):Prop:=aH pr aB R (bD PP cC.h (gR Tryz.f78) [false,false,true,false,true,true] [k] [(0,.sv l_0),(3,.sv out_3),(4,.int .i64 (.v i_4))] M)
theorem cC.Is.L1 {pr:Prim} {aB:eA} (H:cC.Is pr aB R) (k:Nat) (l_0 out_3:SV) (i_4:Int) (M:Mem):cC.L1 aB (k + 1) l_0 out_3 i_4 M = cC.L1.T pr aB k l_0 out_3 i_4 R M:=(H _ _ _ _ _ rfl).trans (by kernel_rfl)
abbrev cC.J2 (k:Nat) (l_0 out_3:SV) (i_4 k_5:Int) (M:Mem):Prop:=aB [true,true,false,false,true,false,false,true,false,true,true] [k] [(0,SV.v l_0),(3,SV.v out_3),(4,.int .i64 i_4),(5,.int .i64 k_5)] M
def cC.J2.T (k:Nat) (l_0 out_3:SV) (i_4 k_5:Int) (R:VP) (M:Mem):Prop:=aH pr aB R (bD PP cC.h (gR Tryz.f78) [true,true,false,false,true,false,false,true,false,true,true] [k] [(0,.sv l_0),(3,.sv out_3),(4,.int .i64 (.v i_4)),(5,.int .i64 (.v k_5))] M)
theorem cC.Is.J2 {pr:Prim} {aB:eA} (H:cC.Is pr aB R) (k:Nat) (l_0 out_3:SV) (i_4 k_5:Int) (M:Mem):cC.J2 aB k l_0 out_3 i_4 k_5 M = cC.J2.T pr aB k l_0 out_3 i_4 k_5 R M:=(H _ _ _ _ _ rfl).trans (by kernel_rfl)
abbrev cC.L3 (k:Nat) (k':Nat) (l_0 out_3:SV) (i_4 k_5:Int) (M:Mem):Prop:=aB [false,false,false,true,false,false,true,false,false,true,false,true,true] [k',k] [(0,SV.v l_0),(3,SV.v out_3),(4,.int .i64 i_4),(5,.int .i64 k_5)] M
def cC.L3.T (k:Nat) (k':Nat) (l_0 out_3:SV) (i_4 k_5:Int) (R:VP) (M:Mem):Prop:=aH pr aB R (bD PP cC.h (gR Tryz.f78) [false,false,false,true,false,false,true,false,false,true,false,true,true] [k',k] [(0,.sv l_0),(3,.sv out_3),(4,.int .i64 (.v i_4)),(5,.int .i64 (.v k_5))] M)
theorem cC.Is.L3 {pr:Prim} {aB:eA} (H:cC.Is pr aB R) (k:Nat) (k':Nat) (l_0 out_3:SV) (i_4 k_5:Int) (M:Mem):cC.L3 aB k (k' + 1) l_0 out_3 i_4 k_5 M = cC.L3.T pr aB k k' l_0 out_3 i_4 k_5 R M:=(H _ _ _ _ _ rfl).trans (by kernel_rfl)
def cC.T (l:SV) (R:VP) (M:Mem):Prop:=aH pr aB R (gX PP cC.h [] [] (gR Tryz.f78) [(0,.sv l)] M)
theorem cC.go (l:SV) (h:∀ aB,cC.Is (aJ PP w0) aB R→cC.T (aJ PP w0) aB l R M):C PP w0 Id.cC #[SV.v l] R M :=
  cW mixed (h:=cC.h) (T:=fun pr aB=>cC.T pr aB l R M) Tryz.func78 (cV _ _) (by kernel_rfl) (fun pr aB=>by kernel_rfl) h
noncomputable def kW.h:HC:=aK (bd Tryz.f79) []
def kW.T (R:VP) (M:Mem):Prop:=aH pr (fun _ _ _ _=>False) R (gX PP kW.h [] [] (gR Tryz.f79) [] M)
theorem kW.go (h:kW.T (aJ PP w0) R M):C PP w0 Id.kW #[] R M :=
  cW mixed (h:=kW.h) (T:=fun pr aB=>kW.T pr R M) Tryz.func79 (cV _ _) (by kernel_rfl) (fun pr aB=>by kernel_rfl) fun _ _=>h
noncomputable def cY.h:HC:=aK (bd Tryz.f80) []
def cY.T (places:Int) (R:VP) (M:Mem):Prop:=aH pr (fun _ _ _ _=>False) R (gX PP cY.h [] [] (gR Tryz.f80) [(0,.int .i64 (.v places))] M)
theorem cY.go (places:Int) (h:cY.T (aJ PP w0) places R M):C PP w0 Id.cY #[.int .i64 places] R M :=
  cW mixed (h:=cY.h) (T:=fun pr aB=>cY.T pr places R M) Tryz.func80 (cV _ _) (by kernel_rfl) (fun pr aB=>by kernel_rfl) fun _ _=>h
noncomputable def cK.h:HC:=aK (bd Tryz.f81) []
def cK.T (places:Int) (R:VP) (M:Mem):Prop:=aH pr (fun _ _ _ _=>False) R (gX PP cK.h [] [] (gR Tryz.f81) [(0,.int .i64 (.v places))] M)
theorem cK.go (places:Int) (h:cK.T (aJ PP w0) places R M):C PP w0 Id.cK #[.int .i64 places] R M :=
  cW mixed (h:=cK.h) (T:=fun pr aB=>cK.T pr places R M) Tryz.func81 (cV _ _) (by kernel_rfl) (fun pr aB=>by kernel_rfl) fun _ _=>h
noncomputable def qG.h:HC:=aK (bd Tryz.f83) []
def qG.T (m:Option Addr) (R:VP) (M:Mem):Prop:=aH pr (fun _ _ _ _=>False) R (gX PP qG.h [] [] (gR Tryz.f83) [(0,.ptr (.v m))] M)
theorem qG.go (m:Option Addr) (h:qG.T (aJ PP w0) m R M):C PP w0 Id.qG #[.pointer m] R M :=
  cW mixed (h:=qG.h) (T:=fun pr aB=>qG.T pr m R M) Tryz.func83 (cV _ _) (by kernel_rfl) (fun pr aB=>by kernel_rfl) fun _ _=>h
noncomputable def cX.h:HC:=aK (bd Tryz.f84) [([true,true],[0,3,4,6])]
def cX.Is (R:VP):Prop:=nX PP pr aB cX.h Tryz.f84 R
abbrev cX.J1 (p_0:Option Addr) (v_3:Addr) (t4:Addr) (at_6:Int) (M:Mem):Prop:=aB [true,true,true] [] [(0,.pointer p_0),(3,.pointer (some v_3)),(4,.pointer (some t4)),(6,.int .i64 at_6)] M
def cX.J1.T (p_0:Option Addr) (v_3:Addr) (t4:Addr) (at_6:Int) (R:VP) (M:Mem):Prop:=aH pr aB R (bD PP cX.h (gR Tryz.f84) [true,true,true] [] [(0,.ptr (.v p_0)),(3,.ptr (.a (.v v_3))),(4,.ptr (.a (.v t4))),(6,.int .i64 (.v at_6))] M)
theorem cX.Is.J1 {pr:Prim} {aB:eA} (H:cX.Is pr aB R) (p_0:Option Addr) (v_3:Addr) (t4:Addr) (at_6:Int) (M:Mem):cX.J1 aB p_0 v_3 t4 at_6 M = cX.J1.T pr aB p_0 v_3 t4 at_6 R M:=(H _ _ _ _ _ rfl).trans (by kernel_rfl)
def cX.T (p:Option Addr) (v_0 v_1 v_2:Int) (R:VP) (M:Mem):Prop:=aH pr aB R (gX PP cX.h [] [] (gR Tryz.f84) [(0,.ptr (.v p)),(1,.agg [.int .i64 (.v v_0),.int .i64 (.v v_1),.int .i64 (.v v_2)])] M)
theorem cX.go (p:Option Addr) (v_0 v_1 v_2:Int) (h:∀ aB,cX.Is (aJ PP w0) aB R→cX.T (aJ PP w0) aB p v_0 v_1 v_2 R M):C PP w0 Id.cX #[.pointer p,.agg #[.int .i64 v_0,.int .i64 v_1,.int .i64 v_2]] R M :=
  cW mixed (h:=cX.h) (T:=fun pr aB=>cX.T pr aB p v_0 v_1 v_2 R M) Tryz.func84 (cV _ _) (by kernel_rfl) (fun pr aB=>by kernel_rfl) h
noncomputable def mT.h:HC:=aK (bd Tryz.f85) []
def mT.T (a:Option Addr) (key serial:Int) (R:VP) (M:Mem):Prop:=aH pr (fun _ _ _ _=>False) R (gX PP mT.h [] [] (gR Tryz.f85) [(0,.ptr (.v a)),(1,.int .i64 (.v key)),(2,.int .i64 (.v serial))] M)
theorem mT.go (a:Option Addr) (key serial:Int) (h:mT.T (aJ PP w0) a key serial R M):C PP w0 Id.mT #[.pointer a,.int .i64 key,.int .i64 serial] R M :=
  cW mixed (h:=mT.h) (T:=fun pr aB=>mT.T pr a key serial R M) Tryz.func85 (cV _ _) (by kernel_rfl) (fun pr aB=>by kernel_rfl) fun _ _=>h
noncomputable def lB.h:HC:=aK (bd Tryz.f86) []
def lB.T (k:Int) (a:Option Addr) (r i:Int) (R:VP) (M:Mem):Prop:=aH pr (fun _ _ _ _=>False) R (gX PP lB.h [] [] (gR Tryz.f86) [(0,.int .i64 (.v k)),(1,.ptr (.v a)),(2,.int .i64 (.v r)),(3,.int .i64 (.v i))] M)
theorem lB.go (k:Int) (a:Option Addr) (r i:Int) (h:lB.T (aJ PP w0) k a r i R M):C PP w0 Id.lB #[.int .i64 k,.pointer a,.int .i64 r,.int .i64 i] R M :=
  cW mixed (h:=lB.h) (T:=fun pr aB=>lB.T pr k a r i R M) Tryz.func86 (cV _ _) (by kernel_rfl) (fun pr aB=>by kernel_rfl) fun _ _=>h
noncomputable def sQ.h:HC:=aK (bd Tryz.f87) []
def sQ.T (t:Option Addr) (h_1_0 h_1_1 cell:Int) (R:VP) (M:Mem):Prop:=aH pr (fun _ _ _ _=>False) R (gX PP sQ.h [] [] (gR Tryz.f87) [(0,.ptr (.v t)),(1,.agg [.int .i64 (.v h_1_0),.int .i64 (.v h_1_1)]),(2,.int .i64 (.v cell))] M)
theorem sQ.go (t:Option Addr) (h_1_0 h_1_1 cell:Int) (h:sQ.T (aJ PP w0) t h_1_0 h_1_1 cell R M):C PP w0 Id.sQ #[.pointer t,.agg #[.int .i64 h_1_0,.int .i64 h_1_1],.int .i64 cell] R M :=
  cW mixed (h:=sQ.h) (T:=fun pr aB=>sQ.T pr t h_1_0 h_1_1 cell R M) Tryz.func87 (cV _ _) (by kernel_rfl) (fun pr aB=>by kernel_rfl) fun _ _=>h
noncomputable def pE.h:HC:=aK (bd Tryz.f88) []
def pE.T (t:Option Addr) (h_1_0 h_1_1 r n:Int) (R:VP) (M:Mem):Prop:=aH pr (fun _ _ _ _=>False) R (gX PP pE.h [] [] (gR Tryz.f88) [(0,.ptr (.v t)),(1,.agg [.int .i64 (.v h_1_0),.int .i64 (.v h_1_1)]),(2,.int .i64 (.v r)),(3,.int .i64 (.v n))] M)
theorem pE.go (t:Option Addr) (h_1_0 h_1_1 r n:Int) (h:pE.T (aJ PP w0) t h_1_0 h_1_1 r n R M):C PP w0 Id.pE #[.pointer t,.agg #[.int .i64 h_1_0,.int .i64 h_1_1],.int .i64 r,.int .i64 n] R M :=
  cW mixed (h:=pE.h) (T:=fun pr aB=>pE.T pr t h_1_0 h_1_1 r n R M) Tryz.func88 (cV _ _) (by kernel_rfl) (fun pr aB=>by kernel_rfl) fun _ _=>h
noncomputable def wU.h:HC:=aK (bd Tryz.f89) []
def wU.T (t:Option Addr) (cell:Int) (R:VP) (M:Mem):Prop:=aH pr (fun _ _ _ _=>False) R (gX PP wU.h [] [] (gR Tryz.f89) [(0,.ptr (.v t)),(1,.int .i64 (.v cell))] M)
theorem wU.go (t:Option Addr) (cell:Int) (h:wU.T (aJ PP w0) t cell R M):C PP w0 Id.wU #[.pointer t,.int .i64 cell] R M :=
  cW mixed (h:=wU.h) (T:=fun pr aB=>wU.T pr t cell R M) Tryz.func89 (cV _ _) (by kernel_rfl) (fun pr aB=>by kernel_rfl) fun _ _=>h
noncomputable def mY.h:HC:=aK (bd Tryz.f90) []
def mY.T (k:Int) (a:Option Addr) (r:Int) (R:VP) (M:Mem):Prop:=aH pr (fun _ _ _ _=>False) R (gX PP mY.h [] [] (gR Tryz.f90) [(0,.int .i64 (.v k)),(1,.ptr (.v a)),(2,.int .i64 (.v r))] M)
theorem mY.go (k:Int) (a:Option Addr) (r:Int) (h:mY.T (aJ PP w0) k a r R M):C PP w0 Id.mY #[.int .i64 k,.pointer a,.int .i64 r] R M :=
  cW mixed (h:=mY.h) (T:=fun pr aB=>mY.T pr k a r R M) Tryz.func90 (cV _ _) (by kernel_rfl) (fun pr aB=>by kernel_rfl) fun _ _=>h
noncomputable def mH.h:HC:=aK (bd Tryz.f91) []
def mH.T (k:Int) (a:Option Addr) (r:Int) (R:VP) (M:Mem):Prop:=aH pr (fun _ _ _ _=>False) R (gX PP mH.h [] [] (gR Tryz.f91) [(0,.int .i64 (.v k)),(1,.ptr (.v a)),(2,.int .i64 (.v r))] M)
theorem mH.go (k:Int) (a:Option Addr) (r:Int) (h:mH.T (aJ PP w0) k a r R M):C PP w0 Id.mH #[.int .i64 k,.pointer a,.int .i64 r] R M :=
  cW mixed (h:=mH.h) (T:=fun pr aB=>mH.T pr k a r R M) Tryz.func91 (cV _ _) (by kernel_rfl) (fun pr aB=>by kernel_rfl) fun _ _=>h
noncomputable def pF.h:HC:=aK (bd Tryz.f92) []
def pF.T (q:Option Addr) (i_0 i_1:Int) (R:VP) (M:Mem):Prop:=aH pr (fun _ _ _ _=>False) R (gX PP pF.h [] [] (gR Tryz.f92) [(0,.ptr (.v q)),(1,.agg [.int .i64 (.v i_0),.int .i64 (.v i_1)])] M)
theorem pF.go (q:Option Addr) (i_0 i_1:Int) (h:pF.T (aJ PP w0) q i_0 i_1 R M):C PP w0 Id.pF #[.pointer q,.agg #[.int .i64 i_0,.int .i64 i_1]] R M :=
  cW mixed (h:=pF.h) (T:=fun pr aB=>pF.T pr q i_0 i_1 R M) Tryz.func92 (cV _ _) (by kernel_rfl) (fun pr aB=>by kernel_rfl) fun _ _=>h
noncomputable def pN.h:HC:=aK (bd Tryz.f93) []
def pN.T (t:Option Addr) (i_0 i_1:Int) (R:VP) (M:Mem):Prop:=aH pr (fun _ _ _ _=>False) R (gX PP pN.h [] [] (gR Tryz.f93) [(0,.ptr (.v t)),(1,.agg [.int .i64 (.v i_0),.int .i64 (.v i_1)])] M)
theorem pN.go (t:Option Addr) (i_0 i_1:Int) (h:pN.T (aJ PP w0) t i_0 i_1 R M):C PP w0 Id.pN #[.pointer t,.agg #[.int .i64 i_0,.int .i64 i_1]] R M :=
  cW mixed (h:=pN.h) (T:=fun pr aB=>pN.T pr t i_0 i_1 R M) Tryz.func93 (cV _ _) (by kernel_rfl) (fun pr aB=>by kernel_rfl) fun _ _=>h
noncomputable def xB.h:HC:=aK (bd Tryz.f94) []
def xB.T (t:Option Addr) (i_0 i_1:Int) (R:VP) (M:Mem):Prop:=aH pr (fun _ _ _ _=>False) R (gX PP xB.h [] [] (gR Tryz.f94) [(0,.ptr (.v t)),(1,.agg [.int .i64 (.v i_0),.int .i64 (.v i_1)])] M)
theorem xB.go (t:Option Addr) (i_0 i_1:Int) (h:xB.T (aJ PP w0) t i_0 i_1 R M):C PP w0 Id.xB #[.pointer t,.agg #[.int .i64 i_0,.int .i64 i_1]] R M :=
  cW mixed (h:=xB.h) (T:=fun pr aB=>xB.T pr t i_0 i_1 R M) Tryz.func94 (cV _ _) (by kernel_rfl) (fun pr aB=>by kernel_rfl) fun _ _=>h
noncomputable def jJ.h:HC:=aK (bd Tryz.f95) []
def jJ.T (a:Option Addr) (i key:Int) (R:VP) (M:Mem):Prop:=aH pr (fun _ _ _ _=>False) R (gX PP jJ.h [] [] (gR Tryz.f95) [(0,.ptr (.v a)),(1,.int .i64 (.v i)),(2,.int .i64 (.v key))] M)
theorem jJ.go (a:Option Addr) (i key:Int) (h:jJ.T (aJ PP w0) a i key R M):C PP w0 Id.jJ #[.pointer a,.int .i64 i,.int .i64 key] R M :=
  cW mixed (h:=jJ.h) (T:=fun pr aB=>jJ.T pr a i key R M) Tryz.func95 (cV _ _) (by kernel_rfl) (fun pr aB=>by kernel_rfl) fun _ _=>h
noncomputable def kX.h:HC:=aK (bd Tryz.f96) []
def kX.T (k:Int) (a:Option Addr) (r i:Int) (R:VP) (M:Mem):Prop:=aH pr (fun _ _ _ _=>False) R (gX PP kX.h [] [] (gR Tryz.f96) [(0,.int .i64 (.v k)),(1,.ptr (.v a)),(2,.int .i64 (.v r)),(3,.int .i64 (.v i))] M)
theorem kX.go (k:Int) (a:Option Addr) (r i:Int) (h:kX.T (aJ PP w0) k a r i R M):C PP w0 Id.kX #[.int .i64 k,.pointer a,.int .i64 r,.int .i64 i] R M :=
  cW mixed (h:=kX.h) (T:=fun pr aB=>kX.T pr k a r i R M) Tryz.func96 (cV _ _) (by kernel_rfl) (fun pr aB=>by kernel_rfl) fun _ _=>h
noncomputable def mW.h:HC:=aK (bd Tryz.f97) []
def mW.T (k:Int) (a:Option Addr) (r i:Int) (R:VP) (M:Mem):Prop:=aH pr (fun _ _ _ _=>False) R (gX PP mW.h [] [] (gR Tryz.f97) [(0,.int .i64 (.v k)),(1,.ptr (.v a)),(2,.int .i64 (.v r)),(3,.int .i64 (.v i))] M)
theorem mW.go (k:Int) (a:Option Addr) (r i:Int) (h:mW.T (aJ PP w0) k a r i R M):C PP w0 Id.mW #[.int .i64 k,.pointer a,.int .i64 r,.int .i64 i] R M :=
  cW mixed (h:=mW.h) (T:=fun pr aB=>mW.T pr k a r i R M) Tryz.func97 (cV _ _) (by kernel_rfl) (fun pr aB=>by kernel_rfl) fun _ _=>h
noncomputable def gG.h:HC:=aK (bd Tryz.f98) [([true,true,true,true,true,false,true,false],[0,4,5,51,52,53])]
def gG.Is (R:VP):Prop:=nX PP pr aB gG.h Tryz.f98 R
abbrev gG.L1 (k:Nat) (t_0:Option Addr) (h_4:Addr) (o_5:Addr) (t51:SV) (t52 t53:Int) (M:Mem):Prop:=aB [false,false,true,false,true,true,true,true,true] [k] [(0,.pointer t_0),(4,.pointer (some h_4)),(5,.pointer (some o_5)),(51,SV.v t51),(52,.int .i64 t52),(53,.int .i64 t53)] M
def gG.L1.T (k:Nat) (t_0:Option Addr) (h_4:Addr) (o_5:Addr) (t51:SV) (t52 t53:Int) (R:VP) (M:Mem):Prop:=aH pr aB R (bD PP gG.h (gR Tryz.f98) [false,false,true,false,true,true,true,true,true] [k] [(0,.ptr (.v t_0)),(4,.ptr (.a (.v h_4))),(5,.ptr (.a (.v o_5))),(51,.sv t51),(52,.int .i64 (.v t52)),(53,.int .i64 (.v t53))] M)
theorem gG.Is.L1 {pr:Prim} {aB:eA} (H:gG.Is pr aB R) (k:Nat) (t_0:Option Addr) (h_4:Addr) (o_5:Addr) (t51:SV) (t52 t53:Int) (M:Mem):gG.L1 aB (k + 1) t_0 h_4 o_5 t51 t52 t53 M = gG.L1.T pr aB k t_0 h_4 o_5 t51 t52 t53 R M:=(H _ _ _ _ _ rfl).trans (by kernel_rfl)
def gG.T (t:Option Addr) (h_1_0 h_1_1 o_0 o_1:Int) (R:VP) (M:Mem):Prop:=aH pr aB R (gX PP gG.h [] [] (gR Tryz.f98) [(0,.ptr (.v t)),(1,.agg [.int .i64 (.v h_1_0),.int .i64 (.v h_1_1)]),(2,.agg [.int .i64 (.v o_0),.int .i64 (.v o_1)])] M)
theorem gG.go (t:Option Addr) (h_1_0 h_1_1 o_0 o_1:Int) (h:∀ aB,gG.Is (aJ PP w0) aB R→gG.T (aJ PP w0) aB t h_1_0 h_1_1 o_0 o_1 R M):C PP w0 Id.gG #[.pointer t,.agg #[.int .i64 h_1_0,.int .i64 h_1_1],.agg #[.int .i64 o_0,.int .i64 o_1]] R M :=
  cW mixed (h:=gG.h) (T:=fun pr aB=>gG.T pr aB t h_1_0 h_1_1 o_0 o_1 R M) Tryz.func98 (cV _ _) (by kernel_rfl) (fun pr aB=>by kernel_rfl) h
noncomputable def kT.h:HC:=aK (bd Tryz.f99) []
def kT.T (k:Int) (a:Option Addr) (r s:Int) (R:VP) (M:Mem):Prop:=aH pr (fun _ _ _ _=>False) R (gX PP kT.h [] [] (gR Tryz.f99) [(0,.int .i64 (.v k)),(1,.ptr (.v a)),(2,.int .i64 (.v r)),(3,.int .i64 (.v s))] M)
theorem kT.go (k:Int) (a:Option Addr) (r s:Int) (h:kT.T (aJ PP w0) k a r s R M):C PP w0 Id.kT #[.int .i64 k,.pointer a,.int .i64 r,.int .i64 s] R M :=
  cW mixed (h:=kT.h) (T:=fun pr aB=>kT.T pr k a r s R M) Tryz.func99 (cV _ _) (by kernel_rfl) (fun pr aB=>by kernel_rfl) fun _ _=>h
noncomputable def j5.h:HC:=aK (bd Tryz.f100) []
def j5.T (p:Option Addr) (r_0 r_1:Int) (R:VP) (M:Mem):Prop:=aH pr (fun _ _ _ _=>False) R (gX PP j5.h [] [] (gR Tryz.f100) [(0,.ptr (.v p)),(1,.agg [.int .i64 (.v r_0),.int .i64 (.v r_1)])] M)
theorem j5.go (p:Option Addr) (r_0 r_1:Int) (h:j5.T (aJ PP w0) p r_0 r_1 R M):C PP w0 Id.j5 #[.pointer p,.agg #[.int .i64 r_0,.int .i64 r_1]] R M :=
  cW mixed (h:=j5.h) (T:=fun pr aB=>j5.T pr p r_0 r_1 R M) Tryz.func100 (cV _ _) (by kernel_rfl) (fun pr aB=>by kernel_rfl) fun _ _=>h
noncomputable def fX.h:HC:=aK (bd Tryz.f102) [([true,true,false,true,false],[0,3,5,14,15,16])]
def fX.Is (R:VP):Prop:=nX PP pr aB fX.h Tryz.f102 R
abbrev fX.L1 (k:Nat) (t_0:Option Addr) (h_3:Addr) (out_5 t14:SV) (t15 t16:Int) (M:Mem):Prop:=aB [false,false,true,false,true,true] [k] [(0,.pointer t_0),(3,.pointer (some h_3)),(5,SV.v out_5),(14,SV.v t14),(15,.int .i64 t15),(16,.int .i64 t16)] M
def fX.L1.T (k:Nat) (t_0:Option Addr) (h_3:Addr) (out_5 t14:SV) (t15 t16:Int) (R:VP) (M:Mem):Prop:=aH pr aB R (bD PP fX.h (gR Tryz.f102) [false,false,true,false,true,true] [k] [(0,.ptr (.v t_0)),(3,.ptr (.a (.v h_3))),(5,.sv out_5),(14,.sv t14),(15,.int .i64 (.v t15)),(16,.int .i64 (.v t16))] M)
theorem fX.Is.L1 {pr:Prim} {aB:eA} (H:fX.Is pr aB R) (k:Nat) (t_0:Option Addr) (h_3:Addr) (out_5 t14:SV) (t15 t16:Int) (M:Mem):fX.L1 aB (k + 1) t_0 h_3 out_5 t14 t15 t16 M = fX.L1.T pr aB k t_0 h_3 out_5 t14 t15 t16 R M:=(H _ _ _ _ _ rfl).trans (by kernel_rfl)
def fX.T (t:Option Addr) (h_1_0 h_1_1:Int) (R:VP) (M:Mem):Prop:=aH pr aB R (gX PP fX.h [] [] (gR Tryz.f102) [(0,.ptr (.v t)),(1,.agg [.int .i64 (.v h_1_0),.int .i64 (.v h_1_1)])] M)
theorem fX.go (t:Option Addr) (h_1_0 h_1_1:Int) (h:∀ aB,fX.Is (aJ PP w0) aB R→fX.T (aJ PP w0) aB t h_1_0 h_1_1 R M):C PP w0 Id.fX #[.pointer t,.agg #[.int .i64 h_1_0,.int .i64 h_1_1]] R M :=
  cW mixed (h:=fX.h) (T:=fun pr aB=>fX.T pr aB t h_1_0 h_1_1 R M) Tryz.func102 (cV _ _) (by kernel_rfl) (fun pr aB=>by kernel_rfl) h
noncomputable def oI.h:HC:=aK (bd Tryz.f105) []
def oI.T (p:Option Addr) (r_0 r_1:Int) (R:VP) (M:Mem):Prop:=aH pr (fun _ _ _ _=>False) R (gX PP oI.h [] [] (gR Tryz.f105) [(0,.ptr (.v p)),(1,.agg [.int .i64 (.v r_0),.int .i64 (.v r_1)])] M)
theorem oI.go (p:Option Addr) (r_0 r_1:Int) (h:oI.T (aJ PP w0) p r_0 r_1 R M):C PP w0 Id.oI #[.pointer p,.agg #[.int .i64 r_0,.int .i64 r_1]] R M :=
  cW mixed (h:=oI.h) (T:=fun pr aB=>oI.T pr p r_0 r_1 R M) Tryz.func105 (cV _ _) (by kernel_rfl) (fun pr aB=>by kernel_rfl) fun _ _=>h
end
end HL
namespace HL
section
variable (pr:Prim) (aB:eA) (w0:World) {R:VP} {M:Mem}
noncomputable def cE.h:HC:=aK (bd Tryz.f114) [([true,false,true,false],[0,1,8,9])]
def cE.Is (R:VP):Prop:=nX PP pr aB cE.h Tryz.f114 R
abbrev cE.L1 (k:Nat) (a_0 b_1 t8 t9:Int) (M:Mem):Prop:=aB [false,false,true,false,true] [k] [(0,.int .i64 a_0),(1,.int .i64 b_1),(8,.int .i64 t8),(9,.int .i64 t9)] M
def cE.L1.T (k:Nat) (a_0 b_1 t8 t9:Int) (R:VP) (M:Mem):Prop:=aH pr aB R (bD PP cE.h (gR Tryz.f114) [false,false,true,false,true] [k] [(0,.int .i64 (.v a_0)),(1,.int .i64 (.v b_1)),(8,.int .i64 (.v t8)),(9,.int .i64 (.v t9))] M)
theorem cE.Is.L1 {pr:Prim} {aB:eA} (H:cE.Is pr aB R) (k:Nat) (a_0 b_1 t8 t9:Int) (M:Mem):cE.L1 aB (k + 1) a_0 b_1 t8 t9 M = cE.L1.T pr aB k a_0 b_1 t8 t9 R M:=(H _ _ _ _ _ rfl).trans (by kernel_rfl)
def cE.T (a b n:Int) (R:VP) (M:Mem):Prop:=aH pr aB R (gX PP cE.h [] [] (gR Tryz.f114) [(0,.int .i64 (.v a)),(1,.int .i64 (.v b)),(2,.int .i64 (.v n))] M)
theorem cE.go (a b n:Int) (h:∀ aB,cE.Is (aJ PP w0) aB R→cE.T (aJ PP w0) aB a b n R M):C PP w0 Id.cE #[.int .i64 a,.int .i64 b,.int .i64 n] R M :=
  cW mixed (h:=cE.h) (T:=fun pr aB=>cE.T pr aB a b n R M) Tryz.func114 (cV _ _) (by kernel_rfl) (fun pr aB=>by kernel_rfl) h
noncomputable def lC.h:HC:=aK (bd Tryz.f115) []
def lC.T (p:Option Addr) (R:VP) (M:Mem):Prop:=aH pr (fun _ _ _ _=>False) R (gX PP lC.h [] [] (gR Tryz.f115) [(0,.ptr (.v p))] M)
theorem lC.go (p:Option Addr) (h:lC.T (aJ PP w0) p R M):C PP w0 Id.lC #[.pointer p] R M :=
  cW mixed (h:=lC.h) (T:=fun pr aB=>lC.T pr p R M) Tryz.func115 (cV _ _) (by kernel_rfl) (fun pr aB=>by kernel_rfl) fun _ _=>h
noncomputable def iH.h:HC:=aK (bd Tryz.f116) []
def iH.T (d:Option Addr) (c_0 c_1 c_2 c_3 c_4 c_5:Int) (R:VP) (M:Mem):Prop:=aH pr (fun _ _ _ _=>False) R (gX PP iH.h [] [] (gR Tryz.f116) [(0,.ptr (.v d)),(1,.agg [.int .i64 (.v c_0),.int .i64 (.v c_1),.int .i64 (.v c_2),.int .i64 (.v c_3),.int .i64 (.v c_4),.int .i64 (.v c_5)])] M)
theorem iH.go (d:Option Addr) (c_0 c_1 c_2 c_3 c_4 c_5:Int) (h:iH.T (aJ PP w0) d c_0 c_1 c_2 c_3 c_4 c_5 R M):C PP w0 Id.iH #[.pointer d,.agg #[.int .i64 c_0,.int .i64 c_1,.int .i64 c_2,.int .i64 c_3,.int .i64 c_4,.int .i64 c_5]] R M :=
  cW mixed (h:=iH.h) (T:=fun pr aB=>iH.T pr d c_0 c_1 c_2 c_3 c_4 c_5 R M) Tryz.func116 (cV _ _) (by kernel_rfl) (fun pr aB=>by kernel_rfl) fun _ _=>h
noncomputable def kQ.h:HC:=aK (bd Tryz.f117) []
def kQ.T (d:Option Addr) (c_0 c_1 c_2 c_3 c_4 c_5:Int) (R:VP) (M:Mem):Prop:=aH pr (fun _ _ _ _=>False) R (gX PP kQ.h [] [] (gR Tryz.f117) [(0,.ptr (.v d)),(1,.agg [.int .i64 (.v c_0),.int .i64 (.v c_1),.int .i64 (.v c_2),.int .i64 (.v c_3),.int .i64 (.v c_4),.int .i64 (.v c_5)])] M)
theorem kQ.go (d:Option Addr) (c_0 c_1 c_2 c_3 c_4 c_5:Int) (h:kQ.T (aJ PP w0) d c_0 c_1 c_2 c_3 c_4 c_5 R M):C PP w0 Id.kQ #[.pointer d,.agg #[.int .i64 c_0,.int .i64 c_1,.int .i64 c_2,.int .i64 c_3,.int .i64 c_4,.int .i64 c_5]] R M :=
  cW mixed (h:=kQ.h) (T:=fun pr aB=>kQ.T pr d c_0 c_1 c_2 c_3 c_4 c_5 R M) Tryz.func117 (cV _ _) (by kernel_rfl) (fun pr aB=>by kernel_rfl) fun _ _=>h
noncomputable def kR.h:HC:=aK (bd Tryz.f118) []
def kR.T (d:Option Addr) (r_0 r_1:Int) (R:VP) (M:Mem):Prop:=aH pr (fun _ _ _ _=>False) R (gX PP kR.h [] [] (gR Tryz.f118) [(0,.ptr (.v d)),(1,.agg [.int .i64 (.v r_0),.int .i64 (.v r_1)])] M)
theorem kR.go (d:Option Addr) (r_0 r_1:Int) (h:kR.T (aJ PP w0) d r_0 r_1 R M):C PP w0 Id.kR #[.pointer d,.agg #[.int .i64 r_0,.int .i64 r_1]] R M :=
  cW mixed (h:=kR.h) (T:=fun pr aB=>kR.T pr d r_0 r_1 R M) Tryz.func118 (cV _ _) (by kernel_rfl) (fun pr aB=>by kernel_rfl) fun _ _=>h
noncomputable def fA.h:HC:=aK (bd Tryz.f119) []
def fA.T (c:Option Addr) (by_1:Int) (R:VP) (M:Mem):Prop:=aH pr (fun _ _ _ _=>False) R (gX PP fA.h [] [] (gR Tryz.f119) [(0,.ptr (.v c)),(1,.int .i64 (.v by_1))] M)
theorem fA.go (c:Option Addr) (by_1:Int) (h:fA.T (aJ PP w0) c by_1 R M):C PP w0 Id.fA #[.pointer c,.int .i64 by_1] R M :=
  cW mixed (h:=fA.h) (T:=fun pr aB=>fA.T pr c by_1 R M) Tryz.func119 (cV _ _) (by kernel_rfl) (fun pr aB=>by kernel_rfl) fun _ _=>h
noncomputable def eH.h:HC:=aK (bd Tryz.f120) []
def eH.T (c:Option Addr) (R:VP) (M:Mem):Prop:=aH pr (fun _ _ _ _=>False) R (gX PP eH.h [] [] (gR Tryz.f120) [(0,.ptr (.v c))] M)
theorem eH.go (c:Option Addr) (h:eH.T (aJ PP w0) c R M):C PP w0 Id.eH #[.pointer c] R M :=
  cW mixed (h:=eH.h) (T:=fun pr aB=>eH.T pr c R M) Tryz.func120 (cV _ _) (by kernel_rfl) (fun pr aB=>by kernel_rfl) fun _ _=>h
noncomputable def gN.h:HC:=aK (bd Tryz.f121) [([true,true,true],[0,4,5,6])]
def gN.Is (R:VP):Prop:=nX PP pr aB gN.h Tryz.f121 R
abbrev gN.J1 (d_0:Option Addr) (t4:Addr) (h_5:Addr) (x_6:Addr) (M:Mem):Prop:=aB [true,true,true,true] [] [(0,.pointer d_0),(4,.pointer (some t4)),(5,.pointer (some h_5)),(6,.pointer (some x_6))] M
def gN.J1.T (d_0:Option Addr) (t4:Addr) (h_5:Addr) (x_6:Addr) (R:VP) (M:Mem):Prop:=aH pr aB R (bD PP gN.h (gR Tryz.f121) [true,true,true,true] [] [(0,.ptr (.v d_0)),(4,.ptr (.a (.v t4))),(5,.ptr (.a (.v h_5))),(6,.ptr (.a (.v x_6)))] M)
theorem gN.Is.J1 {pr:Prim} {aB:eA} (H:gN.Is pr aB R) (d_0:Option Addr) (t4:Addr) (h_5:Addr) (x_6:Addr) (M:Mem):gN.J1 aB d_0 t4 h_5 x_6 M = gN.J1.T pr aB d_0 t4 h_5 x_6 R M:=(H _ _ _ _ _ rfl).trans (by kernel_rfl)
def gN.T (d:Option Addr) (queue:Int) (R:VP) (M:Mem):Prop:=aH pr aB R (gX PP gN.h [] [] (gR Tryz.f121) [(0,.ptr (.v d)),(1,.int .i64 (.v queue))] M)
theorem gN.go (d:Option Addr) (queue:Int) (h:∀ aB,gN.Is (aJ PP w0) aB R→gN.T (aJ PP w0) aB d queue R M):C PP w0 Id.gN #[.pointer d,.int .i64 queue] R M :=
  cW mixed (h:=gN.h) (T:=fun pr aB=>gN.T pr aB d queue R M) Tryz.func121 (cV _ _) (by kernel_rfl) (fun pr aB=>by kernel_rfl) h
noncomputable def mJ.h:HC:=aK (bd Tryz.f122) []
def mJ.T (d:Option Addr) (R:VP) (M:Mem):Prop:=aH pr (fun _ _ _ _=>False) R (gX PP mJ.h [] [] (gR Tryz.f122) [(0,.ptr (.v d))] M)
theorem mJ.go (d:Option Addr) (h:mJ.T (aJ PP w0) d R M):C PP w0 Id.mJ #[.pointer d] R M :=
  cW mixed (h:=mJ.h) (T:=fun pr aB=>mJ.T pr d R M) Tryz.func122 (cV _ _) (by kernel_rfl) (fun pr aB=>by kernel_rfl) fun _ _=>h
noncomputable def eS.h:HC:=aK (bd Tryz.f123) [([true,true,false,true,false],[0,1,5,14,15,16])]
def eS.Is (R:VP):Prop:=nX PP pr aB eS.h Tryz.f123 R
abbrev eS.L1 (k:Nat) (t_0:Option Addr) (queue_1 n_5:Int) (t14:SV) (t15 t16:Int) (M:Mem):Prop:=aB [false,false,true,false,true,true] [k] [(0,.pointer t_0),(1,.int .i64 queue_1),(5,.int .i64 n_5),(14,SV.v t14),(15,.int .i64 t15),(16,.int .i64 t16)] M
def eS.L1.T (k:Nat) (t_0:Option Addr) (queue_1 n_5:Int) (t14:SV) (t15 t16:Int) (R:VP) (M:Mem):Prop:=aH pr aB R (bD PP eS.h (gR Tryz.f123) [false,false,true,false,true,true] [k] [(0,.ptr (.v t_0)),(1,.int .i64 (.v queue_1)),(5,.int .i64 (.v n_5)),(14,.sv t14),(15,.int .i64 (.v t15)),(16,.int .i64 (.v t16))] M)
theorem eS.Is.L1 {pr:Prim} {aB:eA} (H:eS.Is pr aB R) (k:Nat) (t_0:Option Addr) (queue_1 n_5:Int) (t14:SV) (t15 t16:Int) (M:Mem):eS.L1 aB (k + 1) t_0 queue_1 n_5 t14 t15 t16 M = eS.L1.T pr aB k t_0 queue_1 n_5 t14 t15 t16 R M:=(H _ _ _ _ _ rfl).trans (by kernel_rfl)
def eS.T (t:Option Addr) (queue:Int) (R:VP) (M:Mem):Prop:=aH pr aB R (gX PP eS.h [] [] (gR Tryz.f123) [(0,.ptr (.v t)),(1,.int .i64 (.v queue))] M)
theorem eS.go (t:Option Addr) (queue:Int) (h:∀ aB,eS.Is (aJ PP w0) aB R→eS.T (aJ PP w0) aB t queue R M):C PP w0 Id.eS #[.pointer t,.int .i64 queue] R M :=
  cW mixed (h:=eS.h) (T:=fun pr aB=>eS.T pr aB t queue R M) Tryz.func123 (cV _ _) (by kernel_rfl) (fun pr aB=>by kernel_rfl) h
noncomputable def dE.h:HC:=aK (bd Tryz.f124) [([true,true,false,true,false],[0,1,5,6])]
def dE.Is (R:VP):Prop:=nX PP pr aB dE.h Tryz.f124 R
abbrev dE.L1 (k:Nat) (d_0:Option Addr) (queue_1 k_5 i_6:Int) (M:Mem):Prop:=aB [false,false,true,false,true,true] [k] [(0,.pointer d_0),(1,.int .i64 queue_1),(5,.int .i64 k_5),(6,.int .i64 i_6)] M
def dE.L1.T (k:Nat) (d_0:Option Addr) (queue_1 k_5 i_6:Int) (R:VP) (M:Mem):Prop:=aH pr aB R (bD PP dE.h (gR Tryz.f124) [false,false,true,false,true,true] [k] [(0,.ptr (.v d_0)),(1,.int .i64 (.v queue_1)),(5,.int .i64 (.v k_5)),(6,.int .i64 (.v i_6))] M)
theorem dE.Is.L1 {pr:Prim} {aB:eA} (H:dE.Is pr aB R) (k:Nat) (d_0:Option Addr) (queue_1 k_5 i_6:Int) (M:Mem):dE.L1 aB (k + 1) d_0 queue_1 k_5 i_6 M = dE.L1.T pr aB k d_0 queue_1 k_5 i_6 R M:=(H _ _ _ _ _ rfl).trans (by kernel_rfl)
def dE.T (d:Option Addr) (queue:Int) (R:VP) (M:Mem):Prop:=aH pr aB R (gX PP dE.h [] [] (gR Tryz.f124) [(0,.ptr (.v d)),(1,.int .i64 (.v queue))] M)
theorem dE.go (d:Option Addr) (queue:Int) (h:∀ aB,dE.Is (aJ PP w0) aB R→dE.T (aJ PP w0) aB d queue R M):C PP w0 Id.dE #[.pointer d,.int .i64 queue] R M :=
  cW mixed (h:=dE.h) (T:=fun pr aB=>dE.T pr aB d queue R M) Tryz.func124 (cV _ _) (by kernel_rfl) (fun pr aB=>by kernel_rfl) h
noncomputable def dS.h:HC:=aK (bd Tryz.f125) [([true,true,false,true,false],[0,1,5,6])]
def dS.Is (R:VP):Prop:=nX PP pr aB dS.h Tryz.f125 R
abbrev dS.L1 (k:Nat) (d_0:Option Addr) (queue_1 n_5 i_6:Int) (M:Mem):Prop:=aB [false,false,true,false,true,true] [k] [(0,.pointer d_0),(1,.int .i64 queue_1),(5,.int .i64 n_5),(6,.int .i64 i_6)] M
def dS.L1.T (k:Nat) (d_0:Option Addr) (queue_1 n_5 i_6:Int) (R:VP) (M:Mem):Prop:=aH pr aB R (bD PP dS.h (gR Tryz.f125) [false,false,true,false,true,true] [k] [(0,.ptr (.v d_0)),(1,.int .i64 (.v queue_1)),(5,.int .i64 (.v n_5)),(6,.int .i64 (.v i_6))] M)
theorem dS.Is.L1 {pr:Prim} {aB:eA} (H:dS.Is pr aB R) (k:Nat) (d_0:Option Addr) (queue_1 n_5 i_6:Int) (M:Mem):dS.L1 aB (k + 1) d_0 queue_1 n_5 i_6 M = dS.L1.T pr aB k d_0 queue_1 n_5 i_6 R M:=(H _ _ _ _ _ rfl).trans (by kernel_rfl)
def dS.T (d:Option Addr) (queue:Int) (R:VP) (M:Mem):Prop:=aH pr aB R (gX PP dS.h [] [] (gR Tryz.f125) [(0,.ptr (.v d)),(1,.int .i64 (.v queue))] M)
theorem dS.go (d:Option Addr) (queue:Int) (h:∀ aB,dS.Is (aJ PP w0) aB R→dS.T (aJ PP w0) aB d queue R M):C PP w0 Id.dS #[.pointer d,.int .i64 queue] R M :=
  cW mixed (h:=dS.h) (T:=fun pr aB=>dS.T pr aB d queue R M) Tryz.func125 (cV _ _) (by kernel_rfl) (fun pr aB=>by kernel_rfl) h
noncomputable def kO.h:HC:=aK (bd Tryz.f126) []
def kO.T (p:Option Addr) (R:VP) (M:Mem):Prop:=aH pr (fun _ _ _ _=>False) R (gX PP kO.h [] [] (gR Tryz.f126) [(0,.ptr (.v p))] M)
theorem kO.go (p:Option Addr) (h:kO.T (aJ PP w0) p R M):C PP w0 Id.kO #[.pointer p] R M :=
  cW mixed (h:=kO.h) (T:=fun pr aB=>kO.T pr p R M) Tryz.func126 (cV _ _) (by kernel_rfl) (fun pr aB=>by kernel_rfl) fun _ _=>h
noncomputable def dU.h:HC:=aK (bd Tryz.f127) []
def dU.T (places:Int) (R:VP) (M:Mem):Prop:=aH pr (fun _ _ _ _=>False) R (gX PP dU.h [] [] (gR Tryz.f127) [(0,.int .i64 (.v places))] M)
theorem dU.go (places:Int) (h:dU.T (aJ PP w0) places R M):C PP w0 Id.dU #[.int .i64 places] R M :=
  cW mixed (h:=dU.h) (T:=fun pr aB=>dU.T pr places R M) Tryz.func127 (cV _ _) (by kernel_rfl) (fun pr aB=>by kernel_rfl) fun _ _=>h
noncomputable def dL.h:HC:=aK (bd Tryz.f128) [([true,true,false,true,false],[3,9,10,11])]
def dL.Is (R:VP):Prop:=nX PP pr aB dL.h Tryz.f128 R
abbrev dL.L1 (k:Nat) (out_3 t9:SV) (t10 t11:Int) (M:Mem):Prop:=aB [false,false,true,false,true,true] [k] [(3,SV.v out_3),(9,SV.v t9),(10,.int .i64 t10),(11,.int .i64 t11)] M
def dL.L1.T (k:Nat) (out_3 t9:SV) (t10 t11:Int) (R:VP) (M:Mem):Prop:=aH pr aB R (bD PP dL.h (gR Tryz.f128) [false,false,true,false,true,true] [k] [(3,.sv out_3),(9,.sv t9),(10,.int .i64 (.v t10)),(11,.int .i64 (.v t11))] M)
theorem dL.Is.L1 {pr:Prim} {aB:eA} (H:dL.Is pr aB R) (k:Nat) (out_3 t9:SV) (t10 t11:Int) (M:Mem):dL.L1 aB (k + 1) out_3 t9 t10 t11 M = dL.L1.T pr aB k out_3 t9 t10 t11 R M:=(H _ _ _ _ _ rfl).trans (by kernel_rfl)
def dL.T (p:Option Addr) (R:VP) (M:Mem):Prop:=aH pr aB R (gX PP dL.h [] [] (gR Tryz.f128) [(0,.ptr (.v p))] M)
theorem dL.go (p:Option Addr) (h:∀ aB,dL.Is (aJ PP w0) aB R→dL.T (aJ PP w0) aB p R M):C PP w0 Id.dL #[.pointer p] R M :=
  cW mixed (h:=dL.h) (T:=fun pr aB=>dL.T pr aB p R M) Tryz.func128 (cV _ _) (by kernel_rfl) (fun pr aB=>by kernel_rfl) h
noncomputable def jZ.h:HC:=aK (bd Tryz.f129) []
def jZ.T (p:Option Addr) (r_0 r_1:Int) (R:VP) (M:Mem):Prop:=aH pr (fun _ _ _ _=>False) R (gX PP jZ.h [] [] (gR Tryz.f129) [(0,.ptr (.v p)),(1,.agg [.int .i64 (.v r_0),.int .i64 (.v r_1)])] M)
theorem jZ.go (p:Option Addr) (r_0 r_1:Int) (h:jZ.T (aJ PP w0) p r_0 r_1 R M):C PP w0 Id.jZ #[.pointer p,.agg #[.int .i64 r_0,.int .i64 r_1]] R M :=
  cW mixed (h:=jZ.h) (T:=fun pr aB=>jZ.T pr p r_0 r_1 R M) Tryz.func129 (cV _ _) (by kernel_rfl) (fun pr aB=>by kernel_rfl) fun _ _=>h
noncomputable def fV.h:HC:=aK (bd Tryz.f130) []
def fV.T (s:SV) (R:VP) (M:Mem):Prop:=aH pr (fun _ _ _ _=>False) R (gX PP fV.h [] [] (gR Tryz.f130) [(0,.sv s)] M)
theorem fV.go (s:SV) (h:fV.T (aJ PP w0) s R M):C PP w0 Id.fV #[SV.v s] R M :=
  cW mixed (h:=fV.h) (T:=fun pr aB=>fV.T pr s R M) Tryz.func130 (cV _ _) (by kernel_rfl) (fun pr aB=>by kernel_rfl) fun _ _=>h
noncomputable def bP.h:HC:=aK (bd Tryz.f131) []
def bP.T (x:SV) (cmp:FuncId × Array Value) (R:VP) (M:Mem):Prop:=aH pr (fun _ _ _ _=>False) R (gX PP bP.h [] [] (gR Tryz.f131) [(0,.sv x),(1,.kf cmp)] M)
theorem bP.go (x:SV) (cmp:FuncId × Array Value) (h:bP.T (aJ PP w0) x cmp R M):C PP w0 Id.bP #[SV.v x,.func (.func cmp.1) #[] cmp.2] R M :=
  cW mixed (h:=bP.h) (T:=fun pr aB=>bP.T pr x cmp R M) Tryz.func131 (cV _ _) (by kernel_rfl) (fun pr aB=>by kernel_rfl) fun _ _=>h
noncomputable def bQ.h:HC:=aK (bd Tryz.f132) []
def bQ.T (a_0 a_1 b_0 b_1:Int) (R:VP) (M:Mem):Prop:=aH pr (fun _ _ _ _=>False) R (gX PP bQ.h [] [] (gR Tryz.f132) [(0,.agg [.int .i64 (.v a_0),.int .i64 (.v a_1)]),(1,.agg [.int .i64 (.v b_0),.int .i64 (.v b_1)])] M)
theorem bQ.go (a_0 a_1 b_0 b_1:Int) (h:bQ.T (aJ PP w0) a_0 a_1 b_0 b_1 R M):C PP w0 Id.bQ #[.agg #[.int .i64 a_0,.int .i64 a_1],.agg #[.int .i64 b_0,.int .i64 b_1]] R M :=
  cW mixed (h:=bQ.h) (T:=fun pr aB=>bQ.T pr a_0 a_1 b_0 b_1 R M) Tryz.func132 (cV _ _) (by kernel_rfl) (fun pr aB=>by kernel_rfl) fun _ _=>h
noncomputable def iI.h:HC:=aK (bd Tryz.f133) []
def iI.T (a_0 a_1 b_0 b_1:Int) (R:VP) (M:Mem):Prop:=aH pr (fun _ _ _ _=>False) R (gX PP iI.h [] [] (gR Tryz.f133) [(0,.agg [.int .i64 (.v a_0),.int .i64 (.v a_1)]),(1,.agg [.int .i64 (.v b_0),.int .i64 (.v b_1)])] M)
theorem iI.go (a_0 a_1 b_0 b_1:Int) (h:iI.T (aJ PP w0) a_0 a_1 b_0 b_1 R M):C PP w0 Id.iI #[.agg #[.int .i64 a_0,.int .i64 a_1],.agg #[.int .i64 b_0,.int .i64 b_1]] R M :=
  cW mixed (h:=iI.h) (T:=fun pr aB=>iI.T pr a_0 a_1 b_0 b_1 R M) Tryz.func133 (cV _ _) (by kernel_rfl) (fun pr aB=>by kernel_rfl) fun _ _=>h
noncomputable def gS.h:HC:=aK (bd Tryz.f134) [([true,true,true],[0,4])]
def gS.Is (R:VP):Prop:=nX PP pr aB gS.h Tryz.f134 R
abbrev gS.J1 (a_0:Option Addr) (c_4:Int) (M:Mem):Prop:=aB [true,true,true,true] [] [(0,.pointer a_0),(4,.int .i64 c_4)] M
def gS.J1.T (a_0:Option Addr) (c_4:Int) (R:VP) (M:Mem):Prop:=aH pr aB R (bD PP gS.h (gR Tryz.f134) [true,true,true,true] [] [(0,.ptr (.v a_0)),(4,.int .i64 (.v c_4))] M)
theorem gS.Is.J1 {pr:Prim} {aB:eA} (H:gS.Is pr aB R) (a_0:Option Addr) (c_4:Int) (M:Mem):gS.J1 aB a_0 c_4 M = gS.J1.T pr aB a_0 c_4 R M:=(H _ _ _ _ _ rfl).trans (by kernel_rfl)
def gS.T (a:Option Addr) (R:VP) (M:Mem):Prop:=aH pr aB R (gX PP gS.h [] [] (gR Tryz.f134) [(0,.ptr (.v a))] M)
theorem gS.go (a:Option Addr) (h:∀ aB,gS.Is (aJ PP w0) aB R→gS.T (aJ PP w0) aB a R M):C PP w0 Id.gS #[.pointer a] R M :=
  cW mixed (h:=gS.h) (T:=fun pr aB=>gS.T pr aB a R M) Tryz.func134 (cV _ _) (by kernel_rfl) (fun pr aB=>by kernel_rfl) h
noncomputable def pT.h:HC:=aK (bd Tryz.f135) []
def pT.T (a:Option Addr) (c field v:Int) (R:VP) (M:Mem):Prop:=aH pr (fun _ _ _ _=>False) R (gX PP pT.h [] [] (gR Tryz.f135) [(0,.ptr (.v a)),(1,.int .i64 (.v c)),(2,.int .i64 (.v field)),(3,.int .i64 (.v v))] M)
theorem pT.go (a:Option Addr) (c field v:Int) (h:pT.T (aJ PP w0) a c field v R M):C PP w0 Id.pT #[.pointer a,.int .i64 c,.int .i64 field,.int .i64 v] R M :=
  cW mixed (h:=pT.h) (T:=fun pr aB=>pT.T pr a c field v R M) Tryz.func135 (cV _ _) (by kernel_rfl) (fun pr aB=>by kernel_rfl) fun _ _=>h
noncomputable def pP.h:HC:=aK (bd Tryz.f136) []
def pP.T (a:Option Addr) (r i:Int) (R:VP) (M:Mem):Prop:=aH pr (fun _ _ _ _=>False) R (gX PP pP.h [] [] (gR Tryz.f136) [(0,.ptr (.v a)),(1,.int .i64 (.v r)),(2,.int .i64 (.v i))] M)
theorem pP.go (a:Option Addr) (r i:Int) (h:pP.T (aJ PP w0) a r i R M):C PP w0 Id.pP #[.pointer a,.int .i64 r,.int .i64 i] R M :=
  cW mixed (h:=pP.h) (T:=fun pr aB=>pP.T pr a r i R M) Tryz.func136 (cV _ _) (by kernel_rfl) (fun pr aB=>by kernel_rfl) fun _ _=>h
noncomputable def pO.h:HC:=aK (bd Tryz.f137) []
def pO.T (a:Option Addr) (r i:Int) (R:VP) (M:Mem):Prop:=aH pr (fun _ _ _ _=>False) R (gX PP pO.h [] [] (gR Tryz.f137) [(0,.ptr (.v a)),(1,.int .i64 (.v r)),(2,.int .i64 (.v i))] M)
theorem pO.go (a:Option Addr) (r i:Int) (h:pO.T (aJ PP w0) a r i R M):C PP w0 Id.pO #[.pointer a,.int .i64 r,.int .i64 i] R M :=
  cW mixed (h:=pO.h) (T:=fun pr aB=>pO.T pr a r i R M) Tryz.func137 (cV _ _) (by kernel_rfl) (fun pr aB=>by kernel_rfl) fun _ _=>h
noncomputable def kU.h:HC:=aK (bd Tryz.f138) []
def kU.T (a:Option Addr) (r i:Int) (R:VP) (M:Mem):Prop:=aH pr (fun _ _ _ _=>False) R (gX PP kU.h [] [] (gR Tryz.f138) [(0,.ptr (.v a)),(1,.int .i64 (.v r)),(2,.int .i64 (.v i))] M)
theorem kU.go (a:Option Addr) (r i:Int) (h:kU.T (aJ PP w0) a r i R M):C PP w0 Id.kU #[.pointer a,.int .i64 r,.int .i64 i] R M :=
  cW mixed (h:=kU.h) (T:=fun pr aB=>kU.T pr a r i R M) Tryz.func138 (cV _ _) (by kernel_rfl) (fun pr aB=>by kernel_rfl) fun _ _=>h
noncomputable def gT.h:HC:=aK (bd Tryz.f141) []
def gT.T (p:Option Addr) (R:VP) (M:Mem):Prop:=aH pr (fun _ _ _ _=>False) R (gX PP gT.h [] [] (gR Tryz.f141) [(0,.ptr (.v p))] M)
theorem gT.go (p:Option Addr) (h:gT.T (aJ PP w0) p R M):C PP w0 Id.gT #[.pointer p] R M :=
  cW mixed (h:=gT.h) (T:=fun pr aB=>gT.T pr p R M) Tryz.func141 (cV _ _) (by kernel_rfl) (fun pr aB=>by kernel_rfl) fun _ _=>h
noncomputable def c7.h:HC:=aK (bd Tryz.f142) [([true,true],[0,3,4,6])]
def c7.Is (R:VP):Prop:=nX PP pr aB c7.h Tryz.f142 R
abbrev c7.J1 (p_0:Option Addr) (v_3:Addr) (t4:Addr) (at_6:Int) (M:Mem):Prop:=aB [true,true,true] [] [(0,.pointer p_0),(3,.pointer (some v_3)),(4,.pointer (some t4)),(6,.int .i64 at_6)] M
def c7.J1.T (p_0:Option Addr) (v_3:Addr) (t4:Addr) (at_6:Int) (R:VP) (M:Mem):Prop:=aH pr aB R (bD PP c7.h (gR Tryz.f142) [true,true,true] [] [(0,.ptr (.v p_0)),(3,.ptr (.a (.v v_3))),(4,.ptr (.a (.v t4))),(6,.int .i64 (.v at_6))] M)
theorem c7.Is.J1 {pr:Prim} {aB:eA} (H:c7.Is pr aB R) (p_0:Option Addr) (v_3:Addr) (t4:Addr) (at_6:Int) (M:Mem):c7.J1 aB p_0 v_3 t4 at_6 M = c7.J1.T pr aB p_0 v_3 t4 at_6 R M:=(H _ _ _ _ _ rfl).trans (by kernel_rfl)
def c7.T (p:Option Addr) (v_0 v_1 v_2:Int) (R:VP) (M:Mem):Prop:=aH pr aB R (gX PP c7.h [] [] (gR Tryz.f142) [(0,.ptr (.v p)),(1,.agg [.int .i64 (.v v_0),.int .i64 (.v v_1),.int .i64 (.v v_2)])] M)
theorem c7.go (p:Option Addr) (v_0 v_1 v_2:Int) (h:∀ aB,c7.Is (aJ PP w0) aB R→c7.T (aJ PP w0) aB p v_0 v_1 v_2 R M):C PP w0 Id.c7 #[.pointer p,.agg #[.int .i64 v_0,.int .i64 v_1,.int .i64 v_2]] R M :=
  cW mixed (h:=c7.h) (T:=fun pr aB=>c7.T pr aB p v_0 v_1 v_2 R M) Tryz.func142 (cV _ _) (by kernel_rfl) (fun pr aB=>by kernel_rfl) h
noncomputable def kI.h:HC:=aK (bd Tryz.f143) []
def kI.T (p:Option Addr) (r_0 r_1 v_0 v_1 v_2:Int) (R:VP) (M:Mem):Prop:=aH pr (fun _ _ _ _=>False) R (gX PP kI.h [] [] (gR Tryz.f143) [(0,.ptr (.v p)),(1,.agg [.int .i64 (.v r_0),.int .i64 (.v r_1)]),(2,.agg [.int .i64 (.v v_0),.int .i64 (.v v_1),.int .i64 (.v v_2)])] M)
theorem kI.go (p:Option Addr) (r_0 r_1 v_0 v_1 v_2:Int) (h:kI.T (aJ PP w0) p r_0 r_1 v_0 v_1 v_2 R M):C PP w0 Id.kI #[.pointer p,.agg #[.int .i64 r_0,.int .i64 r_1],.agg #[.int .i64 v_0,.int .i64 v_1,.int .i64 v_2]] R M :=
  cW mixed (h:=kI.h) (T:=fun pr aB=>kI.T pr p r_0 r_1 v_0 v_1 v_2 R M) Tryz.func143 (cV _ _) (by kernel_rfl) (fun pr aB=>by kernel_rfl) fun _ _=>h
noncomputable def rM.h:HC:=aK (bd Tryz.f144) []
def rM.T (a:Option Addr) (r:Int) (R:VP) (M:Mem):Prop:=aH pr (fun _ _ _ _=>False) R (gX PP rM.h [] [] (gR Tryz.f144) [(0,.ptr (.v a)),(1,.int .i64 (.v r))] M)
theorem rM.go (a:Option Addr) (r:Int) (h:rM.T (aJ PP w0) a r R M):C PP w0 Id.rM #[.pointer a,.int .i64 r] R M :=
  cW mixed (h:=rM.h) (T:=fun pr aB=>rM.T pr a r R M) Tryz.func144 (cV _ _) (by kernel_rfl) (fun pr aB=>by kernel_rfl) fun _ _=>h
noncomputable def rO.h:HC:=aK (bd Tryz.f145) []
def rO.T (a:Option Addr) (r:Int) (R:VP) (M:Mem):Prop:=aH pr (fun _ _ _ _=>False) R (gX PP rO.h [] [] (gR Tryz.f145) [(0,.ptr (.v a)),(1,.int .i64 (.v r))] M)
theorem rO.go (a:Option Addr) (r:Int) (h:rO.T (aJ PP w0) a r R M):C PP w0 Id.rO #[.pointer a,.int .i64 r] R M :=
  cW mixed (h:=rO.h) (T:=fun pr aB=>rO.T pr a r R M) Tryz.func145 (cV _ _) (by kernel_rfl) (fun pr aB=>by kernel_rfl) fun _ _=>h
noncomputable def mX.h:HC:=aK (bd Tryz.f146) []
def mX.T (a:Option Addr) (r:Int) (R:VP) (M:Mem):Prop:=aH pr (fun _ _ _ _=>False) R (gX PP mX.h [] [] (gR Tryz.f146) [(0,.ptr (.v a)),(1,.int .i64 (.v r))] M)
theorem mX.go (a:Option Addr) (r:Int) (h:mX.T (aJ PP w0) a r R M):C PP w0 Id.mX #[.pointer a,.int .i64 r] R M :=
  cW mixed (h:=mX.h) (T:=fun pr aB=>mX.T pr a r R M) Tryz.func146 (cV _ _) (by kernel_rfl) (fun pr aB=>by kernel_rfl) fun _ _=>h
noncomputable def iM.h:HC:=aK (bd Tryz.f149) [([true],[0,1])]
def iM.Is (R:VP):Prop:=nX PP pr aB iM.h Tryz.f149 R
abbrev iM.J1 (a_0:Option Addr) (r_1:Int) (M:Mem):Prop:=aB [true,true] [] [(0,.pointer a_0),(1,.int .i64 r_1)] M
def iM.J1.T (a_0:Option Addr) (r_1:Int) (R:VP) (M:Mem):Prop:=aH pr aB R (bD PP iM.h (gR Tryz.f149) [true,true] [] [(0,.ptr (.v a_0)),(1,.int .i64 (.v r_1))] M)
theorem iM.Is.J1 {pr:Prim} {aB:eA} (H:iM.Is pr aB R) (a_0:Option Addr) (r_1:Int) (M:Mem):iM.J1 aB a_0 r_1 M = iM.J1.T pr aB a_0 r_1 R M:=(H _ _ _ _ _ rfl).trans (by kernel_rfl)
def iM.T (a:Option Addr) (r:Int) (R:VP) (M:Mem):Prop:=aH pr aB R (gX PP iM.h [] [] (gR Tryz.f149) [(0,.ptr (.v a)),(1,.int .i64 (.v r))] M)
theorem iM.go (a:Option Addr) (r:Int) (h:∀ aB,iM.Is (aJ PP w0) aB R→iM.T (aJ PP w0) aB a r R M):C PP w0 Id.iM #[.pointer a,.int .i64 r] R M :=
  cW mixed (h:=iM.h) (T:=fun pr aB=>iM.T pr aB a r R M) Tryz.func149 (cV _ _) (by kernel_rfl) (fun pr aB=>by kernel_rfl) h
noncomputable def jT.h:HC:=aK (bd Tryz.f150) [([true],[0,1])]
def jT.Is (R:VP):Prop:=nX PP pr aB jT.h Tryz.f150 R
abbrev jT.J1 (a_0:Option Addr) (r_1:Int) (M:Mem):Prop:=aB [true,true] [] [(0,.pointer a_0),(1,.int .i64 r_1)] M
def jT.J1.T (a_0:Option Addr) (r_1:Int) (R:VP) (M:Mem):Prop:=aH pr aB R (bD PP jT.h (gR Tryz.f150) [true,true] [] [(0,.ptr (.v a_0)),(1,.int .i64 (.v r_1))] M)
theorem jT.Is.J1 {pr:Prim} {aB:eA} (H:jT.Is pr aB R) (a_0:Option Addr) (r_1:Int) (M:Mem):jT.J1 aB a_0 r_1 M = jT.J1.T pr aB a_0 r_1 R M:=(H _ _ _ _ _ rfl).trans (by kernel_rfl)
def jT.T (a:Option Addr) (r:Int) (R:VP) (M:Mem):Prop:=aH pr aB R (gX PP jT.h [] [] (gR Tryz.f150) [(0,.ptr (.v a)),(1,.int .i64 (.v r))] M)
theorem jT.go (a:Option Addr) (r:Int) (h:∀ aB,jT.Is (aJ PP w0) aB R→jT.T (aJ PP w0) aB a r R M):C PP w0 Id.jT #[.pointer a,.int .i64 r] R M :=
  cW mixed (h:=jT.h) (T:=fun pr aB=>jT.T pr aB a r R M) Tryz.func150 (cV _ _) (by kernel_rfl) (fun pr aB=>by kernel_rfl) h
noncomputable def fH.h:HC:=aK (bd Tryz.f151) [([true],[0,1])]
def fH.Is (R:VP):Prop:=nX PP pr aB fH.h Tryz.f151 R
abbrev fH.J1 (a_0:Option Addr) (r_1:Int) (M:Mem):Prop:=aB [true,true] [] [(0,.pointer a_0),(1,.int .i64 r_1)] M
def fH.J1.T (a_0:Option Addr) (r_1:Int) (R:VP) (M:Mem):Prop:=aH pr aB R (bD PP fH.h (gR Tryz.f151) [true,true] [] [(0,.ptr (.v a_0)),(1,.int .i64 (.v r_1))] M)
theorem fH.Is.J1 {pr:Prim} {aB:eA} (H:fH.Is pr aB R) (a_0:Option Addr) (r_1:Int) (M:Mem):fH.J1 aB a_0 r_1 M = fH.J1.T pr aB a_0 r_1 R M:=(H _ _ _ _ _ rfl).trans (by kernel_rfl)
def fH.T (a:Option Addr) (r:Int) (R:VP) (M:Mem):Prop:=aH pr aB R (gX PP fH.h [] [] (gR Tryz.f151) [(0,.ptr (.v a)),(1,.int .i64 (.v r))] M)
theorem fH.go (a:Option Addr) (r:Int) (h:∀ aB,fH.Is (aJ PP w0) aB R→fH.T (aJ PP w0) aB a r R M):C PP w0 Id.fH #[.pointer a,.int .i64 r] R M :=
  cW mixed (h:=fH.h) (T:=fun pr aB=>fH.T pr aB a r R M) Tryz.func151 (cV _ _) (by kernel_rfl) (fun pr aB=>by kernel_rfl) h
noncomputable def oS.h:HC:=aK (bd Tryz.f154) []
def oS.T (t:Option Addr) (i_0 i_1:Int) (R:VP) (M:Mem):Prop:=aH pr (fun _ _ _ _=>False) R (gX PP oS.h [] [] (gR Tryz.f154) [(0,.ptr (.v t)),(1,.agg [.int .i64 (.v i_0),.int .i64 (.v i_1)])] M)
theorem oS.go (t:Option Addr) (i_0 i_1:Int) (h:oS.T (aJ PP w0) t i_0 i_1 R M):C PP w0 Id.oS #[.pointer t,.agg #[.int .i64 i_0,.int .i64 i_1]] R M :=
  cW mixed (h:=oS.h) (T:=fun pr aB=>oS.T pr t i_0 i_1 R M) Tryz.func154 (cV _ _) (by kernel_rfl) (fun pr aB=>by kernel_rfl) fun _ _=>h
noncomputable def oK.h:HC:=aK (bd Tryz.f155) []
def oK.T (a:Option Addr) (c:Int) (R:VP) (M:Mem):Prop:=aH pr (fun _ _ _ _=>False) R (gX PP oK.h [] [] (gR Tryz.f155) [(0,.ptr (.v a)),(1,.int .i64 (.v c))] M)
theorem oK.go (a:Option Addr) (c:Int) (h:oK.T (aJ PP w0) a c R M):C PP w0 Id.oK #[.pointer a,.int .i64 c] R M :=
  cW mixed (h:=oK.h) (T:=fun pr aB=>oK.T pr a c R M) Tryz.func155 (cV _ _) (by kernel_rfl) (fun pr aB=>by kernel_rfl) fun _ _=>h
noncomputable def j0.h:HC:=aK (bd Tryz.f156) []
def j0.T (p:Option Addr) (r_0 r_1:Int) (R:VP) (M:Mem):Prop:=aH pr (fun _ _ _ _=>False) R (gX PP j0.h [] [] (gR Tryz.f156) [(0,.ptr (.v p)),(1,.agg [.int .i64 (.v r_0),.int .i64 (.v r_1)])] M)
theorem j0.go (p:Option Addr) (r_0 r_1:Int) (h:j0.T (aJ PP w0) p r_0 r_1 R M):C PP w0 Id.j0 #[.pointer p,.agg #[.int .i64 r_0,.int .i64 r_1]] R M :=
  cW mixed (h:=j0.h) (T:=fun pr aB=>j0.T pr p r_0 r_1 R M) Tryz.func156 (cV _ _) (by kernel_rfl) (fun pr aB=>by kernel_rfl) fun _ _=>h
noncomputable def rU.h:HC:=aK (bd Tryz.f157) []
def rU.T (a:Option Addr) (c field:Int) (R:VP) (M:Mem):Prop:=aH pr (fun _ _ _ _=>False) R (gX PP rU.h [] [] (gR Tryz.f157) [(0,.ptr (.v a)),(1,.int .i64 (.v c)),(2,.int .i64 (.v field))] M)
theorem rU.go (a:Option Addr) (c field:Int) (h:rU.T (aJ PP w0) a c field R M):C PP w0 Id.rU #[.pointer a,.int .i64 c,.int .i64 field] R M :=
  cW mixed (h:=rU.h) (T:=fun pr aB=>rU.T pr a c field R M) Tryz.func157 (cV _ _) (by kernel_rfl) (fun pr aB=>by kernel_rfl) fun _ _=>h
noncomputable def gY.h:HC:=aK (bd Tryz.f158) [([true,true,true],[0,1,7])]
def gY.Is (R:VP):Prop:=nX PP pr aB gY.h Tryz.f158 R
abbrev gY.J1 (a_0:Option Addr) (r_1 n_7:Int) (M:Mem):Prop:=aB [true,true,true,true] [] [(0,.pointer a_0),(1,.int .i64 r_1),(7,.int .i64 n_7)] M
def gY.J1.T (a_0:Option Addr) (r_1 n_7:Int) (R:VP) (M:Mem):Prop:=aH pr aB R (bD PP gY.h (gR Tryz.f158) [true,true,true,true] [] [(0,.ptr (.v a_0)),(1,.int .i64 (.v r_1)),(7,.int .i64 (.v n_7))] M)
theorem gY.Is.J1 {pr:Prim} {aB:eA} (H:gY.Is pr aB R) (a_0:Option Addr) (r_1 n_7:Int) (M:Mem):gY.J1 aB a_0 r_1 n_7 M = gY.J1.T pr aB a_0 r_1 n_7 R M:=(H _ _ _ _ _ rfl).trans (by kernel_rfl)
def gY.T (a:Option Addr) (r i:Int) (R:VP) (M:Mem):Prop:=aH pr aB R (gX PP gY.h [] [] (gR Tryz.f158) [(0,.ptr (.v a)),(1,.int .i64 (.v r)),(2,.int .i64 (.v i))] M)
theorem gY.go (a:Option Addr) (r i:Int) (h:∀ aB,gY.Is (aJ PP w0) aB R→gY.T (aJ PP w0) aB a r i R M):C PP w0 Id.gY #[.pointer a,.int .i64 r,.int .i64 i] R M :=
  cW mixed (h:=gY.h) (T:=fun pr aB=>gY.T pr aB a r i R M) Tryz.func158 (cV _ _) (by kernel_rfl) (fun pr aB=>by kernel_rfl) h
noncomputable def oW.h:HC:=aK (bd Tryz.f159) []
def oW.T (a:Option Addr) (r i:Int) (R:VP) (M:Mem):Prop:=aH pr (fun _ _ _ _=>False) R (gX PP oW.h [] [] (gR Tryz.f159) [(0,.ptr (.v a)),(1,.int .i64 (.v r)),(2,.int .i64 (.v i))] M)
theorem oW.go (a:Option Addr) (r i:Int) (h:oW.T (aJ PP w0) a r i R M):C PP w0 Id.oW #[.pointer a,.int .i64 r,.int .i64 i] R M :=
  cW mixed (h:=oW.h) (T:=fun pr aB=>oW.T pr a r i R M) Tryz.func159 (cV _ _) (by kernel_rfl) (fun pr aB=>by kernel_rfl) fun _ _=>h
noncomputable def lG.h:HC:=aK (bd Tryz.f160) []
def lG.T (a:Option Addr) (r i:Int) (R:VP) (M:Mem):Prop:=aH pr (fun _ _ _ _=>False) R (gX PP lG.h [] [] (gR Tryz.f160) [(0,.ptr (.v a)),(1,.int .i64 (.v r)),(2,.int .i64 (.v i))] M)
theorem lG.go (a:Option Addr) (r i:Int) (h:lG.T (aJ PP w0) a r i R M):C PP w0 Id.lG #[.pointer a,.int .i64 r,.int .i64 i] R M :=
  cW mixed (h:=lG.h) (T:=fun pr aB=>lG.T pr a r i R M) Tryz.func160 (cV _ _) (by kernel_rfl) (fun pr aB=>by kernel_rfl) fun _ _=>h
noncomputable def jX.h:HC:=aK (bd Tryz.f163) [([true,true,true,true],[0,1,7])]
def jX.Is (R:VP):Prop:=nX PP pr aB jX.h Tryz.f163 R
abbrev jX.J1 (a_0:Option Addr) (r_1 n_7:Int) (M:Mem):Prop:=aB [true,true,true,true,true] [] [(0,.pointer a_0),(1,.int .i64 r_1),(7,.int .i64 n_7)] M
def jX.J1.T (a_0:Option Addr) (r_1 n_7:Int) (R:VP) (M:Mem):Prop:=aH pr aB R (bD PP jX.h (gR Tryz.f163) [true,true,true,true,true] [] [(0,.ptr (.v a_0)),(1,.int .i64 (.v r_1)),(7,.int .i64 (.v n_7))] M)
theorem jX.Is.J1 {pr:Prim} {aB:eA} (H:jX.Is pr aB R) (a_0:Option Addr) (r_1 n_7:Int) (M:Mem):jX.J1 aB a_0 r_1 n_7 M = jX.J1.T pr aB a_0 r_1 n_7 R M:=(H _ _ _ _ _ rfl).trans (by kernel_rfl)
def jX.T (a:Option Addr) (r i:Int) (R:VP) (M:Mem):Prop:=aH pr aB R (gX PP jX.h [] [] (gR Tryz.f163) [(0,.ptr (.v a)),(1,.int .i64 (.v r)),(2,.int .i64 (.v i))] M)
theorem jX.go (a:Option Addr) (r i:Int) (h:∀ aB,jX.Is (aJ PP w0) aB R→jX.T (aJ PP w0) aB a r i R M):C PP w0 Id.jX #[.pointer a,.int .i64 r,.int .i64 i] R M :=
  cW mixed (h:=jX.h) (T:=fun pr aB=>jX.T pr aB a r i R M) Tryz.func163 (cV _ _) (by kernel_rfl) (fun pr aB=>by kernel_rfl) h
noncomputable def sC.h:HC:=aK (bd Tryz.f164) []
def sC.T (a:Option Addr) (r i:Int) (R:VP) (M:Mem):Prop:=aH pr (fun _ _ _ _=>False) R (gX PP sC.h [] [] (gR Tryz.f164) [(0,.ptr (.v a)),(1,.int .i64 (.v r)),(2,.int .i64 (.v i))] M)
theorem sC.go (a:Option Addr) (r i:Int) (h:sC.T (aJ PP w0) a r i R M):C PP w0 Id.sC #[.pointer a,.int .i64 r,.int .i64 i] R M :=
  cW mixed (h:=sC.h) (T:=fun pr aB=>sC.T pr a r i R M) Tryz.func164 (cV _ _) (by kernel_rfl) (fun pr aB=>by kernel_rfl) fun _ _=>h
noncomputable def mN.h:HC:=aK (bd Tryz.f165) []
def mN.T (a:Option Addr) (r i:Int) (R:VP) (M:Mem):Prop:=aH pr (fun _ _ _ _=>False) R (gX PP mN.h [] [] (gR Tryz.f165) [(0,.ptr (.v a)),(1,.int .i64 (.v r)),(2,.int .i64 (.v i))] M)
theorem mN.go (a:Option Addr) (r i:Int) (h:mN.T (aJ PP w0) a r i R M):C PP w0 Id.mN #[.pointer a,.int .i64 r,.int .i64 i] R M :=
  cW mixed (h:=mN.h) (T:=fun pr aB=>mN.T pr a r i R M) Tryz.func165 (cV _ _) (by kernel_rfl) (fun pr aB=>by kernel_rfl) fun _ _=>h
end
end HL
namespace HL
section
variable (pr:Prim) (aB:eA) (w0:World) {R:VP} {M:Mem}
noncomputable def kM.h:HC:=aK (bd Tryz.f168) []
def kM.T (p:Option Addr) (r_0 r_1 v_0 v_1 v_2:Int) (R:VP) (M:Mem):Prop:=aH pr (fun _ _ _ _=>False) R (gX PP kM.h [] [] (gR Tryz.f168) [(0,.ptr (.v p)),(1,.agg [.int .i64 (.v r_0),.int .i64 (.v r_1)]),(2,.agg [.int .i64 (.v v_0),.int .i64 (.v v_1),.int .i64 (.v v_2)])] M)
theorem kM.go (p:Option Addr) (r_0 r_1 v_0 v_1 v_2:Int) (h:kM.T (aJ PP w0) p r_0 r_1 v_0 v_1 v_2 R M):C PP w0 Id.kM #[.pointer p,.agg #[.int .i64 r_0,.int .i64 r_1],.agg #[.int .i64 v_0,.int .i64 v_1,.int .i64 v_2]] R M :=
  cW mixed (h:=kM.h) (T:=fun pr aB=>kM.T pr p r_0 r_1 v_0 v_1 v_2 R M) Tryz.func168 (cV _ _) (by kernel_rfl) (fun pr aB=>by kernel_rfl) fun _ _=>h
noncomputable def jI.h:HC:=aK (bd Tryz.f169) []
def jI.T (p:Option Addr) (r_0 r_1:Int) (R:VP) (M:Mem):Prop:=aH pr (fun _ _ _ _=>False) R (gX PP jI.h [] [] (gR Tryz.f169) [(0,.ptr (.v p)),(1,.agg [.int .i64 (.v r_0),.int .i64 (.v r_1)])] M)
theorem jI.go (p:Option Addr) (r_0 r_1:Int) (h:jI.T (aJ PP w0) p r_0 r_1 R M):C PP w0 Id.jI #[.pointer p,.agg #[.int .i64 r_0,.int .i64 r_1]] R M :=
  cW mixed (h:=jI.h) (T:=fun pr aB=>jI.T pr p r_0 r_1 R M) Tryz.func169 (cV _ _) (by kernel_rfl) (fun pr aB=>by kernel_rfl) fun _ _=>h
noncomputable def oH.h:HC:=aK (bd Tryz.f170) []
def oH.T (a:Option Addr) (r s:Int) (R:VP) (M:Mem):Prop:=aH pr (fun _ _ _ _=>False) R (gX PP oH.h [] [] (gR Tryz.f170) [(0,.ptr (.v a)),(1,.int .i64 (.v r)),(2,.int .i64 (.v s))] M)
theorem oH.go (a:Option Addr) (r s:Int) (h:oH.T (aJ PP w0) a r s R M):C PP w0 Id.oH #[.pointer a,.int .i64 r,.int .i64 s] R M :=
  cW mixed (h:=oH.h) (T:=fun pr aB=>oH.T pr a r s R M) Tryz.func170 (cV _ _) (by kernel_rfl) (fun pr aB=>by kernel_rfl) fun _ _=>h
noncomputable def oV.h:HC:=aK (bd Tryz.f171) []
def oV.T (a:Option Addr) (r s:Int) (R:VP) (M:Mem):Prop:=aH pr (fun _ _ _ _=>False) R (gX PP oV.h [] [] (gR Tryz.f171) [(0,.ptr (.v a)),(1,.int .i64 (.v r)),(2,.int .i64 (.v s))] M)
theorem oV.go (a:Option Addr) (r s:Int) (h:oV.T (aJ PP w0) a r s R M):C PP w0 Id.oV #[.pointer a,.int .i64 r,.int .i64 s] R M :=
  cW mixed (h:=oV.h) (T:=fun pr aB=>oV.T pr a r s R M) Tryz.func171 (cV _ _) (by kernel_rfl) (fun pr aB=>by kernel_rfl) fun _ _=>h
noncomputable def kG.h:HC:=aK (bd Tryz.f172) []
def kG.T (a:Option Addr) (r s:Int) (R:VP) (M:Mem):Prop:=aH pr (fun _ _ _ _=>False) R (gX PP kG.h [] [] (gR Tryz.f172) [(0,.ptr (.v a)),(1,.int .i64 (.v r)),(2,.int .i64 (.v s))] M)
theorem kG.go (a:Option Addr) (r s:Int) (h:kG.T (aJ PP w0) a r s R M):C PP w0 Id.kG #[.pointer a,.int .i64 r,.int .i64 s] R M :=
  cW mixed (h:=kG.h) (T:=fun pr aB=>kG.T pr a r s R M) Tryz.func172 (cV _ _) (by kernel_rfl) (fun pr aB=>by kernel_rfl) fun _ _=>h
noncomputable def dB.h:HC:=aK (bd Tryz.f175) [([true],[0,3])]
def dB.Is (R:VP):Prop:=nX PP pr aB dB.h Tryz.f175 R
abbrev dB.J1 (p_0:Option Addr) (r_3:Addr) (M:Mem):Prop:=aB [true,true] [] [(0,.pointer p_0),(3,.pointer (some r_3))] M
def dB.J1.T (p_0:Option Addr) (r_3:Addr) (R:VP) (M:Mem):Prop:=aH pr aB R (bD PP dB.h (gR Tryz.f175) [true,true] [] [(0,.ptr (.v p_0)),(3,.ptr (.a (.v r_3)))] M)
theorem dB.Is.J1 {pr:Prim} {aB:eA} (H:dB.Is pr aB R) (p_0:Option Addr) (r_3:Addr) (M:Mem):dB.J1 aB p_0 r_3 M = dB.J1.T pr aB p_0 r_3 R M:=(H _ _ _ _ _ rfl).trans (by kernel_rfl)
def dB.T (p:Option Addr) (r_0 r_1:Int) (R:VP) (M:Mem):Prop:=aH pr aB R (gX PP dB.h [] [] (gR Tryz.f175) [(0,.ptr (.v p)),(1,.agg [.int .i64 (.v r_0),.int .i64 (.v r_1)])] M)
theorem dB.go (p:Option Addr) (r_0 r_1:Int) (h:∀ aB,dB.Is (aJ PP w0) aB R→dB.T (aJ PP w0) aB p r_0 r_1 R M):C PP w0 Id.dB #[.pointer p,.agg #[.int .i64 r_0,.int .i64 r_1]] R M :=
  cW mixed (h:=dB.h) (T:=fun pr aB=>dB.T pr aB p r_0 r_1 R M) Tryz.func175 (cV _ _) (by kernel_rfl) (fun pr aB=>by kernel_rfl) h
noncomputable def dJ.h:HC:=aK (bd Tryz.f181) [([true,true,false,true,false],[3,9,10,11])]
def dJ.Is (R:VP):Prop:=nX PP pr aB dJ.h Tryz.f181 R
abbrev dJ.L1 (k:Nat) (out_3 t9:SV) (t10 t11:Int) (M:Mem):Prop:=aB [false,false,true,false,true,true] [k] [(3,SV.v out_3),(9,SV.v t9),(10,.int .i64 t10),(11,.int .i64 t11)] M
def dJ.L1.T (k:Nat) (out_3 t9:SV) (t10 t11:Int) (R:VP) (M:Mem):Prop:=aH pr aB R (bD PP dJ.h (gR Tryz.f181) [false,false,true,false,true,true] [k] [(3,.sv out_3),(9,.sv t9),(10,.int .i64 (.v t10)),(11,.int .i64 (.v t11))] M)
theorem dJ.Is.L1 {pr:Prim} {aB:eA} (H:dJ.Is pr aB R) (k:Nat) (out_3 t9:SV) (t10 t11:Int) (M:Mem):dJ.L1 aB (k + 1) out_3 t9 t10 t11 M = dJ.L1.T pr aB k out_3 t9 t10 t11 R M:=(H _ _ _ _ _ rfl).trans (by kernel_rfl)
def dJ.T (p:Option Addr) (R:VP) (M:Mem):Prop:=aH pr aB R (gX PP dJ.h [] [] (gR Tryz.f181) [(0,.ptr (.v p))] M)
theorem dJ.go (p:Option Addr) (h:∀ aB,dJ.Is (aJ PP w0) aB R→dJ.T (aJ PP w0) aB p R M):C PP w0 Id.dJ #[.pointer p] R M :=
  cW mixed (h:=dJ.h) (T:=fun pr aB=>dJ.T pr aB p R M) Tryz.func181 (cV _ _) (by kernel_rfl) (fun pr aB=>by kernel_rfl) h
noncomputable def jF.h:HC:=aK (bd Tryz.f183) []
def jF.T (n:Int) (R:VP) (M:Mem):Prop:=aH pr (fun _ _ _ _=>False) R (gX PP jF.h [] [] (gR Tryz.f183) [(0,.int .i64 (.v n))] M)
theorem jF.go (n:Int) (h:jF.T (aJ PP w0) n R M):C PP w0 Id.jF #[.int .i64 n] R M :=
  cW mixed (h:=jF.h) (T:=fun pr aB=>jF.T pr n R M) Tryz.func183 (cV _ _) (by kernel_rfl) (fun pr aB=>by kernel_rfl) fun _ _=>h
noncomputable def rJ.h:HC:=aK (bd Tryz.f184) []
def rJ.T (t:Option Addr) (j_0 j_1 j_2 j_3 j_4:Int) (R:VP) (M:Mem):Prop:=aH pr (fun _ _ _ _=>False) R (gX PP rJ.h [] [] (gR Tryz.f184) [(0,.ptr (.v t)),(1,.agg [.int .i64 (.v j_0),.int .i64 (.v j_1),.int .i64 (.v j_2),.int .i64 (.v j_3),.int .i64 (.v j_4)])] M)
theorem rJ.go (t:Option Addr) (j_0 j_1 j_2 j_3 j_4:Int) (h:rJ.T (aJ PP w0) t j_0 j_1 j_2 j_3 j_4 R M):C PP w0 Id.rJ #[.pointer t,.agg #[.int .i64 j_0,.int .i64 j_1,.int .i64 j_2,.int .i64 j_3,.int .i64 j_4]] R M :=
  cW mixed (h:=rJ.h) (T:=fun pr aB=>rJ.T pr t j_0 j_1 j_2 j_3 j_4 R M) Tryz.func184 (cV _ _) (by kernel_rfl) (fun pr aB=>by kernel_rfl) fun _ _=>h
noncomputable def fT.h:HC:=aK (bd Tryz.f185) []
def fT.T (j_0 j_1 j_2 j_3 j_4:Int) (R:VP) (M:Mem):Prop:=aH pr (fun _ _ _ _=>False) R (gX PP fT.h [] [] (gR Tryz.f185) [(0,.agg [.int .i64 (.v j_0),.int .i64 (.v j_1),.int .i64 (.v j_2),.int .i64 (.v j_3),.int .i64 (.v j_4)])] M)
theorem fT.go (j_0 j_1 j_2 j_3 j_4:Int) (h:fT.T (aJ PP w0) j_0 j_1 j_2 j_3 j_4 R M):C PP w0 Id.fT #[.agg #[.int .i64 j_0,.int .i64 j_1,.int .i64 j_2,.int .i64 j_3,.int .i64 j_4]] R M :=
  cW mixed (h:=fT.h) (T:=fun pr aB=>fT.T pr j_0 j_1 j_2 j_3 j_4 R M) Tryz.func185 (cV _ _) (by kernel_rfl) (fun pr aB=>by kernel_rfl) fun _ _=>h
noncomputable def jG.h:HC:=aK (bd Tryz.f186) [([true,true,true],[0,4,5,7])]
def jG.Is (R:VP):Prop:=nX PP pr aB jG.h Tryz.f186 R
abbrev jG.J1 (t_0:Option Addr) (r_4:Addr) (j_5:Addr) (was_7:Addr) (M:Mem):Prop:=aB [true,true,true,true] [] [(0,.pointer t_0),(4,.pointer (some r_4)),(5,.pointer (some j_5)),(7,.pointer (some was_7))] M
def jG.J1.T (t_0:Option Addr) (r_4:Addr) (j_5:Addr) (was_7:Addr) (R:VP) (M:Mem):Prop:=aH pr aB R (bD PP jG.h (gR Tryz.f186) [true,true,true,true] [] [(0,.ptr (.v t_0)),(4,.ptr (.a (.v r_4))),(5,.ptr (.a (.v j_5))),(7,.ptr (.a (.v was_7)))] M)
theorem jG.Is.J1 {pr:Prim} {aB:eA} (H:jG.Is pr aB R) (t_0:Option Addr) (r_4:Addr) (j_5:Addr) (was_7:Addr) (M:Mem):jG.J1 aB t_0 r_4 j_5 was_7 M = jG.J1.T pr aB t_0 r_4 j_5 was_7 R M:=(H _ _ _ _ _ rfl).trans (by kernel_rfl)
def jG.T (t:Option Addr) (r_0 r_1 j_0 j_1 j_2 j_3 j_4:Int) (R:VP) (M:Mem):Prop:=aH pr aB R (gX PP jG.h [] [] (gR Tryz.f186) [(0,.ptr (.v t)),(1,.agg [.int .i64 (.v r_0),.int .i64 (.v r_1)]),(2,.agg [.int .i64 (.v j_0),.int .i64 (.v j_1),.int .i64 (.v j_2),.int .i64 (.v j_3),.int .i64 (.v j_4)])] M)
theorem jG.go (t:Option Addr) (r_0 r_1 j_0 j_1 j_2 j_3 j_4:Int) (h:∀ aB,jG.Is (aJ PP w0) aB R→jG.T (aJ PP w0) aB t r_0 r_1 j_0 j_1 j_2 j_3 j_4 R M):C PP w0 Id.jG #[.pointer t,.agg #[.int .i64 r_0,.int .i64 r_1],.agg #[.int .i64 j_0,.int .i64 j_1,.int .i64 j_2,.int .i64 j_3,.int .i64 j_4]] R M :=
  cW mixed (h:=jG.h) (T:=fun pr aB=>jG.T pr aB t r_0 r_1 j_0 j_1 j_2 j_3 j_4 R M) Tryz.func186 (cV _ _) (by kernel_rfl) (fun pr aB=>by kernel_rfl) h
noncomputable def lZ.h:HC:=aK (bd Tryz.f187) []
def lZ.T (d:Option Addr) (r_0 r_1:Int) (R:VP) (M:Mem):Prop:=aH pr (fun _ _ _ _=>False) R (gX PP lZ.h [] [] (gR Tryz.f187) [(0,.ptr (.v d)),(1,.agg [.int .i64 (.v r_0),.int .i64 (.v r_1)])] M)
theorem lZ.go (d:Option Addr) (r_0 r_1:Int) (h:lZ.T (aJ PP w0) d r_0 r_1 R M):C PP w0 Id.lZ #[.pointer d,.agg #[.int .i64 r_0,.int .i64 r_1]] R M :=
  cW mixed (h:=lZ.h) (T:=fun pr aB=>lZ.T pr d r_0 r_1 R M) Tryz.func187 (cV _ _) (by kernel_rfl) (fun pr aB=>by kernel_rfl) fun _ _=>h
noncomputable def eN.h:HC:=aK (bd Tryz.f188) []
def eN.T (c:Option Addr) (at_1:Int) (R:VP) (M:Mem):Prop:=aH pr (fun _ _ _ _=>False) R (gX PP eN.h [] [] (gR Tryz.f188) [(0,.ptr (.v c)),(1,.int .i64 (.v at_1))] M)
theorem eN.go (c:Option Addr) (at_1:Int) (h:eN.T (aJ PP w0) c at_1 R M):C PP w0 Id.eN #[.pointer c,.int .i64 at_1] R M :=
  cW mixed (h:=eN.h) (T:=fun pr aB=>eN.T pr c at_1 R M) Tryz.func188 (cV _ _) (by kernel_rfl) (fun pr aB=>by kernel_rfl) fun _ _=>h
noncomputable def xG.h:HC:=aK (bd Tryz.f189) []
def xG.T (t:Option Addr) (item_0 item_1:Int) (R:VP) (M:Mem):Prop:=aH pr (fun _ _ _ _=>False) R (gX PP xG.h [] [] (gR Tryz.f189) [(0,.ptr (.v t)),(1,.agg [.int .i64 (.v item_0),.int .i64 (.v item_1)])] M)
theorem xG.go (t:Option Addr) (item_0 item_1:Int) (h:xG.T (aJ PP w0) t item_0 item_1 R M):C PP w0 Id.xG #[.pointer t,.agg #[.int .i64 item_0,.int .i64 item_1]] R M :=
  cW mixed (h:=xG.h) (T:=fun pr aB=>xG.T pr t item_0 item_1 R M) Tryz.func189 (cV _ _) (by kernel_rfl) (fun pr aB=>by kernel_rfl) fun _ _=>h
noncomputable def gE.h:HC:=aK (bd Tryz.f190) [([true,true,false,true,false],[0,1,2,7,16,17,18])]
def gE.Is (R:VP):Prop:=nX PP pr aB gE.h Tryz.f190 R
abbrev gE.L1 (k:Nat) (t_0:Option Addr) (from_1 to_2 n_7:Int) (t16:SV) (t17 t18:Int) (M:Mem):Prop:=aB [false,false,true,false,true,true] [k] [(0,.pointer t_0),(1,.int .i64 from_1),(2,.int .i64 to_2),(7,.int .i64 n_7),(16,SV.v t16),(17,.int .i64 t17),(18,.int .i64 t18)] M
def gE.L1.T (k:Nat) (t_0:Option Addr) (from_1 to_2 n_7:Int) (t16:SV) (t17 t18:Int) (R:VP) (M:Mem):Prop:=aH pr aB R (bD PP gE.h (gR Tryz.f190) [false,false,true,false,true,true] [k] [(0,.ptr (.v t_0)),(1,.int .i64 (.v from_1)),(2,.int .i64 (.v to_2)),(7,.int .i64 (.v n_7)),(16,.sv t16),(17,.int .i64 (.v t17)),(18,.int .i64 (.v t18))] M)
theorem gE.Is.L1 {pr:Prim} {aB:eA} (H:gE.Is pr aB R) (k:Nat) (t_0:Option Addr) (from_1 to_2 n_7:Int) (t16:SV) (t17 t18:Int) (M:Mem):gE.L1 aB (k + 1) t_0 from_1 to_2 n_7 t16 t17 t18 M = gE.L1.T pr aB k t_0 from_1 to_2 n_7 t16 t17 t18 R M:=(H _ _ _ _ _ rfl).trans (by kernel_rfl)
def gE.T (t:Option Addr) (from_1 to:Int) (R:VP) (M:Mem):Prop:=aH pr aB R (gX PP gE.h [] [] (gR Tryz.f190) [(0,.ptr (.v t)),(1,.int .i64 (.v from_1)),(2,.int .i64 (.v to))] M)
theorem gE.go (t:Option Addr) (from_1 to:Int) (h:∀ aB,gE.Is (aJ PP w0) aB R→gE.T (aJ PP w0) aB t from_1 to R M):C PP w0 Id.gE #[.pointer t,.int .i64 from_1,.int .i64 to] R M :=
  cW mixed (h:=gE.h) (T:=fun pr aB=>gE.T pr aB t from_1 to R M) Tryz.func190 (cV _ _) (by kernel_rfl) (fun pr aB=>by kernel_rfl) h
noncomputable def dA.h:HC:=aK (bd Tryz.f191) [([true],[0,3])]
def dA.Is (R:VP):Prop:=nX PP pr aB dA.h Tryz.f191 R
abbrev dA.J1 (p_0:Option Addr) (r_3:Addr) (M:Mem):Prop:=aB [true,true] [] [(0,.pointer p_0),(3,.pointer (some r_3))] M
def dA.J1.T (p_0:Option Addr) (r_3:Addr) (R:VP) (M:Mem):Prop:=aH pr aB R (bD PP dA.h (gR Tryz.f191) [true,true] [] [(0,.ptr (.v p_0)),(3,.ptr (.a (.v r_3)))] M)
theorem dA.Is.J1 {pr:Prim} {aB:eA} (H:dA.Is pr aB R) (p_0:Option Addr) (r_3:Addr) (M:Mem):dA.J1 aB p_0 r_3 M = dA.J1.T pr aB p_0 r_3 R M:=(H _ _ _ _ _ rfl).trans (by kernel_rfl)
def dA.T (p:Option Addr) (r_0 r_1:Int) (R:VP) (M:Mem):Prop:=aH pr aB R (gX PP dA.h [] [] (gR Tryz.f191) [(0,.ptr (.v p)),(1,.agg [.int .i64 (.v r_0),.int .i64 (.v r_1)])] M)
theorem dA.go (p:Option Addr) (r_0 r_1:Int) (h:∀ aB,dA.Is (aJ PP w0) aB R→dA.T (aJ PP w0) aB p r_0 r_1 R M):C PP w0 Id.dA #[.pointer p,.agg #[.int .i64 r_0,.int .i64 r_1]] R M :=
  cW mixed (h:=dA.h) (T:=fun pr aB=>dA.T pr aB p r_0 r_1 R M) Tryz.func191 (cV _ _) (by kernel_rfl) (fun pr aB=>by kernel_rfl) h
noncomputable def pQ.h:HC:=aK (bd Tryz.f192) [([true,true,false,false],[0,1,2,6,7,8]),([true,true,true,true,false],[0,1,2,6]),([true,true,true,true,false,false,true,false,true,false,false],[0,1,2,6,7,8])]
def pQ.Is (R:VP):Prop:=nX PP pr aB pQ.h Tryz.f192 R
abbrev pQ.L1 (k:Nat) (data_0:SV) (n_1:Int) (cmp_2:FuncId × Array Value) (blockSize_6 a_7 b_8:Int) (M:Mem):Prop:=aB [false,false,false,true,true] [k] [(0,SV.v data_0),(1,.int .i64 n_1),(2,kfV cmp_2),(6,.int .i64 blockSize_6),(7,.int .i64 a_7),(8,.int .i64 b_8)] M
def pQ.L1.T (k:Nat) (data_0:SV) (n_1:Int) (cmp_2:FuncId × Array Value) (blockSize_6 a_7 b_8:Int) (R:VP) (M:Mem):Prop:=aH pr aB R (bD PP pQ.h (gR Tryz.f192) [false,false,false,true,true] [k] [(0,.sv data_0),(1,.int .i64 (.v n_1)),(2,.kf cmp_2),(6,.int .i64 (.v blockSize_6)),(7,.int .i64 (.v a_7)),(8,.int .i64 (.v b_8))] M)
theorem pQ.Is.L1 {pr:Prim} {aB:eA} (H:pQ.Is pr aB R) (k:Nat) (data_0:SV) (n_1:Int) (cmp_2:FuncId × Array Value) (blockSize_6 a_7 b_8:Int) (M:Mem):pQ.L1 aB (k + 1) data_0 n_1 cmp_2 blockSize_6 a_7 b_8 M = pQ.L1.T pr aB k data_0 n_1 cmp_2 blockSize_6 a_7 b_8 R M:=(H _ _ _ _ _ rfl).trans (by kernel_rfl)
abbrev pQ.L2 (k:Nat) (data_0:SV) (n_1:Int) (cmp_2:FuncId × Array Value) (blockSize_6:Int) (M:Mem):Prop:=aB [false,false,true,true,true,true] [k] [(0,SV.v data_0),(1,.int .i64 n_1),(2,kfV cmp_2),(6,.int .i64 blockSize_6)] M
def pQ.L2.T (k:Nat) (data_0:SV) (n_1:Int) (cmp_2:FuncId × Array Value) (blockSize_6:Int) (R:VP) (M:Mem):Prop:=aH pr aB R (bD PP pQ.h (gR Tryz.f192) [false,false,true,true,true,true] [k] [(0,.sv data_0),(1,.int .i64 (.v n_1)),(2,.kf cmp_2),(6,.int .i64 (.v blockSize_6))] M)
theorem pQ.Is.L2 {pr:Prim} {aB:eA} (H:pQ.Is pr aB R) (k:Nat) (data_0:SV) (n_1:Int) (cmp_2:FuncId × Array Value) (blockSize_6:Int) (M:Mem):pQ.L2 aB (k + 1) data_0 n_1 cmp_2 blockSize_6 M = pQ.L2.T pr aB k data_0 n_1 cmp_2 blockSize_6 R M:=(H _ _ _ _ _ rfl).trans (by kernel_rfl)
abbrev pQ.L3 (k:Nat) (k':Nat) (data_0:SV) (n_1:Int) (cmp_2:FuncId × Array Value) (blockSize_6 a_7 b_8:Int) (M:Mem):Prop:=aB [false,false,false,true,false,true,false,false,true,true,true,true] [k',k] [(0,SV.v data_0),(1,.int .i64 n_1),(2,kfV cmp_2),(6,.int .i64 blockSize_6),(7,.int .i64 a_7),(8,.int .i64 b_8)] M
def pQ.L3.T (k:Nat) (k':Nat) (data_0:SV) (n_1:Int) (cmp_2:FuncId × Array Value) (blockSize_6 a_7 b_8:Int) (R:VP) (M:Mem):Prop:=aH pr aB R (bD PP pQ.h (gR Tryz.f192) [false,false,false,true,false,true,false,false,true,true,true,true] [k',k] [(0,.sv data_0),(1,.int .i64 (.v n_1)),(2,.kf cmp_2),(6,.int .i64 (.v blockSize_6)),(7,.int .i64 (.v a_7)),(8,.int .i64 (.v b_8))] M)
theorem pQ.Is.L3 {pr:Prim} {aB:eA} (H:pQ.Is pr aB R) (k:Nat) (k':Nat) (data_0:SV) (n_1:Int) (cmp_2:FuncId × Array Value) (blockSize_6 a_7 b_8:Int) (M:Mem):pQ.L3 aB k (k' + 1) data_0 n_1 cmp_2 blockSize_6 a_7 b_8 M = pQ.L3.T pr aB k k' data_0 n_1 cmp_2 blockSize_6 a_7 b_8 R M:=(H _ _ _ _ _ rfl).trans (by kernel_rfl)
def pQ.T (data:SV) (n:Int) (cmp:FuncId × Array Value) (R:VP) (M:Mem):Prop:=aH pr aB R (gX PP pQ.h [] [] (gR Tryz.f192) [(0,.sv data),(1,.int .i64 (.v n)),(2,.kf cmp)] M)
theorem pQ.go (data:SV) (n:Int) (cmp:FuncId × Array Value) (h:∀ aB,pQ.Is (aJ PP w0) aB R→pQ.T (aJ PP w0) aB data n cmp R M):C PP w0 Id.pQ #[SV.v data,.int .i64 n,.func (.func cmp.1) #[] cmp.2] R M :=
  cW mixed (h:=pQ.h) (T:=fun pr aB=>pQ.T pr aB data n cmp R M) Tryz.func192 (cV _ _) (by kernel_rfl) (fun pr aB=>by kernel_rfl) h
noncomputable def cN.h:HC:=aK (bd Tryz.f193) [([true,true,false,true,false],[3,6,7,8])]
def cN.Is (R:VP):Prop:=nX PP pr aB cN.h Tryz.f193 R
abbrev cN.L1 (k:Nat) (zero_3:Int) (t6:SV) (t7 t8:Int) (M:Mem):Prop:=aB [false,false,true,false,true,true] [k] [(3,.int .i64 zero_3),(6,SV.v t6),(7,.int .i64 t7),(8,.int .i64 t8)] M
def cN.L1.T (k:Nat) (zero_3:Int) (t6:SV) (t7 t8:Int) (R:VP) (M:Mem):Prop:=aH pr aB R (bD PP cN.h (gR Tryz.f193) [false,false,true,false,true,true] [k] [(3,.int .i64 (.v zero_3)),(6,.sv t6),(7,.int .i64 (.v t7)),(8,.int .i64 (.v t8))] M)
theorem cN.Is.L1 {pr:Prim} {aB:eA} (H:cN.Is pr aB R) (k:Nat) (zero_3:Int) (t6:SV) (t7 t8:Int) (M:Mem):cN.L1 aB (k + 1) zero_3 t6 t7 t8 M = cN.L1.T pr aB k zero_3 t6 t7 t8 R M:=(H _ _ _ _ _ rfl).trans (by kernel_rfl)
def cN.T (vals:SV) (R:VP) (M:Mem):Prop:=aH pr aB R (gX PP cN.h [] [] (gR Tryz.f193) [(0,.sv vals)] M)
theorem cN.go (vals:SV) (h:∀ aB,cN.Is (aJ PP w0) aB R→cN.T (aJ PP w0) aB vals R M):C PP w0 Id.cN #[SV.v vals] R M :=
  cW mixed (h:=cN.h) (T:=fun pr aB=>cN.T pr aB vals R M) Tryz.func193 (cV _ _) (by kernel_rfl) (fun pr aB=>by kernel_rfl) h
noncomputable def dF.h:HC:=aK (bd Tryz.f194) []
def dF.T (x y:Int) (R:VP) (M:Mem):Prop:=aH pr (fun _ _ _ _=>False) R (gX PP dF.h [] [] (gR Tryz.f194) [(0,.int .i64 (.v x)),(1,.int .i64 (.v y))] M)
theorem dF.go (x y:Int) (h:dF.T (aJ PP w0) x y R M):C PP w0 Id.dF #[.int .i64 x,.int .i64 y] R M :=
  cW mixed (h:=dF.h) (T:=fun pr aB=>dF.T pr x y R M) Tryz.func194 (cV _ _) (by kernel_rfl) (fun pr aB=>by kernel_rfl) fun _ _=>h
noncomputable def pK.h:HC:=aK (bd Tryz.f195) []
def pK.T (m:Option Addr) (n:Int) (R:VP) (M:Mem):Prop:=aH pr (fun _ _ _ _=>False) R (gX PP pK.h [] [] (gR Tryz.f195) [(0,.ptr (.v m)),(1,.int .i64 (.v n))] M)
theorem pK.go (m:Option Addr) (n:Int) (h:pK.T (aJ PP w0) m n R M):C PP w0 Id.pK #[.pointer m,.int .i64 n] R M :=
  cW mixed (h:=pK.h) (T:=fun pr aB=>pK.T pr m n R M) Tryz.func195 (cV _ _) (by kernel_rfl) (fun pr aB=>by kernel_rfl) fun _ _=>h
noncomputable def bW.h:HC:=aK (bd Tryz.f196) [([true,true,false,true,false],[0,1,5,6,7])]
def bW.Is (R:VP):Prop:=nX PP pr aB bW.h Tryz.f196 R
abbrev bW.L1 (k:Nat) (t0:Addr) (x_1:Addr) (t5:SV) (t6 t7:Int) (M:Mem):Prop:=aB [false,false,true,false,true,true] [k] [(0,.pointer (some t0)),(1,.pointer (some x_1)),(5,SV.v t5),(6,.int .i64 t6),(7,.int .i64 t7)] M
def bW.L1.T (k:Nat) (t0:Addr) (x_1:Addr) (t5:SV) (t6 t7:Int) (R:VP) (M:Mem):Prop:=aH pr aB R (bD PP bW.h (gR Tryz.f196) [false,false,true,false,true,true] [k] [(0,.ptr (.a (.v t0))),(1,.ptr (.a (.v x_1))),(5,.sv t5),(6,.int .i64 (.v t6)),(7,.int .i64 (.v t7))] M)
theorem bW.Is.L1 {pr:Prim} {aB:eA} (H:bW.Is pr aB R) (k:Nat) (t0:Addr) (x_1:Addr) (t5:SV) (t6 t7:Int) (M:Mem):bW.L1 aB (k + 1) t0 x_1 t5 t6 t7 M = bW.L1.T pr aB k t0 x_1 t5 t6 t7 R M:=(H _ _ _ _ _ rfl).trans (by kernel_rfl)
def bW.T (R:VP) (M:Mem):Prop:=aH pr aB R (gX PP bW.h [] [] (gR Tryz.f196) [] M)
theorem bW.go (h:∀ aB,bW.Is (aJ PP w0) aB R→bW.T (aJ PP w0) aB R M):C PP w0 Id.bW #[] R M :=
  cW mixed (h:=bW.h) (T:=fun pr aB=>bW.T pr aB R M) Tryz.func196 (cV _ _) (by kernel_rfl) (fun pr aB=>by kernel_rfl) h
noncomputable def sN.h:HC:=aK (bd Tryz.f197) []
def sN.T (a:Option Addr) (c field:Int) (R:VP) (M:Mem):Prop:=aH pr (fun _ _ _ _=>False) R (gX PP sN.h [] [] (gR Tryz.f197) [(0,.ptr (.v a)),(1,.int .i64 (.v c)),(2,.int .i64 (.v field))] M)
theorem sN.go (a:Option Addr) (c field:Int) (h:sN.T (aJ PP w0) a c field R M):C PP w0 Id.sN #[.pointer a,.int .i64 c,.int .i64 field] R M :=
  cW mixed (h:=sN.h) (T:=fun pr aB=>sN.T pr a c field R M) Tryz.func197 (cV _ _) (by kernel_rfl) (fun pr aB=>by kernel_rfl) fun _ _=>h
noncomputable def mL.h:HC:=aK (bd Tryz.f198) []
def mL.T (a:Option Addr) (i:Int) (R:VP) (M:Mem):Prop:=aH pr (fun _ _ _ _=>False) R (gX PP mL.h [] [] (gR Tryz.f198) [(0,.ptr (.v a)),(1,.int .i64 (.v i))] M)
theorem mL.go (a:Option Addr) (i:Int) (h:mL.T (aJ PP w0) a i R M):C PP w0 Id.mL #[.pointer a,.int .i64 i] R M :=
  cW mixed (h:=mL.h) (T:=fun pr aB=>mL.T pr a i R M) Tryz.func198 (cV _ _) (by kernel_rfl) (fun pr aB=>by kernel_rfl) fun _ _=>h
noncomputable def bE.h:HC:=aK (bd Tryz.f199) [([true,true,true],[0,1,2,7]),([true,true,true,false,false],[0,1,2,7]),([true,true,true,false,false,false],[0,1,2,7]),([true,true,true,false,false,false,true,false],[0,1,2,7]),([true,true,true,true,true,false,true,false],[0,7,8,9])]
def bE.Is (R:VP):Prop:=nX PP pr aB bE.h Tryz.f199 R
abbrev bE.J1 (a_0:Option Addr) (r_1 s_2:Int) (path_7:SV) (M:Mem):Prop:=aB [true,true,true,true] [] [(0,.pointer a_0),(1,.int .i64 r_1),(2,.int .i64 s_2),(7,SV.v path_7)] M
def bE.J1.T (a_0:Option Addr) (r_1 s_2:Int) (path_7:SV) (R:VP) (M:Mem):Prop:=aH pr aB R (bD PP bE.h (gR Tryz.f199) [true,true,true,true] [] [(0,.ptr (.v a_0)),(1,.int .i64 (.v r_1)),(2,.int .i64 (.v s_2)),(7,.sv path_7)] M)
theorem bE.Is.J1 {pr:Prim} {aB:eA} (H:bE.Is pr aB R) (a_0:Option Addr) (r_1 s_2:Int) (path_7:SV) (M:Mem):bE.J1 aB a_0 r_1 s_2 path_7 M = bE.J1.T pr aB a_0 r_1 s_2 path_7 R M:=(H _ _ _ _ _ rfl).trans (by kernel_rfl)
abbrev bE.L2 (k:Nat) (a_0:Option Addr) (r_1 s_2:Int) (path_7:SV) (M:Mem):Prop:=aB [false,false,false,true,true,true] [k] [(0,.pointer a_0),(1,.int .i64 r_1),(2,.int .i64 s_2),(7,SV.v path_7)] M
def bE.L2.T (k:Nat) (a_0:Option Addr) (r_1 s_2:Int) (path_7:SV) (R:VP) (M:Mem):Prop:=aH pr aB R (bD PP bE.h (gR Tryz.f199) [false,false,false,true,true,true] [k] [(0,.ptr (.v a_0)),(1,.int .i64 (.v r_1)),(2,.int .i64 (.v s_2)),(7,.sv path_7)] M)
theorem bE.Is.L2 {pr:Prim} {aB:eA} (H:bE.Is pr aB R) (k:Nat) (a_0:Option Addr) (r_1 s_2:Int) (path_7:SV) (M:Mem):bE.L2 aB (k + 1) a_0 r_1 s_2 path_7 M = bE.L2.T pr aB k a_0 r_1 s_2 path_7 R M:=(H _ _ _ _ _ rfl).trans (by kernel_rfl)
abbrev bE.L3 (k:Nat) (a_0:Option Addr) (path_7:SV) (top_8 k_9:Int) (M:Mem):Prop:=aB [false,false,true,false,true,true,true,true,true] [k] [(0,.pointer a_0),(7,SV.v path_7),(8,.int .i64 top_8),(9,.int .i64 k_9)] M
def bE.L3.T (k:Nat) (a_0:Option Addr) (path_7:SV) (top_8 k_9:Int) (R:VP) (M:Mem):Prop:=aH pr aB R (bD PP bE.h (gR Tryz.f199) [false,false,true,false,true,true,true,true,true] [k] [(0,.ptr (.v a_0)),(7,.sv path_7),(8,.int .i64 (.v top_8)),(9,.int .i64 (.v k_9))] M)
theorem bE.Is.L3 {pr:Prim} {aB:eA} (H:bE.Is pr aB R) (k:Nat) (a_0:Option Addr) (path_7:SV) (top_8 k_9:Int) (M:Mem):bE.L3 aB (k + 1) a_0 path_7 top_8 k_9 M = bE.L3.T pr aB k a_0 path_7 top_8 k_9 R M:=(H _ _ _ _ _ rfl).trans (by kernel_rfl)
abbrev bE.J4 (k:Nat) (a_0:Option Addr) (r_1 s_2:Int) (path_7:SV) (M:Mem):Prop:=aB [true,false,false,false,true,true,true] [k] [(0,.pointer a_0),(1,.int .i64 r_1),(2,.int .i64 s_2),(7,SV.v path_7)] M
def bE.J4.T (k:Nat) (a_0:Option Addr) (r_1 s_2:Int) (path_7:SV) (R:VP) (M:Mem):Prop:=aH pr aB R (bD PP bE.h (gR Tryz.f199) [true,false,false,false,true,true,true] [k] [(0,.ptr (.v a_0)),(1,.int .i64 (.v r_1)),(2,.int .i64 (.v s_2)),(7,.sv path_7)] M)
theorem bE.Is.J4 {pr:Prim} {aB:eA} (H:bE.Is pr aB R) (k:Nat) (a_0:Option Addr) (r_1 s_2:Int) (path_7:SV) (M:Mem):bE.J4 aB k a_0 r_1 s_2 path_7 M = bE.J4.T pr aB k a_0 r_1 s_2 path_7 R M:=(H _ _ _ _ _ rfl).trans (by kernel_rfl)
abbrev bE.J5 (k:Nat) (a_0:Option Addr) (r_1 s_2:Int) (path_7:SV) (M:Mem):Prop:=aB [true,false,true,false,false,false,true,true,true] [k] [(0,.pointer a_0),(1,.int .i64 r_1),(2,.int .i64 s_2),(7,SV.v path_7)] M
def bE.J5.T (k:Nat) (a_0:Option Addr) (r_1 s_2:Int) (path_7:SV) (R:VP) (M:Mem):Prop:=aH pr aB R (bD PP bE.h (gR Tryz.f199) [true,false,true,false,false,false,true,true,true] [k] [(0,.ptr (.v a_0)),(1,.int .i64 (.v r_1)),(2,.int .i64 (.v s_2)),(7,.sv path_7)] M)
theorem bE.Is.J5 {pr:Prim} {aB:eA} (H:bE.Is pr aB R) (k:Nat) (a_0:Option Addr) (r_1 s_2:Int) (path_7:SV) (M:Mem):bE.J5 aB k a_0 r_1 s_2 path_7 M = bE.J5.T pr aB k a_0 r_1 s_2 path_7 R M:=(H _ _ _ _ _ rfl).trans (by kernel_rfl)
def bE.T (a:Option Addr) (r s:Int) (R:VP) (M:Mem):Prop:=aH pr aB R (gX PP bE.h [] [] (gR Tryz.f199) [(0,.ptr (.v a)),(1,.int .i64 (.v r)),(2,.int .i64 (.v s))] M)
theorem bE.go (a:Option Addr) (r s:Int) (h:∀ aB,bE.Is (aJ PP w0) aB R→bE.T (aJ PP w0) aB a r s R M):C PP w0 Id.bE #[.pointer a,.int .i64 r,.int .i64 s] R M :=
  cW mixed (h:=bE.h) (T:=fun pr aB=>bE.T pr aB a r s R M) Tryz.func199 (cV _ _) (by kernel_rfl) (fun pr aB=>by kernel_rfl) h
noncomputable def nN.h:HC:=aK (bd Tryz.f200) [([true,true,false,true,false],[0,5,12,13,14]),([true,true,true,true,true,false,false],[0,5,8]),([true,true,true,true,true,false,false,false,true,false,true],[0,5,8,9]),([true,true,true,true,true,false,false,false,true,false,true,true,true,true,true],[0,5,8,10,11]),([true,true,true,true,true,false,false,false,true,false,true,true,true,true,true,false,false],[0,5,8,10,11])]
def nN.Is (R:VP):Prop:=nX PP pr aB nN.h Tryz.f200 R
abbrev nN.L1 (k:Nat) (a_0:Option Addr) (wait_5 t12:SV) (t13 t14:Int) (M:Mem):Prop:=aB [false,false,true,false,true,true] [k] [(0,.pointer a_0),(5,SV.v wait_5),(12,SV.v t12),(13,.int .i64 t13),(14,.int .i64 t14)] M
def nN.L1.T (k:Nat) (a_0:Option Addr) (wait_5 t12:SV) (t13 t14:Int) (R:VP) (M:Mem):Prop:=aH pr aB R (bD PP nN.h (gR Tryz.f200) [false,false,true,false,true,true] [k] [(0,.ptr (.v a_0)),(5,.sv wait_5),(12,.sv t12),(13,.int .i64 (.v t13)),(14,.int .i64 (.v t14))] M)
theorem nN.Is.L1 {pr:Prim} {aB:eA} (H:nN.Is pr aB R) (k:Nat) (a_0:Option Addr) (wait_5 t12:SV) (t13 t14:Int) (M:Mem):nN.L1 aB (k + 1) a_0 wait_5 t12 t13 t14 M = nN.L1.T pr aB k a_0 wait_5 t12 t13 t14 R M:=(H _ _ _ _ _ rfl).trans (by kernel_rfl)
abbrev nN.L2 (k:Nat) (a_0:Option Addr) (wait_5 out_8:SV) (M:Mem):Prop:=aB [false,false,false,true,true,true,true,true] [k] [(0,.pointer a_0),(5,SV.v wait_5),(8,SV.v out_8)] M
def nN.L2.T (k:Nat) (a_0:Option Addr) (wait_5 out_8:SV) (R:VP) (M:Mem):Prop:=aH pr aB R (bD PP nN.h (gR Tryz.f200) [false,false,false,true,true,true,true,true] [k] [(0,.ptr (.v a_0)),(5,.sv wait_5),(8,.sv out_8)] M)
theorem nN.Is.L2 {pr:Prim} {aB:eA} (H:nN.Is pr aB R) (k:Nat) (a_0:Option Addr) (wait_5 out_8:SV) (M:Mem):nN.L2 aB (k + 1) a_0 wait_5 out_8 M = nN.L2.T pr aB k a_0 wait_5 out_8 R M:=(H _ _ _ _ _ rfl).trans (by kernel_rfl)
abbrev nN.J3 (k:Nat) (a_0:Option Addr) (wait_5 out_8:SV) (x_9:Addr) (M:Mem):Prop:=aB [true,true,false,true,false,false,false,true,true,true,true,true] [k] [(0,.pointer a_0),(5,SV.v wait_5),(8,SV.v out_8),(9,.pointer (some x_9))] M
def nN.J3.T (k:Nat) (a_0:Option Addr) (wait_5 out_8:SV) (x_9:Addr) (R:VP) (M:Mem):Prop:=aH pr aB R (bD PP nN.h (gR Tryz.f200) [true,true,false,true,false,false,false,true,true,true,true,true] [k] [(0,.ptr (.v a_0)),(5,.sv wait_5),(8,.sv out_8),(9,.ptr (.a (.v x_9)))] M)
theorem nN.Is.J3 {pr:Prim} {aB:eA} (H:nN.Is pr aB R) (k:Nat) (a_0:Option Addr) (wait_5 out_8:SV) (x_9:Addr) (M:Mem):nN.J3 aB k a_0 wait_5 out_8 x_9 M = nN.J3.T pr aB k a_0 wait_5 out_8 x_9 R M:=(H _ _ _ _ _ rfl).trans (by kernel_rfl)
abbrev nN.J4 (k:Nat) (a_0:Option Addr) (wait_5 out_8:SV) (y_10:Addr) (k_11:Int) (M:Mem):Prop:=aB [true,true,true,true,true,true,false,true,false,false,false,true,true,true,true,true] [k] [(0,.pointer a_0),(5,SV.v wait_5),(8,SV.v out_8),(10,.pointer (some y_10)),(11,.int .i64 k_11)] M
def nN.J4.T (k:Nat) (a_0:Option Addr) (wait_5 out_8:SV) (y_10:Addr) (k_11:Int) (R:VP) (M:Mem):Prop:=aH pr aB R (bD PP nN.h (gR Tryz.f200) [true,true,true,true,true,true,false,true,false,false,false,true,true,true,true,true] [k] [(0,.ptr (.v a_0)),(5,.sv wait_5),(8,.sv out_8),(10,.ptr (.a (.v y_10))),(11,.int .i64 (.v k_11))] M)
theorem nN.Is.J4 {pr:Prim} {aB:eA} (H:nN.Is pr aB R) (k:Nat) (a_0:Option Addr) (wait_5 out_8:SV) (y_10:Addr) (k_11:Int) (M:Mem):nN.J4 aB k a_0 wait_5 out_8 y_10 k_11 M = nN.J4.T pr aB k a_0 wait_5 out_8 y_10 k_11 R M:=(H _ _ _ _ _ rfl).trans (by kernel_rfl)
abbrev nN.L5 (k:Nat) (k':Nat) (a_0:Option Addr) (wait_5 out_8:SV) (y_10:Addr) (k_11:Int) (M:Mem):Prop:=aB [false,false,false,true,true,true,true,true,false,true,false,false,false,true,true,true,true,true] [k',k] [(0,.pointer a_0),(5,SV.v wait_5),(8,SV.v out_8),(10,.pointer (some y_10)),(11,.int .i64 k_11)] M
def nN.L5.T (k:Nat) (k':Nat) (a_0:Option Addr) (wait_5 out_8:SV) (y_10:Addr) (k_11:Int) (R:VP) (M:Mem):Prop:=aH pr aB R (bD PP nN.h (gR Tryz.f200) [false,false,false,true,true,true,true,true,false,true,false,false,false,true,true,true,true,true] [k',k] [(0,.ptr (.v a_0)),(5,.sv wait_5),(8,.sv out_8),(10,.ptr (.a (.v y_10))),(11,.int .i64 (.v k_11))] M)
theorem nN.Is.L5 {pr:Prim} {aB:eA} (H:nN.Is pr aB R) (k:Nat) (k':Nat) (a_0:Option Addr) (wait_5 out_8:SV) (y_10:Addr) (k_11:Int) (M:Mem):nN.L5 aB k (k' + 1) a_0 wait_5 out_8 y_10 k_11 M = nN.L5.T pr aB k k' a_0 wait_5 out_8 y_10 k_11 R M:=(H _ _ _ _ _ rfl).trans (by kernel_rfl)
def nN.T (a:Option Addr) (l:SV) (R:VP) (M:Mem):Prop:=aH pr aB R (gX PP nN.h [] [] (gR Tryz.f200) [(0,.ptr (.v a)),(1,.sv l)] M)
theorem nN.go (a:Option Addr) (l:SV) (h:∀ aB,nN.Is (aJ PP w0) aB R→nN.T (aJ PP w0) aB a l R M):C PP w0 Id.nN #[.pointer a,SV.v l] R M :=
  cW mixed (h:=nN.h) (T:=fun pr aB=>nN.T pr aB a l R M) Tryz.func200 (cV _ _) (by kernel_rfl) (fun pr aB=>by kernel_rfl) h
noncomputable def jA.h:HC:=aK (bd Tryz.f201) []
def jA.T (a:Option Addr) (r:Int) (R:VP) (M:Mem):Prop:=aH pr (fun _ _ _ _=>False) R (gX PP jA.h [] [] (gR Tryz.f201) [(0,.ptr (.v a)),(1,.int .i64 (.v r))] M)
theorem jA.go (a:Option Addr) (r:Int) (h:jA.T (aJ PP w0) a r R M):C PP w0 Id.jA #[.pointer a,.int .i64 r] R M :=
  cW mixed (h:=jA.h) (T:=fun pr aB=>jA.T pr a r R M) Tryz.func201 (cV _ _) (by kernel_rfl) (fun pr aB=>by kernel_rfl) fun _ _=>h
noncomputable def uL.h:HC:=aK (bd Tryz.f202) [([true,true],[0,1,2,7]),([true,true,true,true],[0,1,2,7,8]),([true,true,true,true,true,true,true],[0,2,9,10])]
def uL.Is (R:VP):Prop:=nX PP pr aB uL.h Tryz.f202 R
abbrev uL.J1 (a_0:Option Addr) (r_1 n_2 second_7:Int) (M:Mem):Prop:=aB [true,true,true] [] [(0,.pointer a_0),(1,.int .i64 r_1),(2,.int .i64 n_2),(7,.int .i64 second_7)] M
def uL.J1.T (a_0:Option Addr) (r_1 n_2 second_7:Int) (R:VP) (M:Mem):Prop:=aH pr aB R (bD PP uL.h (gR Tryz.f202) [true,true,true] [] [(0,.ptr (.v a_0)),(1,.int .i64 (.v r_1)),(2,.int .i64 (.v n_2)),(7,.int .i64 (.v second_7))] M)
theorem uL.Is.J1 {pr:Prim} {aB:eA} (H:uL.Is pr aB R) (a_0:Option Addr) (r_1 n_2 second_7:Int) (M:Mem):uL.J1 aB a_0 r_1 n_2 second_7 M = uL.J1.T pr aB a_0 r_1 n_2 second_7 R M:=(H _ _ _ _ _ rfl).trans (by kernel_rfl)
abbrev uL.J2 (a_0:Option Addr) (r_1 n_2 second_7 rank_8:Int) (M:Mem):Prop:=aB [true,true,true,true,true] [] [(0,.pointer a_0),(1,.int .i64 r_1),(2,.int .i64 n_2),(7,.int .i64 second_7),(8,.int .i64 rank_8)] M
def uL.J2.T (a_0:Option Addr) (r_1 n_2 second_7 rank_8:Int) (R:VP) (M:Mem):Prop:=aH pr aB R (bD PP uL.h (gR Tryz.f202) [true,true,true,true,true] [] [(0,.ptr (.v a_0)),(1,.int .i64 (.v r_1)),(2,.int .i64 (.v n_2)),(7,.int .i64 (.v second_7)),(8,.int .i64 (.v rank_8))] M)
theorem uL.Is.J2 {pr:Prim} {aB:eA} (H:uL.Is pr aB R) (a_0:Option Addr) (r_1 n_2 second_7 rank_8:Int) (M:Mem):uL.J2 aB a_0 r_1 n_2 second_7 rank_8 M = uL.J2.T pr aB a_0 r_1 n_2 second_7 rank_8 R M:=(H _ _ _ _ _ rfl).trans (by kernel_rfl)
abbrev uL.J3 (a_0:Option Addr) (n_2 rest_9 top_10:Int) (M:Mem):Prop:=aB [true,true,true,true,true,true,true,true] [] [(0,.pointer a_0),(2,.int .i64 n_2),(9,.int .i64 rest_9),(10,.int .i64 top_10)] M
def uL.J3.T (a_0:Option Addr) (n_2 rest_9 top_10:Int) (R:VP) (M:Mem):Prop:=aH pr aB R (bD PP uL.h (gR Tryz.f202) [true,true,true,true,true,true,true,true] [] [(0,.ptr (.v a_0)),(2,.int .i64 (.v n_2)),(9,.int .i64 (.v rest_9)),(10,.int .i64 (.v top_10))] M)
theorem uL.Is.J3 {pr:Prim} {aB:eA} (H:uL.Is pr aB R) (a_0:Option Addr) (n_2 rest_9 top_10:Int) (M:Mem):uL.J3 aB a_0 n_2 rest_9 top_10 M = uL.J3.T pr aB a_0 n_2 rest_9 top_10 R M:=(H _ _ _ _ _ rfl).trans (by kernel_rfl)
def uL.T (a:Option Addr) (r n:Int) (R:VP) (M:Mem):Prop:=aH pr aB R (gX PP uL.h [] [] (gR Tryz.f202) [(0,.ptr (.v a)),(1,.int .i64 (.v r)),(2,.int .i64 (.v n))] M)
theorem uL.go (a:Option Addr) (r n:Int) (h:∀ aB,uL.Is (aJ PP w0) aB R→uL.T (aJ PP w0) aB a r n R M):C PP w0 Id.uL #[.pointer a,.int .i64 r,.int .i64 n] R M :=
  cW mixed (h:=uL.h) (T:=fun pr aB=>uL.T pr aB a r n R M) Tryz.func202 (cV _ _) (by kernel_rfl) (fun pr aB=>by kernel_rfl) h
end
end HL
namespace HL
section
variable (pr:Prim) (aB:eA) (w0:World) {R:VP} {M:Mem}
noncomputable def oQ.h:HC:=aK (bd Tryz.f207) []
def oQ.T (a:Option Addr) (c field:Int) (R:VP) (M:Mem):Prop:=aH pr (fun _ _ _ _=>False) R (gX PP oQ.h [] [] (gR Tryz.f207) [(0,.ptr (.v a)),(1,.int .i64 (.v c)),(2,.int .i64 (.v field))] M)
theorem oQ.go (a:Option Addr) (c field:Int) (h:oQ.T (aJ PP w0) a c field R M):C PP w0 Id.oQ #[.pointer a,.int .i64 c,.int .i64 field] R M :=
  cW mixed (h:=oQ.h) (T:=fun pr aB=>oQ.T pr a c field R M) Tryz.func207 (cV _ _) (by kernel_rfl) (fun pr aB=>by kernel_rfl) fun _ _=>h
noncomputable def cF.h:HC:=aK (bd Tryz.f208) [([true,true,false,true,false],[0,5,8,9,10])]
def cF.Is (R:VP):Prop:=nX PP pr aB cF.h Tryz.f208 R
abbrev cF.L1 (k:Nat) (a_0:Option Addr) (best_5:Int) (t8:SV) (t9 t10:Int) (M:Mem):Prop:=aB [false,false,true,false,true,true] [k] [(0,.pointer a_0),(5,.int .i64 best_5),(8,SV.v t8),(9,.int .i64 t9),(10,.int .i64 t10)] M
def cF.L1.T (k:Nat) (a_0:Option Addr) (best_5:Int) (t8:SV) (t9 t10:Int) (R:VP) (M:Mem):Prop:=aH pr aB R (bD PP cF.h (gR Tryz.f208) [false,false,true,false,true,true] [k] [(0,.ptr (.v a_0)),(5,.int .i64 (.v best_5)),(8,.sv t8),(9,.int .i64 (.v t9)),(10,.int .i64 (.v t10))] M)
theorem cF.Is.L1 {pr:Prim} {aB:eA} (H:cF.Is pr aB R) (k:Nat) (a_0:Option Addr) (best_5:Int) (t8:SV) (t9 t10:Int) (M:Mem):cF.L1 aB (k + 1) a_0 best_5 t8 t9 t10 M = cF.L1.T pr aB k a_0 best_5 t8 t9 t10 R M:=(H _ _ _ _ _ rfl).trans (by kernel_rfl)
def cF.T (a:Option Addr) (l:SV) (R:VP) (M:Mem):Prop:=aH pr aB R (gX PP cF.h [] [] (gR Tryz.f208) [(0,.ptr (.v a)),(1,.sv l)] M)
theorem cF.go (a:Option Addr) (l:SV) (h:∀ aB,cF.Is (aJ PP w0) aB R→cF.T (aJ PP w0) aB a l R M):C PP w0 Id.cF #[.pointer a,SV.v l] R M :=
  cW mixed (h:=cF.h) (T:=fun pr aB=>cF.T pr aB a l R M) Tryz.func208 (cV _ _) (by kernel_rfl) (fun pr aB=>by kernel_rfl) h
noncomputable def nZ.h:HC:=aK (bd Tryz.f209) []
def nZ.T (a:Option Addr) (c:Int) (R:VP) (M:Mem):Prop:=aH pr (fun _ _ _ _=>False) R (gX PP nZ.h [] [] (gR Tryz.f209) [(0,.ptr (.v a)),(1,.int .i64 (.v c))] M)
theorem nZ.go (a:Option Addr) (c:Int) (h:nZ.T (aJ PP w0) a c R M):C PP w0 Id.nZ #[.pointer a,.int .i64 c] R M :=
  cW mixed (h:=nZ.h) (T:=fun pr aB=>nZ.T pr a c R M) Tryz.func209 (cV _ _) (by kernel_rfl) (fun pr aB=>by kernel_rfl) fun _ _=>h
noncomputable def pG.h:HC:=aK (bd Tryz.f210) []
def pG.T (a:Option Addr) (n:Int) (R:VP) (M:Mem):Prop:=aH pr (fun _ _ _ _=>False) R (gX PP pG.h [] [] (gR Tryz.f210) [(0,.ptr (.v a)),(1,.int .i64 (.v n))] M)
theorem pG.go (a:Option Addr) (n:Int) (h:pG.T (aJ PP w0) a n R M):C PP w0 Id.pG #[.pointer a,.int .i64 n] R M :=
  cW mixed (h:=pG.h) (T:=fun pr aB=>pG.T pr a n R M) Tryz.func210 (cV _ _) (by kernel_rfl) (fun pr aB=>by kernel_rfl) fun _ _=>h
noncomputable def lP.h:HC:=aK (bd Tryz.f211) []
def lP.T (a:Option Addr) (n:Int) (R:VP) (M:Mem):Prop:=aH pr (fun _ _ _ _=>False) R (gX PP lP.h [] [] (gR Tryz.f211) [(0,.ptr (.v a)),(1,.int .i64 (.v n))] M)
theorem lP.go (a:Option Addr) (n:Int) (h:lP.T (aJ PP w0) a n R M):C PP w0 Id.lP #[.pointer a,.int .i64 n] R M :=
  cW mixed (h:=lP.h) (T:=fun pr aB=>lP.T pr a n R M) Tryz.func211 (cV _ _) (by kernel_rfl) (fun pr aB=>by kernel_rfl) fun _ _=>h
noncomputable def iW.h:HC:=aK (bd Tryz.f212) []
def iW.T (a:Option Addr) (l:SV) (n:Int) (R:VP) (M:Mem):Prop:=aH pr (fun _ _ _ _=>False) R (gX PP iW.h [] [] (gR Tryz.f212) [(0,.ptr (.v a)),(1,.sv l),(2,.int .i64 (.v n))] M)
theorem iW.go (a:Option Addr) (l:SV) (n:Int) (h:iW.T (aJ PP w0) a l n R M):C PP w0 Id.iW #[.pointer a,SV.v l,.int .i64 n] R M :=
  cW mixed (h:=iW.h) (T:=fun pr aB=>iW.T pr a l n R M) Tryz.func212 (cV _ _) (by kernel_rfl) (fun pr aB=>by kernel_rfl) fun _ _=>h
noncomputable def wF.h:HC:=aK (bd Tryz.f213) [([true,true,true,false,true,false],[0,5,8,9,21,22,23]),([true,true,true,true,true,true,false,true,false],[0,12,13,46,47,48])]
def wF.Is (R:VP):Prop:=nX PP pr aB wF.h Tryz.f213 R
abbrev wF.L1 (k:Nat) (a_0:Option Addr) (n_5:Addr) (rest_8 alone_9 t21:SV) (t22 t23:Int) (M:Mem):Prop:=aB [false,false,true,false,true,true,true] [k] [(0,.pointer a_0),(5,.pointer (some n_5)),(8,SV.v rest_8),(9,SV.v alone_9),(21,SV.v t21),(22,.int .i64 t22),(23,.int .i64 t23)] M
def wF.L1.T (k:Nat) (a_0:Option Addr) (n_5:Addr) (rest_8 alone_9 t21:SV) (t22 t23:Int) (R:VP) (M:Mem):Prop:=aH pr aB R (bD PP wF.h (gR Tryz.f213) [false,false,true,false,true,true,true] [k] [(0,.ptr (.v a_0)),(5,.ptr (.a (.v n_5))),(8,.sv rest_8),(9,.sv alone_9),(21,.sv t21),(22,.int .i64 (.v t22)),(23,.int .i64 (.v t23))] M)
theorem wF.Is.L1 {pr:Prim} {aB:eA} (H:wF.Is pr aB R) (k:Nat) (a_0:Option Addr) (n_5:Addr) (rest_8 alone_9 t21:SV) (t22 t23:Int) (M:Mem):wF.L1 aB (k + 1) a_0 n_5 rest_8 alone_9 t21 t22 t23 M = wF.L1.T pr aB k a_0 n_5 rest_8 alone_9 t21 t22 t23 R M:=(H _ _ _ _ _ rfl).trans (by kernel_rfl)
abbrev wF.L2 (k:Nat) (a_0:Option Addr) (i_12 r_13:Int) (t46:SV) (t47 t48:Int) (M:Mem):Prop:=aB [false,false,true,false,true,true,true,true,true,true] [k] [(0,.pointer a_0),(12,.int .i64 i_12),(13,.int .i64 r_13),(46,SV.v t46),(47,.int .i64 t47),(48,.int .i64 t48)] M
def wF.L2.T (k:Nat) (a_0:Option Addr) (i_12 r_13:Int) (t46:SV) (t47 t48:Int) (R:VP) (M:Mem):Prop:=aH pr aB R (bD PP wF.h (gR Tryz.f213) [false,false,true,false,true,true,true,true,true,true] [k] [(0,.ptr (.v a_0)),(12,.int .i64 (.v i_12)),(13,.int .i64 (.v r_13)),(46,.sv t46),(47,.int .i64 (.v t47)),(48,.int .i64 (.v t48))] M)
theorem wF.Is.L2 {pr:Prim} {aB:eA} (H:wF.Is pr aB R) (k:Nat) (a_0:Option Addr) (i_12 r_13:Int) (t46:SV) (t47 t48:Int) (M:Mem):wF.L2 aB (k + 1) a_0 i_12 r_13 t46 t47 t48 M = wF.L2.T pr aB k a_0 i_12 r_13 t46 t47 t48 R M:=(H _ _ _ _ _ rfl).trans (by kernel_rfl)
def wF.T (a:Option Addr) (l:SV) (n:Int) (R:VP) (M:Mem):Prop:=aH pr aB R (gX PP wF.h [] [] (gR Tryz.f213) [(0,.ptr (.v a)),(1,.sv l),(2,.int .i64 (.v n))] M)
theorem wF.go (a:Option Addr) (l:SV) (n:Int) (h:∀ aB,wF.Is (aJ PP w0) aB R→wF.T (aJ PP w0) aB a l n R M):C PP w0 Id.wF #[.pointer a,SV.v l,.int .i64 n] R M :=
  cW mixed (h:=wF.h) (T:=fun pr aB=>wF.T pr aB a l n R M) Tryz.func213 (cV _ _) (by kernel_rfl) (fun pr aB=>by kernel_rfl) h
noncomputable def jH.h:HC:=aK (bd Tryz.f216) []
def jH.T (p:Option Addr) (r_0 r_1:Int) (R:VP) (M:Mem):Prop:=aH pr (fun _ _ _ _=>False) R (gX PP jH.h [] [] (gR Tryz.f216) [(0,.ptr (.v p)),(1,.agg [.int .i64 (.v r_0),.int .i64 (.v r_1)])] M)
theorem jH.go (p:Option Addr) (r_0 r_1:Int) (h:jH.T (aJ PP w0) p r_0 r_1 R M):C PP w0 Id.jH #[.pointer p,.agg #[.int .i64 r_0,.int .i64 r_1]] R M :=
  cW mixed (h:=jH.h) (T:=fun pr aB=>jH.T pr p r_0 r_1 R M) Tryz.func216 (cV _ _) (by kernel_rfl) (fun pr aB=>by kernel_rfl) fun _ _=>h
noncomputable def dC.h:HC:=aK (bd Tryz.f217) [([true],[0,3])]
def dC.Is (R:VP):Prop:=nX PP pr aB dC.h Tryz.f217 R
abbrev dC.J1 (p_0:Option Addr) (r_3:Addr) (M:Mem):Prop:=aB [true,true] [] [(0,.pointer p_0),(3,.pointer (some r_3))] M
def dC.J1.T (p_0:Option Addr) (r_3:Addr) (R:VP) (M:Mem):Prop:=aH pr aB R (bD PP dC.h (gR Tryz.f217) [true,true] [] [(0,.ptr (.v p_0)),(3,.ptr (.a (.v r_3)))] M)
theorem dC.Is.J1 {pr:Prim} {aB:eA} (H:dC.Is pr aB R) (p_0:Option Addr) (r_3:Addr) (M:Mem):dC.J1 aB p_0 r_3 M = dC.J1.T pr aB p_0 r_3 R M:=(H _ _ _ _ _ rfl).trans (by kernel_rfl)
def dC.T (p:Option Addr) (r_0 r_1:Int) (R:VP) (M:Mem):Prop:=aH pr aB R (gX PP dC.h [] [] (gR Tryz.f217) [(0,.ptr (.v p)),(1,.agg [.int .i64 (.v r_0),.int .i64 (.v r_1)])] M)
theorem dC.go (p:Option Addr) (r_0 r_1:Int) (h:∀ aB,dC.Is (aJ PP w0) aB R→dC.T (aJ PP w0) aB p r_0 r_1 R M):C PP w0 Id.dC #[.pointer p,.agg #[.int .i64 r_0,.int .i64 r_1]] R M :=
  cW mixed (h:=dC.h) (T:=fun pr aB=>dC.T pr aB p r_0 r_1 R M) Tryz.func217 (cV _ _) (by kernel_rfl) (fun pr aB=>by kernel_rfl) h
noncomputable def kN.h:HC:=aK (bd Tryz.f218) []
def kN.T (a:Option Addr) (i:Int) (R:VP) (M:Mem):Prop:=aH pr (fun _ _ _ _=>False) R (gX PP kN.h [] [] (gR Tryz.f218) [(0,.ptr (.v a)),(1,.int .i64 (.v i))] M)
theorem kN.go (a:Option Addr) (i:Int) (h:kN.T (aJ PP w0) a i R M):C PP w0 Id.kN #[.pointer a,.int .i64 i] R M :=
  cW mixed (h:=kN.h) (T:=fun pr aB=>kN.T pr a i R M) Tryz.func218 (cV _ _) (by kernel_rfl) (fun pr aB=>by kernel_rfl) fun _ _=>h
noncomputable def bO.h:HC:=aK (bd Tryz.f219) [([true],[0,1,4]),([true,true,true,true,false],[0,4,5]),([true,true,true,true,false,false],[0,4,5])]
def bO.Is (R:VP):Prop:=nX PP pr aB bO.h Tryz.f219 R
abbrev bO.J1 (a_0:Option Addr) (n_1 p_4:Int) (M:Mem):Prop:=aB [true,true] [] [(0,.pointer a_0),(1,.int .i64 n_1),(4,.int .i64 p_4)] M
def bO.J1.T (a_0:Option Addr) (n_1 p_4:Int) (R:VP) (M:Mem):Prop:=aH pr aB R (bD PP bO.h (gR Tryz.f219) [true,true] [] [(0,.ptr (.v a_0)),(1,.int .i64 (.v n_1)),(4,.int .i64 (.v p_4))] M)
theorem bO.Is.J1 {pr:Prim} {aB:eA} (H:bO.Is pr aB R) (a_0:Option Addr) (n_1 p_4:Int) (M:Mem):bO.J1 aB a_0 n_1 p_4 M = bO.J1.T pr aB a_0 n_1 p_4 R M:=(H _ _ _ _ _ rfl).trans (by kernel_rfl)
abbrev bO.L2 (k:Nat) (a_0:Option Addr) (p_4 k_5:Int) (M:Mem):Prop:=aB [false,false,true,true,true,true] [k] [(0,.pointer a_0),(4,.int .i64 p_4),(5,.int .i64 k_5)] M
def bO.L2.T (k:Nat) (a_0:Option Addr) (p_4 k_5:Int) (R:VP) (M:Mem):Prop:=aH pr aB R (bD PP bO.h (gR Tryz.f219) [false,false,true,true,true,true] [k] [(0,.ptr (.v a_0)),(4,.int .i64 (.v p_4)),(5,.int .i64 (.v k_5))] M)
theorem bO.Is.L2 {pr:Prim} {aB:eA} (H:bO.Is pr aB R) (k:Nat) (a_0:Option Addr) (p_4 k_5:Int) (M:Mem):bO.L2 aB (k + 1) a_0 p_4 k_5 M = bO.L2.T pr aB k a_0 p_4 k_5 R M:=(H _ _ _ _ _ rfl).trans (by kernel_rfl)
abbrev bO.J3 (k:Nat) (a_0:Option Addr) (p_4 k_5:Int) (M:Mem):Prop:=aB [true,false,false,true,true,true,true] [k] [(0,.pointer a_0),(4,.int .i64 p_4),(5,.int .i64 k_5)] M
def bO.J3.T (k:Nat) (a_0:Option Addr) (p_4 k_5:Int) (R:VP) (M:Mem):Prop:=aH pr aB R (bD PP bO.h (gR Tryz.f219) [true,false,false,true,true,true,true] [k] [(0,.ptr (.v a_0)),(4,.int .i64 (.v p_4)),(5,.int .i64 (.v k_5))] M)
theorem bO.Is.J3 {pr:Prim} {aB:eA} (H:bO.Is pr aB R) (k:Nat) (a_0:Option Addr) (p_4 k_5:Int) (M:Mem):bO.J3 aB k a_0 p_4 k_5 M = bO.J3.T pr aB k a_0 p_4 k_5 R M:=(H _ _ _ _ _ rfl).trans (by kernel_rfl)
def bO.T (a:Option Addr) (n:Int) (R:VP) (M:Mem):Prop:=aH pr aB R (gX PP bO.h [] [] (gR Tryz.f219) [(0,.ptr (.v a)),(1,.int .i64 (.v n))] M)
theorem bO.go (a:Option Addr) (n:Int) (h:∀ aB,bO.Is (aJ PP w0) aB R→bO.T (aJ PP w0) aB a n R M):C PP w0 Id.bO #[.pointer a,.int .i64 n] R M :=
  cW mixed (h:=bO.h) (T:=fun pr aB=>bO.T pr aB a n R M) Tryz.func219 (cV _ _) (by kernel_rfl) (fun pr aB=>by kernel_rfl) h
noncomputable def tZ.h:HC:=aK (bd Tryz.f220) [([true,true,false,true,false],[0,2,7,8]),([true,true,false,true,false,false],[0,2,7,8]),([true,true,false,true,false,false,true,false,false,true],[0,2,7,8,9])]
def tZ.Is (R:VP):Prop:=nX PP pr aB tZ.h Tryz.f220 R
abbrev tZ.L1 (k:Nat) (a_0:Option Addr) (any_2:Bool) (n_7 k_8:Int) (M:Mem):Prop:=aB [false,false,true,false,true,true] [k] [(0,.pointer a_0),(2,.bool any_2),(7,.int .i64 n_7),(8,.int .i64 k_8)] M
def tZ.L1.T (k:Nat) (a_0:Option Addr) (any_2:Bool) (n_7 k_8:Int) (R:VP) (M:Mem):Prop:=aH pr aB R (bD PP tZ.h (gR Tryz.f220) [false,false,true,false,true,true] [k] [(0,.ptr (.v a_0)),(2,.bool (.v any_2)),(7,.int .i64 (.v n_7)),(8,.int .i64 (.v k_8))] M)
theorem tZ.Is.L1 {pr:Prim} {aB:eA} (H:tZ.Is pr aB R) (k:Nat) (a_0:Option Addr) (any_2:Bool) (n_7 k_8:Int) (M:Mem):tZ.L1 aB (k + 1) a_0 any_2 n_7 k_8 M = tZ.L1.T pr aB k a_0 any_2 n_7 k_8 R M:=(H _ _ _ _ _ rfl).trans (by kernel_rfl)
abbrev tZ.J2 (k:Nat) (a_0:Option Addr) (any_2:Bool) (n_7 k_8:Int) (M:Mem):Prop:=aB [true,false,false,true,false,true,true] [k] [(0,.pointer a_0),(2,.bool any_2),(7,.int .i64 n_7),(8,.int .i64 k_8)] M
def tZ.J2.T (k:Nat) (a_0:Option Addr) (any_2:Bool) (n_7 k_8:Int) (R:VP) (M:Mem):Prop:=aH pr aB R (bD PP tZ.h (gR Tryz.f220) [true,false,false,true,false,true,true] [k] [(0,.ptr (.v a_0)),(2,.bool (.v any_2)),(7,.int .i64 (.v n_7)),(8,.int .i64 (.v k_8))] M)
theorem tZ.Is.J2 {pr:Prim} {aB:eA} (H:tZ.Is pr aB R) (k:Nat) (a_0:Option Addr) (any_2:Bool) (n_7 k_8:Int) (M:Mem):tZ.J2 aB k a_0 any_2 n_7 k_8 M = tZ.J2.T pr aB k a_0 any_2 n_7 k_8 R M:=(H _ _ _ _ _ rfl).trans (by kernel_rfl)
abbrev tZ.J3 (k:Nat) (a_0:Option Addr) (any_2:Bool) (n_7 k_8 up_9:Int) (M:Mem):Prop:=aB [true,true,false,false,true,false,false,true,false,true,true] [k] [(0,.pointer a_0),(2,.bool any_2),(7,.int .i64 n_7),(8,.int .i64 k_8),(9,.int .i64 up_9)] M
def tZ.J3.T (k:Nat) (a_0:Option Addr) (any_2:Bool) (n_7 k_8 up_9:Int) (R:VP) (M:Mem):Prop:=aH pr aB R (bD PP tZ.h (gR Tryz.f220) [true,true,false,false,true,false,false,true,false,true,true] [k] [(0,.ptr (.v a_0)),(2,.bool (.v any_2)),(7,.int .i64 (.v n_7)),(8,.int .i64 (.v k_8)),(9,.int .i64 (.v up_9))] M)
theorem tZ.Is.J3 {pr:Prim} {aB:eA} (H:tZ.Is pr aB R) (k:Nat) (a_0:Option Addr) (any_2:Bool) (n_7 k_8 up_9:Int) (M:Mem):tZ.J3 aB k a_0 any_2 n_7 k_8 up_9 M = tZ.J3.T pr aB k a_0 any_2 n_7 k_8 up_9 R M:=(H _ _ _ _ _ rfl).trans (by kernel_rfl)
def tZ.T (a:Option Addr) (i:Int) (any:Bool) (R:VP) (M:Mem):Prop:=aH pr aB R (gX PP tZ.h [] [] (gR Tryz.f220) [(0,.ptr (.v a)),(1,.int .i64 (.v i)),(2,.bool (.v any))] M)
theorem tZ.go (a:Option Addr) (i:Int) (any:Bool) (h:∀ aB,tZ.Is (aJ PP w0) aB R→tZ.T (aJ PP w0) aB a i any R M):C PP w0 Id.tZ #[.pointer a,.int .i64 i,.bool any] R M :=
  cW mixed (h:=tZ.h) (T:=fun pr aB=>tZ.T pr aB a i any R M) Tryz.func220 (cV _ _) (by kernel_rfl) (fun pr aB=>by kernel_rfl) h
noncomputable def iE.h:HC:=aK (bd Tryz.f221) []
def iE.T (a:Option Addr) (n m:Int) (R:VP) (M:Mem):Prop:=aH pr (fun _ _ _ _=>False) R (gX PP iE.h [] [] (gR Tryz.f221) [(0,.ptr (.v a)),(1,.int .i64 (.v n)),(2,.int .i64 (.v m))] M)
theorem iE.go (a:Option Addr) (n m:Int) (h:iE.T (aJ PP w0) a n m R M):C PP w0 Id.iE #[.pointer a,.int .i64 n,.int .i64 m] R M :=
  cW mixed (h:=iE.h) (T:=fun pr aB=>iE.T pr a n m R M) Tryz.func221 (cV _ _) (by kernel_rfl) (fun pr aB=>by kernel_rfl) fun _ _=>h
noncomputable def cL.h:HC:=aK (bd Tryz.f224) []
def cL.T (s:SV) (v:Int) (R:VP) (M:Mem):Prop:=aH pr (fun _ _ _ _=>False) R (gX PP cL.h [] [] (gR Tryz.f224) [(0,.sv s),(1,.int .i64 (.v v))] M)
theorem cL.go (s:SV) (v:Int) (h:cL.T (aJ PP w0) s v R M):C PP w0 Id.cL #[SV.v s,.int .i64 v] R M :=
  cW mixed (h:=cL.h) (T:=fun pr aB=>cL.T pr s v R M) Tryz.func224 (cV _ _) (by kernel_rfl) (fun pr aB=>by kernel_rfl) fun _ _=>h
noncomputable def mO.h:HC:=aK (bd Tryz.f231) []
def mO.T (x:Int) (R:VP) (M:Mem):Prop:=aH pr (fun _ _ _ _=>False) R (gX PP mO.h [] [] (gR Tryz.f231) [(0,.int .u64 (.v x))] M)
theorem mO.go (x:Int) (h:mO.T (aJ PP w0) x R M):C PP w0 Id.mO #[.int .u64 x] R M :=
  cW mixed (h:=mO.h) (T:=fun pr aB=>mO.T pr x R M) Tryz.func231 (cV _ _) (by kernel_rfl) (fun pr aB=>by kernel_rfl) fun _ _=>h
noncomputable def gU.h:HC:=aK (bd Tryz.f232) []
def gU.T (p:Option Addr) (R:VP) (M:Mem):Prop:=aH pr (fun _ _ _ _=>False) R (gX PP gU.h [] [] (gR Tryz.f232) [(0,.ptr (.v p))] M)
theorem gU.go (p:Option Addr) (h:gU.T (aJ PP w0) p R M):C PP w0 Id.gU #[.pointer p] R M :=
  cW mixed (h:=gU.h) (T:=fun pr aB=>gU.T pr p R M) Tryz.func232 (cV _ _) (by kernel_rfl) (fun pr aB=>by kernel_rfl) fun _ _=>h
noncomputable def cZ.h:HC:=aK (bd Tryz.f233) [([true,true],[0,3,4,6])]
def cZ.Is (R:VP):Prop:=nX PP pr aB cZ.h Tryz.f233 R
abbrev cZ.J1 (p_0:Option Addr) (v_3:Addr) (t4:Addr) (at_6:Int) (M:Mem):Prop:=aB [true,true,true] [] [(0,.pointer p_0),(3,.pointer (some v_3)),(4,.pointer (some t4)),(6,.int .i64 at_6)] M
def cZ.J1.T (p_0:Option Addr) (v_3:Addr) (t4:Addr) (at_6:Int) (R:VP) (M:Mem):Prop:=aH pr aB R (bD PP cZ.h (gR Tryz.f233) [true,true,true] [] [(0,.ptr (.v p_0)),(3,.ptr (.a (.v v_3))),(4,.ptr (.a (.v t4))),(6,.int .i64 (.v at_6))] M)
theorem cZ.Is.J1 {pr:Prim} {aB:eA} (H:cZ.Is pr aB R) (p_0:Option Addr) (v_3:Addr) (t4:Addr) (at_6:Int) (M:Mem):cZ.J1 aB p_0 v_3 t4 at_6 M = cZ.J1.T pr aB p_0 v_3 t4 at_6 R M:=(H _ _ _ _ _ rfl).trans (by kernel_rfl)
def cZ.T (p:Option Addr) (v_0 v_1 v_2 v_3 v_4:Int) (R:VP) (M:Mem):Prop:=aH pr aB R (gX PP cZ.h [] [] (gR Tryz.f233) [(0,.ptr (.v p)),(1,.agg [.int .i64 (.v v_0),.int .i64 (.v v_1),.int .i64 (.v v_2),.int .i64 (.v v_3),.int .i64 (.v v_4)])] M)
theorem cZ.go (p:Option Addr) (v_0 v_1 v_2 v_3 v_4:Int) (h:∀ aB,cZ.Is (aJ PP w0) aB R→cZ.T (aJ PP w0) aB p v_0 v_1 v_2 v_3 v_4 R M):C PP w0 Id.cZ #[.pointer p,.agg #[.int .i64 v_0,.int .i64 v_1,.int .i64 v_2,.int .i64 v_3,.int .i64 v_4]] R M :=
  cW mixed (h:=cZ.h) (T:=fun pr aB=>cZ.T pr aB p v_0 v_1 v_2 v_3 v_4 R M) Tryz.func233 (cV _ _) (by kernel_rfl) (fun pr aB=>by kernel_rfl) h
noncomputable def lD.h:HC:=aK (bd Tryz.f234) []
def lD.T (p:Option Addr) (r_0 r_1 v_0 v_1 v_2 v_3 v_4:Int) (R:VP) (M:Mem):Prop:=aH pr (fun _ _ _ _=>False) R (gX PP lD.h [] [] (gR Tryz.f234) [(0,.ptr (.v p)),(1,.agg [.int .i64 (.v r_0),.int .i64 (.v r_1)]),(2,.agg [.int .i64 (.v v_0),.int .i64 (.v v_1),.int .i64 (.v v_2),.int .i64 (.v v_3),.int .i64 (.v v_4)])] M)
theorem lD.go (p:Option Addr) (r_0 r_1 v_0 v_1 v_2 v_3 v_4:Int) (h:lD.T (aJ PP w0) p r_0 r_1 v_0 v_1 v_2 v_3 v_4 R M):C PP w0 Id.lD #[.pointer p,.agg #[.int .i64 r_0,.int .i64 r_1],.agg #[.int .i64 v_0,.int .i64 v_1,.int .i64 v_2,.int .i64 v_3,.int .i64 v_4]] R M :=
  cW mixed (h:=lD.h) (T:=fun pr aB=>lD.T pr p r_0 r_1 v_0 v_1 v_2 v_3 v_4 R M) Tryz.func234 (cV _ _) (by kernel_rfl) (fun pr aB=>by kernel_rfl) fun _ _=>h
noncomputable def l0.h:HC:=aK (bd Tryz.f235) []
def l0.T (t:Option Addr) (r_0 r_1:Int) (R:VP) (M:Mem):Prop:=aH pr (fun _ _ _ _=>False) R (gX PP l0.h [] [] (gR Tryz.f235) [(0,.ptr (.v t)),(1,.agg [.int .i64 (.v r_0),.int .i64 (.v r_1)])] M)
theorem l0.go (t:Option Addr) (r_0 r_1:Int) (h:l0.T (aJ PP w0) t r_0 r_1 R M):C PP w0 Id.l0 #[.pointer t,.agg #[.int .i64 r_0,.int .i64 r_1]] R M :=
  cW mixed (h:=l0.h) (T:=fun pr aB=>l0.T pr t r_0 r_1 R M) Tryz.func235 (cV _ _) (by kernel_rfl) (fun pr aB=>by kernel_rfl) fun _ _=>h
noncomputable def tY.h:HC:=aK (bd Tryz.f236) [([true,false],[0,1,2,3,8]),([true,false,false,true,false,false,true,false],[0,1,2,3,8,9]),([true,false,false,true,false,false,true,false,false],[0,1,2,3,8,9])]
def tY.Is (R:VP):Prop:=nX PP pr aB tY.h Tryz.f236 R
abbrev tY.L1 (k:Nat) (data_0:SV) (a_1 b_2:Int) (cmp_3:FuncId × Array Value) (i_8:Int) (M:Mem):Prop:=aB [false,false,true] [k] [(0,SV.v data_0),(1,.int .i64 a_1),(2,.int .i64 b_2),(3,kfV cmp_3),(8,.int .i64 i_8)] M
def tY.L1.T (k:Nat) (data_0:SV) (a_1 b_2:Int) (cmp_3:FuncId × Array Value) (i_8:Int) (R:VP) (M:Mem):Prop:=aH pr aB R (bD PP tY.h (gR Tryz.f236) [false,false,true] [k] [(0,.sv data_0),(1,.int .i64 (.v a_1)),(2,.int .i64 (.v b_2)),(3,.kf cmp_3),(8,.int .i64 (.v i_8))] M)
theorem tY.Is.L1 {pr:Prim} {aB:eA} (H:tY.Is pr aB R) (k:Nat) (data_0:SV) (a_1 b_2:Int) (cmp_3:FuncId × Array Value) (i_8:Int) (M:Mem):tY.L1 aB (k + 1) data_0 a_1 b_2 cmp_3 i_8 M = tY.L1.T pr aB k data_0 a_1 b_2 cmp_3 i_8 R M:=(H _ _ _ _ _ rfl).trans (by kernel_rfl)
abbrev tY.L2 (k:Nat) (k':Nat) (data_0:SV) (a_1 b_2:Int) (cmp_3:FuncId × Array Value) (i_8 j_9:Int) (M:Mem):Prop:=aB [false,false,true,false,false,true,false,false,true] [k',k] [(0,SV.v data_0),(1,.int .i64 a_1),(2,.int .i64 b_2),(3,kfV cmp_3),(8,.int .i64 i_8),(9,.int .i64 j_9)] M
def tY.L2.T (k:Nat) (k':Nat) (data_0:SV) (a_1 b_2:Int) (cmp_3:FuncId × Array Value) (i_8 j_9:Int) (R:VP) (M:Mem):Prop:=aH pr aB R (bD PP tY.h (gR Tryz.f236) [false,false,true,false,false,true,false,false,true] [k',k] [(0,.sv data_0),(1,.int .i64 (.v a_1)),(2,.int .i64 (.v b_2)),(3,.kf cmp_3),(8,.int .i64 (.v i_8)),(9,.int .i64 (.v j_9))] M)
theorem tY.Is.L2 {pr:Prim} {aB:eA} (H:tY.Is pr aB R) (k:Nat) (k':Nat) (data_0:SV) (a_1 b_2:Int) (cmp_3:FuncId × Array Value) (i_8 j_9:Int) (M:Mem):tY.L2 aB k (k' + 1) data_0 a_1 b_2 cmp_3 i_8 j_9 M = tY.L2.T pr aB k k' data_0 a_1 b_2 cmp_3 i_8 j_9 R M:=(H _ _ _ _ _ rfl).trans (by kernel_rfl)
abbrev tY.J3 (k:Nat) (k':Nat) (data_0:SV) (a_1 b_2:Int) (cmp_3:FuncId × Array Value) (i_8 j_9:Int) (M:Mem):Prop:=aB [true,false,false,true,false,false,true,false,false,true] [k',k] [(0,SV.v data_0),(1,.int .i64 a_1),(2,.int .i64 b_2),(3,kfV cmp_3),(8,.int .i64 i_8),(9,.int .i64 j_9)] M
def tY.J3.T (k:Nat) (k':Nat) (data_0:SV) (a_1 b_2:Int) (cmp_3:FuncId × Array Value) (i_8 j_9:Int) (R:VP) (M:Mem):Prop:=aH pr aB R (bD PP tY.h (gR Tryz.f236) [true,false,false,true,false,false,true,false,false,true] [k',k] [(0,.sv data_0),(1,.int .i64 (.v a_1)),(2,.int .i64 (.v b_2)),(3,.kf cmp_3),(8,.int .i64 (.v i_8)),(9,.int .i64 (.v j_9))] M)
theorem tY.Is.J3 {pr:Prim} {aB:eA} (H:tY.Is pr aB R) (k:Nat) (k':Nat) (data_0:SV) (a_1 b_2:Int) (cmp_3:FuncId × Array Value) (i_8 j_9:Int) (M:Mem):tY.J3 aB k k' data_0 a_1 b_2 cmp_3 i_8 j_9 M = tY.J3.T pr aB k k' data_0 a_1 b_2 cmp_3 i_8 j_9 R M:=(H _ _ _ _ _ rfl).trans (by kernel_rfl)
def tY.T (data:SV) (a b:Int) (cmp:FuncId × Array Value) (R:VP) (M:Mem):Prop:=aH pr aB R (gX PP tY.h [] [] (gR Tryz.f236) [(0,.sv data),(1,.int .i64 (.v a)),(2,.int .i64 (.v b)),(3,.kf cmp)] M)
theorem tY.go (data:SV) (a b:Int) (cmp:FuncId × Array Value) (h:∀ aB,tY.Is (aJ PP w0) aB R→tY.T (aJ PP w0) aB data a b cmp R M):C PP w0 Id.tY #[SV.v data,.int .i64 a,.int .i64 b,.func (.func cmp.1) #[] cmp.2] R M :=
  cW mixed (h:=tY.h) (T:=fun pr aB=>tY.T pr aB data a b cmp R M) Tryz.func236 (cV _ _) (by kernel_rfl) (fun pr aB=>by kernel_rfl) h
noncomputable def jY.h:HC:=aK (bd Tryz.f237) [([false,true,false,true,true,false,false],[0,1,4,10,11]),([false,true,false,true,true,true,false,true,false],[0,10,13]),([true,false,true,false,true,true,false,false],[0,2,4,14,15]),([true,false,true,false,true,true,true,false,true,false],[0,14,17]),([true,true,true,true,true],[0,1,2,3,4,18,19,20,21]),([true,true,true,true,true,true,true,false,false],[0,1,2,3,4,18,19,20,21,22]),([true,true,true,true,true,true,true,true,true],[0,1,3,4,18,20,24]),([true,true,true,true,true,true,true,true,true,true],[0,3,4,18,24])]
def jY.Is (R:VP):Prop:=nX PP pr aB jY.h Tryz.f237 R
abbrev jY.L1 (k:Nat) (data_0:SV) (a_1:Int) (cmp_4:FuncId × Array Value) (i_10 j_11:Int) (M:Mem):Prop:=aB [false,false,false,true,true,false,true,false] [k] [(0,SV.v data_0),(1,.int .i64 a_1),(4,kfV cmp_4),(10,.int .i64 i_10),(11,.int .i64 j_11)] M
def jY.L1.T (k:Nat) (data_0:SV) (a_1:Int) (cmp_4:FuncId × Array Value) (i_10 j_11:Int) (R:VP) (M:Mem):Prop:=aH pr aB R (bD PP jY.h (gR Tryz.f237) [false,false,false,true,true,false,true,false] [k] [(0,.sv data_0),(1,.int .i64 (.v a_1)),(4,.kf cmp_4),(10,.int .i64 (.v i_10)),(11,.int .i64 (.v j_11))] M)
theorem jY.Is.L1 {pr:Prim} {aB:eA} (H:jY.Is pr aB R) (k:Nat) (data_0:SV) (a_1:Int) (cmp_4:FuncId × Array Value) (i_10 j_11:Int) (M:Mem):jY.L1 aB (k + 1) data_0 a_1 cmp_4 i_10 j_11 M = jY.L1.T pr aB k data_0 a_1 cmp_4 i_10 j_11 R M:=(H _ _ _ _ _ rfl).trans (by kernel_rfl)
abbrev jY.L2 (k:Nat) (data_0:SV) (m_2:Int) (cmp_4:FuncId × Array Value) (i_14 j_15:Int) (M:Mem):Prop:=aB [false,false,false,true,true,false,true,false,true] [k] [(0,SV.v data_0),(2,.int .i64 m_2),(4,kfV cmp_4),(14,.int .i64 i_14),(15,.int .i64 j_15)] M
def jY.L2.T (k:Nat) (data_0:SV) (m_2:Int) (cmp_4:FuncId × Array Value) (i_14 j_15:Int) (R:VP) (M:Mem):Prop:=aH pr aB R (bD PP jY.h (gR Tryz.f237) [false,false,false,true,true,false,true,false,true] [k] [(0,.sv data_0),(2,.int .i64 (.v m_2)),(4,.kf cmp_4),(14,.int .i64 (.v i_14)),(15,.int .i64 (.v j_15))] M)
theorem jY.Is.L2 {pr:Prim} {aB:eA} (H:jY.Is pr aB R) (k:Nat) (data_0:SV) (m_2:Int) (cmp_4:FuncId × Array Value) (i_14 j_15:Int) (M:Mem):jY.L2 aB (k + 1) data_0 m_2 cmp_4 i_14 j_15 M = jY.L2.T pr aB k data_0 m_2 cmp_4 i_14 j_15 R M:=(H _ _ _ _ _ rfl).trans (by kernel_rfl)
abbrev jY.J3 (data_0:SV) (a_1 m_2 b_3:Int) (cmp_4:FuncId × Array Value) (mid_18 n_19 start_20 r_21:Int) (M:Mem):Prop:=aB [true,true,true,true,true,true] [] [(0,SV.v data_0),(1,.int .i64 a_1),(2,.int .i64 m_2),(3,.int .i64 b_3),(4,kfV cmp_4),(18,.int .i64 mid_18),(19,.int .i64 n_19),(20,.int .i64 start_20),(21,.int .i64 r_21)] M
def jY.J3.T (data_0:SV) (a_1 m_2 b_3:Int) (cmp_4:FuncId × Array Value) (mid_18 n_19 start_20 r_21:Int) (R:VP) (M:Mem):Prop:=aH pr aB R (bD PP jY.h (gR Tryz.f237) [true,true,true,true,true,true] [] [(0,.sv data_0),(1,.int .i64 (.v a_1)),(2,.int .i64 (.v m_2)),(3,.int .i64 (.v b_3)),(4,.kf cmp_4),(18,.int .i64 (.v mid_18)),(19,.int .i64 (.v n_19)),(20,.int .i64 (.v start_20)),(21,.int .i64 (.v r_21))] M)
theorem jY.Is.J3 {pr:Prim} {aB:eA} (H:jY.Is pr aB R) (data_0:SV) (a_1 m_2 b_3:Int) (cmp_4:FuncId × Array Value) (mid_18 n_19 start_20 r_21:Int) (M:Mem):jY.J3 aB data_0 a_1 m_2 b_3 cmp_4 mid_18 n_19 start_20 r_21 M = jY.J3.T pr aB data_0 a_1 m_2 b_3 cmp_4 mid_18 n_19 start_20 r_21 R M:=(H _ _ _ _ _ rfl).trans (by kernel_rfl)
abbrev jY.L4 (k:Nat) (data_0:SV) (i_10 k_13:Int) (M:Mem):Prop:=aB [false,false,true,false,true,true,true,false,true,false] [k] [(0,SV.v data_0),(10,.int .i64 i_10),(13,.int .i64 k_13)] M
def jY.L4.T (k:Nat) (data_0:SV) (i_10 k_13:Int) (R:VP) (M:Mem):Prop:=aH pr aB R (bD PP jY.h (gR Tryz.f237) [false,false,true,false,true,true,true,false,true,false] [k] [(0,.sv data_0),(10,.int .i64 (.v i_10)),(13,.int .i64 (.v k_13))] M)
theorem jY.Is.L4 {pr:Prim} {aB:eA} (H:jY.Is pr aB R) (k:Nat) (data_0:SV) (i_10 k_13:Int) (M:Mem):jY.L4 aB (k + 1) data_0 i_10 k_13 M = jY.L4.T pr aB k data_0 i_10 k_13 R M:=(H _ _ _ _ _ rfl).trans (by kernel_rfl)
abbrev jY.L5 (k:Nat) (data_0:SV) (i_14 k_17:Int) (M:Mem):Prop:=aB [false,false,true,false,true,true,true,false,true,false,true] [k] [(0,SV.v data_0),(14,.int .i64 i_14),(17,.int .i64 k_17)] M
def jY.L5.T (k:Nat) (data_0:SV) (i_14 k_17:Int) (R:VP) (M:Mem):Prop:=aH pr aB R (bD PP jY.h (gR Tryz.f237) [false,false,true,false,true,true,true,false,true,false,true] [k] [(0,.sv data_0),(14,.int .i64 (.v i_14)),(17,.int .i64 (.v k_17))] M)
theorem jY.Is.L5 {pr:Prim} {aB:eA} (H:jY.Is pr aB R) (k:Nat) (data_0:SV) (i_14 k_17:Int) (M:Mem):jY.L5 aB (k + 1) data_0 i_14 k_17 M = jY.L5.T pr aB k data_0 i_14 k_17 R M:=(H _ _ _ _ _ rfl).trans (by kernel_rfl)
abbrev jY.L6 (k:Nat) (data_0:SV) (a_1 m_2 b_3:Int) (cmp_4:FuncId × Array Value) (mid_18 n_19 start_20 r_21 p_22:Int) (M:Mem):Prop:=aB [false,false,false,true,true,true,true,true,true,true] [k] [(0,SV.v data_0),(1,.int .i64 a_1),(2,.int .i64 m_2),(3,.int .i64 b_3),(4,kfV cmp_4),(18,.int .i64 mid_18),(19,.int .i64 n_19),(20,.int .i64 start_20),(21,.int .i64 r_21),(22,.int .i64 p_22)] M
def jY.L6.T (k:Nat) (data_0:SV) (a_1 m_2 b_3:Int) (cmp_4:FuncId × Array Value) (mid_18 n_19 start_20 r_21 p_22:Int) (R:VP) (M:Mem):Prop:=aH pr aB R (bD PP jY.h (gR Tryz.f237) [false,false,false,true,true,true,true,true,true,true] [k] [(0,.sv data_0),(1,.int .i64 (.v a_1)),(2,.int .i64 (.v m_2)),(3,.int .i64 (.v b_3)),(4,.kf cmp_4),(18,.int .i64 (.v mid_18)),(19,.int .i64 (.v n_19)),(20,.int .i64 (.v start_20)),(21,.int .i64 (.v r_21)),(22,.int .i64 (.v p_22))] M)
theorem jY.Is.L6 {pr:Prim} {aB:eA} (H:jY.Is pr aB R) (k:Nat) (data_0:SV) (a_1 m_2 b_3:Int) (cmp_4:FuncId × Array Value) (mid_18 n_19 start_20 r_21 p_22:Int) (M:Mem):jY.L6 aB (k + 1) data_0 a_1 m_2 b_3 cmp_4 mid_18 n_19 start_20 r_21 p_22 M = jY.L6.T pr aB k data_0 a_1 m_2 b_3 cmp_4 mid_18 n_19 start_20 r_21 p_22 R M:=(H _ _ _ _ _ rfl).trans (by kernel_rfl)
abbrev jY.J7 (data_0:SV) (a_1 b_3:Int) (cmp_4:FuncId × Array Value) (mid_18 start_20 end_24:Int) (M:Mem):Prop:=aB [true,true,true,true,true,true,true,true,true,true] [] [(0,SV.v data_0),(1,.int .i64 a_1),(3,.int .i64 b_3),(4,kfV cmp_4),(18,.int .i64 mid_18),(20,.int .i64 start_20),(24,.int .i64 end_24)] M
def jY.J7.T (data_0:SV) (a_1 b_3:Int) (cmp_4:FuncId × Array Value) (mid_18 start_20 end_24:Int) (R:VP) (M:Mem):Prop:=aH pr aB R (bD PP jY.h (gR Tryz.f237) [true,true,true,true,true,true,true,true,true,true] [] [(0,.sv data_0),(1,.int .i64 (.v a_1)),(3,.int .i64 (.v b_3)),(4,.kf cmp_4),(18,.int .i64 (.v mid_18)),(20,.int .i64 (.v start_20)),(24,.int .i64 (.v end_24))] M)
theorem jY.Is.J7 {pr:Prim} {aB:eA} (H:jY.Is pr aB R) (data_0:SV) (a_1 b_3:Int) (cmp_4:FuncId × Array Value) (mid_18 start_20 end_24:Int) (M:Mem):jY.J7 aB data_0 a_1 b_3 cmp_4 mid_18 start_20 end_24 M = jY.J7.T pr aB data_0 a_1 b_3 cmp_4 mid_18 start_20 end_24 R M:=(H _ _ _ _ _ rfl).trans (by kernel_rfl)
abbrev jY.J8 (data_0:SV) (b_3:Int) (cmp_4:FuncId × Array Value) (mid_18 end_24:Int) (M:Mem):Prop:=aB [true,true,true,true,true,true,true,true,true,true,true] [] [(0,SV.v data_0),(3,.int .i64 b_3),(4,kfV cmp_4),(18,.int .i64 mid_18),(24,.int .i64 end_24)] M
def jY.J8.T (data_0:SV) (b_3:Int) (cmp_4:FuncId × Array Value) (mid_18 end_24:Int) (R:VP) (M:Mem):Prop:=aH pr aB R (bD PP jY.h (gR Tryz.f237) [true,true,true,true,true,true,true,true,true,true,true] [] [(0,.sv data_0),(3,.int .i64 (.v b_3)),(4,.kf cmp_4),(18,.int .i64 (.v mid_18)),(24,.int .i64 (.v end_24))] M)
theorem jY.Is.J8 {pr:Prim} {aB:eA} (H:jY.Is pr aB R) (data_0:SV) (b_3:Int) (cmp_4:FuncId × Array Value) (mid_18 end_24:Int) (M:Mem):jY.J8 aB data_0 b_3 cmp_4 mid_18 end_24 M = jY.J8.T pr aB data_0 b_3 cmp_4 mid_18 end_24 R M:=(H _ _ _ _ _ rfl).trans (by kernel_rfl)
def jY.T (data:SV) (a m b:Int) (cmp:FuncId × Array Value) (R:VP) (M:Mem):Prop:=aH pr aB R (gX PP jY.h [] [] (gR Tryz.f237) [(0,.sv data),(1,.int .i64 (.v a)),(2,.int .i64 (.v m)),(3,.int .i64 (.v b)),(4,.kf cmp)] M)
theorem jY.go (data:SV) (a m b:Int) (cmp:FuncId × Array Value) (h:∀ aB,jY.Is (aJ PP w0) aB R→jY.T (aJ PP w0) aB data a m b cmp R M):C PP w0 Id.jY #[SV.v data,.int .i64 a,.int .i64 m,.int .i64 b,.func (.func cmp.1) #[] cmp.2] R M :=
  cW mixed (h:=jY.h) (T:=fun pr aB=>jY.T pr aB data a m b cmp R M) Tryz.func237 (cV _ _) (by kernel_rfl) (fun pr aB=>by kernel_rfl) h
noncomputable def eM.h:HC:=aK (bd Tryz.f238) []
def eM.T (x:Int) (R:VP) (M:Mem):Prop:=aH pr (fun _ _ _ _=>False) R (gX PP eM.h [] [] (gR Tryz.f238) [(0,.int .i64 (.v x))] M)
theorem eM.go (x:Int) (h:eM.T (aJ PP w0) x R M):C PP w0 Id.eM #[.int .i64 x] R M :=
  cW mixed (h:=eM.h) (T:=fun pr aB=>eM.T pr x R M) Tryz.func238 (cV _ _) (by kernel_rfl) (fun pr aB=>by kernel_rfl) fun _ _=>h
noncomputable def mU.h:HC:=aK (bd Tryz.f239) []
def mU.T (a:Option Addr) (n i:Int) (R:VP) (M:Mem):Prop:=aH pr (fun _ _ _ _=>False) R (gX PP mU.h [] [] (gR Tryz.f239) [(0,.ptr (.v a)),(1,.int .i64 (.v n)),(2,.int .i64 (.v i))] M)
theorem mU.go (a:Option Addr) (n i:Int) (h:mU.T (aJ PP w0) a n i R M):C PP w0 Id.mU #[.pointer a,.int .i64 n,.int .i64 i] R M :=
  cW mixed (h:=mU.h) (T:=fun pr aB=>mU.T pr a n i R M) Tryz.func239 (cV _ _) (by kernel_rfl) (fun pr aB=>by kernel_rfl) fun _ _=>h
noncomputable def mD.h:HC:=aK (bd Tryz.f240) []
def mD.T (a:Option Addr) (R:VP) (M:Mem):Prop:=aH pr (fun _ _ _ _=>False) R (gX PP mD.h [] [] (gR Tryz.f240) [(0,.ptr (.v a))] M)
theorem mD.go (a:Option Addr) (h:mD.T (aJ PP w0) a R M):C PP w0 Id.mD #[.pointer a] R M :=
  cW mixed (h:=mD.h) (T:=fun pr aB=>mD.T pr a R M) Tryz.func240 (cV _ _) (by kernel_rfl) (fun pr aB=>by kernel_rfl) fun _ _=>h
noncomputable def iX.h:HC:=aK (bd Tryz.f241) [([true,true,true],[0,1,8])]
def iX.Is (R:VP):Prop:=nX PP pr aB iX.h Tryz.f241 R
abbrev iX.J1 (a_0:Option Addr) (n_1 low_8:Int) (M:Mem):Prop:=aB [true,true,true,true] [] [(0,.pointer a_0),(1,.int .i64 n_1),(8,.int .i64 low_8)] M
def iX.J1.T (a_0:Option Addr) (n_1 low_8:Int) (R:VP) (M:Mem):Prop:=aH pr aB R (bD PP iX.h (gR Tryz.f241) [true,true,true,true] [] [(0,.ptr (.v a_0)),(1,.int .i64 (.v n_1)),(8,.int .i64 (.v low_8))] M)
theorem iX.Is.J1 {pr:Prim} {aB:eA} (H:iX.Is pr aB R) (a_0:Option Addr) (n_1 low_8:Int) (M:Mem):iX.J1 aB a_0 n_1 low_8 M = iX.J1.T pr aB a_0 n_1 low_8 R M:=(H _ _ _ _ _ rfl).trans (by kernel_rfl)
def iX.T (a:Option Addr) (n:Int) (R:VP) (M:Mem):Prop:=aH pr aB R (gX PP iX.h [] [] (gR Tryz.f241) [(0,.ptr (.v a)),(1,.int .i64 (.v n))] M)
theorem iX.go (a:Option Addr) (n:Int) (h:∀ aB,iX.Is (aJ PP w0) aB R→iX.T (aJ PP w0) aB a n R M):C PP w0 Id.iX #[.pointer a,.int .i64 n] R M :=
  cW mixed (h:=iX.h) (T:=fun pr aB=>iX.T pr aB a n R M) Tryz.func241 (cV _ _) (by kernel_rfl) (fun pr aB=>by kernel_rfl) h
end
end HL
namespace HL
noncomputable def aBp.h:HC:=aK (bd Tryz.f242) []
def aBp.T (pr:Prim) (x:SV) (cmp:FuncId × Array Value) (R:VP) (M:Mem):Prop:=aH pr (fun _ _ _ _=>False) R (gX PP aBp.h [] [] (gR Tryz.f242) [(0,.sv x),(1,.kf cmp)] M)
theorem aBp.go (w0:World) (x:SV) (cmp:FuncId × Array Value) {R:VP} {M:Mem} (h:aBp.T (aJ PP w0) x cmp R M):C PP w0 Id.aBp #[SV.v x,.func (.func cmp.1) #[] cmp.2] R M :=
  cW mixed (h:=aBp.h) (T:=fun pr aB=>aBp.T pr x cmp R M) Tryz.func242 (cV _ _) (by kernel_rfl) (fun pr aB=>by kernel_rfl) fun _ _=>h
noncomputable def nP.h:HC:=aK (bd Tryz.f243) []
def nP.T (pr:Prim) (x_0 x_1 y_0 y_1:Int) (R:VP) (M:Mem):Prop:=aH pr (fun _ _ _ _=>False) R (gX PP nP.h [] [] (gR Tryz.f243) [(0,.agg [.int .i64 (.v x_0),.int .i64 (.v x_1)]),(1,.agg [.int .i64 (.v y_0),.int .i64 (.v y_1)])] M)
theorem nP.go (w0:World) (x_0 x_1 y_0 y_1:Int) {R:VP} {M:Mem} (h:nP.T (aJ PP w0) x_0 x_1 y_0 y_1 R M):C PP w0 Id.nP #[.agg #[.int .i64 x_0,.int .i64 x_1],.agg #[.int .i64 y_0,.int .i64 y_1]] R M :=
  cW mixed (h:=nP.h) (T:=fun pr aB=>nP.T pr x_0 x_1 y_0 y_1 R M) Tryz.func243 (cV _ _) (by kernel_rfl) (fun pr aB=>by kernel_rfl) fun _ _=>h
noncomputable def cO.h:HC:=aK (bd Tryz.f244) [([true],[0,1,2,3])]
def cO.Is (pr:Prim) (aB:eA) (R:VP):Prop:=nX PP pr aB cO.h Tryz.f244 R
abbrev cO.J1 (aB:eA) (a_0:Option Addr) (n_1 m_2 rank_3:Int) (M:Mem):Prop:=aB [true,true] [] [(0,.pointer a_0),(1,.int .i64 n_1),(2,.int .i64 m_2),(3,.int .i64 rank_3)] M
def cO.J1.T (pr:Prim) (aB:eA) (a_0:Option Addr) (n_1 m_2 rank_3:Int) (R:VP) (M:Mem):Prop:=aH pr aB R (bD PP cO.h (gR Tryz.f244) [true,true] [] [(0,.ptr (.v a_0)),(1,.int .i64 (.v n_1)),(2,.int .i64 (.v m_2)),(3,.int .i64 (.v rank_3))] M)
theorem cO.Is.J1 {pr:Prim} {aB:eA} {R:VP} (H:cO.Is pr aB R) (a_0:Option Addr) (n_1 m_2 rank_3:Int) (M:Mem):cO.J1 aB a_0 n_1 m_2 rank_3 M = cO.J1.T pr aB a_0 n_1 m_2 rank_3 R M:=(H _ _ _ _ _ rfl).trans (by kernel_rfl)
def cO.T (pr:Prim) (aB:eA) (a:Option Addr) (n m rank:Int) (R:VP) (M:Mem):Prop:=aH pr aB R (gX PP cO.h [] [] (gR Tryz.f244) [(0,.ptr (.v a)),(1,.int .i64 (.v n)),(2,.int .i64 (.v m)),(3,.int .i64 (.v rank))] M)
theorem cO.go (w0:World) (a:Option Addr) (n m rank:Int) {R:VP} {M:Mem} (h:∀ aB,cO.Is (aJ PP w0) aB R→cO.T (aJ PP w0) aB a n m rank R M):C PP w0 Id.cO #[.pointer a,.int .i64 n,.int .i64 m,.int .i64 rank] R M :=
  cW mixed (h:=cO.h) (T:=fun pr aB=>cO.T pr aB a n m rank R M) Tryz.func244 (cV _ _) (by kernel_rfl) (fun pr aB=>by kernel_rfl) h
noncomputable def dP.h:HC:=aK (bd Tryz.f245) []
def dP.T (pr:Prim) (s:SV) (i:Int) (v:SV) (R:VP) (M:Mem):Prop:=aH pr (fun _ _ _ _=>False) R (gX PP dP.h [] [] (gR Tryz.f245) [(0,.sv s),(1,.int .i64 (.v i)),(2,.sv v)] M)
theorem dP.go (w0:World) (s:SV) (i:Int) (v:SV) {R:VP} {M:Mem} (h:dP.T (aJ PP w0) s i v R M):C PP w0 Id.dP #[SV.v s,.int .i64 i,SV.v v] R M :=
  cW mixed (h:=dP.h) (T:=fun pr aB=>dP.T pr s i v R M) Tryz.func245 (cV _ _) (by kernel_rfl) (fun pr aB=>by kernel_rfl) fun _ _=>h
noncomputable def dK.h:HC:=aK (bd Tryz.f246) [([true,true,false,true,false],[0,1,5,6])]
def dK.Is (pr:Prim) (aB:eA) (R:VP):Prop:=nX PP pr aB dK.h Tryz.f246 R
abbrev dK.L1 (aB:eA) (k:Nat) (a_0:Option Addr) (l_1:SV) (next_5 k_6:Int) (M:Mem):Prop:=aB [false,false,true,false,true,true] [k] [(0,.pointer a_0),(1,SV.v l_1),(5,.int .i64 next_5),(6,.int .i64 k_6)] M
def dK.L1.T (pr:Prim) (aB:eA) (k:Nat) (a_0:Option Addr) (l_1:SV) (next_5 k_6:Int) (R:VP) (M:Mem):Prop:=aH pr aB R (bD PP dK.h (gR Tryz.f246) [false,false,true,false,true,true] [k] [(0,.ptr (.v a_0)),(1,.sv l_1),(5,.int .i64 (.v next_5)),(6,.int .i64 (.v k_6))] M)
theorem dK.Is.L1 {pr:Prim} {aB:eA} {R:VP} (H:dK.Is pr aB R) (k:Nat) (a_0:Option Addr) (l_1:SV) (next_5 k_6:Int) (M:Mem):dK.L1 aB (k + 1) a_0 l_1 next_5 k_6 M = dK.L1.T pr aB k a_0 l_1 next_5 k_6 R M:=(H _ _ _ _ _ rfl).trans (by kernel_rfl)
def dK.T (pr:Prim) (aB:eA) (a:Option Addr) (l:SV) (R:VP) (M:Mem):Prop:=aH pr aB R (gX PP dK.h [] [] (gR Tryz.f246) [(0,.ptr (.v a)),(1,.sv l)] M)
theorem dK.go (w0:World) (a:Option Addr) (l:SV) {R:VP} {M:Mem} (h:∀ aB,dK.Is (aJ PP w0) aB R→dK.T (aJ PP w0) aB a l R M):C PP w0 Id.dK #[.pointer a,SV.v l] R M :=
  cW mixed (h:=dK.h) (T:=fun pr aB=>dK.T pr aB a l R M) Tryz.func246 (cV _ _) (by kernel_rfl) (fun pr aB=>by kernel_rfl) h
noncomputable def cP.h:HC:=aK (bd Tryz.f247) [([true,true,false,false],[0,1,2,7]),([true,true,false,false,false],[0,1,2,7])]
def cP.Is (pr:Prim) (aB:eA) (R:VP):Prop:=nX PP pr aB cP.h Tryz.f247 R
abbrev cP.L1 (aB:eA) (k:Nat) (a_0:Option Addr) (n_1 field_2:Int) (out_7:SV) (M:Mem):Prop:=aB [false,false,false,true,true] [k] [(0,.pointer a_0),(1,.int .i64 n_1),(2,.int .i64 field_2),(7,SV.v out_7)] M
def cP.L1.T (pr:Prim) (aB:eA) (k:Nat) (a_0:Option Addr) (n_1 field_2:Int) (out_7:SV) (R:VP) (M:Mem):Prop:=aH pr aB R (bD PP cP.h (gR Tryz.f247) [false,false,false,true,true] [k] [(0,.ptr (.v a_0)),(1,.int .i64 (.v n_1)),(2,.int .i64 (.v field_2)),(7,.sv out_7)] M)
theorem cP.Is.L1 {pr:Prim} {aB:eA} {R:VP} (H:cP.Is pr aB R) (k:Nat) (a_0:Option Addr) (n_1 field_2:Int) (out_7:SV) (M:Mem):cP.L1 aB (k + 1) a_0 n_1 field_2 out_7 M = cP.L1.T pr aB k a_0 n_1 field_2 out_7 R M:=(H _ _ _ _ _ rfl).trans (by kernel_rfl)
abbrev cP.J2 (aB:eA) (k:Nat) (a_0:Option Addr) (n_1 field_2:Int) (out_7:SV) (M:Mem):Prop:=aB [true,false,false,false,true,true] [k] [(0,.pointer a_0),(1,.int .i64 n_1),(2,.int .i64 field_2),(7,SV.v out_7)] M
def cP.J2.T (pr:Prim) (aB:eA) (k:Nat) (a_0:Option Addr) (n_1 field_2:Int) (out_7:SV) (R:VP) (M:Mem):Prop:=aH pr aB R (bD PP cP.h (gR Tryz.f247) [true,false,false,false,true,true] [k] [(0,.ptr (.v a_0)),(1,.int .i64 (.v n_1)),(2,.int .i64 (.v field_2)),(7,.sv out_7)] M)
theorem cP.Is.J2 {pr:Prim} {aB:eA} {R:VP} (H:cP.Is pr aB R) (k:Nat) (a_0:Option Addr) (n_1 field_2:Int) (out_7:SV) (M:Mem):cP.J2 aB k a_0 n_1 field_2 out_7 M = cP.J2.T pr aB k a_0 n_1 field_2 out_7 R M:=(H _ _ _ _ _ rfl).trans (by kernel_rfl)
def cP.T (pr:Prim) (aB:eA) (a:Option Addr) (n field:Int) (R:VP) (M:Mem):Prop:=aH pr aB R (gX PP cP.h [] [] (gR Tryz.f247) [(0,.ptr (.v a)),(1,.int .i64 (.v n)),(2,.int .i64 (.v field))] M)
theorem cP.go (w0:World) (a:Option Addr) (n field:Int) {R:VP} {M:Mem} (h:∀ aB,cP.Is (aJ PP w0) aB R→cP.T (aJ PP w0) aB a n field R M):C PP w0 Id.cP #[.pointer a,.int .i64 n,.int .i64 field] R M :=
  cW mixed (h:=cP.h) (T:=fun pr aB=>cP.T pr aB a n field R M) Tryz.func247 (cV _ _) (by kernel_rfl) (fun pr aB=>by kernel_rfl) h
noncomputable def kF.h:HC:=aK (bd Tryz.f248) []
def kF.T (pr:Prim) (a:Option Addr) (n m:Int) (R:VP) (M:Mem):Prop:=aH pr (fun _ _ _ _=>False) R (gX PP kF.h [] [] (gR Tryz.f248) [(0,.ptr (.v a)),(1,.int .i64 (.v n)),(2,.int .i64 (.v m))] M)
theorem kF.go (w0:World) (a:Option Addr) (n m:Int) {R:VP} {M:Mem} (h:kF.T (aJ PP w0) a n m R M):C PP w0 Id.kF #[.pointer a,.int .i64 n,.int .i64 m] R M :=
  cW mixed (h:=kF.h) (T:=fun pr aB=>kF.T pr a n m R M) Tryz.func248 (cV _ _) (by kernel_rfl) (fun pr aB=>by kernel_rfl) fun _ _=>h
noncomputable def iD.h:HC:=aK (bd Tryz.f249) []
def iD.T (pr:Prim) (a:Option Addr) (n up:Int) (R:VP) (M:Mem):Prop:=aH pr (fun _ _ _ _=>False) R (gX PP iD.h [] [] (gR Tryz.f249) [(0,.ptr (.v a)),(1,.int .i64 (.v n)),(2,.int .i64 (.v up))] M)
theorem iD.go (w0:World) (a:Option Addr) (n up:Int) {R:VP} {M:Mem} (h:iD.T (aJ PP w0) a n up R M):C PP w0 Id.iD #[.pointer a,.int .i64 n,.int .i64 up] R M :=
  cW mixed (h:=iD.h) (T:=fun pr aB=>iD.T pr a n up R M) Tryz.func249 (cV _ _) (by kernel_rfl) (fun pr aB=>by kernel_rfl) fun _ _=>h
noncomputable def qR.h:HC:=aK (bd Tryz.f251) [([true,true,true,false,true,false],[0,1,5,6])]
def qR.Is (pr:Prim) (aB:eA) (R:VP):Prop:=nX PP pr aB qR.h Tryz.f251 R
abbrev qR.L1 (aB:eA) (k:Nat) (s_0:SV) (del_1:FuncId × Array Value) (i_5 j_6:Int) (M:Mem):Prop:=aB [false,false,true,false,true,true,true] [k] [(0,SV.v s_0),(1,kfV del_1),(5,.int .i64 i_5),(6,.int .i64 j_6)] M
def qR.L1.T (pr:Prim) (aB:eA) (k:Nat) (s_0:SV) (del_1:FuncId × Array Value) (i_5 j_6:Int) (R:VP) (M:Mem):Prop:=aH pr aB R (bD PP qR.h (gR Tryz.f251) [false,false,true,false,true,true,true] [k] [(0,.sv s_0),(1,.kf del_1),(5,.int .i64 (.v i_5)),(6,.int .i64 (.v j_6))] M)
theorem qR.Is.L1 {pr:Prim} {aB:eA} {R:VP} (H:qR.Is pr aB R) (k:Nat) (s_0:SV) (del_1:FuncId × Array Value) (i_5 j_6:Int) (M:Mem):qR.L1 aB (k + 1) s_0 del_1 i_5 j_6 M = qR.L1.T pr aB k s_0 del_1 i_5 j_6 R M:=(H _ _ _ _ _ rfl).trans (by kernel_rfl)
def qR.T (pr:Prim) (aB:eA) (s:SV) (del:FuncId × Array Value) (R:VP) (M:Mem):Prop:=aH pr aB R (gX PP qR.h [] [] (gR Tryz.f251) [(0,.sv s),(1,.kf del)] M)
theorem qR.go (w0:World) (s:SV) (del:FuncId × Array Value) {R:VP} {M:Mem} (h:∀ aB,qR.Is (aJ PP w0) aB R→qR.T (aJ PP w0) aB s del R M):C PP w0 Id.qR #[SV.v s,.func (.func del.1) #[] del.2] R M :=
  cW mixed (h:=qR.h) (T:=fun pr aB=>qR.T pr aB s del R M) Tryz.func251 (cV _ _) (by kernel_rfl) (fun pr aB=>by kernel_rfl) h
noncomputable def fZ.h:HC:=aK (bd Tryz.f252) []
def fZ.T (pr:Prim) (x:Int) (c1:Addr) (R:VP) (M:Mem):Prop:=aH pr (fun _ _ _ _=>False) R (gX PP fZ.h [] [] (gR Tryz.f252) [(0,.int .i64 (.v x)),(1,.ptr (.a (.v c1)))] M)
theorem fZ.go (w0:World) (x:Int) (c1:Addr) {R:VP} {M:Mem} (h:fZ.T (aJ PP w0) x c1 R M):C PP w0 Id.fZ #[.int .i64 x,.pointer (some c1)] R M :=
  cW mixed (h:=fZ.h) (T:=fun pr aB=>fZ.T pr x c1 R M) Tryz.func252 (cV _ _) (by kernel_rfl) (fun pr aB=>by kernel_rfl) fun _ _=>h
noncomputable def iY.h:HC:=aK (bd Tryz.f253) []
def iY.T (pr:Prim) (a:Option Addr) (n:Int) (R:VP) (M:Mem):Prop:=aH pr (fun _ _ _ _=>False) R (gX PP iY.h [] [] (gR Tryz.f253) [(0,.ptr (.v a)),(1,.int .i64 (.v n))] M)
theorem iY.go (w0:World) (a:Option Addr) (n:Int) {R:VP} {M:Mem} (h:iY.T (aJ PP w0) a n R M):C PP w0 Id.iY #[.pointer a,.int .i64 n] R M :=
  cW mixed (h:=iY.h) (T:=fun pr aB=>iY.T pr a n R M) Tryz.func253 (cV _ _) (by kernel_rfl) (fun pr aB=>by kernel_rfl) fun _ _=>h
noncomputable def v8.h:HC:=aK (bd Tryz.f254) []
def v8.T (pr:Prim) (x:Int) (c1:Addr) (R:VP) (M:Mem):Prop:=aH pr (fun _ _ _ _=>False) R (gX PP v8.h [] [] (gR Tryz.f254) [(0,.int .i64 (.v x)),(1,.ptr (.a (.v c1)))] M)
theorem v8.go (w0:World) (x:Int) (c1:Addr) {R:VP} {M:Mem} (h:v8.T (aJ PP w0) x c1 R M):C PP w0 Id.v8 #[.int .i64 x,.pointer (some c1)] R M :=
  cW mixed (h:=v8.h) (T:=fun pr aB=>v8.T pr x c1 R M) Tryz.func254 (cV _ _) (by kernel_rfl) (fun pr aB=>by kernel_rfl) fun _ _=>h
noncomputable def iG.h:HC:=aK (bd Tryz.f260) []
def iG.T (pr:Prim) (a:Option Addr) (i j:Int) (R:VP) (M:Mem):Prop:=aH pr (fun _ _ _ _=>False) R (gX PP iG.h [] [] (gR Tryz.f260) [(0,.ptr (.v a)),(1,.int .i64 (.v i)),(2,.int .i64 (.v j))] M)
theorem iG.go (w0:World) (a:Option Addr) (i j:Int) {R:VP} {M:Mem} (h:iG.T (aJ PP w0) a i j R M):C PP w0 Id.iG #[.pointer a,.int .i64 i,.int .i64 j] R M :=
  cW mixed (h:=iG.h) (T:=fun pr aB=>iG.T pr a i j R M) Tryz.func260 (cV _ _) (by kernel_rfl) (fun pr aB=>by kernel_rfl) fun _ _=>h
noncomputable def tB.h:HC:=aK (bd Tryz.f263) [([true,false,true,false],[0,1,7,8])]
def tB.Is (pr:Prim) (aB:eA) (R:VP):Prop:=nX PP pr aB tB.h Tryz.f263 R
abbrev tB.L1 (aB:eA) (k:Nat) (s_0:SV) (v_1 t7 t8:Int) (M:Mem):Prop:=aB [false,false,true,false,true] [k] [(0,SV.v s_0),(1,.int .i64 v_1),(7,.int .i64 t7),(8,.int .i64 t8)] M
def tB.L1.T (pr:Prim) (aB:eA) (k:Nat) (s_0:SV) (v_1 t7 t8:Int) (R:VP) (M:Mem):Prop:=aH pr aB R (bD PP tB.h (gR Tryz.f263) [false,false,true,false,true] [k] [(0,.sv s_0),(1,.int .i64 (.v v_1)),(7,.int .i64 (.v t7)),(8,.int .i64 (.v t8))] M)
theorem tB.Is.L1 {pr:Prim} {aB:eA} {R:VP} (H:tB.Is pr aB R) (k:Nat) (s_0:SV) (v_1 t7 t8:Int) (M:Mem):tB.L1 aB (k + 1) s_0 v_1 t7 t8 M = tB.L1.T pr aB k s_0 v_1 t7 t8 R M:=(H _ _ _ _ _ rfl).trans (by kernel_rfl)
def tB.T (pr:Prim) (aB:eA) (s:SV) (v:Int) (R:VP) (M:Mem):Prop:=aH pr aB R (gX PP tB.h [] [] (gR Tryz.f263) [(0,.sv s),(1,.int .i64 (.v v))] M)
theorem tB.go (w0:World) (s:SV) (v:Int) {R:VP} {M:Mem} (h:∀ aB,tB.Is (aJ PP w0) aB R→tB.T (aJ PP w0) aB s v R M):C PP w0 Id.tB #[SV.v s,.int .i64 v] R M :=
  cW mixed (h:=tB.h) (T:=fun pr aB=>tB.T pr aB s v R M) Tryz.func263 (cV _ _) (by kernel_rfl) (fun pr aB=>by kernel_rfl) h
noncomputable def aE.h:HC:=aK ((Tryz.f271.body).getD .skip) [([true],[0,2]),([true,true],[0,2]),([true,true,true],[0,2])]
abbrev aE.J1 (aB:eA) (x_0 n_2:Int) (M:Mem):Prop:=aB [true,true] [] [(0,.int .u64 x_0),(2,.int .i64 n_2)] M
abbrev aE.J2 (aB:eA) (x_0 n_2:Int) (M:Mem):Prop:=aB [true,true,true] [] [(0,.int .u64 x_0),(2,.int .i64 n_2)] M
abbrev aE.J3 (aB:eA) (x_0 n_2:Int) (M:Mem):Prop:=aB [true,true,true,true] [] [(0,.int .u64 x_0),(2,.int .i64 n_2)] M
def aE.aB (pr:Prim) (R:VP):eA:=uX PP pr aE.h (aB3 pr Tryz.f271.results.toList R)
def aE.J1.T (pr:Prim) (aB:eA) (x_0 n_2:Int) (R:VP) (M:Mem):Prop:=bs (decide (x_0≥65536)) ((0≤(16:Int)∧aE.J2 aB (Int.fdiv x_0 (2 ^ (min (16:Int).toNat (IntKind.bits .u64)))) (lN (n_2 + 16)) M)) (aE.J2 aB x_0 n_2 M)
theorem aE.J1.eqX (pr:Prim) (aB:eA) (x_0 n_2:Int) (R:VP) (M:Mem):aAy PP pr aB aE.h (aB3 pr Tryz.f271.results.toList R) [true,true] [] [(0,.int .u64 x_0),(2,.int .i64 n_2)] M = aE.J1.T pr aB x_0 n_2 R M:=by kernel_rfl
theorem aE.J1.eq (pr:Prim) (x_0 n_2:Int) (R:VP) (M:Mem):aE.J1 (aE.aB pr R) x_0 n_2 M = aE.J1.T pr (aE.aB pr R) x_0 n_2 R M :=
  (aAS (b:=true) (p:=[true]) (ns:=[]) rfl _ _).trans (aE.J1.eqX pr (aE.aB pr R) x_0 n_2 R M)
def aE.J2.T (pr:Prim) (aB:eA) (x_0 n_2:Int) (R:VP) (M:Mem):Prop:=bs (decide (x_0≥256)) ((0≤(8:Int)∧aE.J3 aB (Int.fdiv x_0 (2 ^ (min (8:Int).toNat (IntKind.bits .u64)))) (lN (n_2 + 8)) M)) (aE.J3 aB x_0 n_2 M)
theorem aE.J2.eqX (pr:Prim) (aB:eA) (x_0 n_2:Int) (R:VP) (M:Mem):aAy PP pr aB aE.h (aB3 pr Tryz.f271.results.toList R) [true,true,true] [] [(0,.int .u64 x_0),(2,.int .i64 n_2)] M = aE.J2.T pr aB x_0 n_2 R M:=by kernel_rfl
theorem aE.J2.eq (pr:Prim) (x_0 n_2:Int) (R:VP) (M:Mem):aE.J2 (aE.aB pr R) x_0 n_2 M = aE.J2.T pr (aE.aB pr R) x_0 n_2 R M :=
  (aAS (b:=true) (p:=[true,true]) (ns:=[]) rfl _ _).trans (aE.J2.eqX pr (aE.aB pr R) x_0 n_2 R M)
def aE.J3.T (pr:Prim) (aB:eA) (x_0 n_2:Int) (R:VP) (M:Mem):Prop:=ob (pr.idx 9 (Value.string ⟨(([0,1,2,2,3,3,3,3,4,4,4,4,4,4,4,4,5,5,5,5,5,5,5,5,5,5,5,5,5,5,5,5,6,6,6,6,6,6,6,6,6,6,6,6,6,6,6,6,6,6,6,6,6,6,6,6,6,6,6,6,6,6,6,6,7,7,7,7,7,7,7,7,7,7,7,7,7,7,7,7,7,7,7,7,7,7,7,7,7,7,7,7,7,7,7,7,7,7,7,7,7,7,7,7,7,7,7,7,7,7,7,7,7,7,7,7,7,7,7,7,7,7,7,7,7,7,7,7,8,8,8,8,8,8,8,8,8,8,8,8,8,8,8,8,8,8,8,8,8,8,8,8,8,8,8,8,8,8,8,8,8,8,8,8,8,8,8,8,8,8,8,8,8,8,8,8,8,8,8,8,8,8,8,8,8,8,8,8,8,8,8,8,8,8,8,8,8,8,8,8,8,8,8,8,8,8,8,8,8,8,8,8,8,8,8,8,8,8,8,8,8,8,8,8,8,8,8,8,8,8,8,8,8,8,8,8,8,8,8,8,8,8,8,8,8,8,8,8,8,8,8,8,8,8,8,8]:List UInt8)).toArray⟩) (.int .u8 (IntKind.wrap .u8 (x_0)))) fun v1=>mZ .u8 v1 fun n2=>R (.int .i64 (lN (n_2 + (lN (n2))))) M
theorem aE.J3.eqX (pr:Prim) (aB:eA) (x_0 n_2:Int) (R:VP) (M:Mem):aAy PP pr aB aE.h (aB3 pr Tryz.f271.results.toList R) [true,true,true,true] [] [(0,.int .u64 x_0),(2,.int .i64 n_2)] M = aE.J3.T pr aB x_0 n_2 R M:=by kernel_rfl
theorem aE.J3.eq (pr:Prim) (x_0 n_2:Int) (R:VP) (M:Mem):aE.J3 (aE.aB pr R) x_0 n_2 M = aE.J3.T pr (aE.aB pr R) x_0 n_2 R M :=
  (aAS (b:=true) (p:=[true,true,true]) (ns:=[]) rfl _ _).trans (aE.J3.eqX pr (aE.aB pr R) x_0 n_2 R M)
structure aE.Is (pr:Prim) (aB:eA) (R:VP):Prop where
  J1:∀ (x_0:Int) (n_2:Int) (M:Mem),aE.J1 aB x_0 n_2 M = aE.J1.T pr aB x_0 n_2 R M
  J2:∀ (x_0:Int) (n_2:Int) (M:Mem),aE.J2 aB x_0 n_2 M = aE.J2.T pr aB x_0 n_2 R M
  J3:∀ (x_0:Int) (n_2:Int) (M:Mem),aE.J3 aB x_0 n_2 M = aE.J3.T pr aB x_0 n_2 R M
theorem aE.is (pr:Prim) (R:VP):aE.Is pr (aE.aB pr R) R:=⟨fun x_0 n_2 M=>aE.J1.eq pr x_0 n_2 R M,fun x_0 n_2 M=>aE.J2.eq pr x_0 n_2 R M,fun x_0 n_2 M=>aE.J3.eq pr x_0 n_2 R M⟩
def aE.T (pr:Prim) (aB:eA) (x:Int) (R:VP) (M:Mem):Prop:=bs (decide (x≥4294967296)) ((0≤(32:Int)∧aE.J1 aB (Int.fdiv x (2 ^ (min (32:Int).toNat (IntKind.bits .u64)))) 32 M)) (aE.J1 aB x 0 M)
theorem aE.eqX (pr:Prim) (aB:eA) (x:Int) (R:VP) (M:Mem):wpX PP pr aB aE.h [] [] (aB3 pr Tryz.f271.results.toList R) (yQ 0 [.int .u64 x]) M = aE.T pr aB x R M:=by kernel_rfl
theorem aE.eq (pr:Prim) (x:Int) (R:VP) (M:Mem):tX PP pr aE.h (aB3 pr Tryz.f271.results.toList R) (yQ 0 [.int .u64 x]) M = aE.T pr (aE.aB pr R) x R M:=aFT.trans (aE.eqX pr (aE.aB pr R) x R M)
theorem aE.fn:PP.funcs[Id.aE]? = some Tryz.f271:=Tryz.func271
theorem aE.can:oO PP Id.aE = true:=by kernel_rfl
theorem aE.aM1:okH Tryz.f271.ntmps aE.h = true:=by kernel_rfl
theorem aE.body:Tryz.f271.body = some ((Tryz.f271.body).getD .skip):=by kernel_rfl
theorem aE.size:(1:Nat)≤Tryz.f271.ntmps:=by decide
theorem aE.go (w0:World) (x:Int) {R:VP} {M:Mem} (h:∀ aB,aE.Is (aJ PP w0) aB R→aE.T (aJ PP w0) aB x R M):C PP w0 Id.aE #[.int .u64 x] R M :=
  aFB mixed aE.fn aE.body aE.can (cV _ _) aE.aM1 aE.size ((aE.eq (aJ PP w0) x R M).mpr (h _ (aE.is _ _)))
noncomputable def gM.h:HC:=aK (bd Tryz.f272) []
def gM.T (pr:Prim) (p:Option Addr) (r_0 r_1:Int) (R:VP) (M:Mem):Prop:=aH pr (fun _ _ _ _=>False) R (gX PP gM.h [] [] (gR Tryz.f272) [(0,.ptr (.v p)),(1,.agg [.int .i64 (.v r_0),.int .i64 (.v r_1)])] M)
theorem gM.go (w0:World) (p:Option Addr) (r_0 r_1:Int) {R:VP} {M:Mem} (h:gM.T (aJ PP w0) p r_0 r_1 R M):C PP w0 Id.gM #[.pointer p,.agg #[.int .i64 r_0,.int .i64 r_1]] R M :=
  cW mixed (h:=gM.h) (T:=fun pr aB=>gM.T pr p r_0 r_1 R M) Tryz.func272 (cV _ _) (by kernel_rfl) (fun pr aB=>by kernel_rfl) fun _ _=>h
noncomputable def roC.h:HC:=aK (bd Tryz.f273) [([true,true,false,false],[0,2,4,10,11])]
def roC.Is (pr:Prim) (aB:eA) (R:VP):Prop:=nX PP pr aB roC.h Tryz.f273 R
abbrev roC.L1 (aB:eA) (k:Nat) (data_0:SV) (m_2:Int) (cmp_4:FuncId × Array Value) (i_10 j_11:Int) (M:Mem):Prop:=aB [false,false,false,true,true] [k] [(0,SV.v data_0),(2,.int .i64 m_2),(4,kfV cmp_4),(10,.int .i64 i_10),(11,.int .i64 j_11)] M
def roC.L1.T (pr:Prim) (aB:eA) (k:Nat) (data_0:SV) (m_2:Int) (cmp_4:FuncId × Array Value) (i_10 j_11:Int) (R:VP) (M:Mem):Prop:=aH pr aB R (bD PP roC.h (gR Tryz.f273) [false,false,false,true,true] [k] [(0,.sv data_0),(2,.int .i64 (.v m_2)),(4,.kf cmp_4),(10,.int .i64 (.v i_10)),(11,.int .i64 (.v j_11))] M)
theorem roC.Is.L1 {pr:Prim} {aB:eA} {R:VP} (H:roC.Is pr aB R) (k:Nat) (data_0:SV) (m_2:Int) (cmp_4:FuncId × Array Value) (i_10 j_11:Int) (M:Mem):roC.L1 aB (k + 1) data_0 m_2 cmp_4 i_10 j_11 M = roC.L1.T pr aB k data_0 m_2 cmp_4 i_10 j_11 R M:=(H _ _ _ _ _ rfl).trans (by kernel_rfl)
def roC.T (pr:Prim) (aB:eA) (data:SV) (a m b:Int) (cmp:FuncId × Array Value) (R:VP) (M:Mem):Prop:=aH pr aB R (gX PP roC.h [] [] (gR Tryz.f273) [(0,.sv data),(1,.int .i64 (.v a)),(2,.int .i64 (.v m)),(3,.int .i64 (.v b)),(4,.kf cmp)] M)
theorem roC.go (w0:World) (data:SV) (a m b:Int) (cmp:FuncId × Array Value) {R:VP} {M:Mem} (h:∀ aB,roC.Is (aJ PP w0) aB R→roC.T (aJ PP w0) aB data a m b cmp R M):C PP w0 Id.roC #[SV.v data,.int .i64 a,.int .i64 m,.int .i64 b,.func (.func cmp.1) #[] cmp.2] R M :=
  cW mixed (h:=roC.h) (T:=fun pr aB=>roC.T pr aB data a m b cmp R M) Tryz.func273 (cV _ _) (by kernel_rfl) (fun pr aB=>by kernel_rfl) h
noncomputable def o0.h:HC:=aK (bd Tryz.f274) []
def o0.T (pr:Prim) (a:Option Addr) (n:Int) (R:VP) (M:Mem):Prop:=aH pr (fun _ _ _ _=>False) R (gX PP o0.h [] [] (gR Tryz.f274) [(0,.ptr (.v a)),(1,.int .i64 (.v n))] M)
theorem o0.go (w0:World) (a:Option Addr) (n:Int) {R:VP} {M:Mem} (h:o0.T (aJ PP w0) a n R M):C PP w0 Id.o0 #[.pointer a,.int .i64 n] R M :=
  cW mixed (h:=o0.h) (T:=fun pr aB=>o0.T pr a n R M) Tryz.func274 (cV _ _) (by kernel_rfl) (fun pr aB=>by kernel_rfl) fun _ _=>h
end HL
namespace HL
section
variable (pr:Prim) (aB:eA) (w0:World) {R:VP} {M:Mem}
noncomputable def n6.h:HC:=aK (bd Tryz.f275) [([true,true,false,false],[0,1,2,6,7,8]),([true,true,true,true,false],[0,1,2,6]),([true,true,true,true,false,false,true,false,true,false,false],[0,1,2,6,7,8])]
def n6.Is (R:VP):Prop:=nX PP pr aB n6.h Tryz.f275 R
abbrev n6.L1 (k:Nat) (data_0:SV) (n_1:Int) (cmp_2:FuncId × Array Value) (blockSize_6 a_7 b_8:Int) (M:Mem):Prop:=aB [false,false,false,true,true] [k] [(0,SV.v data_0),(1,.int .i64 n_1),(2,kfV cmp_2),(6,.int .i64 blockSize_6),(7,.int .i64 a_7),(8,.int .i64 b_8)] M
def n6.L1.T (k:Nat) (data_0:SV) (n_1:Int) (cmp_2:FuncId × Array Value) (blockSize_6 a_7 b_8:Int) (R:VP) (M:Mem):Prop:=aH pr aB R (bD PP n6.h (gR Tryz.f275) [false,false,false,true,true] [k] [(0,.sv data_0),(1,.int .i64 (.v n_1)),(2,.kf cmp_2),(6,.int .i64 (.v blockSize_6)),(7,.int .i64 (.v a_7)),(8,.int .i64 (.v b_8))] M)
theorem n6.Is.L1 {pr:Prim} {aB:eA} (H:n6.Is pr aB R) (k:Nat) (data_0:SV) (n_1:Int) (cmp_2:FuncId × Array Value) (blockSize_6 a_7 b_8:Int) (M:Mem):n6.L1 aB (k + 1) data_0 n_1 cmp_2 blockSize_6 a_7 b_8 M = n6.L1.T pr aB k data_0 n_1 cmp_2 blockSize_6 a_7 b_8 R M:=(H _ _ _ _ _ rfl).trans (by kernel_rfl)
abbrev n6.L2 (k:Nat) (data_0:SV) (n_1:Int) (cmp_2:FuncId × Array Value) (blockSize_6:Int) (M:Mem):Prop:=aB [false,false,true,true,true,true] [k] [(0,SV.v data_0),(1,.int .i64 n_1),(2,kfV cmp_2),(6,.int .i64 blockSize_6)] M
def n6.L2.T (k:Nat) (data_0:SV) (n_1:Int) (cmp_2:FuncId × Array Value) (blockSize_6:Int) (R:VP) (M:Mem):Prop:=aH pr aB R (bD PP n6.h (gR Tryz.f275) [false,false,true,true,true,true] [k] [(0,.sv data_0),(1,.int .i64 (.v n_1)),(2,.kf cmp_2),(6,.int .i64 (.v blockSize_6))] M)
theorem n6.Is.L2 {pr:Prim} {aB:eA} (H:n6.Is pr aB R) (k:Nat) (data_0:SV) (n_1:Int) (cmp_2:FuncId × Array Value) (blockSize_6:Int) (M:Mem):n6.L2 aB (k + 1) data_0 n_1 cmp_2 blockSize_6 M = n6.L2.T pr aB k data_0 n_1 cmp_2 blockSize_6 R M:=(H _ _ _ _ _ rfl).trans (by kernel_rfl)
def n6.T (data:SV) (n:Int) (cmp:FuncId × Array Value) (R:VP) (M:Mem):Prop:=aH pr aB R (gX PP n6.h [] [] (gR Tryz.f275) [(0,.sv data),(1,.int .i64 (.v n)),(2,.kf cmp)] M)
theorem n6.go (data:SV) (n:Int) (cmp:FuncId × Array Value) (h:∀ aB,n6.Is (aJ PP w0) aB R→n6.T (aJ PP w0) aB data n cmp R M):C PP w0 Id.n6 #[SV.v data,.int .i64 n,.func (.func cmp.1) #[] cmp.2] R M :=
  cW mixed (h:=n6.h) (T:=fun pr aB=>n6.T pr aB data n cmp R M) Tryz.func275 (cV _ _) (by kernel_rfl) (fun pr aB=>by kernel_rfl) h
noncomputable def rD.h:HC:=aK (bd Tryz.f278) [([true,false,true,false],[0,1,7,8])]
def rD.Is (R:VP):Prop:=nX PP pr aB rD.h Tryz.f278 R
abbrev rD.L1 (k:Nat) (s_0:SV) (f_1:FuncId × Array Value) (t7 t8:Int) (M:Mem):Prop:=aB [false,false,true,false,true] [k] [(0,SV.v s_0),(1,kfV f_1),(7,.int .i64 t7),(8,.int .i64 t8)] M
def rD.L1.T (k:Nat) (s_0:SV) (f_1:FuncId × Array Value) (t7 t8:Int) (R:VP) (M:Mem):Prop:=aH pr aB R (bD PP rD.h (gR Tryz.f278) [false,false,true,false,true] [k] [(0,.sv s_0),(1,.kf f_1),(7,.int .i64 (.v t7)),(8,.int .i64 (.v t8))] M)
theorem rD.Is.L1 {pr:Prim} {aB:eA} (H:rD.Is pr aB R) (k:Nat) (s_0:SV) (f_1:FuncId × Array Value) (t7 t8:Int) (M:Mem):rD.L1 aB (k + 1) s_0 f_1 t7 t8 M = rD.L1.T pr aB k s_0 f_1 t7 t8 R M:=(H _ _ _ _ _ rfl).trans (by kernel_rfl)
def rD.T (s:SV) (f:FuncId × Array Value) (R:VP) (M:Mem):Prop:=aH pr aB R (gX PP rD.h [] [] (gR Tryz.f278) [(0,.sv s),(1,.kf f)] M)
theorem rD.go (s:SV) (f:FuncId × Array Value) (h:∀ aB,rD.Is (aJ PP w0) aB R→rD.T (aJ PP w0) aB s f R M):C PP w0 Id.rD #[SV.v s,.func (.func f.1) #[] f.2] R M :=
  cW mixed (h:=rD.h) (T:=fun pr aB=>rD.T pr aB s f R M) Tryz.func278 (cV _ _) (by kernel_rfl) (fun pr aB=>by kernel_rfl) h
noncomputable def jN.h:HC:=aK (bd Tryz.f283) []
def jN.T (a:Option Addr) (i:Int) (R:VP) (M:Mem):Prop:=aH pr (fun _ _ _ _=>False) R (gX PP jN.h [] [] (gR Tryz.f283) [(0,.ptr (.v a)),(1,.int .i64 (.v i))] M)
theorem jN.go (a:Option Addr) (i:Int) (h:jN.T (aJ PP w0) a i R M):C PP w0 Id.jN #[.pointer a,.int .i64 i] R M :=
  cW mixed (h:=jN.h) (T:=fun pr aB=>jN.T pr a i R M) Tryz.func283 (cV _ _) (by kernel_rfl) (fun pr aB=>by kernel_rfl) fun _ _=>h
noncomputable def swC.h:HC:=aK (bd Tryz.f286) [([true,false],[0,1,2,3,10])]
def swC.Is (R:VP):Prop:=nX PP pr aB swC.h Tryz.f286 R
abbrev swC.L1 (k:Nat) (data_0:SV) (a_1 b_2 n_3 i_10:Int) (M:Mem):Prop:=aB [false,false,true] [k] [(0,SV.v data_0),(1,.int .i64 a_1),(2,.int .i64 b_2),(3,.int .i64 n_3),(10,.int .i64 i_10)] M
def swC.L1.T (k:Nat) (data_0:SV) (a_1 b_2 n_3 i_10:Int) (R:VP) (M:Mem):Prop:=aH pr aB R (bD PP swC.h (gR Tryz.f286) [false,false,true] [k] [(0,.sv data_0),(1,.int .i64 (.v a_1)),(2,.int .i64 (.v b_2)),(3,.int .i64 (.v n_3)),(10,.int .i64 (.v i_10))] M)
theorem swC.Is.L1 {pr:Prim} {aB:eA} (H:swC.Is pr aB R) (k:Nat) (data_0:SV) (a_1 b_2 n_3 i_10:Int) (M:Mem):swC.L1 aB (k + 1) data_0 a_1 b_2 n_3 i_10 M = swC.L1.T pr aB k data_0 a_1 b_2 n_3 i_10 R M:=(H _ _ _ _ _ rfl).trans (by kernel_rfl)
def swC.T (data:SV) (a b n:Int) (cmp:FuncId × Array Value) (R:VP) (M:Mem):Prop:=aH pr aB R (gX PP swC.h [] [] (gR Tryz.f286) [(0,.sv data),(1,.int .i64 (.v a)),(2,.int .i64 (.v b)),(3,.int .i64 (.v n)),(4,.kf cmp)] M)
theorem swC.go (data:SV) (a b n:Int) (cmp:FuncId × Array Value) (h:∀ aB,swC.Is (aJ PP w0) aB R→swC.T (aJ PP w0) aB data a b n cmp R M):C PP w0 Id.swC #[SV.v data,.int .i64 a,.int .i64 b,.int .i64 n,.func (.func cmp.1) #[] cmp.2] R M :=
  cW mixed (h:=swC.h) (T:=fun pr aB=>swC.T pr aB data a b n cmp R M) Tryz.func286 (cV _ _) (by kernel_rfl) (fun pr aB=>by kernel_rfl) h
noncomputable def kB.h:HC:=aK (bd Tryz.f287) [([true,false],[0,1,2,3,8]),([true,false,false,true,false,false,true,false],[0,1,2,3,8,9]),([true,false,false,true,false,false,true,false,false],[0,1,2,3,8,9])]
def kB.Is (R:VP):Prop:=nX PP pr aB kB.h Tryz.f287 R
abbrev kB.L1 (k:Nat) (data_0:SV) (a_1 b_2:Int) (cmp_3:FuncId × Array Value) (i_8:Int) (M:Mem):Prop:=aB [false,false,true] [k] [(0,SV.v data_0),(1,.int .i64 a_1),(2,.int .i64 b_2),(3,kfV cmp_3),(8,.int .i64 i_8)] M
def kB.L1.T (k:Nat) (data_0:SV) (a_1 b_2:Int) (cmp_3:FuncId × Array Value) (i_8:Int) (R:VP) (M:Mem):Prop:=aH pr aB R (bD PP kB.h (gR Tryz.f287) [false,false,true] [k] [(0,.sv data_0),(1,.int .i64 (.v a_1)),(2,.int .i64 (.v b_2)),(3,.kf cmp_3),(8,.int .i64 (.v i_8))] M)
theorem kB.Is.L1 {pr:Prim} {aB:eA} (H:kB.Is pr aB R) (k:Nat) (data_0:SV) (a_1 b_2:Int) (cmp_3:FuncId × Array Value) (i_8:Int) (M:Mem):kB.L1 aB (k + 1) data_0 a_1 b_2 cmp_3 i_8 M = kB.L1.T pr aB k data_0 a_1 b_2 cmp_3 i_8 R M:=(H _ _ _ _ _ rfl).trans (by kernel_rfl)
abbrev kB.L2 (k:Nat) (k':Nat) (data_0:SV) (a_1 b_2:Int) (cmp_3:FuncId × Array Value) (i_8 j_9:Int) (M:Mem):Prop:=aB [false,false,true,false,false,true,false,false,true] [k',k] [(0,SV.v data_0),(1,.int .i64 a_1),(2,.int .i64 b_2),(3,kfV cmp_3),(8,.int .i64 i_8),(9,.int .i64 j_9)] M
def kB.L2.T (k:Nat) (k':Nat) (data_0:SV) (a_1 b_2:Int) (cmp_3:FuncId × Array Value) (i_8 j_9:Int) (R:VP) (M:Mem):Prop:=aH pr aB R (bD PP kB.h (gR Tryz.f287) [false,false,true,false,false,true,false,false,true] [k',k] [(0,.sv data_0),(1,.int .i64 (.v a_1)),(2,.int .i64 (.v b_2)),(3,.kf cmp_3),(8,.int .i64 (.v i_8)),(9,.int .i64 (.v j_9))] M)
theorem kB.Is.L2 {pr:Prim} {aB:eA} (H:kB.Is pr aB R) (k:Nat) (k':Nat) (data_0:SV) (a_1 b_2:Int) (cmp_3:FuncId × Array Value) (i_8 j_9:Int) (M:Mem):kB.L2 aB k (k' + 1) data_0 a_1 b_2 cmp_3 i_8 j_9 M = kB.L2.T pr aB k k' data_0 a_1 b_2 cmp_3 i_8 j_9 R M:=(H _ _ _ _ _ rfl).trans (by kernel_rfl)
abbrev kB.J3 (k:Nat) (k':Nat) (data_0:SV) (a_1 b_2:Int) (cmp_3:FuncId × Array Value) (i_8 j_9:Int) (M:Mem):Prop:=aB [true,false,false,true,false,false,true,false,false,true] [k',k] [(0,SV.v data_0),(1,.int .i64 a_1),(2,.int .i64 b_2),(3,kfV cmp_3),(8,.int .i64 i_8),(9,.int .i64 j_9)] M
def kB.J3.T (k:Nat) (k':Nat) (data_0:SV) (a_1 b_2:Int) (cmp_3:FuncId × Array Value) (i_8 j_9:Int) (R:VP) (M:Mem):Prop:=aH pr aB R (bD PP kB.h (gR Tryz.f287) [true,false,false,true,false,false,true,false,false,true] [k',k] [(0,.sv data_0),(1,.int .i64 (.v a_1)),(2,.int .i64 (.v b_2)),(3,.kf cmp_3),(8,.int .i64 (.v i_8)),(9,.int .i64 (.v j_9))] M)
theorem kB.Is.J3 {pr:Prim} {aB:eA} (H:kB.Is pr aB R) (k:Nat) (k':Nat) (data_0:SV) (a_1 b_2:Int) (cmp_3:FuncId × Array Value) (i_8 j_9:Int) (M:Mem):kB.J3 aB k k' data_0 a_1 b_2 cmp_3 i_8 j_9 M = kB.J3.T pr aB k k' data_0 a_1 b_2 cmp_3 i_8 j_9 R M:=(H _ _ _ _ _ rfl).trans (by kernel_rfl)
def kB.T (data:SV) (a b:Int) (cmp:FuncId × Array Value) (R:VP) (M:Mem):Prop:=aH pr aB R (gX PP kB.h [] [] (gR Tryz.f287) [(0,.sv data),(1,.int .i64 (.v a)),(2,.int .i64 (.v b)),(3,.kf cmp)] M)
theorem kB.go (data:SV) (a b:Int) (cmp:FuncId × Array Value) (h:∀ aB,kB.Is (aJ PP w0) aB R→kB.T (aJ PP w0) aB data a b cmp R M):C PP w0 Id.kB #[SV.v data,.int .i64 a,.int .i64 b,.func (.func cmp.1) #[] cmp.2] R M :=
  cW mixed (h:=kB.h) (T:=fun pr aB=>kB.T pr aB data a b cmp R M) Tryz.func287 (cV _ _) (by kernel_rfl) (fun pr aB=>by kernel_rfl) h
end
end HL
end Go.Proofs.YtodobkbnmjgkdaaGreat
