import Derived.Test.YtodobkbnmjgkdaaGreatPd8
namespace Go.Proofs.YtodobkbnmjgkdaaGreat
open Go.RowKit (Below)
set_option linter.unusedVariables false
set_option maxRecDepth 100000
namespace HL
namespace W
theorem c2:hJ PP 2 = true:=by kernel_rfl
@[go_sem] theorem ld2 {w0:World} {M:Mem} (a:Addr):(aJ PP w0).ld 2 a M = rd w0 M a:=aP c2 a
theorem e2:jW PP 2 (.int .i64 0) 1:=nW (by kernel_rfl) rfl
theorem c3:hJ PP 3 = true:=by kernel_rfl
@[go_sem] theorem ld3 {w0:World} {M:Mem} (a:Addr):(aJ PP w0).ld 3 a M = rd w0 M a:=aP c3 a
theorem e3:jW PP 3 (.int .i64 0) 1:=nW (by kernel_rfl) rfl
theorem c4:hJ PP 4 = true:=by kernel_rfl
@[go_sem] theorem ld4 {w0:World} {M:Mem} (a:Addr):(aJ PP w0).ld 4 a M = rd w0 M a:=aP c4 a
theorem e4:jW PP 4 (.bool false) 1:=nW (by kernel_rfl) rfl
theorem c25:hJ PP 25 = true:=by kernel_rfl
theorem g33:gE PP 33 2 = true:=by kernel_rfl
theorem e33:jW PP 33 (.agg #[.int .i64 0,.int .i64 0]) 2:=nW (by kernel_rfl) rfl
theorem g35:gE PP 35 9 = true:=by kernel_rfl
theorem g44:gE PP 44 2 = true:=by kernel_rfl
theorem e44:jW PP 44 (.agg #[.int .i64 0,.int .i64 0]) 2:=nW (by kernel_rfl) rfl
theorem g46:gE PP 46 8 = true:=by kernel_rfl
theorem c52:hJ PP 52 = true:=by kernel_rfl
theorem c53:hJ PP 53 = true:=by kernel_rfl
@[go_sem] theorem aMl {w0:World} {M:Mem} (a:Addr):(aJ PP w0).ld 53 a M = rd w0 M a:=aP c53 a
theorem c59:hJ PP 59 = true:=by kernel_rfl
theorem g65:gE PP 65 6 = true:=by kernel_rfl
theorem g68:gE PP 68 6 = true:=by kernel_rfl
theorem c71:hJ PP 71 = true:=by kernel_rfl
theorem g79:gE PP 79 11 = true:=by kernel_rfl
@[go_sem] theorem aMg {w0:World} {X Y:Operand} (a:Option Addr):(aJ PP w0).bq .eql 89 X Y (.pointer a) (.pointer none) = some (.bool a.isNone):=aAp Tryz.underlying89 a
@[go_sem] theorem aMj {w0:World} {X Y:Operand} (a:Option Addr):(aJ PP w0).bq .neq 89 X Y (.pointer a) (.pointer none) = some (.bool (!a.isNone)):=aIN Tryz.underlying89 a
theorem aMe:hJ PP 103 = true:=by kernel_rfl
@[go_sem] theorem aMi {w0:World} {M:Mem} (a:Addr):(aJ PP w0).ld 103 a M = rd w0 M a:=aP aMe a
theorem aFV:gE PP 130 6 = true:=by kernel_rfl
theorem aBz:jW PP 130 (.agg #[.int .i64 0,.int .i64 0,.int .i64 0,.int .i64 0,.int .i64 0,.int .i64 0]) 6:=nW (by kernel_rfl) rfl
theorem aBB:gE PP 138 5 = true:=by kernel_rfl
theorem aLQ:hJ PP 143 = true:=by kernel_rfl
@[go_sem] theorem aMh {w0:World} {M:Mem} (a:Addr):(aJ PP w0).ld 143 a M = rd w0 M a:=aP aLQ a
theorem aMd:hJ PP 146 = true:=by kernel_rfl
theorem aBx:gE PP 149 3 = true:=by kernel_rfl
theorem aL3:hJ PP 150 = true:=by kernel_rfl
theorem aBt:gE PP 153 3 = true:=by kernel_rfl
theorem aIB:hJ PP 157 = true:=by kernel_rfl
theorem aHt:hJ PP 206 = true:=by kernel_rfl
theorem aES:hJ PP 209 = true:=by kernel_rfl
theorem aLj:jW PP 213 (.agg #[.int .i64 0,.bool false,.int .i64 0,.int .i64 0,.int .i64 0]) 5:=nW (by kernel_rfl) rfl
theorem aEy:hJ PP 237 = true:=by kernel_rfl
theorem aLf:gE PP 241 7 = true:=by kernel_rfl
theorem aLD:jW PP 241 (.agg #[.int .i64 0,.bool false,.int .i64 0,.int .i64 0,.int .i64 0,.int .i64 0,.int .i64 0]) 7:=nW (by kernel_rfl) rfl
theorem aHQ:gE PP 251 11 = true:=by kernel_rfl
theorem aLS:jW PP 251 (.agg #[.int .i64 0,.int .i64 0,.int .i64 0,.int .i64 0,.int .i64 0,.int .i64 0,.int .i64 0,.int .i64 0,.int .i64 0,.int .i64 0,.bool false]) 11:=nW (by kernel_rfl) rfl
theorem aLb:gE PP 259 5 = true:=by kernel_rfl
theorem aLE:jW PP 259 (.agg #[.int .i64 0,.bool false,.int .i64 0,.int .i64 0,.int .i64 0]) 5:=nW (by kernel_rfl) rfl
theorem aJa:gE PP 276 2 = true:=by kernel_rfl
theorem aIG:jW PP 276 (.agg #[.int .i64 0,.int .i64 0]) 2:=nW (by kernel_rfl) rfl
@[go_sem] theorem aL0 {w0:World} (x0:SV) (x1:Option Addr):(aJ PP w0).pD 145 [(0,SV.v x0),(3,.pointer x1)] = some (.agg #[SV.v x0,.int .i64 0,.slice none 0 0,.pointer x1]):=by kernel_rfl
@[go_sem] theorem aL4 {w0:World}:(aJ PP w0).pD 163 [] = some (.agg #[.int .i64 0,.int .i64 0,.int .i64 0]):=by kernel_rfl
@[go_sem] theorem aLK {w0:World} (x0:Bool):(aJ PP w0).pD 251 [(1,.bool x0)] = some (.agg #[.int .i64 0,.int .i64 0,.int .i64 0,.int .i64 0,.int .i64 0,.int .i64 0,.int .i64 0,.int .i64 0,.int .i64 0,.int .i64 0,.bool x0]):=by kernel_rfl
@[go_sem] theorem aMc {w0:World} (x0 x1:Int):(aJ PP w0).pD 44 [(0,.int .i64 x0),(1,.int .i64 x1)] = some (.agg #[.int .i64 x0,.int .i64 x1]):=by kernel_rfl
@[go_sem] theorem aLP {w0:World}:(aJ PP w0).pD 44 [] = some (.agg #[.int .i64 0,.int .i64 0]):=by kernel_rfl
end W
end HL
namespace HL
section
variable (pr:Prim) (aB:fC) (w0:World) {R:VP} {M:Mem}
noncomputable def aD.h:HC:=aH (bd Tryz.f6) [([true,true,true,true,true],[3,9,10,11,12]),([true,true,true,true,true,false,true,false],[2,3,9,10,11,12,13]),([true,true,true,true,true,false,true,false,false],[2,3,9,10,11,12,13]),([true,true,true,true,true,false,true,false,false,true,false,false],[2,3,9,10,11,12,13]),([true,true,true,true,true,true,false,true,false],[3,9,10,11,12,15]),([true,true,true,true,true,true,false,true,false,false],[3,9,10,11,12,15]),([true,true,true,true,true,true,false,true,false,false,true,false,false,true,true],[3,9,10,11,12,15,16,17])]
def aD.Is (R:VP):Prop:=pF PP pr aB aD.h Tryz.f6 R
abbrev aD.J1 (near_3:SV) (d_9 m_10:Option Addr) (b_11:Int) (told_12:SV) (M:Mem):Prop:=aB [true,true,true,true,true,true] [] [(3,SV.v near_3),(9,.pointer d_9),(10,.pointer m_10),(11,.int .i64 b_11),(12,SV.v told_12)] M
def aD.J1.T (near_3:SV) (d_9 m_10:Option Addr) (b_11:Int) (told_12:SV) (R:VP) (M:Mem):Prop:=aL pr aB R (bO PP aD.h (gR Tryz.f6) [true,true,true,true,true,true] [] [(3,.sv near_3),(9,.ptr (.v d_9)),(10,.ptr (.v m_10)),(11,.int .i64 (.v b_11)),(12,.sv told_12)] M)
theorem aD.Is.J1 {pr:Prim} {aB:fC} (H:aD.Is pr aB R) (near_3:SV) (d_9 m_10:Option Addr) (b_11:Int) (told_12:SV) (M:Mem):aD.J1 aB near_3 d_9 m_10 b_11 told_12 M = aD.J1.T pr aB near_3 d_9 m_10 b_11 told_12 R M:=(H _ _ _ _ _ rfl).trans (by kernel_rfl)
abbrev aD.L2 (k:Nat) (l_2 near_3:SV) (d_9 m_10:Option Addr) (b_11:Int) (told_12:SV) (i_13:Int) (M:Mem):Prop:=aB [false,false,true,false,true,true,true,true,true] [k] [(2,SV.v l_2),(3,SV.v near_3),(9,.pointer d_9),(10,.pointer m_10),(11,.int .i64 b_11),(12,SV.v told_12),(13,.int .i64 i_13)] M
def aD.L2.T (k:Nat) (l_2 near_3:SV) (d_9 m_10:Option Addr) (b_11:Int) (told_12:SV) (i_13:Int) (R:VP) (M:Mem):Prop:=aL pr aB R (bO PP aD.h (gR Tryz.f6) [false,false,true,false,true,true,true,true,true] [k] [(2,.sv l_2),(3,.sv near_3),(9,.ptr (.v d_9)),(10,.ptr (.v m_10)),(11,.int .i64 (.v b_11)),(12,.sv told_12),(13,.int .i64 (.v i_13))] M)
theorem aD.Is.L2 {pr:Prim} {aB:fC} (H:aD.Is pr aB R) (k:Nat) (l_2 near_3:SV) (d_9 m_10:Option Addr) (b_11:Int) (told_12:SV) (i_13:Int) (M:Mem):aD.L2 aB (k + 1) l_2 near_3 d_9 m_10 b_11 told_12 i_13 M = aD.L2.T pr aB k l_2 near_3 d_9 m_10 b_11 told_12 i_13 R M:=(H _ _ _ _ _ rfl).trans (by kernel_rfl)
abbrev aD.L3 (k:Nat) (near_3:SV) (d_9 m_10:Option Addr) (b_11:Int) (told_12:SV) (i_15:Int) (M:Mem):Prop:=aB [false,false,true,false,true,true,true,true,true,true] [k] [(3,SV.v near_3),(9,.pointer d_9),(10,.pointer m_10),(11,.int .i64 b_11),(12,SV.v told_12),(15,.int .i64 i_15)] M
def aD.L3.T (k:Nat) (near_3:SV) (d_9 m_10:Option Addr) (b_11:Int) (told_12:SV) (i_15:Int) (R:VP) (M:Mem):Prop:=aL pr aB R (bO PP aD.h (gR Tryz.f6) [false,false,true,false,true,true,true,true,true,true] [k] [(3,.sv near_3),(9,.ptr (.v d_9)),(10,.ptr (.v m_10)),(11,.int .i64 (.v b_11)),(12,.sv told_12),(15,.int .i64 (.v i_15))] M)
theorem aD.Is.L3 {pr:Prim} {aB:fC} (H:aD.Is pr aB R) (k:Nat) (near_3:SV) (d_9 m_10:Option Addr) (b_11:Int) (told_12:SV) (i_15:Int) (M:Mem):aD.L3 aB (k + 1) near_3 d_9 m_10 b_11 told_12 i_15 M = aD.L3.T pr aB k near_3 d_9 m_10 b_11 told_12 i_15 R M:=(H _ _ _ _ _ rfl).trans (by kernel_rfl)
abbrev aD.J4 (k:Nat) (l_2 near_3:SV) (d_9 m_10:Option Addr) (b_11:Int) (told_12:SV) (i_13:Int) (M:Mem):Prop:=aB [true,false,false,true,false,true,true,true,true,true] [k] [(2,SV.v l_2),(3,SV.v near_3),(9,.pointer d_9),(10,.pointer m_10),(11,.int .i64 b_11),(12,SV.v told_12),(13,.int .i64 i_13)] M
def aD.J4.T (k:Nat) (l_2 near_3:SV) (d_9 m_10:Option Addr) (b_11:Int) (told_12:SV) (i_13:Int) (R:VP) (M:Mem):Prop:=aL pr aB R (bO PP aD.h (gR Tryz.f6) [true,false,false,true,false,true,true,true,true,true] [k] [(2,.sv l_2),(3,.sv near_3),(9,.ptr (.v d_9)),(10,.ptr (.v m_10)),(11,.int .i64 (.v b_11)),(12,.sv told_12),(13,.int .i64 (.v i_13))] M)
theorem aD.Is.J4 {pr:Prim} {aB:fC} (H:aD.Is pr aB R) (k:Nat) (l_2 near_3:SV) (d_9 m_10:Option Addr) (b_11:Int) (told_12:SV) (i_13:Int) (M:Mem):aD.J4 aB k l_2 near_3 d_9 m_10 b_11 told_12 i_13 M = aD.J4.T pr aB k l_2 near_3 d_9 m_10 b_11 told_12 i_13 R M:=(H _ _ _ _ _ rfl).trans (by kernel_rfl)
abbrev aD.J5 (k:Nat) (near_3:SV) (d_9 m_10:Option Addr) (b_11:Int) (told_12:SV) (i_15:Int) (M:Mem):Prop:=aB [true,false,false,true,false,true,true,true,true,true,true] [k] [(3,SV.v near_3),(9,.pointer d_9),(10,.pointer m_10),(11,.int .i64 b_11),(12,SV.v told_12),(15,.int .i64 i_15)] M
def aD.J5.T (k:Nat) (near_3:SV) (d_9 m_10:Option Addr) (b_11:Int) (told_12:SV) (i_15:Int) (R:VP) (M:Mem):Prop:=aL pr aB R (bO PP aD.h (gR Tryz.f6) [true,false,false,true,false,true,true,true,true,true,true] [k] [(3,.sv near_3),(9,.ptr (.v d_9)),(10,.ptr (.v m_10)),(11,.int .i64 (.v b_11)),(12,.sv told_12),(15,.int .i64 (.v i_15))] M)
theorem aD.Is.J5 {pr:Prim} {aB:fC} (H:aD.Is pr aB R) (k:Nat) (near_3:SV) (d_9 m_10:Option Addr) (b_11:Int) (told_12:SV) (i_15:Int) (M:Mem):aD.J5 aB k near_3 d_9 m_10 b_11 told_12 i_15 M = aD.J5.T pr aB k near_3 d_9 m_10 b_11 told_12 i_15 R M:=(H _ _ _ _ _ rfl).trans (by kernel_rfl)
abbrev aD.J6 (k:Nat) (l_2 near_3:SV) (d_9 m_10:Option Addr) (b_11:Int) (told_12:SV) (i_13:Int) (M:Mem):Prop:=aB [true,false,false,true,false,false,true,false,true,true,true,true,true] [k] [(2,SV.v l_2),(3,SV.v near_3),(9,.pointer d_9),(10,.pointer m_10),(11,.int .i64 b_11),(12,SV.v told_12),(13,.int .i64 i_13)] M
def aD.J6.T (k:Nat) (l_2 near_3:SV) (d_9 m_10:Option Addr) (b_11:Int) (told_12:SV) (i_13:Int) (R:VP) (M:Mem):Prop:=aL pr aB R (bO PP aD.h (gR Tryz.f6) [true,false,false,true,false,false,true,false,true,true,true,true,true] [k] [(2,.sv l_2),(3,.sv near_3),(9,.ptr (.v d_9)),(10,.ptr (.v m_10)),(11,.int .i64 (.v b_11)),(12,.sv told_12),(13,.int .i64 (.v i_13))] M)
theorem aD.Is.J6 {pr:Prim} {aB:fC} (H:aD.Is pr aB R) (k:Nat) (l_2 near_3:SV) (d_9 m_10:Option Addr) (b_11:Int) (told_12:SV) (i_13:Int) (M:Mem):aD.J6 aB k l_2 near_3 d_9 m_10 b_11 told_12 i_13 M = aD.J6.T pr aB k l_2 near_3 d_9 m_10 b_11 told_12 i_13 R M:=(H _ _ _ _ _ rfl).trans (by kernel_rfl)
abbrev aD.J7 (k:Nat) (near_3:SV) (d_9 m_10:Option Addr) (b_11:Int) (told_12:SV) (i_15:Int) (c_16:Addr) (r_17:Addr) (M:Mem):Prop:=aB [true,true,true,false,false,true,false,false,true,false,true,true,true,true,true,true] [k] [(3,SV.v near_3),(9,.pointer d_9),(10,.pointer m_10),(11,.int .i64 b_11),(12,SV.v told_12),(15,.int .i64 i_15),(16,.pointer (some c_16)),(17,.pointer (some r_17))] M
def aD.J7.T (k:Nat) (near_3:SV) (d_9 m_10:Option Addr) (b_11:Int) (told_12:SV) (i_15:Int) (c_16:Addr) (r_17:Addr) (R:VP) (M:Mem):Prop:=aL pr aB R (bO PP aD.h (gR Tryz.f6) [true,true,true,false,false,true,false,false,true,false,true,true,true,true,true,true] [k] [(3,.sv near_3),(9,.ptr (.v d_9)),(10,.ptr (.v m_10)),(11,.int .i64 (.v b_11)),(12,.sv told_12),(15,.int .i64 (.v i_15)),(16,.ptr (.a (.v c_16))),(17,.ptr (.a (.v r_17)))] M)
theorem aD.Is.J7 {pr:Prim} {aB:fC} (H:aD.Is pr aB R) (k:Nat) (near_3:SV) (d_9 m_10:Option Addr) (b_11:Int) (told_12:SV) (i_15:Int) (c_16:Addr) (r_17:Addr) (M:Mem):aD.J7 aB k near_3 d_9 m_10 b_11 told_12 i_15 c_16 r_17 M = aD.J7.T pr aB k near_3 d_9 m_10 b_11 told_12 i_15 c_16 r_17 R M:=(H _ _ _ _ _ rfl).trans (by kernel_rfl)
def aD.T (k jobs:Int) (l near:SV) (R:VP) (M:Mem):Prop:=aL pr aB R (gX PP aD.h [] [] (gR Tryz.f6) [(0,.int .i64 (.v k)),(1,.int .i64 (.v jobs)),(2,.sv l),(3,.sv near)] M)
theorem aD.go (k jobs:Int) (l near:SV) (h:∀ aB,aD.Is (aJ PP w0) aB R→aD.T (aJ PP w0) aB k jobs l near R M):C PP w0 Id.aD #[.int .i64 k,.int .i64 jobs,SV.v l,SV.v near] R M :=
  dB mixed (h:=aD.h) (T:=fun pr aB=>aD.T pr aB k jobs l near R M) Tryz.func6 (c7 _ _) (by kernel_rfl) (fun pr aB=>by kernel_rfl) h
noncomputable def cQ.h:HC:=aH (bd Tryz.f9) [([true],[0,1,2])]
def cQ.Is (R:VP):Prop:=pF PP pr aB cQ.h Tryz.f9 R
abbrev cQ.J1 (n_0 lo_1 hi_2:Int) (M:Mem):Prop:=aB [true,true] [] [(0,.int .i64 n_0),(1,.int .i64 lo_1),(2,.int .i64 hi_2)] M
def cQ.J1.T (n_0 lo_1 hi_2:Int) (R:VP) (M:Mem):Prop:=aL pr aB R (bO PP cQ.h (gR Tryz.f9) [true,true] [] [(0,.int .i64 (.v n_0)),(1,.int .i64 (.v lo_1)),(2,.int .i64 (.v hi_2))] M)
theorem cQ.Is.J1 {pr:Prim} {aB:fC} (H:cQ.Is pr aB R) (n_0 lo_1 hi_2:Int) (M:Mem):cQ.J1 aB n_0 lo_1 hi_2 M = cQ.J1.T pr aB n_0 lo_1 hi_2 R M:=(H _ _ _ _ _ rfl).trans (by kernel_rfl)
def cQ.T (n lo hi:Int) (R:VP) (M:Mem):Prop:=aL pr aB R (gX PP cQ.h [] [] (gR Tryz.f9) [(0,.int .i64 (.v n)),(1,.int .i64 (.v lo)),(2,.int .i64 (.v hi))] M)
theorem cQ.go (n lo hi:Int) (h:∀ aB,cQ.Is (aJ PP w0) aB R→cQ.T (aJ PP w0) aB n lo hi R M):C PP w0 Id.cQ #[.int .i64 n,.int .i64 lo,.int .i64 hi] R M :=
  dB mixed (h:=cQ.h) (T:=fun pr aB=>cQ.T pr aB n lo hi R M) Tryz.func9 (c7 _ _) (by kernel_rfl) (fun pr aB=>by kernel_rfl) h
noncomputable def jK.h:HC:=aH (bd Tryz.f10) [([true],[0])]
def jK.Is (R:VP):Prop:=pF PP pr aB jK.h Tryz.f10 R
abbrev jK.J1 (items_0:Int) (M:Mem):Prop:=aB [true,true] [] [(0,.int .i64 items_0)] M
def jK.J1.T (items_0:Int) (R:VP) (M:Mem):Prop:=aL pr aB R (bO PP jK.h (gR Tryz.f10) [true,true] [] [(0,.int .i64 (.v items_0))] M)
theorem jK.Is.J1 {pr:Prim} {aB:fC} (H:jK.Is pr aB R) (items_0:Int) (M:Mem):jK.J1 aB items_0 M = jK.J1.T pr aB items_0 R M:=(H _ _ _ _ _ rfl).trans (by kernel_rfl)
def jK.T (items:Int) (R:VP) (M:Mem):Prop:=aL pr aB R (gX PP jK.h [] [] (gR Tryz.f10) [(0,.int .i64 (.v items))] M)
theorem jK.go (items:Int) (h:∀ aB,jK.Is (aJ PP w0) aB R→jK.T (aJ PP w0) aB items R M):C PP w0 Id.jK #[.int .i64 items] R M :=
  dB mixed (h:=jK.h) (T:=fun pr aB=>jK.T pr aB items R M) Tryz.func10 (c7 _ _) (by kernel_rfl) (fun pr aB=>by kernel_rfl) h
end
end HL
namespace HL
section
variable (pr:Prim) (aB:fC) (w0:World) {R:VP} {M:Mem}
noncomputable def iL.h:HC:=aH (bd Tryz.f14) []
def iL.T (q:Option Addr) (c_0 c_1 c_2 c_3 c_4 c_5 c_6 c_7 c_8:Int) (R:VP) (M:Mem):Prop:=aL pr (fun _ _ _ _=>False) R (gX PP iL.h [] [] (gR Tryz.f14) [(0,.ptr (.v q)),(1,.agg [.int .i64 (.v c_0),.int .i64 (.v c_1),.int .i64 (.v c_2),.int .i64 (.v c_3),.int .i64 (.v c_4),.int .i64 (.v c_5),.int .i64 (.v c_6),.int .i64 (.v c_7),.int .i64 (.v c_8)])] M)
theorem iL.go (q:Option Addr) (c_0 c_1 c_2 c_3 c_4 c_5 c_6 c_7 c_8:Int) (h:iL.T (aJ PP w0) q c_0 c_1 c_2 c_3 c_4 c_5 c_6 c_7 c_8 R M):C PP w0 Id.iL #[.pointer q,.agg #[.int .i64 c_0,.int .i64 c_1,.int .i64 c_2,.int .i64 c_3,.int .i64 c_4,.int .i64 c_5,.int .i64 c_6,.int .i64 c_7,.int .i64 c_8]] R M :=
  dB mixed (h:=iL.h) (T:=fun pr aB=>iL.T pr q c_0 c_1 c_2 c_3 c_4 c_5 c_6 c_7 c_8 R M) Tryz.func14 (c7 _ _) (by kernel_rfl) (fun pr aB=>by kernel_rfl) fun _ _=>h
noncomputable def mJ.h:HC:=aH (bd Tryz.f16) []
def mJ.T (q:Option Addr) (R:VP) (M:Mem):Prop:=aL pr (fun _ _ _ _=>False) R (gX PP mJ.h [] [] (gR Tryz.f16) [(0,.ptr (.v q))] M)
theorem mJ.go (q:Option Addr) (h:mJ.T (aJ PP w0) q R M):C PP w0 Id.mJ #[.pointer q] R M :=
  dB mixed (h:=mJ.h) (T:=fun pr aB=>mJ.T pr q R M) Tryz.func16 (c7 _ _) (by kernel_rfl) (fun pr aB=>by kernel_rfl) fun _ _=>h
noncomputable def eZ.h:HC:=aH (bd Tryz.f19) [([true],[0,1,2])]
def eZ.Is (R:VP):Prop:=pF PP pr aB eZ.h Tryz.f19 R
abbrev eZ.J1 (k_0 op_1 n_2:Int) (M:Mem):Prop:=aB [true,true] [] [(0,.int .i64 k_0),(1,.int .i64 op_1),(2,.int .i64 n_2)] M
def eZ.J1.T (k_0 op_1 n_2:Int) (R:VP) (M:Mem):Prop:=aL pr aB R (bO PP eZ.h (gR Tryz.f19) [true,true] [] [(0,.int .i64 (.v k_0)),(1,.int .i64 (.v op_1)),(2,.int .i64 (.v n_2))] M)
theorem eZ.Is.J1 {pr:Prim} {aB:fC} (H:eZ.Is pr aB R) (k_0 op_1 n_2:Int) (M:Mem):eZ.J1 aB k_0 op_1 n_2 M = eZ.J1.T pr aB k_0 op_1 n_2 R M:=(H _ _ _ _ _ rfl).trans (by kernel_rfl)
def eZ.T (k op n:Int) (R:VP) (M:Mem):Prop:=aL pr aB R (gX PP eZ.h [] [] (gR Tryz.f19) [(0,.int .i64 (.v k)),(1,.int .i64 (.v op)),(2,.int .i64 (.v n))] M)
theorem eZ.go (k op n:Int) (h:∀ aB,eZ.Is (aJ PP w0) aB R→eZ.T (aJ PP w0) aB k op n R M):C PP w0 Id.eZ #[.int .i64 k,.int .i64 op,.int .i64 n] R M :=
  dB mixed (h:=eZ.h) (T:=fun pr aB=>eZ.T pr aB k op n R M) Tryz.func19 (c7 _ _) (by kernel_rfl) (fun pr aB=>by kernel_rfl) h
noncomputable def eW.h:HC:=aH (bd Tryz.f21) [([true,true],[1])]
def eW.Is (R:VP):Prop:=pF PP pr aB eW.h Tryz.f21 R
abbrev eW.J1 (q_1:Option Addr) (M:Mem):Prop:=aB [true,true,true] [] [(1,.pointer q_1)] M
def eW.J1.T (q_1:Option Addr) (R:VP) (M:Mem):Prop:=aL pr aB R (bO PP eW.h (gR Tryz.f21) [true,true,true] [] [(1,.ptr (.v q_1))] M)
theorem eW.Is.J1 {pr:Prim} {aB:fC} (H:eW.Is pr aB R) (q_1:Option Addr) (M:Mem):eW.J1 aB q_1 M = eW.J1.T pr aB q_1 R M:=(H _ _ _ _ _ rfl).trans (by kernel_rfl)
def eW.T (R:VP) (M:Mem):Prop:=aL pr aB R (gX PP eW.h [] [] (gR Tryz.f21) [] M)
theorem eW.go (h:∀ aB,eW.Is (aJ PP w0) aB R→eW.T (aJ PP w0) aB R M):C PP w0 Id.eW #[] R M :=
  dB mixed (h:=eW.h) (T:=fun pr aB=>eW.T pr aB R M) Tryz.func21 (c7 _ _) (by kernel_rfl) (fun pr aB=>by kernel_rfl) h
noncomputable def fP.h:HC:=aH (bd Tryz.f22) []
def fP.T (k jobs:Int) (R:VP) (M:Mem):Prop:=aL pr (fun _ _ _ _=>False) R (gX PP fP.h [] [] (gR Tryz.f22) [(0,.int .i64 (.v k)),(1,.int .i64 (.v jobs))] M)
theorem fP.go (k jobs:Int) (h:fP.T (aJ PP w0) k jobs R M):C PP w0 Id.fP #[.int .i64 k,.int .i64 jobs] R M :=
  dB mixed (h:=fP.h) (T:=fun pr aB=>fP.T pr k jobs R M) Tryz.func22 (c7 _ _) (by kernel_rfl) (fun pr aB=>by kernel_rfl) fun _ _=>h
noncomputable def vX.h:HC:=aH (bd Tryz.f23) []
def vX.T (d:Option Addr) (c_0 c_1 c_2 c_3 c_4 c_5:Int) (R:VP) (M:Mem):Prop:=aL pr (fun _ _ _ _=>False) R (gX PP vX.h [] [] (gR Tryz.f23) [(0,.ptr (.v d)),(1,.agg [.int .i64 (.v c_0),.int .i64 (.v c_1),.int .i64 (.v c_2),.int .i64 (.v c_3),.int .i64 (.v c_4),.int .i64 (.v c_5)])] M)
theorem vX.go (d:Option Addr) (c_0 c_1 c_2 c_3 c_4 c_5:Int) (h:vX.T (aJ PP w0) d c_0 c_1 c_2 c_3 c_4 c_5 R M):C PP w0 Id.vX #[.pointer d,.agg #[.int .i64 c_0,.int .i64 c_1,.int .i64 c_2,.int .i64 c_3,.int .i64 c_4,.int .i64 c_5]] R M :=
  dB mixed (h:=vX.h) (T:=fun pr aB=>vX.T pr d c_0 c_1 c_2 c_3 c_4 c_5 R M) Tryz.func23 (c7 _ _) (by kernel_rfl) (fun pr aB=>by kernel_rfl) fun _ _=>h
noncomputable def fD.h:HC:=aH (bd Tryz.f25) [([true,false,true,false],[0,3,4,9,10]),([true,false,true,false,true,true],[0,3,4,9,27])]
def fD.Is (R:VP):Prop:=pF PP pr aB fD.h Tryz.f25 R
abbrev fD.J1 (d_0:Option Addr) (c_3:Addr) (t4:Addr) (t9:Int) (t10:Bool) (M:Mem):Prop:=aB [true,false,true,false,true] [] [(0,.pointer d_0),(3,.pointer (some c_3)),(4,.pointer (some t4)),(9,.int .i64 t9),(10,.bool t10)] M
def fD.J1.T (d_0:Option Addr) (c_3:Addr) (t4:Addr) (t9:Int) (t10:Bool) (R:VP) (M:Mem):Prop:=aL pr aB R (bO PP fD.h (gR Tryz.f25) [true,false,true,false,true] [] [(0,.ptr (.v d_0)),(3,.ptr (.a (.v c_3))),(4,.ptr (.a (.v t4))),(9,.int .i64 (.v t9)),(10,.bool (.v t10))] M)
theorem fD.Is.J1 {pr:Prim} {aB:fC} (H:fD.Is pr aB R) (d_0:Option Addr) (c_3:Addr) (t4:Addr) (t9:Int) (t10:Bool) (M:Mem):fD.J1 aB d_0 c_3 t4 t9 t10 M = fD.J1.T pr aB d_0 c_3 t4 t9 t10 R M:=(H _ _ _ _ _ rfl).trans (by kernel_rfl)
abbrev fD.J2 (d_0:Option Addr) (c_3:Addr) (t4:Addr) (t9:Int) (t27:Bool) (M:Mem):Prop:=aB [true,true,true,false,true,false,true] [] [(0,.pointer d_0),(3,.pointer (some c_3)),(4,.pointer (some t4)),(9,.int .i64 t9),(27,.bool t27)] M
def fD.J2.T (d_0:Option Addr) (c_3:Addr) (t4:Addr) (t9:Int) (t27:Bool) (R:VP) (M:Mem):Prop:=aL pr aB R (bO PP fD.h (gR Tryz.f25) [true,true,true,false,true,false,true] [] [(0,.ptr (.v d_0)),(3,.ptr (.a (.v c_3))),(4,.ptr (.a (.v t4))),(9,.int .i64 (.v t9)),(27,.bool (.v t27))] M)
theorem fD.Is.J2 {pr:Prim} {aB:fC} (H:fD.Is pr aB R) (d_0:Option Addr) (c_3:Addr) (t4:Addr) (t9:Int) (t27:Bool) (M:Mem):fD.J2 aB d_0 c_3 t4 t9 t27 M = fD.J2.T pr aB d_0 c_3 t4 t9 t27 R M:=(H _ _ _ _ _ rfl).trans (by kernel_rfl)
def fD.T (d:Option Addr) (c_0 c_1 c_2 c_3 c_4 c_5:Int) (R:VP) (M:Mem):Prop:=aL pr aB R (gX PP fD.h [] [] (gR Tryz.f25) [(0,.ptr (.v d)),(1,.agg [.int .i64 (.v c_0),.int .i64 (.v c_1),.int .i64 (.v c_2),.int .i64 (.v c_3),.int .i64 (.v c_4),.int .i64 (.v c_5)])] M)
theorem fD.go (d:Option Addr) (c_0 c_1 c_2 c_3 c_4 c_5:Int) (h:∀ aB,fD.Is (aJ PP w0) aB R→fD.T (aJ PP w0) aB d c_0 c_1 c_2 c_3 c_4 c_5 R M):C PP w0 Id.fD #[.pointer d,.agg #[.int .i64 c_0,.int .i64 c_1,.int .i64 c_2,.int .i64 c_3,.int .i64 c_4,.int .i64 c_5]] R M :=
  dB mixed (h:=fD.h) (T:=fun pr aB=>fD.T pr aB d c_0 c_1 c_2 c_3 c_4 c_5 R M) Tryz.func25 (c7 _ _) (by kernel_rfl) (fun pr aB=>by kernel_rfl) h
noncomputable def kC.h:HC:=aH (bd Tryz.f27) []
def kC.T (d:Option Addr) (R:VP) (M:Mem):Prop:=aL pr (fun _ _ _ _=>False) R (gX PP kC.h [] [] (gR Tryz.f27) [(0,.ptr (.v d))] M)
theorem kC.go (d:Option Addr) (h:kC.T (aJ PP w0) d R M):C PP w0 Id.kC #[.pointer d] R M :=
  dB mixed (h:=kC.h) (T:=fun pr aB=>kC.T pr d R M) Tryz.func27 (c7 _ _) (by kernel_rfl) (fun pr aB=>by kernel_rfl) fun _ _=>h
noncomputable def pC.h:HC:=aH (bd Tryz.f28) []
def pC.T (d:Option Addr) (R:VP) (M:Mem):Prop:=aL pr (fun _ _ _ _=>False) R (gX PP pC.h [] [] (gR Tryz.f28) [(0,.ptr (.v d))] M)
theorem pC.go (d:Option Addr) (h:pC.T (aJ PP w0) d R M):C PP w0 Id.pC #[.pointer d] R M :=
  dB mixed (h:=pC.h) (T:=fun pr aB=>pC.T pr d R M) Tryz.func28 (c7 _ _) (by kernel_rfl) (fun pr aB=>by kernel_rfl) fun _ _=>h
noncomputable def cD.h:HC:=aH (bd Tryz.f29) [([true,true,true,true],[1,2,4,6])]
def cD.Is (R:VP):Prop:=pF PP pr aB cD.h Tryz.f29 R
abbrev cD.J1 (jobs_1:SV) (x_2:Addr) (t4:Addr) (c_6:Addr) (M:Mem):Prop:=aB [true,true,true,true,true] [] [(1,SV.v jobs_1),(2,.pointer (some x_2)),(4,.pointer (some t4)),(6,.pointer (some c_6))] M
def cD.J1.T (jobs_1:SV) (x_2:Addr) (t4:Addr) (c_6:Addr) (R:VP) (M:Mem):Prop:=aL pr aB R (bO PP cD.h (gR Tryz.f29) [true,true,true,true,true] [] [(1,.sv jobs_1),(2,.ptr (.a (.v x_2))),(4,.ptr (.a (.v t4))),(6,.ptr (.a (.v c_6)))] M)
theorem cD.Is.J1 {pr:Prim} {aB:fC} (H:cD.Is pr aB R) (jobs_1:SV) (x_2:Addr) (t4:Addr) (c_6:Addr) (M:Mem):cD.J1 aB jobs_1 x_2 t4 c_6 M = cD.J1.T pr aB jobs_1 x_2 t4 c_6 R M:=(H _ _ _ _ _ rfl).trans (by kernel_rfl)
def cD.T (x_0 x_1 x_2 x_3 x_4 x_5 x_6 x_7 x_8 x_9 x_10:Int) (jobs:SV) (R:VP) (M:Mem):Prop:=aL pr aB R (gX PP cD.h [] [] (gR Tryz.f29) [(0,.agg [.int .i64 (.v x_0),.int .i64 (.v x_1),.int .i64 (.v x_2),.int .i64 (.v x_3),.int .i64 (.v x_4),.int .i64 (.v x_5),.int .i64 (.v x_6),.int .i64 (.v x_7),.int .i64 (.v x_8),.int .i64 (.v x_9),.int .i64 (.v x_10)]),(1,.sv jobs)] M)
theorem cD.go (x_0 x_1 x_2 x_3 x_4 x_5 x_6 x_7 x_8 x_9 x_10:Int) (jobs:SV) (h:∀ aB,cD.Is (aJ PP w0) aB R→cD.T (aJ PP w0) aB x_0 x_1 x_2 x_3 x_4 x_5 x_6 x_7 x_8 x_9 x_10 jobs R M):C PP w0 Id.cD #[.agg #[.int .i64 x_0,.int .i64 x_1,.int .i64 x_2,.int .i64 x_3,.int .i64 x_4,.int .i64 x_5,.int .i64 x_6,.int .i64 x_7,.int .i64 x_8,.int .i64 x_9,.int .i64 x_10],SV.v jobs] R M :=
  dB mixed (h:=cD.h) (T:=fun pr aB=>cD.T pr aB x_0 x_1 x_2 x_3 x_4 x_5 x_6 x_7 x_8 x_9 x_10 jobs R M) Tryz.func29 (c7 _ _) (by kernel_rfl) (fun pr aB=>by kernel_rfl) h
noncomputable def oQ.h:HC:=aH (bd Tryz.f30) []
def oQ.T (d:Option Addr) (R:VP) (M:Mem):Prop:=aL pr (fun _ _ _ _=>False) R (gX PP oQ.h [] [] (gR Tryz.f30) [(0,.ptr (.v d))] M)
theorem oQ.go (d:Option Addr) (h:oQ.T (aJ PP w0) d R M):C PP w0 Id.oQ #[.pointer d] R M :=
  dB mixed (h:=oQ.h) (T:=fun pr aB=>oQ.T pr d R M) Tryz.func30 (c7 _ _) (by kernel_rfl) (fun pr aB=>by kernel_rfl) fun _ _=>h
noncomputable def bG.h:HC:=aH (bd Tryz.f31) [([true,true,true,true,true,true,false,true,false],[0,8,10,38])]
def bG.Is (R:VP):Prop:=pF PP pr aB bG.h Tryz.f31 R
abbrev bG.L1 (k:Nat) (k_0:Int) (q_8 d_10:Option Addr) (t38:Int) (M:Mem):Prop:=aB [false,false,true,false,true,true,true,true,true,true] [k] [(0,.int .i64 k_0),(8,.pointer q_8),(10,.pointer d_10),(38,.int .i64 t38)] M
def bG.L1.T (k:Nat) (k_0:Int) (q_8 d_10:Option Addr) (t38:Int) (R:VP) (M:Mem):Prop:=aL pr aB R (bO PP bG.h (gR Tryz.f31) [false,false,true,false,true,true,true,true,true,true] [k] [(0,.int .i64 (.v k_0)),(8,.ptr (.v q_8)),(10,.ptr (.v d_10)),(38,.int .i64 (.v t38))] M)
theorem bG.Is.L1 {pr:Prim} {aB:fC} (H:bG.Is pr aB R) (k:Nat) (k_0:Int) (q_8 d_10:Option Addr) (t38:Int) (M:Mem):bG.L1 aB (k + 1) k_0 q_8 d_10 t38 M = bG.L1.T pr aB k k_0 q_8 d_10 t38 R M:=(H _ _ _ _ _ rfl).trans (by kernel_rfl)
def bG.T (k most:Int) (R:VP) (M:Mem):Prop:=aL pr aB R (gX PP bG.h [] [] (gR Tryz.f31) [(0,.int .i64 (.v k)),(1,.int .i64 (.v most))] M)
theorem bG.go (k most:Int) (h:∀ aB,bG.Is (aJ PP w0) aB R→bG.T (aJ PP w0) aB k most R M):C PP w0 Id.bG #[.int .i64 k,.int .i64 most] R M :=
  dB mixed (h:=bG.h) (T:=fun pr aB=>bG.T pr aB k most R M) Tryz.func31 (c7 _ _) (by kernel_rfl) (fun pr aB=>by kernel_rfl) h
noncomputable def kJ.h:HC:=aH (bd Tryz.f35) []
def kJ.T (cells:Int) (R:VP) (M:Mem):Prop:=aL pr (fun _ _ _ _=>False) R (gX PP kJ.h [] [] (gR Tryz.f35) [(0,.int .i64 (.v cells))] M)
theorem kJ.go (cells:Int) (h:kJ.T (aJ PP w0) cells R M):C PP w0 Id.kJ #[.int .i64 cells] R M :=
  dB mixed (h:=kJ.h) (T:=fun pr aB=>kJ.T pr cells R M) Tryz.func35 (c7 _ _) (by kernel_rfl) (fun pr aB=>by kernel_rfl) fun _ _=>h
noncomputable def kG.h:HC:=aH (bd Tryz.f36) []
def kG.T (items:Int) (R:VP) (M:Mem):Prop:=aL pr (fun _ _ _ _=>False) R (gX PP kG.h [] [] (gR Tryz.f36) [(0,.int .i64 (.v items))] M)
theorem kG.go (items:Int) (h:kG.T (aJ PP w0) items R M):C PP w0 Id.kG #[.int .i64 items] R M :=
  dB mixed (h:=kG.h) (T:=fun pr aB=>kG.T pr items R M) Tryz.func36 (c7 _ _) (by kernel_rfl) (fun pr aB=>by kernel_rfl) fun _ _=>h
noncomputable def rN.h:HC:=aH (bd Tryz.f37) []
def rN.T (places:Int) (R:VP) (M:Mem):Prop:=aL pr (fun _ _ _ _=>False) R (gX PP rN.h [] [] (gR Tryz.f37) [(0,.int .i64 (.v places))] M)
theorem rN.go (places:Int) (h:rN.T (aJ PP w0) places R M):C PP w0 Id.rN #[.int .i64 places] R M :=
  dB mixed (h:=rN.h) (T:=fun pr aB=>rN.T pr places R M) Tryz.func37 (c7 _ _) (by kernel_rfl) (fun pr aB=>by kernel_rfl) fun _ _=>h
noncomputable def jV.h:HC:=aH (bd Tryz.f40) []
def jV.T (a:Option Addr) (R:VP) (M:Mem):Prop:=aL pr (fun _ _ _ _=>False) R (gX PP jV.h [] [] (gR Tryz.f40) [(0,.ptr (.v a))] M)
theorem jV.go (a:Option Addr) (h:jV.T (aJ PP w0) a R M):C PP w0 Id.jV #[.pointer a] R M :=
  dB mixed (h:=jV.h) (T:=fun pr aB=>jV.T pr a R M) Tryz.func40 (c7 _ _) (by kernel_rfl) (fun pr aB=>by kernel_rfl) fun _ _=>h
noncomputable def mE.h:HC:=aH (bd Tryz.f41) []
def mE.T (m:Option Addr) (R:VP) (M:Mem):Prop:=aL pr (fun _ _ _ _=>False) R (gX PP mE.h [] [] (gR Tryz.f41) [(0,.ptr (.v m))] M)
theorem mE.go (m:Option Addr) (h:mE.T (aJ PP w0) m R M):C PP w0 Id.mE #[.pointer m] R M :=
  dB mixed (h:=mE.h) (T:=fun pr aB=>mE.T pr m R M) Tryz.func41 (c7 _ _) (by kernel_rfl) (fun pr aB=>by kernel_rfl) fun _ _=>h
noncomputable def oA.h:HC:=aH (bd Tryz.f42) []
def oA.T (t:Option Addr) (k:Int) (R:VP) (M:Mem):Prop:=aL pr (fun _ _ _ _=>False) R (gX PP oA.h [] [] (gR Tryz.f42) [(0,.ptr (.v t)),(1,.int .i64 (.v k))] M)
theorem oA.go (t:Option Addr) (k:Int) (h:oA.T (aJ PP w0) t k R M):C PP w0 Id.oA #[.pointer t,.int .i64 k] R M :=
  dB mixed (h:=oA.h) (T:=fun pr aB=>oA.T pr t k R M) Tryz.func42 (c7 _ _) (by kernel_rfl) (fun pr aB=>by kernel_rfl) fun _ _=>h
noncomputable def j9.h:HC:=aH (bd Tryz.f43) []
def j9.T (q:Option Addr) (c_0 c_1 c_2 c_3 c_4 c_5 c_6 c_7 c_8:Int) (R:VP) (M:Mem):Prop:=aL pr (fun _ _ _ _=>False) R (gX PP j9.h [] [] (gR Tryz.f43) [(0,.ptr (.v q)),(1,.agg [.int .i64 (.v c_0),.int .i64 (.v c_1),.int .i64 (.v c_2),.int .i64 (.v c_3),.int .i64 (.v c_4),.int .i64 (.v c_5),.int .i64 (.v c_6),.int .i64 (.v c_7),.int .i64 (.v c_8)])] M)
theorem j9.go (q:Option Addr) (c_0 c_1 c_2 c_3 c_4 c_5 c_6 c_7 c_8:Int) (h:j9.T (aJ PP w0) q c_0 c_1 c_2 c_3 c_4 c_5 c_6 c_7 c_8 R M):C PP w0 Id.j9 #[.pointer q,.agg #[.int .i64 c_0,.int .i64 c_1,.int .i64 c_2,.int .i64 c_3,.int .i64 c_4,.int .i64 c_5,.int .i64 c_6,.int .i64 c_7,.int .i64 c_8]] R M :=
  dB mixed (h:=j9.h) (T:=fun pr aB=>j9.T pr q c_0 c_1 c_2 c_3 c_4 c_5 c_6 c_7 c_8 R M) Tryz.func43 (c7 _ _) (by kernel_rfl) (fun pr aB=>by kernel_rfl) fun _ _=>h
noncomputable def mI.h:HC:=aH (bd Tryz.f44) []
def mI.T (q:Option Addr) (h_1_0 h_1_1:Int) (out:Bool) (R:VP) (M:Mem):Prop:=aL pr (fun _ _ _ _=>False) R (gX PP mI.h [] [] (gR Tryz.f44) [(0,.ptr (.v q)),(1,.agg [.int .i64 (.v h_1_0),.int .i64 (.v h_1_1)]),(2,.bool (.v out))] M)
theorem mI.go (q:Option Addr) (h_1_0 h_1_1:Int) (out:Bool) (h:mI.T (aJ PP w0) q h_1_0 h_1_1 out R M):C PP w0 Id.mI #[.pointer q,.agg #[.int .i64 h_1_0,.int .i64 h_1_1],.bool out] R M :=
  dB mixed (h:=mI.h) (T:=fun pr aB=>mI.T pr q h_1_0 h_1_1 out R M) Tryz.func44 (c7 _ _) (by kernel_rfl) (fun pr aB=>by kernel_rfl) fun _ _=>h
noncomputable def gY.h:HC:=aH (bd Tryz.f45) []
def gY.T (q:Option Addr) (c_0 c_1 c_2 c_3 c_4 c_5 c_6 c_7 c_8:Int) (R:VP) (M:Mem):Prop:=aL pr (fun _ _ _ _=>False) R (gX PP gY.h [] [] (gR Tryz.f45) [(0,.ptr (.v q)),(1,.agg [.int .i64 (.v c_0),.int .i64 (.v c_1),.int .i64 (.v c_2),.int .i64 (.v c_3),.int .i64 (.v c_4),.int .i64 (.v c_5),.int .i64 (.v c_6),.int .i64 (.v c_7),.int .i64 (.v c_8)])] M)
theorem gY.go (q:Option Addr) (c_0 c_1 c_2 c_3 c_4 c_5 c_6 c_7 c_8:Int) (h:gY.T (aJ PP w0) q c_0 c_1 c_2 c_3 c_4 c_5 c_6 c_7 c_8 R M):C PP w0 Id.gY #[.pointer q,.agg #[.int .i64 c_0,.int .i64 c_1,.int .i64 c_2,.int .i64 c_3,.int .i64 c_4,.int .i64 c_5,.int .i64 c_6,.int .i64 c_7,.int .i64 c_8]] R M :=
  dB mixed (h:=gY.h) (T:=fun pr aB=>gY.T pr q c_0 c_1 c_2 c_3 c_4 c_5 c_6 c_7 c_8 R M) Tryz.func45 (c7 _ _) (by kernel_rfl) (fun pr aB=>by kernel_rfl) fun _ _=>h
noncomputable def kS.h:HC:=aH (bd Tryz.f46) []
def kS.T (q:Option Addr) (i_0 i_1:Int) (R:VP) (M:Mem):Prop:=aL pr (fun _ _ _ _=>False) R (gX PP kS.h [] [] (gR Tryz.f46) [(0,.ptr (.v q)),(1,.agg [.int .i64 (.v i_0),.int .i64 (.v i_1)])] M)
theorem kS.go (q:Option Addr) (i_0 i_1:Int) (h:kS.T (aJ PP w0) q i_0 i_1 R M):C PP w0 Id.kS #[.pointer q,.agg #[.int .i64 i_0,.int .i64 i_1]] R M :=
  dB mixed (h:=kS.h) (T:=fun pr aB=>kS.T pr q i_0 i_1 R M) Tryz.func46 (c7 _ _) (by kernel_rfl) (fun pr aB=>by kernel_rfl) fun _ _=>h
noncomputable def nU.h:HC:=aH (bd Tryz.f47) []
def nU.T (q:Option Addr) (h_1_0 h_1_1 o_0 o_1:Int) (R:VP) (M:Mem):Prop:=aL pr (fun _ _ _ _=>False) R (gX PP nU.h [] [] (gR Tryz.f47) [(0,.ptr (.v q)),(1,.agg [.int .i64 (.v h_1_0),.int .i64 (.v h_1_1)]),(2,.agg [.int .i64 (.v o_0),.int .i64 (.v o_1)])] M)
theorem nU.go (q:Option Addr) (h_1_0 h_1_1 o_0 o_1:Int) (h:nU.T (aJ PP w0) q h_1_0 h_1_1 o_0 o_1 R M):C PP w0 Id.nU #[.pointer q,.agg #[.int .i64 h_1_0,.int .i64 h_1_1],.agg #[.int .i64 o_0,.int .i64 o_1]] R M :=
  dB mixed (h:=nU.h) (T:=fun pr aB=>nU.T pr q h_1_0 h_1_1 o_0 o_1 R M) Tryz.func47 (c7 _ _) (by kernel_rfl) (fun pr aB=>by kernel_rfl) fun _ _=>h
noncomputable def pA.h:HC:=aH (bd Tryz.f48) []
def pA.T (t:Option Addr) (h_1_0 h_1_1:Int) (R:VP) (M:Mem):Prop:=aL pr (fun _ _ _ _=>False) R (gX PP pA.h [] [] (gR Tryz.f48) [(0,.ptr (.v t)),(1,.agg [.int .i64 (.v h_1_0),.int .i64 (.v h_1_1)])] M)
theorem pA.go (t:Option Addr) (h_1_0 h_1_1:Int) (h:pA.T (aJ PP w0) t h_1_0 h_1_1 R M):C PP w0 Id.pA #[.pointer t,.agg #[.int .i64 h_1_0,.int .i64 h_1_1]] R M :=
  dB mixed (h:=pA.h) (T:=fun pr aB=>pA.T pr t h_1_0 h_1_1 R M) Tryz.func48 (c7 _ _) (by kernel_rfl) (fun pr aB=>by kernel_rfl) fun _ _=>h
noncomputable def jC.h:HC:=aH (bd Tryz.f50) []
def jC.T (why:Int) (R:VP) (M:Mem):Prop:=aL pr (fun _ _ _ _=>False) R (gX PP jC.h [] [] (gR Tryz.f50) [(0,.int .i64 (.v why))] M)
theorem jC.go (why:Int) (h:jC.T (aJ PP w0) why R M):C PP w0 Id.jC #[.int .i64 why] R M :=
  dB mixed (h:=jC.h) (T:=fun pr aB=>jC.T pr why R M) Tryz.func50 (c7 _ _) (by kernel_rfl) (fun pr aB=>by kernel_rfl) fun _ _=>h
noncomputable def fX.h:HC:=aH (bd Tryz.f51) [([true,true],[0,1,4,6])]
def fX.Is (R:VP):Prop:=pF PP pr aB fX.h Tryz.f51 R
abbrev fX.J1 (p_0:Option Addr) (v_1:Int) (t4:Addr) (at_6:Int) (M:Mem):Prop:=aB [true,true,true] [] [(0,.pointer p_0),(1,.int .i64 v_1),(4,.pointer (some t4)),(6,.int .i64 at_6)] M
def fX.J1.T (p_0:Option Addr) (v_1:Int) (t4:Addr) (at_6:Int) (R:VP) (M:Mem):Prop:=aL pr aB R (bO PP fX.h (gR Tryz.f51) [true,true,true] [] [(0,.ptr (.v p_0)),(1,.int .i64 (.v v_1)),(4,.ptr (.a (.v t4))),(6,.int .i64 (.v at_6))] M)
theorem fX.Is.J1 {pr:Prim} {aB:fC} (H:fX.Is pr aB R) (p_0:Option Addr) (v_1:Int) (t4:Addr) (at_6:Int) (M:Mem):fX.J1 aB p_0 v_1 t4 at_6 M = fX.J1.T pr aB p_0 v_1 t4 at_6 R M:=(H _ _ _ _ _ rfl).trans (by kernel_rfl)
def fX.T (p:Option Addr) (v:Int) (R:VP) (M:Mem):Prop:=aL pr aB R (gX PP fX.h [] [] (gR Tryz.f51) [(0,.ptr (.v p)),(1,.int .i64 (.v v))] M)
theorem fX.go (p:Option Addr) (v:Int) (h:∀ aB,fX.Is (aJ PP w0) aB R→fX.T (aJ PP w0) aB p v R M):C PP w0 Id.fX #[.pointer p,.int .i64 v] R M :=
  dB mixed (h:=fX.h) (T:=fun pr aB=>fX.T pr aB p v R M) Tryz.func51 (c7 _ _) (by kernel_rfl) (fun pr aB=>by kernel_rfl) h
noncomputable def lE.h:HC:=aH (bd Tryz.f54) []
def lE.T (m:Option Addr) (R:VP) (M:Mem):Prop:=aL pr (fun _ _ _ _=>False) R (gX PP lE.h [] [] (gR Tryz.f54) [(0,.ptr (.v m))] M)
theorem lE.go (m:Option Addr) (h:lE.T (aJ PP w0) m R M):C PP w0 Id.lE #[.pointer m] R M :=
  dB mixed (h:=lE.h) (T:=fun pr aB=>lE.T pr m R M) Tryz.func54 (c7 _ _) (by kernel_rfl) (fun pr aB=>by kernel_rfl) fun _ _=>h
noncomputable def j3.h:HC:=aH (bd Tryz.f55) []
def j3.T (a b:Int) (R:VP) (M:Mem):Prop:=aL pr (fun _ _ _ _=>False) R (gX PP j3.h [] [] (gR Tryz.f55) [(0,.int .i64 (.v a)),(1,.int .i64 (.v b))] M)
theorem j3.go (a b:Int) (h:j3.T (aJ PP w0) a b R M):C PP w0 Id.j3 #[.int .i64 a,.int .i64 b] R M :=
  dB mixed (h:=j3.h) (T:=fun pr aB=>j3.T pr a b R M) Tryz.func55 (c7 _ _) (by kernel_rfl) (fun pr aB=>by kernel_rfl) fun _ _=>h
end
end HL
namespace HL
section
variable (pr:Prim) (aB:fC) (w0:World) {R:VP} {M:Mem}
noncomputable def m9.h:HC:=aH (bd Tryz.f57) []
def m9.T (m:Option Addr) (R:VP) (M:Mem):Prop:=aL pr (fun _ _ _ _=>False) R (gX PP m9.h [] [] (gR Tryz.f57) [(0,.ptr (.v m))] M)
theorem m9.go (m:Option Addr) (h:m9.T (aJ PP w0) m R M):C PP w0 Id.m9 #[.pointer m] R M :=
  dB mixed (h:=m9.h) (T:=fun pr aB=>m9.T pr m R M) Tryz.func57 (c7 _ _) (by kernel_rfl) (fun pr aB=>by kernel_rfl) fun _ _=>h
noncomputable def jG.h:HC:=aH (bd Tryz.f58) []
def jG.T (k:Int) (R:VP) (M:Mem):Prop:=aL pr (fun _ _ _ _=>False) R (gX PP jG.h [] [] (gR Tryz.f58) [(0,.int .i64 (.v k))] M)
theorem jG.go (k:Int) (h:jG.T (aJ PP w0) k R M):C PP w0 Id.jG #[.int .i64 k] R M :=
  dB mixed (h:=jG.h) (T:=fun pr aB=>jG.T pr k R M) Tryz.func58 (c7 _ _) (by kernel_rfl) (fun pr aB=>by kernel_rfl) fun _ _=>h
noncomputable def iT.h:HC:=aH (bd Tryz.f60) []
def iT.T (k:Int) (R:VP) (M:Mem):Prop:=aL pr (fun _ _ _ _=>False) R (gX PP iT.h [] [] (gR Tryz.f60) [(0,.int .i64 (.v k))] M)
theorem iT.go (k:Int) (h:iT.T (aJ PP w0) k R M):C PP w0 Id.iT #[.int .i64 k] R M :=
  dB mixed (h:=iT.h) (T:=fun pr aB=>iT.T pr k R M) Tryz.func60 (c7 _ _) (by kernel_rfl) (fun pr aB=>by kernel_rfl) fun _ _=>h
noncomputable def mF.h:HC:=aH (bd Tryz.f62) []
def mF.T (t:Option Addr) (R:VP) (M:Mem):Prop:=aL pr (fun _ _ _ _=>False) R (gX PP mF.h [] [] (gR Tryz.f62) [(0,.ptr (.v t))] M)
theorem mF.go (t:Option Addr) (h:mF.T (aJ PP w0) t R M):C PP w0 Id.mF #[.pointer t] R M :=
  dB mixed (h:=mF.h) (T:=fun pr aB=>mF.T pr t R M) Tryz.func62 (c7 _ _) (by kernel_rfl) (fun pr aB=>by kernel_rfl) fun _ _=>h
noncomputable def qD.h:HC:=aH (bd Tryz.f63) []
def qD.T (jobs:Int) (R:VP) (M:Mem):Prop:=aL pr (fun _ _ _ _=>False) R (gX PP qD.h [] [] (gR Tryz.f63) [(0,.int .i64 (.v jobs))] M)
theorem qD.go (jobs:Int) (h:qD.T (aJ PP w0) jobs R M):C PP w0 Id.qD #[.int .i64 jobs] R M :=
  dB mixed (h:=qD.h) (T:=fun pr aB=>qD.T pr jobs R M) Tryz.func63 (c7 _ _) (by kernel_rfl) (fun pr aB=>by kernel_rfl) fun _ _=>h
noncomputable def fJ.h:HC:=aH (bd Tryz.f64) [([true],[0,3,4,5]),([true,true],[0,3,4])]
def fJ.Is (R:VP):Prop:=pF PP pr aB fJ.h Tryz.f64 R
abbrev fJ.J1 (d_0:Option Addr) (c_3:Addr) (t4:Addr) (right_5:Bool) (M:Mem):Prop:=aB [true,true] [] [(0,.pointer d_0),(3,.pointer (some c_3)),(4,.pointer (some t4)),(5,.bool right_5)] M
def fJ.J1.T (d_0:Option Addr) (c_3:Addr) (t4:Addr) (right_5:Bool) (R:VP) (M:Mem):Prop:=aL pr aB R (bO PP fJ.h (gR Tryz.f64) [true,true] [] [(0,.ptr (.v d_0)),(3,.ptr (.a (.v c_3))),(4,.ptr (.a (.v t4))),(5,.bool (.v right_5))] M)
theorem fJ.Is.J1 {pr:Prim} {aB:fC} (H:fJ.Is pr aB R) (d_0:Option Addr) (c_3:Addr) (t4:Addr) (right_5:Bool) (M:Mem):fJ.J1 aB d_0 c_3 t4 right_5 M = fJ.J1.T pr aB d_0 c_3 t4 right_5 R M:=(H _ _ _ _ _ rfl).trans (by kernel_rfl)
abbrev fJ.J2 (d_0:Option Addr) (c_3:Addr) (t4:Addr) (M:Mem):Prop:=aB [true,true,true] [] [(0,.pointer d_0),(3,.pointer (some c_3)),(4,.pointer (some t4))] M
def fJ.J2.T (d_0:Option Addr) (c_3:Addr) (t4:Addr) (R:VP) (M:Mem):Prop:=aL pr aB R (bO PP fJ.h (gR Tryz.f64) [true,true,true] [] [(0,.ptr (.v d_0)),(3,.ptr (.a (.v c_3))),(4,.ptr (.a (.v t4)))] M)
theorem fJ.Is.J2 {pr:Prim} {aB:fC} (H:fJ.Is pr aB R) (d_0:Option Addr) (c_3:Addr) (t4:Addr) (M:Mem):fJ.J2 aB d_0 c_3 t4 M = fJ.J2.T pr aB d_0 c_3 t4 R M:=(H _ _ _ _ _ rfl).trans (by kernel_rfl)
def fJ.T (d:Option Addr) (c_0 c_1 c_2 c_3 c_4 c_5:Int) (R:VP) (M:Mem):Prop:=aL pr aB R (gX PP fJ.h [] [] (gR Tryz.f64) [(0,.ptr (.v d)),(1,.agg [.int .i64 (.v c_0),.int .i64 (.v c_1),.int .i64 (.v c_2),.int .i64 (.v c_3),.int .i64 (.v c_4),.int .i64 (.v c_5)])] M)
theorem fJ.go (d:Option Addr) (c_0 c_1 c_2 c_3 c_4 c_5:Int) (h:∀ aB,fJ.Is (aJ PP w0) aB R→fJ.T (aJ PP w0) aB d c_0 c_1 c_2 c_3 c_4 c_5 R M):C PP w0 Id.fJ #[.pointer d,.agg #[.int .i64 c_0,.int .i64 c_1,.int .i64 c_2,.int .i64 c_3,.int .i64 c_4,.int .i64 c_5]] R M :=
  dB mixed (h:=fJ.h) (T:=fun pr aB=>fJ.T pr aB d c_0 c_1 c_2 c_3 c_4 c_5 R M) Tryz.func64 (c7 _ _) (by kernel_rfl) (fun pr aB=>by kernel_rfl) h
noncomputable def cB.h:HC:=aH (bd Tryz.f65) []
def cB.T (why:Int) (R:VP) (M:Mem):Prop:=aL pr (fun _ _ _ _=>False) R (gX PP cB.h [] [] (gR Tryz.f65) [(0,.int .i64 (.v why))] M)
theorem cB.go (why:Int) (h:cB.T (aJ PP w0) why R M):C PP w0 Id.cB #[.int .i64 why] R M :=
  dB mixed (h:=cB.h) (T:=fun pr aB=>cB.T pr why R M) Tryz.func65 (c7 _ _) (by kernel_rfl) (fun pr aB=>by kernel_rfl) fun _ _=>h
noncomputable def bQ.h:HC:=aH (bd Tryz.f66) [([true,false,true,false,true,true,true,false,true],[0,4,7]),([true,false,true,false,true,true,true,true,true,false,true,true,false,true,false],[0,4,9,10])]
def bQ.Is (R:VP):Prop:=pF PP pr aB bQ.h Tryz.f66 R
abbrev bQ.J1 (d_0:Option Addr) (t4:Addr) (k_7:Int) (M:Mem):Prop:=aB [true,true,false,true,true,true,false,true,false,true] [] [(0,.pointer d_0),(4,.pointer (some t4)),(7,.int .i64 k_7)] M
def bQ.J1.T (d_0:Option Addr) (t4:Addr) (k_7:Int) (R:VP) (M:Mem):Prop:=aL pr aB R (bO PP bQ.h (gR Tryz.f66) [true,true,false,true,true,true,false,true,false,true] [] [(0,.ptr (.v d_0)),(4,.ptr (.a (.v t4))),(7,.int .i64 (.v k_7))] M)
theorem bQ.Is.J1 {pr:Prim} {aB:fC} (H:bQ.Is pr aB R) (d_0:Option Addr) (t4:Addr) (k_7:Int) (M:Mem):bQ.J1 aB d_0 t4 k_7 M = bQ.J1.T pr aB d_0 t4 k_7 R M:=(H _ _ _ _ _ rfl).trans (by kernel_rfl)
abbrev bQ.L2 (k:Nat) (d_0:Option Addr) (t4:Addr) (n_9 i_10:Int) (M:Mem):Prop:=aB [false,false,true,false,true,true,false,true,true,true,true,true,false,true,false,true] [k] [(0,.pointer d_0),(4,.pointer (some t4)),(9,.int .i64 n_9),(10,.int .i64 i_10)] M
def bQ.L2.T (k:Nat) (d_0:Option Addr) (t4:Addr) (n_9 i_10:Int) (R:VP) (M:Mem):Prop:=aL pr aB R (bO PP bQ.h (gR Tryz.f66) [false,false,true,false,true,true,false,true,true,true,true,true,false,true,false,true] [k] [(0,.ptr (.v d_0)),(4,.ptr (.a (.v t4))),(9,.int .i64 (.v n_9)),(10,.int .i64 (.v i_10))] M)
theorem bQ.Is.L2 {pr:Prim} {aB:fC} (H:bQ.Is pr aB R) (k:Nat) (d_0:Option Addr) (t4:Addr) (n_9 i_10:Int) (M:Mem):bQ.L2 aB (k + 1) d_0 t4 n_9 i_10 M = bQ.L2.T pr aB k d_0 t4 n_9 i_10 R M:=(H _ _ _ _ _ rfl).trans (by kernel_rfl)
def bQ.T (d:Option Addr) (c_0 c_1 c_2 c_3 c_4 c_5:Int) (R:VP) (M:Mem):Prop:=aL pr aB R (gX PP bQ.h [] [] (gR Tryz.f66) [(0,.ptr (.v d)),(1,.agg [.int .i64 (.v c_0),.int .i64 (.v c_1),.int .i64 (.v c_2),.int .i64 (.v c_3),.int .i64 (.v c_4),.int .i64 (.v c_5)])] M)
theorem bQ.go (d:Option Addr) (c_0 c_1 c_2 c_3 c_4 c_5:Int) (h:∀ aB,bQ.Is (aJ PP w0) aB R→bQ.T (aJ PP w0) aB d c_0 c_1 c_2 c_3 c_4 c_5 R M):C PP w0 Id.bQ #[.pointer d,.agg #[.int .i64 c_0,.int .i64 c_1,.int .i64 c_2,.int .i64 c_3,.int .i64 c_4,.int .i64 c_5]] R M :=
  dB mixed (h:=bQ.h) (T:=fun pr aB=>bQ.T pr aB d c_0 c_1 c_2 c_3 c_4 c_5 R M) Tryz.func66 (c7 _ _) (by kernel_rfl) (fun pr aB=>by kernel_rfl) h
noncomputable def gJ.h:HC:=aH (bd Tryz.f67) [([true],[0,3])]
def gJ.Is (R:VP):Prop:=pF PP pr aB gJ.h Tryz.f67 R
abbrev gJ.J1 (p_0:Option Addr) (r_3:Addr) (M:Mem):Prop:=aB [true,true] [] [(0,.pointer p_0),(3,.pointer (some r_3))] M
def gJ.J1.T (p_0:Option Addr) (r_3:Addr) (R:VP) (M:Mem):Prop:=aL pr aB R (bO PP gJ.h (gR Tryz.f67) [true,true] [] [(0,.ptr (.v p_0)),(3,.ptr (.a (.v r_3)))] M)
theorem gJ.Is.J1 {pr:Prim} {aB:fC} (H:gJ.Is pr aB R) (p_0:Option Addr) (r_3:Addr) (M:Mem):gJ.J1 aB p_0 r_3 M = gJ.J1.T pr aB p_0 r_3 R M:=(H _ _ _ _ _ rfl).trans (by kernel_rfl)
def gJ.T (p:Option Addr) (r_0 r_1:Int) (R:VP) (M:Mem):Prop:=aL pr aB R (gX PP gJ.h [] [] (gR Tryz.f67) [(0,.ptr (.v p)),(1,.agg [.int .i64 (.v r_0),.int .i64 (.v r_1)])] M)
theorem gJ.go (p:Option Addr) (r_0 r_1:Int) (h:∀ aB,gJ.Is (aJ PP w0) aB R→gJ.T (aJ PP w0) aB p r_0 r_1 R M):C PP w0 Id.gJ #[.pointer p,.agg #[.int .i64 r_0,.int .i64 r_1]] R M :=
  dB mixed (h:=gJ.h) (T:=fun pr aB=>gJ.T pr aB p r_0 r_1 R M) Tryz.func67 (c7 _ _) (by kernel_rfl) (fun pr aB=>by kernel_rfl) h
noncomputable def jF.h:HC:=aH (bd Tryz.f68) [([true,false,true,false],[0,3,5])]
def jF.Is (R:VP):Prop:=pF PP pr aB jF.h Tryz.f68 R
abbrev jF.L1 (k:Nat) (d_0:Option Addr) (r_3:Addr) (i_5:Int) (M:Mem):Prop:=aB [false,false,true,false,true] [k] [(0,.pointer d_0),(3,.pointer (some r_3)),(5,.int .i64 i_5)] M
def jF.L1.T (k:Nat) (d_0:Option Addr) (r_3:Addr) (i_5:Int) (R:VP) (M:Mem):Prop:=aL pr aB R (bO PP jF.h (gR Tryz.f68) [false,false,true,false,true] [k] [(0,.ptr (.v d_0)),(3,.ptr (.a (.v r_3))),(5,.int .i64 (.v i_5))] M)
theorem jF.Is.L1 {pr:Prim} {aB:fC} (H:jF.Is pr aB R) (k:Nat) (d_0:Option Addr) (r_3:Addr) (i_5:Int) (M:Mem):jF.L1 aB (k + 1) d_0 r_3 i_5 M = jF.L1.T pr aB k d_0 r_3 i_5 R M:=(H _ _ _ _ _ rfl).trans (by kernel_rfl)
def jF.T (d:Option Addr) (r_0 r_1:Int) (R:VP) (M:Mem):Prop:=aL pr aB R (gX PP jF.h [] [] (gR Tryz.f68) [(0,.ptr (.v d)),(1,.agg [.int .i64 (.v r_0),.int .i64 (.v r_1)])] M)
theorem jF.go (d:Option Addr) (r_0 r_1:Int) (h:∀ aB,jF.Is (aJ PP w0) aB R→jF.T (aJ PP w0) aB d r_0 r_1 R M):C PP w0 Id.jF #[.pointer d,.agg #[.int .i64 r_0,.int .i64 r_1]] R M :=
  dB mixed (h:=jF.h) (T:=fun pr aB=>jF.T pr aB d r_0 r_1 R M) Tryz.func68 (c7 _ _) (by kernel_rfl) (fun pr aB=>by kernel_rfl) h
noncomputable def oN.h:HC:=aH (bd Tryz.f69) []
def oN.T (d:Option Addr) (k:Int) (R:VP) (M:Mem):Prop:=aL pr (fun _ _ _ _=>False) R (gX PP oN.h [] [] (gR Tryz.f69) [(0,.ptr (.v d)),(1,.int .i64 (.v k))] M)
theorem oN.go (d:Option Addr) (k:Int) (h:oN.T (aJ PP w0) d k R M):C PP w0 Id.oN #[.pointer d,.int .i64 k] R M :=
  dB mixed (h:=oN.h) (T:=fun pr aB=>oN.T pr d k R M) Tryz.func69 (c7 _ _) (by kernel_rfl) (fun pr aB=>by kernel_rfl) fun _ _=>h
noncomputable def iW.h:HC:=aH (bd Tryz.f70) [([true],[0,1])]
def iW.Is (R:VP):Prop:=pF PP pr aB iW.h Tryz.f70 R
abbrev iW.J1 (a_0 b_1:Int) (M:Mem):Prop:=aB [true,true] [] [(0,.int .i64 a_0),(1,.int .i64 b_1)] M
def iW.J1.T (a_0 b_1:Int) (R:VP) (M:Mem):Prop:=aL pr aB R (bO PP iW.h (gR Tryz.f70) [true,true] [] [(0,.int .i64 (.v a_0)),(1,.int .i64 (.v b_1))] M)
theorem iW.Is.J1 {pr:Prim} {aB:fC} (H:iW.Is pr aB R) (a_0 b_1:Int) (M:Mem):iW.J1 aB a_0 b_1 M = iW.J1.T pr aB a_0 b_1 R M:=(H _ _ _ _ _ rfl).trans (by kernel_rfl)
def iW.T (a b:Int) (R:VP) (M:Mem):Prop:=aL pr aB R (gX PP iW.h [] [] (gR Tryz.f70) [(0,.int .i64 (.v a)),(1,.int .i64 (.v b))] M)
theorem iW.go (a b:Int) (h:∀ aB,iW.Is (aJ PP w0) aB R→iW.T (aJ PP w0) aB a b R M):C PP w0 Id.iW #[.int .i64 a,.int .i64 b] R M :=
  dB mixed (h:=iW.h) (T:=fun pr aB=>iW.T pr aB a b R M) Tryz.func70 (c7 _ _) (by kernel_rfl) (fun pr aB=>by kernel_rfl) h
noncomputable def rJ.h:HC:=aH (bd Tryz.f71) []
def rJ.T (t:Option Addr) (R:VP) (M:Mem):Prop:=aL pr (fun _ _ _ _=>False) R (gX PP rJ.h [] [] (gR Tryz.f71) [(0,.ptr (.v t))] M)
theorem rJ.go (t:Option Addr) (h:rJ.T (aJ PP w0) t R M):C PP w0 Id.rJ #[.pointer t] R M :=
  dB mixed (h:=rJ.h) (T:=fun pr aB=>rJ.T pr t R M) Tryz.func71 (c7 _ _) (by kernel_rfl) (fun pr aB=>by kernel_rfl) fun _ _=>h
noncomputable def gL.h:HC:=aH (bd Tryz.f72) []
def gL.T (k items:Int) (R:VP) (M:Mem):Prop:=aL pr (fun _ _ _ _=>False) R (gX PP gL.h [] [] (gR Tryz.f72) [(0,.int .i64 (.v k)),(1,.int .i64 (.v items))] M)
theorem gL.go (k items:Int) (h:gL.T (aJ PP w0) k items R M):C PP w0 Id.gL #[.int .i64 k,.int .i64 items] R M :=
  dB mixed (h:=gL.h) (T:=fun pr aB=>gL.T pr k items R M) Tryz.func72 (c7 _ _) (by kernel_rfl) (fun pr aB=>by kernel_rfl) fun _ _=>h
noncomputable def mM.h:HC:=aH (bd Tryz.f73) []
def mM.T (jobs:Int) (R:VP) (M:Mem):Prop:=aL pr (fun _ _ _ _=>False) R (gX PP mM.h [] [] (gR Tryz.f73) [(0,.int .i64 (.v jobs))] M)
theorem mM.go (jobs:Int) (h:mM.T (aJ PP w0) jobs R M):C PP w0 Id.mM #[.int .i64 jobs] R M :=
  dB mixed (h:=mM.h) (T:=fun pr aB=>mM.T pr jobs R M) Tryz.func73 (c7 _ _) (by kernel_rfl) (fun pr aB=>by kernel_rfl) fun _ _=>h
noncomputable def kT.h:HC:=aH (bd Tryz.f74) []
def kT.T (R:VP) (M:Mem):Prop:=aL pr (fun _ _ _ _=>False) R (gX PP kT.h [] [] (gR Tryz.f74) [] M)
theorem kT.go (h:kT.T (aJ PP w0) R M):C PP w0 Id.kT #[] R M :=
  dB mixed (h:=kT.h) (T:=fun pr aB=>kT.T pr R M) Tryz.func74 (c7 _ _) (by kernel_rfl) (fun pr aB=>by kernel_rfl) fun _ _=>h
noncomputable def pP.h:HC:=aH (bd Tryz.f76) []
def pP.T (t:Option Addr) (r_0 r_1:Int) (R:VP) (M:Mem):Prop:=aL pr (fun _ _ _ _=>False) R (gX PP pP.h [] [] (gR Tryz.f76) [(0,.ptr (.v t)),(1,.agg [.int .i64 (.v r_0),.int .i64 (.v r_1)])] M)
theorem pP.go (t:Option Addr) (r_0 r_1:Int) (h:pP.T (aJ PP w0) t r_0 r_1 R M):C PP w0 Id.pP #[.pointer t,.agg #[.int .i64 r_0,.int .i64 r_1]] R M :=
  dB mixed (h:=pP.h) (T:=fun pr aB=>pP.T pr t r_0 r_1 R M) Tryz.func76 (c7 _ _) (by kernel_rfl) (fun pr aB=>by kernel_rfl) fun _ _=>h
noncomputable def kM.h:HC:=aH (bd Tryz.f79) []
def kM.T (R:VP) (M:Mem):Prop:=aL pr (fun _ _ _ _=>False) R (gX PP kM.h [] [] (gR Tryz.f79) [] M)
theorem kM.go (h:kM.T (aJ PP w0) R M):C PP w0 Id.kM #[] R M :=
  dB mixed (h:=kM.h) (T:=fun pr aB=>kM.T pr R M) Tryz.func79 (c7 _ _) (by kernel_rfl) (fun pr aB=>by kernel_rfl) fun _ _=>h
noncomputable def cU.h:HC:=aH (bd Tryz.f80) []
def cU.T (places:Int) (R:VP) (M:Mem):Prop:=aL pr (fun _ _ _ _=>False) R (gX PP cU.h [] [] (gR Tryz.f80) [(0,.int .i64 (.v places))] M)
theorem cU.go (places:Int) (h:cU.T (aJ PP w0) places R M):C PP w0 Id.cU #[.int .i64 places] R M :=
  dB mixed (h:=cU.h) (T:=fun pr aB=>cU.T pr places R M) Tryz.func80 (c7 _ _) (by kernel_rfl) (fun pr aB=>by kernel_rfl) fun _ _=>h
noncomputable def cH.h:HC:=aH (bd Tryz.f81) []
def cH.T (places:Int) (R:VP) (M:Mem):Prop:=aL pr (fun _ _ _ _=>False) R (gX PP cH.h [] [] (gR Tryz.f81) [(0,.int .i64 (.v places))] M)
theorem cH.go (places:Int) (h:cH.T (aJ PP w0) places R M):C PP w0 Id.cH #[.int .i64 places] R M :=
  dB mixed (h:=cH.h) (T:=fun pr aB=>cH.T pr places R M) Tryz.func81 (c7 _ _) (by kernel_rfl) (fun pr aB=>by kernel_rfl) fun _ _=>h
noncomputable def pV.h:HC:=aH (bd Tryz.f83) []
def pV.T (m:Option Addr) (R:VP) (M:Mem):Prop:=aL pr (fun _ _ _ _=>False) R (gX PP pV.h [] [] (gR Tryz.f83) [(0,.ptr (.v m))] M)
theorem pV.go (m:Option Addr) (h:pV.T (aJ PP w0) m R M):C PP w0 Id.pV #[.pointer m] R M :=
  dB mixed (h:=pV.h) (T:=fun pr aB=>pV.T pr m R M) Tryz.func83 (c7 _ _) (by kernel_rfl) (fun pr aB=>by kernel_rfl) fun _ _=>h
noncomputable def cS.h:HC:=aH (bd Tryz.f84) [([true,true],[0,3,4,6])]
def cS.Is (R:VP):Prop:=pF PP pr aB cS.h Tryz.f84 R
abbrev cS.J1 (p_0:Option Addr) (v_3:Addr) (t4:Addr) (at_6:Int) (M:Mem):Prop:=aB [true,true,true] [] [(0,.pointer p_0),(3,.pointer (some v_3)),(4,.pointer (some t4)),(6,.int .i64 at_6)] M
def cS.J1.T (p_0:Option Addr) (v_3:Addr) (t4:Addr) (at_6:Int) (R:VP) (M:Mem):Prop:=aL pr aB R (bO PP cS.h (gR Tryz.f84) [true,true,true] [] [(0,.ptr (.v p_0)),(3,.ptr (.a (.v v_3))),(4,.ptr (.a (.v t4))),(6,.int .i64 (.v at_6))] M)
theorem cS.Is.J1 {pr:Prim} {aB:fC} (H:cS.Is pr aB R) (p_0:Option Addr) (v_3:Addr) (t4:Addr) (at_6:Int) (M:Mem):cS.J1 aB p_0 v_3 t4 at_6 M = cS.J1.T pr aB p_0 v_3 t4 at_6 R M:=(H _ _ _ _ _ rfl).trans (by kernel_rfl)
def cS.T (p:Option Addr) (v_0 v_1 v_2:Int) (R:VP) (M:Mem):Prop:=aL pr aB R (gX PP cS.h [] [] (gR Tryz.f84) [(0,.ptr (.v p)),(1,.agg [.int .i64 (.v v_0),.int .i64 (.v v_1),.int .i64 (.v v_2)])] M)
theorem cS.go (p:Option Addr) (v_0 v_1 v_2:Int) (h:∀ aB,cS.Is (aJ PP w0) aB R→cS.T (aJ PP w0) aB p v_0 v_1 v_2 R M):C PP w0 Id.cS #[.pointer p,.agg #[.int .i64 v_0,.int .i64 v_1,.int .i64 v_2]] R M :=
  dB mixed (h:=cS.h) (T:=fun pr aB=>cS.T pr aB p v_0 v_1 v_2 R M) Tryz.func84 (c7 _ _) (by kernel_rfl) (fun pr aB=>by kernel_rfl) h
noncomputable def lY.h:HC:=aH (bd Tryz.f85) []
def lY.T (a:Option Addr) (key serial:Int) (R:VP) (M:Mem):Prop:=aL pr (fun _ _ _ _=>False) R (gX PP lY.h [] [] (gR Tryz.f85) [(0,.ptr (.v a)),(1,.int .i64 (.v key)),(2,.int .i64 (.v serial))] M)
theorem lY.go (a:Option Addr) (key serial:Int) (h:lY.T (aJ PP w0) a key serial R M):C PP w0 Id.lY #[.pointer a,.int .i64 key,.int .i64 serial] R M :=
  dB mixed (h:=lY.h) (T:=fun pr aB=>lY.T pr a key serial R M) Tryz.func85 (c7 _ _) (by kernel_rfl) (fun pr aB=>by kernel_rfl) fun _ _=>h
noncomputable def kF.h:HC:=aH (bd Tryz.f86) []
def kF.T (k:Int) (a:Option Addr) (r i:Int) (R:VP) (M:Mem):Prop:=aL pr (fun _ _ _ _=>False) R (gX PP kF.h [] [] (gR Tryz.f86) [(0,.int .i64 (.v k)),(1,.ptr (.v a)),(2,.int .i64 (.v r)),(3,.int .i64 (.v i))] M)
theorem kF.go (k:Int) (a:Option Addr) (r i:Int) (h:kF.T (aJ PP w0) k a r i R M):C PP w0 Id.kF #[.int .i64 k,.pointer a,.int .i64 r,.int .i64 i] R M :=
  dB mixed (h:=kF.h) (T:=fun pr aB=>kF.T pr k a r i R M) Tryz.func86 (c7 _ _) (by kernel_rfl) (fun pr aB=>by kernel_rfl) fun _ _=>h
noncomputable def qW.h:HC:=aH (bd Tryz.f87) []
def qW.T (t:Option Addr) (h_1_0 h_1_1 cell:Int) (R:VP) (M:Mem):Prop:=aL pr (fun _ _ _ _=>False) R (gX PP qW.h [] [] (gR Tryz.f87) [(0,.ptr (.v t)),(1,.agg [.int .i64 (.v h_1_0),.int .i64 (.v h_1_1)]),(2,.int .i64 (.v cell))] M)
theorem qW.go (t:Option Addr) (h_1_0 h_1_1 cell:Int) (h:qW.T (aJ PP w0) t h_1_0 h_1_1 cell R M):C PP w0 Id.qW #[.pointer t,.agg #[.int .i64 h_1_0,.int .i64 h_1_1],.int .i64 cell] R M :=
  dB mixed (h:=qW.h) (T:=fun pr aB=>qW.T pr t h_1_0 h_1_1 cell R M) Tryz.func87 (c7 _ _) (by kernel_rfl) (fun pr aB=>by kernel_rfl) fun _ _=>h
noncomputable def oC.h:HC:=aH (bd Tryz.f88) []
def oC.T (t:Option Addr) (h_1_0 h_1_1 r n:Int) (R:VP) (M:Mem):Prop:=aL pr (fun _ _ _ _=>False) R (gX PP oC.h [] [] (gR Tryz.f88) [(0,.ptr (.v t)),(1,.agg [.int .i64 (.v h_1_0),.int .i64 (.v h_1_1)]),(2,.int .i64 (.v r)),(3,.int .i64 (.v n))] M)
theorem oC.go (t:Option Addr) (h_1_0 h_1_1 r n:Int) (h:oC.T (aJ PP w0) t h_1_0 h_1_1 r n R M):C PP w0 Id.oC #[.pointer t,.agg #[.int .i64 h_1_0,.int .i64 h_1_1],.int .i64 r,.int .i64 n] R M :=
  dB mixed (h:=oC.h) (T:=fun pr aB=>oC.T pr t h_1_0 h_1_1 r n R M) Tryz.func88 (c7 _ _) (by kernel_rfl) (fun pr aB=>by kernel_rfl) fun _ _=>h
noncomputable def vE.h:HC:=aH (bd Tryz.f89) []
def vE.T (t:Option Addr) (cell:Int) (R:VP) (M:Mem):Prop:=aL pr (fun _ _ _ _=>False) R (gX PP vE.h [] [] (gR Tryz.f89) [(0,.ptr (.v t)),(1,.int .i64 (.v cell))] M)
theorem vE.go (t:Option Addr) (cell:Int) (h:vE.T (aJ PP w0) t cell R M):C PP w0 Id.vE #[.pointer t,.int .i64 cell] R M :=
  dB mixed (h:=vE.h) (T:=fun pr aB=>vE.T pr t cell R M) Tryz.func89 (c7 _ _) (by kernel_rfl) (fun pr aB=>by kernel_rfl) fun _ _=>h
noncomputable def mH.h:HC:=aH (bd Tryz.f90) []
def mH.T (k:Int) (a:Option Addr) (r:Int) (R:VP) (M:Mem):Prop:=aL pr (fun _ _ _ _=>False) R (gX PP mH.h [] [] (gR Tryz.f90) [(0,.int .i64 (.v k)),(1,.ptr (.v a)),(2,.int .i64 (.v r))] M)
theorem mH.go (k:Int) (a:Option Addr) (r:Int) (h:mH.T (aJ PP w0) k a r R M):C PP w0 Id.mH #[.int .i64 k,.pointer a,.int .i64 r] R M :=
  dB mixed (h:=mH.h) (T:=fun pr aB=>mH.T pr k a r R M) Tryz.func90 (c7 _ _) (by kernel_rfl) (fun pr aB=>by kernel_rfl) fun _ _=>h
noncomputable def mB.h:HC:=aH (bd Tryz.f91) []
def mB.T (k:Int) (a:Option Addr) (r:Int) (R:VP) (M:Mem):Prop:=aL pr (fun _ _ _ _=>False) R (gX PP mB.h [] [] (gR Tryz.f91) [(0,.int .i64 (.v k)),(1,.ptr (.v a)),(2,.int .i64 (.v r))] M)
theorem mB.go (k:Int) (a:Option Addr) (r:Int) (h:mB.T (aJ PP w0) k a r R M):C PP w0 Id.mB #[.int .i64 k,.pointer a,.int .i64 r] R M :=
  dB mixed (h:=mB.h) (T:=fun pr aB=>mB.T pr k a r R M) Tryz.func91 (c7 _ _) (by kernel_rfl) (fun pr aB=>by kernel_rfl) fun _ _=>h
noncomputable def oF.h:HC:=aH (bd Tryz.f92) []
def oF.T (q:Option Addr) (i_0 i_1:Int) (R:VP) (M:Mem):Prop:=aL pr (fun _ _ _ _=>False) R (gX PP oF.h [] [] (gR Tryz.f92) [(0,.ptr (.v q)),(1,.agg [.int .i64 (.v i_0),.int .i64 (.v i_1)])] M)
theorem oF.go (q:Option Addr) (i_0 i_1:Int) (h:oF.T (aJ PP w0) q i_0 i_1 R M):C PP w0 Id.oF #[.pointer q,.agg #[.int .i64 i_0,.int .i64 i_1]] R M :=
  dB mixed (h:=oF.h) (T:=fun pr aB=>oF.T pr q i_0 i_1 R M) Tryz.func92 (c7 _ _) (by kernel_rfl) (fun pr aB=>by kernel_rfl) fun _ _=>h
noncomputable def o0.h:HC:=aH (bd Tryz.f93) []
def o0.T (t:Option Addr) (i_0 i_1:Int) (R:VP) (M:Mem):Prop:=aL pr (fun _ _ _ _=>False) R (gX PP o0.h [] [] (gR Tryz.f93) [(0,.ptr (.v t)),(1,.agg [.int .i64 (.v i_0),.int .i64 (.v i_1)])] M)
theorem o0.go (t:Option Addr) (i_0 i_1:Int) (h:o0.T (aJ PP w0) t i_0 i_1 R M):C PP w0 Id.o0 #[.pointer t,.agg #[.int .i64 i_0,.int .i64 i_1]] R M :=
  dB mixed (h:=o0.h) (T:=fun pr aB=>o0.T pr t i_0 i_1 R M) Tryz.func93 (c7 _ _) (by kernel_rfl) (fun pr aB=>by kernel_rfl) fun _ _=>h
noncomputable def vW.h:HC:=aH (bd Tryz.f94) []
def vW.T (t:Option Addr) (i_0 i_1:Int) (R:VP) (M:Mem):Prop:=aL pr (fun _ _ _ _=>False) R (gX PP vW.h [] [] (gR Tryz.f94) [(0,.ptr (.v t)),(1,.agg [.int .i64 (.v i_0),.int .i64 (.v i_1)])] M)
theorem vW.go (t:Option Addr) (i_0 i_1:Int) (h:vW.T (aJ PP w0) t i_0 i_1 R M):C PP w0 Id.vW #[.pointer t,.agg #[.int .i64 i_0,.int .i64 i_1]] R M :=
  dB mixed (h:=vW.h) (T:=fun pr aB=>vW.T pr t i_0 i_1 R M) Tryz.func94 (c7 _ _) (by kernel_rfl) (fun pr aB=>by kernel_rfl) fun _ _=>h
noncomputable def iR.h:HC:=aH (bd Tryz.f95) []
def iR.T (a:Option Addr) (i key:Int) (R:VP) (M:Mem):Prop:=aL pr (fun _ _ _ _=>False) R (gX PP iR.h [] [] (gR Tryz.f95) [(0,.ptr (.v a)),(1,.int .i64 (.v i)),(2,.int .i64 (.v key))] M)
theorem iR.go (a:Option Addr) (i key:Int) (h:iR.T (aJ PP w0) a i key R M):C PP w0 Id.iR #[.pointer a,.int .i64 i,.int .i64 key] R M :=
  dB mixed (h:=iR.h) (T:=fun pr aB=>iR.T pr a i key R M) Tryz.func95 (c7 _ _) (by kernel_rfl) (fun pr aB=>by kernel_rfl) fun _ _=>h
noncomputable def kI.h:HC:=aH (bd Tryz.f96) []
def kI.T (k:Int) (a:Option Addr) (r i:Int) (R:VP) (M:Mem):Prop:=aL pr (fun _ _ _ _=>False) R (gX PP kI.h [] [] (gR Tryz.f96) [(0,.int .i64 (.v k)),(1,.ptr (.v a)),(2,.int .i64 (.v r)),(3,.int .i64 (.v i))] M)
theorem kI.go (k:Int) (a:Option Addr) (r i:Int) (h:kI.T (aJ PP w0) k a r i R M):C PP w0 Id.kI #[.int .i64 k,.pointer a,.int .i64 r,.int .i64 i] R M :=
  dB mixed (h:=kI.h) (T:=fun pr aB=>kI.T pr k a r i R M) Tryz.func96 (c7 _ _) (by kernel_rfl) (fun pr aB=>by kernel_rfl) fun _ _=>h
noncomputable def lV.h:HC:=aH (bd Tryz.f97) []
def lV.T (k:Int) (a:Option Addr) (r i:Int) (R:VP) (M:Mem):Prop:=aL pr (fun _ _ _ _=>False) R (gX PP lV.h [] [] (gR Tryz.f97) [(0,.int .i64 (.v k)),(1,.ptr (.v a)),(2,.int .i64 (.v r)),(3,.int .i64 (.v i))] M)
theorem lV.go (k:Int) (a:Option Addr) (r i:Int) (h:lV.T (aJ PP w0) k a r i R M):C PP w0 Id.lV #[.int .i64 k,.pointer a,.int .i64 r,.int .i64 i] R M :=
  dB mixed (h:=lV.h) (T:=fun pr aB=>lV.T pr k a r i R M) Tryz.func97 (c7 _ _) (by kernel_rfl) (fun pr aB=>by kernel_rfl) fun _ _=>h
noncomputable def fY.h:HC:=aH (bd Tryz.f98) [([true,true,true,true,true,false,true,false],[0,4,5,51,52,53])]
def fY.Is (R:VP):Prop:=pF PP pr aB fY.h Tryz.f98 R
abbrev fY.L1 (k:Nat) (t_0:Option Addr) (h_4:Addr) (o_5:Addr) (t51:SV) (t52 t53:Int) (M:Mem):Prop:=aB [false,false,true,false,true,true,true,true,true] [k] [(0,.pointer t_0),(4,.pointer (some h_4)),(5,.pointer (some o_5)),(51,SV.v t51),(52,.int .i64 t52),(53,.int .i64 t53)] M
def fY.L1.T (k:Nat) (t_0:Option Addr) (h_4:Addr) (o_5:Addr) (t51:SV) (t52 t53:Int) (R:VP) (M:Mem):Prop:=aL pr aB R (bO PP fY.h (gR Tryz.f98) [false,false,true,false,true,true,true,true,true] [k] [(0,.ptr (.v t_0)),(4,.ptr (.a (.v h_4))),(5,.ptr (.a (.v o_5))),(51,.sv t51),(52,.int .i64 (.v t52)),(53,.int .i64 (.v t53))] M)
theorem fY.Is.L1 {pr:Prim} {aB:fC} (H:fY.Is pr aB R) (k:Nat) (t_0:Option Addr) (h_4:Addr) (o_5:Addr) (t51:SV) (t52 t53:Int) (M:Mem):fY.L1 aB (k + 1) t_0 h_4 o_5 t51 t52 t53 M = fY.L1.T pr aB k t_0 h_4 o_5 t51 t52 t53 R M:=(H _ _ _ _ _ rfl).trans (by kernel_rfl)
def fY.T (t:Option Addr) (h_1_0 h_1_1 o_0 o_1:Int) (R:VP) (M:Mem):Prop:=aL pr aB R (gX PP fY.h [] [] (gR Tryz.f98) [(0,.ptr (.v t)),(1,.agg [.int .i64 (.v h_1_0),.int .i64 (.v h_1_1)]),(2,.agg [.int .i64 (.v o_0),.int .i64 (.v o_1)])] M)
theorem fY.go (t:Option Addr) (h_1_0 h_1_1 o_0 o_1:Int) (h:∀ aB,fY.Is (aJ PP w0) aB R→fY.T (aJ PP w0) aB t h_1_0 h_1_1 o_0 o_1 R M):C PP w0 Id.fY #[.pointer t,.agg #[.int .i64 h_1_0,.int .i64 h_1_1],.agg #[.int .i64 o_0,.int .i64 o_1]] R M :=
  dB mixed (h:=fY.h) (T:=fun pr aB=>fY.T pr aB t h_1_0 h_1_1 o_0 o_1 R M) Tryz.func98 (c7 _ _) (by kernel_rfl) (fun pr aB=>by kernel_rfl) h
noncomputable def kH.h:HC:=aH (bd Tryz.f99) []
def kH.T (k:Int) (a:Option Addr) (r s:Int) (R:VP) (M:Mem):Prop:=aL pr (fun _ _ _ _=>False) R (gX PP kH.h [] [] (gR Tryz.f99) [(0,.int .i64 (.v k)),(1,.ptr (.v a)),(2,.int .i64 (.v r)),(3,.int .i64 (.v s))] M)
theorem kH.go (k:Int) (a:Option Addr) (r s:Int) (h:kH.T (aJ PP w0) k a r s R M):C PP w0 Id.kH #[.int .i64 k,.pointer a,.int .i64 r,.int .i64 s] R M :=
  dB mixed (h:=kH.h) (T:=fun pr aB=>kH.T pr k a r s R M) Tryz.func99 (c7 _ _) (by kernel_rfl) (fun pr aB=>by kernel_rfl) fun _ _=>h
noncomputable def jR.h:HC:=aH (bd Tryz.f100) []
def jR.T (p:Option Addr) (r_0 r_1:Int) (R:VP) (M:Mem):Prop:=aL pr (fun _ _ _ _=>False) R (gX PP jR.h [] [] (gR Tryz.f100) [(0,.ptr (.v p)),(1,.agg [.int .i64 (.v r_0),.int .i64 (.v r_1)])] M)
theorem jR.go (p:Option Addr) (r_0 r_1:Int) (h:jR.T (aJ PP w0) p r_0 r_1 R M):C PP w0 Id.jR #[.pointer p,.agg #[.int .i64 r_0,.int .i64 r_1]] R M :=
  dB mixed (h:=jR.h) (T:=fun pr aB=>jR.T pr p r_0 r_1 R M) Tryz.func100 (c7 _ _) (by kernel_rfl) (fun pr aB=>by kernel_rfl) fun _ _=>h
noncomputable def fR.h:HC:=aH (bd Tryz.f102) [([true,true,false,true,false],[0,3,5,14,15,16])]
def fR.Is (R:VP):Prop:=pF PP pr aB fR.h Tryz.f102 R
abbrev fR.L1 (k:Nat) (t_0:Option Addr) (h_3:Addr) (out_5 t14:SV) (t15 t16:Int) (M:Mem):Prop:=aB [false,false,true,false,true,true] [k] [(0,.pointer t_0),(3,.pointer (some h_3)),(5,SV.v out_5),(14,SV.v t14),(15,.int .i64 t15),(16,.int .i64 t16)] M
def fR.L1.T (k:Nat) (t_0:Option Addr) (h_3:Addr) (out_5 t14:SV) (t15 t16:Int) (R:VP) (M:Mem):Prop:=aL pr aB R (bO PP fR.h (gR Tryz.f102) [false,false,true,false,true,true] [k] [(0,.ptr (.v t_0)),(3,.ptr (.a (.v h_3))),(5,.sv out_5),(14,.sv t14),(15,.int .i64 (.v t15)),(16,.int .i64 (.v t16))] M)
theorem fR.Is.L1 {pr:Prim} {aB:fC} (H:fR.Is pr aB R) (k:Nat) (t_0:Option Addr) (h_3:Addr) (out_5 t14:SV) (t15 t16:Int) (M:Mem):fR.L1 aB (k + 1) t_0 h_3 out_5 t14 t15 t16 M = fR.L1.T pr aB k t_0 h_3 out_5 t14 t15 t16 R M:=(H _ _ _ _ _ rfl).trans (by kernel_rfl)
def fR.T (t:Option Addr) (h_1_0 h_1_1:Int) (R:VP) (M:Mem):Prop:=aL pr aB R (gX PP fR.h [] [] (gR Tryz.f102) [(0,.ptr (.v t)),(1,.agg [.int .i64 (.v h_1_0),.int .i64 (.v h_1_1)])] M)
theorem fR.go (t:Option Addr) (h_1_0 h_1_1:Int) (h:∀ aB,fR.Is (aJ PP w0) aB R→fR.T (aJ PP w0) aB t h_1_0 h_1_1 R M):C PP w0 Id.fR #[.pointer t,.agg #[.int .i64 h_1_0,.int .i64 h_1_1]] R M :=
  dB mixed (h:=fR.h) (T:=fun pr aB=>fR.T pr aB t h_1_0 h_1_1 R M) Tryz.func102 (c7 _ _) (by kernel_rfl) (fun pr aB=>by kernel_rfl) h
noncomputable def oM.h:HC:=aH (bd Tryz.f105) []
def oM.T (p:Option Addr) (r_0 r_1:Int) (R:VP) (M:Mem):Prop:=aL pr (fun _ _ _ _=>False) R (gX PP oM.h [] [] (gR Tryz.f105) [(0,.ptr (.v p)),(1,.agg [.int .i64 (.v r_0),.int .i64 (.v r_1)])] M)
theorem oM.go (p:Option Addr) (r_0 r_1:Int) (h:oM.T (aJ PP w0) p r_0 r_1 R M):C PP w0 Id.oM #[.pointer p,.agg #[.int .i64 r_0,.int .i64 r_1]] R M :=
  dB mixed (h:=oM.h) (T:=fun pr aB=>oM.T pr p r_0 r_1 R M) Tryz.func105 (c7 _ _) (by kernel_rfl) (fun pr aB=>by kernel_rfl) fun _ _=>h
end
end HL
namespace HL
section
variable (pr:Prim) (aB:fC) (w0:World) {R:VP} {M:Mem}
noncomputable def bZ.h:HC:=aH (bd Tryz.f114) [([true,false,true,false],[0,1,8,9])]
def bZ.Is (R:VP):Prop:=pF PP pr aB bZ.h Tryz.f114 R
abbrev bZ.L1 (k:Nat) (a_0 b_1 t8 t9:Int) (M:Mem):Prop:=aB [false,false,true,false,true] [k] [(0,.int .i64 a_0),(1,.int .i64 b_1),(8,.int .i64 t8),(9,.int .i64 t9)] M
def bZ.L1.T (k:Nat) (a_0 b_1 t8 t9:Int) (R:VP) (M:Mem):Prop:=aL pr aB R (bO PP bZ.h (gR Tryz.f114) [false,false,true,false,true] [k] [(0,.int .i64 (.v a_0)),(1,.int .i64 (.v b_1)),(8,.int .i64 (.v t8)),(9,.int .i64 (.v t9))] M)
theorem bZ.Is.L1 {pr:Prim} {aB:fC} (H:bZ.Is pr aB R) (k:Nat) (a_0 b_1 t8 t9:Int) (M:Mem):bZ.L1 aB (k + 1) a_0 b_1 t8 t9 M = bZ.L1.T pr aB k a_0 b_1 t8 t9 R M:=(H _ _ _ _ _ rfl).trans (by kernel_rfl)
def bZ.T (a b n:Int) (R:VP) (M:Mem):Prop:=aL pr aB R (gX PP bZ.h [] [] (gR Tryz.f114) [(0,.int .i64 (.v a)),(1,.int .i64 (.v b)),(2,.int .i64 (.v n))] M)
theorem bZ.go (a b n:Int) (h:∀ aB,bZ.Is (aJ PP w0) aB R→bZ.T (aJ PP w0) aB a b n R M):C PP w0 Id.bZ #[.int .i64 a,.int .i64 b,.int .i64 n] R M :=
  dB mixed (h:=bZ.h) (T:=fun pr aB=>bZ.T pr aB a b n R M) Tryz.func114 (c7 _ _) (by kernel_rfl) (fun pr aB=>by kernel_rfl) h
noncomputable def kV.h:HC:=aH (bd Tryz.f115) []
def kV.T (p:Option Addr) (R:VP) (M:Mem):Prop:=aL pr (fun _ _ _ _=>False) R (gX PP kV.h [] [] (gR Tryz.f115) [(0,.ptr (.v p))] M)
theorem kV.go (p:Option Addr) (h:kV.T (aJ PP w0) p R M):C PP w0 Id.kV #[.pointer p] R M :=
  dB mixed (h:=kV.h) (T:=fun pr aB=>kV.T pr p R M) Tryz.func115 (c7 _ _) (by kernel_rfl) (fun pr aB=>by kernel_rfl) fun _ _=>h
noncomputable def gT.h:HC:=aH (bd Tryz.f116) []
def gT.T (d:Option Addr) (c_0 c_1 c_2 c_3 c_4 c_5:Int) (R:VP) (M:Mem):Prop:=aL pr (fun _ _ _ _=>False) R (gX PP gT.h [] [] (gR Tryz.f116) [(0,.ptr (.v d)),(1,.agg [.int .i64 (.v c_0),.int .i64 (.v c_1),.int .i64 (.v c_2),.int .i64 (.v c_3),.int .i64 (.v c_4),.int .i64 (.v c_5)])] M)
theorem gT.go (d:Option Addr) (c_0 c_1 c_2 c_3 c_4 c_5:Int) (h:gT.T (aJ PP w0) d c_0 c_1 c_2 c_3 c_4 c_5 R M):C PP w0 Id.gT #[.pointer d,.agg #[.int .i64 c_0,.int .i64 c_1,.int .i64 c_2,.int .i64 c_3,.int .i64 c_4,.int .i64 c_5]] R M :=
  dB mixed (h:=gT.h) (T:=fun pr aB=>gT.T pr d c_0 c_1 c_2 c_3 c_4 c_5 R M) Tryz.func116 (c7 _ _) (by kernel_rfl) (fun pr aB=>by kernel_rfl) fun _ _=>h
noncomputable def kR.h:HC:=aH (bd Tryz.f117) []
def kR.T (d:Option Addr) (c_0 c_1 c_2 c_3 c_4 c_5:Int) (R:VP) (M:Mem):Prop:=aL pr (fun _ _ _ _=>False) R (gX PP kR.h [] [] (gR Tryz.f117) [(0,.ptr (.v d)),(1,.agg [.int .i64 (.v c_0),.int .i64 (.v c_1),.int .i64 (.v c_2),.int .i64 (.v c_3),.int .i64 (.v c_4),.int .i64 (.v c_5)])] M)
theorem kR.go (d:Option Addr) (c_0 c_1 c_2 c_3 c_4 c_5:Int) (h:kR.T (aJ PP w0) d c_0 c_1 c_2 c_3 c_4 c_5 R M):C PP w0 Id.kR #[.pointer d,.agg #[.int .i64 c_0,.int .i64 c_1,.int .i64 c_2,.int .i64 c_3,.int .i64 c_4,.int .i64 c_5]] R M :=
  dB mixed (h:=kR.h) (T:=fun pr aB=>kR.T pr d c_0 c_1 c_2 c_3 c_4 c_5 R M) Tryz.func117 (c7 _ _) (by kernel_rfl) (fun pr aB=>by kernel_rfl) fun _ _=>h
noncomputable def kY.h:HC:=aH (bd Tryz.f118) []
def kY.T (d:Option Addr) (r_0 r_1:Int) (R:VP) (M:Mem):Prop:=aL pr (fun _ _ _ _=>False) R (gX PP kY.h [] [] (gR Tryz.f118) [(0,.ptr (.v d)),(1,.agg [.int .i64 (.v r_0),.int .i64 (.v r_1)])] M)
theorem kY.go (d:Option Addr) (r_0 r_1:Int) (h:kY.T (aJ PP w0) d r_0 r_1 R M):C PP w0 Id.kY #[.pointer d,.agg #[.int .i64 r_0,.int .i64 r_1]] R M :=
  dB mixed (h:=kY.h) (T:=fun pr aB=>kY.T pr d r_0 r_1 R M) Tryz.func118 (c7 _ _) (by kernel_rfl) (fun pr aB=>by kernel_rfl) fun _ _=>h
noncomputable def eU.h:HC:=aH (bd Tryz.f119) []
def eU.T (c:Option Addr) (by_1:Int) (R:VP) (M:Mem):Prop:=aL pr (fun _ _ _ _=>False) R (gX PP eU.h [] [] (gR Tryz.f119) [(0,.ptr (.v c)),(1,.int .i64 (.v by_1))] M)
theorem eU.go (c:Option Addr) (by_1:Int) (h:eU.T (aJ PP w0) c by_1 R M):C PP w0 Id.eU #[.pointer c,.int .i64 by_1] R M :=
  dB mixed (h:=eU.h) (T:=fun pr aB=>eU.T pr c by_1 R M) Tryz.func119 (c7 _ _) (by kernel_rfl) (fun pr aB=>by kernel_rfl) fun _ _=>h
noncomputable def eH.h:HC:=aH (bd Tryz.f120) []
def eH.T (c:Option Addr) (R:VP) (M:Mem):Prop:=aL pr (fun _ _ _ _=>False) R (gX PP eH.h [] [] (gR Tryz.f120) [(0,.ptr (.v c))] M)
theorem eH.go (c:Option Addr) (h:eH.T (aJ PP w0) c R M):C PP w0 Id.eH #[.pointer c] R M :=
  dB mixed (h:=eH.h) (T:=fun pr aB=>eH.T pr c R M) Tryz.func120 (c7 _ _) (by kernel_rfl) (fun pr aB=>by kernel_rfl) fun _ _=>h
noncomputable def gM.h:HC:=aH (bd Tryz.f121) [([true,true,true],[0,4,5,6])]
def gM.Is (R:VP):Prop:=pF PP pr aB gM.h Tryz.f121 R
abbrev gM.J1 (d_0:Option Addr) (t4:Addr) (h_5:Addr) (x_6:Addr) (M:Mem):Prop:=aB [true,true,true,true] [] [(0,.pointer d_0),(4,.pointer (some t4)),(5,.pointer (some h_5)),(6,.pointer (some x_6))] M
def gM.J1.T (d_0:Option Addr) (t4:Addr) (h_5:Addr) (x_6:Addr) (R:VP) (M:Mem):Prop:=aL pr aB R (bO PP gM.h (gR Tryz.f121) [true,true,true,true] [] [(0,.ptr (.v d_0)),(4,.ptr (.a (.v t4))),(5,.ptr (.a (.v h_5))),(6,.ptr (.a (.v x_6)))] M)
theorem gM.Is.J1 {pr:Prim} {aB:fC} (H:gM.Is pr aB R) (d_0:Option Addr) (t4:Addr) (h_5:Addr) (x_6:Addr) (M:Mem):gM.J1 aB d_0 t4 h_5 x_6 M = gM.J1.T pr aB d_0 t4 h_5 x_6 R M:=(H _ _ _ _ _ rfl).trans (by kernel_rfl)
def gM.T (d:Option Addr) (queue:Int) (R:VP) (M:Mem):Prop:=aL pr aB R (gX PP gM.h [] [] (gR Tryz.f121) [(0,.ptr (.v d)),(1,.int .i64 (.v queue))] M)
theorem gM.go (d:Option Addr) (queue:Int) (h:∀ aB,gM.Is (aJ PP w0) aB R→gM.T (aJ PP w0) aB d queue R M):C PP w0 Id.gM #[.pointer d,.int .i64 queue] R M :=
  dB mixed (h:=gM.h) (T:=fun pr aB=>gM.T pr aB d queue R M) Tryz.func121 (c7 _ _) (by kernel_rfl) (fun pr aB=>by kernel_rfl) h
noncomputable def mL.h:HC:=aH (bd Tryz.f122) []
def mL.T (d:Option Addr) (R:VP) (M:Mem):Prop:=aL pr (fun _ _ _ _=>False) R (gX PP mL.h [] [] (gR Tryz.f122) [(0,.ptr (.v d))] M)
theorem mL.go (d:Option Addr) (h:mL.T (aJ PP w0) d R M):C PP w0 Id.mL #[.pointer d] R M :=
  dB mixed (h:=mL.h) (T:=fun pr aB=>mL.T pr d R M) Tryz.func122 (c7 _ _) (by kernel_rfl) (fun pr aB=>by kernel_rfl) fun _ _=>h
noncomputable def eP.h:HC:=aH (bd Tryz.f123) [([true,true,false,true,false],[0,1,5,14,15,16])]
def eP.Is (R:VP):Prop:=pF PP pr aB eP.h Tryz.f123 R
abbrev eP.L1 (k:Nat) (t_0:Option Addr) (queue_1 n_5:Int) (t14:SV) (t15 t16:Int) (M:Mem):Prop:=aB [false,false,true,false,true,true] [k] [(0,.pointer t_0),(1,.int .i64 queue_1),(5,.int .i64 n_5),(14,SV.v t14),(15,.int .i64 t15),(16,.int .i64 t16)] M
def eP.L1.T (k:Nat) (t_0:Option Addr) (queue_1 n_5:Int) (t14:SV) (t15 t16:Int) (R:VP) (M:Mem):Prop:=aL pr aB R (bO PP eP.h (gR Tryz.f123) [false,false,true,false,true,true] [k] [(0,.ptr (.v t_0)),(1,.int .i64 (.v queue_1)),(5,.int .i64 (.v n_5)),(14,.sv t14),(15,.int .i64 (.v t15)),(16,.int .i64 (.v t16))] M)
theorem eP.Is.L1 {pr:Prim} {aB:fC} (H:eP.Is pr aB R) (k:Nat) (t_0:Option Addr) (queue_1 n_5:Int) (t14:SV) (t15 t16:Int) (M:Mem):eP.L1 aB (k + 1) t_0 queue_1 n_5 t14 t15 t16 M = eP.L1.T pr aB k t_0 queue_1 n_5 t14 t15 t16 R M:=(H _ _ _ _ _ rfl).trans (by kernel_rfl)
def eP.T (t:Option Addr) (queue:Int) (R:VP) (M:Mem):Prop:=aL pr aB R (gX PP eP.h [] [] (gR Tryz.f123) [(0,.ptr (.v t)),(1,.int .i64 (.v queue))] M)
theorem eP.go (t:Option Addr) (queue:Int) (h:∀ aB,eP.Is (aJ PP w0) aB R→eP.T (aJ PP w0) aB t queue R M):C PP w0 Id.eP #[.pointer t,.int .i64 queue] R M :=
  dB mixed (h:=eP.h) (T:=fun pr aB=>eP.T pr aB t queue R M) Tryz.func123 (c7 _ _) (by kernel_rfl) (fun pr aB=>by kernel_rfl) h
noncomputable def dC.h:HC:=aH (bd Tryz.f124) [([true,true,false,true,false],[0,1,5,6])]
def dC.Is (R:VP):Prop:=pF PP pr aB dC.h Tryz.f124 R
abbrev dC.L1 (k:Nat) (d_0:Option Addr) (queue_1 k_5 i_6:Int) (M:Mem):Prop:=aB [false,false,true,false,true,true] [k] [(0,.pointer d_0),(1,.int .i64 queue_1),(5,.int .i64 k_5),(6,.int .i64 i_6)] M
def dC.L1.T (k:Nat) (d_0:Option Addr) (queue_1 k_5 i_6:Int) (R:VP) (M:Mem):Prop:=aL pr aB R (bO PP dC.h (gR Tryz.f124) [false,false,true,false,true,true] [k] [(0,.ptr (.v d_0)),(1,.int .i64 (.v queue_1)),(5,.int .i64 (.v k_5)),(6,.int .i64 (.v i_6))] M)
theorem dC.Is.L1 {pr:Prim} {aB:fC} (H:dC.Is pr aB R) (k:Nat) (d_0:Option Addr) (queue_1 k_5 i_6:Int) (M:Mem):dC.L1 aB (k + 1) d_0 queue_1 k_5 i_6 M = dC.L1.T pr aB k d_0 queue_1 k_5 i_6 R M:=(H _ _ _ _ _ rfl).trans (by kernel_rfl)
def dC.T (d:Option Addr) (queue:Int) (R:VP) (M:Mem):Prop:=aL pr aB R (gX PP dC.h [] [] (gR Tryz.f124) [(0,.ptr (.v d)),(1,.int .i64 (.v queue))] M)
theorem dC.go (d:Option Addr) (queue:Int) (h:∀ aB,dC.Is (aJ PP w0) aB R→dC.T (aJ PP w0) aB d queue R M):C PP w0 Id.dC #[.pointer d,.int .i64 queue] R M :=
  dB mixed (h:=dC.h) (T:=fun pr aB=>dC.T pr aB d queue R M) Tryz.func124 (c7 _ _) (by kernel_rfl) (fun pr aB=>by kernel_rfl) h
noncomputable def dO.h:HC:=aH (bd Tryz.f125) [([true,true,false,true,false],[0,1,5,6])]
def dO.Is (R:VP):Prop:=pF PP pr aB dO.h Tryz.f125 R
abbrev dO.L1 (k:Nat) (d_0:Option Addr) (queue_1 n_5 i_6:Int) (M:Mem):Prop:=aB [false,false,true,false,true,true] [k] [(0,.pointer d_0),(1,.int .i64 queue_1),(5,.int .i64 n_5),(6,.int .i64 i_6)] M
def dO.L1.T (k:Nat) (d_0:Option Addr) (queue_1 n_5 i_6:Int) (R:VP) (M:Mem):Prop:=aL pr aB R (bO PP dO.h (gR Tryz.f125) [false,false,true,false,true,true] [k] [(0,.ptr (.v d_0)),(1,.int .i64 (.v queue_1)),(5,.int .i64 (.v n_5)),(6,.int .i64 (.v i_6))] M)
theorem dO.Is.L1 {pr:Prim} {aB:fC} (H:dO.Is pr aB R) (k:Nat) (d_0:Option Addr) (queue_1 n_5 i_6:Int) (M:Mem):dO.L1 aB (k + 1) d_0 queue_1 n_5 i_6 M = dO.L1.T pr aB k d_0 queue_1 n_5 i_6 R M:=(H _ _ _ _ _ rfl).trans (by kernel_rfl)
def dO.T (d:Option Addr) (queue:Int) (R:VP) (M:Mem):Prop:=aL pr aB R (gX PP dO.h [] [] (gR Tryz.f125) [(0,.ptr (.v d)),(1,.int .i64 (.v queue))] M)
theorem dO.go (d:Option Addr) (queue:Int) (h:∀ aB,dO.Is (aJ PP w0) aB R→dO.T (aJ PP w0) aB d queue R M):C PP w0 Id.dO #[.pointer d,.int .i64 queue] R M :=
  dB mixed (h:=dO.h) (T:=fun pr aB=>dO.T pr aB d queue R M) Tryz.func125 (c7 _ _) (by kernel_rfl) (fun pr aB=>by kernel_rfl) h
noncomputable def j6.h:HC:=aH (bd Tryz.f126) []
def j6.T (p:Option Addr) (R:VP) (M:Mem):Prop:=aL pr (fun _ _ _ _=>False) R (gX PP j6.h [] [] (gR Tryz.f126) [(0,.ptr (.v p))] M)
theorem j6.go (p:Option Addr) (h:j6.T (aJ PP w0) p R M):C PP w0 Id.j6 #[.pointer p] R M :=
  dB mixed (h:=j6.h) (T:=fun pr aB=>j6.T pr p R M) Tryz.func126 (c7 _ _) (by kernel_rfl) (fun pr aB=>by kernel_rfl) fun _ _=>h
noncomputable def dQ.h:HC:=aH (bd Tryz.f127) []
def dQ.T (places:Int) (R:VP) (M:Mem):Prop:=aL pr (fun _ _ _ _=>False) R (gX PP dQ.h [] [] (gR Tryz.f127) [(0,.int .i64 (.v places))] M)
theorem dQ.go (places:Int) (h:dQ.T (aJ PP w0) places R M):C PP w0 Id.dQ #[.int .i64 places] R M :=
  dB mixed (h:=dQ.h) (T:=fun pr aB=>dQ.T pr places R M) Tryz.func127 (c7 _ _) (by kernel_rfl) (fun pr aB=>by kernel_rfl) fun _ _=>h
noncomputable def dF.h:HC:=aH (bd Tryz.f128) [([true,true,false,true,false],[3,9,10,11])]
def dF.Is (R:VP):Prop:=pF PP pr aB dF.h Tryz.f128 R
abbrev dF.L1 (k:Nat) (out_3 t9:SV) (t10 t11:Int) (M:Mem):Prop:=aB [false,false,true,false,true,true] [k] [(3,SV.v out_3),(9,SV.v t9),(10,.int .i64 t10),(11,.int .i64 t11)] M
def dF.L1.T (k:Nat) (out_3 t9:SV) (t10 t11:Int) (R:VP) (M:Mem):Prop:=aL pr aB R (bO PP dF.h (gR Tryz.f128) [false,false,true,false,true,true] [k] [(3,.sv out_3),(9,.sv t9),(10,.int .i64 (.v t10)),(11,.int .i64 (.v t11))] M)
theorem dF.Is.L1 {pr:Prim} {aB:fC} (H:dF.Is pr aB R) (k:Nat) (out_3 t9:SV) (t10 t11:Int) (M:Mem):dF.L1 aB (k + 1) out_3 t9 t10 t11 M = dF.L1.T pr aB k out_3 t9 t10 t11 R M:=(H _ _ _ _ _ rfl).trans (by kernel_rfl)
def dF.T (p:Option Addr) (R:VP) (M:Mem):Prop:=aL pr aB R (gX PP dF.h [] [] (gR Tryz.f128) [(0,.ptr (.v p))] M)
theorem dF.go (p:Option Addr) (h:∀ aB,dF.Is (aJ PP w0) aB R→dF.T (aJ PP w0) aB p R M):C PP w0 Id.dF #[.pointer p] R M :=
  dB mixed (h:=dF.h) (T:=fun pr aB=>dF.T pr aB p R M) Tryz.func128 (c7 _ _) (by kernel_rfl) (fun pr aB=>by kernel_rfl) h
noncomputable def jS.h:HC:=aH (bd Tryz.f129) []
def jS.T (p:Option Addr) (r_0 r_1:Int) (R:VP) (M:Mem):Prop:=aL pr (fun _ _ _ _=>False) R (gX PP jS.h [] [] (gR Tryz.f129) [(0,.ptr (.v p)),(1,.agg [.int .i64 (.v r_0),.int .i64 (.v r_1)])] M)
theorem jS.go (p:Option Addr) (r_0 r_1:Int) (h:jS.T (aJ PP w0) p r_0 r_1 R M):C PP w0 Id.jS #[.pointer p,.agg #[.int .i64 r_0,.int .i64 r_1]] R M :=
  dB mixed (h:=jS.h) (T:=fun pr aB=>jS.T pr p r_0 r_1 R M) Tryz.func129 (c7 _ _) (by kernel_rfl) (fun pr aB=>by kernel_rfl) fun _ _=>h
noncomputable def fH.h:HC:=aH (bd Tryz.f132) []
def fH.T (a_0 a_1 b_0 b_1:Int) (R:VP) (M:Mem):Prop:=aL pr (fun _ _ _ _=>False) R (gX PP fH.h [] [] (gR Tryz.f132) [(0,.agg [.int .i64 (.v a_0),.int .i64 (.v a_1)]),(1,.agg [.int .i64 (.v b_0),.int .i64 (.v b_1)])] M)
theorem fH.go (a_0 a_1 b_0 b_1:Int) (h:fH.T (aJ PP w0) a_0 a_1 b_0 b_1 R M):C PP w0 Id.fH #[.agg #[.int .i64 a_0,.int .i64 a_1],.agg #[.int .i64 b_0,.int .i64 b_1]] R M :=
  dB mixed (h:=fH.h) (T:=fun pr aB=>fH.T pr a_0 a_1 b_0 b_1 R M) Tryz.func132 (c7 _ _) (by kernel_rfl) (fun pr aB=>by kernel_rfl) fun _ _=>h
noncomputable def iC.h:HC:=aH (bd Tryz.f133) []
def iC.T (a_0 a_1 b_0 b_1:Int) (R:VP) (M:Mem):Prop:=aL pr (fun _ _ _ _=>False) R (gX PP iC.h [] [] (gR Tryz.f133) [(0,.agg [.int .i64 (.v a_0),.int .i64 (.v a_1)]),(1,.agg [.int .i64 (.v b_0),.int .i64 (.v b_1)])] M)
theorem iC.go (a_0 a_1 b_0 b_1:Int) (h:iC.T (aJ PP w0) a_0 a_1 b_0 b_1 R M):C PP w0 Id.iC #[.agg #[.int .i64 a_0,.int .i64 a_1],.agg #[.int .i64 b_0,.int .i64 b_1]] R M :=
  dB mixed (h:=iC.h) (T:=fun pr aB=>iC.T pr a_0 a_1 b_0 b_1 R M) Tryz.func133 (c7 _ _) (by kernel_rfl) (fun pr aB=>by kernel_rfl) fun _ _=>h
noncomputable def gH.h:HC:=aH (bd Tryz.f134) [([true,true,true],[0,4])]
def gH.Is (R:VP):Prop:=pF PP pr aB gH.h Tryz.f134 R
abbrev gH.J1 (a_0:Option Addr) (c_4:Int) (M:Mem):Prop:=aB [true,true,true,true] [] [(0,.pointer a_0),(4,.int .i64 c_4)] M
def gH.J1.T (a_0:Option Addr) (c_4:Int) (R:VP) (M:Mem):Prop:=aL pr aB R (bO PP gH.h (gR Tryz.f134) [true,true,true,true] [] [(0,.ptr (.v a_0)),(4,.int .i64 (.v c_4))] M)
theorem gH.Is.J1 {pr:Prim} {aB:fC} (H:gH.Is pr aB R) (a_0:Option Addr) (c_4:Int) (M:Mem):gH.J1 aB a_0 c_4 M = gH.J1.T pr aB a_0 c_4 R M:=(H _ _ _ _ _ rfl).trans (by kernel_rfl)
def gH.T (a:Option Addr) (R:VP) (M:Mem):Prop:=aL pr aB R (gX PP gH.h [] [] (gR Tryz.f134) [(0,.ptr (.v a))] M)
theorem gH.go (a:Option Addr) (h:∀ aB,gH.Is (aJ PP w0) aB R→gH.T (aJ PP w0) aB a R M):C PP w0 Id.gH #[.pointer a] R M :=
  dB mixed (h:=gH.h) (T:=fun pr aB=>gH.T pr aB a R M) Tryz.func134 (c7 _ _) (by kernel_rfl) (fun pr aB=>by kernel_rfl) h
noncomputable def pH.h:HC:=aH (bd Tryz.f135) []
def pH.T (a:Option Addr) (c field v:Int) (R:VP) (M:Mem):Prop:=aL pr (fun _ _ _ _=>False) R (gX PP pH.h [] [] (gR Tryz.f135) [(0,.ptr (.v a)),(1,.int .i64 (.v c)),(2,.int .i64 (.v field)),(3,.int .i64 (.v v))] M)
theorem pH.go (a:Option Addr) (c field v:Int) (h:pH.T (aJ PP w0) a c field v R M):C PP w0 Id.pH #[.pointer a,.int .i64 c,.int .i64 field,.int .i64 v] R M :=
  dB mixed (h:=pH.h) (T:=fun pr aB=>pH.T pr a c field v R M) Tryz.func135 (c7 _ _) (by kernel_rfl) (fun pr aB=>by kernel_rfl) fun _ _=>h
noncomputable def pB.h:HC:=aH (bd Tryz.f136) []
def pB.T (a:Option Addr) (r i:Int) (R:VP) (M:Mem):Prop:=aL pr (fun _ _ _ _=>False) R (gX PP pB.h [] [] (gR Tryz.f136) [(0,.ptr (.v a)),(1,.int .i64 (.v r)),(2,.int .i64 (.v i))] M)
theorem pB.go (a:Option Addr) (r i:Int) (h:pB.T (aJ PP w0) a r i R M):C PP w0 Id.pB #[.pointer a,.int .i64 r,.int .i64 i] R M :=
  dB mixed (h:=pB.h) (T:=fun pr aB=>pB.T pr a r i R M) Tryz.func136 (c7 _ _) (by kernel_rfl) (fun pr aB=>by kernel_rfl) fun _ _=>h
noncomputable def oK.h:HC:=aH (bd Tryz.f137) []
def oK.T (a:Option Addr) (r i:Int) (R:VP) (M:Mem):Prop:=aL pr (fun _ _ _ _=>False) R (gX PP oK.h [] [] (gR Tryz.f137) [(0,.ptr (.v a)),(1,.int .i64 (.v r)),(2,.int .i64 (.v i))] M)
theorem oK.go (a:Option Addr) (r i:Int) (h:oK.T (aJ PP w0) a r i R M):C PP w0 Id.oK #[.pointer a,.int .i64 r,.int .i64 i] R M :=
  dB mixed (h:=oK.h) (T:=fun pr aB=>oK.T pr a r i R M) Tryz.func137 (c7 _ _) (by kernel_rfl) (fun pr aB=>by kernel_rfl) fun _ _=>h
noncomputable def kZ.h:HC:=aH (bd Tryz.f138) []
def kZ.T (a:Option Addr) (r i:Int) (R:VP) (M:Mem):Prop:=aL pr (fun _ _ _ _=>False) R (gX PP kZ.h [] [] (gR Tryz.f138) [(0,.ptr (.v a)),(1,.int .i64 (.v r)),(2,.int .i64 (.v i))] M)
theorem kZ.go (a:Option Addr) (r i:Int) (h:kZ.T (aJ PP w0) a r i R M):C PP w0 Id.kZ #[.pointer a,.int .i64 r,.int .i64 i] R M :=
  dB mixed (h:=kZ.h) (T:=fun pr aB=>kZ.T pr a r i R M) Tryz.func138 (c7 _ _) (by kernel_rfl) (fun pr aB=>by kernel_rfl) fun _ _=>h
noncomputable def gI.h:HC:=aH (bd Tryz.f141) []
def gI.T (p:Option Addr) (R:VP) (M:Mem):Prop:=aL pr (fun _ _ _ _=>False) R (gX PP gI.h [] [] (gR Tryz.f141) [(0,.ptr (.v p))] M)
theorem gI.go (p:Option Addr) (h:gI.T (aJ PP w0) p R M):C PP w0 Id.gI #[.pointer p] R M :=
  dB mixed (h:=gI.h) (T:=fun pr aB=>gI.T pr p R M) Tryz.func141 (c7 _ _) (by kernel_rfl) (fun pr aB=>by kernel_rfl) fun _ _=>h
noncomputable def cT.h:HC:=aH (bd Tryz.f142) [([true,true],[0,3,4,6])]
def cT.Is (R:VP):Prop:=pF PP pr aB cT.h Tryz.f142 R
abbrev cT.J1 (p_0:Option Addr) (v_3:Addr) (t4:Addr) (at_6:Int) (M:Mem):Prop:=aB [true,true,true] [] [(0,.pointer p_0),(3,.pointer (some v_3)),(4,.pointer (some t4)),(6,.int .i64 at_6)] M
def cT.J1.T (p_0:Option Addr) (v_3:Addr) (t4:Addr) (at_6:Int) (R:VP) (M:Mem):Prop:=aL pr aB R (bO PP cT.h (gR Tryz.f142) [true,true,true] [] [(0,.ptr (.v p_0)),(3,.ptr (.a (.v v_3))),(4,.ptr (.a (.v t4))),(6,.int .i64 (.v at_6))] M)
theorem cT.Is.J1 {pr:Prim} {aB:fC} (H:cT.Is pr aB R) (p_0:Option Addr) (v_3:Addr) (t4:Addr) (at_6:Int) (M:Mem):cT.J1 aB p_0 v_3 t4 at_6 M = cT.J1.T pr aB p_0 v_3 t4 at_6 R M:=(H _ _ _ _ _ rfl).trans (by kernel_rfl)
def cT.T (p:Option Addr) (v_0 v_1 v_2:Int) (R:VP) (M:Mem):Prop:=aL pr aB R (gX PP cT.h [] [] (gR Tryz.f142) [(0,.ptr (.v p)),(1,.agg [.int .i64 (.v v_0),.int .i64 (.v v_1),.int .i64 (.v v_2)])] M)
theorem cT.go (p:Option Addr) (v_0 v_1 v_2:Int) (h:∀ aB,cT.Is (aJ PP w0) aB R→cT.T (aJ PP w0) aB p v_0 v_1 v_2 R M):C PP w0 Id.cT #[.pointer p,.agg #[.int .i64 v_0,.int .i64 v_1,.int .i64 v_2]] R M :=
  dB mixed (h:=cT.h) (T:=fun pr aB=>cT.T pr aB p v_0 v_1 v_2 R M) Tryz.func142 (c7 _ _) (by kernel_rfl) (fun pr aB=>by kernel_rfl) h
noncomputable def kD.h:HC:=aH (bd Tryz.f143) []
def kD.T (p:Option Addr) (r_0 r_1 v_0 v_1 v_2:Int) (R:VP) (M:Mem):Prop:=aL pr (fun _ _ _ _=>False) R (gX PP kD.h [] [] (gR Tryz.f143) [(0,.ptr (.v p)),(1,.agg [.int .i64 (.v r_0),.int .i64 (.v r_1)]),(2,.agg [.int .i64 (.v v_0),.int .i64 (.v v_1),.int .i64 (.v v_2)])] M)
theorem kD.go (p:Option Addr) (r_0 r_1 v_0 v_1 v_2:Int) (h:kD.T (aJ PP w0) p r_0 r_1 v_0 v_1 v_2 R M):C PP w0 Id.kD #[.pointer p,.agg #[.int .i64 r_0,.int .i64 r_1],.agg #[.int .i64 v_0,.int .i64 v_1,.int .i64 v_2]] R M :=
  dB mixed (h:=kD.h) (T:=fun pr aB=>kD.T pr p r_0 r_1 v_0 v_1 v_2 R M) Tryz.func143 (c7 _ _) (by kernel_rfl) (fun pr aB=>by kernel_rfl) fun _ _=>h
noncomputable def qR.h:HC:=aH (bd Tryz.f144) []
def qR.T (a:Option Addr) (r:Int) (R:VP) (M:Mem):Prop:=aL pr (fun _ _ _ _=>False) R (gX PP qR.h [] [] (gR Tryz.f144) [(0,.ptr (.v a)),(1,.int .i64 (.v r))] M)
theorem qR.go (a:Option Addr) (r:Int) (h:qR.T (aJ PP w0) a r R M):C PP w0 Id.qR #[.pointer a,.int .i64 r] R M :=
  dB mixed (h:=qR.h) (T:=fun pr aB=>qR.T pr a r R M) Tryz.func144 (c7 _ _) (by kernel_rfl) (fun pr aB=>by kernel_rfl) fun _ _=>h
noncomputable def qX.h:HC:=aH (bd Tryz.f145) []
def qX.T (a:Option Addr) (r:Int) (R:VP) (M:Mem):Prop:=aL pr (fun _ _ _ _=>False) R (gX PP qX.h [] [] (gR Tryz.f145) [(0,.ptr (.v a)),(1,.int .i64 (.v r))] M)
theorem qX.go (a:Option Addr) (r:Int) (h:qX.T (aJ PP w0) a r R M):C PP w0 Id.qX #[.pointer a,.int .i64 r] R M :=
  dB mixed (h:=qX.h) (T:=fun pr aB=>qX.T pr a r R M) Tryz.func145 (c7 _ _) (by kernel_rfl) (fun pr aB=>by kernel_rfl) fun _ _=>h
noncomputable def mP.h:HC:=aH (bd Tryz.f146) []
def mP.T (a:Option Addr) (r:Int) (R:VP) (M:Mem):Prop:=aL pr (fun _ _ _ _=>False) R (gX PP mP.h [] [] (gR Tryz.f146) [(0,.ptr (.v a)),(1,.int .i64 (.v r))] M)
theorem mP.go (a:Option Addr) (r:Int) (h:mP.T (aJ PP w0) a r R M):C PP w0 Id.mP #[.pointer a,.int .i64 r] R M :=
  dB mixed (h:=mP.h) (T:=fun pr aB=>mP.T pr a r R M) Tryz.func146 (c7 _ _) (by kernel_rfl) (fun pr aB=>by kernel_rfl) fun _ _=>h
noncomputable def iD.h:HC:=aH (bd Tryz.f149) [([true],[0,1])]
def iD.Is (R:VP):Prop:=pF PP pr aB iD.h Tryz.f149 R
abbrev iD.J1 (a_0:Option Addr) (r_1:Int) (M:Mem):Prop:=aB [true,true] [] [(0,.pointer a_0),(1,.int .i64 r_1)] M
def iD.J1.T (a_0:Option Addr) (r_1:Int) (R:VP) (M:Mem):Prop:=aL pr aB R (bO PP iD.h (gR Tryz.f149) [true,true] [] [(0,.ptr (.v a_0)),(1,.int .i64 (.v r_1))] M)
theorem iD.Is.J1 {pr:Prim} {aB:fC} (H:iD.Is pr aB R) (a_0:Option Addr) (r_1:Int) (M:Mem):iD.J1 aB a_0 r_1 M = iD.J1.T pr aB a_0 r_1 R M:=(H _ _ _ _ _ rfl).trans (by kernel_rfl)
def iD.T (a:Option Addr) (r:Int) (R:VP) (M:Mem):Prop:=aL pr aB R (gX PP iD.h [] [] (gR Tryz.f149) [(0,.ptr (.v a)),(1,.int .i64 (.v r))] M)
theorem iD.go (a:Option Addr) (r:Int) (h:∀ aB,iD.Is (aJ PP w0) aB R→iD.T (aJ PP w0) aB a r R M):C PP w0 Id.iD #[.pointer a,.int .i64 r] R M :=
  dB mixed (h:=iD.h) (T:=fun pr aB=>iD.T pr aB a r R M) Tryz.func149 (c7 _ _) (by kernel_rfl) (fun pr aB=>by kernel_rfl) h
noncomputable def jO.h:HC:=aH (bd Tryz.f150) [([true],[0,1])]
def jO.Is (R:VP):Prop:=pF PP pr aB jO.h Tryz.f150 R
abbrev jO.J1 (a_0:Option Addr) (r_1:Int) (M:Mem):Prop:=aB [true,true] [] [(0,.pointer a_0),(1,.int .i64 r_1)] M
def jO.J1.T (a_0:Option Addr) (r_1:Int) (R:VP) (M:Mem):Prop:=aL pr aB R (bO PP jO.h (gR Tryz.f150) [true,true] [] [(0,.ptr (.v a_0)),(1,.int .i64 (.v r_1))] M)
theorem jO.Is.J1 {pr:Prim} {aB:fC} (H:jO.Is pr aB R) (a_0:Option Addr) (r_1:Int) (M:Mem):jO.J1 aB a_0 r_1 M = jO.J1.T pr aB a_0 r_1 R M:=(H _ _ _ _ _ rfl).trans (by kernel_rfl)
def jO.T (a:Option Addr) (r:Int) (R:VP) (M:Mem):Prop:=aL pr aB R (gX PP jO.h [] [] (gR Tryz.f150) [(0,.ptr (.v a)),(1,.int .i64 (.v r))] M)
theorem jO.go (a:Option Addr) (r:Int) (h:∀ aB,jO.Is (aJ PP w0) aB R→jO.T (aJ PP w0) aB a r R M):C PP w0 Id.jO #[.pointer a,.int .i64 r] R M :=
  dB mixed (h:=jO.h) (T:=fun pr aB=>jO.T pr aB a r R M) Tryz.func150 (c7 _ _) (by kernel_rfl) (fun pr aB=>by kernel_rfl) h
noncomputable def eY.h:HC:=aH (bd Tryz.f151) [([true],[0,1])]
def eY.Is (R:VP):Prop:=pF PP pr aB eY.h Tryz.f151 R
abbrev eY.J1 (a_0:Option Addr) (r_1:Int) (M:Mem):Prop:=aB [true,true] [] [(0,.pointer a_0),(1,.int .i64 r_1)] M
def eY.J1.T (a_0:Option Addr) (r_1:Int) (R:VP) (M:Mem):Prop:=aL pr aB R (bO PP eY.h (gR Tryz.f151) [true,true] [] [(0,.ptr (.v a_0)),(1,.int .i64 (.v r_1))] M)
theorem eY.Is.J1 {pr:Prim} {aB:fC} (H:eY.Is pr aB R) (a_0:Option Addr) (r_1:Int) (M:Mem):eY.J1 aB a_0 r_1 M = eY.J1.T pr aB a_0 r_1 R M:=(H _ _ _ _ _ rfl).trans (by kernel_rfl)
def eY.T (a:Option Addr) (r:Int) (R:VP) (M:Mem):Prop:=aL pr aB R (gX PP eY.h [] [] (gR Tryz.f151) [(0,.ptr (.v a)),(1,.int .i64 (.v r))] M)
theorem eY.go (a:Option Addr) (r:Int) (h:∀ aB,eY.Is (aJ PP w0) aB R→eY.T (aJ PP w0) aB a r R M):C PP w0 Id.eY #[.pointer a,.int .i64 r] R M :=
  dB mixed (h:=eY.h) (T:=fun pr aB=>eY.T pr aB a r R M) Tryz.func151 (c7 _ _) (by kernel_rfl) (fun pr aB=>by kernel_rfl) h
noncomputable def oZ.h:HC:=aH (bd Tryz.f154) []
def oZ.T (t:Option Addr) (i_0 i_1:Int) (R:VP) (M:Mem):Prop:=aL pr (fun _ _ _ _=>False) R (gX PP oZ.h [] [] (gR Tryz.f154) [(0,.ptr (.v t)),(1,.agg [.int .i64 (.v i_0),.int .i64 (.v i_1)])] M)
theorem oZ.go (t:Option Addr) (i_0 i_1:Int) (h:oZ.T (aJ PP w0) t i_0 i_1 R M):C PP w0 Id.oZ #[.pointer t,.agg #[.int .i64 i_0,.int .i64 i_1]] R M :=
  dB mixed (h:=oZ.h) (T:=fun pr aB=>oZ.T pr t i_0 i_1 R M) Tryz.func154 (c7 _ _) (by kernel_rfl) (fun pr aB=>by kernel_rfl) fun _ _=>h
noncomputable def nZ.h:HC:=aH (bd Tryz.f155) []
def nZ.T (a:Option Addr) (c:Int) (R:VP) (M:Mem):Prop:=aL pr (fun _ _ _ _=>False) R (gX PP nZ.h [] [] (gR Tryz.f155) [(0,.ptr (.v a)),(1,.int .i64 (.v c))] M)
theorem nZ.go (a:Option Addr) (c:Int) (h:nZ.T (aJ PP w0) a c R M):C PP w0 Id.nZ #[.pointer a,.int .i64 c] R M :=
  dB mixed (h:=nZ.h) (T:=fun pr aB=>nZ.T pr a c R M) Tryz.func155 (c7 _ _) (by kernel_rfl) (fun pr aB=>by kernel_rfl) fun _ _=>h
noncomputable def jP.h:HC:=aH (bd Tryz.f156) []
def jP.T (p:Option Addr) (r_0 r_1:Int) (R:VP) (M:Mem):Prop:=aL pr (fun _ _ _ _=>False) R (gX PP jP.h [] [] (gR Tryz.f156) [(0,.ptr (.v p)),(1,.agg [.int .i64 (.v r_0),.int .i64 (.v r_1)])] M)
theorem jP.go (p:Option Addr) (r_0 r_1:Int) (h:jP.T (aJ PP w0) p r_0 r_1 R M):C PP w0 Id.jP #[.pointer p,.agg #[.int .i64 r_0,.int .i64 r_1]] R M :=
  dB mixed (h:=jP.h) (T:=fun pr aB=>jP.T pr p r_0 r_1 R M) Tryz.func156 (c7 _ _) (by kernel_rfl) (fun pr aB=>by kernel_rfl) fun _ _=>h
noncomputable def qQ.h:HC:=aH (bd Tryz.f157) []
def qQ.T (a:Option Addr) (c field:Int) (R:VP) (M:Mem):Prop:=aL pr (fun _ _ _ _=>False) R (gX PP qQ.h [] [] (gR Tryz.f157) [(0,.ptr (.v a)),(1,.int .i64 (.v c)),(2,.int .i64 (.v field))] M)
theorem qQ.go (a:Option Addr) (c field:Int) (h:qQ.T (aJ PP w0) a c field R M):C PP w0 Id.qQ #[.pointer a,.int .i64 c,.int .i64 field] R M :=
  dB mixed (h:=qQ.h) (T:=fun pr aB=>qQ.T pr a c field R M) Tryz.func157 (c7 _ _) (by kernel_rfl) (fun pr aB=>by kernel_rfl) fun _ _=>h
noncomputable def gO.h:HC:=aH (bd Tryz.f158) [([true,true,true],[0,1,7])]
def gO.Is (R:VP):Prop:=pF PP pr aB gO.h Tryz.f158 R
abbrev gO.J1 (a_0:Option Addr) (r_1 n_7:Int) (M:Mem):Prop:=aB [true,true,true,true] [] [(0,.pointer a_0),(1,.int .i64 r_1),(7,.int .i64 n_7)] M
def gO.J1.T (a_0:Option Addr) (r_1 n_7:Int) (R:VP) (M:Mem):Prop:=aL pr aB R (bO PP gO.h (gR Tryz.f158) [true,true,true,true] [] [(0,.ptr (.v a_0)),(1,.int .i64 (.v r_1)),(7,.int .i64 (.v n_7))] M)
theorem gO.Is.J1 {pr:Prim} {aB:fC} (H:gO.Is pr aB R) (a_0:Option Addr) (r_1 n_7:Int) (M:Mem):gO.J1 aB a_0 r_1 n_7 M = gO.J1.T pr aB a_0 r_1 n_7 R M:=(H _ _ _ _ _ rfl).trans (by kernel_rfl)
def gO.T (a:Option Addr) (r i:Int) (R:VP) (M:Mem):Prop:=aL pr aB R (gX PP gO.h [] [] (gR Tryz.f158) [(0,.ptr (.v a)),(1,.int .i64 (.v r)),(2,.int .i64 (.v i))] M)
theorem gO.go (a:Option Addr) (r i:Int) (h:∀ aB,gO.Is (aJ PP w0) aB R→gO.T (aJ PP w0) aB a r i R M):C PP w0 Id.gO #[.pointer a,.int .i64 r,.int .i64 i] R M :=
  dB mixed (h:=gO.h) (T:=fun pr aB=>gO.T pr aB a r i R M) Tryz.func158 (c7 _ _) (by kernel_rfl) (fun pr aB=>by kernel_rfl) h
noncomputable def nT.h:HC:=aH (bd Tryz.f159) []
def nT.T (a:Option Addr) (r i:Int) (R:VP) (M:Mem):Prop:=aL pr (fun _ _ _ _=>False) R (gX PP nT.h [] [] (gR Tryz.f159) [(0,.ptr (.v a)),(1,.int .i64 (.v r)),(2,.int .i64 (.v i))] M)
theorem nT.go (a:Option Addr) (r i:Int) (h:nT.T (aJ PP w0) a r i R M):C PP w0 Id.nT #[.pointer a,.int .i64 r,.int .i64 i] R M :=
  dB mixed (h:=nT.h) (T:=fun pr aB=>nT.T pr a r i R M) Tryz.func159 (c7 _ _) (by kernel_rfl) (fun pr aB=>by kernel_rfl) fun _ _=>h
noncomputable def kN.h:HC:=aH (bd Tryz.f160) []
def kN.T (a:Option Addr) (r i:Int) (R:VP) (M:Mem):Prop:=aL pr (fun _ _ _ _=>False) R (gX PP kN.h [] [] (gR Tryz.f160) [(0,.ptr (.v a)),(1,.int .i64 (.v r)),(2,.int .i64 (.v i))] M)
theorem kN.go (a:Option Addr) (r i:Int) (h:kN.T (aJ PP w0) a r i R M):C PP w0 Id.kN #[.pointer a,.int .i64 r,.int .i64 i] R M :=
  dB mixed (h:=kN.h) (T:=fun pr aB=>kN.T pr a r i R M) Tryz.func160 (c7 _ _) (by kernel_rfl) (fun pr aB=>by kernel_rfl) fun _ _=>h
noncomputable def jM.h:HC:=aH (bd Tryz.f163) [([true,true,true,true],[0,1,7])]
def jM.Is (R:VP):Prop:=pF PP pr aB jM.h Tryz.f163 R
abbrev jM.J1 (a_0:Option Addr) (r_1 n_7:Int) (M:Mem):Prop:=aB [true,true,true,true,true] [] [(0,.pointer a_0),(1,.int .i64 r_1),(7,.int .i64 n_7)] M
def jM.J1.T (a_0:Option Addr) (r_1 n_7:Int) (R:VP) (M:Mem):Prop:=aL pr aB R (bO PP jM.h (gR Tryz.f163) [true,true,true,true,true] [] [(0,.ptr (.v a_0)),(1,.int .i64 (.v r_1)),(7,.int .i64 (.v n_7))] M)
theorem jM.Is.J1 {pr:Prim} {aB:fC} (H:jM.Is pr aB R) (a_0:Option Addr) (r_1 n_7:Int) (M:Mem):jM.J1 aB a_0 r_1 n_7 M = jM.J1.T pr aB a_0 r_1 n_7 R M:=(H _ _ _ _ _ rfl).trans (by kernel_rfl)
def jM.T (a:Option Addr) (r i:Int) (R:VP) (M:Mem):Prop:=aL pr aB R (gX PP jM.h [] [] (gR Tryz.f163) [(0,.ptr (.v a)),(1,.int .i64 (.v r)),(2,.int .i64 (.v i))] M)
theorem jM.go (a:Option Addr) (r i:Int) (h:∀ aB,jM.Is (aJ PP w0) aB R→jM.T (aJ PP w0) aB a r i R M):C PP w0 Id.jM #[.pointer a,.int .i64 r,.int .i64 i] R M :=
  dB mixed (h:=jM.h) (T:=fun pr aB=>jM.T pr aB a r i R M) Tryz.func163 (c7 _ _) (by kernel_rfl) (fun pr aB=>by kernel_rfl) h
noncomputable def qT.h:HC:=aH (bd Tryz.f164) []
def qT.T (a:Option Addr) (r i:Int) (R:VP) (M:Mem):Prop:=aL pr (fun _ _ _ _=>False) R (gX PP qT.h [] [] (gR Tryz.f164) [(0,.ptr (.v a)),(1,.int .i64 (.v r)),(2,.int .i64 (.v i))] M)
theorem qT.go (a:Option Addr) (r i:Int) (h:qT.T (aJ PP w0) a r i R M):C PP w0 Id.qT #[.pointer a,.int .i64 r,.int .i64 i] R M :=
  dB mixed (h:=qT.h) (T:=fun pr aB=>qT.T pr a r i R M) Tryz.func164 (c7 _ _) (by kernel_rfl) (fun pr aB=>by kernel_rfl) fun _ _=>h
noncomputable def mG.h:HC:=aH (bd Tryz.f165) []
def mG.T (a:Option Addr) (r i:Int) (R:VP) (M:Mem):Prop:=aL pr (fun _ _ _ _=>False) R (gX PP mG.h [] [] (gR Tryz.f165) [(0,.ptr (.v a)),(1,.int .i64 (.v r)),(2,.int .i64 (.v i))] M)
theorem mG.go (a:Option Addr) (r i:Int) (h:mG.T (aJ PP w0) a r i R M):C PP w0 Id.mG #[.pointer a,.int .i64 r,.int .i64 i] R M :=
  dB mixed (h:=mG.h) (T:=fun pr aB=>mG.T pr a r i R M) Tryz.func165 (c7 _ _) (by kernel_rfl) (fun pr aB=>by kernel_rfl) fun _ _=>h
end
end HL
namespace HL
section
variable (pr:Prim) (aB:fC) (w0:World) {R:VP} {M:Mem}
noncomputable def kK.h:HC:=aH (bd Tryz.f168) []
def kK.T (p:Option Addr) (r_0 r_1 v_0 v_1 v_2:Int) (R:VP) (M:Mem):Prop:=aL pr (fun _ _ _ _=>False) R (gX PP kK.h [] [] (gR Tryz.f168) [(0,.ptr (.v p)),(1,.agg [.int .i64 (.v r_0),.int .i64 (.v r_1)]),(2,.agg [.int .i64 (.v v_0),.int .i64 (.v v_1),.int .i64 (.v v_2)])] M)
theorem kK.go (p:Option Addr) (r_0 r_1 v_0 v_1 v_2:Int) (h:kK.T (aJ PP w0) p r_0 r_1 v_0 v_1 v_2 R M):C PP w0 Id.kK #[.pointer p,.agg #[.int .i64 r_0,.int .i64 r_1],.agg #[.int .i64 v_0,.int .i64 v_1,.int .i64 v_2]] R M :=
  dB mixed (h:=kK.h) (T:=fun pr aB=>kK.T pr p r_0 r_1 v_0 v_1 v_2 R M) Tryz.func168 (c7 _ _) (by kernel_rfl) (fun pr aB=>by kernel_rfl) fun _ _=>h
noncomputable def iP.h:HC:=aH (bd Tryz.f169) []
def iP.T (p:Option Addr) (r_0 r_1:Int) (R:VP) (M:Mem):Prop:=aL pr (fun _ _ _ _=>False) R (gX PP iP.h [] [] (gR Tryz.f169) [(0,.ptr (.v p)),(1,.agg [.int .i64 (.v r_0),.int .i64 (.v r_1)])] M)
theorem iP.go (p:Option Addr) (r_0 r_1:Int) (h:iP.T (aJ PP w0) p r_0 r_1 R M):C PP w0 Id.iP #[.pointer p,.agg #[.int .i64 r_0,.int .i64 r_1]] R M :=
  dB mixed (h:=iP.h) (T:=fun pr aB=>iP.T pr p r_0 r_1 R M) Tryz.func169 (c7 _ _) (by kernel_rfl) (fun pr aB=>by kernel_rfl) fun _ _=>h
noncomputable def oE.h:HC:=aH (bd Tryz.f170) []
def oE.T (a:Option Addr) (r s:Int) (R:VP) (M:Mem):Prop:=aL pr (fun _ _ _ _=>False) R (gX PP oE.h [] [] (gR Tryz.f170) [(0,.ptr (.v a)),(1,.int .i64 (.v r)),(2,.int .i64 (.v s))] M)
theorem oE.go (a:Option Addr) (r s:Int) (h:oE.T (aJ PP w0) a r s R M):C PP w0 Id.oE #[.pointer a,.int .i64 r,.int .i64 s] R M :=
  dB mixed (h:=oE.h) (T:=fun pr aB=>oE.T pr a r s R M) Tryz.func170 (c7 _ _) (by kernel_rfl) (fun pr aB=>by kernel_rfl) fun _ _=>h
noncomputable def oU.h:HC:=aH (bd Tryz.f171) []
def oU.T (a:Option Addr) (r s:Int) (R:VP) (M:Mem):Prop:=aL pr (fun _ _ _ _=>False) R (gX PP oU.h [] [] (gR Tryz.f171) [(0,.ptr (.v a)),(1,.int .i64 (.v r)),(2,.int .i64 (.v s))] M)
theorem oU.go (a:Option Addr) (r s:Int) (h:oU.T (aJ PP w0) a r s R M):C PP w0 Id.oU #[.pointer a,.int .i64 r,.int .i64 s] R M :=
  dB mixed (h:=oU.h) (T:=fun pr aB=>oU.T pr a r s R M) Tryz.func171 (c7 _ _) (by kernel_rfl) (fun pr aB=>by kernel_rfl) fun _ _=>h
noncomputable def kB.h:HC:=aH (bd Tryz.f172) []
def kB.T (a:Option Addr) (r s:Int) (R:VP) (M:Mem):Prop:=aL pr (fun _ _ _ _=>False) R (gX PP kB.h [] [] (gR Tryz.f172) [(0,.ptr (.v a)),(1,.int .i64 (.v r)),(2,.int .i64 (.v s))] M)
theorem kB.go (a:Option Addr) (r s:Int) (h:kB.T (aJ PP w0) a r s R M):C PP w0 Id.kB #[.pointer a,.int .i64 r,.int .i64 s] R M :=
  dB mixed (h:=kB.h) (T:=fun pr aB=>kB.T pr a r s R M) Tryz.func172 (c7 _ _) (by kernel_rfl) (fun pr aB=>by kernel_rfl) fun _ _=>h
noncomputable def c9.h:HC:=aH (bd Tryz.f175) [([true],[0,3])]
def c9.Is (R:VP):Prop:=pF PP pr aB c9.h Tryz.f175 R
abbrev c9.J1 (p_0:Option Addr) (r_3:Addr) (M:Mem):Prop:=aB [true,true] [] [(0,.pointer p_0),(3,.pointer (some r_3))] M
def c9.J1.T (p_0:Option Addr) (r_3:Addr) (R:VP) (M:Mem):Prop:=aL pr aB R (bO PP c9.h (gR Tryz.f175) [true,true] [] [(0,.ptr (.v p_0)),(3,.ptr (.a (.v r_3)))] M)
theorem c9.Is.J1 {pr:Prim} {aB:fC} (H:c9.Is pr aB R) (p_0:Option Addr) (r_3:Addr) (M:Mem):c9.J1 aB p_0 r_3 M = c9.J1.T pr aB p_0 r_3 R M:=(H _ _ _ _ _ rfl).trans (by kernel_rfl)
def c9.T (p:Option Addr) (r_0 r_1:Int) (R:VP) (M:Mem):Prop:=aL pr aB R (gX PP c9.h [] [] (gR Tryz.f175) [(0,.ptr (.v p)),(1,.agg [.int .i64 (.v r_0),.int .i64 (.v r_1)])] M)
theorem c9.go (p:Option Addr) (r_0 r_1:Int) (h:∀ aB,c9.Is (aJ PP w0) aB R→c9.T (aJ PP w0) aB p r_0 r_1 R M):C PP w0 Id.c9 #[.pointer p,.agg #[.int .i64 r_0,.int .i64 r_1]] R M :=
  dB mixed (h:=c9.h) (T:=fun pr aB=>c9.T pr aB p r_0 r_1 R M) Tryz.func175 (c7 _ _) (by kernel_rfl) (fun pr aB=>by kernel_rfl) h
noncomputable def dG.h:HC:=aH (bd Tryz.f181) [([true,true,false,true,false],[3,9,10,11])]
def dG.Is (R:VP):Prop:=pF PP pr aB dG.h Tryz.f181 R
abbrev dG.L1 (k:Nat) (out_3 t9:SV) (t10 t11:Int) (M:Mem):Prop:=aB [false,false,true,false,true,true] [k] [(3,SV.v out_3),(9,SV.v t9),(10,.int .i64 t10),(11,.int .i64 t11)] M
def dG.L1.T (k:Nat) (out_3 t9:SV) (t10 t11:Int) (R:VP) (M:Mem):Prop:=aL pr aB R (bO PP dG.h (gR Tryz.f181) [false,false,true,false,true,true] [k] [(3,.sv out_3),(9,.sv t9),(10,.int .i64 (.v t10)),(11,.int .i64 (.v t11))] M)
theorem dG.Is.L1 {pr:Prim} {aB:fC} (H:dG.Is pr aB R) (k:Nat) (out_3 t9:SV) (t10 t11:Int) (M:Mem):dG.L1 aB (k + 1) out_3 t9 t10 t11 M = dG.L1.T pr aB k out_3 t9 t10 t11 R M:=(H _ _ _ _ _ rfl).trans (by kernel_rfl)
def dG.T (p:Option Addr) (R:VP) (M:Mem):Prop:=aL pr aB R (gX PP dG.h [] [] (gR Tryz.f181) [(0,.ptr (.v p))] M)
theorem dG.go (p:Option Addr) (h:∀ aB,dG.Is (aJ PP w0) aB R→dG.T (aJ PP w0) aB p R M):C PP w0 Id.dG #[.pointer p] R M :=
  dB mixed (h:=dG.h) (T:=fun pr aB=>dG.T pr aB p R M) Tryz.func181 (c7 _ _) (by kernel_rfl) (fun pr aB=>by kernel_rfl) h
noncomputable def iY.h:HC:=aH (bd Tryz.f183) []
def iY.T (n:Int) (R:VP) (M:Mem):Prop:=aL pr (fun _ _ _ _=>False) R (gX PP iY.h [] [] (gR Tryz.f183) [(0,.int .i64 (.v n))] M)
theorem iY.go (n:Int) (h:iY.T (aJ PP w0) n R M):C PP w0 Id.iY #[.int .i64 n] R M :=
  dB mixed (h:=iY.h) (T:=fun pr aB=>iY.T pr n R M) Tryz.func183 (c7 _ _) (by kernel_rfl) (fun pr aB=>by kernel_rfl) fun _ _=>h
noncomputable def qY.h:HC:=aH (bd Tryz.f184) []
def qY.T (t:Option Addr) (j_0 j_1 j_2 j_3 j_4:Int) (R:VP) (M:Mem):Prop:=aL pr (fun _ _ _ _=>False) R (gX PP qY.h [] [] (gR Tryz.f184) [(0,.ptr (.v t)),(1,.agg [.int .i64 (.v j_0),.int .i64 (.v j_1),.int .i64 (.v j_2),.int .i64 (.v j_3),.int .i64 (.v j_4)])] M)
theorem qY.go (t:Option Addr) (j_0 j_1 j_2 j_3 j_4:Int) (h:qY.T (aJ PP w0) t j_0 j_1 j_2 j_3 j_4 R M):C PP w0 Id.qY #[.pointer t,.agg #[.int .i64 j_0,.int .i64 j_1,.int .i64 j_2,.int .i64 j_3,.int .i64 j_4]] R M :=
  dB mixed (h:=qY.h) (T:=fun pr aB=>qY.T pr t j_0 j_1 j_2 j_3 j_4 R M) Tryz.func184 (c7 _ _) (by kernel_rfl) (fun pr aB=>by kernel_rfl) fun _ _=>h
noncomputable def fI.h:HC:=aH (bd Tryz.f185) []
def fI.T (j_0 j_1 j_2 j_3 j_4:Int) (R:VP) (M:Mem):Prop:=aL pr (fun _ _ _ _=>False) R (gX PP fI.h [] [] (gR Tryz.f185) [(0,.agg [.int .i64 (.v j_0),.int .i64 (.v j_1),.int .i64 (.v j_2),.int .i64 (.v j_3),.int .i64 (.v j_4)])] M)
theorem fI.go (j_0 j_1 j_2 j_3 j_4:Int) (h:fI.T (aJ PP w0) j_0 j_1 j_2 j_3 j_4 R M):C PP w0 Id.fI #[.agg #[.int .i64 j_0,.int .i64 j_1,.int .i64 j_2,.int .i64 j_3,.int .i64 j_4]] R M :=
  dB mixed (h:=fI.h) (T:=fun pr aB=>fI.T pr j_0 j_1 j_2 j_3 j_4 R M) Tryz.func185 (c7 _ _) (by kernel_rfl) (fun pr aB=>by kernel_rfl) fun _ _=>h
noncomputable def iQ.h:HC:=aH (bd Tryz.f186) [([true,true,true],[0,4,5,7])]
def iQ.Is (R:VP):Prop:=pF PP pr aB iQ.h Tryz.f186 R
abbrev iQ.J1 (t_0:Option Addr) (r_4:Addr) (j_5:Addr) (was_7:Addr) (M:Mem):Prop:=aB [true,true,true,true] [] [(0,.pointer t_0),(4,.pointer (some r_4)),(5,.pointer (some j_5)),(7,.pointer (some was_7))] M
def iQ.J1.T (t_0:Option Addr) (r_4:Addr) (j_5:Addr) (was_7:Addr) (R:VP) (M:Mem):Prop:=aL pr aB R (bO PP iQ.h (gR Tryz.f186) [true,true,true,true] [] [(0,.ptr (.v t_0)),(4,.ptr (.a (.v r_4))),(5,.ptr (.a (.v j_5))),(7,.ptr (.a (.v was_7)))] M)
theorem iQ.Is.J1 {pr:Prim} {aB:fC} (H:iQ.Is pr aB R) (t_0:Option Addr) (r_4:Addr) (j_5:Addr) (was_7:Addr) (M:Mem):iQ.J1 aB t_0 r_4 j_5 was_7 M = iQ.J1.T pr aB t_0 r_4 j_5 was_7 R M:=(H _ _ _ _ _ rfl).trans (by kernel_rfl)
def iQ.T (t:Option Addr) (r_0 r_1 j_0 j_1 j_2 j_3 j_4:Int) (R:VP) (M:Mem):Prop:=aL pr aB R (gX PP iQ.h [] [] (gR Tryz.f186) [(0,.ptr (.v t)),(1,.agg [.int .i64 (.v r_0),.int .i64 (.v r_1)]),(2,.agg [.int .i64 (.v j_0),.int .i64 (.v j_1),.int .i64 (.v j_2),.int .i64 (.v j_3),.int .i64 (.v j_4)])] M)
theorem iQ.go (t:Option Addr) (r_0 r_1 j_0 j_1 j_2 j_3 j_4:Int) (h:∀ aB,iQ.Is (aJ PP w0) aB R→iQ.T (aJ PP w0) aB t r_0 r_1 j_0 j_1 j_2 j_3 j_4 R M):C PP w0 Id.iQ #[.pointer t,.agg #[.int .i64 r_0,.int .i64 r_1],.agg #[.int .i64 j_0,.int .i64 j_1,.int .i64 j_2,.int .i64 j_3,.int .i64 j_4]] R M :=
  dB mixed (h:=iQ.h) (T:=fun pr aB=>iQ.T pr aB t r_0 r_1 j_0 j_1 j_2 j_3 j_4 R M) Tryz.func186 (c7 _ _) (by kernel_rfl) (fun pr aB=>by kernel_rfl) h
noncomputable def lO.h:HC:=aH (bd Tryz.f187) []
def lO.T (d:Option Addr) (r_0 r_1:Int) (R:VP) (M:Mem):Prop:=aL pr (fun _ _ _ _=>False) R (gX PP lO.h [] [] (gR Tryz.f187) [(0,.ptr (.v d)),(1,.agg [.int .i64 (.v r_0),.int .i64 (.v r_1)])] M)
theorem lO.go (d:Option Addr) (r_0 r_1:Int) (h:lO.T (aJ PP w0) d r_0 r_1 R M):C PP w0 Id.lO #[.pointer d,.agg #[.int .i64 r_0,.int .i64 r_1]] R M :=
  dB mixed (h:=lO.h) (T:=fun pr aB=>lO.T pr d r_0 r_1 R M) Tryz.func187 (c7 _ _) (by kernel_rfl) (fun pr aB=>by kernel_rfl) fun _ _=>h
noncomputable def eE.h:HC:=aH (bd Tryz.f188) []
def eE.T (c:Option Addr) (at_1:Int) (R:VP) (M:Mem):Prop:=aL pr (fun _ _ _ _=>False) R (gX PP eE.h [] [] (gR Tryz.f188) [(0,.ptr (.v c)),(1,.int .i64 (.v at_1))] M)
theorem eE.go (c:Option Addr) (at_1:Int) (h:eE.T (aJ PP w0) c at_1 R M):C PP w0 Id.eE #[.pointer c,.int .i64 at_1] R M :=
  dB mixed (h:=eE.h) (T:=fun pr aB=>eE.T pr c at_1 R M) Tryz.func188 (c7 _ _) (by kernel_rfl) (fun pr aB=>by kernel_rfl) fun _ _=>h
noncomputable def v9.h:HC:=aH (bd Tryz.f189) []
def v9.T (t:Option Addr) (item_0 item_1:Int) (R:VP) (M:Mem):Prop:=aL pr (fun _ _ _ _=>False) R (gX PP v9.h [] [] (gR Tryz.f189) [(0,.ptr (.v t)),(1,.agg [.int .i64 (.v item_0),.int .i64 (.v item_1)])] M)
theorem v9.go (t:Option Addr) (item_0 item_1:Int) (h:v9.T (aJ PP w0) t item_0 item_1 R M):C PP w0 Id.v9 #[.pointer t,.agg #[.int .i64 item_0,.int .i64 item_1]] R M :=
  dB mixed (h:=v9.h) (T:=fun pr aB=>v9.T pr t item_0 item_1 R M) Tryz.func189 (c7 _ _) (by kernel_rfl) (fun pr aB=>by kernel_rfl) fun _ _=>h
noncomputable def fZ.h:HC:=aH (bd Tryz.f190) [([true,true,false,true,false],[0,1,2,7,16,17,18])]
def fZ.Is (R:VP):Prop:=pF PP pr aB fZ.h Tryz.f190 R
abbrev fZ.L1 (k:Nat) (t_0:Option Addr) (from_1 to_2 n_7:Int) (t16:SV) (t17 t18:Int) (M:Mem):Prop:=aB [false,false,true,false,true,true] [k] [(0,.pointer t_0),(1,.int .i64 from_1),(2,.int .i64 to_2),(7,.int .i64 n_7),(16,SV.v t16),(17,.int .i64 t17),(18,.int .i64 t18)] M
def fZ.L1.T (k:Nat) (t_0:Option Addr) (from_1 to_2 n_7:Int) (t16:SV) (t17 t18:Int) (R:VP) (M:Mem):Prop:=aL pr aB R (bO PP fZ.h (gR Tryz.f190) [false,false,true,false,true,true] [k] [(0,.ptr (.v t_0)),(1,.int .i64 (.v from_1)),(2,.int .i64 (.v to_2)),(7,.int .i64 (.v n_7)),(16,.sv t16),(17,.int .i64 (.v t17)),(18,.int .i64 (.v t18))] M)
theorem fZ.Is.L1 {pr:Prim} {aB:fC} (H:fZ.Is pr aB R) (k:Nat) (t_0:Option Addr) (from_1 to_2 n_7:Int) (t16:SV) (t17 t18:Int) (M:Mem):fZ.L1 aB (k + 1) t_0 from_1 to_2 n_7 t16 t17 t18 M = fZ.L1.T pr aB k t_0 from_1 to_2 n_7 t16 t17 t18 R M:=(H _ _ _ _ _ rfl).trans (by kernel_rfl)
def fZ.T (t:Option Addr) (from_1 to:Int) (R:VP) (M:Mem):Prop:=aL pr aB R (gX PP fZ.h [] [] (gR Tryz.f190) [(0,.ptr (.v t)),(1,.int .i64 (.v from_1)),(2,.int .i64 (.v to))] M)
theorem fZ.go (t:Option Addr) (from_1 to:Int) (h:∀ aB,fZ.Is (aJ PP w0) aB R→fZ.T (aJ PP w0) aB t from_1 to R M):C PP w0 Id.fZ #[.pointer t,.int .i64 from_1,.int .i64 to] R M :=
  dB mixed (h:=fZ.h) (T:=fun pr aB=>fZ.T pr aB t from_1 to R M) Tryz.func190 (c7 _ _) (by kernel_rfl) (fun pr aB=>by kernel_rfl) h
noncomputable def cZ.h:HC:=aH (bd Tryz.f191) [([true],[0,3])]
def cZ.Is (R:VP):Prop:=pF PP pr aB cZ.h Tryz.f191 R
abbrev cZ.J1 (p_0:Option Addr) (r_3:Addr) (M:Mem):Prop:=aB [true,true] [] [(0,.pointer p_0),(3,.pointer (some r_3))] M
def cZ.J1.T (p_0:Option Addr) (r_3:Addr) (R:VP) (M:Mem):Prop:=aL pr aB R (bO PP cZ.h (gR Tryz.f191) [true,true] [] [(0,.ptr (.v p_0)),(3,.ptr (.a (.v r_3)))] M)
theorem cZ.Is.J1 {pr:Prim} {aB:fC} (H:cZ.Is pr aB R) (p_0:Option Addr) (r_3:Addr) (M:Mem):cZ.J1 aB p_0 r_3 M = cZ.J1.T pr aB p_0 r_3 R M:=(H _ _ _ _ _ rfl).trans (by kernel_rfl)
def cZ.T (p:Option Addr) (r_0 r_1:Int) (R:VP) (M:Mem):Prop:=aL pr aB R (gX PP cZ.h [] [] (gR Tryz.f191) [(0,.ptr (.v p)),(1,.agg [.int .i64 (.v r_0),.int .i64 (.v r_1)])] M)
theorem cZ.go (p:Option Addr) (r_0 r_1:Int) (h:∀ aB,cZ.Is (aJ PP w0) aB R→cZ.T (aJ PP w0) aB p r_0 r_1 R M):C PP w0 Id.cZ #[.pointer p,.agg #[.int .i64 r_0,.int .i64 r_1]] R M :=
  dB mixed (h:=cZ.h) (T:=fun pr aB=>cZ.T pr aB p r_0 r_1 R M) Tryz.func191 (c7 _ _) (by kernel_rfl) (fun pr aB=>by kernel_rfl) h
noncomputable def cI.h:HC:=aH (bd Tryz.f193) [([true,true,false,true,false],[3,6,7,8])]
def cI.Is (R:VP):Prop:=pF PP pr aB cI.h Tryz.f193 R
abbrev cI.L1 (k:Nat) (zero_3:Int) (t6:SV) (t7 t8:Int) (M:Mem):Prop:=aB [false,false,true,false,true,true] [k] [(3,.int .i64 zero_3),(6,SV.v t6),(7,.int .i64 t7),(8,.int .i64 t8)] M
def cI.L1.T (k:Nat) (zero_3:Int) (t6:SV) (t7 t8:Int) (R:VP) (M:Mem):Prop:=aL pr aB R (bO PP cI.h (gR Tryz.f193) [false,false,true,false,true,true] [k] [(3,.int .i64 (.v zero_3)),(6,.sv t6),(7,.int .i64 (.v t7)),(8,.int .i64 (.v t8))] M)
theorem cI.Is.L1 {pr:Prim} {aB:fC} (H:cI.Is pr aB R) (k:Nat) (zero_3:Int) (t6:SV) (t7 t8:Int) (M:Mem):cI.L1 aB (k + 1) zero_3 t6 t7 t8 M = cI.L1.T pr aB k zero_3 t6 t7 t8 R M:=(H _ _ _ _ _ rfl).trans (by kernel_rfl)
def cI.T (vals:SV) (R:VP) (M:Mem):Prop:=aL pr aB R (gX PP cI.h [] [] (gR Tryz.f193) [(0,.sv vals)] M)
theorem cI.go (vals:SV) (h:∀ aB,cI.Is (aJ PP w0) aB R→cI.T (aJ PP w0) aB vals R M):C PP w0 Id.cI #[SV.v vals] R M :=
  dB mixed (h:=cI.h) (T:=fun pr aB=>cI.T pr aB vals R M) Tryz.func193 (c7 _ _) (by kernel_rfl) (fun pr aB=>by kernel_rfl) h
noncomputable def dD.h:HC:=aH (bd Tryz.f194) []
def dD.T (x y:Int) (R:VP) (M:Mem):Prop:=aL pr (fun _ _ _ _=>False) R (gX PP dD.h [] [] (gR Tryz.f194) [(0,.int .i64 (.v x)),(1,.int .i64 (.v y))] M)
theorem dD.go (x y:Int) (h:dD.T (aJ PP w0) x y R M):C PP w0 Id.dD #[.int .i64 x,.int .i64 y] R M :=
  dB mixed (h:=dD.h) (T:=fun pr aB=>dD.T pr x y R M) Tryz.func194 (c7 _ _) (by kernel_rfl) (fun pr aB=>by kernel_rfl) fun _ _=>h
noncomputable def oG.h:HC:=aH (bd Tryz.f195) []
def oG.T (m:Option Addr) (n:Int) (R:VP) (M:Mem):Prop:=aL pr (fun _ _ _ _=>False) R (gX PP oG.h [] [] (gR Tryz.f195) [(0,.ptr (.v m)),(1,.int .i64 (.v n))] M)
theorem oG.go (m:Option Addr) (n:Int) (h:oG.T (aJ PP w0) m n R M):C PP w0 Id.oG #[.pointer m,.int .i64 n] R M :=
  dB mixed (h:=oG.h) (T:=fun pr aB=>oG.T pr m n R M) Tryz.func195 (c7 _ _) (by kernel_rfl) (fun pr aB=>by kernel_rfl) fun _ _=>h
noncomputable def bS.h:HC:=aH (bd Tryz.f196) [([true,true,false,true,false],[0,1,5,6,7])]
def bS.Is (R:VP):Prop:=pF PP pr aB bS.h Tryz.f196 R
abbrev bS.L1 (k:Nat) (t0:Addr) (x_1:Addr) (t5:SV) (t6 t7:Int) (M:Mem):Prop:=aB [false,false,true,false,true,true] [k] [(0,.pointer (some t0)),(1,.pointer (some x_1)),(5,SV.v t5),(6,.int .i64 t6),(7,.int .i64 t7)] M
def bS.L1.T (k:Nat) (t0:Addr) (x_1:Addr) (t5:SV) (t6 t7:Int) (R:VP) (M:Mem):Prop:=aL pr aB R (bO PP bS.h (gR Tryz.f196) [false,false,true,false,true,true] [k] [(0,.ptr (.a (.v t0))),(1,.ptr (.a (.v x_1))),(5,.sv t5),(6,.int .i64 (.v t6)),(7,.int .i64 (.v t7))] M)
theorem bS.Is.L1 {pr:Prim} {aB:fC} (H:bS.Is pr aB R) (k:Nat) (t0:Addr) (x_1:Addr) (t5:SV) (t6 t7:Int) (M:Mem):bS.L1 aB (k + 1) t0 x_1 t5 t6 t7 M = bS.L1.T pr aB k t0 x_1 t5 t6 t7 R M:=(H _ _ _ _ _ rfl).trans (by kernel_rfl)
def bS.T (R:VP) (M:Mem):Prop:=aL pr aB R (gX PP bS.h [] [] (gR Tryz.f196) [] M)
theorem bS.go (h:∀ aB,bS.Is (aJ PP w0) aB R→bS.T (aJ PP w0) aB R M):C PP w0 Id.bS #[] R M :=
  dB mixed (h:=bS.h) (T:=fun pr aB=>bS.T pr aB R M) Tryz.func196 (c7 _ _) (by kernel_rfl) (fun pr aB=>by kernel_rfl) h
noncomputable def rD.h:HC:=aH (bd Tryz.f197) []
def rD.T (a:Option Addr) (c field:Int) (R:VP) (M:Mem):Prop:=aL pr (fun _ _ _ _=>False) R (gX PP rD.h [] [] (gR Tryz.f197) [(0,.ptr (.v a)),(1,.int .i64 (.v c)),(2,.int .i64 (.v field))] M)
theorem rD.go (a:Option Addr) (c field:Int) (h:rD.T (aJ PP w0) a c field R M):C PP w0 Id.rD #[.pointer a,.int .i64 c,.int .i64 field] R M :=
  dB mixed (h:=rD.h) (T:=fun pr aB=>rD.T pr a c field R M) Tryz.func197 (c7 _ _) (by kernel_rfl) (fun pr aB=>by kernel_rfl) fun _ _=>h
noncomputable def mK.h:HC:=aH (bd Tryz.f198) []
def mK.T (a:Option Addr) (i:Int) (R:VP) (M:Mem):Prop:=aL pr (fun _ _ _ _=>False) R (gX PP mK.h [] [] (gR Tryz.f198) [(0,.ptr (.v a)),(1,.int .i64 (.v i))] M)
theorem mK.go (a:Option Addr) (i:Int) (h:mK.T (aJ PP w0) a i R M):C PP w0 Id.mK #[.pointer a,.int .i64 i] R M :=
  dB mixed (h:=mK.h) (T:=fun pr aB=>mK.T pr a i R M) Tryz.func198 (c7 _ _) (by kernel_rfl) (fun pr aB=>by kernel_rfl) fun _ _=>h
noncomputable def bD.h:HC:=aH (bd Tryz.f199) [([true,true,true],[0,1,2,7]),([true,true,true,false,false],[0,1,2,7]),([true,true,true,false,false,false],[0,1,2,7]),([true,true,true,false,false,false,true,false],[0,1,2,7]),([true,true,true,true,true,false,true,false],[0,7,8,9])]
def bD.Is (R:VP):Prop:=pF PP pr aB bD.h Tryz.f199 R
abbrev bD.J1 (a_0:Option Addr) (r_1 s_2:Int) (path_7:SV) (M:Mem):Prop:=aB [true,true,true,true] [] [(0,.pointer a_0),(1,.int .i64 r_1),(2,.int .i64 s_2),(7,SV.v path_7)] M
def bD.J1.T (a_0:Option Addr) (r_1 s_2:Int) (path_7:SV) (R:VP) (M:Mem):Prop:=aL pr aB R (bO PP bD.h (gR Tryz.f199) [true,true,true,true] [] [(0,.ptr (.v a_0)),(1,.int .i64 (.v r_1)),(2,.int .i64 (.v s_2)),(7,.sv path_7)] M)
theorem bD.Is.J1 {pr:Prim} {aB:fC} (H:bD.Is pr aB R) (a_0:Option Addr) (r_1 s_2:Int) (path_7:SV) (M:Mem):bD.J1 aB a_0 r_1 s_2 path_7 M = bD.J1.T pr aB a_0 r_1 s_2 path_7 R M:=(H _ _ _ _ _ rfl).trans (by kernel_rfl)
abbrev bD.L2 (k:Nat) (a_0:Option Addr) (r_1 s_2:Int) (path_7:SV) (M:Mem):Prop:=aB [false,false,false,true,true,true] [k] [(0,.pointer a_0),(1,.int .i64 r_1),(2,.int .i64 s_2),(7,SV.v path_7)] M
def bD.L2.T (k:Nat) (a_0:Option Addr) (r_1 s_2:Int) (path_7:SV) (R:VP) (M:Mem):Prop:=aL pr aB R (bO PP bD.h (gR Tryz.f199) [false,false,false,true,true,true] [k] [(0,.ptr (.v a_0)),(1,.int .i64 (.v r_1)),(2,.int .i64 (.v s_2)),(7,.sv path_7)] M)
theorem bD.Is.L2 {pr:Prim} {aB:fC} (H:bD.Is pr aB R) (k:Nat) (a_0:Option Addr) (r_1 s_2:Int) (path_7:SV) (M:Mem):bD.L2 aB (k + 1) a_0 r_1 s_2 path_7 M = bD.L2.T pr aB k a_0 r_1 s_2 path_7 R M:=(H _ _ _ _ _ rfl).trans (by kernel_rfl)
abbrev bD.L3 (k:Nat) (a_0:Option Addr) (path_7:SV) (top_8 k_9:Int) (M:Mem):Prop:=aB [false,false,true,false,true,true,true,true,true] [k] [(0,.pointer a_0),(7,SV.v path_7),(8,.int .i64 top_8),(9,.int .i64 k_9)] M
def bD.L3.T (k:Nat) (a_0:Option Addr) (path_7:SV) (top_8 k_9:Int) (R:VP) (M:Mem):Prop:=aL pr aB R (bO PP bD.h (gR Tryz.f199) [false,false,true,false,true,true,true,true,true] [k] [(0,.ptr (.v a_0)),(7,.sv path_7),(8,.int .i64 (.v top_8)),(9,.int .i64 (.v k_9))] M)
theorem bD.Is.L3 {pr:Prim} {aB:fC} (H:bD.Is pr aB R) (k:Nat) (a_0:Option Addr) (path_7:SV) (top_8 k_9:Int) (M:Mem):bD.L3 aB (k + 1) a_0 path_7 top_8 k_9 M = bD.L3.T pr aB k a_0 path_7 top_8 k_9 R M:=(H _ _ _ _ _ rfl).trans (by kernel_rfl)
abbrev bD.J4 (k:Nat) (a_0:Option Addr) (r_1 s_2:Int) (path_7:SV) (M:Mem):Prop:=aB [true,false,false,false,true,true,true] [k] [(0,.pointer a_0),(1,.int .i64 r_1),(2,.int .i64 s_2),(7,SV.v path_7)] M
def bD.J4.T (k:Nat) (a_0:Option Addr) (r_1 s_2:Int) (path_7:SV) (R:VP) (M:Mem):Prop:=aL pr aB R (bO PP bD.h (gR Tryz.f199) [true,false,false,false,true,true,true] [k] [(0,.ptr (.v a_0)),(1,.int .i64 (.v r_1)),(2,.int .i64 (.v s_2)),(7,.sv path_7)] M)
theorem bD.Is.J4 {pr:Prim} {aB:fC} (H:bD.Is pr aB R) (k:Nat) (a_0:Option Addr) (r_1 s_2:Int) (path_7:SV) (M:Mem):bD.J4 aB k a_0 r_1 s_2 path_7 M = bD.J4.T pr aB k a_0 r_1 s_2 path_7 R M:=(H _ _ _ _ _ rfl).trans (by kernel_rfl)
abbrev bD.J5 (k:Nat) (a_0:Option Addr) (r_1 s_2:Int) (path_7:SV) (M:Mem):Prop:=aB [true,false,true,false,false,false,true,true,true] [k] [(0,.pointer a_0),(1,.int .i64 r_1),(2,.int .i64 s_2),(7,SV.v path_7)] M
def bD.J5.T (k:Nat) (a_0:Option Addr) (r_1 s_2:Int) (path_7:SV) (R:VP) (M:Mem):Prop:=aL pr aB R (bO PP bD.h (gR Tryz.f199) [true,false,true,false,false,false,true,true,true] [k] [(0,.ptr (.v a_0)),(1,.int .i64 (.v r_1)),(2,.int .i64 (.v s_2)),(7,.sv path_7)] M)
theorem bD.Is.J5 {pr:Prim} {aB:fC} (H:bD.Is pr aB R) (k:Nat) (a_0:Option Addr) (r_1 s_2:Int) (path_7:SV) (M:Mem):bD.J5 aB k a_0 r_1 s_2 path_7 M = bD.J5.T pr aB k a_0 r_1 s_2 path_7 R M:=(H _ _ _ _ _ rfl).trans (by kernel_rfl)
def bD.T (a:Option Addr) (r s:Int) (R:VP) (M:Mem):Prop:=aL pr aB R (gX PP bD.h [] [] (gR Tryz.f199) [(0,.ptr (.v a)),(1,.int .i64 (.v r)),(2,.int .i64 (.v s))] M)
theorem bD.go (a:Option Addr) (r s:Int) (h:∀ aB,bD.Is (aJ PP w0) aB R→bD.T (aJ PP w0) aB a r s R M):C PP w0 Id.bD #[.pointer a,.int .i64 r,.int .i64 s] R M :=
  dB mixed (h:=bD.h) (T:=fun pr aB=>bD.T pr aB a r s R M) Tryz.func199 (c7 _ _) (by kernel_rfl) (fun pr aB=>by kernel_rfl) h
noncomputable def nC.h:HC:=aH (bd Tryz.f200) [([true,true,false,true,false],[0,5,12,13,14]),([true,true,true,true,true,false,false],[0,5,8]),([true,true,true,true,true,false,false,false,true,false,true],[0,5,8,9]),([true,true,true,true,true,false,false,false,true,false,true,true,true,true,true],[0,5,8,10,11]),([true,true,true,true,true,false,false,false,true,false,true,true,true,true,true,false,false],[0,5,8,10,11])]
def nC.Is (R:VP):Prop:=pF PP pr aB nC.h Tryz.f200 R
abbrev nC.L1 (k:Nat) (a_0:Option Addr) (wait_5 t12:SV) (t13 t14:Int) (M:Mem):Prop:=aB [false,false,true,false,true,true] [k] [(0,.pointer a_0),(5,SV.v wait_5),(12,SV.v t12),(13,.int .i64 t13),(14,.int .i64 t14)] M
def nC.L1.T (k:Nat) (a_0:Option Addr) (wait_5 t12:SV) (t13 t14:Int) (R:VP) (M:Mem):Prop:=aL pr aB R (bO PP nC.h (gR Tryz.f200) [false,false,true,false,true,true] [k] [(0,.ptr (.v a_0)),(5,.sv wait_5),(12,.sv t12),(13,.int .i64 (.v t13)),(14,.int .i64 (.v t14))] M)
theorem nC.Is.L1 {pr:Prim} {aB:fC} (H:nC.Is pr aB R) (k:Nat) (a_0:Option Addr) (wait_5 t12:SV) (t13 t14:Int) (M:Mem):nC.L1 aB (k + 1) a_0 wait_5 t12 t13 t14 M = nC.L1.T pr aB k a_0 wait_5 t12 t13 t14 R M:=(H _ _ _ _ _ rfl).trans (by kernel_rfl)
abbrev nC.L2 (k:Nat) (a_0:Option Addr) (wait_5 out_8:SV) (M:Mem):Prop:=aB [false,false,false,true,true,true,true,true] [k] [(0,.pointer a_0),(5,SV.v wait_5),(8,SV.v out_8)] M
def nC.L2.T (k:Nat) (a_0:Option Addr) (wait_5 out_8:SV) (R:VP) (M:Mem):Prop:=aL pr aB R (bO PP nC.h (gR Tryz.f200) [false,false,false,true,true,true,true,true] [k] [(0,.ptr (.v a_0)),(5,.sv wait_5),(8,.sv out_8)] M)
theorem nC.Is.L2 {pr:Prim} {aB:fC} (H:nC.Is pr aB R) (k:Nat) (a_0:Option Addr) (wait_5 out_8:SV) (M:Mem):nC.L2 aB (k + 1) a_0 wait_5 out_8 M = nC.L2.T pr aB k a_0 wait_5 out_8 R M:=(H _ _ _ _ _ rfl).trans (by kernel_rfl)
abbrev nC.J3 (k:Nat) (a_0:Option Addr) (wait_5 out_8:SV) (x_9:Addr) (M:Mem):Prop:=aB [true,true,false,true,false,false,false,true,true,true,true,true] [k] [(0,.pointer a_0),(5,SV.v wait_5),(8,SV.v out_8),(9,.pointer (some x_9))] M
def nC.J3.T (k:Nat) (a_0:Option Addr) (wait_5 out_8:SV) (x_9:Addr) (R:VP) (M:Mem):Prop:=aL pr aB R (bO PP nC.h (gR Tryz.f200) [true,true,false,true,false,false,false,true,true,true,true,true] [k] [(0,.ptr (.v a_0)),(5,.sv wait_5),(8,.sv out_8),(9,.ptr (.a (.v x_9)))] M)
theorem nC.Is.J3 {pr:Prim} {aB:fC} (H:nC.Is pr aB R) (k:Nat) (a_0:Option Addr) (wait_5 out_8:SV) (x_9:Addr) (M:Mem):nC.J3 aB k a_0 wait_5 out_8 x_9 M = nC.J3.T pr aB k a_0 wait_5 out_8 x_9 R M:=(H _ _ _ _ _ rfl).trans (by kernel_rfl)
abbrev nC.J4 (k:Nat) (a_0:Option Addr) (wait_5 out_8:SV) (y_10:Addr) (k_11:Int) (M:Mem):Prop:=aB [true,true,true,true,true,true,false,true,false,false,false,true,true,true,true,true] [k] [(0,.pointer a_0),(5,SV.v wait_5),(8,SV.v out_8),(10,.pointer (some y_10)),(11,.int .i64 k_11)] M
def nC.J4.T (k:Nat) (a_0:Option Addr) (wait_5 out_8:SV) (y_10:Addr) (k_11:Int) (R:VP) (M:Mem):Prop:=aL pr aB R (bO PP nC.h (gR Tryz.f200) [true,true,true,true,true,true,false,true,false,false,false,true,true,true,true,true] [k] [(0,.ptr (.v a_0)),(5,.sv wait_5),(8,.sv out_8),(10,.ptr (.a (.v y_10))),(11,.int .i64 (.v k_11))] M)
theorem nC.Is.J4 {pr:Prim} {aB:fC} (H:nC.Is pr aB R) (k:Nat) (a_0:Option Addr) (wait_5 out_8:SV) (y_10:Addr) (k_11:Int) (M:Mem):nC.J4 aB k a_0 wait_5 out_8 y_10 k_11 M = nC.J4.T pr aB k a_0 wait_5 out_8 y_10 k_11 R M:=(H _ _ _ _ _ rfl).trans (by kernel_rfl)
abbrev nC.L5 (k:Nat) (k':Nat) (a_0:Option Addr) (wait_5 out_8:SV) (y_10:Addr) (k_11:Int) (M:Mem):Prop:=aB [false,false,false,true,true,true,true,true,false,true,false,false,false,true,true,true,true,true] [k',k] [(0,.pointer a_0),(5,SV.v wait_5),(8,SV.v out_8),(10,.pointer (some y_10)),(11,.int .i64 k_11)] M
def nC.L5.T (k:Nat) (k':Nat) (a_0:Option Addr) (wait_5 out_8:SV) (y_10:Addr) (k_11:Int) (R:VP) (M:Mem):Prop:=aL pr aB R (bO PP nC.h (gR Tryz.f200) [false,false,false,true,true,true,true,true,false,true,false,false,false,true,true,true,true,true] [k',k] [(0,.ptr (.v a_0)),(5,.sv wait_5),(8,.sv out_8),(10,.ptr (.a (.v y_10))),(11,.int .i64 (.v k_11))] M)
theorem nC.Is.L5 {pr:Prim} {aB:fC} (H:nC.Is pr aB R) (k:Nat) (k':Nat) (a_0:Option Addr) (wait_5 out_8:SV) (y_10:Addr) (k_11:Int) (M:Mem):nC.L5 aB k (k' + 1) a_0 wait_5 out_8 y_10 k_11 M = nC.L5.T pr aB k k' a_0 wait_5 out_8 y_10 k_11 R M:=(H _ _ _ _ _ rfl).trans (by kernel_rfl)
def nC.T (a:Option Addr) (l:SV) (R:VP) (M:Mem):Prop:=aL pr aB R (gX PP nC.h [] [] (gR Tryz.f200) [(0,.ptr (.v a)),(1,.sv l)] M)
theorem nC.go (a:Option Addr) (l:SV) (h:∀ aB,nC.Is (aJ PP w0) aB R→nC.T (aJ PP w0) aB a l R M):C PP w0 Id.nC #[.pointer a,SV.v l] R M :=
  dB mixed (h:=nC.h) (T:=fun pr aB=>nC.T pr aB a l R M) Tryz.func200 (c7 _ _) (by kernel_rfl) (fun pr aB=>by kernel_rfl) h
noncomputable def iS.h:HC:=aH (bd Tryz.f201) []
def iS.T (a:Option Addr) (r:Int) (R:VP) (M:Mem):Prop:=aL pr (fun _ _ _ _=>False) R (gX PP iS.h [] [] (gR Tryz.f201) [(0,.ptr (.v a)),(1,.int .i64 (.v r))] M)
theorem iS.go (a:Option Addr) (r:Int) (h:iS.T (aJ PP w0) a r R M):C PP w0 Id.iS #[.pointer a,.int .i64 r] R M :=
  dB mixed (h:=iS.h) (T:=fun pr aB=>iS.T pr a r R M) Tryz.func201 (c7 _ _) (by kernel_rfl) (fun pr aB=>by kernel_rfl) fun _ _=>h
noncomputable def tF.h:HC:=aH (bd Tryz.f202) [([true,true],[0,1,2,7]),([true,true,true,true],[0,1,2,7,8]),([true,true,true,true,true,true,true],[0,2,9,10])]
def tF.Is (R:VP):Prop:=pF PP pr aB tF.h Tryz.f202 R
abbrev tF.J1 (a_0:Option Addr) (r_1 n_2 second_7:Int) (M:Mem):Prop:=aB [true,true,true] [] [(0,.pointer a_0),(1,.int .i64 r_1),(2,.int .i64 n_2),(7,.int .i64 second_7)] M
def tF.J1.T (a_0:Option Addr) (r_1 n_2 second_7:Int) (R:VP) (M:Mem):Prop:=aL pr aB R (bO PP tF.h (gR Tryz.f202) [true,true,true] [] [(0,.ptr (.v a_0)),(1,.int .i64 (.v r_1)),(2,.int .i64 (.v n_2)),(7,.int .i64 (.v second_7))] M)
theorem tF.Is.J1 {pr:Prim} {aB:fC} (H:tF.Is pr aB R) (a_0:Option Addr) (r_1 n_2 second_7:Int) (M:Mem):tF.J1 aB a_0 r_1 n_2 second_7 M = tF.J1.T pr aB a_0 r_1 n_2 second_7 R M:=(H _ _ _ _ _ rfl).trans (by kernel_rfl)
abbrev tF.J2 (a_0:Option Addr) (r_1 n_2 second_7 rank_8:Int) (M:Mem):Prop:=aB [true,true,true,true,true] [] [(0,.pointer a_0),(1,.int .i64 r_1),(2,.int .i64 n_2),(7,.int .i64 second_7),(8,.int .i64 rank_8)] M
def tF.J2.T (a_0:Option Addr) (r_1 n_2 second_7 rank_8:Int) (R:VP) (M:Mem):Prop:=aL pr aB R (bO PP tF.h (gR Tryz.f202) [true,true,true,true,true] [] [(0,.ptr (.v a_0)),(1,.int .i64 (.v r_1)),(2,.int .i64 (.v n_2)),(7,.int .i64 (.v second_7)),(8,.int .i64 (.v rank_8))] M)
theorem tF.Is.J2 {pr:Prim} {aB:fC} (H:tF.Is pr aB R) (a_0:Option Addr) (r_1 n_2 second_7 rank_8:Int) (M:Mem):tF.J2 aB a_0 r_1 n_2 second_7 rank_8 M = tF.J2.T pr aB a_0 r_1 n_2 second_7 rank_8 R M:=(H _ _ _ _ _ rfl).trans (by kernel_rfl)
abbrev tF.J3 (a_0:Option Addr) (n_2 rest_9 top_10:Int) (M:Mem):Prop:=aB [true,true,true,true,true,true,true,true] [] [(0,.pointer a_0),(2,.int .i64 n_2),(9,.int .i64 rest_9),(10,.int .i64 top_10)] M
def tF.J3.T (a_0:Option Addr) (n_2 rest_9 top_10:Int) (R:VP) (M:Mem):Prop:=aL pr aB R (bO PP tF.h (gR Tryz.f202) [true,true,true,true,true,true,true,true] [] [(0,.ptr (.v a_0)),(2,.int .i64 (.v n_2)),(9,.int .i64 (.v rest_9)),(10,.int .i64 (.v top_10))] M)
theorem tF.Is.J3 {pr:Prim} {aB:fC} (H:tF.Is pr aB R) (a_0:Option Addr) (n_2 rest_9 top_10:Int) (M:Mem):tF.J3 aB a_0 n_2 rest_9 top_10 M = tF.J3.T pr aB a_0 n_2 rest_9 top_10 R M:=(H _ _ _ _ _ rfl).trans (by kernel_rfl)
def tF.T (a:Option Addr) (r n:Int) (R:VP) (M:Mem):Prop:=aL pr aB R (gX PP tF.h [] [] (gR Tryz.f202) [(0,.ptr (.v a)),(1,.int .i64 (.v r)),(2,.int .i64 (.v n))] M)
theorem tF.go (a:Option Addr) (r n:Int) (h:∀ aB,tF.Is (aJ PP w0) aB R→tF.T (aJ PP w0) aB a r n R M):C PP w0 Id.tF #[.pointer a,.int .i64 r,.int .i64 n] R M :=
  dB mixed (h:=tF.h) (T:=fun pr aB=>tF.T pr aB a r n R M) Tryz.func202 (c7 _ _) (by kernel_rfl) (fun pr aB=>by kernel_rfl) h
end
end HL
namespace HL
section
variable (pr:Prim) (aB:fC) (w0:World) {R:VP} {M:Mem}
noncomputable def n6.h:HC:=aH (bd Tryz.f207) []
def n6.T (a:Option Addr) (c field:Int) (R:VP) (M:Mem):Prop:=aL pr (fun _ _ _ _=>False) R (gX PP n6.h [] [] (gR Tryz.f207) [(0,.ptr (.v a)),(1,.int .i64 (.v c)),(2,.int .i64 (.v field))] M)
theorem n6.go (a:Option Addr) (c field:Int) (h:n6.T (aJ PP w0) a c field R M):C PP w0 Id.n6 #[.pointer a,.int .i64 c,.int .i64 field] R M :=
  dB mixed (h:=n6.h) (T:=fun pr aB=>n6.T pr a c field R M) Tryz.func207 (c7 _ _) (by kernel_rfl) (fun pr aB=>by kernel_rfl) fun _ _=>h
noncomputable def bY.h:HC:=aH (bd Tryz.f208) [([true,true,false,true,false],[0,5,8,9,10])]
def bY.Is (R:VP):Prop:=pF PP pr aB bY.h Tryz.f208 R
abbrev bY.L1 (k:Nat) (a_0:Option Addr) (best_5:Int) (t8:SV) (t9 t10:Int) (M:Mem):Prop:=aB [false,false,true,false,true,true] [k] [(0,.pointer a_0),(5,.int .i64 best_5),(8,SV.v t8),(9,.int .i64 t9),(10,.int .i64 t10)] M
def bY.L1.T (k:Nat) (a_0:Option Addr) (best_5:Int) (t8:SV) (t9 t10:Int) (R:VP) (M:Mem):Prop:=aL pr aB R (bO PP bY.h (gR Tryz.f208) [false,false,true,false,true,true] [k] [(0,.ptr (.v a_0)),(5,.int .i64 (.v best_5)),(8,.sv t8),(9,.int .i64 (.v t9)),(10,.int .i64 (.v t10))] M)
theorem bY.Is.L1 {pr:Prim} {aB:fC} (H:bY.Is pr aB R) (k:Nat) (a_0:Option Addr) (best_5:Int) (t8:SV) (t9 t10:Int) (M:Mem):bY.L1 aB (k + 1) a_0 best_5 t8 t9 t10 M = bY.L1.T pr aB k a_0 best_5 t8 t9 t10 R M:=(H _ _ _ _ _ rfl).trans (by kernel_rfl)
def bY.T (a:Option Addr) (l:SV) (R:VP) (M:Mem):Prop:=aL pr aB R (gX PP bY.h [] [] (gR Tryz.f208) [(0,.ptr (.v a)),(1,.sv l)] M)
theorem bY.go (a:Option Addr) (l:SV) (h:∀ aB,bY.Is (aJ PP w0) aB R→bY.T (aJ PP w0) aB a l R M):C PP w0 Id.bY #[.pointer a,SV.v l] R M :=
  dB mixed (h:=bY.h) (T:=fun pr aB=>bY.T pr aB a l R M) Tryz.func208 (c7 _ _) (by kernel_rfl) (fun pr aB=>by kernel_rfl) h
noncomputable def nH.h:HC:=aH (bd Tryz.f209) []
def nH.T (a:Option Addr) (c:Int) (R:VP) (M:Mem):Prop:=aL pr (fun _ _ _ _=>False) R (gX PP nH.h [] [] (gR Tryz.f209) [(0,.ptr (.v a)),(1,.int .i64 (.v c))] M)
theorem nH.go (a:Option Addr) (c:Int) (h:nH.T (aJ PP w0) a c R M):C PP w0 Id.nH #[.pointer a,.int .i64 c] R M :=
  dB mixed (h:=nH.h) (T:=fun pr aB=>nH.T pr a c R M) Tryz.func209 (c7 _ _) (by kernel_rfl) (fun pr aB=>by kernel_rfl) fun _ _=>h
noncomputable def n9.h:HC:=aH (bd Tryz.f210) []
def n9.T (a:Option Addr) (n:Int) (R:VP) (M:Mem):Prop:=aL pr (fun _ _ _ _=>False) R (gX PP n9.h [] [] (gR Tryz.f210) [(0,.ptr (.v a)),(1,.int .i64 (.v n))] M)
theorem n9.go (a:Option Addr) (n:Int) (h:n9.T (aJ PP w0) a n R M):C PP w0 Id.n9 #[.pointer a,.int .i64 n] R M :=
  dB mixed (h:=n9.h) (T:=fun pr aB=>n9.T pr a n R M) Tryz.func210 (c7 _ _) (by kernel_rfl) (fun pr aB=>by kernel_rfl) fun _ _=>h
noncomputable def lC.h:HC:=aH (bd Tryz.f211) []
def lC.T (a:Option Addr) (n:Int) (R:VP) (M:Mem):Prop:=aL pr (fun _ _ _ _=>False) R (gX PP lC.h [] [] (gR Tryz.f211) [(0,.ptr (.v a)),(1,.int .i64 (.v n))] M)
theorem lC.go (a:Option Addr) (n:Int) (h:lC.T (aJ PP w0) a n R M):C PP w0 Id.lC #[.pointer a,.int .i64 n] R M :=
  dB mixed (h:=lC.h) (T:=fun pr aB=>lC.T pr a n R M) Tryz.func211 (c7 _ _) (by kernel_rfl) (fun pr aB=>by kernel_rfl) fun _ _=>h
noncomputable def jE.h:HC:=aH (bd Tryz.f212) []
def jE.T (a:Option Addr) (l:SV) (n:Int) (R:VP) (M:Mem):Prop:=aL pr (fun _ _ _ _=>False) R (gX PP jE.h [] [] (gR Tryz.f212) [(0,.ptr (.v a)),(1,.sv l),(2,.int .i64 (.v n))] M)
theorem jE.go (a:Option Addr) (l:SV) (n:Int) (h:jE.T (aJ PP w0) a l n R M):C PP w0 Id.jE #[.pointer a,SV.v l,.int .i64 n] R M :=
  dB mixed (h:=jE.h) (T:=fun pr aB=>jE.T pr a l n R M) Tryz.func212 (c7 _ _) (by kernel_rfl) (fun pr aB=>by kernel_rfl) fun _ _=>h
noncomputable def vA.h:HC:=aH (bd Tryz.f213) [([true,true,true,false,true,false],[0,5,8,9,21,22,23]),([true,true,true,true,true,true,false,true,false],[0,12,13,46,47,48])]
def vA.Is (R:VP):Prop:=pF PP pr aB vA.h Tryz.f213 R
abbrev vA.L1 (k:Nat) (a_0:Option Addr) (n_5:Addr) (rest_8 alone_9 t21:SV) (t22 t23:Int) (M:Mem):Prop:=aB [false,false,true,false,true,true,true] [k] [(0,.pointer a_0),(5,.pointer (some n_5)),(8,SV.v rest_8),(9,SV.v alone_9),(21,SV.v t21),(22,.int .i64 t22),(23,.int .i64 t23)] M
def vA.L1.T (k:Nat) (a_0:Option Addr) (n_5:Addr) (rest_8 alone_9 t21:SV) (t22 t23:Int) (R:VP) (M:Mem):Prop:=aL pr aB R (bO PP vA.h (gR Tryz.f213) [false,false,true,false,true,true,true] [k] [(0,.ptr (.v a_0)),(5,.ptr (.a (.v n_5))),(8,.sv rest_8),(9,.sv alone_9),(21,.sv t21),(22,.int .i64 (.v t22)),(23,.int .i64 (.v t23))] M)
theorem vA.Is.L1 {pr:Prim} {aB:fC} (H:vA.Is pr aB R) (k:Nat) (a_0:Option Addr) (n_5:Addr) (rest_8 alone_9 t21:SV) (t22 t23:Int) (M:Mem):vA.L1 aB (k + 1) a_0 n_5 rest_8 alone_9 t21 t22 t23 M = vA.L1.T pr aB k a_0 n_5 rest_8 alone_9 t21 t22 t23 R M:=(H _ _ _ _ _ rfl).trans (by kernel_rfl)
abbrev vA.L2 (k:Nat) (a_0:Option Addr) (i_12 r_13:Int) (t46:SV) (t47 t48:Int) (M:Mem):Prop:=aB [false,false,true,false,true,true,true,true,true,true] [k] [(0,.pointer a_0),(12,.int .i64 i_12),(13,.int .i64 r_13),(46,SV.v t46),(47,.int .i64 t47),(48,.int .i64 t48)] M
def vA.L2.T (k:Nat) (a_0:Option Addr) (i_12 r_13:Int) (t46:SV) (t47 t48:Int) (R:VP) (M:Mem):Prop:=aL pr aB R (bO PP vA.h (gR Tryz.f213) [false,false,true,false,true,true,true,true,true,true] [k] [(0,.ptr (.v a_0)),(12,.int .i64 (.v i_12)),(13,.int .i64 (.v r_13)),(46,.sv t46),(47,.int .i64 (.v t47)),(48,.int .i64 (.v t48))] M)
theorem vA.Is.L2 {pr:Prim} {aB:fC} (H:vA.Is pr aB R) (k:Nat) (a_0:Option Addr) (i_12 r_13:Int) (t46:SV) (t47 t48:Int) (M:Mem):vA.L2 aB (k + 1) a_0 i_12 r_13 t46 t47 t48 M = vA.L2.T pr aB k a_0 i_12 r_13 t46 t47 t48 R M:=(H _ _ _ _ _ rfl).trans (by kernel_rfl)
def vA.T (a:Option Addr) (l:SV) (n:Int) (R:VP) (M:Mem):Prop:=aL pr aB R (gX PP vA.h [] [] (gR Tryz.f213) [(0,.ptr (.v a)),(1,.sv l),(2,.int .i64 (.v n))] M)
theorem vA.go (a:Option Addr) (l:SV) (n:Int) (h:∀ aB,vA.Is (aJ PP w0) aB R→vA.T (aJ PP w0) aB a l n R M):C PP w0 Id.vA #[.pointer a,SV.v l,.int .i64 n] R M :=
  dB mixed (h:=vA.h) (T:=fun pr aB=>vA.T pr aB a l n R M) Tryz.func213 (c7 _ _) (by kernel_rfl) (fun pr aB=>by kernel_rfl) h
noncomputable def jB.h:HC:=aH (bd Tryz.f216) []
def jB.T (p:Option Addr) (r_0 r_1:Int) (R:VP) (M:Mem):Prop:=aL pr (fun _ _ _ _=>False) R (gX PP jB.h [] [] (gR Tryz.f216) [(0,.ptr (.v p)),(1,.agg [.int .i64 (.v r_0),.int .i64 (.v r_1)])] M)
theorem jB.go (p:Option Addr) (r_0 r_1:Int) (h:jB.T (aJ PP w0) p r_0 r_1 R M):C PP w0 Id.jB #[.pointer p,.agg #[.int .i64 r_0,.int .i64 r_1]] R M :=
  dB mixed (h:=jB.h) (T:=fun pr aB=>jB.T pr p r_0 r_1 R M) Tryz.func216 (c7 _ _) (by kernel_rfl) (fun pr aB=>by kernel_rfl) fun _ _=>h
noncomputable def c8.h:HC:=aH (bd Tryz.f217) [([true],[0,3])]
def c8.Is (R:VP):Prop:=pF PP pr aB c8.h Tryz.f217 R
abbrev c8.J1 (p_0:Option Addr) (r_3:Addr) (M:Mem):Prop:=aB [true,true] [] [(0,.pointer p_0),(3,.pointer (some r_3))] M
def c8.J1.T (p_0:Option Addr) (r_3:Addr) (R:VP) (M:Mem):Prop:=aL pr aB R (bO PP c8.h (gR Tryz.f217) [true,true] [] [(0,.ptr (.v p_0)),(3,.ptr (.a (.v r_3)))] M)
theorem c8.Is.J1 {pr:Prim} {aB:fC} (H:c8.Is pr aB R) (p_0:Option Addr) (r_3:Addr) (M:Mem):c8.J1 aB p_0 r_3 M = c8.J1.T pr aB p_0 r_3 R M:=(H _ _ _ _ _ rfl).trans (by kernel_rfl)
def c8.T (p:Option Addr) (r_0 r_1:Int) (R:VP) (M:Mem):Prop:=aL pr aB R (gX PP c8.h [] [] (gR Tryz.f217) [(0,.ptr (.v p)),(1,.agg [.int .i64 (.v r_0),.int .i64 (.v r_1)])] M)
theorem c8.go (p:Option Addr) (r_0 r_1:Int) (h:∀ aB,c8.Is (aJ PP w0) aB R→c8.T (aJ PP w0) aB p r_0 r_1 R M):C PP w0 Id.c8 #[.pointer p,.agg #[.int .i64 r_0,.int .i64 r_1]] R M :=
  dB mixed (h:=c8.h) (T:=fun pr aB=>c8.T pr aB p r_0 r_1 R M) Tryz.func217 (c7 _ _) (by kernel_rfl) (fun pr aB=>by kernel_rfl) h
noncomputable def kP.h:HC:=aH (bd Tryz.f218) []
def kP.T (a:Option Addr) (i:Int) (R:VP) (M:Mem):Prop:=aL pr (fun _ _ _ _=>False) R (gX PP kP.h [] [] (gR Tryz.f218) [(0,.ptr (.v a)),(1,.int .i64 (.v i))] M)
theorem kP.go (a:Option Addr) (i:Int) (h:kP.T (aJ PP w0) a i R M):C PP w0 Id.kP #[.pointer a,.int .i64 i] R M :=
  dB mixed (h:=kP.h) (T:=fun pr aB=>kP.T pr a i R M) Tryz.func218 (c7 _ _) (by kernel_rfl) (fun pr aB=>by kernel_rfl) fun _ _=>h
noncomputable def bN.h:HC:=aH (bd Tryz.f219) [([true],[0,1,4]),([true,true,true,true,false],[0,4,5]),([true,true,true,true,false,false],[0,4,5])]
def bN.Is (R:VP):Prop:=pF PP pr aB bN.h Tryz.f219 R
abbrev bN.J1 (a_0:Option Addr) (n_1 p_4:Int) (M:Mem):Prop:=aB [true,true] [] [(0,.pointer a_0),(1,.int .i64 n_1),(4,.int .i64 p_4)] M
def bN.J1.T (a_0:Option Addr) (n_1 p_4:Int) (R:VP) (M:Mem):Prop:=aL pr aB R (bO PP bN.h (gR Tryz.f219) [true,true] [] [(0,.ptr (.v a_0)),(1,.int .i64 (.v n_1)),(4,.int .i64 (.v p_4))] M)
theorem bN.Is.J1 {pr:Prim} {aB:fC} (H:bN.Is pr aB R) (a_0:Option Addr) (n_1 p_4:Int) (M:Mem):bN.J1 aB a_0 n_1 p_4 M = bN.J1.T pr aB a_0 n_1 p_4 R M:=(H _ _ _ _ _ rfl).trans (by kernel_rfl)
abbrev bN.L2 (k:Nat) (a_0:Option Addr) (p_4 k_5:Int) (M:Mem):Prop:=aB [false,false,true,true,true,true] [k] [(0,.pointer a_0),(4,.int .i64 p_4),(5,.int .i64 k_5)] M
def bN.L2.T (k:Nat) (a_0:Option Addr) (p_4 k_5:Int) (R:VP) (M:Mem):Prop:=aL pr aB R (bO PP bN.h (gR Tryz.f219) [false,false,true,true,true,true] [k] [(0,.ptr (.v a_0)),(4,.int .i64 (.v p_4)),(5,.int .i64 (.v k_5))] M)
theorem bN.Is.L2 {pr:Prim} {aB:fC} (H:bN.Is pr aB R) (k:Nat) (a_0:Option Addr) (p_4 k_5:Int) (M:Mem):bN.L2 aB (k + 1) a_0 p_4 k_5 M = bN.L2.T pr aB k a_0 p_4 k_5 R M:=(H _ _ _ _ _ rfl).trans (by kernel_rfl)
abbrev bN.J3 (k:Nat) (a_0:Option Addr) (p_4 k_5:Int) (M:Mem):Prop:=aB [true,false,false,true,true,true,true] [k] [(0,.pointer a_0),(4,.int .i64 p_4),(5,.int .i64 k_5)] M
def bN.J3.T (k:Nat) (a_0:Option Addr) (p_4 k_5:Int) (R:VP) (M:Mem):Prop:=aL pr aB R (bO PP bN.h (gR Tryz.f219) [true,false,false,true,true,true,true] [k] [(0,.ptr (.v a_0)),(4,.int .i64 (.v p_4)),(5,.int .i64 (.v k_5))] M)
theorem bN.Is.J3 {pr:Prim} {aB:fC} (H:bN.Is pr aB R) (k:Nat) (a_0:Option Addr) (p_4 k_5:Int) (M:Mem):bN.J3 aB k a_0 p_4 k_5 M = bN.J3.T pr aB k a_0 p_4 k_5 R M:=(H _ _ _ _ _ rfl).trans (by kernel_rfl)
def bN.T (a:Option Addr) (n:Int) (R:VP) (M:Mem):Prop:=aL pr aB R (gX PP bN.h [] [] (gR Tryz.f219) [(0,.ptr (.v a)),(1,.int .i64 (.v n))] M)
theorem bN.go (a:Option Addr) (n:Int) (h:∀ aB,bN.Is (aJ PP w0) aB R→bN.T (aJ PP w0) aB a n R M):C PP w0 Id.bN #[.pointer a,.int .i64 n] R M :=
  dB mixed (h:=bN.h) (T:=fun pr aB=>bN.T pr aB a n R M) Tryz.func219 (c7 _ _) (by kernel_rfl) (fun pr aB=>by kernel_rfl) h
noncomputable def sS.h:HC:=aH (bd Tryz.f220) [([true,true,false,true,false],[0,2,7,8]),([true,true,false,true,false,false],[0,2,7,8]),([true,true,false,true,false,false,true,false,false,true],[0,2,7,8,9])]
def sS.Is (R:VP):Prop:=pF PP pr aB sS.h Tryz.f220 R
abbrev sS.L1 (k:Nat) (a_0:Option Addr) (any_2:Bool) (n_7 k_8:Int) (M:Mem):Prop:=aB [false,false,true,false,true,true] [k] [(0,.pointer a_0),(2,.bool any_2),(7,.int .i64 n_7),(8,.int .i64 k_8)] M
def sS.L1.T (k:Nat) (a_0:Option Addr) (any_2:Bool) (n_7 k_8:Int) (R:VP) (M:Mem):Prop:=aL pr aB R (bO PP sS.h (gR Tryz.f220) [false,false,true,false,true,true] [k] [(0,.ptr (.v a_0)),(2,.bool (.v any_2)),(7,.int .i64 (.v n_7)),(8,.int .i64 (.v k_8))] M)
theorem sS.Is.L1 {pr:Prim} {aB:fC} (H:sS.Is pr aB R) (k:Nat) (a_0:Option Addr) (any_2:Bool) (n_7 k_8:Int) (M:Mem):sS.L1 aB (k + 1) a_0 any_2 n_7 k_8 M = sS.L1.T pr aB k a_0 any_2 n_7 k_8 R M:=(H _ _ _ _ _ rfl).trans (by kernel_rfl)
abbrev sS.J2 (k:Nat) (a_0:Option Addr) (any_2:Bool) (n_7 k_8:Int) (M:Mem):Prop:=aB [true,false,false,true,false,true,true] [k] [(0,.pointer a_0),(2,.bool any_2),(7,.int .i64 n_7),(8,.int .i64 k_8)] M
def sS.J2.T (k:Nat) (a_0:Option Addr) (any_2:Bool) (n_7 k_8:Int) (R:VP) (M:Mem):Prop:=aL pr aB R (bO PP sS.h (gR Tryz.f220) [true,false,false,true,false,true,true] [k] [(0,.ptr (.v a_0)),(2,.bool (.v any_2)),(7,.int .i64 (.v n_7)),(8,.int .i64 (.v k_8))] M)
theorem sS.Is.J2 {pr:Prim} {aB:fC} (H:sS.Is pr aB R) (k:Nat) (a_0:Option Addr) (any_2:Bool) (n_7 k_8:Int) (M:Mem):sS.J2 aB k a_0 any_2 n_7 k_8 M = sS.J2.T pr aB k a_0 any_2 n_7 k_8 R M:=(H _ _ _ _ _ rfl).trans (by kernel_rfl)
abbrev sS.J3 (k:Nat) (a_0:Option Addr) (any_2:Bool) (n_7 k_8 up_9:Int) (M:Mem):Prop:=aB [true,true,false,false,true,false,false,true,false,true,true] [k] [(0,.pointer a_0),(2,.bool any_2),(7,.int .i64 n_7),(8,.int .i64 k_8),(9,.int .i64 up_9)] M
def sS.J3.T (k:Nat) (a_0:Option Addr) (any_2:Bool) (n_7 k_8 up_9:Int) (R:VP) (M:Mem):Prop:=aL pr aB R (bO PP sS.h (gR Tryz.f220) [true,true,false,false,true,false,false,true,false,true,true] [k] [(0,.ptr (.v a_0)),(2,.bool (.v any_2)),(7,.int .i64 (.v n_7)),(8,.int .i64 (.v k_8)),(9,.int .i64 (.v up_9))] M)
theorem sS.Is.J3 {pr:Prim} {aB:fC} (H:sS.Is pr aB R) (k:Nat) (a_0:Option Addr) (any_2:Bool) (n_7 k_8 up_9:Int) (M:Mem):sS.J3 aB k a_0 any_2 n_7 k_8 up_9 M = sS.J3.T pr aB k a_0 any_2 n_7 k_8 up_9 R M:=(H _ _ _ _ _ rfl).trans (by kernel_rfl)
def sS.T (a:Option Addr) (i:Int) (any:Bool) (R:VP) (M:Mem):Prop:=aL pr aB R (gX PP sS.h [] [] (gR Tryz.f220) [(0,.ptr (.v a)),(1,.int .i64 (.v i)),(2,.bool (.v any))] M)
theorem sS.go (a:Option Addr) (i:Int) (any:Bool) (h:∀ aB,sS.Is (aJ PP w0) aB R→sS.T (aJ PP w0) aB a i any R M):C PP w0 Id.sS #[.pointer a,.int .i64 i,.bool any] R M :=
  dB mixed (h:=sS.h) (T:=fun pr aB=>sS.T pr aB a i any R M) Tryz.func220 (c7 _ _) (by kernel_rfl) (fun pr aB=>by kernel_rfl) h
noncomputable def gW.h:HC:=aH (bd Tryz.f221) []
def gW.T (a:Option Addr) (n m:Int) (R:VP) (M:Mem):Prop:=aL pr (fun _ _ _ _=>False) R (gX PP gW.h [] [] (gR Tryz.f221) [(0,.ptr (.v a)),(1,.int .i64 (.v n)),(2,.int .i64 (.v m))] M)
theorem gW.go (a:Option Addr) (n m:Int) (h:gW.T (aJ PP w0) a n m R M):C PP w0 Id.gW #[.pointer a,.int .i64 n,.int .i64 m] R M :=
  dB mixed (h:=gW.h) (T:=fun pr aB=>gW.T pr a n m R M) Tryz.func221 (c7 _ _) (by kernel_rfl) (fun pr aB=>by kernel_rfl) fun _ _=>h
noncomputable def cG.h:HC:=aH (bd Tryz.f224) []
def cG.T (s:SV) (v:Int) (R:VP) (M:Mem):Prop:=aL pr (fun _ _ _ _=>False) R (gX PP cG.h [] [] (gR Tryz.f224) [(0,.sv s),(1,.int .i64 (.v v))] M)
theorem cG.go (s:SV) (v:Int) (h:cG.T (aJ PP w0) s v R M):C PP w0 Id.cG #[SV.v s,.int .i64 v] R M :=
  dB mixed (h:=cG.h) (T:=fun pr aB=>cG.T pr s v R M) Tryz.func224 (c7 _ _) (by kernel_rfl) (fun pr aB=>by kernel_rfl) fun _ _=>h
noncomputable def mA.h:HC:=aH (bd Tryz.f231) []
def mA.T (x:Int) (R:VP) (M:Mem):Prop:=aL pr (fun _ _ _ _=>False) R (gX PP mA.h [] [] (gR Tryz.f231) [(0,.int .u64 (.v x))] M)
theorem mA.go (x:Int) (h:mA.T (aJ PP w0) x R M):C PP w0 Id.mA #[.int .u64 x] R M :=
  dB mixed (h:=mA.h) (T:=fun pr aB=>mA.T pr x R M) Tryz.func231 (c7 _ _) (by kernel_rfl) (fun pr aB=>by kernel_rfl) fun _ _=>h
noncomputable def gF.h:HC:=aH (bd Tryz.f232) []
def gF.T (p:Option Addr) (R:VP) (M:Mem):Prop:=aL pr (fun _ _ _ _=>False) R (gX PP gF.h [] [] (gR Tryz.f232) [(0,.ptr (.v p))] M)
theorem gF.go (p:Option Addr) (h:gF.T (aJ PP w0) p R M):C PP w0 Id.gF #[.pointer p] R M :=
  dB mixed (h:=gF.h) (T:=fun pr aB=>gF.T pr p R M) Tryz.func232 (c7 _ _) (by kernel_rfl) (fun pr aB=>by kernel_rfl) fun _ _=>h
noncomputable def cV.h:HC:=aH (bd Tryz.f233) [([true,true],[0,3,4,6])]
def cV.Is (R:VP):Prop:=pF PP pr aB cV.h Tryz.f233 R
abbrev cV.J1 (p_0:Option Addr) (v_3:Addr) (t4:Addr) (at_6:Int) (M:Mem):Prop:=aB [true,true,true] [] [(0,.pointer p_0),(3,.pointer (some v_3)),(4,.pointer (some t4)),(6,.int .i64 at_6)] M
def cV.J1.T (p_0:Option Addr) (v_3:Addr) (t4:Addr) (at_6:Int) (R:VP) (M:Mem):Prop:=aL pr aB R (bO PP cV.h (gR Tryz.f233) [true,true,true] [] [(0,.ptr (.v p_0)),(3,.ptr (.a (.v v_3))),(4,.ptr (.a (.v t4))),(6,.int .i64 (.v at_6))] M)
theorem cV.Is.J1 {pr:Prim} {aB:fC} (H:cV.Is pr aB R) (p_0:Option Addr) (v_3:Addr) (t4:Addr) (at_6:Int) (M:Mem):cV.J1 aB p_0 v_3 t4 at_6 M = cV.J1.T pr aB p_0 v_3 t4 at_6 R M:=(H _ _ _ _ _ rfl).trans (by kernel_rfl)
def cV.T (p:Option Addr) (v_0 v_1 v_2 v_3 v_4:Int) (R:VP) (M:Mem):Prop:=aL pr aB R (gX PP cV.h [] [] (gR Tryz.f233) [(0,.ptr (.v p)),(1,.agg [.int .i64 (.v v_0),.int .i64 (.v v_1),.int .i64 (.v v_2),.int .i64 (.v v_3),.int .i64 (.v v_4)])] M)
theorem cV.go (p:Option Addr) (v_0 v_1 v_2 v_3 v_4:Int) (h:∀ aB,cV.Is (aJ PP w0) aB R→cV.T (aJ PP w0) aB p v_0 v_1 v_2 v_3 v_4 R M):C PP w0 Id.cV #[.pointer p,.agg #[.int .i64 v_0,.int .i64 v_1,.int .i64 v_2,.int .i64 v_3,.int .i64 v_4]] R M :=
  dB mixed (h:=cV.h) (T:=fun pr aB=>cV.T pr aB p v_0 v_1 v_2 v_3 v_4 R M) Tryz.func233 (c7 _ _) (by kernel_rfl) (fun pr aB=>by kernel_rfl) h
noncomputable def j8.h:HC:=aH (bd Tryz.f234) []
def j8.T (p:Option Addr) (r_0 r_1 v_0 v_1 v_2 v_3 v_4:Int) (R:VP) (M:Mem):Prop:=aL pr (fun _ _ _ _=>False) R (gX PP j8.h [] [] (gR Tryz.f234) [(0,.ptr (.v p)),(1,.agg [.int .i64 (.v r_0),.int .i64 (.v r_1)]),(2,.agg [.int .i64 (.v v_0),.int .i64 (.v v_1),.int .i64 (.v v_2),.int .i64 (.v v_3),.int .i64 (.v v_4)])] M)
theorem j8.go (p:Option Addr) (r_0 r_1 v_0 v_1 v_2 v_3 v_4:Int) (h:j8.T (aJ PP w0) p r_0 r_1 v_0 v_1 v_2 v_3 v_4 R M):C PP w0 Id.j8 #[.pointer p,.agg #[.int .i64 r_0,.int .i64 r_1],.agg #[.int .i64 v_0,.int .i64 v_1,.int .i64 v_2,.int .i64 v_3,.int .i64 v_4]] R M :=
  dB mixed (h:=j8.h) (T:=fun pr aB=>j8.T pr p r_0 r_1 v_0 v_1 v_2 v_3 v_4 R M) Tryz.func234 (c7 _ _) (by kernel_rfl) (fun pr aB=>by kernel_rfl) fun _ _=>h
noncomputable def lQ.h:HC:=aH (bd Tryz.f235) []
def lQ.T (t:Option Addr) (r_0 r_1:Int) (R:VP) (M:Mem):Prop:=aL pr (fun _ _ _ _=>False) R (gX PP lQ.h [] [] (gR Tryz.f235) [(0,.ptr (.v t)),(1,.agg [.int .i64 (.v r_0),.int .i64 (.v r_1)])] M)
theorem lQ.go (t:Option Addr) (r_0 r_1:Int) (h:lQ.T (aJ PP w0) t r_0 r_1 R M):C PP w0 Id.lQ #[.pointer t,.agg #[.int .i64 r_0,.int .i64 r_1]] R M :=
  dB mixed (h:=lQ.h) (T:=fun pr aB=>lQ.T pr t r_0 r_1 R M) Tryz.func235 (c7 _ _) (by kernel_rfl) (fun pr aB=>by kernel_rfl) fun _ _=>h
noncomputable def eD.h:HC:=aH (bd Tryz.f238) []
def eD.T (x:Int) (R:VP) (M:Mem):Prop:=aL pr (fun _ _ _ _=>False) R (gX PP eD.h [] [] (gR Tryz.f238) [(0,.int .i64 (.v x))] M)
theorem eD.go (x:Int) (h:eD.T (aJ PP w0) x R M):C PP w0 Id.eD #[.int .i64 x] R M :=
  dB mixed (h:=eD.h) (T:=fun pr aB=>eD.T pr x R M) Tryz.func238 (c7 _ _) (by kernel_rfl) (fun pr aB=>by kernel_rfl) fun _ _=>h
noncomputable def l0.h:HC:=aH (bd Tryz.f239) []
def l0.T (a:Option Addr) (n i:Int) (R:VP) (M:Mem):Prop:=aL pr (fun _ _ _ _=>False) R (gX PP l0.h [] [] (gR Tryz.f239) [(0,.ptr (.v a)),(1,.int .i64 (.v n)),(2,.int .i64 (.v i))] M)
theorem l0.go (a:Option Addr) (n i:Int) (h:l0.T (aJ PP w0) a n i R M):C PP w0 Id.l0 #[.pointer a,.int .i64 n,.int .i64 i] R M :=
  dB mixed (h:=l0.h) (T:=fun pr aB=>l0.T pr a n i R M) Tryz.func239 (c7 _ _) (by kernel_rfl) (fun pr aB=>by kernel_rfl) fun _ _=>h
noncomputable def mN.h:HC:=aH (bd Tryz.f240) []
def mN.T (a:Option Addr) (R:VP) (M:Mem):Prop:=aL pr (fun _ _ _ _=>False) R (gX PP mN.h [] [] (gR Tryz.f240) [(0,.ptr (.v a))] M)
theorem mN.go (a:Option Addr) (h:mN.T (aJ PP w0) a R M):C PP w0 Id.mN #[.pointer a] R M :=
  dB mixed (h:=mN.h) (T:=fun pr aB=>mN.T pr a R M) Tryz.func240 (c7 _ _) (by kernel_rfl) (fun pr aB=>by kernel_rfl) fun _ _=>h
noncomputable def jD.h:HC:=aH (bd Tryz.f241) [([true,true,true],[0,1,8])]
def jD.Is (R:VP):Prop:=pF PP pr aB jD.h Tryz.f241 R
abbrev jD.J1 (a_0:Option Addr) (n_1 low_8:Int) (M:Mem):Prop:=aB [true,true,true,true] [] [(0,.pointer a_0),(1,.int .i64 n_1),(8,.int .i64 low_8)] M
def jD.J1.T (a_0:Option Addr) (n_1 low_8:Int) (R:VP) (M:Mem):Prop:=aL pr aB R (bO PP jD.h (gR Tryz.f241) [true,true,true,true] [] [(0,.ptr (.v a_0)),(1,.int .i64 (.v n_1)),(8,.int .i64 (.v low_8))] M)
theorem jD.Is.J1 {pr:Prim} {aB:fC} (H:jD.Is pr aB R) (a_0:Option Addr) (n_1 low_8:Int) (M:Mem):jD.J1 aB a_0 n_1 low_8 M = jD.J1.T pr aB a_0 n_1 low_8 R M:=(H _ _ _ _ _ rfl).trans (by kernel_rfl)
def jD.T (a:Option Addr) (n:Int) (R:VP) (M:Mem):Prop:=aL pr aB R (gX PP jD.h [] [] (gR Tryz.f241) [(0,.ptr (.v a)),(1,.int .i64 (.v n))] M)
theorem jD.go (a:Option Addr) (n:Int) (h:∀ aB,jD.Is (aJ PP w0) aB R→jD.T (aJ PP w0) aB a n R M):C PP w0 Id.jD #[.pointer a,.int .i64 n] R M :=
  dB mixed (h:=jD.h) (T:=fun pr aB=>jD.T pr aB a n R M) Tryz.func241 (c7 _ _) (by kernel_rfl) (fun pr aB=>by kernel_rfl) h
end
end HL
namespace HL
noncomputable def aAM.h:HC:=aH (bd Tryz.f242) []
def aAM.T (pr:Prim) (x:SV) (cmp:FuncId × Array Value) (R:VP) (M:Mem):Prop:=aL pr (fun _ _ _ _=>False) R (gX PP aAM.h [] [] (gR Tryz.f242) [(0,.sv x),(1,.kf cmp)] M)
theorem aAM.go (w0:World) (x:SV) (cmp:FuncId × Array Value) {R:VP} {M:Mem} (h:aAM.T (aJ PP w0) x cmp R M):C PP w0 Id.aAM #[SV.v x,.func (.func cmp.1) #[] cmp.2] R M :=
  dB mixed (h:=aAM.h) (T:=fun pr aB=>aAM.T pr x cmp R M) Tryz.func242 (c7 _ _) (by kernel_rfl) (fun pr aB=>by kernel_rfl) fun _ _=>h
noncomputable def nE.h:HC:=aH (bd Tryz.f243) []
def nE.T (pr:Prim) (x_0 x_1 y_0 y_1:Int) (R:VP) (M:Mem):Prop:=aL pr (fun _ _ _ _=>False) R (gX PP nE.h [] [] (gR Tryz.f243) [(0,.agg [.int .i64 (.v x_0),.int .i64 (.v x_1)]),(1,.agg [.int .i64 (.v y_0),.int .i64 (.v y_1)])] M)
theorem nE.go (w0:World) (x_0 x_1 y_0 y_1:Int) {R:VP} {M:Mem} (h:nE.T (aJ PP w0) x_0 x_1 y_0 y_1 R M):C PP w0 Id.nE #[.agg #[.int .i64 x_0,.int .i64 x_1],.agg #[.int .i64 y_0,.int .i64 y_1]] R M :=
  dB mixed (h:=nE.h) (T:=fun pr aB=>nE.T pr x_0 x_1 y_0 y_1 R M) Tryz.func243 (c7 _ _) (by kernel_rfl) (fun pr aB=>by kernel_rfl) fun _ _=>h
noncomputable def cJ.h:HC:=aH (bd Tryz.f244) [([true],[0,1,2,3])]
def cJ.Is (pr:Prim) (aB:fC) (R:VP):Prop:=pF PP pr aB cJ.h Tryz.f244 R
abbrev cJ.J1 (aB:fC) (a_0:Option Addr) (n_1 m_2 rank_3:Int) (M:Mem):Prop:=aB [true,true] [] [(0,.pointer a_0),(1,.int .i64 n_1),(2,.int .i64 m_2),(3,.int .i64 rank_3)] M
def cJ.J1.T (pr:Prim) (aB:fC) (a_0:Option Addr) (n_1 m_2 rank_3:Int) (R:VP) (M:Mem):Prop:=aL pr aB R (bO PP cJ.h (gR Tryz.f244) [true,true] [] [(0,.ptr (.v a_0)),(1,.int .i64 (.v n_1)),(2,.int .i64 (.v m_2)),(3,.int .i64 (.v rank_3))] M)
theorem cJ.Is.J1 {pr:Prim} {aB:fC} {R:VP} (H:cJ.Is pr aB R) (a_0:Option Addr) (n_1 m_2 rank_3:Int) (M:Mem):cJ.J1 aB a_0 n_1 m_2 rank_3 M = cJ.J1.T pr aB a_0 n_1 m_2 rank_3 R M:=(H _ _ _ _ _ rfl).trans (by kernel_rfl)
def cJ.T (pr:Prim) (aB:fC) (a:Option Addr) (n m rank:Int) (R:VP) (M:Mem):Prop:=aL pr aB R (gX PP cJ.h [] [] (gR Tryz.f244) [(0,.ptr (.v a)),(1,.int .i64 (.v n)),(2,.int .i64 (.v m)),(3,.int .i64 (.v rank))] M)
theorem cJ.go (w0:World) (a:Option Addr) (n m rank:Int) {R:VP} {M:Mem} (h:∀ aB,cJ.Is (aJ PP w0) aB R→cJ.T (aJ PP w0) aB a n m rank R M):C PP w0 Id.cJ #[.pointer a,.int .i64 n,.int .i64 m,.int .i64 rank] R M :=
  dB mixed (h:=cJ.h) (T:=fun pr aB=>cJ.T pr aB a n m rank R M) Tryz.func244 (c7 _ _) (by kernel_rfl) (fun pr aB=>by kernel_rfl) h
noncomputable def dR.h:HC:=aH (bd Tryz.f245) []
def dR.T (pr:Prim) (s:SV) (i:Int) (v:SV) (R:VP) (M:Mem):Prop:=aL pr (fun _ _ _ _=>False) R (gX PP dR.h [] [] (gR Tryz.f245) [(0,.sv s),(1,.int .i64 (.v i)),(2,.sv v)] M)
theorem dR.go (w0:World) (s:SV) (i:Int) (v:SV) {R:VP} {M:Mem} (h:dR.T (aJ PP w0) s i v R M):C PP w0 Id.dR #[SV.v s,.int .i64 i,SV.v v] R M :=
  dB mixed (h:=dR.h) (T:=fun pr aB=>dR.T pr s i v R M) Tryz.func245 (c7 _ _) (by kernel_rfl) (fun pr aB=>by kernel_rfl) fun _ _=>h
noncomputable def dH.h:HC:=aH (bd Tryz.f246) [([true,true,false,true,false],[0,1,5,6])]
def dH.Is (pr:Prim) (aB:fC) (R:VP):Prop:=pF PP pr aB dH.h Tryz.f246 R
abbrev dH.L1 (aB:fC) (k:Nat) (a_0:Option Addr) (l_1:SV) (next_5 k_6:Int) (M:Mem):Prop:=aB [false,false,true,false,true,true] [k] [(0,.pointer a_0),(1,SV.v l_1),(5,.int .i64 next_5),(6,.int .i64 k_6)] M
def dH.L1.T (pr:Prim) (aB:fC) (k:Nat) (a_0:Option Addr) (l_1:SV) (next_5 k_6:Int) (R:VP) (M:Mem):Prop:=aL pr aB R (bO PP dH.h (gR Tryz.f246) [false,false,true,false,true,true] [k] [(0,.ptr (.v a_0)),(1,.sv l_1),(5,.int .i64 (.v next_5)),(6,.int .i64 (.v k_6))] M)
theorem dH.Is.L1 {pr:Prim} {aB:fC} {R:VP} (H:dH.Is pr aB R) (k:Nat) (a_0:Option Addr) (l_1:SV) (next_5 k_6:Int) (M:Mem):dH.L1 aB (k + 1) a_0 l_1 next_5 k_6 M = dH.L1.T pr aB k a_0 l_1 next_5 k_6 R M:=(H _ _ _ _ _ rfl).trans (by kernel_rfl)
def dH.T (pr:Prim) (aB:fC) (a:Option Addr) (l:SV) (R:VP) (M:Mem):Prop:=aL pr aB R (gX PP dH.h [] [] (gR Tryz.f246) [(0,.ptr (.v a)),(1,.sv l)] M)
theorem dH.go (w0:World) (a:Option Addr) (l:SV) {R:VP} {M:Mem} (h:∀ aB,dH.Is (aJ PP w0) aB R→dH.T (aJ PP w0) aB a l R M):C PP w0 Id.dH #[.pointer a,SV.v l] R M :=
  dB mixed (h:=dH.h) (T:=fun pr aB=>dH.T pr aB a l R M) Tryz.func246 (c7 _ _) (by kernel_rfl) (fun pr aB=>by kernel_rfl) h
noncomputable def cL.h:HC:=aH (bd Tryz.f247) [([true,true,false,false],[0,1,2,7]),([true,true,false,false,false],[0,1,2,7])]
def cL.Is (pr:Prim) (aB:fC) (R:VP):Prop:=pF PP pr aB cL.h Tryz.f247 R
abbrev cL.L1 (aB:fC) (k:Nat) (a_0:Option Addr) (n_1 field_2:Int) (out_7:SV) (M:Mem):Prop:=aB [false,false,false,true,true] [k] [(0,.pointer a_0),(1,.int .i64 n_1),(2,.int .i64 field_2),(7,SV.v out_7)] M
def cL.L1.T (pr:Prim) (aB:fC) (k:Nat) (a_0:Option Addr) (n_1 field_2:Int) (out_7:SV) (R:VP) (M:Mem):Prop:=aL pr aB R (bO PP cL.h (gR Tryz.f247) [false,false,false,true,true] [k] [(0,.ptr (.v a_0)),(1,.int .i64 (.v n_1)),(2,.int .i64 (.v field_2)),(7,.sv out_7)] M)
theorem cL.Is.L1 {pr:Prim} {aB:fC} {R:VP} (H:cL.Is pr aB R) (k:Nat) (a_0:Option Addr) (n_1 field_2:Int) (out_7:SV) (M:Mem):cL.L1 aB (k + 1) a_0 n_1 field_2 out_7 M = cL.L1.T pr aB k a_0 n_1 field_2 out_7 R M:=(H _ _ _ _ _ rfl).trans (by kernel_rfl)
abbrev cL.J2 (aB:fC) (k:Nat) (a_0:Option Addr) (n_1 field_2:Int) (out_7:SV) (M:Mem):Prop:=aB [true,false,false,false,true,true] [k] [(0,.pointer a_0),(1,.int .i64 n_1),(2,.int .i64 field_2),(7,SV.v out_7)] M
def cL.J2.T (pr:Prim) (aB:fC) (k:Nat) (a_0:Option Addr) (n_1 field_2:Int) (out_7:SV) (R:VP) (M:Mem):Prop:=aL pr aB R (bO PP cL.h (gR Tryz.f247) [true,false,false,false,true,true] [k] [(0,.ptr (.v a_0)),(1,.int .i64 (.v n_1)),(2,.int .i64 (.v field_2)),(7,.sv out_7)] M)
theorem cL.Is.J2 {pr:Prim} {aB:fC} {R:VP} (H:cL.Is pr aB R) (k:Nat) (a_0:Option Addr) (n_1 field_2:Int) (out_7:SV) (M:Mem):cL.J2 aB k a_0 n_1 field_2 out_7 M = cL.J2.T pr aB k a_0 n_1 field_2 out_7 R M:=(H _ _ _ _ _ rfl).trans (by kernel_rfl)
def cL.T (pr:Prim) (aB:fC) (a:Option Addr) (n field:Int) (R:VP) (M:Mem):Prop:=aL pr aB R (gX PP cL.h [] [] (gR Tryz.f247) [(0,.ptr (.v a)),(1,.int .i64 (.v n)),(2,.int .i64 (.v field))] M)
theorem cL.go (w0:World) (a:Option Addr) (n field:Int) {R:VP} {M:Mem} (h:∀ aB,cL.Is (aJ PP w0) aB R→cL.T (aJ PP w0) aB a n field R M):C PP w0 Id.cL #[.pointer a,.int .i64 n,.int .i64 field] R M :=
  dB mixed (h:=cL.h) (T:=fun pr aB=>cL.T pr aB a n field R M) Tryz.func247 (c7 _ _) (by kernel_rfl) (fun pr aB=>by kernel_rfl) h
noncomputable def kW.h:HC:=aH (bd Tryz.f248) []
def kW.T (pr:Prim) (a:Option Addr) (n m:Int) (R:VP) (M:Mem):Prop:=aL pr (fun _ _ _ _=>False) R (gX PP kW.h [] [] (gR Tryz.f248) [(0,.ptr (.v a)),(1,.int .i64 (.v n)),(2,.int .i64 (.v m))] M)
theorem kW.go (w0:World) (a:Option Addr) (n m:Int) {R:VP} {M:Mem} (h:kW.T (aJ PP w0) a n m R M):C PP w0 Id.kW #[.pointer a,.int .i64 n,.int .i64 m] R M :=
  dB mixed (h:=kW.h) (T:=fun pr aB=>kW.T pr a n m R M) Tryz.func248 (c7 _ _) (by kernel_rfl) (fun pr aB=>by kernel_rfl) fun _ _=>h
noncomputable def gU.h:HC:=aH (bd Tryz.f249) []
def gU.T (pr:Prim) (a:Option Addr) (n up:Int) (R:VP) (M:Mem):Prop:=aL pr (fun _ _ _ _=>False) R (gX PP gU.h [] [] (gR Tryz.f249) [(0,.ptr (.v a)),(1,.int .i64 (.v n)),(2,.int .i64 (.v up))] M)
theorem gU.go (w0:World) (a:Option Addr) (n up:Int) {R:VP} {M:Mem} (h:gU.T (aJ PP w0) a n up R M):C PP w0 Id.gU #[.pointer a,.int .i64 n,.int .i64 up] R M :=
  dB mixed (h:=gU.h) (T:=fun pr aB=>gU.T pr a n up R M) Tryz.func249 (c7 _ _) (by kernel_rfl) (fun pr aB=>by kernel_rfl) fun _ _=>h
noncomputable def qE.h:HC:=aH (bd Tryz.f251) [([true,true,true,false,true,false],[0,1,5,6])]
def qE.Is (pr:Prim) (aB:fC) (R:VP):Prop:=pF PP pr aB qE.h Tryz.f251 R
abbrev qE.L1 (aB:fC) (k:Nat) (s_0:SV) (del_1:FuncId × Array Value) (i_5 j_6:Int) (M:Mem):Prop:=aB [false,false,true,false,true,true,true] [k] [(0,SV.v s_0),(1,kfV del_1),(5,.int .i64 i_5),(6,.int .i64 j_6)] M
def qE.L1.T (pr:Prim) (aB:fC) (k:Nat) (s_0:SV) (del_1:FuncId × Array Value) (i_5 j_6:Int) (R:VP) (M:Mem):Prop:=aL pr aB R (bO PP qE.h (gR Tryz.f251) [false,false,true,false,true,true,true] [k] [(0,.sv s_0),(1,.kf del_1),(5,.int .i64 (.v i_5)),(6,.int .i64 (.v j_6))] M)
theorem qE.Is.L1 {pr:Prim} {aB:fC} {R:VP} (H:qE.Is pr aB R) (k:Nat) (s_0:SV) (del_1:FuncId × Array Value) (i_5 j_6:Int) (M:Mem):qE.L1 aB (k + 1) s_0 del_1 i_5 j_6 M = qE.L1.T pr aB k s_0 del_1 i_5 j_6 R M:=(H _ _ _ _ _ rfl).trans (by kernel_rfl)
def qE.T (pr:Prim) (aB:fC) (s:SV) (del:FuncId × Array Value) (R:VP) (M:Mem):Prop:=aL pr aB R (gX PP qE.h [] [] (gR Tryz.f251) [(0,.sv s),(1,.kf del)] M)
theorem qE.go (w0:World) (s:SV) (del:FuncId × Array Value) {R:VP} {M:Mem} (h:∀ aB,qE.Is (aJ PP w0) aB R→qE.T (aJ PP w0) aB s del R M):C PP w0 Id.qE #[SV.v s,.func (.func del.1) #[] del.2] R M :=
  dB mixed (h:=qE.h) (T:=fun pr aB=>qE.T pr aB s del R M) Tryz.func251 (c7 _ _) (by kernel_rfl) (fun pr aB=>by kernel_rfl) h
noncomputable def fT.h:HC:=aH (bd Tryz.f252) []
def fT.T (pr:Prim) (x:Int) (c1:Addr) (R:VP) (M:Mem):Prop:=aL pr (fun _ _ _ _=>False) R (gX PP fT.h [] [] (gR Tryz.f252) [(0,.int .i64 (.v x)),(1,.ptr (.a (.v c1)))] M)
theorem fT.go (w0:World) (x:Int) (c1:Addr) {R:VP} {M:Mem} (h:fT.T (aJ PP w0) x c1 R M):C PP w0 Id.fT #[.int .i64 x,.pointer (some c1)] R M :=
  dB mixed (h:=fT.h) (T:=fun pr aB=>fT.T pr x c1 R M) Tryz.func252 (c7 _ _) (by kernel_rfl) (fun pr aB=>by kernel_rfl) fun _ _=>h
noncomputable def jA.h:HC:=aH (bd Tryz.f253) []
def jA.T (pr:Prim) (a:Option Addr) (n:Int) (R:VP) (M:Mem):Prop:=aL pr (fun _ _ _ _=>False) R (gX PP jA.h [] [] (gR Tryz.f253) [(0,.ptr (.v a)),(1,.int .i64 (.v n))] M)
theorem jA.go (w0:World) (a:Option Addr) (n:Int) {R:VP} {M:Mem} (h:jA.T (aJ PP w0) a n R M):C PP w0 Id.jA #[.pointer a,.int .i64 n] R M :=
  dB mixed (h:=jA.h) (T:=fun pr aB=>jA.T pr a n R M) Tryz.func253 (c7 _ _) (by kernel_rfl) (fun pr aB=>by kernel_rfl) fun _ _=>h
noncomputable def uV.h:HC:=aH (bd Tryz.f254) []
def uV.T (pr:Prim) (x:Int) (c1:Addr) (R:VP) (M:Mem):Prop:=aL pr (fun _ _ _ _=>False) R (gX PP uV.h [] [] (gR Tryz.f254) [(0,.int .i64 (.v x)),(1,.ptr (.a (.v c1)))] M)
theorem uV.go (w0:World) (x:Int) (c1:Addr) {R:VP} {M:Mem} (h:uV.T (aJ PP w0) x c1 R M):C PP w0 Id.uV #[.int .i64 x,.pointer (some c1)] R M :=
  dB mixed (h:=uV.h) (T:=fun pr aB=>uV.T pr x c1 R M) Tryz.func254 (c7 _ _) (by kernel_rfl) (fun pr aB=>by kernel_rfl) fun _ _=>h
noncomputable def hU.h:HC:=aH (bd Tryz.f260) []
def hU.T (pr:Prim) (a:Option Addr) (i j:Int) (R:VP) (M:Mem):Prop:=aL pr (fun _ _ _ _=>False) R (gX PP hU.h [] [] (gR Tryz.f260) [(0,.ptr (.v a)),(1,.int .i64 (.v i)),(2,.int .i64 (.v j))] M)
theorem hU.go (w0:World) (a:Option Addr) (i j:Int) {R:VP} {M:Mem} (h:hU.T (aJ PP w0) a i j R M):C PP w0 Id.hU #[.pointer a,.int .i64 i,.int .i64 j] R M :=
  dB mixed (h:=hU.h) (T:=fun pr aB=>hU.T pr a i j R M) Tryz.func260 (c7 _ _) (by kernel_rfl) (fun pr aB=>by kernel_rfl) fun _ _=>h
noncomputable def rU.h:HC:=aH (bd Tryz.f263) [([true,false,true,false],[0,1,7,8])]
def rU.Is (pr:Prim) (aB:fC) (R:VP):Prop:=pF PP pr aB rU.h Tryz.f263 R
abbrev rU.L1 (aB:fC) (k:Nat) (s_0:SV) (v_1 t7 t8:Int) (M:Mem):Prop:=aB [false,false,true,false,true] [k] [(0,SV.v s_0),(1,.int .i64 v_1),(7,.int .i64 t7),(8,.int .i64 t8)] M
def rU.L1.T (pr:Prim) (aB:fC) (k:Nat) (s_0:SV) (v_1 t7 t8:Int) (R:VP) (M:Mem):Prop:=aL pr aB R (bO PP rU.h (gR Tryz.f263) [false,false,true,false,true] [k] [(0,.sv s_0),(1,.int .i64 (.v v_1)),(7,.int .i64 (.v t7)),(8,.int .i64 (.v t8))] M)
theorem rU.Is.L1 {pr:Prim} {aB:fC} {R:VP} (H:rU.Is pr aB R) (k:Nat) (s_0:SV) (v_1 t7 t8:Int) (M:Mem):rU.L1 aB (k + 1) s_0 v_1 t7 t8 M = rU.L1.T pr aB k s_0 v_1 t7 t8 R M:=(H _ _ _ _ _ rfl).trans (by kernel_rfl)
def rU.T (pr:Prim) (aB:fC) (s:SV) (v:Int) (R:VP) (M:Mem):Prop:=aL pr aB R (gX PP rU.h [] [] (gR Tryz.f263) [(0,.sv s),(1,.int .i64 (.v v))] M)
theorem rU.go (w0:World) (s:SV) (v:Int) {R:VP} {M:Mem} (h:∀ aB,rU.Is (aJ PP w0) aB R→rU.T (aJ PP w0) aB s v R M):C PP w0 Id.rU #[SV.v s,.int .i64 v] R M :=
  dB mixed (h:=rU.h) (T:=fun pr aB=>rU.T pr aB s v R M) Tryz.func263 (c7 _ _) (by kernel_rfl) (fun pr aB=>by kernel_rfl) h
noncomputable def aE.h:HC:=aH ((Tryz.f271.body).getD .skip) [([true],[0,2]),([true,true],[0,2]),([true,true,true],[0,2])]
abbrev aE.J1 (aB:fC) (x_0 n_2:Int) (M:Mem):Prop:=aB [true,true] [] [(0,.int .u64 x_0),(2,.int .i64 n_2)] M
abbrev aE.J2 (aB:fC) (x_0 n_2:Int) (M:Mem):Prop:=aB [true,true,true] [] [(0,.int .u64 x_0),(2,.int .i64 n_2)] M
abbrev aE.J3 (aB:fC) (x_0 n_2:Int) (M:Mem):Prop:=aB [true,true,true,true] [] [(0,.int .u64 x_0),(2,.int .i64 n_2)] M
def aE.aB (pr:Prim) (R:VP):fC:=uD PP pr aE.h (aBA pr Tryz.f271.results.toList R)
def aE.J1.T (pr:Prim) (aB:fC) (x_0 n_2:Int) (R:VP) (M:Mem):Prop:=bs (decide (x_0≥65536)) ((0≤(16:Int)∧aE.J2 aB (Int.fdiv x_0 (2 ^ (min (16:Int).toNat (IntKind.bits .u64)))) (qB (n_2 + 16)) M)) (aE.J2 aB x_0 n_2 M)
theorem aE.J1.eqX (pr:Prim) (aB:fC) (x_0 n_2:Int) (R:VP) (M:Mem):zY PP pr aB aE.h (aBA pr Tryz.f271.results.toList R) [true,true] [] [(0,.int .u64 x_0),(2,.int .i64 n_2)] M = aE.J1.T pr aB x_0 n_2 R M:=by kernel_rfl
theorem aE.J1.eq (pr:Prim) (x_0 n_2:Int) (R:VP) (M:Mem):aE.J1 (aE.aB pr R) x_0 n_2 M = aE.J1.T pr (aE.aB pr R) x_0 n_2 R M :=
  (aAl (b:=true) (p:=[true]) (ns:=[]) rfl _ _).trans (aE.J1.eqX pr (aE.aB pr R) x_0 n_2 R M)
def aE.J2.T (pr:Prim) (aB:fC) (x_0 n_2:Int) (R:VP) (M:Mem):Prop:=bs (decide (x_0≥256)) ((0≤(8:Int)∧aE.J3 aB (Int.fdiv x_0 (2 ^ (min (8:Int).toNat (IntKind.bits .u64)))) (qB (n_2 + 8)) M)) (aE.J3 aB x_0 n_2 M)
theorem aE.J2.eqX (pr:Prim) (aB:fC) (x_0 n_2:Int) (R:VP) (M:Mem):zY PP pr aB aE.h (aBA pr Tryz.f271.results.toList R) [true,true,true] [] [(0,.int .u64 x_0),(2,.int .i64 n_2)] M = aE.J2.T pr aB x_0 n_2 R M:=by kernel_rfl
theorem aE.J2.eq (pr:Prim) (x_0 n_2:Int) (R:VP) (M:Mem):aE.J2 (aE.aB pr R) x_0 n_2 M = aE.J2.T pr (aE.aB pr R) x_0 n_2 R M :=
  (aAl (b:=true) (p:=[true,true]) (ns:=[]) rfl _ _).trans (aE.J2.eqX pr (aE.aB pr R) x_0 n_2 R M)
def aE.J3.T (pr:Prim) (aB:fC) (x_0 n_2:Int) (R:VP) (M:Mem):Prop:=ob (pr.idx 9 (Value.string ⟨(([0,1,2,2,3,3,3,3,4,4,4,4,4,4,4,4,5,5,5,5,5,5,5,5,5,5,5,5,5,5,5,5,6,6,6,6,6,6,6,6,6,6,6,6,6,6,6,6,6,6,6,6,6,6,6,6,6,6,6,6,6,6,6,6,7,7,7,7,7,7,7,7,7,7,7,7,7,7,7,7,7,7,7,7,7,7,7,7,7,7,7,7,7,7,7,7,7,7,7,7,7,7,7,7,7,7,7,7,7,7,7,7,7,7,7,7,7,7,7,7,7,7,7,7,7,7,7,7,8,8,8,8,8,8,8,8,8,8,8,8,8,8,8,8,8,8,8,8,8,8,8,8,8,8,8,8,8,8,8,8,8,8,8,8,8,8,8,8,8,8,8,8,8,8,8,8,8,8,8,8,8,8,8,8,8,8,8,8,8,8,8,8,8,8,8,8,8,8,8,8,8,8,8,8,8,8,8,8,8,8,8,8,8,8,8,8,8,8,8,8,8,8,8,8,8,8,8,8,8,8,8,8,8,8,8,8,8,8,8,8,8,8,8,8,8,8,8,8,8,8,8,8,8,8,8,8]:List UInt8)).toArray⟩) (.int .u8 (IntKind.wrap .u8 (x_0)))) fun v1=>lT .u8 v1 fun n2=>R (.int .i64 (qB (n_2 + (qB (n2))))) M
theorem aE.J3.eqX (pr:Prim) (aB:fC) (x_0 n_2:Int) (R:VP) (M:Mem):zY PP pr aB aE.h (aBA pr Tryz.f271.results.toList R) [true,true,true,true] [] [(0,.int .u64 x_0),(2,.int .i64 n_2)] M = aE.J3.T pr aB x_0 n_2 R M:=by kernel_rfl
theorem aE.J3.eq (pr:Prim) (x_0 n_2:Int) (R:VP) (M:Mem):aE.J3 (aE.aB pr R) x_0 n_2 M = aE.J3.T pr (aE.aB pr R) x_0 n_2 R M :=
  (aAl (b:=true) (p:=[true,true,true]) (ns:=[]) rfl _ _).trans (aE.J3.eqX pr (aE.aB pr R) x_0 n_2 R M)
structure aE.Is (pr:Prim) (aB:fC) (R:VP):Prop where
  J1:∀ (x_0:Int) (n_2:Int) (M:Mem),aE.J1 aB x_0 n_2 M = aE.J1.T pr aB x_0 n_2 R M
  J2:∀ (x_0:Int) (n_2:Int) (M:Mem),aE.J2 aB x_0 n_2 M = aE.J2.T pr aB x_0 n_2 R M
  J3:∀ (x_0:Int) (n_2:Int) (M:Mem),aE.J3 aB x_0 n_2 M = aE.J3.T pr aB x_0 n_2 R M
theorem aE.is (pr:Prim) (R:VP):aE.Is pr (aE.aB pr R) R:=⟨fun x_0 n_2 M=>aE.J1.eq pr x_0 n_2 R M,fun x_0 n_2 M=>aE.J2.eq pr x_0 n_2 R M,fun x_0 n_2 M=>aE.J3.eq pr x_0 n_2 R M⟩
def aE.T (pr:Prim) (aB:fC) (x:Int) (R:VP) (M:Mem):Prop:=bs (decide (x≥4294967296)) ((0≤(32:Int)∧aE.J1 aB (Int.fdiv x (2 ^ (min (32:Int).toNat (IntKind.bits .u64)))) 32 M)) (aE.J1 aB x 0 M)
theorem aE.eqX (pr:Prim) (aB:fC) (x:Int) (R:VP) (M:Mem):wpX PP pr aB aE.h [] [] (aBA pr Tryz.f271.results.toList R) (xP 0 [.int .u64 x]) M = aE.T pr aB x R M:=by kernel_rfl
theorem aE.eq (pr:Prim) (x:Int) (R:VP) (M:Mem):sT PP pr aE.h (aBA pr Tryz.f271.results.toList R) (xP 0 [.int .u64 x]) M = aE.T pr (aE.aB pr R) x R M:=aEV.trans (aE.eqX pr (aE.aB pr R) x R M)
theorem aE.fn:PP.funcs[Id.aE]? = some Tryz.f271:=Tryz.func271
theorem aE.can:oI PP Id.aE = true:=by kernel_rfl
theorem aE.aLZ:okH Tryz.f271.ntmps aE.h = true:=by kernel_rfl
theorem aE.body:Tryz.f271.body = some ((Tryz.f271.body).getD .skip):=by kernel_rfl
theorem aE.size:(1:Nat)≤Tryz.f271.ntmps:=by decide
theorem aE.go (w0:World) (x:Int) {R:VP} {M:Mem} (h:∀ aB,aE.Is (aJ PP w0) aB R→aE.T (aJ PP w0) aB x R M):C PP w0 Id.aE #[.int .u64 x] R M :=
  aFC mixed aE.fn aE.body aE.can (c7 _ _) aE.aLZ aE.size ((aE.eq (aJ PP w0) x R M).mpr (h _ (aE.is _ _)))
noncomputable def gK.h:HC:=aH (bd Tryz.f272) []
def gK.T (pr:Prim) (p:Option Addr) (r_0 r_1:Int) (R:VP) (M:Mem):Prop:=aL pr (fun _ _ _ _=>False) R (gX PP gK.h [] [] (gR Tryz.f272) [(0,.ptr (.v p)),(1,.agg [.int .i64 (.v r_0),.int .i64 (.v r_1)])] M)
theorem gK.go (w0:World) (p:Option Addr) (r_0 r_1:Int) {R:VP} {M:Mem} (h:gK.T (aJ PP w0) p r_0 r_1 R M):C PP w0 Id.gK #[.pointer p,.agg #[.int .i64 r_0,.int .i64 r_1]] R M :=
  dB mixed (h:=gK.h) (T:=fun pr aB=>gK.T pr p r_0 r_1 R M) Tryz.func272 (c7 _ _) (by kernel_rfl) (fun pr aB=>by kernel_rfl) fun _ _=>h
noncomputable def nS.h:HC:=aH (bd Tryz.f274) []
def nS.T (pr:Prim) (a:Option Addr) (n:Int) (R:VP) (M:Mem):Prop:=aL pr (fun _ _ _ _=>False) R (gX PP nS.h [] [] (gR Tryz.f274) [(0,.ptr (.v a)),(1,.int .i64 (.v n))] M)
theorem nS.go (w0:World) (a:Option Addr) (n:Int) {R:VP} {M:Mem} (h:nS.T (aJ PP w0) a n R M):C PP w0 Id.nS #[.pointer a,.int .i64 n] R M :=
  dB mixed (h:=nS.h) (T:=fun pr aB=>nS.T pr a n R M) Tryz.func274 (c7 _ _) (by kernel_rfl) (fun pr aB=>by kernel_rfl) fun _ _=>h
end HL
namespace HL
section
variable (pr:Prim) (aB:fC) (w0:World) {R:VP} {M:Mem}
noncomputable def nJ.h:HC:=aH (bd Tryz.f275) [([true,true,false,false],[0,1,2,6,7,8]),([true,true,true,true,false],[0,1,2,6]),([true,true,true,true,false,false,true,false,true,false,false],[0,1,2,6,7,8])]
def nJ.Is (R:VP):Prop:=pF PP pr aB nJ.h Tryz.f275 R
abbrev nJ.L1 (k:Nat) (data_0:SV) (n_1:Int) (cmp_2:FuncId × Array Value) (blockSize_6 a_7 b_8:Int) (M:Mem):Prop:=aB [false,false,false,true,true] [k] [(0,SV.v data_0),(1,.int .i64 n_1),(2,kfV cmp_2),(6,.int .i64 blockSize_6),(7,.int .i64 a_7),(8,.int .i64 b_8)] M
def nJ.L1.T (k:Nat) (data_0:SV) (n_1:Int) (cmp_2:FuncId × Array Value) (blockSize_6 a_7 b_8:Int) (R:VP) (M:Mem):Prop:=aL pr aB R (bO PP nJ.h (gR Tryz.f275) [false,false,false,true,true] [k] [(0,.sv data_0),(1,.int .i64 (.v n_1)),(2,.kf cmp_2),(6,.int .i64 (.v blockSize_6)),(7,.int .i64 (.v a_7)),(8,.int .i64 (.v b_8))] M)
theorem nJ.Is.L1 {pr:Prim} {aB:fC} (H:nJ.Is pr aB R) (k:Nat) (data_0:SV) (n_1:Int) (cmp_2:FuncId × Array Value) (blockSize_6 a_7 b_8:Int) (M:Mem):nJ.L1 aB (k + 1) data_0 n_1 cmp_2 blockSize_6 a_7 b_8 M = nJ.L1.T pr aB k data_0 n_1 cmp_2 blockSize_6 a_7 b_8 R M:=(H _ _ _ _ _ rfl).trans (by kernel_rfl)
abbrev nJ.L2 (k:Nat) (data_0:SV) (n_1:Int) (cmp_2:FuncId × Array Value) (blockSize_6:Int) (M:Mem):Prop:=aB [false,false,true,true,true,true] [k] [(0,SV.v data_0),(1,.int .i64 n_1),(2,kfV cmp_2),(6,.int .i64 blockSize_6)] M
def nJ.L2.T (k:Nat) (data_0:SV) (n_1:Int) (cmp_2:FuncId × Array Value) (blockSize_6:Int) (R:VP) (M:Mem):Prop:=aL pr aB R (bO PP nJ.h (gR Tryz.f275) [false,false,true,true,true,true] [k] [(0,.sv data_0),(1,.int .i64 (.v n_1)),(2,.kf cmp_2),(6,.int .i64 (.v blockSize_6))] M)
theorem nJ.Is.L2 {pr:Prim} {aB:fC} (H:nJ.Is pr aB R) (k:Nat) (data_0:SV) (n_1:Int) (cmp_2:FuncId × Array Value) (blockSize_6:Int) (M:Mem):nJ.L2 aB (k + 1) data_0 n_1 cmp_2 blockSize_6 M = nJ.L2.T pr aB k data_0 n_1 cmp_2 blockSize_6 R M:=(H _ _ _ _ _ rfl).trans (by kernel_rfl)
def nJ.T (data:SV) (n:Int) (cmp:FuncId × Array Value) (R:VP) (M:Mem):Prop:=aL pr aB R (gX PP nJ.h [] [] (gR Tryz.f275) [(0,.sv data),(1,.int .i64 (.v n)),(2,.kf cmp)] M)
theorem nJ.go (data:SV) (n:Int) (cmp:FuncId × Array Value) (h:∀ aB,nJ.Is (aJ PP w0) aB R→nJ.T (aJ PP w0) aB data n cmp R M):C PP w0 Id.nJ #[SV.v data,.int .i64 n,.func (.func cmp.1) #[] cmp.2] R M :=
  dB mixed (h:=nJ.h) (T:=fun pr aB=>nJ.T pr aB data n cmp R M) Tryz.func275 (c7 _ _) (by kernel_rfl) (fun pr aB=>by kernel_rfl) h
noncomputable def qM.h:HC:=aH (bd Tryz.f278) [([true,false,true,false],[0,1,7,8])]
def qM.Is (R:VP):Prop:=pF PP pr aB qM.h Tryz.f278 R
abbrev qM.L1 (k:Nat) (s_0:SV) (f_1:FuncId × Array Value) (t7 t8:Int) (M:Mem):Prop:=aB [false,false,true,false,true] [k] [(0,SV.v s_0),(1,kfV f_1),(7,.int .i64 t7),(8,.int .i64 t8)] M
def qM.L1.T (k:Nat) (s_0:SV) (f_1:FuncId × Array Value) (t7 t8:Int) (R:VP) (M:Mem):Prop:=aL pr aB R (bO PP qM.h (gR Tryz.f278) [false,false,true,false,true] [k] [(0,.sv s_0),(1,.kf f_1),(7,.int .i64 (.v t7)),(8,.int .i64 (.v t8))] M)
theorem qM.Is.L1 {pr:Prim} {aB:fC} (H:qM.Is pr aB R) (k:Nat) (s_0:SV) (f_1:FuncId × Array Value) (t7 t8:Int) (M:Mem):qM.L1 aB (k + 1) s_0 f_1 t7 t8 M = qM.L1.T pr aB k s_0 f_1 t7 t8 R M:=(H _ _ _ _ _ rfl).trans (by kernel_rfl)
def qM.T (s:SV) (f:FuncId × Array Value) (R:VP) (M:Mem):Prop:=aL pr aB R (gX PP qM.h [] [] (gR Tryz.f278) [(0,.sv s),(1,.kf f)] M)
theorem qM.go (s:SV) (f:FuncId × Array Value) (h:∀ aB,qM.Is (aJ PP w0) aB R→qM.T (aJ PP w0) aB s f R M):C PP w0 Id.qM #[SV.v s,.func (.func f.1) #[] f.2] R M :=
  dB mixed (h:=qM.h) (T:=fun pr aB=>qM.T pr aB s f R M) Tryz.func278 (c7 _ _) (by kernel_rfl) (fun pr aB=>by kernel_rfl) h
noncomputable def iX.h:HC:=aH (bd Tryz.f283) []
def iX.T (a:Option Addr) (i:Int) (R:VP) (M:Mem):Prop:=aL pr (fun _ _ _ _=>False) R (gX PP iX.h [] [] (gR Tryz.f283) [(0,.ptr (.v a)),(1,.int .i64 (.v i))] M)
theorem iX.go (a:Option Addr) (i:Int) (h:iX.T (aJ PP w0) a i R M):C PP w0 Id.iX #[.pointer a,.int .i64 i] R M :=
  dB mixed (h:=iX.h) (T:=fun pr aB=>iX.T pr a i R M) Tryz.func283 (c7 _ _) (by kernel_rfl) (fun pr aB=>by kernel_rfl) fun _ _=>h
noncomputable def jZ.h:HC:=aH (bd Tryz.f287) [([true,false],[0,1,2,3,8]),([true,false,false,true,false,false,true,false],[0,1,2,3,8,9]),([true,false,false,true,false,false,true,false,false],[0,1,2,3,8,9])]
def jZ.Is (R:VP):Prop:=pF PP pr aB jZ.h Tryz.f287 R
abbrev jZ.L1 (k:Nat) (data_0:SV) (a_1 b_2:Int) (cmp_3:FuncId × Array Value) (i_8:Int) (M:Mem):Prop:=aB [false,false,true] [k] [(0,SV.v data_0),(1,.int .i64 a_1),(2,.int .i64 b_2),(3,kfV cmp_3),(8,.int .i64 i_8)] M
def jZ.L1.T (k:Nat) (data_0:SV) (a_1 b_2:Int) (cmp_3:FuncId × Array Value) (i_8:Int) (R:VP) (M:Mem):Prop:=aL pr aB R (bO PP jZ.h (gR Tryz.f287) [false,false,true] [k] [(0,.sv data_0),(1,.int .i64 (.v a_1)),(2,.int .i64 (.v b_2)),(3,.kf cmp_3),(8,.int .i64 (.v i_8))] M)
theorem jZ.Is.L1 {pr:Prim} {aB:fC} (H:jZ.Is pr aB R) (k:Nat) (data_0:SV) (a_1 b_2:Int) (cmp_3:FuncId × Array Value) (i_8:Int) (M:Mem):jZ.L1 aB (k + 1) data_0 a_1 b_2 cmp_3 i_8 M = jZ.L1.T pr aB k data_0 a_1 b_2 cmp_3 i_8 R M:=(H _ _ _ _ _ rfl).trans (by kernel_rfl)
abbrev jZ.L2 (k:Nat) (k':Nat) (data_0:SV) (a_1 b_2:Int) (cmp_3:FuncId × Array Value) (i_8 j_9:Int) (M:Mem):Prop:=aB [false,false,true,false,false,true,false,false,true] [k',k] [(0,SV.v data_0),(1,.int .i64 a_1),(2,.int .i64 b_2),(3,kfV cmp_3),(8,.int .i64 i_8),(9,.int .i64 j_9)] M
def jZ.L2.T (k:Nat) (k':Nat) (data_0:SV) (a_1 b_2:Int) (cmp_3:FuncId × Array Value) (i_8 j_9:Int) (R:VP) (M:Mem):Prop:=aL pr aB R (bO PP jZ.h (gR Tryz.f287) [false,false,true,false,false,true,false,false,true] [k',k] [(0,.sv data_0),(1,.int .i64 (.v a_1)),(2,.int .i64 (.v b_2)),(3,.kf cmp_3),(8,.int .i64 (.v i_8)),(9,.int .i64 (.v j_9))] M)
theorem jZ.Is.L2 {pr:Prim} {aB:fC} (H:jZ.Is pr aB R) (k:Nat) (k':Nat) (data_0:SV) (a_1 b_2:Int) (cmp_3:FuncId × Array Value) (i_8 j_9:Int) (M:Mem):jZ.L2 aB k (k' + 1) data_0 a_1 b_2 cmp_3 i_8 j_9 M = jZ.L2.T pr aB k k' data_0 a_1 b_2 cmp_3 i_8 j_9 R M:=(H _ _ _ _ _ rfl).trans (by kernel_rfl)
abbrev jZ.J3 (k:Nat) (k':Nat) (data_0:SV) (a_1 b_2:Int) (cmp_3:FuncId × Array Value) (i_8 j_9:Int) (M:Mem):Prop:=aB [true,false,false,true,false,false,true,false,false,true] [k',k] [(0,SV.v data_0),(1,.int .i64 a_1),(2,.int .i64 b_2),(3,kfV cmp_3),(8,.int .i64 i_8),(9,.int .i64 j_9)] M
def jZ.J3.T (k:Nat) (k':Nat) (data_0:SV) (a_1 b_2:Int) (cmp_3:FuncId × Array Value) (i_8 j_9:Int) (R:VP) (M:Mem):Prop:=aL pr aB R (bO PP jZ.h (gR Tryz.f287) [true,false,false,true,false,false,true,false,false,true] [k',k] [(0,.sv data_0),(1,.int .i64 (.v a_1)),(2,.int .i64 (.v b_2)),(3,.kf cmp_3),(8,.int .i64 (.v i_8)),(9,.int .i64 (.v j_9))] M)
theorem jZ.Is.J3 {pr:Prim} {aB:fC} (H:jZ.Is pr aB R) (k:Nat) (k':Nat) (data_0:SV) (a_1 b_2:Int) (cmp_3:FuncId × Array Value) (i_8 j_9:Int) (M:Mem):jZ.J3 aB k k' data_0 a_1 b_2 cmp_3 i_8 j_9 M = jZ.J3.T pr aB k k' data_0 a_1 b_2 cmp_3 i_8 j_9 R M:=(H _ _ _ _ _ rfl).trans (by kernel_rfl)
def jZ.T (data:SV) (a b:Int) (cmp:FuncId × Array Value) (R:VP) (M:Mem):Prop:=aL pr aB R (gX PP jZ.h [] [] (gR Tryz.f287) [(0,.sv data),(1,.int .i64 (.v a)),(2,.int .i64 (.v b)),(3,.kf cmp)] M)
theorem jZ.go (data:SV) (a b:Int) (cmp:FuncId × Array Value) (h:∀ aB,jZ.Is (aJ PP w0) aB R→jZ.T (aJ PP w0) aB data a b cmp R M):C PP w0 Id.jZ #[SV.v data,.int .i64 a,.int .i64 b,.func (.func cmp.1) #[] cmp.2] R M :=
  dB mixed (h:=jZ.h) (T:=fun pr aB=>jZ.T pr aB data a b cmp R M) Tryz.func287 (c7 _ _) (by kernel_rfl) (fun pr aB=>by kernel_rfl) h
end
end HL
end Go.Proofs.YtodobkbnmjgkdaaGreat
