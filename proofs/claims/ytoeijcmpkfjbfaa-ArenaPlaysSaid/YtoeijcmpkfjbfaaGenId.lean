/-
  Printed by gen.py (a program of this work) out of Lean's own print of the program: what each function's code comes to over the heap logic; each equation is checked by the kernel.
-/
import Derived.Test.YtoeijcmpkfjbfaaProg
import Derived.Test.YtoeijcmpkfjbfaaHlG
namespace Go.Proofs.Ytoeijcmpkfjbfaa.HL
open Go.Proofs
noncomputable abbrev PP : Program := Try.prog
theorem mixed : PP.follows .mixedOrders = true := by kernel_rfl
namespace Id
abbrev thicketlaw5_ArenaCells : FuncId := 3
abbrev thicketlaw5_ArenaTells : FuncId := 4
abbrev thicketlaw5_ArenaNumbers : FuncId := 5
abbrev thicketlaw5_ArenaPlays : FuncId := 6
abbrev thicketlaw6_ChainOut : FuncId := 7
abbrev thicketlaw6_ChainJoins : FuncId := 8
abbrev thicketlaw6_ChainNumbers : FuncId := 9
abbrev thicketlaw6_ChainPlays : FuncId := 10
abbrev thicketlaw7_ItemOrders : FuncId := 11
abbrev thicketlaw7_ItemNumbers : FuncId := 12
abbrev thicketlaw7_ItemPlays : FuncId := 13
abbrev arena_New : FuncId := 14
abbrev thicketbook_Within : FuncId := 15
abbrev arena_Arena_Give : FuncId := 16
abbrev arena_Arena_Take : FuncId := 17
abbrev arena_Arena_Get : FuncId := 18
abbrev arena_Arena_Set : FuncId := 19
abbrev arena_Arena_Live : FuncId := 20
abbrev arena_Arena_Len : FuncId := 21
abbrev thicketlaw5_known : FuncId := 22
abbrev arena_Arena_Meter : FuncId := 23
abbrev meter_Meter_Steps : FuncId := 24
abbrev arena_Arena_Cell : FuncId := 25
abbrev thicketlaw5_play : FuncId := 26
abbrev arena_Arena_Cells : FuncId := 27
abbrev thicketlaw5_near : FuncId := 28
abbrev chain_One : FuncId := 29
abbrev chain_Put : FuncId := 30
abbrev chain_Out : FuncId := 31
abbrev chain_Alone : FuncId := 32
abbrev thicketbook_Same_int : FuncId := 33
abbrev chain_All : FuncId := 34
abbrev thicketlaw6_known : FuncId := 35
abbrev chain_Join : FuncId := 36
abbrev thicketlaw6_play : FuncId := 37
abbrev item_New : FuncId := 38
abbrev thicketlaw7_known : FuncId := 39
abbrev item_Lower : FuncId := 40
abbrev item_Before : FuncId := 41
abbrev item_Entry : FuncId := 42
abbrev item_Node : FuncId := 43
abbrev item_Put : FuncId := 44
abbrev item_Swap : FuncId := 45
abbrev thicketref1_Before : FuncId := 46
abbrev meter_New : FuncId := 47
abbrev meter_Meter_Tick : FuncId := 48
abbrev arena_fresh : FuncId := 49
abbrev arena_Arena_has : FuncId := 50
abbrev thicketref5_New : FuncId := 51
abbrev thicketref5_Arena_Give : FuncId := 52
abbrev thicketref5_Arena_Set : FuncId := 53
abbrev thicketref5_Arena_Get : FuncId := 54
abbrev thicketref5_Arena_Cell : FuncId := 55
abbrev thicketref5_Arena_Take : FuncId := 56
abbrev thicketref5_Arena_Len : FuncId := 57
abbrev thicketref5_Arena_Live : FuncId := 58
abbrev chain_link : FuncId := 59
abbrev thicketlaw6_turned : FuncId := 60
abbrev order_Compare : FuncId := 61
abbrev order_Add : FuncId := 62
abbrev thicketref5_fresh : FuncId := 63
abbrev cmp_Or_int : FuncId := 64
abbrev cmp_Compare_int64 : FuncId := 65
abbrev cmp_isNaN_int64 : FuncId := 66
abbrev runtime_boundsError_Error : FuncId := 67
abbrev runtime_boundsError_RuntimeError : FuncId := 68
abbrev runtime_errorString_Error : FuncId := 69
abbrev runtime_errorString_RuntimeError : FuncId := 70
abbrev runtime_plainError_Error : FuncId := 71
abbrev runtime_plainError_RuntimeError : FuncId := 72
abbrev runtime_errorAddressString_Error : FuncId := 73
abbrev runtime_errorAddressString_RuntimeError : FuncId := 74
abbrev runtime_TypeAssertionError_Error : FuncId := 75
abbrev runtime_TypeAssertionError_RuntimeError : FuncId := 76
abbrev runtime_PanicNilError_Error : FuncId := 77
abbrev runtime_PanicNilError_RuntimeError : FuncId := 78
abbrev abi_Type_Align : FuncId := 79
abbrev maps_unhashableTypeError_Error : FuncId := 80
abbrev maps_unhashableTypeError_RuntimeError : FuncId := 81
abbrev meter_Meter_Begin : FuncId := 82
abbrev abi_Kind_String : FuncId := 83
end Id
end Go.Proofs.Ytoeijcmpkfjbfaa.HL
