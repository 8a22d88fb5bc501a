/-
  Printed by gen.py (a program of this work) out of Lean's own print of the program: what each function's code comes to over the heap logic; each equation is checked by the kernel.
-/
import Derived.Test.YtgnfbodlpolibaaProg
import Derived.Test.YtgnfbodlpolibaaHlG
namespace Go.Proofs.Ytgnfbodlpolibaa.HL
open Go.Proofs
noncomputable abbrev PP : Program := Try.prog
theorem mixed : PP.follows .mixedOrders = true := by kernel_rfl
namespace Id
abbrev thicketlaw1_OrderAdds : FuncId := 3
abbrev thicketlaw19_BoundRises : FuncId := 4
abbrev thicketlaw19_BoundSums : FuncId := 5
abbrev thicketlaw16_ModelOrder : FuncId := 6
abbrev thicketlaw16_ModelJoins : FuncId := 7
abbrev thicketlaw16_ModelNumbers : FuncId := 8
abbrev thicketlaw16_ModelPlays : FuncId := 9
abbrev thicketlaw1_OrderOrders : FuncId := 10
abbrev thicketlaw1_OrderNumbers : FuncId := 11
abbrev thicketlaw1_OrderTells : FuncId := 12
abbrev order_Add : FuncId := 13
abbrev thicketlaw1_known : FuncId := 14
abbrev thicketbook_Within : FuncId := 15
abbrev bound_Of : FuncId := 16
abbrev bound_Shared : FuncId := 17
abbrev bound_Budget : FuncId := 18
abbrev thicketlaw19_known : FuncId := 19
abbrev thicketlaw19_tame : FuncId := 20
abbrev bound_Sum : FuncId := 21
abbrev model_New : FuncId := 22
abbrev model_Set_Insert : FuncId := 23
abbrev thicketref1_Sort : FuncId := 24
abbrev model_Set_Pop : FuncId := 25
abbrev model_Set_Len : FuncId := 26
abbrev thicketlaw16_known : FuncId := 27
abbrev model_Set_All : FuncId := 28
abbrev model_Set_Join : FuncId := 29
abbrev thicketbook_Sameapi_Entry : FuncId := 30
abbrev thicketlaw16_play : FuncId := 31
abbrev order_Before : FuncId := 32
abbrev thicketlaw1_entries : FuncId := 33
abbrev order_Sort : FuncId := 34
abbrev order_Sorted : FuncId := 35
abbrev thicketlaw1_same : FuncId := 36
abbrev thicketlaw1_list : FuncId := 37
abbrev thicketbook_Roomyapi_Entry : FuncId := 38
abbrev thicketbook_Intactapi_Entry : FuncId := 39
abbrev order_Least : FuncId := 40
abbrev order_Bits : FuncId := 41
abbrev kind_Right : FuncId := 42
abbrev bound_each : FuncId := 43
abbrev kind_Worst : FuncId := 44
abbrev bound_digits : FuncId := 45
abbrev order_Limit : FuncId := 46
abbrev model_Set_find : FuncId := 47
abbrev model_Set_put : FuncId := 48
abbrev thicketref1_Before : FuncId := 49
abbrev model_Set_Min : FuncId := 50
abbrev slices_Deleteapi_Entry_api_Entry : FuncId := 51
abbrev model_Set_Lower : FuncId := 52
abbrev slices_Cloneapi_Entry_api_Entry : FuncId := 53
abbrev slices_ContainsFuncapi_Entry_api_Entry : FuncId := 54
abbrev model_Set_Join_1 : FuncId := 55
abbrev thicketref16_Set_Pop : FuncId := 56
abbrev thicketref16_Set_Lower : FuncId := 57
abbrev model_Set_Remove : FuncId := 58
abbrev thicketref16_Set_Remove : FuncId := 59
abbrev model_Set_Find : FuncId := 60
abbrev thicketref16_Set_Find : FuncId := 61
abbrev thicketref16_Set_Insert : FuncId := 62
abbrev thicketref16_Set_Join : FuncId := 63
abbrev thicketref16_Set_Min : FuncId := 64
abbrev order_Compare : FuncId := 65
abbrev slices_SortStableFuncapi_Entry_api_Entry : FuncId := 66
abbrev slices_IsSortedFuncapi_Entry_api_Entry : FuncId := 67
abbrev thicketref1_Compare : FuncId := 68
abbrev thicketref1_Bits : FuncId := 69
abbrev thicketref1_Add : FuncId := 70
abbrev thicketref1_Limit : FuncId := 71
abbrev thicketref1_Least : FuncId := 72
abbrev thicketref1_Sorted : FuncId := 73
abbrev bits_Len : FuncId := 74
abbrev slices_IndexFuncapi_Entry_api_Entry : FuncId := 75
abbrev model_Set_find_1 : FuncId := 76
abbrev slices_Insertapi_Entry_api_Entry : FuncId := 77
abbrev thicketref16_Set_find : FuncId := 78
abbrev cmp_Or_int : FuncId := 79
abbrev cmp_Compare_int64 : FuncId := 80
abbrev slices_stableCmpFuncapi_Entry : FuncId := 81
abbrev bits_Len32 : FuncId := 82
abbrev bits_Len64 : FuncId := 83
abbrev slices_overlapsapi_Entry : FuncId := 84
abbrev slices_rotateRightapi_Entry : FuncId := 85
abbrev cmp_isNaN_int64 : FuncId := 86
abbrev slices_insertionSortCmpFuncapi_Entry : FuncId := 87
abbrev slices_symMergeCmpFuncapi_Entry : FuncId := 88
abbrev slices_rotateLeftapi_Entry : FuncId := 89
abbrev slices_rotateCmpFuncapi_Entry : FuncId := 90
abbrev slices_Reverseapi_Entry_api_Entry : FuncId := 91
abbrev slices_swapRangeCmpFuncapi_Entry : FuncId := 92
abbrev runtime_boundsError_Error : FuncId := 93
abbrev runtime_boundsError_RuntimeError : FuncId := 94
abbrev runtime_errorString_Error : FuncId := 95
abbrev runtime_errorString_RuntimeError : FuncId := 96
abbrev runtime_plainError_Error : FuncId := 97
abbrev runtime_plainError_RuntimeError : FuncId := 98
abbrev runtime_errorAddressString_Error : FuncId := 99
abbrev runtime_errorAddressString_RuntimeError : FuncId := 100
abbrev runtime_TypeAssertionError_Error : FuncId := 101
abbrev runtime_TypeAssertionError_RuntimeError : FuncId := 102
abbrev runtime_PanicNilError_Error : FuncId := 103
abbrev runtime_PanicNilError_RuntimeError : FuncId := 104
abbrev abi_Type_Align : FuncId := 105
abbrev maps_unhashableTypeError_Error : FuncId := 106
abbrev maps_unhashableTypeError_RuntimeError : FuncId := 107
abbrev abi_Kind_String : FuncId := 108
end Id
end Go.Proofs.Ytgnfbodlpolibaa.HL
