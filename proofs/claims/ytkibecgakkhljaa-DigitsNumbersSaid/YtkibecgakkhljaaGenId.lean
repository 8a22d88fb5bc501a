/-
  Printed by gen.py (a program of this work) out of Lean's own print of the program: what each function's code comes to over the heap logic; each equation is checked by the kernel.
-/
import Derived.Test.YtkibecgakkhljaaProg
import Derived.Test.YtkibecgakkhljaaHlG
namespace Go.Proofs.Ytkibecgakkhljaa.HL
open Go.Proofs
noncomputable abbrev PP : Program := Try.prog
theorem mixed : PP.follows .mixedOrders = true := by kernel_rfl
namespace Id
abbrev thicketlaw20_ClockNumbers : FuncId := 3
abbrev thicketlaw20_ClockPlays : FuncId := 4
abbrev thicketlaw20_ClockStays : FuncId := 5
abbrev thicketlaw10_SkewnumNumbers : FuncId := 6
abbrev thicketlaw10_SkewnumOne : FuncId := 7
abbrev thicketlaw14_DigitsNumbers : FuncId := 8
abbrev thicketlaw14_DigitsTells : FuncId := 9
abbrev thicketlaw14_DigitsCarries : FuncId := 10
abbrev thicketlaw10_SkewnumTells : FuncId := 11
abbrev thicketlaw10_SkewnumJoins : FuncId := 12
abbrev thicketlaw20_known : FuncId := 13
abbrev clock_New : FuncId := 14
abbrev clock_Clock_Go : FuncId := 15
abbrev thicketref1_Add : FuncId := 16
abbrev clock_Clock_Due : FuncId := 17
abbrev clock_Clock_Left : FuncId := 18
abbrev clock_Clock_Now : FuncId := 19
abbrev skewnum_Inc : FuncId := 20
abbrev thicketbook_Same_int : FuncId := 21
abbrev thicketref10_Of : FuncId := 22
abbrev skewnum_Value : FuncId := 23
abbrev skewnum_Of : FuncId := 24
abbrev thicketlaw10_same : FuncId := 25
abbrev skewnum_Dec : FuncId := 26
abbrev thicketlaw10_known : FuncId := 27
abbrev thicketbook_Within : FuncId := 28
abbrev skewnum_Right : FuncId := 29
abbrev digits_New : FuncId := 30
abbrev thicketref14_Inc : FuncId := 31
abbrev digits_Counter_Inc : FuncId := 32
abbrev digits_Counter_All : FuncId := 33
abbrev digits_Counter_Value : FuncId := 34
abbrev digits_Counter_Carries : FuncId := 35
abbrev thicketref14_Regular : FuncId := 36
abbrev thicketlaw14_tells : FuncId := 37
abbrev thicketlaw14_known : FuncId := 38
abbrev digits_Regular : FuncId := 39
abbrev skewnum_Joined : FuncId := 40
abbrev thicketref10_Right : FuncId := 41
abbrev order_Add : FuncId := 42
abbrev skewnum_weight : FuncId := 43
abbrev slices_Reverse_int_int : FuncId := 44
abbrev thicketref10_Inc : FuncId := 45
abbrev thicketref10_Dec : FuncId := 46
abbrev thicketref10_Value : FuncId := 47
abbrev slices_Clone_int_int : FuncId := 48
abbrev slices_Index_int_int : FuncId := 49
abbrev digits_Value : FuncId := 50
abbrev thicketref14_Value : FuncId := 51
abbrev runtime_boundsError_Error : FuncId := 52
abbrev runtime_boundsError_RuntimeError : FuncId := 53
abbrev runtime_errorString_Error : FuncId := 54
abbrev runtime_errorString_RuntimeError : FuncId := 55
abbrev runtime_plainError_Error : FuncId := 56
abbrev runtime_plainError_RuntimeError : FuncId := 57
abbrev runtime_errorAddressString_Error : FuncId := 58
abbrev runtime_errorAddressString_RuntimeError : FuncId := 59
abbrev runtime_TypeAssertionError_Error : FuncId := 60
abbrev runtime_TypeAssertionError_RuntimeError : FuncId := 61
abbrev runtime_PanicNilError_Error : FuncId := 62
abbrev runtime_PanicNilError_RuntimeError : FuncId := 63
abbrev abi_Type_Align : FuncId := 64
abbrev maps_unhashableTypeError_Error : FuncId := 65
abbrev maps_unhashableTypeError_RuntimeError : FuncId := 66
abbrev api_Errno_Error : FuncId := 67
abbrev abi_Kind_String : FuncId := 68
end Id
end Go.Proofs.Ytkibecgakkhljaa.HL
