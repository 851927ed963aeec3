/- The functions of the seat, each as a predicate over its values, printed by a program of ours, and that each is its text's. -/
import Derived.Test.YtchedlkmgahicaaSxH
import Derived.KernelRfl
import Derived.Test.YtchedlkmgahicaaProg
set_option linter.unusedVariables false
namespace Go.Proofs.S
open Go Go.Sx Go.Proofs
theorem follows : Try.prog.follows .mixedOrders = true := by kernel_rfl
abbrev ty_int : TypeId := 3
abbrev ty_bool : TypeId := 4
abbrev ty_sl_disk_Entry : TypeId := 24
abbrev ty_sl_bool : TypeId := 29
abbrev ty_bitword_Word : TypeId := 42
abbrev ty_sl_bitword_Word : TypeId := 43
abbrev ty_sl_sl_bitword_Word : TypeId := 45
abbrev ty_disk_Entry : TypeId := 54
abbrev ty_slices_xorshift : TypeId := 133
abbrev fn_salvorlaw35_awake : Nat := 11
abbrev fn_salvorlaw35_Made : Nat := 12
abbrev fn_crash_Count : Nat := 13
abbrev fn_crash_All : Nat := 15
abbrev fn_crash_Valid : Nat := 16
abbrev fn_crash_Results : Nat := 19
abbrev fn_crash_Apply : Nat := 20
abbrev fn_slices_Equal_bitword_Word_bitword_Word : Nat := 24
abbrev fn_slices_Clone_bitword_Word_bitword_Word : Nat := 25
abbrev fn_slices_ContainsFunc_disk_Entry_disk_Entry : Nat := 27
abbrev fn_slices_Clone_disk_Entry_disk_Entry : Nat := 29
abbrev fn_crash_Pairs : Nat := 30
abbrev fn_crash_Drop : Nat := 31
abbrev fn_crash_Right : Nat := 32
abbrev fn_slices_Clone_bool_bool : Nat := 36
abbrev fn_slices_Equal_bool_bool : Nat := 39
abbrev fn_crash_group : Nat := 40
abbrev fn_crash_All_1 : Nat := 41
abbrev fn_crash_next : Nat := 42
abbrev fn_crash_check : Nat := 43
abbrev fn_crash_valid : Nat := 44
abbrev fn_crash_fits : Nat := 52
abbrev fn_crash_apply : Nat := 53
abbrev fn_slices_SortFunc_bitword_Word_bitword_Word : Nat := 54
abbrev fn_crash_Results_1 : Nat := 55
abbrev fn_slices_CompareFunc_bitword_Word_bitword_Word_bitword_Word_bitword_Word : Nat := 56
abbrev fn_cmp_Compare_bitword_Word : Nat := 57
abbrev fn_slices_CompactFunc_bitword_Word_bitword_Word : Nat := 58
abbrev fn_slices_IndexFunc_disk_Entry_disk_Entry : Nat := 60
abbrev fn_crash_group_1 : Nat := 67
abbrev fn_crash_fill : Nat := 68
abbrev fn_slices_Contains_bool_bool : Nat := 69
abbrev fn_crash_fits_1 : Nat := 73
abbrev fn_slices_pdqsortCmpFunc_bitword_Word : Nat := 74
abbrev fn_math_bits_Len : Nat := 75
abbrev fn_cmp_isNaN_bitword_Word : Nat := 76
abbrev fn_slices_Index_bool_bool : Nat := 79
abbrev fn_slices_insertionSortCmpFunc_bitword_Word : Nat := 80
abbrev fn_slices_heapSortCmpFunc_bitword_Word : Nat := 81
abbrev fn_slices_breakPatternsCmpFunc_bitword_Word : Nat := 82
abbrev fn_slices_choosePivotCmpFunc_bitword_Word : Nat := 83
abbrev fn_slices_reverseRangeCmpFunc_bitword_Word : Nat := 84
abbrev fn_slices_partialInsertionSortCmpFunc_bitword_Word : Nat := 85
abbrev fn_slices_partitionEqualCmpFunc_bitword_Word : Nat := 86
abbrev fn_slices_partitionCmpFunc_bitword_Word : Nat := 87
abbrev fn_math_bits_Len64 : Nat := 89
abbrev fn_slices_siftDownCmpFunc_bitword_Word : Nat := 90
abbrev fn_slices_nextPowerOfTwo : Nat := 91
abbrev fn_slices_xorshift_Next : Nat := 92
abbrev fn_slices_medianAdjacentCmpFunc_bitword_Word : Nat := 93
abbrev fn_slices_medianCmpFunc_bitword_Word : Nat := 94
abbrev fn_slices_order2CmpFunc_bitword_Word : Nat := 95
end Go.Proofs.S
