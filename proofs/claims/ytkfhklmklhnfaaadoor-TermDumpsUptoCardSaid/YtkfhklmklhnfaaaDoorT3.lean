/- Part of the proof of TermDumpsUptoCardSaid: see the last file.  -/
import Derived.KernelRfl
import Derived.Test.YtkfhklmklhnfaaaDoorProg
import Derived.Test.YtkfhklmklhnfaaaDoorT2
set_option linter.unusedSimpArgs false
set_option linter.unusedVariables false
set_option linter.unusedSectionVars false
namespace Go.AM
open Go Go.AM
set_option linter.unusedVariables false
set_option maxRecDepth 100000
noncomputable abbrev PP : Program := Go.Proofs.Tryd.prog
abbrev G.strings_asciiSpace : Nat := 0
abbrev G.unicode_White_Space : Nat := 1
abbrev G.internal_strconv_uint64pow10 : Nat := 2
abbrev G.bits_deBruijn32tab : Nat := 3
abbrev G.bits_deBruijn64tab : Nat := 4
abbrev G.unicode__White_Space : Nat := 5
abbrev F.bits_Len64 : FuncId := 78
abbrev F.bits_Name : FuncId := 52
abbrev F.bits_OnesCount : FuncId := 66
abbrev F.bits_OnesCount64 : FuncId := 76
abbrev F.bits_Text : FuncId := 16
abbrev F.bits_TrailingZeros : FuncId := 81
abbrev F.bits_TrailingZeros64 : FuncId := 85
abbrev F.bits_Trim : FuncId := 53
abbrev F.cadencelaw07_Also : FuncId := 10
abbrev F.cadencelaw07_Ask : FuncId := 9
abbrev F.cadencelaw07_Both : FuncId := 4
abbrev F.cadencelaw07_TermDumps : FuncId := 3
abbrev F.cadenceref01_Letter : FuncId := 69
abbrev F.cadenceref01_Name : FuncId := 58
abbrev F.cadenceref01_Shifts : FuncId := 68
abbrev F.cadenceref01_Text : FuncId := 23
abbrev F.cadenceref01_Trim : FuncId := 59
abbrev F.cadenceref07_New : FuncId := 8
abbrev F.cadenceref07_Parts : FuncId := 48
abbrev F.cadenceref07_Store_Bin : FuncId := 38
abbrev F.cadenceref07_Store_Const : FuncId := 35
abbrev F.cadenceref07_Store_Dump : FuncId := 6
abbrev F.cadenceref07_Store_Ext : FuncId := 41
abbrev F.cadenceref07_Store_Ite : FuncId := 39
abbrev F.cadenceref07_Store_Make : FuncId := 33
abbrev F.cadenceref07_Store_Order : FuncId := 20
abbrev F.cadenceref07_Store_Slice : FuncId := 40
abbrev F.cadenceref07_Store_Truth : FuncId := 34
abbrev F.cadenceref07_Store_Un : FuncId := 37
abbrev F.cadenceref07_Store_Var : FuncId := 36
abbrev F.cadenceref07_Store_W : FuncId := 67
abbrev F.cadenceref07_Store_is : FuncId := 47
abbrev F.cadenceref07_Store_sorts : FuncId := 56
abbrev F.cadenceref07_Store_wide : FuncId := 60
abbrev F.cadenceref07_Store_width : FuncId := 57
abbrev F.cadenceref07_Word : FuncId := 21
abbrev F.cadenceref07_extra : FuncId := 55
abbrev F.cadenceref07_fields : FuncId := 22
abbrev F.internal_strconv_FormatInt : FuncId := 62
abbrev F.internal_strconv_FormatUint : FuncId := 65
abbrev F.internal_strconv_Itoa : FuncId := 44
abbrev F.internal_strconv_bool2_int : FuncId := 79
abbrev F.internal_strconv_formatBase10 : FuncId := 72
abbrev F.internal_strconv_formatBits : FuncId := 73
abbrev F.internal_strconv_isPowerOfTwo : FuncId := 80
abbrev F.internal_strconv_log10Pow2 : FuncId := 77
abbrev F.internal_strconv_numDigits : FuncId := 71
abbrev F.internal_strconv_small : FuncId := 70
abbrev F.strconv_FormatUint : FuncId := 46
abbrev F.strconv_Itoa : FuncId := 14
abbrev F.strings_Builder_String : FuncId := 19
abbrev F.strings_Builder_WriteByte : FuncId := 18
abbrev F.strings_Builder_WriteString : FuncId := 13
abbrev F.strings_Builder_copyCheck : FuncId := 43
abbrev F.strings_Fields : FuncId := 45
abbrev F.strings_FieldsFunc : FuncId := 63
abbrev F.term_New : FuncId := 7
abbrev F.term_Store_Bin : FuncId := 29
abbrev F.term_Store_Const : FuncId := 26
abbrev F.term_Store_Dump : FuncId := 5
abbrev F.term_Store_Dump_1 : FuncId := 12
abbrev F.term_Store_Ext : FuncId := 32
abbrev F.term_Store_Ite : FuncId := 30
abbrev F.term_Store_Make : FuncId := 24
abbrev F.term_Store_Order : FuncId := 11
abbrev F.term_Store_Slice : FuncId := 31
abbrev F.term_Store_Truth : FuncId := 25
abbrev F.term_Store_Un : FuncId := 28
abbrev F.term_Store_Var : FuncId := 27
abbrev F.term_Store_is : FuncId := 42
abbrev F.term_Store_sorted : FuncId := 50
abbrev F.term_Store_w : FuncId := 54
abbrev F.term_Store_wide : FuncId := 51
abbrev F.term_names : FuncId := 15
abbrev F.term_parts : FuncId := 17
abbrev F.term_spare : FuncId := 49
abbrev F.unicode_IsSpace : FuncId := 64
abbrev T.a0_p_runtime_PanicNilError : TypeId := 135
abbrev T.a20_uint64 : TypeId := 116
abbrev T.a24_uint8 : TypeId := 103
abbrev T.a256_uint8 : TypeId := 97
abbrev T.a32_uint8 : TypeId := 131
abbrev T.a34_string : TypeId := 88
abbrev T.a3_int : TypeId := 67
abbrev T.a64_uint8 : TypeId := 132
abbrev T.a65_uint8 : TypeId := 117
abbrev T.abi_BoundsErrorCode : TypeId := 6
abbrev T.abi_Kind : TypeId := 140
abbrev T.abi_NameOff : TypeId := 142
abbrev T.abi_TFlag : TypeId := 139
abbrev T.abi_Type : TypeId := 145
abbrev T.abi_TypeOff : TypeId := 143
abbrev T.api_Errno : TypeId := 28
abbrev T.api_Node : TypeId := 41
abbrev T.bool : TypeId := 4
abbrev T.cadencelaw07_Op : TypeId := 43
abbrev T.cadenceref07_Store : TypeId := 72
abbrev T.error : TypeId := 53
abbrev T.func : TypeId := 1
abbrev T.func_api_Node_bool : TypeId := 89
abbrev T.func_api_Node_int_api_Errno : TypeId := 73
abbrev T.func_api_Node_int_bool : TypeId := 93
abbrev T.func_bool_int : TypeId := 115
abbrev T.func_bool_int_api_Errno : TypeId := 74
abbrev T.func_int : TypeId := 57
abbrev T.func_int32_bool : TypeId := 99
abbrev T.func_int64_int_string : TypeId := 96
abbrev T.func_int_2 : TypeId := 138
abbrev T.func_int_bool : TypeId := 79
abbrev T.func_int_int : TypeId := 66
abbrev T.func_int_int_int_api_Errno : TypeId := 77
abbrev T.func_int_int_int_int_api_Errno : TypeId := 78
abbrev T.func_int_p_cadenceref07_Store_api_Errno : TypeId := 36
abbrev T.func_int_p_term_Store_api_Errno : TypeId := 34
abbrev T.func_int_sl_cadencelaw07_Op_sl_int_bool : TypeId := 32
abbrev T.func_int_sl_int_api_Errno : TypeId := 46
abbrev T.func_int_string : TypeId := 56
abbrev T.func_int_string_api_Errno : TypeId := 30
abbrev T.func_int_uint64_int_api_Errno : TypeId := 75
abbrev T.func_int_uint64_uint64 : TypeId := 92
abbrev T.func_p_unicode_RangeTable_int32_bool : TypeId := 112
abbrev T.func_sl_int_sl_int_api_Errno : TypeId := 70
abbrev T.func_sl_int_string_api_Errno : TypeId := 31
abbrev T.func_sl_string : TypeId := 59
abbrev T.func_sl_uint8_uint64 : TypeId := 105
abbrev T.func_sl_unicode_Range16_uint16_bool : TypeId := 125
abbrev T.func_sl_unicode_Range32_uint32_bool : TypeId := 128
abbrev T.func_string : TypeId := 69
abbrev T.func_string_bool : TypeId := 91
abbrev T.func_string_func_int32_bool_sl_string : TypeId := 98
abbrev T.func_string_int_error : TypeId := 55
abbrev T.func_string_int_int_api_Errno : TypeId := 76
abbrev T.func_string_sl_string : TypeId := 85
abbrev T.func_uint32_int : TypeId := 114
abbrev T.func_uint64_int : TypeId := 104
abbrev T.func_uint64_int_string : TypeId := 86
abbrev T.func_uint64_string : TypeId := 65
abbrev T.func_uint8_bool : TypeId := 102
abbrev T.func_uint8_error : TypeId := 68
abbrev T.func_uint_int : TypeId := 100
abbrev T.func_unsafe_Pointer_unsafe_Pointer : TypeId := 95
abbrev T.func_unsafe_Pointer_unsafe_Pointer_bool : TypeId := 141
abbrev T.int : TypeId := 3
abbrev T.int32 : TypeId := 21
abbrev T.int64 : TypeId := 2
abbrev T.int_api_Errno : TypeId := 37
abbrev T.int_bool : TypeId := 90
abbrev T.int_error : TypeId := 54
abbrev T.interface : TypeId := 20
abbrev T.interface_Error_string : TypeId := 52
abbrev T.map_api_Node_int : TypeId := 61
abbrev T.map_int_int : TypeId := 51
abbrev T.map_string_int : TypeId := 62
abbrev T.maps_unhashableTypeError : TypeId := 19
abbrev T.p_abi_Type : TypeId := 17
abbrev T.p_cadenceref07_Store : TypeId := 25
abbrev T.p_cadenceref07_Store_api_Errno : TypeId := 35
abbrev T.p_runtime_PanicNilError : TypeId := 16
abbrev T.p_runtime_TypeAssertionError : TypeId := 15
abbrev T.p_strings_Builder : TypeId := 47
abbrev T.p_term_Store : TypeId := 24
abbrev T.p_term_Store_api_Errno : TypeId := 33
abbrev T.p_term_Store_p_cadenceref07_Store_bool : TypeId := 26
abbrev T.p_term_place : TypeId := 84
abbrev T.p_uint8 : TypeId := 87
abbrev T.p_unicode_Range16 : TypeId := 129
abbrev T.p_unicode_Range32 : TypeId := 130
abbrev T.p_unicode_RangeTable : TypeId := 113
abbrev T.runtime_PanicNilError : TypeId := 137
abbrev T.runtime_TypeAssertionError : TypeId := 134
abbrev T.runtime_boundsError : TypeId := 8
abbrev T.runtime_errorAddressString : TypeId := 14
abbrev T.runtime_errorString : TypeId := 10
abbrev T.runtime_plainError : TypeId := 11
abbrev T.sl_api_Node : TypeId := 60
abbrev T.sl_bool : TypeId := 80
abbrev T.sl_cadencelaw07_Op : TypeId := 22
abbrev T.sl_int : TypeId := 23
abbrev T.sl_int_api_Errno : TypeId := 45
abbrev T.sl_string : TypeId := 58
abbrev T.sl_strings_span : TypeId := 108
abbrev T.sl_term_place : TypeId := 81
abbrev T.sl_uint8 : TypeId := 48
abbrev T.sl_uint8_string : TypeId := 106
abbrev T.sl_unicode_Range16 : TypeId := 118
abbrev T.sl_unicode_Range32 : TypeId := 119
abbrev T.string : TypeId := 9
abbrev T.string_api_Errno : TypeId := 29
abbrev T.strings_Builder : TypeId := 50
abbrev T.strings_span : TypeId := 110
abbrev T.struct_Lo_uint16_Hi_uint16_Stride_uint16 : TypeId := 123
abbrev T.struct_Lo_uint32_Hi_uint32_Stride_uint32 : TypeId := 126
abbrev T.struct___a0_p_runtime_PanicNilError : TypeId := 136
abbrev T.struct_msg_string_addr_uintptr : TypeId := 13
abbrev T.struct_start_int_end_int : TypeId := 109
abbrev T.struct_t_int_next_int : TypeId := 82
abbrev T.struct_typ_p_abi_Type : TypeId := 18
abbrev T.term_Store : TypeId := 64
abbrev T.term_place : TypeId := 83
abbrev T.uint : TypeId := 101
abbrev T.uint16 : TypeId := 122
abbrev T.uint32 : TypeId := 111
abbrev T.uint64 : TypeId := 39
abbrev T.uint8 : TypeId := 5
abbrev T.uintptr : TypeId := 12
abbrev T.unicode_Range16 : TypeId := 124
abbrev T.unicode_Range32 : TypeId := 127
abbrev T.unicode_RangeTable : TypeId := 121
abbrev T.unsafe_Pointer : TypeId := 94
abbrev U.a0_p_runtime_PanicNilError := @Go.Proofs.Tryd.underlying135
abbrev U.a20_uint64 := @Go.Proofs.Tryd.underlying116
abbrev U.a24_uint8 := @Go.Proofs.Tryd.underlying103
abbrev U.a256_uint8 := @Go.Proofs.Tryd.underlying97
abbrev U.a32_uint8 := @Go.Proofs.Tryd.underlying131
abbrev U.a34_string := @Go.Proofs.Tryd.underlying88
abbrev U.a3_int := @Go.Proofs.Tryd.underlying67
abbrev U.a64_uint8 := @Go.Proofs.Tryd.underlying132
abbrev U.a65_uint8 := @Go.Proofs.Tryd.underlying117
abbrev U.abi_BoundsErrorCode := @Go.Proofs.Tryd.underlying6
abbrev U.abi_Kind := @Go.Proofs.Tryd.underlying140
abbrev U.abi_NameOff := @Go.Proofs.Tryd.underlying142
abbrev U.abi_TFlag := @Go.Proofs.Tryd.underlying139
abbrev U.abi_Type := @Go.Proofs.Tryd.underlying145
abbrev U.abi_TypeOff := @Go.Proofs.Tryd.underlying143
abbrev U.api_Errno := @Go.Proofs.Tryd.underlying28
abbrev U.api_Node := @Go.Proofs.Tryd.underlying41
abbrev U.bool := @Go.Proofs.Tryd.underlying4
abbrev U.cadencelaw07_Op := @Go.Proofs.Tryd.underlying43
abbrev U.cadenceref07_Store := @Go.Proofs.Tryd.underlying72
abbrev U.error := @Go.Proofs.Tryd.underlying53
abbrev U.func := @Go.Proofs.Tryd.underlying1
abbrev U.func_api_Node_bool := @Go.Proofs.Tryd.underlying89
abbrev U.func_api_Node_int_api_Errno := @Go.Proofs.Tryd.underlying73
abbrev U.func_api_Node_int_bool := @Go.Proofs.Tryd.underlying93
abbrev U.func_bool_int := @Go.Proofs.Tryd.underlying115
abbrev U.func_bool_int_api_Errno := @Go.Proofs.Tryd.underlying74
abbrev U.func_int := @Go.Proofs.Tryd.underlying57
abbrev U.func_int32_bool := @Go.Proofs.Tryd.underlying99
abbrev U.func_int64_int_string := @Go.Proofs.Tryd.underlying96
abbrev U.func_int_2 := @Go.Proofs.Tryd.underlying138
abbrev U.func_int_bool := @Go.Proofs.Tryd.underlying79
abbrev U.func_int_int := @Go.Proofs.Tryd.underlying66
abbrev U.func_int_int_int_api_Errno := @Go.Proofs.Tryd.underlying77
abbrev U.func_int_int_int_int_api_Errno := @Go.Proofs.Tryd.underlying78
abbrev U.func_int_p_cadenceref07_Store_api_Errno := @Go.Proofs.Tryd.underlying36
abbrev U.func_int_p_term_Store_api_Errno := @Go.Proofs.Tryd.underlying34
abbrev U.func_int_sl_cadencelaw07_Op_sl_int_bool := @Go.Proofs.Tryd.underlying32
abbrev U.func_int_sl_int_api_Errno := @Go.Proofs.Tryd.underlying46
abbrev U.func_int_string := @Go.Proofs.Tryd.underlying56
abbrev U.func_int_string_api_Errno := @Go.Proofs.Tryd.underlying30
abbrev U.func_int_uint64_int_api_Errno := @Go.Proofs.Tryd.underlying75
abbrev U.func_int_uint64_uint64 := @Go.Proofs.Tryd.underlying92
abbrev U.func_p_unicode_RangeTable_int32_bool := @Go.Proofs.Tryd.underlying112
abbrev U.func_sl_int_sl_int_api_Errno := @Go.Proofs.Tryd.underlying70
abbrev U.func_sl_int_string_api_Errno := @Go.Proofs.Tryd.underlying31
abbrev U.func_sl_string := @Go.Proofs.Tryd.underlying59
abbrev U.func_sl_uint8_uint64 := @Go.Proofs.Tryd.underlying105
abbrev U.func_sl_unicode_Range16_uint16_bool := @Go.Proofs.Tryd.underlying125
abbrev U.func_sl_unicode_Range32_uint32_bool := @Go.Proofs.Tryd.underlying128
abbrev U.func_string := @Go.Proofs.Tryd.underlying69
abbrev U.func_string_bool := @Go.Proofs.Tryd.underlying91
abbrev U.func_string_func_int32_bool_sl_string := @Go.Proofs.Tryd.underlying98
abbrev U.func_string_int_error := @Go.Proofs.Tryd.underlying55
abbrev U.func_string_int_int_api_Errno := @Go.Proofs.Tryd.underlying76
abbrev U.func_string_sl_string := @Go.Proofs.Tryd.underlying85
abbrev U.func_uint32_int := @Go.Proofs.Tryd.underlying114
abbrev U.func_uint64_int := @Go.Proofs.Tryd.underlying104
abbrev U.func_uint64_int_string := @Go.Proofs.Tryd.underlying86
abbrev U.func_uint64_string := @Go.Proofs.Tryd.underlying65
abbrev U.func_uint8_bool := @Go.Proofs.Tryd.underlying102
abbrev U.func_uint8_error := @Go.Proofs.Tryd.underlying68
abbrev U.func_uint_int := @Go.Proofs.Tryd.underlying100
abbrev U.func_unsafe_Pointer_unsafe_Pointer := @Go.Proofs.Tryd.underlying95
abbrev U.func_unsafe_Pointer_unsafe_Pointer_bool := @Go.Proofs.Tryd.underlying141
abbrev U.int := @Go.Proofs.Tryd.underlying3
abbrev U.int32 := @Go.Proofs.Tryd.underlying21
abbrev U.int64 := @Go.Proofs.Tryd.underlying2
abbrev U.int_api_Errno := @Go.Proofs.Tryd.underlying37
abbrev U.int_bool := @Go.Proofs.Tryd.underlying90
abbrev U.int_error := @Go.Proofs.Tryd.underlying54
abbrev U.interface := @Go.Proofs.Tryd.underlying20
abbrev U.interface_Error_string := @Go.Proofs.Tryd.underlying52
abbrev U.map_api_Node_int := @Go.Proofs.Tryd.underlying61
abbrev U.map_int_int := @Go.Proofs.Tryd.underlying51
abbrev U.map_string_int := @Go.Proofs.Tryd.underlying62
abbrev U.maps_unhashableTypeError := @Go.Proofs.Tryd.underlying19
abbrev U.p_abi_Type := @Go.Proofs.Tryd.underlying17
abbrev U.p_cadenceref07_Store := @Go.Proofs.Tryd.underlying25
abbrev U.p_cadenceref07_Store_api_Errno := @Go.Proofs.Tryd.underlying35
abbrev U.p_runtime_PanicNilError := @Go.Proofs.Tryd.underlying16
abbrev U.p_runtime_TypeAssertionError := @Go.Proofs.Tryd.underlying15
abbrev U.p_strings_Builder := @Go.Proofs.Tryd.underlying47
abbrev U.p_term_Store := @Go.Proofs.Tryd.underlying24
abbrev U.p_term_Store_api_Errno := @Go.Proofs.Tryd.underlying33
abbrev U.p_term_Store_p_cadenceref07_Store_bool := @Go.Proofs.Tryd.underlying26
abbrev U.p_term_place := @Go.Proofs.Tryd.underlying84
abbrev U.p_uint8 := @Go.Proofs.Tryd.underlying87
abbrev U.p_unicode_Range16 := @Go.Proofs.Tryd.underlying129
abbrev U.p_unicode_Range32 := @Go.Proofs.Tryd.underlying130
abbrev U.p_unicode_RangeTable := @Go.Proofs.Tryd.underlying113
abbrev U.runtime_PanicNilError := @Go.Proofs.Tryd.underlying137
abbrev U.runtime_TypeAssertionError := @Go.Proofs.Tryd.underlying134
abbrev U.runtime_boundsError := @Go.Proofs.Tryd.underlying8
abbrev U.runtime_errorAddressString := @Go.Proofs.Tryd.underlying14
abbrev U.runtime_errorString := @Go.Proofs.Tryd.underlying10
abbrev U.runtime_plainError := @Go.Proofs.Tryd.underlying11
abbrev U.sl_api_Node := @Go.Proofs.Tryd.underlying60
abbrev U.sl_bool := @Go.Proofs.Tryd.underlying80
abbrev U.sl_cadencelaw07_Op := @Go.Proofs.Tryd.underlying22
abbrev U.sl_int := @Go.Proofs.Tryd.underlying23
abbrev U.sl_int_api_Errno := @Go.Proofs.Tryd.underlying45
abbrev U.sl_string := @Go.Proofs.Tryd.underlying58
abbrev U.sl_strings_span := @Go.Proofs.Tryd.underlying108
abbrev U.sl_term_place := @Go.Proofs.Tryd.underlying81
abbrev U.sl_uint8 := @Go.Proofs.Tryd.underlying48
abbrev U.sl_uint8_string := @Go.Proofs.Tryd.underlying106
abbrev U.sl_unicode_Range16 := @Go.Proofs.Tryd.underlying118
abbrev U.sl_unicode_Range32 := @Go.Proofs.Tryd.underlying119
abbrev U.string := @Go.Proofs.Tryd.underlying9
abbrev U.string_api_Errno := @Go.Proofs.Tryd.underlying29
abbrev U.strings_Builder := @Go.Proofs.Tryd.underlying50
abbrev U.strings_span := @Go.Proofs.Tryd.underlying110
abbrev U.struct_Lo_uint16_Hi_uint16_Stride_uint16 := @Go.Proofs.Tryd.underlying123
abbrev U.struct_Lo_uint32_Hi_uint32_Stride_uint32 := @Go.Proofs.Tryd.underlying126
abbrev U.struct___a0_p_runtime_PanicNilError := @Go.Proofs.Tryd.underlying136
abbrev U.struct_msg_string_addr_uintptr := @Go.Proofs.Tryd.underlying13
abbrev U.struct_start_int_end_int := @Go.Proofs.Tryd.underlying109
abbrev U.struct_t_int_next_int := @Go.Proofs.Tryd.underlying82
abbrev U.struct_typ_p_abi_Type := @Go.Proofs.Tryd.underlying18
abbrev U.term_Store := @Go.Proofs.Tryd.underlying64
abbrev U.term_place := @Go.Proofs.Tryd.underlying83
abbrev U.uint := @Go.Proofs.Tryd.underlying101
abbrev U.uint16 := @Go.Proofs.Tryd.underlying122
abbrev U.uint32 := @Go.Proofs.Tryd.underlying111
abbrev U.uint64 := @Go.Proofs.Tryd.underlying39
abbrev U.uint8 := @Go.Proofs.Tryd.underlying5
abbrev U.uintptr := @Go.Proofs.Tryd.underlying12
abbrev U.unicode_Range16 := @Go.Proofs.Tryd.underlying124
abbrev U.unicode_Range32 := @Go.Proofs.Tryd.underlying127
abbrev U.unicode_RangeTable := @Go.Proofs.Tryd.underlying121
abbrev U.unsafe_Pointer := @Go.Proofs.Tryd.underlying94
def orc : Orc := { mkOrc [(5, [14]), (6, [11, 12]), (9, [3]), (10, [3]), (11, [14]), (20, [12, 14]), (21, [3]), (24, [3]), (29, [10]), (33, [3]), (49, [1]), (50, [3]), (51, [3]), (52, [15]), (55, [2]), (56, [3]), (57, [3]), (63, [11, 14])]
  [(4, [(5, some ([], []))]), (5, [(21, some ([], []))]), (17, [(6, some ([4], []))]), (23, [(6, some ([3, 4], []))]), (24, [(26, some ([], [])), (21, some ([], [])), (5, some ([], [])), (3, some ([], []))]), (29, [(5, some ([22], [])), (4, some ([15], [])), (10, some ([], [10]))]), (33, [(23, some ([], [])), (18, some ([], [])), (7, some ([26], [])), (5, some ([17], []))]), (38, [(4, some ([26], [])), (2, some ([11], []))]), (48, [(2, some ([3], []))]), (50, [(8, some ([27], []))]), (51, [(12, some ([60], [])), (4, some ([13], []))]), (52, [(7, some ([5], [])), (3, some ([], []))]), (55, [(3, some ([], []))]), (56, [(12, some ([67], []))]), (57, [(3, some ([8], []))]), (58, [(3, some ([], []))]), (62, [(8, some ([6], [])), (4, some ([], []))]), (63, [(14, some ([5], []))]), (72, [(20, some ([4, 12], []))]), (73, [(7, some ([1], [])), (3, some ([], []))]), (78, [(4, some ([0, 2], []))])]
  [(4, [(8, [11], [])]), (5, [(37, [128], []), (22, [86], []), (9, [32], [])]), (6, [(31, [9, 16], []), (16, [9, 13, 15], []), (7, [9, 10], [])]), (11, [(16, [8, 10], []), (11, [8, 10, 36], []), (2, [18], [])]), (20, [(18, [13, 15], []), (12, [8, 10], []), (9, [8, 9], []), (2, [6], [])]), (23, [(7, [0, 5], [])]), (24, [(6, [35], [])]), (45, [(27, [12], []), (21, [10, 11, 12], []), (18, [12], []), (5, [3, 4, 5, 6], [])]), (52, [(4, [], [15])]), (58, [(4, [3], [])]), (63, [(16, [49], []), (4, [5, 6], [14])]), (68, [(2, [3], [])]), (72, [(1, [1, 4], [])]), (73, [(11, [1, 13], []), (18, [1, 13], [])])] with gt := fun t => List.elem t [5, 50] }
noncomputable def m_cadencelaw07_TermDumps (R : Handler) (x0 x1 x2 : Value) (H0 : Hp) : Option (Value × Hp) :=
 pCallF R F.cadencelaw07_Both [x0, x1] H0 fun r1 H2 =>
 pExtract r1 0 fun v3 =>
 pExtract r1 1 fun v4 =>
 pExtract r1 2 fun v5 =>
 pBin PP .eql T.p_term_Store v3 (.pointer none) fun v6 =>
 pBool v6 fun b7 => br b7
 (some (v5, H2))
 (pBuildSlice 1 [.int .i64 0] 0 [] H2 fun v8 H9 =>
 pAppend 1 8 v8 x2 H9 fun v10 H11 =>
 pCallF R F.term_Store_Dump [v3, v10] H11 fun r12 H13 =>
 pExtract r12 0 fun v14 =>
 pExtract r12 1 fun v15 =>
 pCallF R F.cadenceref07_Store_Dump [v4, x2] H13 fun r16 H17 =>
 pExtract r16 0 fun v18 =>
 pExtract r16 1 fun v19 =>
 pBin PP .eql T.string v14 v18 fun v20 =>
 pBool v20 fun b21 => br b21
 (pBin PP .eql T.api_Errno v15 v19 fun v22 =>
 some (v22, H17))
 (some ((.bool false), H17)))
theorem e_cadencelaw07_TermDumps (R : Handler) (x0 x1 x2 : Value) (H0 : Hp) : execF PP orc R F.cadencelaw07_TermDumps Go.Proofs.Tryd.f3 [x0, x1, x2] H0 = m_cadencelaw07_TermDumps R x0 x1 x2 H0 := by kernel_rfl
noncomputable def m_cadencelaw07_Both (R : Handler) (x0 x1 : Value) (H0 : Hp) : Option (Value × Hp) :=
 pCallF R F.term_New [x0] H0 fun r1 H2 =>
 pExtract r1 0 fun v3 =>
 pExtract r1 1 fun v4 =>
 pCallF R F.cadenceref07_New [x0] H2 fun r5 H6 =>
 pExtract r5 0 fun v7 =>
 pExtract r5 1 fun v8 =>
 bindO (
 pBin PP .neq T.api_Errno v4 v8 fun v9 =>
 pBool v9 fun b10 => br b10
 (some (.ret, [(.tuple #[(.pointer none), (.pointer none), (.bool false)])], H6))
 (pBin PP .eql T.p_term_Store v3 (.pointer none) fun v11 =>
 pBin PP .eql T.p_cadenceref07_Store v7 (.pointer none) fun v12 =>
 pBin PP .neq T.bool v11 v12 fun v13 =>
 pBool v13 fun b14 => br b14
 (some (.ret, [(.tuple #[(.pointer none), (.pointer none), (.bool false)])], H6))
 (some (.next, [], H6)))) fun q15 l16 H17 => onCtl q15
 (pBin PP .eql T.p_term_Store v3 (.pointer none) fun v19 =>
 pBool v19 fun b20 => br b20
 (some ((.tuple #[(.pointer none), (.pointer none), (.bool true)]), H17))
 (bindO (loopD (fun l21 H22 =>
 pLen .sl x1 H22 fun v23 =>
 pBin PP .lss T.int (l21.getD 0 undef) v23 fun v24 =>
 pBool v24 fun b25 => br b25
 (pIdx 16 x1 (l21.getD 0 undef) fun p26 =>
 pLoad 16 true H22 p26 fun v27 =>
 pCallF R F.cadencelaw07_Ask [v3, v27] H22 fun r28 H29 =>
 pExtract r28 0 fun v30 =>
 pExtract r28 1 fun v31 =>
 pIdx 16 x1 (l21.getD 0 undef) fun p32 =>
 pLoad 16 true H29 p32 fun v33 =>
 pCallF R F.cadencelaw07_Also [v7, v33] H29 fun r34 H35 =>
 pExtract r34 0 fun v36 =>
 pExtract r34 1 fun v37 =>
 pBin PP .neq T.int v30 v36 fun v38 =>
 pBool v38 fun b39 => br b39
 (some (.ret, [(.tuple #[(.pointer none), (.pointer none), (.bool false)])], H35))
 (pBin PP .neq T.api_Errno v31 v37 fun v40 =>
 pBool v40 fun b41 => br b41
 (some (.ret, [(.tuple #[(.pointer none), (.pointer none), (.bool false)])], H35))
 (pBin PP .add T.int (l21.getD 0 undef) (.int .i64 1) fun v42 =>
 some (.next, [v42], H35))))
 (some (.exit 0, [(l21.getD 0 undef)], H22))) [(.int .i64 0)] H17) fun q43 l44 H45 => onCtl q43 none
 (fun i46 => onExit i46 0 (
 some ((.tuple #[v3, v7, (.bool true)]), H45)) (
 none))
 (some ((l44.headD undef), H45))))
 (fun i18 => none)
 (some ((l16.headD undef), H17))
theorem e_cadencelaw07_Both (R : Handler) (x0 x1 : Value) (H0 : Hp) : execF PP orc R F.cadencelaw07_Both Go.Proofs.Tryd.f4 [x0, x1] H0 = m_cadencelaw07_Both R x0 x1 H0 := by kernel_rfl
noncomputable def m_term_Store_Dump (R : Handler) (x0 x1 : Value) (H0 : Hp) : Option (Value × Hp) :=
 pCallF R F.term_Store_Order [x0, x1] H0 fun r1 H2 =>
 pExtract r1 0 fun v3 =>
 pExtract r1 1 fun v4 =>
 pBin PP .neq T.api_Errno v4 (.int .i64 0) fun v5 =>
 pBool v5 fun b6 => br b6
 (some ((.tuple #[(.string ⟨#[]⟩), v4]), H2))
 (pAllocT T.strings_Builder [.pointer none, .slice none 0 0] H2 fun p7 H8 =>
 pNewMap H8 fun v9 H10 =>
 pCallF R F.term_names [] H10 fun r11 H12 =>
 pLen .sl v3 H12 fun v13 =>
 bindO (loopD (fun l14 H15 =>
 pBin PP .lss T.int (l14.getD 0 undef) v13 fun v16 =>
 pBool v16 fun b17 => br b17
 (pIdx 1 v3 (l14.getD 0 undef) fun p18 =>
 pLoad 1 false H15 p18 fun v19 =>
 pBin PP .add T.int (l14.getD 0 undef) (.int .i64 1) fun v20 =>
 pUpd PP T.int v9 v19 v20 H15 fun H21 =>
 pNil x0 (
 pOffs 1 x0 fun p22 =>
 pLoad 1 false H21 p22 fun v23 =>
 pBin PP .sub T.int v19 (.int .i64 1) fun v24 =>
 pIdx 7 v23 v24 fun p25 =>
 pLoad 7 true H21 p25 fun v26 =>
 pSplice 7 [.int .i64 0, .int .i64 0, .int .i64 0, .int .i64 0, .int .i64 0, .int .u64 0, .string ⟨#[]⟩] 0 v26 fun c27 =>
 pBin PP .add T.int (l14.getD 0 undef) (.int .i64 1) fun v28 =>
 pCallF R F.strconv_Itoa [v28] H21 fun r29 H30 =>
 pBin PP .add T.string r29 (.string ⟨#[32]⟩) fun v31 =>
 pCell 1 false c27 0 fun v32 =>
 pIdx 1 r11 v32 fun p33 =>
 pLoad 1 false H30 p33 fun v34 =>
 chk (Hp.rdP H21 p33 1 false = some v34) (
 pBin PP .add T.string v31 v34 fun v35 =>
 pCallF R F.strings_Builder_WriteString [p7, v35] H30 fun r36 H37 =>
 bindO (
 pCell 1 false c27 0 fun v38 =>
 pBin PP .eql T.int v38 (.int .i64 3) fun v39 =>
 pBool v39 fun b40 => br b40
 (pCell 1 false c27 1 fun v41 =>
 pCallF R F.term_Store_Dump_1 [v41, p7] H37 fun r42 H43 =>
 pCell 1 false c27 5 fun v44 =>
 pCallF R F.bits_Text [v44] H43 fun r45 H46 =>
 pBin PP .add T.string (.string ⟨#[32]⟩) r45 fun v47 =>
 pCallF R F.strings_Builder_WriteString [p7, v47] H46 fun r48 H49 =>
 some (.next, [], H49))
 (pBin PP .eql T.int v38 (.int .i64 4) fun v50 =>
 pBool v50 fun b51 => br b51
 (pCell 1 false c27 6 fun v52 =>
 pBin PP .add T.string (.string ⟨#[32]⟩) v52 fun v53 =>
 pCallF R F.strings_Builder_WriteString [p7, v53] H37 fun r54 H55 =>
 pCell 1 false c27 1 fun v56 =>
 pCallF R F.term_Store_Dump_1 [v56, p7] H55 fun r57 H58 =>
 some (.next, [], H58))
 (some (.next, [], H37)))) fun q59 l60 H61 => onCtl q59
 (pCell 1 false c27 0 fun v63 =>
 pCallF R F.term_parts [v63] H61 fun r64 H65 =>
 bindO (loopD (fun l66 H67 =>
 pBin PP .lss T.int (l66.getD 0 undef) r64 fun v68 =>
 pBool v68 fun b69 => br b69
 (pCell 1 false c27 2 fun v70 =>
 pCell 1 false c27 3 fun v71 =>
 pCell 1 false c27 4 fun v72 =>
 pBuild PP T.a3_int [(0, v70), (1, v71), (2, v72)] fun v73 =>
 pAtArr 3 false 1 v73 (l66.getD 0 undef) fun v74 =>
 pLook PP T.int (.int .i64 0) v9 v74 false H67 fun v75 =>
 pCallF R F.term_Store_Dump_1 [v75, p7] H67 fun r76 H77 =>
 pBin PP .add T.int (l66.getD 0 undef) (.int .i64 1) fun v78 =>
 some (.next, [v78], H77))
 (some (.exit 3, [(l66.getD 0 undef)], H67))) [(.int .i64 0)] H65) fun q79 l80 H81 => onCtl q79 none
 (fun i82 => onExit i82 3 (
 pCell 1 false c27 0 fun v83 =>
 pBin PP .eql T.int v83 (.int .i64 31) fun v84 =>
 pBool v84 fun b85 => br b85
 (pCell 1 false c27 5 fun v86 =>
 pConvInt .i64 v86 fun v87 =>
 pCallF R F.term_Store_Dump_1 [v87, p7] H81 fun r88 H89 =>
 pCell 1 false c27 1 fun v90 =>
 pCallF R F.term_Store_Dump_1 [v90, p7] H89 fun r91 H92 =>
 pCallF R F.strings_Builder_WriteByte [p7, (.int .u8 10)] H92 fun r93 H94 =>
 pBin PP .add T.int (l14.getD 0 undef) (.int .i64 1) fun v95 =>
 some (.next, [v95], H94))
 (pBin PP .eql T.int v83 (.int .i64 32) fun v96 =>
 pBool v96 fun b97 => br b97
 (pBool v96 fun b98 => br b98
 (pCell 1 false c27 1 fun v99 =>
 pCallF R F.term_Store_Dump_1 [v99, p7] H81 fun r100 H101 =>
 pCallF R F.strings_Builder_WriteByte [p7, (.int .u8 10)] H101 fun r102 H103 =>
 pBin PP .add T.int (l14.getD 0 undef) (.int .i64 1) fun v104 =>
 some (.next, [v104], H103))
 (pCallF R F.strings_Builder_WriteByte [p7, (.int .u8 10)] H81 fun r105 H106 =>
 pBin PP .add T.int (l14.getD 0 undef) (.int .i64 1) fun v107 =>
 some (.next, [v107], H106)))
 (pBin PP .eql T.int v83 (.int .i64 33) fun v108 =>
 pBool v108 fun b109 => br b109
 (pCell 1 false c27 1 fun v110 =>
 pCallF R F.term_Store_Dump_1 [v110, p7] H81 fun r111 H112 =>
 pCallF R F.strings_Builder_WriteByte [p7, (.int .u8 10)] H112 fun r113 H114 =>
 pBin PP .add T.int (l14.getD 0 undef) (.int .i64 1) fun v115 =>
 some (.next, [v115], H114))
 (pCallF R F.strings_Builder_WriteByte [p7, (.int .u8 10)] H81 fun r116 H117 =>
 pBin PP .add T.int (l14.getD 0 undef) (.int .i64 1) fun v118 =>
 some (.next, [v118], H117))))) (
 onExit i82 1 (
 pBin PP .add T.int (l14.getD 0 undef) (.int .i64 1) fun v119 =>
 some (.next, [v119], H81)) (
 some (.exit i82, [(l14.getD 0 undef)], H81))))
 (some (.ret, [(l80.headD undef)], H81)))
 (fun i62 => onExit i62 1 (
 pBin PP .add T.int (l14.getD 0 undef) (.int .i64 1) fun v120 =>
 some (.next, [v120], H61)) (
 some (.exit i62, [(l14.getD 0 undef)], H61)))
 (some (.ret, [(l60.headD undef)], H61)))))
 (some (.exit 0, [(l14.getD 0 undef)], H15))) [(.int .i64 0)] H12) fun q121 l122 H123 => onCtl q121 none
 (fun i124 => onExit i124 0 (
 pCallF R F.strings_Builder_WriteString [p7, (.string ⟨#[114, 111, 111, 116, 115]⟩)] H123 fun r125 H126 =>
 pLen .sl x1 H126 fun v127 =>
 bindO (loopD (fun l128 H129 =>
 pBin PP .lss T.int (l128.getD 0 undef) v127 fun v130 =>
 pBool v130 fun b131 => br b131
 (pIdx 1 x1 (l128.getD 0 undef) fun p132 =>
 pLoad 1 false H129 p132 fun v133 =>
 pLook PP T.int (.int .i64 0) v9 v133 false H129 fun v134 =>
 pCallF R F.term_Store_Dump_1 [v134, p7] H129 fun r135 H136 =>
 pBin PP .add T.int (l128.getD 0 undef) (.int .i64 1) fun v137 =>
 some (.next, [v137], H136))
 (some (.exit 6, [(l128.getD 0 undef)], H129))) [(.int .i64 0)] H126) fun q138 l139 H140 => onCtl q138 none
 (fun i141 => onExit i141 6 (
 pCallF R F.strings_Builder_WriteByte [p7, (.int .u8 10)] H140 fun r142 H143 =>
 pCallF R F.strings_Builder_String [p7] H143 fun r144 H145 =>
 some ((.tuple #[r144, (.int .i64 0)]), H145)) (
 none))
 (some ((l139.headD undef), H140))) (
 none))
 (some ((l122.headD undef), H123)))
theorem e_term_Store_Dump (R : Handler) (x0 x1 : Value) (H0 : Hp) : execF PP orc R F.term_Store_Dump Go.Proofs.Tryd.f5 [x0, x1] H0 = m_term_Store_Dump R x0 x1 H0 := by kernel_rfl
noncomputable def m_cadenceref07_Store_Dump (R : Handler) (x0 x1 : Value) (H0 : Hp) : Option (Value × Hp) :=
 pCallF R F.cadenceref07_Store_Order [x0, x1] H0 fun r1 H2 =>
 pExtract r1 0 fun v3 =>
 pExtract r1 1 fun v4 =>
 pBin PP .neq T.api_Errno v4 (.int .i64 0) fun v5 =>
 pBool v5 fun b6 => br b6
 (some ((.tuple #[(.string ⟨#[]⟩), v4]), H2))
 (pNil x0 (
 pOffs 1 x0 fun p7 =>
 pLoad 1 false H2 p7 fun v8 =>
 pLen .sl v8 H2 fun v9 =>
 pBin PP .add T.int v9 (.int .i64 1) fun v10 =>
 pMakeSlice 1 8 [.int .i64 0] v10 v10 H2 fun v11 H12 =>
 bindO (loopD (fun l13 H14 =>
 pLen .sl v3 H14 fun v15 =>
 pBin PP .lss T.int (l13.getD 1 undef) v15 fun v16 =>
 pBool v16 fun b17 => br b17
 (pIdx 1 v3 (l13.getD 1 undef) fun p18 =>
 pLoad 1 false H14 p18 fun v19 =>
 pBin PP .add T.int (l13.getD 1 undef) (.int .i64 1) fun v20 =>
 pIdx 1 v11 v19 fun p21 =>
 pStore 1 H14 p21 v20 fun H22 =>
 pNil x0 (
 pOffs 1 x0 fun p23 =>
 pLoad 1 false H22 p23 fun v24 =>
 pIdx 1 v3 (l13.getD 1 undef) fun p25 =>
 pLoad 1 false H22 p25 fun v26 =>
 pBin PP .sub T.int v26 (.int .i64 1) fun v27 =>
 pIdx 7 v24 v27 fun p28 =>
 pLoad 7 true H22 p28 fun v29 =>
 pSplice 7 [.int .i64 0, .int .i64 0, .int .i64 0, .int .i64 0, .int .i64 0, .int .u64 0, .string ⟨#[]⟩] 0 v29 fun c30 =>
 pBin PP .add T.int (l13.getD 1 undef) (.int .i64 1) fun v31 =>
 pCallF R F.strconv_Itoa [v31] H22 fun r32 H33 =>
 pBin PP .add T.string r32 (.string ⟨#[32]⟩) fun v34 =>
 pCell 1 false c30 0 fun v35 =>
 pCallF R F.cadenceref07_Word [v35] H33 fun r36 H37 =>
 pBin PP .add T.string v34 r36 fun v38 =>
 pAppendT T.uint8 1 1 (l13.getD 0 undef) v38 H37 fun v39 H40 =>
 pCell 1 false c30 2 fun v41 =>
 pCell 1 false c30 3 fun v42 =>
 pCell 1 false c30 4 fun v43 =>
 pBuild PP T.a3_int [(0, v41), (1, v42), (2, v43)] fun v44 =>
 pSplice 3 [.int .i64 0, .int .i64 0, .int .i64 0] 0 v44 fun c45 =>
 pCell 1 false c30 0 fun v46 =>
 pCallF R F.cadenceref07_fields [v46] H40 fun r47 H48 =>
 bindO (loopD (fun l49 H50 =>
 pLen .str r47 H50 fun v51 =>
 pBin PP .lss T.int (l49.getD 2 undef) v51 fun v52 =>
 pBool v52 fun b53 => br b53
 (pAtStr r47 (l49.getD 2 undef) fun v54 =>
 pBin PP .eql T.uint8 v54 (.int .u8 112) fun v55 =>
 pBool v55 fun b56 => br b56
 (pIdxLoc 3 (l49.getD 1 undef) fun j57 =>
 pCell 1 false c45 (0 + j57 * 1) fun v58 =>
 pIdx 1 v11 v58 fun p59 =>
 pLoad 1 false H50 p59 fun v60 =>
 pCallF R F.strconv_Itoa [v60] H50 fun r61 H62 =>
 pBin PP .add T.string (.string ⟨#[32]⟩) r61 fun v63 =>
 pAppendT T.uint8 1 1 (l49.getD 0 undef) v63 H62 fun v64 H65 =>
 pBin PP .add T.int (l49.getD 1 undef) (.int .i64 1) fun v66 =>
 pBin PP .add T.int (l49.getD 2 undef) (.int .i64 1) fun v67 =>
 some (.next, [v64, v66, v67], H65))
 (pBin PP .eql T.uint8 v54 (.int .u8 110) fun v68 =>
 pBool v68 fun b69 => br b69
 (pCell 1 false c30 5 fun v70 =>
 pCallF R F.cadenceref01_Text [v70] H50 fun r71 H72 =>
 pBin PP .add T.string (.string ⟨#[32]⟩) r71 fun v73 =>
 pAppendT T.uint8 1 1 (l49.getD 0 undef) v73 H72 fun v74 H75 =>
 pBin PP .add T.int (l49.getD 2 undef) (.int .i64 1) fun v76 =>
 some (.next, [v74, (l49.getD 1 undef), v76], H75))
 (pBin PP .eql T.uint8 v54 (.int .u8 119) fun v77 =>
 pBool v77 fun b78 => br b78
 (pCell 1 false c30 1 fun v79 =>
 pCallF R F.strconv_Itoa [v79] H50 fun r80 H81 =>
 pBin PP .add T.string (.string ⟨#[32]⟩) r80 fun v82 =>
 pAppendT T.uint8 1 1 (l49.getD 0 undef) v82 H81 fun v83 H84 =>
 pBin PP .add T.int (l49.getD 2 undef) (.int .i64 1) fun v85 =>
 some (.next, [v83, (l49.getD 1 undef), v85], H84))
 (pBin PP .eql T.uint8 v54 (.int .u8 115) fun v86 =>
 pBool v86 fun b87 => br b87
 (pCell 1 false c30 6 fun v88 =>
 pBin PP .add T.string (.string ⟨#[32]⟩) v88 fun v89 =>
 pAppendT T.uint8 1 1 (l49.getD 0 undef) v89 H50 fun v90 H91 =>
 pBin PP .add T.int (l49.getD 2 undef) (.int .i64 1) fun v92 =>
 some (.next, [v90, (l49.getD 1 undef), v92], H91))
 (pBin PP .add T.int (l49.getD 2 undef) (.int .i64 1) fun v93 =>
 some (.next, [(l49.getD 0 undef), (l49.getD 1 undef), v93], H50))))))
 (some (.exit 2, [(l49.getD 0 undef), (l49.getD 1 undef), (l49.getD 2 undef)], H50))) [v39, (.int .i64 0), (.int .i64 0)] H48) fun q94 l95 H96 => onCtl q94 none
 (fun i97 => onExit i97 2 (
 pBuildSlice 1 [.int .u8 0] 1 [(0, (.int .u8 10))] H96 fun v98 H99 =>
 pAppendT T.uint8 1 1 (l95.getD 0 undef) v98 H99 fun v100 H101 =>
 pBin PP .add T.int (l13.getD 1 undef) (.int .i64 1) fun v102 =>
 some (.next, [v100, v102], H101)) (
 onExit i97 1 (
 pBin PP .add T.int (l13.getD 1 undef) (.int .i64 1) fun v103 =>
 some (.next, [(l95.getD 0 undef), v103], H96)) (
 some (.exit i97, [(l95.getD 0 undef), (l13.getD 1 undef)], H96))))
 (some (.ret, [(l95.headD undef)], H96))))
 (some (.exit 0, [(l13.getD 0 undef), (l13.getD 1 undef)], H14))) [(.slice none 0 0), (.int .i64 0)] H12) fun q104 l105 H106 => onCtl q104 none
 (fun i107 => onExit i107 0 (
 pAppendT T.uint8 1 1 (l105.getD 0 undef) (.string ⟨#[114, 111, 111, 116, 115]⟩) H106 fun v108 H109 =>
 bindO (loopD (fun l110 H111 =>
 pLen .sl x1 H111 fun v112 =>
 pBin PP .lss T.int (l110.getD 1 undef) v112 fun v113 =>
 pBool v113 fun b114 => br b114
 (pIdx 1 x1 (l110.getD 1 undef) fun p115 =>
 pLoad 1 false H111 p115 fun v116 =>
 pIdx 1 v11 v116 fun p117 =>
 pLoad 1 false H111 p117 fun v118 =>
 pCallF R F.strconv_Itoa [v118] H111 fun r119 H120 =>
 pBin PP .add T.string (.string ⟨#[32]⟩) r119 fun v121 =>
 pAppendT T.uint8 1 1 (l110.getD 0 undef) v121 H120 fun v122 H123 =>
 pBin PP .add T.int (l110.getD 1 undef) (.int .i64 1) fun v124 =>
 some (.next, [v122, v124], H123))
 (some (.exit 5, [(l110.getD 0 undef), (l110.getD 1 undef)], H111))) [v108, (.int .i64 0)] H109) fun q125 l126 H127 => onCtl q125 none
 (fun i128 => onExit i128 5 (
 pBuildSlice 1 [.int .u8 0] 1 [(0, (.int .u8 10))] H127 fun v129 H130 =>
 pAppendT T.uint8 1 1 (l126.getD 0 undef) v129 H130 fun v131 H132 =>
 pToStr v131 H132 fun v133 =>
 some ((.tuple #[v133, (.int .i64 0)]), H132)) (
 none))
 (some ((l126.headD undef), H127))) (
 none))
 (some ((l105.headD undef), H106))))
theorem e_cadenceref07_Store_Dump (R : Handler) (x0 x1 : Value) (H0 : Hp) : execF PP orc R F.cadenceref07_Store_Dump Go.Proofs.Tryd.f6 [x0, x1] H0 = m_cadenceref07_Store_Dump R x0 x1 H0 := by kernel_rfl
noncomputable def m_term_New (R : Handler) (x0 : Value) (H0 : Hp) : Option (Value × Hp) :=
 pBin PP .lss T.int x0 (.int .i64 0) fun v1 =>
 pBool v1 fun b2 => br b2
 (some ((.tuple #[(.pointer none), (.int .i64 1)]), H0))
 (pNewMap H0 fun v3 H4 =>
 pNewMap H4 fun v5 H6 =>
 pBuild PP T.term_Store [(0, x0), (2, v3), (3, v5)] fun v7 =>
 pAlloc (cellsL v7) H6 fun p8 H9 =>
 some ((.tuple #[p8, (.int .i64 0)]), H9))
theorem e_term_New (R : Handler) (x0 : Value) (H0 : Hp) : execF PP orc R F.term_New Go.Proofs.Tryd.f7 [x0] H0 = m_term_New R x0 H0 := by kernel_rfl
noncomputable def m_cadenceref07_New (R : Handler) (x0 : Value) (H0 : Hp) : Option (Value × Hp) :=
 pBin PP .lss T.int x0 (.int .i64 0) fun v1 =>
 pBool v1 fun b2 => br b2
 (some ((.tuple #[(.pointer none), (.int .i64 1)]), H0))
 (pNewMap H0 fun v3 H4 =>
 pNewMap H4 fun v5 H6 =>
 pBuild PP T.cadenceref07_Store [(0, x0), (2, v3), (3, v5)] fun v7 =>
 pAlloc (cellsL v7) H6 fun p8 H9 =>
 some ((.tuple #[p8, (.int .i64 0)]), H9))
theorem e_cadenceref07_New (R : Handler) (x0 : Value) (H0 : Hp) : execF PP orc R F.cadenceref07_New Go.Proofs.Tryd.f8 [x0] H0 = m_cadenceref07_New R x0 H0 := by kernel_rfl
noncomputable def m_cadencelaw07_Ask (R : Handler) (x0 x1 : Value) (H0 : Hp) : Option (Value × Hp) :=
 pCell 1 false (cellsL x1) 0 fun v1 =>
 pBin PP .eql T.int v1 (.int .i64 1) fun v2 =>
 pBool v2 fun b3 => br b3
 (pCell 7 true (cellsL x1) 9 fun v4 =>
 pCallF R F.term_Store_Make [x0, v4] H0 fun r5 H6 =>
 pExtract r5 0 fun v7 =>
 pExtract r5 1 fun v8 =>
 some ((.tuple #[v7, v8]), H6))
 (pBin PP .eql T.int v1 (.int .i64 2) fun v9 =>
 pBool v9 fun b10 => br b10
 (pCell 1 false (cellsL x1) 6 fun v11 =>
 pCallF R F.term_Store_Truth [x0, v11] H0 fun r12 H13 =>
 pExtract r12 0 fun v14 =>
 pExtract r12 1 fun v15 =>
 some ((.tuple #[v14, v15]), H13))
 (pBin PP .eql T.int v1 (.int .i64 3) fun v16 =>
 pBool v16 fun b17 => br b17
 (pCell 1 false (cellsL x1) 5 fun v18 =>
 pCell 1 false (cellsL x1) 7 fun v19 =>
 pCallF R F.term_Store_Const [x0, v18, v19] H0 fun r20 H21 =>
 pExtract r20 0 fun v22 =>
 pExtract r20 1 fun v23 =>
 some ((.tuple #[v22, v23]), H21))
 (pBin PP .eql T.int v1 (.int .i64 4) fun v24 =>
 pBool v24 fun b25 => br b25
 (pCell 1 false (cellsL x1) 8 fun v26 =>
 pCell 1 false (cellsL x1) 5 fun v27 =>
 pCallF R F.term_Store_Var [x0, v26, v27] H0 fun r28 H29 =>
 pExtract r28 0 fun v30 =>
 pExtract r28 1 fun v31 =>
 some ((.tuple #[v30, v31]), H29))
 (pBin PP .eql T.int v1 (.int .i64 5) fun v32 =>
 pBool v32 fun b33 => br b33
 (pCell 1 false (cellsL x1) 1 fun v34 =>
 pCell 1 false (cellsL x1) 2 fun v35 =>
 pCallF R F.term_Store_Un [x0, v34, v35] H0 fun r36 H37 =>
 pExtract r36 0 fun v38 =>
 pExtract r36 1 fun v39 =>
 some ((.tuple #[v38, v39]), H37))
 (pBin PP .eql T.int v1 (.int .i64 6) fun v40 =>
 pBool v40 fun b41 => br b41
 (pCell 1 false (cellsL x1) 1 fun v42 =>
 pCell 1 false (cellsL x1) 2 fun v43 =>
 pCell 1 false (cellsL x1) 3 fun v44 =>
 pCallF R F.term_Store_Bin [x0, v42, v43, v44] H0 fun r45 H46 =>
 pExtract r45 0 fun v47 =>
 pExtract r45 1 fun v48 =>
 some ((.tuple #[v47, v48]), H46))
 (pBin PP .eql T.int v1 (.int .i64 7) fun v49 =>
 pBool v49 fun b50 => br b50
 (pCell 1 false (cellsL x1) 2 fun v51 =>
 pCell 1 false (cellsL x1) 3 fun v52 =>
 pCell 1 false (cellsL x1) 4 fun v53 =>
 pCallF R F.term_Store_Ite [x0, v51, v52, v53] H0 fun r54 H55 =>
 pExtract r54 0 fun v56 =>
 pExtract r54 1 fun v57 =>
 some ((.tuple #[v56, v57]), H55))
 (pBin PP .eql T.int v1 (.int .i64 8) fun v58 =>
 pBool v58 fun b59 => br b59
 (pCell 1 false (cellsL x1) 2 fun v60 =>
 pCell 1 false (cellsL x1) 3 fun v61 =>
 pCell 1 false (cellsL x1) 4 fun v62 =>
 pCallF R F.term_Store_Slice [x0, v60, v61, v62] H0 fun r63 H64 =>
 pExtract r63 0 fun v65 =>
 pExtract r63 1 fun v66 =>
 some ((.tuple #[v65, v66]), H64))
 (pBin PP .eql T.int v1 (.int .i64 9) fun v67 =>
 pBool v67 fun b68 => br b68
 (pCell 1 false (cellsL x1) 1 fun v69 =>
 pCell 1 false (cellsL x1) 2 fun v70 =>
 pCell 1 false (cellsL x1) 5 fun v71 =>
 pCallF R F.term_Store_Ext [x0, v69, v70, v71] H0 fun r72 H73 =>
 pExtract r72 0 fun v74 =>
 pExtract r72 1 fun v75 =>
 some ((.tuple #[v74, v75]), H73))
 (some ((.tuple #[(.int .i64 0), (.int .i64 0)]), H0))))))))))
theorem e_cadencelaw07_Ask (R : Handler) (x0 x1 : Value) (H0 : Hp) : execF PP orc R F.cadencelaw07_Ask Go.Proofs.Tryd.f9 [x0, x1] H0 = m_cadencelaw07_Ask R x0 x1 H0 := by kernel_rfl
noncomputable def m_cadencelaw07_Also (R : Handler) (x0 x1 : Value) (H0 : Hp) : Option (Value × Hp) :=
 pCell 1 false (cellsL x1) 0 fun v1 =>
 pBin PP .eql T.int v1 (.int .i64 1) fun v2 =>
 pBool v2 fun b3 => br b3
 (pCell 7 true (cellsL x1) 9 fun v4 =>
 pCallF R F.cadenceref07_Store_Make [x0, v4] H0 fun r5 H6 =>
 pExtract r5 0 fun v7 =>
 pExtract r5 1 fun v8 =>
 some ((.tuple #[v7, v8]), H6))
 (pBin PP .eql T.int v1 (.int .i64 2) fun v9 =>
 pBool v9 fun b10 => br b10
 (pCell 1 false (cellsL x1) 6 fun v11 =>
 pCallF R F.cadenceref07_Store_Truth [x0, v11] H0 fun r12 H13 =>
 pExtract r12 0 fun v14 =>
 pExtract r12 1 fun v15 =>
 some ((.tuple #[v14, v15]), H13))
 (pBin PP .eql T.int v1 (.int .i64 3) fun v16 =>
 pBool v16 fun b17 => br b17
 (pCell 1 false (cellsL x1) 5 fun v18 =>
 pCell 1 false (cellsL x1) 7 fun v19 =>
 pCallF R F.cadenceref07_Store_Const [x0, v18, v19] H0 fun r20 H21 =>
 pExtract r20 0 fun v22 =>
 pExtract r20 1 fun v23 =>
 some ((.tuple #[v22, v23]), H21))
 (pBin PP .eql T.int v1 (.int .i64 4) fun v24 =>
 pBool v24 fun b25 => br b25
 (pCell 1 false (cellsL x1) 8 fun v26 =>
 pCell 1 false (cellsL x1) 5 fun v27 =>
 pCallF R F.cadenceref07_Store_Var [x0, v26, v27] H0 fun r28 H29 =>
 pExtract r28 0 fun v30 =>
 pExtract r28 1 fun v31 =>
 some ((.tuple #[v30, v31]), H29))
 (pBin PP .eql T.int v1 (.int .i64 5) fun v32 =>
 pBool v32 fun b33 => br b33
 (pCell 1 false (cellsL x1) 1 fun v34 =>
 pCell 1 false (cellsL x1) 2 fun v35 =>
 pCallF R F.cadenceref07_Store_Un [x0, v34, v35] H0 fun r36 H37 =>
 pExtract r36 0 fun v38 =>
 pExtract r36 1 fun v39 =>
 some ((.tuple #[v38, v39]), H37))
 (pBin PP .eql T.int v1 (.int .i64 6) fun v40 =>
 pBool v40 fun b41 => br b41
 (pCell 1 false (cellsL x1) 1 fun v42 =>
 pCell 1 false (cellsL x1) 2 fun v43 =>
 pCell 1 false (cellsL x1) 3 fun v44 =>
 pCallF R F.cadenceref07_Store_Bin [x0, v42, v43, v44] H0 fun r45 H46 =>
 pExtract r45 0 fun v47 =>
 pExtract r45 1 fun v48 =>
 some ((.tuple #[v47, v48]), H46))
 (pBin PP .eql T.int v1 (.int .i64 7) fun v49 =>
 pBool v49 fun b50 => br b50
 (pCell 1 false (cellsL x1) 2 fun v51 =>
 pCell 1 false (cellsL x1) 3 fun v52 =>
 pCell 1 false (cellsL x1) 4 fun v53 =>
 pCallF R F.cadenceref07_Store_Ite [x0, v51, v52, v53] H0 fun r54 H55 =>
 pExtract r54 0 fun v56 =>
 pExtract r54 1 fun v57 =>
 some ((.tuple #[v56, v57]), H55))
 (pBin PP .eql T.int v1 (.int .i64 8) fun v58 =>
 pBool v58 fun b59 => br b59
 (pCell 1 false (cellsL x1) 2 fun v60 =>
 pCell 1 false (cellsL x1) 3 fun v61 =>
 pCell 1 false (cellsL x1) 4 fun v62 =>
 pCallF R F.cadenceref07_Store_Slice [x0, v60, v61, v62] H0 fun r63 H64 =>
 pExtract r63 0 fun v65 =>
 pExtract r63 1 fun v66 =>
 some ((.tuple #[v65, v66]), H64))
 (pBin PP .eql T.int v1 (.int .i64 9) fun v67 =>
 pBool v67 fun b68 => br b68
 (pCell 1 false (cellsL x1) 1 fun v69 =>
 pCell 1 false (cellsL x1) 2 fun v70 =>
 pCell 1 false (cellsL x1) 5 fun v71 =>
 pCallF R F.cadenceref07_Store_Ext [x0, v69, v70, v71] H0 fun r72 H73 =>
 pExtract r72 0 fun v74 =>
 pExtract r72 1 fun v75 =>
 some ((.tuple #[v74, v75]), H73))
 (some ((.tuple #[(.int .i64 0), (.int .i64 0)]), H0))))))))))
theorem e_cadencelaw07_Also (R : Handler) (x0 x1 : Value) (H0 : Hp) : execF PP orc R F.cadencelaw07_Also Go.Proofs.Tryd.f10 [x0, x1] H0 = m_cadencelaw07_Also R x0 x1 H0 := by kernel_rfl
noncomputable def m_term_Store_Order (R : Handler) (x0 x1 : Value) (H0 : Hp) : Option (Value × Hp) :=
 pLen .sl x1 H0 fun v1 =>
 bindO (loopD (fun l2 H3 =>
 pBin PP .lss T.int (l2.getD 0 undef) v1 fun v4 =>
 pBool v4 fun b5 => br b5
 (pIdx 1 x1 (l2.getD 0 undef) fun p6 =>
 pLoad 1 false H3 p6 fun v7 =>
 pCallF R F.term_Store_is [x0, v7] H3 fun r8 H9 =>
 pUn .not r8 fun v10 =>
 pBool v10 fun b11 => br b11
 (some (.ret, [(.tuple #[(.slice none 0 0), (.int .i64 70)])], H9))
 (pBin PP .add T.int (l2.getD 0 undef) (.int .i64 1) fun v12 =>
 some (.next, [v12], H9)))
 (some (.exit 0, [(l2.getD 0 undef)], H3))) [(.int .i64 0)] H0) fun q13 l14 H15 => onCtl q13 none
 (fun i16 => onExit i16 0 (
 pNil x0 (
 pOffs 1 x0 fun p17 =>
 pLoad 1 false H15 p17 fun v18 =>
 pLen .sl v18 H15 fun v19 =>
 pBin PP .add T.int v19 (.int .i64 1) fun v20 =>
 pMakeSlice 1 1 [.bool false] v20 v20 H15 fun v21 H22 =>
 pLen .sl x1 H22 fun v23 =>
 bindO (loopD (fun l24 H25 =>
 pBin PP .lss T.int (l24.getD 2 undef) v23 fun v26 =>
 pBool v26 fun b27 => br b27
 (pIdx 1 x1 (l24.getD 2 undef) fun p28 =>
 pLoad 1 false H25 p28 fun v29 =>
 pIdx 1 v21 v29 fun p30 =>
 pLoad 1 false H25 p30 fun v31 =>
 pBool v31 fun b32 => br b32
 (pBin PP .add T.int (l24.getD 2 undef) (.int .i64 1) fun v33 =>
 some (.next, [(l24.getD 0 undef), (l24.getD 1 undef), v33], H25))
 (pIdx 1 v21 v29 fun p34 =>
 pStore 1 H25 p34 (.bool true) fun H35 =>
 pBuild PP T.term_place [(0, v29), (1, (.int .i64 0))] fun v36 =>
 pBuildSlice 2 [.int .i64 0, .int .i64 0] 1 [(0, v36)] H35 fun v37 H38 =>
 pAppend 2 16 (l24.getD 1 undef) v37 H38 fun v39 H40 =>
 bindO (loopD (fun l41 H42 =>
 pLen .sl (l41.getD 1 undef) H42 fun v43 =>
 pBin PP .gtr T.int v43 (.int .i64 0) fun v44 =>
 pBool v44 fun b45 => br b45
 (pLen .sl (l41.getD 1 undef) H42 fun v46 =>
 pBin PP .sub T.int v46 (.int .i64 1) fun v47 =>
 pIdx 2 (l41.getD 1 undef) v47 fun p48 =>
 pNil x0 (
 pOffs 1 x0 fun p49 =>
 pLoad 1 false H42 p49 fun v50 =>
 pNil p48 (
 pOffs 0 p48 fun p51 =>
 pLoad 1 false H42 p51 fun v52 =>
 pBin PP .sub T.int v52 (.int .i64 1) fun v53 =>
 pIdx 7 v50 v53 fun p54 =>
 pLoad 7 true H42 p54 fun v55 =>
 pSplice 7 [.int .i64 0, .int .i64 0, .int .i64 0, .int .i64 0, .int .i64 0, .int .u64 0, .string ⟨#[]⟩] 0 v55 fun c56 =>
 pNil p48 (
 pOffs 1 p48 fun p57 =>
 pLoad 1 false H42 p57 fun v58 =>
 pCell 1 false c56 0 fun v59 =>
 pCallF R F.term_parts [v59] H42 fun r60 H61 =>
 chk (Hp.rdP H61 p57 1 false = some v58) (
 pBin PP .eql T.int v58 r60 fun v62 =>
 pBool v62 fun b63 => br b63
 (pNil p48 (
 pOffs 0 p48 fun p64 =>
 pLoad 1 false H61 p64 fun v65 =>
 pBuildSlice 1 [.int .i64 0] 1 [(0, v65)] H61 fun v66 H67 =>
 pAppend 1 8 (l41.getD 0 undef) v66 H67 fun v68 H69 =>
 pLen .sl (l41.getD 1 undef) H69 fun v70 =>
 pBin PP .sub T.int v70 (.int .i64 1) fun v71 =>
 pSlice 2 (l41.getD 1 undef) none (some v71) fun v72 =>
 some (.next, [v68, v72], H69)))
 (pCell 1 false c56 2 fun v73 =>
 pCell 1 false c56 3 fun v74 =>
 pCell 1 false c56 4 fun v75 =>
 pBuild PP T.a3_int [(0, v73), (1, v74), (2, v75)] fun v76 =>
 pNil p48 (
 pOffs 1 p48 fun p77 =>
 pLoad 1 false H61 p77 fun v78 =>
 pAtArr 3 false 1 v76 v78 fun v79 =>
 pNil p48 (
 pOffs 1 p48 fun p80 =>
 pLoad 1 false H61 p80 fun v81 =>
 pBin PP .add T.int v81 (.int .i64 1) fun v82 =>
 pNil p48 (
 pOffs 1 p48 fun p83 =>
 pStore 1 H61 p83 v82 fun H84 =>
 pIdx 1 v21 v79 fun p85 =>
 pLoad 1 false H84 p85 fun v86 =>
 pUn .not v86 fun v87 =>
 pBool v87 fun b88 => br b88
 (pIdx 1 v21 v79 fun p89 =>
 pStore 1 H84 p89 (.bool true) fun H90 =>
 pBuild PP T.term_place [(0, v79), (1, (.int .i64 0))] fun v91 =>
 pBuildSlice 2 [.int .i64 0, .int .i64 0] 1 [(0, v91)] H90 fun v92 H93 =>
 pAppend 2 16 (l41.getD 1 undef) v92 H93 fun v94 H95 =>
 some (.next, [(l41.getD 0 undef), v94], H95))
 (some (.next, [(l41.getD 0 undef), (l41.getD 1 undef)], H84)))))))))))
 (some (.exit 4, [(l41.getD 0 undef), (l41.getD 1 undef)], H42))) [(l24.getD 0 undef), v39] H40) fun q96 l97 H98 => onCtl q96 none
 (fun i99 => onExit i99 4 (
 pBin PP .add T.int (l24.getD 2 undef) (.int .i64 1) fun v100 =>
 some (.next, [(l97.getD 0 undef), (l97.getD 1 undef), v100], H98)) (
 onExit i99 3 (
 pBin PP .add T.int (l24.getD 2 undef) (.int .i64 1) fun v101 =>
 some (.next, [(l97.getD 0 undef), (l97.getD 1 undef), v101], H98)) (
 some (.exit i99, [(l97.getD 0 undef), (l97.getD 1 undef), (l24.getD 2 undef)], H98))))
 (some (.ret, [(l97.headD undef)], H98))))
 (some (.exit 2, [(l24.getD 0 undef), (l24.getD 1 undef), (l24.getD 2 undef)], H25))) [(.slice none 0 0), (.slice none 0 0), (.int .i64 0)] H22) fun q102 l103 H104 => onCtl q102 none
 (fun i105 => onExit i105 2 (
 some ((.tuple #[(l103.getD 0 undef), (.int .i64 0)]), H104)) (
 none))
 (some ((l103.headD undef), H104)))) (
 none))
 (some ((l14.headD undef), H15))
theorem e_term_Store_Order (R : Handler) (x0 x1 : Value) (H0 : Hp) : execF PP orc R F.term_Store_Order Go.Proofs.Tryd.f11 [x0, x1] H0 = m_term_Store_Order R x0 x1 H0 := by kernel_rfl
noncomputable def m_term_Store_Dump_1 (R : Handler) (x0 x1 : Value) (H0 : Hp) : Option (Value × Hp) :=
 pCallF R F.strconv_Itoa [x0] H0 fun r1 H2 =>
 pBin PP .add T.string (.string ⟨#[32]⟩) r1 fun v3 =>
 pCallF R F.strings_Builder_WriteString [x1, v3] H2 fun r4 H5 =>
 some ((.tuple #[]), H5)
theorem e_term_Store_Dump_1 (R : Handler) (x0 x1 : Value) (H0 : Hp) : execF PP orc R F.term_Store_Dump_1 Go.Proofs.Tryd.f12 [x0, x1] H0 = m_term_Store_Dump_1 R x0 x1 H0 := by kernel_rfl
noncomputable def m_strings_Builder_WriteString (R : Handler) (x0 x1 : Value) (H0 : Hp) : Option (Value × Hp) :=
 pCallF R F.strings_Builder_copyCheck [x0] H0 fun r1 H2 =>
 pNil x0 (
 pOffs 1 x0 fun p3 =>
 pLoad 1 false H2 p3 fun v4 =>
 pAppendT T.uint8 1 1 v4 x1 H2 fun v5 H6 =>
 pNil x0 (
 pOffs 1 x0 fun p7 =>
 pStore 1 H6 p7 v5 fun H8 =>
 pLen .str x1 H8 fun v9 =>
 some ((.tuple #[v9, .nilIface]), H8)))
theorem e_strings_Builder_WriteString (R : Handler) (x0 x1 : Value) (H0 : Hp) : execF PP orc R F.strings_Builder_WriteString Go.Proofs.Tryd.f13 [x0, x1] H0 = m_strings_Builder_WriteString R x0 x1 H0 := by kernel_rfl
noncomputable def m_strconv_Itoa (R : Handler) (x0 : Value) (H0 : Hp) : Option (Value × Hp) :=
 pCallF R F.internal_strconv_Itoa [x0] H0 fun r1 H2 =>
 some (r1, H2)
theorem e_strconv_Itoa (R : Handler) (x0 : Value) (H0 : Hp) : execF PP orc R F.strconv_Itoa Go.Proofs.Tryd.f14 [x0] H0 = m_strconv_Itoa R x0 H0 := by kernel_rfl
noncomputable def m_term_names (R : Handler) (H0 : Hp) : Option (Value × Hp) :=
 pCallF R F.strings_Fields [(.string ⟨#[45, 32, 116, 114, 117, 101, 32, 102, 97, 108, 115, 101, 32, 99, 111, 110, 115, 116, 32, 118, 97, 114, 32, 110, 111, 116, 32, 97, 110, 100, 32, 111, 114, 32, 120, 111, 114, 32, 101, 113, 32, 117, 108, 116, 32, 117, 108, 101, 32, 115, 108, 116, 32, 115, 108, 101, 32, 105, 116, 101, 32, 99, 111, 109, 32, 110, 101, 103, 32, 98, 97, 110, 100, 32, 98, 111, 114, 32, 98, 120, 111, 114, 32, 97, 100, 100, 32, 115, 117, 98, 32, 109, 117, 108, 32, 100, 105, 118, 32, 114, 101, 109, 32, 115, 104, 108, 32, 115, 104, 114, 32, 115, 97, 114, 32, 114, 111, 108, 32, 114, 111, 114, 32, 99, 97, 116, 32, 115, 108, 105, 99, 101, 32, 122, 101, 120, 116, 32, 115, 101, 120, 116]⟩)] H0 fun r1 H2 =>
 some (r1, H2)
theorem e_term_names (R : Handler) (H0 : Hp) : execF PP orc R F.term_names Go.Proofs.Tryd.f15 [] H0 = m_term_names R  H0 := by kernel_rfl
noncomputable def m_bits_Text (R : Handler) (x0 : Value) (H0 : Hp) : Option (Value × Hp) :=
 pBin PP .lss T.uint64 x0 (.int .u64 1000) fun v1 =>
 pBool v1 fun b2 => br b2
 (pCallF R F.strconv_FormatUint [x0, (.int .i64 10)] H0 fun r3 H4 =>
 some (r3, H4))
 (pCallF R F.strconv_FormatUint [x0, (.int .i64 16)] H0 fun r5 H6 =>
 pBin PP .add T.string (.string ⟨#[48, 120]⟩) r5 fun v7 =>
 some (v7, H6))
theorem e_bits_Text (R : Handler) (x0 : Value) (H0 : Hp) : execF PP orc R F.bits_Text Go.Proofs.Tryd.f16 [x0] H0 = m_bits_Text R x0 H0 := by kernel_rfl
noncomputable def m_term_parts (R : Handler) (x0 : Value) (H0 : Hp) : Option (Value × Hp) :=
 bindO (
 pBin PP .eql T.int x0 (.int .i64 1) fun v1 =>
 pBool v1 fun b2 => br b2
 (some (.next, [v1], H0))
 (pBin PP .eql T.int x0 (.int .i64 2) fun v3 =>
 pBool v3 fun b4 => br b4
 (some (.next, [v3], H0))
 (pBin PP .eql T.int x0 (.int .i64 3) fun v5 =>
 pBool v5 fun b6 => br b6
 (some (.next, [v5], H0))
 (pBin PP .eql T.int x0 (.int .i64 4) fun v7 =>
 some (.next, [v7], H0))))) fun q8 l9 H10 => onCtl q8
 (pBool (l9.getD 0 undef) fun b12 => br b12
 (some ((.int .i64 0), H10))
 (pBin PP .eql T.int x0 (.int .i64 5) fun v13 =>
 pBool v13 fun b14 => br b14
 (pBool v13 fun b15 => br b15
 (some ((.int .i64 1), H10))
 (pBin PP .eql T.int x0 (.int .i64 14) fun v16 =>
 pBool v16 fun b17 => br b17
 (some ((.int .i64 3), H10))
 (some ((.int .i64 2), H10))))
 (pBin PP .eql T.int x0 (.int .i64 15) fun v18 =>
 pBool v18 fun b19 => br b19
 (pBool v18 fun b20 => br b20
 (some ((.int .i64 1), H10))
 (pBin PP .eql T.int x0 (.int .i64 14) fun v21 =>
 pBool v21 fun b22 => br b22
 (some ((.int .i64 3), H10))
 (some ((.int .i64 2), H10))))
 (pBin PP .eql T.int x0 (.int .i64 16) fun v23 =>
 pBool v23 fun b24 => br b24
 (pBool v23 fun b25 => br b25
 (some ((.int .i64 1), H10))
 (pBin PP .eql T.int x0 (.int .i64 14) fun v26 =>
 pBool v26 fun b27 => br b27
 (some ((.int .i64 3), H10))
 (some ((.int .i64 2), H10))))
 (pBin PP .eql T.int x0 (.int .i64 31) fun v28 =>
 pBool v28 fun b29 => br b29
 (pBool v28 fun b30 => br b30
 (some ((.int .i64 1), H10))
 (pBin PP .eql T.int x0 (.int .i64 14) fun v31 =>
 pBool v31 fun b32 => br b32
 (some ((.int .i64 3), H10))
 (some ((.int .i64 2), H10))))
 (pBin PP .eql T.int x0 (.int .i64 32) fun v33 =>
 pBool v33 fun b34 => br b34
 (pBool v33 fun b35 => br b35
 (some ((.int .i64 1), H10))
 (pBin PP .eql T.int x0 (.int .i64 14) fun v36 =>
 pBool v36 fun b37 => br b37
 (some ((.int .i64 3), H10))
 (some ((.int .i64 2), H10))))
 (pBin PP .eql T.int x0 (.int .i64 33) fun v38 =>
 pBool v38 fun b39 => br b39
 (some ((.int .i64 1), H10))
 (pBin PP .eql T.int x0 (.int .i64 14) fun v40 =>
 pBool v40 fun b41 => br b41
 (some ((.int .i64 3), H10))
 (some ((.int .i64 2), H10))))))))))
 (fun i11 => onExit i11 0 (
 some ((.int .i64 2), H10)) (
 none))
 (some ((l9.headD undef), H10))
theorem e_term_parts (R : Handler) (x0 : Value) (H0 : Hp) : execF PP orc R F.term_parts Go.Proofs.Tryd.f17 [x0] H0 = m_term_parts R x0 H0 := by kernel_rfl
noncomputable def m_strings_Builder_WriteByte (R : Handler) (x0 x1 : Value) (H0 : Hp) : Option (Value × Hp) :=
 pCallF R F.strings_Builder_copyCheck [x0] H0 fun r1 H2 =>
 pNil x0 (
 pOffs 1 x0 fun p3 =>
 pLoad 1 false H2 p3 fun v4 =>
 pBuildSlice 1 [.int .u8 0] 1 [(0, x1)] H2 fun v5 H6 =>
 pAppendT T.uint8 1 1 v4 v5 H6 fun v7 H8 =>
 pNil x0 (
 pOffs 1 x0 fun p9 =>
 pStore 1 H8 p9 v7 fun H10 =>
 some (.nilIface, H10)))
theorem e_strings_Builder_WriteByte (R : Handler) (x0 x1 : Value) (H0 : Hp) : execF PP orc R F.strings_Builder_WriteByte Go.Proofs.Tryd.f18 [x0, x1] H0 = m_strings_Builder_WriteByte R x0 x1 H0 := by kernel_rfl
noncomputable def m_strings_Builder_String (R : Handler) (x0 : Value) (H0 : Hp) : Option (Value × Hp) :=
 pNil x0 (
 pOffs 1 x0 fun p1 =>
 pLoad 1 false H0 p1 fun v2 =>
 none)
theorem e_strings_Builder_String (R : Handler) (x0 : Value) (H0 : Hp) : execF PP orc R F.strings_Builder_String Go.Proofs.Tryd.f19 [x0] H0 = m_strings_Builder_String R x0 H0 := by kernel_rfl
noncomputable def m_cadenceref07_Store_Order (R : Handler) (x0 x1 : Value) (H0 : Hp) : Option (Value × Hp) :=
 bindO (loopD (fun l1 H2 =>
 pLen .sl x1 H2 fun v3 =>
 pBin PP .lss T.int (l1.getD 0 undef) v3 fun v4 =>
 pBool v4 fun b5 => br b5
 (pIdx 1 x1 (l1.getD 0 undef) fun p6 =>
 pLoad 1 false H2 p6 fun v7 =>
 pCallF R F.cadenceref07_Store_is [x0, v7] H2 fun r8 H9 =>
 pUn .not r8 fun v10 =>
 pBool v10 fun b11 => br b11
 (some (.ret, [(.tuple #[(.slice none 0 0), (.int .i64 70)])], H9))
 (pBin PP .add T.int (l1.getD 0 undef) (.int .i64 1) fun v12 =>
 some (.next, [v12], H9)))
 (some (.exit 0, [(l1.getD 0 undef)], H2))) [(.int .i64 0)] H0) fun q13 l14 H15 => onCtl q13 none
 (fun i16 => onExit i16 0 (
 pNil x0 (
 pOffs 1 x0 fun p17 =>
 pLoad 1 false H15 p17 fun v18 =>
 pLen .sl v18 H15 fun v19 =>
 pBin PP .add T.int v19 (.int .i64 1) fun v20 =>
 pMakeSlice 1 1 [.bool false] v20 v20 H15 fun v21 H22 =>
 bindO (loopD (fun l23 H24 =>
 pLen .sl x1 H24 fun v25 =>
 pBin PP .lss T.int (l23.getD 1 undef) v25 fun v26 =>
 pBool v26 fun b27 => br b27
 (pIdx 1 x1 (l23.getD 1 undef) fun p28 =>
 pLoad 1 false H24 p28 fun v29 =>
 pBuildSlice 1 [.int .i64 0] 1 [(0, v29)] H24 fun v30 H31 =>
 bindO (loopD (fun l32 H33 =>
 pLen .sl (l32.getD 1 undef) H33 fun v34 =>
 pBin PP .gtr T.int v34 (.int .i64 0) fun v35 =>
 pBool v35 fun b36 => br b36
 (pLen .sl (l32.getD 1 undef) H33 fun v37 =>
 pBin PP .sub T.int v37 (.int .i64 1) fun v38 =>
 pIdx 1 (l32.getD 1 undef) v38 fun p39 =>
 pLoad 1 false H33 p39 fun v40 =>
 pNil x0 (
 pOffs 1 x0 fun p41 =>
 pLoad 1 false H33 p41 fun v42 =>
 pBin PP .sub T.int v40 (.int .i64 1) fun v43 =>
 pIdx 7 v42 v43 fun p44 =>
 pLoad 7 true H33 p44 fun v45 =>
 pSplice 7 [.int .i64 0, .int .i64 0, .int .i64 0, .int .i64 0, .int .i64 0, .int .u64 0, .string ⟨#[]⟩] 0 v45 fun c46 =>
 pCell 1 false c46 2 fun v47 =>
 pCell 1 false c46 3 fun v48 =>
 pCell 1 false c46 4 fun v49 =>
 pBuild PP T.a3_int [(0, v47), (1, v48), (2, v49)] fun v50 =>
 pSplice 3 [.int .i64 0, .int .i64 0, .int .i64 0] 0 v50 fun c51 =>
 bindO (loopD (fun l52 H53 =>
 pBin PP .geq T.int (l52.getD 1 undef) (.int .i64 0) fun v54 =>
 pBool v54 fun b55 => br b55
 (pIdxLoc 3 (l52.getD 1 undef) fun j56 =>
 pCell 1 false c51 (0 + j56 * 1) fun v57 =>
 pBin PP .gtr T.int v57 (.int .i64 0) fun v58 =>
 pBool v58 fun b59 => br b59
 (pIdxLoc 3 (l52.getD 1 undef) fun j60 =>
 pCell 1 false c51 (0 + j60 * 1) fun v61 =>
 pIdx 1 v21 v61 fun p62 =>
 pLoad 1 false H53 p62 fun v63 =>
 pUn .not v63 fun v64 =>
 pBool v64 fun b65 => br b65
 (pIdxLoc 3 (l52.getD 1 undef) fun j66 =>
 pCell 1 false c51 (0 + j66 * 1) fun v67 =>
 pBin PP .sub T.int (l52.getD 1 undef) (.int .i64 1) fun v68 =>
 some (.next, [v67, v68], H53))
 (pBin PP .sub T.int (l52.getD 1 undef) (.int .i64 1) fun v69 =>
 some (.next, [(l52.getD 0 undef), v69], H53)))
 (pBin PP .sub T.int (l52.getD 1 undef) (.int .i64 1) fun v70 =>
 some (.next, [(l52.getD 0 undef), v70], H53)))
 (some (.exit 6, [(l52.getD 0 undef), (l52.getD 1 undef)], H53))) [(.int .i64 0), (.int .i64 2)] H33) fun q71 l72 H73 => onCtl q71 none
 (fun i74 => onExit i74 6 (
 pBin PP .gtr T.int (l72.getD 0 undef) (.int .i64 0) fun v75 =>
 pBool v75 fun b76 => br b76
 (pIdx 1 v21 v40 fun p77 =>
 pLoad 1 false H73 p77 fun v78 =>
 pUn .not v78 fun v79 =>
 pBool v79 fun b80 => br b80
 (pBuildSlice 1 [.int .i64 0] 1 [(0, (l72.getD 0 undef))] H73 fun v81 H82 =>
 pAppend 1 8 (l32.getD 1 undef) v81 H82 fun v83 H84 =>
 some (.next, [(l32.getD 0 undef), v83], H84))
 (pIdx 1 v21 v40 fun p85 =>
 pLoad 1 false H73 p85 fun v86 =>
 pUn .not v86 fun v87 =>
 pBool v87 fun b88 => br b88
 (pIdx 1 v21 v40 fun p89 =>
 pStore 1 H73 p89 (.bool true) fun H90 =>
 pBuildSlice 1 [.int .i64 0] 1 [(0, v40)] H90 fun v91 H92 =>
 pAppend 1 8 (l32.getD 0 undef) v91 H92 fun v93 H94 =>
 pLen .sl (l32.getD 1 undef) H94 fun v95 =>
 pBin PP .sub T.int v95 (.int .i64 1) fun v96 =>
 pSlice 1 (l32.getD 1 undef) none (some v96) fun v97 =>
 some (.next, [v93, v97], H94))
 (pLen .sl (l32.getD 1 undef) H73 fun v98 =>
 pBin PP .sub T.int v98 (.int .i64 1) fun v99 =>
 pSlice 1 (l32.getD 1 undef) none (some v99) fun v100 =>
 some (.next, [(l32.getD 0 undef), v100], H73))))
 (pIdx 1 v21 v40 fun p101 =>
 pLoad 1 false H73 p101 fun v102 =>
 pUn .not v102 fun v103 =>
 pBool v103 fun b104 => br b104
 (pIdx 1 v21 v40 fun p105 =>
 pStore 1 H73 p105 (.bool true) fun H106 =>
 pBuildSlice 1 [.int .i64 0] 1 [(0, v40)] H106 fun v107 H108 =>
 pAppend 1 8 (l32.getD 0 undef) v107 H108 fun v109 H110 =>
 pLen .sl (l32.getD 1 undef) H110 fun v111 =>
 pBin PP .sub T.int v111 (.int .i64 1) fun v112 =>
 pSlice 1 (l32.getD 1 undef) none (some v112) fun v113 =>
 some (.next, [v109, v113], H110))
 (pLen .sl (l32.getD 1 undef) H73 fun v114 =>
 pBin PP .sub T.int v114 (.int .i64 1) fun v115 =>
 pSlice 1 (l32.getD 1 undef) none (some v115) fun v116 =>
 some (.next, [(l32.getD 0 undef), v116], H73)))) (
 onExit i74 5 (
 some (.next, [(l32.getD 0 undef), (l32.getD 1 undef)], H73)) (
 some (.exit i74, [(l32.getD 0 undef), (l32.getD 1 undef)], H73))))
 (some (.ret, [(l72.headD undef)], H73))))
 (some (.exit 4, [(l32.getD 0 undef), (l32.getD 1 undef)], H33))) [(l23.getD 0 undef), v30] H31) fun q117 l118 H119 => onCtl q117 none
 (fun i120 => onExit i120 4 (
 pBin PP .add T.int (l23.getD 1 undef) (.int .i64 1) fun v121 =>
 some (.next, [(l118.getD 0 undef), v121], H119)) (
 onExit i120 3 (
 pBin PP .add T.int (l23.getD 1 undef) (.int .i64 1) fun v122 =>
 some (.next, [(l118.getD 0 undef), v122], H119)) (
 some (.exit i120, [(l118.getD 0 undef), (l23.getD 1 undef)], H119))))
 (some (.ret, [(l118.headD undef)], H119)))
 (some (.exit 2, [(l23.getD 0 undef), (l23.getD 1 undef)], H24))) [(.slice none 0 0), (.int .i64 0)] H22) fun q123 l124 H125 => onCtl q123 none
 (fun i126 => onExit i126 2 (
 some ((.tuple #[(l124.getD 0 undef), (.int .i64 0)]), H125)) (
 none))
 (some ((l124.headD undef), H125)))) (
 none))
 (some ((l14.headD undef), H15))
theorem e_cadenceref07_Store_Order (R : Handler) (x0 x1 : Value) (H0 : Hp) : execF PP orc R F.cadenceref07_Store_Order Go.Proofs.Tryd.f20 [x0, x1] H0 = m_cadenceref07_Store_Order R x0 x1 H0 := by kernel_rfl
noncomputable def m_cadenceref07_Word (R : Handler) (x0 : Value) (H0 : Hp) : Option (Value × Hp) :=
 pBuild PP T.a34_string [(0, (.string ⟨#[]⟩)), (1, (.string ⟨#[116, 114, 117, 101]⟩)), (2, (.string ⟨#[102, 97, 108, 115, 101]⟩)), (3, (.string ⟨#[99, 111, 110, 115, 116]⟩)), (4, (.string ⟨#[118, 97, 114]⟩)), (5, (.string ⟨#[110, 111, 116]⟩)), (6, (.string ⟨#[97, 110, 100]⟩)), (7, (.string ⟨#[111, 114]⟩)), (8, (.string ⟨#[120, 111, 114]⟩)), (9, (.string ⟨#[101, 113]⟩)), (10, (.string ⟨#[117, 108, 116]⟩)), (11, (.string ⟨#[117, 108, 101]⟩)), (12, (.string ⟨#[115, 108, 116]⟩)), (13, (.string ⟨#[115, 108, 101]⟩)), (14, (.string ⟨#[105, 116, 101]⟩)), (15, (.string ⟨#[99, 111, 109]⟩)), (16, (.string ⟨#[110, 101, 103]⟩)), (17, (.string ⟨#[98, 97, 110, 100]⟩)), (18, (.string ⟨#[98, 111, 114]⟩)), (19, (.string ⟨#[98, 120, 111, 114]⟩)), (20, (.string ⟨#[97, 100, 100]⟩)), (21, (.string ⟨#[115, 117, 98]⟩)), (22, (.string ⟨#[109, 117, 108]⟩)), (23, (.string ⟨#[100, 105, 118]⟩)), (24, (.string ⟨#[114, 101, 109]⟩)), (25, (.string ⟨#[115, 104, 108]⟩)), (26, (.string ⟨#[115, 104, 114]⟩)), (27, (.string ⟨#[115, 97, 114]⟩)), (28, (.string ⟨#[114, 111, 108]⟩)), (29, (.string ⟨#[114, 111, 114]⟩)), (30, (.string ⟨#[99, 97, 116]⟩)), (31, (.string ⟨#[115, 108, 105, 99, 101]⟩)), (32, (.string ⟨#[122, 101, 120, 116]⟩)), (33, (.string ⟨#[115, 101, 120, 116]⟩))] fun v1 =>
 pSplice 34 [.string ⟨#[]⟩, .string ⟨#[]⟩, .string ⟨#[]⟩, .string ⟨#[]⟩, .string ⟨#[]⟩, .string ⟨#[]⟩, .string ⟨#[]⟩, .string ⟨#[]⟩, .string ⟨#[]⟩, .string ⟨#[]⟩, .string ⟨#[]⟩, .string ⟨#[]⟩, .string ⟨#[]⟩, .string ⟨#[]⟩, .string ⟨#[]⟩, .string ⟨#[]⟩, .string ⟨#[]⟩, .string ⟨#[]⟩, .string ⟨#[]⟩, .string ⟨#[]⟩, .string ⟨#[]⟩, .string ⟨#[]⟩, .string ⟨#[]⟩, .string ⟨#[]⟩, .string ⟨#[]⟩, .string ⟨#[]⟩, .string ⟨#[]⟩, .string ⟨#[]⟩, .string ⟨#[]⟩, .string ⟨#[]⟩, .string ⟨#[]⟩, .string ⟨#[]⟩, .string ⟨#[]⟩, .string ⟨#[]⟩] 0 v1 fun c2 =>
 pIdxLoc 34 x0 fun j3 =>
 pCell 1 false c2 (0 + j3 * 1) fun v4 =>
 some (v4, H0)
theorem e_cadenceref07_Word (R : Handler) (x0 : Value) (H0 : Hp) : execF PP orc R F.cadenceref07_Word Go.Proofs.Tryd.f21 [x0] H0 = m_cadenceref07_Word R x0 H0 := by kernel_rfl
noncomputable def m_cadenceref07_fields (R : Handler) (x0 : Value) (H0 : Hp) : Option (Value × Hp) :=
 pBin PP .leq T.int x0 (.int .i64 2) fun v1 =>
 pBool v1 fun b2 => br b2
 (some ((.string ⟨#[]⟩), H0))
 (pBin PP .eql T.int x0 (.int .i64 3) fun v3 =>
 pBool v3 fun b4 => br b4
 (some ((.string ⟨#[119, 110]⟩), H0))
 (pBin PP .eql T.int x0 (.int .i64 4) fun v5 =>
 pBool v5 fun b6 => br b6
 (some ((.string ⟨#[115, 119]⟩), H0))
 (pBin PP .eql T.int x0 (.int .i64 31) fun v7 =>
 pBool v7 fun b8 => br b8
 (some ((.string ⟨#[112, 110, 119]⟩), H0))
 (pBin PP .geq T.int x0 (.int .i64 32) fun v9 =>
 pBool v9 fun b10 => br b10
 (some ((.string ⟨#[112, 119]⟩), H0))
 (pCallF R F.cadenceref07_Parts [x0] H0 fun r11 H12 =>
 pSliceS (.string ⟨#[112, 112, 112]⟩) none (some r11) fun v13 =>
 some (v13, H12))))))
theorem e_cadenceref07_fields (R : Handler) (x0 : Value) (H0 : Hp) : execF PP orc R F.cadenceref07_fields Go.Proofs.Tryd.f22 [x0] H0 = m_cadenceref07_fields R x0 H0 := by kernel_rfl
noncomputable def m_cadenceref01_Text (R : Handler) (x0 : Value) (H0 : Hp) : Option (Value × Hp) :=
 bindO (
 pBin PP .geq T.uint64 x0 (.int .u64 1000) fun v1 =>
 pBool v1 fun b2 => br b2
 (some (.next, [(.int .u64 16), (.string ⟨#[48, 120]⟩)], H0))
 (some (.next, [(.int .u64 10), (.string ⟨#[]⟩)], H0))) fun q3 l4 H5 => onCtl q3
 (bindO (loopD (fun l7 H8 =>
 pBin PP .rem T.uint64 (l7.getD 0 undef) (l4.getD 0 undef) fun v9 =>
 pBin PP .add T.uint64 v9 (.int .u64 1) fun v10 =>
 pSliceS (.string ⟨#[48, 49, 50, 51, 52, 53, 54, 55, 56, 57, 97, 98, 99, 100, 101, 102]⟩) (some v9) (some v10) fun v11 =>
 pBin PP .add T.string v11 (l7.getD 1 undef) fun v12 =>
 pBin PP .quo T.uint64 (l7.getD 0 undef) (l4.getD 0 undef) fun v13 =>
 pBin PP .eql T.uint64 v13 (.int .u64 0) fun v14 =>
 pBool v14 fun b15 => br b15
 (pBin PP .add T.string (l4.getD 1 undef) v12 fun v16 =>
 some (.ret, [v16], H8))
 (some (.next, [v13, v12], H8))) [x0, (.string ⟨#[]⟩)] H5) fun q17 l18 H19 => onCtl q17 none
 (fun i20 => onExit i20 0 (
 none) (
 none))
 (some ((l18.headD undef), H19)))
 (fun i6 => none)
 (some ((l4.headD undef), H5))
theorem e_cadenceref01_Text (R : Handler) (x0 : Value) (H0 : Hp) : execF PP orc R F.cadenceref01_Text Go.Proofs.Tryd.f23 [x0] H0 = m_cadenceref01_Text R x0 H0 := by kernel_rfl
noncomputable def m_term_Store_Make (R : Handler) (x0 x1 : Value) (H0 : Hp) : Option (Value × Hp) :=
 bindO (
 pCell 1 false (cellsL x1) 0 fun v1 =>
 pBin PP .lss T.int v1 (.int .i64 1) fun v2 =>
 pBool v2 fun b3 => br b3
 (some (.ret, [(.tuple #[(.int .i64 0), (.int .i64 73)])], H0))
 (pCell 1 false (cellsL x1) 0 fun v4 =>
 pBin PP .gtr T.int v4 (.int .i64 33) fun v5 =>
 pBool v5 fun b6 => br b6
 (some (.ret, [(.tuple #[(.int .i64 0), (.int .i64 73)])], H0))
 (some (.next, [], H0)))) fun q7 l8 H9 => onCtl q7
 (bindO (
 pCell 1 false (cellsL x1) 1 fun v11 =>
 pBin PP .lss T.int v11 (.int .i64 0) fun v12 =>
 pBool v12 fun b13 => br b13
 (some (.ret, [(.tuple #[(.int .i64 0), (.int .i64 5)])], H9))
 (pCell 1 false (cellsL x1) 1 fun v14 =>
 pBin PP .gtr T.int v14 (.int .i64 64) fun v15 =>
 pBool v15 fun b16 => br b16
 (some (.ret, [(.tuple #[(.int .i64 0), (.int .i64 5)])], H9))
 (some (.next, [], H9)))) fun q17 l18 H19 => onCtl q17
 (pCell 1 false (cellsL x1) 2 fun v21 =>
 pCell 1 false (cellsL x1) 3 fun v22 =>
 pCell 1 false (cellsL x1) 4 fun v23 =>
 pBuild PP T.a3_int [(0, v21), (1, v22), (2, v23)] fun v24 =>
 bindO (loopD (fun l25 H26 =>
 pBin PP .lss T.int (l25.getD 0 undef) (.int .i64 3) fun v27 =>
 pBool v27 fun b28 => br b28
 (pAtArr 3 false 1 v24 (l25.getD 0 undef) fun v29 =>
 pCell 1 false (cellsL x1) 0 fun v30 =>
 pCallF R F.term_parts [v30] H26 fun r31 H32 =>
 pBin PP .lss T.int (l25.getD 0 undef) r31 fun v33 =>
 pBool v33 fun b34 => br b34
 (pCallF R F.term_Store_is [x0, v29] H32 fun r35 H36 =>
 pUn .not r35 fun v37 =>
 pBool v37 fun b38 => br b38
 (some (.ret, [(.tuple #[(.int .i64 0), (.int .i64 70)])], H36))
 (pBin PP .add T.int (l25.getD 0 undef) (.int .i64 1) fun v39 =>
 some (.next, [v39], H36)))
 (pBin PP .add T.int (l25.getD 0 undef) (.int .i64 1) fun v40 =>
 some (.next, [v40], H32)))
 (some (.exit 0, [(l25.getD 0 undef)], H26))) [(.int .i64 0)] H19) fun q41 l42 H43 => onCtl q41 none
 (fun i44 => onExit i44 0 (
 pCell 7 true (cellsL x1) 0 fun v45 =>
 pCallF R F.term_spare [v45] H43 fun r46 H47 =>
 pBool r46 fun b48 => br b48
 (some ((.tuple #[(.int .i64 0), (.int .i64 1)]), H47))
 (pCell 7 true (cellsL x1) 0 fun v49 =>
 pCallF R F.term_Store_sorted [x0, v49] H47 fun r50 H51 =>
 pUn .not r50 fun v52 =>
 pBool v52 fun b53 => br b53
 (some ((.tuple #[(.int .i64 0), (.int .i64 71)]), H51))
 (pCell 7 true (cellsL x1) 0 fun v54 =>
 pCallF R F.term_Store_wide [x0, v54] H51 fun r55 H56 =>
 pUn .not r55 fun v57 =>
 pBool v57 fun b58 => br b58
 (some ((.tuple #[(.int .i64 0), (.int .i64 5)]), H56))
 (bindO (
 pCell 1 false (cellsL x1) 0 fun v59 =>
 pBin PP .eql T.int v59 (.int .i64 4) fun v60 =>
 pBool v60 fun b61 => br b61
 (pNil x0 (
 pOffs 3 x0 fun p62 =>
 pLoad 1 false H56 p62 fun v63 =>
 pCell 1 false (cellsL x1) 6 fun v64 =>
 pLook PP T.string (.int .i64 0) v63 v64 true H56 fun v65 =>
 pExtract v65 0 fun v66 =>
 pExtract v65 1 fun v67 =>
 pCell 1 false (cellsL x1) 6 fun v68 =>
 pCallF R F.bits_Name [v68] H56 fun r69 H70 =>
 pUn .not r69 fun v71 =>
 pBool v71 fun b72 => br b72
 (some (.ret, [(.tuple #[(.int .i64 0), (.int .i64 72)])], H70))
 (pBool v67 fun b73 => br b73
 (pCell 1 false (cellsL x1) 1 fun v74 =>
 pBin PP .neq T.int v66 v74 fun v75 =>
 pBool v75 fun b76 => br b76
 (some (.ret, [(.tuple #[(.int .i64 0), (.int .i64 72)])], H70))
 (some (.next, [], H70)))
 (some (.next, [], H70)))))
 (some (.next, [], H56))) fun q77 l78 H79 => onCtl q77
 (pNil x0 (
 pOffs 2 x0 fun p81 =>
 pLoad 1 false H79 p81 fun v82 =>
 pCell 7 true (cellsL x1) 0 fun v83 =>
 pLook PP T.api_Node (.int .i64 0) v82 v83 true H79 fun v84 =>
 pExtract v84 0 fun v85 =>
 pExtract v84 1 fun v86 =>
 pBool v86 fun b87 => br b87
 (some ((.tuple #[v85, (.int .i64 0)]), H79))
 (bindO (
 pNil x0 (
 pOffs 0 x0 fun p88 =>
 pLoad 1 false H79 p88 fun v89 =>
 pBin PP .gtr T.int v89 (.int .i64 0) fun v90 =>
 pBool v90 fun b91 => br b91
 (pNil x0 (
 pOffs 1 x0 fun p92 =>
 pLoad 1 false H79 p92 fun v93 =>
 pLen .sl v93 H79 fun v94 =>
 pNil x0 (
 pOffs 0 x0 fun p95 =>
 pLoad 1 false H79 p95 fun v96 =>
 pBin PP .geq T.int v94 v96 fun v97 =>
 pBool v97 fun b98 => br b98
 (some (.ret, [(.tuple #[(.int .i64 0), (.int .i64 4)])], H79))
 (some (.next, [], H79)))))
 (some (.next, [], H79)))) fun q99 l100 H101 => onCtl q99
 (pNil x0 (
 pOffs 1 x0 fun p103 =>
 pLoad 1 false H101 p103 fun v104 =>
 pCell 7 true (cellsL x1) 0 fun v105 =>
 pBuildSlice 7 [.int .i64 0, .int .i64 0, .int .i64 0, .int .i64 0, .int .i64 0, .int .u64 0, .string ⟨#[]⟩] 1 [(0, v105)] H101 fun v106 H107 =>
 chk (Hp.rdP H107 p103 1 false = some v104) (
 pAppend 7 64 v104 v106 H107 fun v108 H109 =>
 pNil x0 (
 pOffs 1 x0 fun p110 =>
 pStore 1 H109 p110 v108 fun H111 =>
 pNil x0 (
 pOffs 2 x0 fun p112 =>
 pLoad 1 false H111 p112 fun v113 =>
 pCell 7 true (cellsL x1) 0 fun v114 =>
 pNil x0 (
 pOffs 1 x0 fun p115 =>
 pLoad 1 false H111 p115 fun v116 =>
 pLen .sl v116 H111 fun v117 =>
 pUpd PP T.api_Node v113 v114 v117 H111 fun H118 =>
 pCell 1 false (cellsL x1) 0 fun v119 =>
 pBin PP .eql T.int v119 (.int .i64 4) fun v120 =>
 pBool v120 fun b121 => br b121
 (pNil x0 (
 pOffs 3 x0 fun p122 =>
 pLoad 1 false H118 p122 fun v123 =>
 pCell 1 false (cellsL x1) 6 fun v124 =>
 pCell 1 false (cellsL x1) 1 fun v125 =>
 pUpd PP T.string v123 v124 v125 H118 fun H126 =>
 pNil x0 (
 pOffs 1 x0 fun p127 =>
 pLoad 1 false H126 p127 fun v128 =>
 pLen .sl v128 H126 fun v129 =>
 some ((.tuple #[v129, (.int .i64 0)]), H126))))
 (pNil x0 (
 pOffs 1 x0 fun p130 =>
 pLoad 1 false H118 p130 fun v131 =>
 pLen .sl v131 H118 fun v132 =>
 some ((.tuple #[v132, (.int .i64 0)]), H118)))))))))
 (fun i102 => none)
 (some ((l100.headD undef), H101)))))
 (fun i80 => none)
 (some ((l78.headD undef), H79)))))) (
 none))
 (some ((l42.headD undef), H43)))
 (fun i20 => none)
 (some ((l18.headD undef), H19)))
 (fun i10 => none)
 (some ((l8.headD undef), H9))
theorem e_term_Store_Make (R : Handler) (x0 x1 : Value) (H0 : Hp) : execF PP orc R F.term_Store_Make Go.Proofs.Tryd.f24 [x0, x1] H0 = m_term_Store_Make R x0 x1 H0 := by kernel_rfl
noncomputable def m_term_Store_Truth (R : Handler) (x0 x1 : Value) (H0 : Hp) : Option (Value × Hp) :=
 pBool x1 fun b1 => br b1
 (pBuild PP T.api_Node [(0, (.int .i64 1))] fun v2 =>
 pCallF R F.term_Store_Make [x0, v2] H0 fun r3 H4 =>
 pExtract r3 0 fun v5 =>
 pExtract r3 1 fun v6 =>
 some ((.tuple #[v5, v6]), H4))
 (pBuild PP T.api_Node [(0, (.int .i64 2))] fun v7 =>
 pCallF R F.term_Store_Make [x0, v7] H0 fun r8 H9 =>
 pExtract r8 0 fun v10 =>
 pExtract r8 1 fun v11 =>
 some ((.tuple #[v10, v11]), H9))
theorem e_term_Store_Truth (R : Handler) (x0 x1 : Value) (H0 : Hp) : execF PP orc R F.term_Store_Truth Go.Proofs.Tryd.f25 [x0, x1] H0 = m_term_Store_Truth R x0 x1 H0 := by kernel_rfl
noncomputable def m_term_Store_Const (R : Handler) (x0 x1 x2 : Value) (H0 : Hp) : Option (Value × Hp) :=
 pCallF R F.bits_Trim [x1, x2] H0 fun r1 H2 =>
 pBuild PP T.api_Node [(0, (.int .i64 3)), (1, x1), (5, r1)] fun v3 =>
 pCallF R F.term_Store_Make [x0, v3] H2 fun r4 H5 =>
 pExtract r4 0 fun v6 =>
 pExtract r4 1 fun v7 =>
 some ((.tuple #[v6, v7]), H5)
theorem e_term_Store_Const (R : Handler) (x0 x1 x2 : Value) (H0 : Hp) : execF PP orc R F.term_Store_Const Go.Proofs.Tryd.f26 [x0, x1, x2] H0 = m_term_Store_Const R x0 x1 x2 H0 := by kernel_rfl
noncomputable def m_term_Store_Var (R : Handler) (x0 x1 x2 : Value) (H0 : Hp) : Option (Value × Hp) :=
 pBuild PP T.api_Node [(0, (.int .i64 4)), (1, x2), (6, x1)] fun v1 =>
 pCallF R F.term_Store_Make [x0, v1] H0 fun r2 H3 =>
 pExtract r2 0 fun v4 =>
 pExtract r2 1 fun v5 =>
 some ((.tuple #[v4, v5]), H3)
theorem e_term_Store_Var (R : Handler) (x0 x1 x2 : Value) (H0 : Hp) : execF PP orc R F.term_Store_Var Go.Proofs.Tryd.f27 [x0, x1, x2] H0 = m_term_Store_Var R x0 x1 x2 H0 := by kernel_rfl
noncomputable def m_term_Store_Un (R : Handler) (x0 x1 x2 : Value) (H0 : Hp) : Option (Value × Hp) :=
 pBin PP .eql T.int x1 (.int .i64 5) fun v1 =>
 pBool v1 fun b2 => br b2
 (pBuild PP T.api_Node [(0, x1), (2, x2)] fun v3 =>
 pCallF R F.term_Store_Make [x0, v3] H0 fun r4 H5 =>
 pExtract r4 0 fun v6 =>
 pExtract r4 1 fun v7 =>
 some ((.tuple #[v6, v7]), H5))
 (pBin PP .eql T.int x1 (.int .i64 15) fun v8 =>
 pBool v8 fun b9 => br b9
 (pBool v8 fun b10 => br b10
 (pCallF R F.term_Store_w [x0, x2] H0 fun r11 H12 =>
 pMM true [r11, (.int .i64 0)] fun v13 =>
 pBuild PP T.api_Node [(0, x1), (1, v13), (2, x2)] fun v14 =>
 pCallF R F.term_Store_Make [x0, v14] H12 fun r15 H16 =>
 pExtract r15 0 fun v17 =>
 pExtract r15 1 fun v18 =>
 some ((.tuple #[v17, v18]), H16))
 (some ((.tuple #[(.int .i64 0), (.int .i64 73)]), H0)))
 (pBin PP .eql T.int x1 (.int .i64 16) fun v19 =>
 pBool v19 fun b20 => br b20
 (pCallF R F.term_Store_w [x0, x2] H0 fun r21 H22 =>
 pMM true [r21, (.int .i64 0)] fun v23 =>
 pBuild PP T.api_Node [(0, x1), (1, v23), (2, x2)] fun v24 =>
 pCallF R F.term_Store_Make [x0, v24] H22 fun r25 H26 =>
 pExtract r25 0 fun v27 =>
 pExtract r25 1 fun v28 =>
 some ((.tuple #[v27, v28]), H26))
 (some ((.tuple #[(.int .i64 0), (.int .i64 73)]), H0))))
theorem e_term_Store_Un (R : Handler) (x0 x1 x2 : Value) (H0 : Hp) : execF PP orc R F.term_Store_Un Go.Proofs.Tryd.f28 [x0, x1, x2] H0 = m_term_Store_Un R x0 x1 x2 H0 := by kernel_rfl
noncomputable def m_term_Store_Bin (R : Handler) (x0 x1 x2 x3 : Value) (H0 : Hp) : Option (Value × Hp) :=
 pBuild PP T.api_Node [(0, x1), (2, x2), (3, x3)] fun v1 =>
 pSplice 7 [.int .i64 0, .int .i64 0, .int .i64 0, .int .i64 0, .int .i64 0, .int .u64 0, .string ⟨#[]⟩] 0 v1 fun c2 =>
 bindO (
 bindO (
 pBin PP .geq T.int x1 (.int .i64 6) fun v3 =>
 pBool v3 fun b4 => br b4
 (pBin PP .leq T.int x1 (.int .i64 13) fun v5 =>
 some (.next, [v5], H0))
 (some (.next, [(.bool false)], H0))) fun q6 l7 H8 => onCtl q6
 (pBool (l7.getD 0 undef) fun b10 => br b10
 (some (.next, [(.agg c2.toArray)], H8))
 (bindO (
 pBin PP .geq T.int x1 (.int .i64 17) fun v11 =>
 pBool v11 fun b12 => br b12
 (pBin PP .leq T.int x1 (.int .i64 29) fun v13 =>
 some (.next, [v13], H8))
 (some (.next, [(.bool false)], H8))) fun q14 l15 H16 => onCtl q14
 (pBool (l15.getD 0 undef) fun b18 => br b18
 (pCallF R F.term_Store_w [x0, x2] H16 fun r19 H20 =>
 pMM true [r19, (.int .i64 0)] fun v21 =>
 pSplice 1 c2 1 v21 fun c22 =>
 some (.next, [(.agg c22.toArray)], H20))
 (pBin PP .eql T.int x1 (.int .i64 30) fun v23 =>
 pBool v23 fun b24 => br b24
 (pCallF R F.term_Store_w [x0, x2] H16 fun r25 H26 =>
 pMM true [r25, (.int .i64 0)] fun v27 =>
 pCallF R F.term_Store_w [x0, x3] H26 fun r28 H29 =>
 pMM true [r28, (.int .i64 0)] fun v30 =>
 pBin PP .add T.int v27 v30 fun v31 =>
 pSplice 1 c2 1 v31 fun c32 =>
 pCell 1 false c32 1 fun v33 =>
 pBin PP .gtr T.int v33 (.int .i64 64) fun v34 =>
 pBool v34 fun b35 => br b35
 (pSplice 1 c32 1 (.int .i64 0) fun c36 =>
 some (.next, [(.agg c36.toArray)], H29))
 (pCallF R F.term_Store_is [x0, x2] H29 fun r37 H38 =>
 pUn .not r37 fun v39 =>
 pBool v39 fun b40 => br b40
 (pSplice 1 c32 1 (.int .i64 0) fun c41 =>
 some (.next, [(.agg c41.toArray)], H38))
 (pCallF R F.term_Store_is [x0, x3] H38 fun r42 H43 =>
 pUn .not r42 fun v44 =>
 pBool v44 fun b45 => br b45
 (pSplice 1 c32 1 (.int .i64 0) fun c46 =>
 some (.next, [(.agg c46.toArray)], H43))
 (some (.next, [(.agg c32.toArray)], H43)))))
 (some (.ret, [(.tuple #[(.int .i64 0), (.int .i64 73)])], H16))))
 (fun i17 => onExit i17 0 (
 some (.next, [(.agg c2.toArray)], H16)) (
 some (.exit i17, [(.agg c2.toArray)], H16)))
 (some (.ret, [(l15.headD undef)], H16))))
 (fun i9 => onExit i9 0 (
 some (.next, [(.agg c2.toArray)], H8)) (
 some (.exit i9, [(.agg c2.toArray)], H8)))
 (some (.ret, [(l7.headD undef)], H8))) fun q47 l48 H49 => onCtl q47
 (pCell 7 true (cellsL ((l48.drop 0).getD 0 undef)) 0 fun v51 =>
 pCallF R F.term_Store_Make [x0, v51] H49 fun r52 H53 =>
 pExtract r52 0 fun v54 =>
 pExtract r52 1 fun v55 =>
 some ((.tuple #[v54, v55]), H53))
 (fun i50 => none)
 (some ((l48.headD undef), H49))
theorem e_term_Store_Bin (R : Handler) (x0 x1 x2 x3 : Value) (H0 : Hp) : execF PP orc R F.term_Store_Bin Go.Proofs.Tryd.f29 [x0, x1, x2, x3] H0 = m_term_Store_Bin R x0 x1 x2 x3 H0 := by kernel_rfl
noncomputable def m_term_Store_Ite (R : Handler) (x0 x1 x2 x3 : Value) (H0 : Hp) : Option (Value × Hp) :=
 pCallF R F.term_Store_w [x0, x2] H0 fun r1 H2 =>
 pMM true [r1, (.int .i64 0)] fun v3 =>
 pBuild PP T.api_Node [(0, (.int .i64 14)), (1, v3), (2, x1), (3, x2), (4, x3)] fun v4 =>
 pCallF R F.term_Store_Make [x0, v4] H2 fun r5 H6 =>
 pExtract r5 0 fun v7 =>
 pExtract r5 1 fun v8 =>
 some ((.tuple #[v7, v8]), H6)
theorem e_term_Store_Ite (R : Handler) (x0 x1 x2 x3 : Value) (H0 : Hp) : execF PP orc R F.term_Store_Ite Go.Proofs.Tryd.f30 [x0, x1, x2, x3] H0 = m_term_Store_Ite R x0 x1 x2 x3 H0 := by kernel_rfl
noncomputable def m_term_Store_Slice (R : Handler) (x0 x1 x2 x3 : Value) (H0 : Hp) : Option (Value × Hp) :=
 pConvInt .u64 x2 fun v1 =>
 pBuild PP T.api_Node [(0, (.int .i64 31)), (1, x3), (2, x1), (5, v1)] fun v2 =>
 pCallF R F.term_Store_Make [x0, v2] H0 fun r3 H4 =>
 pExtract r3 0 fun v5 =>
 pExtract r3 1 fun v6 =>
 some ((.tuple #[v5, v6]), H4)
theorem e_term_Store_Slice (R : Handler) (x0 x1 x2 x3 : Value) (H0 : Hp) : execF PP orc R F.term_Store_Slice Go.Proofs.Tryd.f31 [x0, x1, x2, x3] H0 = m_term_Store_Slice R x0 x1 x2 x3 H0 := by kernel_rfl
noncomputable def m_term_Store_Ext (R : Handler) (x0 x1 x2 x3 : Value) (H0 : Hp) : Option (Value × Hp) :=
 pBin PP .neq T.int x1 (.int .i64 32) fun v1 =>
 pBool v1 fun b2 => br b2
 (pBin PP .neq T.int x1 (.int .i64 33) fun v3 =>
 pBool v3 fun b4 => br b4
 (some ((.tuple #[(.int .i64 0), (.int .i64 73)]), H0))
 (pBuild PP T.api_Node [(0, x1), (1, x3), (2, x2)] fun v5 =>
 pCallF R F.term_Store_Make [x0, v5] H0 fun r6 H7 =>
 pExtract r6 0 fun v8 =>
 pExtract r6 1 fun v9 =>
 some ((.tuple #[v8, v9]), H7)))
 (pBuild PP T.api_Node [(0, x1), (1, x3), (2, x2)] fun v10 =>
 pCallF R F.term_Store_Make [x0, v10] H0 fun r11 H12 =>
 pExtract r11 0 fun v13 =>
 pExtract r11 1 fun v14 =>
 some ((.tuple #[v13, v14]), H12))
theorem e_term_Store_Ext (R : Handler) (x0 x1 x2 x3 : Value) (H0 : Hp) : execF PP orc R F.term_Store_Ext Go.Proofs.Tryd.f32 [x0, x1, x2, x3] H0 = m_term_Store_Ext R x0 x1 x2 x3 H0 := by kernel_rfl
noncomputable def m_cadenceref07_Store_Make (R : Handler) (x0 x1 : Value) (H0 : Hp) : Option (Value × Hp) :=
 pCell 1 false (cellsL x1) 0 fun v1 =>
 pCallF R F.cadenceref07_Parts [v1] H0 fun r2 H3 =>
 pBin PP .lss T.int r2 (.int .i64 0) fun v4 =>
 pBool v4 fun b5 => br b5
 (some ((.tuple #[(.int .i64 0), (.int .i64 73)]), H3))
 (bindO (
 pCell 1 false (cellsL x1) 1 fun v6 =>
 pBin PP .lss T.int v6 (.int .i64 0) fun v7 =>
 pBool v7 fun b8 => br b8
 (some (.next, [(.bool true)], H3))
 (pCell 1 false (cellsL x1) 1 fun v9 =>
 pBin PP .gtr T.int v9 (.int .i64 64) fun v10 =>
 some (.next, [v10], H3))) fun q11 l12 H13 => onCtl q11
 (pBool (l12.getD 0 undef) fun b15 => br b15
 (some ((.tuple #[(.int .i64 0), (.int .i64 5)]), H13))
 (bindO (
 pBin PP .geq T.int r2 (.int .i64 1) fun v16 =>
 pBool v16 fun b17 => br b17
 (pCell 1 false (cellsL x1) 2 fun v18 =>
 pCallF R F.cadenceref07_Store_is [x0, v18] H13 fun r19 H20 =>
 pUn .not r19 fun v21 =>
 pBool v21 fun b22 => br b22
 (some (.next, [(.bool true)], H20))
 (pBin PP .geq T.int r2 (.int .i64 2) fun v23 =>
 pBool v23 fun b24 => br b24
 (pCell 1 false (cellsL x1) 3 fun v25 =>
 pCallF R F.cadenceref07_Store_is [x0, v25] H20 fun r26 H27 =>
 pUn .not r26 fun v28 =>
 pBool v28 fun b29 => br b29
 (some (.next, [(.bool true)], H27))
 (pBin PP .geq T.int r2 (.int .i64 3) fun v30 =>
 pBool v30 fun b31 => br b31
 (pCell 1 false (cellsL x1) 4 fun v32 =>
 pCallF R F.cadenceref07_Store_is [x0, v32] H27 fun r33 H34 =>
 pUn .not r33 fun v35 =>
 some (.next, [v35], H34))
 (some (.next, [(.bool false)], H27))))
 (pBin PP .geq T.int r2 (.int .i64 3) fun v36 =>
 pBool v36 fun b37 => br b37
 (pCell 1 false (cellsL x1) 4 fun v38 =>
 pCallF R F.cadenceref07_Store_is [x0, v38] H20 fun r39 H40 =>
 pUn .not r39 fun v41 =>
 some (.next, [v41], H40))
 (some (.next, [(.bool false)], H20)))))
 (pBin PP .geq T.int r2 (.int .i64 2) fun v42 =>
 pBool v42 fun b43 => br b43
 (pCell 1 false (cellsL x1) 3 fun v44 =>
 pCallF R F.cadenceref07_Store_is [x0, v44] H13 fun r45 H46 =>
 pUn .not r45 fun v47 =>
 pBool v47 fun b48 => br b48
 (some (.next, [(.bool true)], H46))
 (pBin PP .geq T.int r2 (.int .i64 3) fun v49 =>
 pBool v49 fun b50 => br b50
 (pCell 1 false (cellsL x1) 4 fun v51 =>
 pCallF R F.cadenceref07_Store_is [x0, v51] H46 fun r52 H53 =>
 pUn .not r52 fun v54 =>
 some (.next, [v54], H53))
 (some (.next, [(.bool false)], H46))))
 (pBin PP .geq T.int r2 (.int .i64 3) fun v55 =>
 pBool v55 fun b56 => br b56
 (pCell 1 false (cellsL x1) 4 fun v57 =>
 pCallF R F.cadenceref07_Store_is [x0, v57] H13 fun r58 H59 =>
 pUn .not r58 fun v60 =>
 some (.next, [v60], H59))
 (some (.next, [(.bool false)], H13))))) fun q61 l62 H63 => onCtl q61
 (pBool (l62.getD 0 undef) fun b65 => br b65
 (some ((.tuple #[(.int .i64 0), (.int .i64 70)]), H63))
 (pCell 7 true (cellsL x1) 0 fun v66 =>
 pCallF R F.cadenceref07_extra [v66, r2] H63 fun r67 H68 =>
 pBool r67 fun b69 => br b69
 (some ((.tuple #[(.int .i64 0), (.int .i64 1)]), H68))
 (pCell 7 true (cellsL x1) 0 fun v70 =>
 pCallF R F.cadenceref07_Store_sorts [x0, v70] H68 fun r71 H72 =>
 pUn .not r71 fun v73 =>
 pBool v73 fun b74 => br b74
 (some ((.tuple #[(.int .i64 0), (.int .i64 71)]), H72))
 (pCell 7 true (cellsL x1) 0 fun v75 =>
 pCallF R F.cadenceref07_Store_width [x0, v75] H72 fun r76 H77 =>
 pUn .not r76 fun v78 =>
 pBool v78 fun b79 => br b79
 (some ((.tuple #[(.int .i64 0), (.int .i64 5)]), H77))
 (bindO (
 pCell 1 false (cellsL x1) 0 fun v80 =>
 pBin PP .eql T.int v80 (.int .i64 4) fun v81 =>
 pBool v81 fun b82 => br b82
 (pNil x0 (
 pOffs 3 x0 fun p83 =>
 pLoad 1 false H77 p83 fun v84 =>
 pCell 1 false (cellsL x1) 6 fun v85 =>
 pLook PP T.string (.int .i64 0) v84 v85 true H77 fun v86 =>
 pExtract v86 0 fun v87 =>
 pExtract v86 1 fun v88 =>
 pCell 1 false (cellsL x1) 6 fun v89 =>
 pCallF R F.cadenceref01_Name [v89] H77 fun r90 H91 =>
 pUn .not r90 fun v92 =>
 pBool v92 fun b93 => br b93
 (some (.ret, [(.tuple #[(.int .i64 0), (.int .i64 72)])], H91))
 (pBool v88 fun b94 => br b94
 (pCell 1 false (cellsL x1) 1 fun v95 =>
 pBin PP .neq T.int v87 v95 fun v96 =>
 pBool v96 fun b97 => br b97
 (some (.ret, [(.tuple #[(.int .i64 0), (.int .i64 72)])], H91))
 (some (.next, [], H91)))
 (some (.next, [], H91)))))
 (some (.next, [], H77))) fun q98 l99 H100 => onCtl q98
 (pNil x0 (
 pOffs 2 x0 fun p102 =>
 pLoad 1 false H100 p102 fun v103 =>
 pCell 7 true (cellsL x1) 0 fun v104 =>
 pLook PP T.api_Node (.int .i64 0) v103 v104 true H100 fun v105 =>
 pExtract v105 0 fun v106 =>
 pExtract v105 1 fun v107 =>
 pBool v107 fun b108 => br b108
 (some ((.tuple #[v106, (.int .i64 0)]), H100))
 (bindO (
 pNil x0 (
 pOffs 0 x0 fun p109 =>
 pLoad 1 false H100 p109 fun v110 =>
 pBin PP .gtr T.int v110 (.int .i64 0) fun v111 =>
 pBool v111 fun b112 => br b112
 (pNil x0 (
 pOffs 1 x0 fun p113 =>
 pLoad 1 false H100 p113 fun v114 =>
 pLen .sl v114 H100 fun v115 =>
 pNil x0 (
 pOffs 0 x0 fun p116 =>
 pLoad 1 false H100 p116 fun v117 =>
 pBin PP .geq T.int v115 v117 fun v118 =>
 pBool v118 fun b119 => br b119
 (some (.ret, [(.tuple #[(.int .i64 0), (.int .i64 4)])], H100))
 (some (.next, [], H100)))))
 (some (.next, [], H100)))) fun q120 l121 H122 => onCtl q120
 (pNil x0 (
 pOffs 1 x0 fun p124 =>
 pLoad 1 false H122 p124 fun v125 =>
 pCell 7 true (cellsL x1) 0 fun v126 =>
 pBuildSlice 7 [.int .i64 0, .int .i64 0, .int .i64 0, .int .i64 0, .int .i64 0, .int .u64 0, .string ⟨#[]⟩] 1 [(0, v126)] H122 fun v127 H128 =>
 chk (Hp.rdP H128 p124 1 false = some v125) (
 pAppend 7 64 v125 v127 H128 fun v129 H130 =>
 pNil x0 (
 pOffs 1 x0 fun p131 =>
 pStore 1 H130 p131 v129 fun H132 =>
 pNil x0 (
 pOffs 2 x0 fun p133 =>
 pLoad 1 false H132 p133 fun v134 =>
 pCell 7 true (cellsL x1) 0 fun v135 =>
 pNil x0 (
 pOffs 1 x0 fun p136 =>
 pLoad 1 false H132 p136 fun v137 =>
 pLen .sl v137 H132 fun v138 =>
 pUpd PP T.api_Node v134 v135 v138 H132 fun H139 =>
 pCell 1 false (cellsL x1) 0 fun v140 =>
 pBin PP .eql T.int v140 (.int .i64 4) fun v141 =>
 pBool v141 fun b142 => br b142
 (pNil x0 (
 pOffs 3 x0 fun p143 =>
 pLoad 1 false H139 p143 fun v144 =>
 pCell 1 false (cellsL x1) 6 fun v145 =>
 pCell 1 false (cellsL x1) 1 fun v146 =>
 pUpd PP T.string v144 v145 v146 H139 fun H147 =>
 pNil x0 (
 pOffs 1 x0 fun p148 =>
 pLoad 1 false H147 p148 fun v149 =>
 pLen .sl v149 H147 fun v150 =>
 some ((.tuple #[v150, (.int .i64 0)]), H147))))
 (pNil x0 (
 pOffs 1 x0 fun p151 =>
 pLoad 1 false H139 p151 fun v152 =>
 pLen .sl v152 H139 fun v153 =>
 some ((.tuple #[v153, (.int .i64 0)]), H139)))))))))
 (fun i123 => none)
 (some ((l121.headD undef), H122)))))
 (fun i101 => none)
 (some ((l99.headD undef), H100)))))))
 (fun i64 => onExit i64 0 (
 bindO (
 pCell 1 false (cellsL x1) 0 fun v154 =>
 pBin PP .eql T.int v154 (.int .i64 4) fun v155 =>
 pBool v155 fun b156 => br b156
 (pNil x0 (
 pOffs 3 x0 fun p157 =>
 pLoad 1 false H63 p157 fun v158 =>
 pCell 1 false (cellsL x1) 6 fun v159 =>
 pLook PP T.string (.int .i64 0) v158 v159 true H63 fun v160 =>
 pExtract v160 0 fun v161 =>
 pExtract v160 1 fun v162 =>
 pCell 1 false (cellsL x1) 6 fun v163 =>
 pCallF R F.cadenceref01_Name [v163] H63 fun r164 H165 =>
 pUn .not r164 fun v166 =>
 pBool v166 fun b167 => br b167
 (some (.ret, [(.tuple #[(.int .i64 0), (.int .i64 72)])], H165))
 (pBool v162 fun b168 => br b168
 (pCell 1 false (cellsL x1) 1 fun v169 =>
 pBin PP .neq T.int v161 v169 fun v170 =>
 pBool v170 fun b171 => br b171
 (some (.ret, [(.tuple #[(.int .i64 0), (.int .i64 72)])], H165))
 (some (.next, [], H165)))
 (some (.next, [], H165)))))
 (some (.next, [], H63))) fun q172 l173 H174 => onCtl q172
 (pNil x0 (
 pOffs 2 x0 fun p176 =>
 pLoad 1 false H174 p176 fun v177 =>
 pCell 7 true (cellsL x1) 0 fun v178 =>
 pLook PP T.api_Node (.int .i64 0) v177 v178 true H174 fun v179 =>
 pExtract v179 0 fun v180 =>
 pExtract v179 1 fun v181 =>
 pBool v181 fun b182 => br b182
 (some ((.tuple #[v180, (.int .i64 0)]), H174))
 (bindO (
 pNil x0 (
 pOffs 0 x0 fun p183 =>
 pLoad 1 false H174 p183 fun v184 =>
 pBin PP .gtr T.int v184 (.int .i64 0) fun v185 =>
 pBool v185 fun b186 => br b186
 (pNil x0 (
 pOffs 1 x0 fun p187 =>
 pLoad 1 false H174 p187 fun v188 =>
 pLen .sl v188 H174 fun v189 =>
 pNil x0 (
 pOffs 0 x0 fun p190 =>
 pLoad 1 false H174 p190 fun v191 =>
 pBin PP .geq T.int v189 v191 fun v192 =>
 pBool v192 fun b193 => br b193
 (some (.ret, [(.tuple #[(.int .i64 0), (.int .i64 4)])], H174))
 (some (.next, [], H174)))))
 (some (.next, [], H174)))) fun q194 l195 H196 => onCtl q194
 (pNil x0 (
 pOffs 1 x0 fun p198 =>
 pLoad 1 false H196 p198 fun v199 =>
 pCell 7 true (cellsL x1) 0 fun v200 =>
 pBuildSlice 7 [.int .i64 0, .int .i64 0, .int .i64 0, .int .i64 0, .int .i64 0, .int .u64 0, .string ⟨#[]⟩] 1 [(0, v200)] H196 fun v201 H202 =>
 chk (Hp.rdP H202 p198 1 false = some v199) (
 pAppend 7 64 v199 v201 H202 fun v203 H204 =>
 pNil x0 (
 pOffs 1 x0 fun p205 =>
 pStore 1 H204 p205 v203 fun H206 =>
 pNil x0 (
 pOffs 2 x0 fun p207 =>
 pLoad 1 false H206 p207 fun v208 =>
 pCell 7 true (cellsL x1) 0 fun v209 =>
 pNil x0 (
 pOffs 1 x0 fun p210 =>
 pLoad 1 false H206 p210 fun v211 =>
 pLen .sl v211 H206 fun v212 =>
 pUpd PP T.api_Node v208 v209 v212 H206 fun H213 =>
 pCell 1 false (cellsL x1) 0 fun v214 =>
 pBin PP .eql T.int v214 (.int .i64 4) fun v215 =>
 pBool v215 fun b216 => br b216
 (pNil x0 (
 pOffs 3 x0 fun p217 =>
 pLoad 1 false H213 p217 fun v218 =>
 pCell 1 false (cellsL x1) 6 fun v219 =>
 pCell 1 false (cellsL x1) 1 fun v220 =>
 pUpd PP T.string v218 v219 v220 H213 fun H221 =>
 pNil x0 (
 pOffs 1 x0 fun p222 =>
 pLoad 1 false H221 p222 fun v223 =>
 pLen .sl v223 H221 fun v224 =>
 some ((.tuple #[v224, (.int .i64 0)]), H221))))
 (pNil x0 (
 pOffs 1 x0 fun p225 =>
 pLoad 1 false H213 p225 fun v226 =>
 pLen .sl v226 H213 fun v227 =>
 some ((.tuple #[v227, (.int .i64 0)]), H213)))))))))
 (fun i197 => none)
 (some ((l195.headD undef), H196)))))
 (fun i175 => none)
 (some ((l173.headD undef), H174))) (
 none))
 (some ((l62.headD undef), H63))))
 (fun i14 => onExit i14 0 (
 bindO (
 pCell 1 false (cellsL x1) 0 fun v228 =>
 pBin PP .eql T.int v228 (.int .i64 4) fun v229 =>
 pBool v229 fun b230 => br b230
 (pNil x0 (
 pOffs 3 x0 fun p231 =>
 pLoad 1 false H13 p231 fun v232 =>
 pCell 1 false (cellsL x1) 6 fun v233 =>
 pLook PP T.string (.int .i64 0) v232 v233 true H13 fun v234 =>
 pExtract v234 0 fun v235 =>
 pExtract v234 1 fun v236 =>
 pCell 1 false (cellsL x1) 6 fun v237 =>
 pCallF R F.cadenceref01_Name [v237] H13 fun r238 H239 =>
 pUn .not r238 fun v240 =>
 pBool v240 fun b241 => br b241
 (some (.ret, [(.tuple #[(.int .i64 0), (.int .i64 72)])], H239))
 (pBool v236 fun b242 => br b242
 (pCell 1 false (cellsL x1) 1 fun v243 =>
 pBin PP .neq T.int v235 v243 fun v244 =>
 pBool v244 fun b245 => br b245
 (some (.ret, [(.tuple #[(.int .i64 0), (.int .i64 72)])], H239))
 (some (.next, [], H239)))
 (some (.next, [], H239)))))
 (some (.next, [], H13))) fun q246 l247 H248 => onCtl q246
 (pNil x0 (
 pOffs 2 x0 fun p250 =>
 pLoad 1 false H248 p250 fun v251 =>
 pCell 7 true (cellsL x1) 0 fun v252 =>
 pLook PP T.api_Node (.int .i64 0) v251 v252 true H248 fun v253 =>
 pExtract v253 0 fun v254 =>
 pExtract v253 1 fun v255 =>
 pBool v255 fun b256 => br b256
 (some ((.tuple #[v254, (.int .i64 0)]), H248))
 (bindO (
 pNil x0 (
 pOffs 0 x0 fun p257 =>
 pLoad 1 false H248 p257 fun v258 =>
 pBin PP .gtr T.int v258 (.int .i64 0) fun v259 =>
 pBool v259 fun b260 => br b260
 (pNil x0 (
 pOffs 1 x0 fun p261 =>
 pLoad 1 false H248 p261 fun v262 =>
 pLen .sl v262 H248 fun v263 =>
 pNil x0 (
 pOffs 0 x0 fun p264 =>
 pLoad 1 false H248 p264 fun v265 =>
 pBin PP .geq T.int v263 v265 fun v266 =>
 pBool v266 fun b267 => br b267
 (some (.ret, [(.tuple #[(.int .i64 0), (.int .i64 4)])], H248))
 (some (.next, [], H248)))))
 (some (.next, [], H248)))) fun q268 l269 H270 => onCtl q268
 (pNil x0 (
 pOffs 1 x0 fun p272 =>
 pLoad 1 false H270 p272 fun v273 =>
 pCell 7 true (cellsL x1) 0 fun v274 =>
 pBuildSlice 7 [.int .i64 0, .int .i64 0, .int .i64 0, .int .i64 0, .int .i64 0, .int .u64 0, .string ⟨#[]⟩] 1 [(0, v274)] H270 fun v275 H276 =>
 chk (Hp.rdP H276 p272 1 false = some v273) (
 pAppend 7 64 v273 v275 H276 fun v277 H278 =>
 pNil x0 (
 pOffs 1 x0 fun p279 =>
 pStore 1 H278 p279 v277 fun H280 =>
 pNil x0 (
 pOffs 2 x0 fun p281 =>
 pLoad 1 false H280 p281 fun v282 =>
 pCell 7 true (cellsL x1) 0 fun v283 =>
 pNil x0 (
 pOffs 1 x0 fun p284 =>
 pLoad 1 false H280 p284 fun v285 =>
 pLen .sl v285 H280 fun v286 =>
 pUpd PP T.api_Node v282 v283 v286 H280 fun H287 =>
 pCell 1 false (cellsL x1) 0 fun v288 =>
 pBin PP .eql T.int v288 (.int .i64 4) fun v289 =>
 pBool v289 fun b290 => br b290
 (pNil x0 (
 pOffs 3 x0 fun p291 =>
 pLoad 1 false H287 p291 fun v292 =>
 pCell 1 false (cellsL x1) 6 fun v293 =>
 pCell 1 false (cellsL x1) 1 fun v294 =>
 pUpd PP T.string v292 v293 v294 H287 fun H295 =>
 pNil x0 (
 pOffs 1 x0 fun p296 =>
 pLoad 1 false H295 p296 fun v297 =>
 pLen .sl v297 H295 fun v298 =>
 some ((.tuple #[v298, (.int .i64 0)]), H295))))
 (pNil x0 (
 pOffs 1 x0 fun p299 =>
 pLoad 1 false H287 p299 fun v300 =>
 pLen .sl v300 H287 fun v301 =>
 some ((.tuple #[v301, (.int .i64 0)]), H287)))))))))
 (fun i271 => none)
 (some ((l269.headD undef), H270)))))
 (fun i249 => none)
 (some ((l247.headD undef), H248))) (
 none))
 (some ((l12.headD undef), H13)))
theorem e_cadenceref07_Store_Make (R : Handler) (x0 x1 : Value) (H0 : Hp) : execF PP orc R F.cadenceref07_Store_Make Go.Proofs.Tryd.f33 [x0, x1] H0 = m_cadenceref07_Store_Make R x0 x1 H0 := by kernel_rfl
noncomputable def m_cadenceref07_Store_Truth (R : Handler) (x0 x1 : Value) (H0 : Hp) : Option (Value × Hp) :=
 pBool x1 fun b1 => br b1
 (pBuild PP T.api_Node [(0, (.int .i64 1))] fun v2 =>
 pCallF R F.cadenceref07_Store_Make [x0, v2] H0 fun r3 H4 =>
 pExtract r3 0 fun v5 =>
 pExtract r3 1 fun v6 =>
 some ((.tuple #[v5, v6]), H4))
 (pBuild PP T.api_Node [(0, (.int .i64 2))] fun v7 =>
 pCallF R F.cadenceref07_Store_Make [x0, v7] H0 fun r8 H9 =>
 pExtract r8 0 fun v10 =>
 pExtract r8 1 fun v11 =>
 some ((.tuple #[v10, v11]), H9))
theorem e_cadenceref07_Store_Truth (R : Handler) (x0 x1 : Value) (H0 : Hp) : execF PP orc R F.cadenceref07_Store_Truth Go.Proofs.Tryd.f34 [x0, x1] H0 = m_cadenceref07_Store_Truth R x0 x1 H0 := by kernel_rfl
noncomputable def m_cadenceref07_Store_Const (R : Handler) (x0 x1 x2 : Value) (H0 : Hp) : Option (Value × Hp) :=
 pCallF R F.cadenceref01_Trim [x1, x2] H0 fun r1 H2 =>
 pBuild PP T.api_Node [(0, (.int .i64 3)), (1, x1), (5, r1)] fun v3 =>
 pCallF R F.cadenceref07_Store_Make [x0, v3] H2 fun r4 H5 =>
 pExtract r4 0 fun v6 =>
 pExtract r4 1 fun v7 =>
 some ((.tuple #[v6, v7]), H5)
theorem e_cadenceref07_Store_Const (R : Handler) (x0 x1 x2 : Value) (H0 : Hp) : execF PP orc R F.cadenceref07_Store_Const Go.Proofs.Tryd.f35 [x0, x1, x2] H0 = m_cadenceref07_Store_Const R x0 x1 x2 H0 := by kernel_rfl
noncomputable def m_cadenceref07_Store_Var (R : Handler) (x0 x1 x2 : Value) (H0 : Hp) : Option (Value × Hp) :=
 pBuild PP T.api_Node [(0, (.int .i64 4)), (1, x2), (6, x1)] fun v1 =>
 pCallF R F.cadenceref07_Store_Make [x0, v1] H0 fun r2 H3 =>
 pExtract r2 0 fun v4 =>
 pExtract r2 1 fun v5 =>
 some ((.tuple #[v4, v5]), H3)
theorem e_cadenceref07_Store_Var (R : Handler) (x0 x1 x2 : Value) (H0 : Hp) : execF PP orc R F.cadenceref07_Store_Var Go.Proofs.Tryd.f36 [x0, x1, x2] H0 = m_cadenceref07_Store_Var R x0 x1 x2 H0 := by kernel_rfl
noncomputable def m_cadenceref07_Store_Un (R : Handler) (x0 x1 x2 : Value) (H0 : Hp) : Option (Value × Hp) :=
 pBin PP .eql T.int x1 (.int .i64 5) fun v1 =>
 pBool v1 fun b2 => br b2
 (pBuild PP T.api_Node [(0, x1), (2, x2)] fun v3 =>
 pCallF R F.cadenceref07_Store_Make [x0, v3] H0 fun r4 H5 =>
 pExtract r4 0 fun v6 =>
 pExtract r4 1 fun v7 =>
 some ((.tuple #[v6, v7]), H5))
 (pBin PP .eql T.int x1 (.int .i64 15) fun v8 =>
 pBool v8 fun b9 => br b9
 (pBool v8 fun b10 => br b10
 (pCallF R F.cadenceref07_Store_wide [x0, x2] H0 fun r11 H12 =>
 pBuild PP T.api_Node [(0, x1), (1, r11), (2, x2)] fun v13 =>
 pCallF R F.cadenceref07_Store_Make [x0, v13] H12 fun r14 H15 =>
 pExtract r14 0 fun v16 =>
 pExtract r14 1 fun v17 =>
 some ((.tuple #[v16, v17]), H15))
 (some ((.tuple #[(.int .i64 0), (.int .i64 73)]), H0)))
 (pBin PP .eql T.int x1 (.int .i64 16) fun v18 =>
 pBool v18 fun b19 => br b19
 (pCallF R F.cadenceref07_Store_wide [x0, x2] H0 fun r20 H21 =>
 pBuild PP T.api_Node [(0, x1), (1, r20), (2, x2)] fun v22 =>
 pCallF R F.cadenceref07_Store_Make [x0, v22] H21 fun r23 H24 =>
 pExtract r23 0 fun v25 =>
 pExtract r23 1 fun v26 =>
 some ((.tuple #[v25, v26]), H24))
 (some ((.tuple #[(.int .i64 0), (.int .i64 73)]), H0))))
theorem e_cadenceref07_Store_Un (R : Handler) (x0 x1 x2 : Value) (H0 : Hp) : execF PP orc R F.cadenceref07_Store_Un Go.Proofs.Tryd.f37 [x0, x1, x2] H0 = m_cadenceref07_Store_Un R x0 x1 x2 H0 := by kernel_rfl
noncomputable def m_cadenceref07_Store_Bin (R : Handler) (x0 x1 x2 x3 : Value) (H0 : Hp) : Option (Value × Hp) :=
 bindO (
 pBin PP .geq T.int x1 (.int .i64 6) fun v1 =>
 pBool v1 fun b2 => br b2
 (pBin PP .leq T.int x1 (.int .i64 13) fun v3 =>
 some (.next, [v3], H0))
 (some (.next, [(.bool false)], H0))) fun q4 l5 H6 => onCtl q4
 (pBool (l5.getD 0 undef) fun b8 => br b8
 (pBuild PP T.api_Node [(0, x1), (2, x2), (3, x3)] fun v9 =>
 pCallF R F.cadenceref07_Store_Make [x0, v9] H6 fun r10 H11 =>
 pExtract r10 0 fun v12 =>
 pExtract r10 1 fun v13 =>
 some ((.tuple #[v12, v13]), H11))
 (bindO (
 pBin PP .geq T.int x1 (.int .i64 17) fun v14 =>
 pBool v14 fun b15 => br b15
 (pBin PP .leq T.int x1 (.int .i64 29) fun v16 =>
 some (.next, [v16], H6))
 (some (.next, [(.bool false)], H6))) fun q17 l18 H19 => onCtl q17
 (pBool (l18.getD 0 undef) fun b21 => br b21
 (pCallF R F.cadenceref07_Store_wide [x0, x2] H19 fun r22 H23 =>
 pBuild PP T.api_Node [(0, x1), (1, r22), (2, x2), (3, x3)] fun v24 =>
 pCallF R F.cadenceref07_Store_Make [x0, v24] H23 fun r25 H26 =>
 pExtract r25 0 fun v27 =>
 pExtract r25 1 fun v28 =>
 some ((.tuple #[v27, v28]), H26))
 (pBin PP .eql T.int x1 (.int .i64 30) fun v29 =>
 pBool v29 fun b30 => br b30
 (pCallF R F.cadenceref07_Store_wide [x0, x2] H19 fun r31 H32 =>
 pCallF R F.cadenceref07_Store_wide [x0, x3] H32 fun r33 H34 =>
 pBin PP .add T.int r31 r33 fun v35 =>
 pBin PP .gtr T.int v35 (.int .i64 64) fun v36 =>
 pBool v36 fun b37 => br b37
 (pBuild PP T.api_Node [(0, x1), (1, (.int .i64 0)), (2, x2), (3, x3)] fun v38 =>
 pCallF R F.cadenceref07_Store_Make [x0, v38] H34 fun r39 H40 =>
 pExtract r39 0 fun v41 =>
 pExtract r39 1 fun v42 =>
 some ((.tuple #[v41, v42]), H40))
 (pBuild PP T.api_Node [(0, x1), (1, v35), (2, x2), (3, x3)] fun v43 =>
 pCallF R F.cadenceref07_Store_Make [x0, v43] H34 fun r44 H45 =>
 pExtract r44 0 fun v46 =>
 pExtract r44 1 fun v47 =>
 some ((.tuple #[v46, v47]), H45)))
 (some ((.tuple #[(.int .i64 0), (.int .i64 73)]), H19))))
 (fun i20 => onExit i20 0 (
 some ((.tuple #[(.int .i64 0), (.int .i64 73)]), H19)) (
 none))
 (some ((l18.headD undef), H19))))
 (fun i7 => onExit i7 0 (
 some ((.tuple #[(.int .i64 0), (.int .i64 73)]), H6)) (
 none))
 (some ((l5.headD undef), H6))
theorem e_cadenceref07_Store_Bin (R : Handler) (x0 x1 x2 x3 : Value) (H0 : Hp) : execF PP orc R F.cadenceref07_Store_Bin Go.Proofs.Tryd.f38 [x0, x1, x2, x3] H0 = m_cadenceref07_Store_Bin R x0 x1 x2 x3 H0 := by kernel_rfl
noncomputable def m_cadenceref07_Store_Ite (R : Handler) (x0 x1 x2 x3 : Value) (H0 : Hp) : Option (Value × Hp) :=
 pCallF R F.cadenceref07_Store_wide [x0, x2] H0 fun r1 H2 =>
 pBuild PP T.api_Node [(0, (.int .i64 14)), (1, r1), (2, x1), (3, x2), (4, x3)] fun v3 =>
 pCallF R F.cadenceref07_Store_Make [x0, v3] H2 fun r4 H5 =>
 pExtract r4 0 fun v6 =>
 pExtract r4 1 fun v7 =>
 some ((.tuple #[v6, v7]), H5)
theorem e_cadenceref07_Store_Ite (R : Handler) (x0 x1 x2 x3 : Value) (H0 : Hp) : execF PP orc R F.cadenceref07_Store_Ite Go.Proofs.Tryd.f39 [x0, x1, x2, x3] H0 = m_cadenceref07_Store_Ite R x0 x1 x2 x3 H0 := by kernel_rfl
noncomputable def m_cadenceref07_Store_Slice (R : Handler) (x0 x1 x2 x3 : Value) (H0 : Hp) : Option (Value × Hp) :=
 pConvInt .u64 x2 fun v1 =>
 pBuild PP T.api_Node [(0, (.int .i64 31)), (1, x3), (2, x1), (5, v1)] fun v2 =>
 pCallF R F.cadenceref07_Store_Make [x0, v2] H0 fun r3 H4 =>
 pExtract r3 0 fun v5 =>
 pExtract r3 1 fun v6 =>
 some ((.tuple #[v5, v6]), H4)
theorem e_cadenceref07_Store_Slice (R : Handler) (x0 x1 x2 x3 : Value) (H0 : Hp) : execF PP orc R F.cadenceref07_Store_Slice Go.Proofs.Tryd.f40 [x0, x1, x2, x3] H0 = m_cadenceref07_Store_Slice R x0 x1 x2 x3 H0 := by kernel_rfl
noncomputable def m_cadenceref07_Store_Ext (R : Handler) (x0 x1 x2 x3 : Value) (H0 : Hp) : Option (Value × Hp) :=
 pBin PP .neq T.int x1 (.int .i64 32) fun v1 =>
 pBool v1 fun b2 => br b2
 (pBin PP .neq T.int x1 (.int .i64 33) fun v3 =>
 pBool v3 fun b4 => br b4
 (some ((.tuple #[(.int .i64 0), (.int .i64 73)]), H0))
 (pBuild PP T.api_Node [(0, x1), (1, x3), (2, x2)] fun v5 =>
 pCallF R F.cadenceref07_Store_Make [x0, v5] H0 fun r6 H7 =>
 pExtract r6 0 fun v8 =>
 pExtract r6 1 fun v9 =>
 some ((.tuple #[v8, v9]), H7)))
 (pBuild PP T.api_Node [(0, x1), (1, x3), (2, x2)] fun v10 =>
 pCallF R F.cadenceref07_Store_Make [x0, v10] H0 fun r11 H12 =>
 pExtract r11 0 fun v13 =>
 pExtract r11 1 fun v14 =>
 some ((.tuple #[v13, v14]), H12))
theorem e_cadenceref07_Store_Ext (R : Handler) (x0 x1 x2 x3 : Value) (H0 : Hp) : execF PP orc R F.cadenceref07_Store_Ext Go.Proofs.Tryd.f41 [x0, x1, x2, x3] H0 = m_cadenceref07_Store_Ext R x0 x1 x2 x3 H0 := by kernel_rfl
noncomputable def m_term_Store_is (R : Handler) (x0 x1 : Value) (H0 : Hp) : Option (Value × Hp) :=
 pBin PP .geq T.int x1 (.int .i64 1) fun v1 =>
 pBool v1 fun b2 => br b2
 (pNil x0 (
 pOffs 1 x0 fun p3 =>
 pLoad 1 false H0 p3 fun v4 =>
 pLen .sl v4 H0 fun v5 =>
 pBin PP .leq T.int x1 v5 fun v6 =>
 some (v6, H0)))
 (some ((.bool false), H0))
theorem e_term_Store_is (R : Handler) (x0 x1 : Value) (H0 : Hp) : execF PP orc R F.term_Store_is Go.Proofs.Tryd.f42 [x0, x1] H0 = m_term_Store_is R x0 x1 H0 := by kernel_rfl
noncomputable def m_strings_Builder_copyCheck (R : Handler) (x0 : Value) (H0 : Hp) : Option (Value × Hp) :=
 pNil x0 (
 pOffs 0 x0 fun p1 =>
 pLoad 1 false H0 p1 fun v2 =>
 pBin PP .eql T.p_strings_Builder v2 (.pointer none) fun v3 =>
 pBool v3 fun b4 => br b4
 (none)
 (pNil x0 (
 pOffs 0 x0 fun p5 =>
 pLoad 1 false H0 p5 fun v6 =>
 pBin PP .neq T.p_strings_Builder v6 x0 fun v7 =>
 pBool v7 fun b8 => br b8
 (none)
 (some ((.tuple #[]), H0)))))
theorem e_strings_Builder_copyCheck (R : Handler) (x0 : Value) (H0 : Hp) : execF PP orc R F.strings_Builder_copyCheck Go.Proofs.Tryd.f43 [x0] H0 = m_strings_Builder_copyCheck R x0 H0 := by kernel_rfl
noncomputable def m_internal_strconv_Itoa (R : Handler) (x0 : Value) (H0 : Hp) : Option (Value × Hp) :=
 pCallF R F.internal_strconv_FormatInt [x0, (.int .i64 10)] H0 fun r1 H2 =>
 some (r1, H2)
theorem e_internal_strconv_Itoa (R : Handler) (x0 : Value) (H0 : Hp) : execF PP orc R F.internal_strconv_Itoa Go.Proofs.Tryd.f44 [x0] H0 = m_internal_strconv_Itoa R x0 H0 := by kernel_rfl
noncomputable def m_strings_Fields (R : Handler) (x0 : Value) (H0 : Hp) : Option (Value × Hp) :=
 bindO (loopD (fun l1 H2 =>
 pLen .str x0 H2 fun v3 =>
 pBin PP .lss T.int (l1.getD 3 undef) v3 fun v4 =>
 pBool v4 fun b5 => br b5
 (pAtStr x0 (l1.getD 3 undef) fun v6 =>
 pBin PP .or T.uint8 (l1.getD 2 undef) v6 fun v7 =>
 pIdxArr 256 1 (.pointer (some ⟨G.strings_asciiSpace, 0, none⟩)) v6 fun p8 =>
 pLoad 1 false H2 p8 fun v9 =>
 pConvInt .i64 v9 fun v10 =>
 pUn .xor v10 fun v11 =>
 pBin PP .and T.int (l1.getD 1 undef) v11 fun v12 =>
 pBin PP .add T.int (l1.getD 0 undef) v12 fun v13 =>
 pBin PP .add T.int (l1.getD 3 undef) (.int .i64 1) fun v14 =>
 some (.next, [v13, v10, v7, v14], H2))
 (some (.exit 0, [(l1.getD 0 undef), (l1.getD 1 undef), (l1.getD 2 undef), (l1.getD 3 undef)], H2))) [(.int .i64 0), (.int .i64 1), (.int .u8 0), (.int .i64 0)] H0) fun q15 l16 H17 => onCtl q15 none
 (fun i18 => onExit i18 0 (
 pBin PP .geq T.uint8 (l16.getD 2 undef) (.int .u8 128) fun v19 =>
 pBool v19 fun b20 => br b20
 (pCallF R F.strings_FieldsFunc [x0, (.func (.func F.unicode_IsSpace) #[] #[])] H17 fun r21 H22 =>
 some (r21, H22))
 (pMakeSlice 1 16 [.string ⟨#[]⟩] (l16.getD 0 undef) (l16.getD 0 undef) H17 fun v23 H24 =>
 bindO (loopD (fun l25 H26 =>
 pLen .str x0 H26 fun v27 =>
 pBin PP .lss T.int (l25.getD 0 undef) v27 fun v28 =>
 pBool v28 fun b29 => br b29
 (pAtStr x0 (l25.getD 0 undef) fun v30 =>
 pIdxArr 256 1 (.pointer (some ⟨G.strings_asciiSpace, 0, none⟩)) v30 fun p31 =>
 pLoad 1 false H26 p31 fun v32 =>
 pBin PP .neq T.uint8 v32 (.int .u8 0) fun v33 =>
 pBool v33 fun b34 => br b34
 (pBin PP .add T.int (l25.getD 0 undef) (.int .i64 1) fun v35 =>
 some (.next, [v35], H26))
 (some (.exit 2, [(l25.getD 0 undef)], H26)))
 (some (.exit 2, [(l25.getD 0 undef)], H26))) [(.int .i64 0)] H24) fun q36 l37 H38 => onCtl q36 none
 (fun i39 => onExit i39 2 (
 bindO (loopD (fun l40 H41 =>
 pLen .str x0 H41 fun v42 =>
 pBin PP .lss T.int (l40.getD 2 undef) v42 fun v43 =>
 pBool v43 fun b44 => br b44
 (pAtStr x0 (l40.getD 2 undef) fun v45 =>
 pIdxArr 256 1 (.pointer (some ⟨G.strings_asciiSpace, 0, none⟩)) v45 fun p46 =>
 pLoad 1 false H41 p46 fun v47 =>
 pBin PP .eql T.uint8 v47 (.int .u8 0) fun v48 =>
 pBool v48 fun b49 => br b49
 (pBin PP .add T.int (l40.getD 2 undef) (.int .i64 1) fun v50 =>
 some (.next, [(l40.getD 0 undef), (l40.getD 1 undef), v50], H41))
 (pSliceS x0 (some (l40.getD 1 undef)) (some (l40.getD 2 undef)) fun v51 =>
 pIdx 1 v23 (l40.getD 0 undef) fun p52 =>
 pStore 1 H41 p52 v51 fun H53 =>
 pBin PP .add T.int (l40.getD 0 undef) (.int .i64 1) fun v54 =>
 pBin PP .add T.int (l40.getD 2 undef) (.int .i64 1) fun v55 =>
 bindO (loopD (fun l56 H57 =>
 pLen .str x0 H57 fun v58 =>
 pBin PP .lss T.int (l56.getD 0 undef) v58 fun v59 =>
 pBool v59 fun b60 => br b60
 (pAtStr x0 (l56.getD 0 undef) fun v61 =>
 pIdxArr 256 1 (.pointer (some ⟨G.strings_asciiSpace, 0, none⟩)) v61 fun p62 =>
 pLoad 1 false H57 p62 fun v63 =>
 pBin PP .neq T.uint8 v63 (.int .u8 0) fun v64 =>
 pBool v64 fun b65 => br b65
 (pBin PP .add T.int (l56.getD 0 undef) (.int .i64 1) fun v66 =>
 some (.next, [v66], H57))
 (some (.exit 6, [(l56.getD 0 undef)], H57)))
 (some (.exit 6, [(l56.getD 0 undef)], H57))) [v55] H53) fun q67 l68 H69 => onCtl q67 none
 (fun i70 => onExit i70 6 (
 some (.next, [v54, (l68.getD 0 undef), (l68.getD 0 undef)], H69)) (
 onExit i70 5 (
 some (.next, [v54, (l40.getD 1 undef), (l68.getD 0 undef)], H69)) (
 some (.exit i70, [v54, (l40.getD 1 undef), (l68.getD 0 undef)], H69))))
 (some (.ret, [(l68.headD undef)], H69))))
 (some (.exit 4, [(l40.getD 0 undef), (l40.getD 1 undef), (l40.getD 2 undef)], H41))) [(.int .i64 0), (l37.getD 0 undef), (l37.getD 0 undef)] H38) fun q71 l72 H73 => onCtl q71 none
 (fun i74 => onExit i74 4 (
 pLen .str x0 H73 fun v75 =>
 pBin PP .lss T.int (l72.getD 1 undef) v75 fun v76 =>
 pBool v76 fun b77 => br b77
 (pSliceS x0 (some (l72.getD 1 undef)) none fun v78 =>
 pIdx 1 v23 (l72.getD 0 undef) fun p79 =>
 pStore 1 H73 p79 v78 fun H80 =>
 some (v23, H80))
 (some (v23, H73))) (
 none))
 (some ((l72.headD undef), H73))) (
 none))
 (some ((l37.headD undef), H38)))) (
 none))
 (some ((l16.headD undef), H17))
theorem e_strings_Fields (R : Handler) (x0 : Value) (H0 : Hp) : execF PP orc R F.strings_Fields Go.Proofs.Tryd.f45 [x0] H0 = m_strings_Fields R x0 H0 := by kernel_rfl
noncomputable def m_strconv_FormatUint (R : Handler) (x0 x1 : Value) (H0 : Hp) : Option (Value × Hp) :=
 pCallF R F.internal_strconv_FormatUint [x0, x1] H0 fun r1 H2 =>
 some (r1, H2)
theorem e_strconv_FormatUint (R : Handler) (x0 x1 : Value) (H0 : Hp) : execF PP orc R F.strconv_FormatUint Go.Proofs.Tryd.f46 [x0, x1] H0 = m_strconv_FormatUint R x0 x1 H0 := by kernel_rfl
noncomputable def m_cadenceref07_Store_is (R : Handler) (x0 x1 : Value) (H0 : Hp) : Option (Value × Hp) :=
 pBin PP .geq T.int x1 (.int .i64 1) fun v1 =>
 pBool v1 fun b2 => br b2
 (pNil x0 (
 pOffs 1 x0 fun p3 =>
 pLoad 1 false H0 p3 fun v4 =>
 pLen .sl v4 H0 fun v5 =>
 pBin PP .leq T.int x1 v5 fun v6 =>
 some (v6, H0)))
 (some ((.bool false), H0))
theorem e_cadenceref07_Store_is (R : Handler) (x0 x1 : Value) (H0 : Hp) : execF PP orc R F.cadenceref07_Store_is Go.Proofs.Tryd.f47 [x0, x1] H0 = m_cadenceref07_Store_is R x0 x1 H0 := by kernel_rfl
noncomputable def m_cadenceref07_Parts (R : Handler) (x0 : Value) (H0 : Hp) : Option (Value × Hp) :=
 bindO (
 pBin PP .lss T.int x0 (.int .i64 1) fun v1 =>
 pBool v1 fun b2 => br b2
 (some (.next, [(.bool true)], H0))
 (pBin PP .gtr T.int x0 (.int .i64 33) fun v3 =>
 some (.next, [v3], H0))) fun q4 l5 H6 => onCtl q4
 (pBool (l5.getD 0 undef) fun b8 => br b8
 (some ((.int .i64 (-1)), H6))
 (pBin PP .leq T.int x0 (.int .i64 4) fun v9 =>
 pBool v9 fun b10 => br b10
 (some ((.int .i64 0), H6))
 (pBin PP .eql T.int x0 (.int .i64 5) fun v11 =>
 pBool v11 fun b12 => br b12
 (some ((.int .i64 1), H6))
 (pBin PP .eql T.int x0 (.int .i64 15) fun v13 =>
 pBool v13 fun b14 => br b14
 (some ((.int .i64 1), H6))
 (pBin PP .eql T.int x0 (.int .i64 16) fun v15 =>
 pBool v15 fun b16 => br b16
 (some ((.int .i64 1), H6))
 (pBin PP .geq T.int x0 (.int .i64 31) fun v17 =>
 pBool v17 fun b18 => br b18
 (some ((.int .i64 1), H6))
 (pBin PP .eql T.int x0 (.int .i64 14) fun v19 =>
 pBool v19 fun b20 => br b20
 (some ((.int .i64 3), H6))
 (some ((.int .i64 2), H6)))))))))
 (fun i7 => onExit i7 0 (
 some ((.int .i64 2), H6)) (
 none))
 (some ((l5.headD undef), H6))
theorem e_cadenceref07_Parts (R : Handler) (x0 : Value) (H0 : Hp) : execF PP orc R F.cadenceref07_Parts Go.Proofs.Tryd.f48 [x0] H0 = m_cadenceref07_Parts R x0 H0 := by kernel_rfl
noncomputable def m_term_spare (R : Handler) (x0 : Value) (H0 : Hp) : Option (Value × Hp) :=
 pCell 1 false (cellsL x0) 0 fun v1 =>
 pCallF R F.term_parts [v1] H0 fun r2 H3 =>
 pBin PP .lss T.int r2 (.int .i64 1) fun v4 =>
 pBool v4 fun b5 => br b5
 (pCell 1 false (cellsL x0) 2 fun v6 =>
 pBin PP .neq T.int v6 (.int .i64 0) fun v7 =>
 pBool v7 fun b8 => br b8
 (some ((.bool true), H3))
 (pBin PP .lss T.int r2 (.int .i64 2) fun v9 =>
 pBool v9 fun b10 => br b10
 (pCell 1 false (cellsL x0) 3 fun v11 =>
 pBin PP .neq T.int v11 (.int .i64 0) fun v12 =>
 pBool v12 fun b13 => br b13
 (some ((.bool true), H3))
 (pBin PP .lss T.int r2 (.int .i64 3) fun v14 =>
 pBool v14 fun b15 => br b15
 (pCell 1 false (cellsL x0) 4 fun v16 =>
 pBin PP .neq T.int v16 (.int .i64 0) fun v17 =>
 pBool v17 fun b18 => br b18
 (some ((.bool true), H3))
 (pCell 1 false (cellsL x0) 5 fun v19 =>
 pBin PP .neq T.uint64 v19 (.int .u64 0) fun v20 =>
 pBool v20 fun b21 => br b21
 (pCell 1 false (cellsL x0) 0 fun v22 =>
 pBin PP .neq T.int v22 (.int .i64 3) fun v23 =>
 pBool v23 fun b24 => br b24
 (pCell 1 false (cellsL x0) 0 fun v25 =>
 pBin PP .neq T.int v25 (.int .i64 31) fun v26 =>
 pBool v26 fun b27 => br b27
 (some ((.bool true), H3))
 (pCell 1 false (cellsL x0) 6 fun v28 =>
 pBin PP .neq T.string v28 (.string ⟨#[]⟩) fun v29 =>
 pBool v29 fun b30 => br b30
 (pCell 1 false (cellsL x0) 0 fun v31 =>
 pBin PP .neq T.int v31 (.int .i64 4) fun v32 =>
 some (v32, H3))
 (some ((.bool false), H3))))
 (pCell 1 false (cellsL x0) 6 fun v33 =>
 pBin PP .neq T.string v33 (.string ⟨#[]⟩) fun v34 =>
 pBool v34 fun b35 => br b35
 (pCell 1 false (cellsL x0) 0 fun v36 =>
 pBin PP .neq T.int v36 (.int .i64 4) fun v37 =>
 some (v37, H3))
 (some ((.bool false), H3))))
 (pCell 1 false (cellsL x0) 6 fun v38 =>
 pBin PP .neq T.string v38 (.string ⟨#[]⟩) fun v39 =>
 pBool v39 fun b40 => br b40
 (pCell 1 false (cellsL x0) 0 fun v41 =>
 pBin PP .neq T.int v41 (.int .i64 4) fun v42 =>
 some (v42, H3))
 (some ((.bool false), H3)))))
 (pCell 1 false (cellsL x0) 5 fun v43 =>
 pBin PP .neq T.uint64 v43 (.int .u64 0) fun v44 =>
 pBool v44 fun b45 => br b45
 (pCell 1 false (cellsL x0) 0 fun v46 =>
 pBin PP .neq T.int v46 (.int .i64 3) fun v47 =>
 pBool v47 fun b48 => br b48
 (pCell 1 false (cellsL x0) 0 fun v49 =>
 pBin PP .neq T.int v49 (.int .i64 31) fun v50 =>
 pBool v50 fun b51 => br b51
 (some ((.bool true), H3))
 (pCell 1 false (cellsL x0) 6 fun v52 =>
 pBin PP .neq T.string v52 (.string ⟨#[]⟩) fun v53 =>
 pBool v53 fun b54 => br b54
 (pCell 1 false (cellsL x0) 0 fun v55 =>
 pBin PP .neq T.int v55 (.int .i64 4) fun v56 =>
 some (v56, H3))
 (some ((.bool false), H3))))
 (pCell 1 false (cellsL x0) 6 fun v57 =>
 pBin PP .neq T.string v57 (.string ⟨#[]⟩) fun v58 =>
 pBool v58 fun b59 => br b59
 (pCell 1 false (cellsL x0) 0 fun v60 =>
 pBin PP .neq T.int v60 (.int .i64 4) fun v61 =>
 some (v61, H3))
 (some ((.bool false), H3))))
 (pCell 1 false (cellsL x0) 6 fun v62 =>
 pBin PP .neq T.string v62 (.string ⟨#[]⟩) fun v63 =>
 pBool v63 fun b64 => br b64
 (pCell 1 false (cellsL x0) 0 fun v65 =>
 pBin PP .neq T.int v65 (.int .i64 4) fun v66 =>
 some (v66, H3))
 (some ((.bool false), H3))))))
 (pBin PP .lss T.int r2 (.int .i64 3) fun v67 =>
 pBool v67 fun b68 => br b68
 (pCell 1 false (cellsL x0) 4 fun v69 =>
 pBin PP .neq T.int v69 (.int .i64 0) fun v70 =>
 pBool v70 fun b71 => br b71
 (some ((.bool true), H3))
 (pCell 1 false (cellsL x0) 5 fun v72 =>
 pBin PP .neq T.uint64 v72 (.int .u64 0) fun v73 =>
 pBool v73 fun b74 => br b74
 (pCell 1 false (cellsL x0) 0 fun v75 =>
 pBin PP .neq T.int v75 (.int .i64 3) fun v76 =>
 pBool v76 fun b77 => br b77
 (pCell 1 false (cellsL x0) 0 fun v78 =>
 pBin PP .neq T.int v78 (.int .i64 31) fun v79 =>
 pBool v79 fun b80 => br b80
 (some ((.bool true), H3))
 (pCell 1 false (cellsL x0) 6 fun v81 =>
 pBin PP .neq T.string v81 (.string ⟨#[]⟩) fun v82 =>
 pBool v82 fun b83 => br b83
 (pCell 1 false (cellsL x0) 0 fun v84 =>
 pBin PP .neq T.int v84 (.int .i64 4) fun v85 =>
 some (v85, H3))
 (some ((.bool false), H3))))
 (pCell 1 false (cellsL x0) 6 fun v86 =>
 pBin PP .neq T.string v86 (.string ⟨#[]⟩) fun v87 =>
 pBool v87 fun b88 => br b88
 (pCell 1 false (cellsL x0) 0 fun v89 =>
 pBin PP .neq T.int v89 (.int .i64 4) fun v90 =>
 some (v90, H3))
 (some ((.bool false), H3))))
 (pCell 1 false (cellsL x0) 6 fun v91 =>
 pBin PP .neq T.string v91 (.string ⟨#[]⟩) fun v92 =>
 pBool v92 fun b93 => br b93
 (pCell 1 false (cellsL x0) 0 fun v94 =>
 pBin PP .neq T.int v94 (.int .i64 4) fun v95 =>
 some (v95, H3))
 (some ((.bool false), H3)))))
 (pCell 1 false (cellsL x0) 5 fun v96 =>
 pBin PP .neq T.uint64 v96 (.int .u64 0) fun v97 =>
 pBool v97 fun b98 => br b98
 (pCell 1 false (cellsL x0) 0 fun v99 =>
 pBin PP .neq T.int v99 (.int .i64 3) fun v100 =>
 pBool v100 fun b101 => br b101
 (pCell 1 false (cellsL x0) 0 fun v102 =>
 pBin PP .neq T.int v102 (.int .i64 31) fun v103 =>
 pBool v103 fun b104 => br b104
 (some ((.bool true), H3))
 (pCell 1 false (cellsL x0) 6 fun v105 =>
 pBin PP .neq T.string v105 (.string ⟨#[]⟩) fun v106 =>
 pBool v106 fun b107 => br b107
 (pCell 1 false (cellsL x0) 0 fun v108 =>
 pBin PP .neq T.int v108 (.int .i64 4) fun v109 =>
 some (v109, H3))
 (some ((.bool false), H3))))
 (pCell 1 false (cellsL x0) 6 fun v110 =>
 pBin PP .neq T.string v110 (.string ⟨#[]⟩) fun v111 =>
 pBool v111 fun b112 => br b112
 (pCell 1 false (cellsL x0) 0 fun v113 =>
 pBin PP .neq T.int v113 (.int .i64 4) fun v114 =>
 some (v114, H3))
 (some ((.bool false), H3))))
 (pCell 1 false (cellsL x0) 6 fun v115 =>
 pBin PP .neq T.string v115 (.string ⟨#[]⟩) fun v116 =>
 pBool v116 fun b117 => br b117
 (pCell 1 false (cellsL x0) 0 fun v118 =>
 pBin PP .neq T.int v118 (.int .i64 4) fun v119 =>
 some (v119, H3))
 (some ((.bool false), H3)))))))
 (pBin PP .lss T.int r2 (.int .i64 2) fun v120 =>
 pBool v120 fun b121 => br b121
 (pCell 1 false (cellsL x0) 3 fun v122 =>
 pBin PP .neq T.int v122 (.int .i64 0) fun v123 =>
 pBool v123 fun b124 => br b124
 (some ((.bool true), H3))
 (pBin PP .lss T.int r2 (.int .i64 3) fun v125 =>
 pBool v125 fun b126 => br b126
 (pCell 1 false (cellsL x0) 4 fun v127 =>
 pBin PP .neq T.int v127 (.int .i64 0) fun v128 =>
 pBool v128 fun b129 => br b129
 (some ((.bool true), H3))
 (pCell 1 false (cellsL x0) 5 fun v130 =>
 pBin PP .neq T.uint64 v130 (.int .u64 0) fun v131 =>
 pBool v131 fun b132 => br b132
 (pCell 1 false (cellsL x0) 0 fun v133 =>
 pBin PP .neq T.int v133 (.int .i64 3) fun v134 =>
 pBool v134 fun b135 => br b135
 (pCell 1 false (cellsL x0) 0 fun v136 =>
 pBin PP .neq T.int v136 (.int .i64 31) fun v137 =>
 pBool v137 fun b138 => br b138
 (some ((.bool true), H3))
 (pCell 1 false (cellsL x0) 6 fun v139 =>
 pBin PP .neq T.string v139 (.string ⟨#[]⟩) fun v140 =>
 pBool v140 fun b141 => br b141
 (pCell 1 false (cellsL x0) 0 fun v142 =>
 pBin PP .neq T.int v142 (.int .i64 4) fun v143 =>
 some (v143, H3))
 (some ((.bool false), H3))))
 (pCell 1 false (cellsL x0) 6 fun v144 =>
 pBin PP .neq T.string v144 (.string ⟨#[]⟩) fun v145 =>
 pBool v145 fun b146 => br b146
 (pCell 1 false (cellsL x0) 0 fun v147 =>
 pBin PP .neq T.int v147 (.int .i64 4) fun v148 =>
 some (v148, H3))
 (some ((.bool false), H3))))
 (pCell 1 false (cellsL x0) 6 fun v149 =>
 pBin PP .neq T.string v149 (.string ⟨#[]⟩) fun v150 =>
 pBool v150 fun b151 => br b151
 (pCell 1 false (cellsL x0) 0 fun v152 =>
 pBin PP .neq T.int v152 (.int .i64 4) fun v153 =>
 some (v153, H3))
 (some ((.bool false), H3)))))
 (pCell 1 false (cellsL x0) 5 fun v154 =>
 pBin PP .neq T.uint64 v154 (.int .u64 0) fun v155 =>
 pBool v155 fun b156 => br b156
 (pCell 1 false (cellsL x0) 0 fun v157 =>
 pBin PP .neq T.int v157 (.int .i64 3) fun v158 =>
 pBool v158 fun b159 => br b159
 (pCell 1 false (cellsL x0) 0 fun v160 =>
 pBin PP .neq T.int v160 (.int .i64 31) fun v161 =>
 pBool v161 fun b162 => br b162
 (some ((.bool true), H3))
 (pCell 1 false (cellsL x0) 6 fun v163 =>
 pBin PP .neq T.string v163 (.string ⟨#[]⟩) fun v164 =>
 pBool v164 fun b165 => br b165
 (pCell 1 false (cellsL x0) 0 fun v166 =>
 pBin PP .neq T.int v166 (.int .i64 4) fun v167 =>
 some (v167, H3))
 (some ((.bool false), H3))))
 (pCell 1 false (cellsL x0) 6 fun v168 =>
 pBin PP .neq T.string v168 (.string ⟨#[]⟩) fun v169 =>
 pBool v169 fun b170 => br b170
 (pCell 1 false (cellsL x0) 0 fun v171 =>
 pBin PP .neq T.int v171 (.int .i64 4) fun v172 =>
 some (v172, H3))
 (some ((.bool false), H3))))
 (pCell 1 false (cellsL x0) 6 fun v173 =>
 pBin PP .neq T.string v173 (.string ⟨#[]⟩) fun v174 =>
 pBool v174 fun b175 => br b175
 (pCell 1 false (cellsL x0) 0 fun v176 =>
 pBin PP .neq T.int v176 (.int .i64 4) fun v177 =>
 some (v177, H3))
 (some ((.bool false), H3))))))
 (pBin PP .lss T.int r2 (.int .i64 3) fun v178 =>
 pBool v178 fun b179 => br b179
 (pCell 1 false (cellsL x0) 4 fun v180 =>
 pBin PP .neq T.int v180 (.int .i64 0) fun v181 =>
 pBool v181 fun b182 => br b182
 (some ((.bool true), H3))
 (pCell 1 false (cellsL x0) 5 fun v183 =>
 pBin PP .neq T.uint64 v183 (.int .u64 0) fun v184 =>
 pBool v184 fun b185 => br b185
 (pCell 1 false (cellsL x0) 0 fun v186 =>
 pBin PP .neq T.int v186 (.int .i64 3) fun v187 =>
 pBool v187 fun b188 => br b188
 (pCell 1 false (cellsL x0) 0 fun v189 =>
 pBin PP .neq T.int v189 (.int .i64 31) fun v190 =>
 pBool v190 fun b191 => br b191
 (some ((.bool true), H3))
 (pCell 1 false (cellsL x0) 6 fun v192 =>
 pBin PP .neq T.string v192 (.string ⟨#[]⟩) fun v193 =>
 pBool v193 fun b194 => br b194
 (pCell 1 false (cellsL x0) 0 fun v195 =>
 pBin PP .neq T.int v195 (.int .i64 4) fun v196 =>
 some (v196, H3))
 (some ((.bool false), H3))))
 (pCell 1 false (cellsL x0) 6 fun v197 =>
 pBin PP .neq T.string v197 (.string ⟨#[]⟩) fun v198 =>
 pBool v198 fun b199 => br b199
 (pCell 1 false (cellsL x0) 0 fun v200 =>
 pBin PP .neq T.int v200 (.int .i64 4) fun v201 =>
 some (v201, H3))
 (some ((.bool false), H3))))
 (pCell 1 false (cellsL x0) 6 fun v202 =>
 pBin PP .neq T.string v202 (.string ⟨#[]⟩) fun v203 =>
 pBool v203 fun b204 => br b204
 (pCell 1 false (cellsL x0) 0 fun v205 =>
 pBin PP .neq T.int v205 (.int .i64 4) fun v206 =>
 some (v206, H3))
 (some ((.bool false), H3)))))
 (pCell 1 false (cellsL x0) 5 fun v207 =>
 pBin PP .neq T.uint64 v207 (.int .u64 0) fun v208 =>
 pBool v208 fun b209 => br b209
 (pCell 1 false (cellsL x0) 0 fun v210 =>
 pBin PP .neq T.int v210 (.int .i64 3) fun v211 =>
 pBool v211 fun b212 => br b212
 (pCell 1 false (cellsL x0) 0 fun v213 =>
 pBin PP .neq T.int v213 (.int .i64 31) fun v214 =>
 pBool v214 fun b215 => br b215
 (some ((.bool true), H3))
 (pCell 1 false (cellsL x0) 6 fun v216 =>
 pBin PP .neq T.string v216 (.string ⟨#[]⟩) fun v217 =>
 pBool v217 fun b218 => br b218
 (pCell 1 false (cellsL x0) 0 fun v219 =>
 pBin PP .neq T.int v219 (.int .i64 4) fun v220 =>
 some (v220, H3))
 (some ((.bool false), H3))))
 (pCell 1 false (cellsL x0) 6 fun v221 =>
 pBin PP .neq T.string v221 (.string ⟨#[]⟩) fun v222 =>
 pBool v222 fun b223 => br b223
 (pCell 1 false (cellsL x0) 0 fun v224 =>
 pBin PP .neq T.int v224 (.int .i64 4) fun v225 =>
 some (v225, H3))
 (some ((.bool false), H3))))
 (pCell 1 false (cellsL x0) 6 fun v226 =>
 pBin PP .neq T.string v226 (.string ⟨#[]⟩) fun v227 =>
 pBool v227 fun b228 => br b228
 (pCell 1 false (cellsL x0) 0 fun v229 =>
 pBin PP .neq T.int v229 (.int .i64 4) fun v230 =>
 some (v230, H3))
 (some ((.bool false), H3))))))
theorem e_term_spare (R : Handler) (x0 : Value) (H0 : Hp) : execF PP orc R F.term_spare Go.Proofs.Tryd.f49 [x0] H0 = m_term_spare R x0 H0 := by kernel_rfl
noncomputable def m_term_Store_sorted (R : Handler) (x0 x1 : Value) (H0 : Hp) : Option (Value × Hp) :=
 pCell 1 false (cellsL x1) 2 fun v1 =>
 pCallF R F.term_Store_w [x0, v1] H0 fun r2 H3 =>
 pCell 1 false (cellsL x1) 3 fun v4 =>
 pCallF R F.term_Store_w [x0, v4] H3 fun r5 H6 =>
 pCell 1 false (cellsL x1) 0 fun v7 =>
 pCallF R F.term_parts [v7] H6 fun r8 H9 =>
 pBin PP .eql T.int r8 (.int .i64 0) fun v10 =>
 pBool v10 fun b11 => br b11
 (some ((.bool true), H9))
 (pBin PP .eql T.int v7 (.int .i64 5) fun v12 =>
 pBool v12 fun b13 => br b13
 (pBin PP .eql T.int r2 (.int .i64 0) fun v14 =>
 some (v14, H9))
 (bindO (
 pBin PP .eql T.int v7 (.int .i64 6) fun v15 =>
 pBool v15 fun b16 => br b16
 (some (.next, [(.bool true)], H9))
 (pBin PP .eql T.int v7 (.int .i64 7) fun v17 =>
 pBool v17 fun b18 => br b18
 (some (.next, [(.bool true)], H9))
 (pBin PP .eql T.int v7 (.int .i64 8) fun v19 =>
 some (.next, [v19], H9)))) fun q20 l21 H22 => onCtl q20
 (pBool (l21.getD 0 undef) fun b24 => br b24
 (pBin PP .eql T.int r2 (.int .i64 0) fun v25 =>
 pBool v25 fun b26 => br b26
 (pBin PP .eql T.int r5 (.int .i64 0) fun v27 =>
 some (v27, H22))
 (some ((.bool false), H22)))
 (pBin PP .eql T.int v7 (.int .i64 9) fun v28 =>
 pBool v28 fun b29 => br b29
 (pBin PP .eql T.int r2 r5 fun v30 =>
 some (v30, H22))
 (pBin PP .eql T.int v7 (.int .i64 14) fun v31 =>
 pBool v31 fun b32 => br b32
 (pBin PP .eql T.int r2 (.int .i64 0) fun v33 =>
 pBool v33 fun b34 => br b34
 (pCell 1 false (cellsL x1) 4 fun v35 =>
 pCallF R F.term_Store_w [x0, v35] H22 fun r36 H37 =>
 pBin PP .eql T.int r5 r36 fun v38 =>
 some (v38, H37))
 (some ((.bool false), H22)))
 (pBin PP .eql T.int v7 (.int .i64 30) fun v39 =>
 pBool v39 fun b40 => br b40
 (pBin PP .gtr T.int r2 (.int .i64 0) fun v41 =>
 pBool v41 fun b42 => br b42
 (pBin PP .gtr T.int r5 (.int .i64 0) fun v43 =>
 some (v43, H22))
 (some ((.bool false), H22)))
 (pCallF R F.term_parts [v7] H22 fun r44 H45 =>
 pBin PP .eql T.int r44 (.int .i64 1) fun v46 =>
 pBool v46 fun b47 => br b47
 (pBin PP .gtr T.int r2 (.int .i64 0) fun v48 =>
 some (v48, H45))
 (pBin PP .gtr T.int r2 (.int .i64 0) fun v49 =>
 pBool v49 fun b50 => br b50
 (pBin PP .eql T.int r2 r5 fun v51 =>
 some (v51, H45))
 (some ((.bool false), H45))))))))
 (fun i23 => onExit i23 0 (
 pBin PP .gtr T.int r2 (.int .i64 0) fun v52 =>
 pBool v52 fun b53 => br b53
 (pBin PP .eql T.int r2 r5 fun v54 =>
 some (v54, H22))
 (some ((.bool false), H22))) (
 none))
 (some ((l21.headD undef), H22))))
theorem e_term_Store_sorted (R : Handler) (x0 x1 : Value) (H0 : Hp) : execF PP orc R F.term_Store_sorted Go.Proofs.Tryd.f50 [x0, x1] H0 = m_term_Store_sorted R x0 x1 H0 := by kernel_rfl
noncomputable def m_term_Store_wide (R : Handler) (x0 x1 : Value) (H0 : Hp) : Option (Value × Hp) :=
 pCell 1 false (cellsL x1) 2 fun v1 =>
 pCallF R F.term_Store_w [x0, v1] H0 fun r2 H3 =>
 pCell 1 false (cellsL x1) 0 fun v4 =>
 bindO (
 pBin PP .eql T.int v4 (.int .i64 1) fun v5 =>
 pBool v5 fun b6 => br b6
 (some (.next, [(.bool true)], H3))
 (pBin PP .eql T.int v4 (.int .i64 2) fun v7 =>
 pBool v7 fun b8 => br b8
 (some (.next, [(.bool true)], H3))
 (pBin PP .geq T.int v4 (.int .i64 5) fun v9 =>
 pBool v9 fun b10 => br b10
 (pBin PP .leq T.int v4 (.int .i64 13) fun v11 =>
 some (.next, [v11], H3))
 (some (.next, [(.bool false)], H3))))) fun q12 l13 H14 => onCtl q12
 (pBool (l13.getD 0 undef) fun b16 => br b16
 (pCell 1 false (cellsL x1) 1 fun v17 =>
 pBin PP .eql T.int v17 (.int .i64 0) fun v18 =>
 some (v18, H14))
 (pBin PP .eql T.int v4 (.int .i64 3) fun v19 =>
 pBool v19 fun b20 => br b20
 (pCell 1 false (cellsL x1) 1 fun v21 =>
 pBin PP .gtr T.int v21 (.int .i64 0) fun v22 =>
 pBool v22 fun b23 => br b23
 (pCell 1 false (cellsL x1) 1 fun v24 =>
 pCell 1 false (cellsL x1) 5 fun v25 =>
 pCallF R F.bits_Trim [v24, v25] H14 fun r26 H27 =>
 pCell 1 false (cellsL x1) 5 fun v28 =>
 pBin PP .eql T.uint64 r26 v28 fun v29 =>
 some (v29, H27))
 (some ((.bool false), H14)))
 (pBin PP .eql T.int v4 (.int .i64 4) fun v30 =>
 pBool v30 fun b31 => br b31
 (some ((.bool true), H14))
 (pBin PP .eql T.int v4 (.int .i64 14) fun v32 =>
 pBool v32 fun b33 => br b33
 (pCell 1 false (cellsL x1) 1 fun v34 =>
 pCell 1 false (cellsL x1) 3 fun v35 =>
 pCallF R F.term_Store_w [x0, v35] H14 fun r36 H37 =>
 pBin PP .eql T.int v34 r36 fun v38 =>
 some (v38, H37))
 (bindO (
 pBin PP .geq T.int v4 (.int .i64 25) fun v39 =>
 pBool v39 fun b40 => br b40
 (pBin PP .leq T.int v4 (.int .i64 29) fun v41 =>
 some (.next, [v41], H14))
 (some (.next, [(.bool false)], H14))) fun q42 l43 H44 => onCtl q42
 (pBool (l43.getD 0 undef) fun b46 => br b46
 (pCell 1 false (cellsL x1) 1 fun v47 =>
 pBin PP .eql T.int v47 r2 fun v48 =>
 pBool v48 fun b49 => br b49
 (pConvInt .u64 r2 fun v50 =>
 pCallF R F.bits_OnesCount [v50] H44 fun r51 H52 =>
 pBin PP .eql T.int r51 (.int .i64 1) fun v53 =>
 some (v53, H52))
 (some ((.bool false), H44)))
 (pBin PP .eql T.int v4 (.int .i64 30) fun v54 =>
 pBool v54 fun b55 => br b55
 (pCell 1 false (cellsL x1) 1 fun v56 =>
 pCell 1 false (cellsL x1) 3 fun v57 =>
 pCallF R F.term_Store_w [x0, v57] H44 fun r58 H59 =>
 pBin PP .add T.int r2 r58 fun v60 =>
 pBin PP .eql T.int v56 v60 fun v61 =>
 some (v61, H59))
 (pBin PP .eql T.int v4 (.int .i64 31) fun v62 =>
 pBool v62 fun b63 => br b63
 (pCell 1 false (cellsL x1) 1 fun v64 =>
 pBin PP .geq T.int v64 (.int .i64 1) fun v65 =>
 pBool v65 fun b66 => br b66
 (pCell 1 false (cellsL x1) 1 fun v67 =>
 pBin PP .leq T.int v67 r2 fun v68 =>
 pBool v68 fun b69 => br b69
 (pCell 1 false (cellsL x1) 5 fun v70 =>
 pCell 1 false (cellsL x1) 1 fun v71 =>
 pBin PP .sub T.int r2 v71 fun v72 =>
 pConvInt .u64 v72 fun v73 =>
 pBin PP .leq T.uint64 v70 v73 fun v74 =>
 some (v74, H44))
 (some ((.bool false), H44)))
 (some ((.bool false), H44)))
 (pBin PP .eql T.int v4 (.int .i64 32) fun v75 =>
 pBool v75 fun b76 => br b76
 (pCell 1 false (cellsL x1) 1 fun v77 =>
 pBin PP .geq T.int v77 r2 fun v78 =>
 some (v78, H44))
 (pBin PP .eql T.int v4 (.int .i64 33) fun v79 =>
 pBool v79 fun b80 => br b80
 (pCell 1 false (cellsL x1) 1 fun v81 =>
 pBin PP .geq T.int v81 r2 fun v82 =>
 some (v82, H44))
 (pCell 1 false (cellsL x1) 1 fun v83 =>
 pBin PP .eql T.int v83 r2 fun v84 =>
 some (v84, H44)))))))
 (fun i45 => onExit i45 0 (
 pCell 1 false (cellsL x1) 1 fun v85 =>
 pBin PP .eql T.int v85 r2 fun v86 =>
 some (v86, H44)) (
 none))
 (some ((l43.headD undef), H44)))))))
 (fun i15 => onExit i15 0 (
 pCell 1 false (cellsL x1) 1 fun v87 =>
 pBin PP .eql T.int v87 r2 fun v88 =>
 some (v88, H14)) (
 none))
 (some ((l13.headD undef), H14))
theorem e_term_Store_wide (R : Handler) (x0 x1 : Value) (H0 : Hp) : execF PP orc R F.term_Store_wide Go.Proofs.Tryd.f51 [x0, x1] H0 = m_term_Store_wide R x0 x1 H0 := by kernel_rfl
noncomputable def m_bits_Name (R : Handler) (x0 : Value) (H0 : Hp) : Option (Value × Hp) :=
 bindO (
 pLen .str x0 H0 fun v1 =>
 pBin PP .lss T.int v1 (.int .i64 1) fun v2 =>
 pBool v2 fun b3 => br b3
 (some (.ret, [(.bool false)], H0))
 (pLen .str x0 H0 fun v4 =>
 pBin PP .gtr T.int v4 (.int .i64 24) fun v5 =>
 pBool v5 fun b6 => br b6
 (some (.ret, [(.bool false)], H0))
 (some (.next, [], H0)))) fun q7 l8 H9 => onCtl q7
 (pStrC x0 fun s11 =>
 bindO (loopD (fun l12 H13 =>
 br (Nat.blt (posOf ((l12.drop 0).getD 0 undef)) (strOf ((l12.drop 0).getD 0 undef)).size)
 (bindO (
 pBin PP .geq T.int32 (.int .i32 (Utf8.decode (strOf ((l12.drop 0).getD 0 undef)) (posOf ((l12.drop 0).getD 0 undef))).1) (.int .i32 97) fun v14 =>
 pBool v14 fun b15 => br b15
 (pBin PP .leq T.int32 (.int .i32 (Utf8.decode (strOf ((l12.drop 0).getD 0 undef)) (posOf ((l12.drop 0).getD 0 undef))).1) (.int .i32 122) fun v16 =>
 pBool v16 fun b17 => br b17
 (some (.next, [(.bool true)], H13))
 (pBin PP .geq T.int32 (.int .i32 (Utf8.decode (strOf ((l12.drop 0).getD 0 undef)) (posOf ((l12.drop 0).getD 0 undef))).1) (.int .i32 65) fun v18 =>
 pBool v18 fun b19 => br b19
 (pBin PP .leq T.int32 (.int .i32 (Utf8.decode (strOf ((l12.drop 0).getD 0 undef)) (posOf ((l12.drop 0).getD 0 undef))).1) (.int .i32 90) fun v20 =>
 pBool v20 fun b21 => br b21
 (some (.next, [(.bool true)], H13))
 (pBin PP .eql T.int32 (.int .i32 (Utf8.decode (strOf ((l12.drop 0).getD 0 undef)) (posOf ((l12.drop 0).getD 0 undef))).1) (.int .i32 95) fun v22 =>
 some (.next, [v22], H13)))
 (pBin PP .eql T.int32 (.int .i32 (Utf8.decode (strOf ((l12.drop 0).getD 0 undef)) (posOf ((l12.drop 0).getD 0 undef))).1) (.int .i32 95) fun v23 =>
 some (.next, [v23], H13))))
 (pBin PP .geq T.int32 (.int .i32 (Utf8.decode (strOf ((l12.drop 0).getD 0 undef)) (posOf ((l12.drop 0).getD 0 undef))).1) (.int .i32 65) fun v24 =>
 pBool v24 fun b25 => br b25
 (pBin PP .leq T.int32 (.int .i32 (Utf8.decode (strOf ((l12.drop 0).getD 0 undef)) (posOf ((l12.drop 0).getD 0 undef))).1) (.int .i32 90) fun v26 =>
 pBool v26 fun b27 => br b27
 (some (.next, [(.bool true)], H13))
 (pBin PP .eql T.int32 (.int .i32 (Utf8.decode (strOf ((l12.drop 0).getD 0 undef)) (posOf ((l12.drop 0).getD 0 undef))).1) (.int .i32 95) fun v28 =>
 some (.next, [v28], H13)))
 (pBin PP .eql T.int32 (.int .i32 (Utf8.decode (strOf ((l12.drop 0).getD 0 undef)) (posOf ((l12.drop 0).getD 0 undef))).1) (.int .i32 95) fun v29 =>
 some (.next, [v29], H13)))) fun q30 l31 H32 => onCtl q30
 (pUn .not (l31.getD 0 undef) fun v34 =>
 pBool v34 fun b35 => br b35
 (pBin PP .eql T.int (.int .i64 ((posOf ((l12.drop 0).getD 0 undef)) : Nat)) (.int .i64 0) fun v36 =>
 pBool v36 fun b37 => br b37
 (some (.ret, [(.bool false)], H32))
 (pBin PP .lss T.int32 (.int .i32 (Utf8.decode (strOf ((l12.drop 0).getD 0 undef)) (posOf ((l12.drop 0).getD 0 undef))).1) (.int .i32 48) fun v38 =>
 pBool v38 fun b39 => br b39
 (some (.ret, [(.bool false)], H32))
 (pBin PP .gtr T.int32 (.int .i32 (Utf8.decode (strOf ((l12.drop 0).getD 0 undef)) (posOf ((l12.drop 0).getD 0 undef))).1) (.int .i32 57) fun v40 =>
 pBool v40 fun b41 => br b41
 (some (.ret, [(.bool false)], H32))
 (some (.next, [(.tuple #[.string (strOf ((l12.drop 0).getD 0 undef)), .int .i64 (((posOf ((l12.drop 0).getD 0 undef)) + (Utf8.decode (strOf ((l12.drop 0).getD 0 undef)) (posOf ((l12.drop 0).getD 0 undef))).2) : Nat)])], H32)))))
 (some (.next, [(.tuple #[.string (strOf ((l12.drop 0).getD 0 undef)), .int .i64 (((posOf ((l12.drop 0).getD 0 undef)) + (Utf8.decode (strOf ((l12.drop 0).getD 0 undef)) (posOf ((l12.drop 0).getD 0 undef))).2) : Nat)])], H32)))
 (fun i33 => onExit i33 1 (
 some (.next, [(.tuple #[.string (strOf ((l12.drop 0).getD 0 undef)), .int .i64 (((posOf ((l12.drop 0).getD 0 undef)) + (Utf8.decode (strOf ((l12.drop 0).getD 0 undef)) (posOf ((l12.drop 0).getD 0 undef))).2) : Nat)])], H32)) (
 some (.exit i33, [(.tuple #[.string (strOf ((l12.drop 0).getD 0 undef)), .int .i64 (((posOf ((l12.drop 0).getD 0 undef)) + (Utf8.decode (strOf ((l12.drop 0).getD 0 undef)) (posOf ((l12.drop 0).getD 0 undef))).2) : Nat)])], H32)))
 (some (.ret, [(l31.headD undef)], H32)))
 (some (.exit 0, [(.tuple #[.string (strOf ((l12.drop 0).getD 0 undef)), .int .i64 ((posOf ((l12.drop 0).getD 0 undef)) : Nat)])], H13))) [(.tuple #[.string s11, .int .i64 (0 : Nat)])] H9) fun q42 l43 H44 => onCtl q42 none
 (fun i45 => onExit i45 0 (
 some ((.bool true), H44)) (
 none))
 (some ((l43.headD undef), H44)))
 (fun i10 => none)
 (some ((l8.headD undef), H9))
theorem e_bits_Name (R : Handler) (x0 : Value) (H0 : Hp) : execF PP orc R F.bits_Name Go.Proofs.Tryd.f52 [x0] H0 = m_bits_Name R x0 H0 := by kernel_rfl
noncomputable def m_bits_Trim (R : Handler) (x0 x1 : Value) (H0 : Hp) : Option (Value × Hp) :=
 pBin PP .lss T.int x0 (.int .i64 1) fun v1 =>
 pBool v1 fun b2 => br b2
 (some ((.int .u64 0), H0))
 (pBin PP .geq T.int x0 (.int .i64 64) fun v3 =>
 pBool v3 fun b4 => br b4
 (some (x1, H0))
 (pConvInt .u64 x0 fun v5 =>
 pBin PP .shl T.uint64 (.int .u64 1) v5 fun v6 =>
 pBin PP .sub T.uint64 v6 (.int .u64 1) fun v7 =>
 pBin PP .and T.uint64 x1 v7 fun v8 =>
 some (v8, H0)))
theorem e_bits_Trim (R : Handler) (x0 x1 : Value) (H0 : Hp) : execF PP orc R F.bits_Trim Go.Proofs.Tryd.f53 [x0, x1] H0 = m_bits_Trim R x0 x1 H0 := by kernel_rfl
noncomputable def m_term_Store_w (R : Handler) (x0 x1 : Value) (H0 : Hp) : Option (Value × Hp) :=
 pCallF R F.term_Store_is [x0, x1] H0 fun r1 H2 =>
 pUn .not r1 fun v3 =>
 pBool v3 fun b4 => br b4
 (some ((.int .i64 (-1)), H2))
 (pNil x0 (
 pOffs 1 x0 fun p5 =>
 pLoad 1 false H2 p5 fun v6 =>
 pBin PP .sub T.int x1 (.int .i64 1) fun v7 =>
 pIdx 7 v6 v7 fun p8 =>
 pOffs 1 p8 fun p9 =>
 pLoad 1 false H2 p9 fun v10 =>
 some (v10, H2)))
theorem e_term_Store_w (R : Handler) (x0 x1 : Value) (H0 : Hp) : execF PP orc R F.term_Store_w Go.Proofs.Tryd.f54 [x0, x1] H0 = m_term_Store_w R x0 x1 H0 := by kernel_rfl
noncomputable def m_cadenceref07_extra (R : Handler) (x0 x1 : Value) (H0 : Hp) : Option (Value × Hp) :=
 bindO (
 pBin PP .lss T.int x1 (.int .i64 1) fun v1 =>
 pBool v1 fun b2 => br b2
 (pCell 1 false (cellsL x0) 2 fun v3 =>
 pBin PP .neq T.int v3 (.int .i64 0) fun v4 =>
 pBool v4 fun b5 => br b5
 (some (.ret, [(.bool true)], H0))
 (pBin PP .lss T.int x1 (.int .i64 2) fun v6 =>
 pBool v6 fun b7 => br b7
 (pCell 1 false (cellsL x0) 3 fun v8 =>
 pBin PP .neq T.int v8 (.int .i64 0) fun v9 =>
 pBool v9 fun b10 => br b10
 (some (.ret, [(.bool true)], H0))
 (pBin PP .lss T.int x1 (.int .i64 3) fun v11 =>
 pBool v11 fun b12 => br b12
 (pCell 1 false (cellsL x0) 4 fun v13 =>
 pBin PP .neq T.int v13 (.int .i64 0) fun v14 =>
 pBool v14 fun b15 => br b15
 (some (.ret, [(.bool true)], H0))
 (some (.next, [], H0)))
 (some (.next, [], H0))))
 (pBin PP .lss T.int x1 (.int .i64 3) fun v16 =>
 pBool v16 fun b17 => br b17
 (pCell 1 false (cellsL x0) 4 fun v18 =>
 pBin PP .neq T.int v18 (.int .i64 0) fun v19 =>
 pBool v19 fun b20 => br b20
 (some (.ret, [(.bool true)], H0))
 (some (.next, [], H0)))
 (some (.next, [], H0)))))
 (pBin PP .lss T.int x1 (.int .i64 2) fun v21 =>
 pBool v21 fun b22 => br b22
 (pCell 1 false (cellsL x0) 3 fun v23 =>
 pBin PP .neq T.int v23 (.int .i64 0) fun v24 =>
 pBool v24 fun b25 => br b25
 (some (.ret, [(.bool true)], H0))
 (pBin PP .lss T.int x1 (.int .i64 3) fun v26 =>
 pBool v26 fun b27 => br b27
 (pCell 1 false (cellsL x0) 4 fun v28 =>
 pBin PP .neq T.int v28 (.int .i64 0) fun v29 =>
 pBool v29 fun b30 => br b30
 (some (.ret, [(.bool true)], H0))
 (some (.next, [], H0)))
 (some (.next, [], H0))))
 (pBin PP .lss T.int x1 (.int .i64 3) fun v31 =>
 pBool v31 fun b32 => br b32
 (pCell 1 false (cellsL x0) 4 fun v33 =>
 pBin PP .neq T.int v33 (.int .i64 0) fun v34 =>
 pBool v34 fun b35 => br b35
 (some (.ret, [(.bool true)], H0))
 (some (.next, [], H0)))
 (some (.next, [], H0))))) fun q36 l37 H38 => onCtl q36
 (pCell 1 false (cellsL x0) 5 fun v40 =>
 pBin PP .neq T.uint64 v40 (.int .u64 0) fun v41 =>
 pBool v41 fun b42 => br b42
 (pCell 1 false (cellsL x0) 0 fun v43 =>
 pBin PP .neq T.int v43 (.int .i64 3) fun v44 =>
 pBool v44 fun b45 => br b45
 (pCell 1 false (cellsL x0) 0 fun v46 =>
 pBin PP .neq T.int v46 (.int .i64 31) fun v47 =>
 pBool v47 fun b48 => br b48
 (some ((.bool true), H38))
 (pCell 1 false (cellsL x0) 6 fun v49 =>
 pBin PP .neq T.string v49 (.string ⟨#[]⟩) fun v50 =>
 pBool v50 fun b51 => br b51
 (pCell 1 false (cellsL x0) 0 fun v52 =>
 pBin PP .neq T.int v52 (.int .i64 4) fun v53 =>
 some (v53, H38))
 (some ((.bool false), H38))))
 (pCell 1 false (cellsL x0) 6 fun v54 =>
 pBin PP .neq T.string v54 (.string ⟨#[]⟩) fun v55 =>
 pBool v55 fun b56 => br b56
 (pCell 1 false (cellsL x0) 0 fun v57 =>
 pBin PP .neq T.int v57 (.int .i64 4) fun v58 =>
 some (v58, H38))
 (some ((.bool false), H38))))
 (pCell 1 false (cellsL x0) 6 fun v59 =>
 pBin PP .neq T.string v59 (.string ⟨#[]⟩) fun v60 =>
 pBool v60 fun b61 => br b61
 (pCell 1 false (cellsL x0) 0 fun v62 =>
 pBin PP .neq T.int v62 (.int .i64 4) fun v63 =>
 some (v63, H38))
 (some ((.bool false), H38))))
 (fun i39 => none)
 (some ((l37.headD undef), H38))
theorem e_cadenceref07_extra (R : Handler) (x0 x1 : Value) (H0 : Hp) : execF PP orc R F.cadenceref07_extra Go.Proofs.Tryd.f55 [x0, x1] H0 = m_cadenceref07_extra R x0 x1 H0 := by kernel_rfl
noncomputable def m_cadenceref07_Store_sorts (R : Handler) (x0 x1 : Value) (H0 : Hp) : Option (Value × Hp) :=
 pCell 1 false (cellsL x1) 0 fun v1 =>
 pBin PP .leq T.int v1 (.int .i64 4) fun v2 =>
 pBool v2 fun b3 => br b3
 (some ((.bool true), H0))
 (pCell 1 false (cellsL x1) 0 fun v4 =>
 pBin PP .eql T.int v4 (.int .i64 5) fun v5 =>
 pBool v5 fun b6 => br b6
 (pCell 1 false (cellsL x1) 2 fun v7 =>
 pCallF R F.cadenceref07_Store_W [x0, v7] H0 fun r8 H9 =>
 pBin PP .eql T.int r8 (.int .i64 0) fun v10 =>
 some (v10, H9))
 (pCell 1 false (cellsL x1) 0 fun v11 =>
 pBin PP .leq T.int v11 (.int .i64 8) fun v12 =>
 pBool v12 fun b13 => br b13
 (pCell 1 false (cellsL x1) 2 fun v14 =>
 pCallF R F.cadenceref07_Store_W [x0, v14] H0 fun r15 H16 =>
 pBin PP .eql T.int r15 (.int .i64 0) fun v17 =>
 pBool v17 fun b18 => br b18
 (pCell 1 false (cellsL x1) 3 fun v19 =>
 pCallF R F.cadenceref07_Store_W [x0, v19] H16 fun r20 H21 =>
 pBin PP .eql T.int r20 (.int .i64 0) fun v22 =>
 some (v22, H21))
 (some ((.bool false), H16)))
 (pCell 1 false (cellsL x1) 0 fun v23 =>
 pBin PP .eql T.int v23 (.int .i64 9) fun v24 =>
 pBool v24 fun b25 => br b25
 (pCell 1 false (cellsL x1) 2 fun v26 =>
 pCallF R F.cadenceref07_Store_W [x0, v26] H0 fun r27 H28 =>
 pCell 1 false (cellsL x1) 3 fun v29 =>
 pCallF R F.cadenceref07_Store_W [x0, v29] H28 fun r30 H31 =>
 pBin PP .eql T.int r27 r30 fun v32 =>
 some (v32, H31))
 (pCell 1 false (cellsL x1) 0 fun v33 =>
 pBin PP .eql T.int v33 (.int .i64 14) fun v34 =>
 pBool v34 fun b35 => br b35
 (pCell 1 false (cellsL x1) 2 fun v36 =>
 pCallF R F.cadenceref07_Store_W [x0, v36] H0 fun r37 H38 =>
 pBin PP .eql T.int r37 (.int .i64 0) fun v39 =>
 pBool v39 fun b40 => br b40
 (pCell 1 false (cellsL x1) 3 fun v41 =>
 pCallF R F.cadenceref07_Store_W [x0, v41] H38 fun r42 H43 =>
 pCell 1 false (cellsL x1) 4 fun v44 =>
 pCallF R F.cadenceref07_Store_W [x0, v44] H43 fun r45 H46 =>
 pBin PP .eql T.int r42 r45 fun v47 =>
 some (v47, H46))
 (some ((.bool false), H38)))
 (bindO (
 pCell 1 false (cellsL x1) 0 fun v48 =>
 pBin PP .eql T.int v48 (.int .i64 15) fun v49 =>
 pBool v49 fun b50 => br b50
 (some (.next, [(.bool true)], H0))
 (pCell 1 false (cellsL x1) 0 fun v51 =>
 pBin PP .eql T.int v51 (.int .i64 16) fun v52 =>
 pBool v52 fun b53 => br b53
 (some (.next, [(.bool true)], H0))
 (pCell 1 false (cellsL x1) 0 fun v54 =>
 pBin PP .geq T.int v54 (.int .i64 31) fun v55 =>
 some (.next, [v55], H0)))) fun q56 l57 H58 => onCtl q56
 (pBool (l57.getD 0 undef) fun b60 => br b60
 (pCell 1 false (cellsL x1) 2 fun v61 =>
 pCallF R F.cadenceref07_Store_W [x0, v61] H58 fun r62 H63 =>
 pBin PP .gtr T.int r62 (.int .i64 0) fun v64 =>
 some (v64, H63))
 (pCell 1 false (cellsL x1) 0 fun v65 =>
 pBin PP .eql T.int v65 (.int .i64 30) fun v66 =>
 pBool v66 fun b67 => br b67
 (pCell 1 false (cellsL x1) 2 fun v68 =>
 pCallF R F.cadenceref07_Store_W [x0, v68] H58 fun r69 H70 =>
 pBin PP .gtr T.int r69 (.int .i64 0) fun v71 =>
 pBool v71 fun b72 => br b72
 (pCell 1 false (cellsL x1) 3 fun v73 =>
 pCallF R F.cadenceref07_Store_W [x0, v73] H70 fun r74 H75 =>
 pBin PP .gtr T.int r74 (.int .i64 0) fun v76 =>
 some (v76, H75))
 (some ((.bool false), H70)))
 (pCell 1 false (cellsL x1) 2 fun v77 =>
 pCallF R F.cadenceref07_Store_W [x0, v77] H58 fun r78 H79 =>
 pBin PP .gtr T.int r78 (.int .i64 0) fun v80 =>
 pBool v80 fun b81 => br b81
 (pCell 1 false (cellsL x1) 2 fun v82 =>
 pCallF R F.cadenceref07_Store_W [x0, v82] H79 fun r83 H84 =>
 pCell 1 false (cellsL x1) 3 fun v85 =>
 pCallF R F.cadenceref07_Store_W [x0, v85] H84 fun r86 H87 =>
 pBin PP .eql T.int r83 r86 fun v88 =>
 some (v88, H87))
 (some ((.bool false), H79)))))
 (fun i59 => onExit i59 0 (
 pCell 1 false (cellsL x1) 2 fun v89 =>
 pCallF R F.cadenceref07_Store_W [x0, v89] H58 fun r90 H91 =>
 pBin PP .gtr T.int r90 (.int .i64 0) fun v92 =>
 pBool v92 fun b93 => br b93
 (pCell 1 false (cellsL x1) 2 fun v94 =>
 pCallF R F.cadenceref07_Store_W [x0, v94] H91 fun r95 H96 =>
 pCell 1 false (cellsL x1) 3 fun v97 =>
 pCallF R F.cadenceref07_Store_W [x0, v97] H96 fun r98 H99 =>
 pBin PP .eql T.int r95 r98 fun v100 =>
 some (v100, H99))
 (some ((.bool false), H91))) (
 none))
 (some ((l57.headD undef), H58)))))))
theorem e_cadenceref07_Store_sorts (R : Handler) (x0 x1 : Value) (H0 : Hp) : execF PP orc R F.cadenceref07_Store_sorts Go.Proofs.Tryd.f56 [x0, x1] H0 = m_cadenceref07_Store_sorts R x0 x1 H0 := by kernel_rfl
noncomputable def m_cadenceref07_Store_width (R : Handler) (x0 x1 : Value) (H0 : Hp) : Option (Value × Hp) :=
 pCell 1 false (cellsL x1) 1 fun v1 =>
 bindO (
 pCell 1 false (cellsL x1) 0 fun v2 =>
 pBin PP .leq T.int v2 (.int .i64 2) fun v3 =>
 pBool v3 fun b4 => br b4
 (some (.next, [(.bool true)], H0))
 (pCell 1 false (cellsL x1) 0 fun v5 =>
 pBin PP .geq T.int v5 (.int .i64 5) fun v6 =>
 pBool v6 fun b7 => br b7
 (pCell 1 false (cellsL x1) 0 fun v8 =>
 pBin PP .leq T.int v8 (.int .i64 13) fun v9 =>
 some (.next, [v9], H0))
 (some (.next, [(.bool false)], H0)))) fun q10 l11 H12 => onCtl q10
 (pBool (l11.getD 0 undef) fun b14 => br b14
 (pBin PP .eql T.int v1 (.int .i64 0) fun v15 =>
 some (v15, H12))
 (pCell 1 false (cellsL x1) 0 fun v16 =>
 pBin PP .eql T.int v16 (.int .i64 3) fun v17 =>
 pBool v17 fun b18 => br b18
 (pBin PP .geq T.int v1 (.int .i64 1) fun v19 =>
 pBool v19 fun b20 => br b20
 (pCell 1 false (cellsL x1) 5 fun v21 =>
 pCallF R F.cadenceref01_Trim [v1, v21] H12 fun r22 H23 =>
 pCell 1 false (cellsL x1) 5 fun v24 =>
 pBin PP .eql T.uint64 r22 v24 fun v25 =>
 some (v25, H23))
 (some ((.bool false), H12)))
 (pCell 1 false (cellsL x1) 0 fun v26 =>
 pBin PP .eql T.int v26 (.int .i64 4) fun v27 =>
 pBool v27 fun b28 => br b28
 (some ((.bool true), H12))
 (pCell 1 false (cellsL x1) 0 fun v29 =>
 pBin PP .eql T.int v29 (.int .i64 14) fun v30 =>
 pBool v30 fun b31 => br b31
 (pCell 1 false (cellsL x1) 3 fun v32 =>
 pCallF R F.cadenceref07_Store_W [x0, v32] H12 fun r33 H34 =>
 pBin PP .eql T.int v1 r33 fun v35 =>
 some (v35, H34))
 (pCell 1 false (cellsL x1) 0 fun v36 =>
 pBin PP .eql T.int v36 (.int .i64 30) fun v37 =>
 pBool v37 fun b38 => br b38
 (pCell 1 false (cellsL x1) 2 fun v39 =>
 pCallF R F.cadenceref07_Store_W [x0, v39] H12 fun r40 H41 =>
 pCell 1 false (cellsL x1) 3 fun v42 =>
 pCallF R F.cadenceref07_Store_W [x0, v42] H41 fun r43 H44 =>
 pBin PP .add T.int r40 r43 fun v45 =>
 pBin PP .eql T.int v1 v45 fun v46 =>
 some (v46, H44))
 (pCell 1 false (cellsL x1) 0 fun v47 =>
 pBin PP .eql T.int v47 (.int .i64 31) fun v48 =>
 pBool v48 fun b49 => br b49
 (pBin PP .geq T.int v1 (.int .i64 1) fun v50 =>
 pBool v50 fun b51 => br b51
 (pCell 1 false (cellsL x1) 5 fun v52 =>
 pBin PP .leq T.uint64 v52 (.int .u64 64) fun v53 =>
 pBool v53 fun b54 => br b54
 (pCell 1 false (cellsL x1) 5 fun v55 =>
 pConvInt .i64 v55 fun v56 =>
 pBin PP .add T.int v56 v1 fun v57 =>
 pCell 1 false (cellsL x1) 2 fun v58 =>
 pCallF R F.cadenceref07_Store_W [x0, v58] H12 fun r59 H60 =>
 pBin PP .leq T.int v57 r59 fun v61 =>
 some (v61, H60))
 (some ((.bool false), H12)))
 (some ((.bool false), H12)))
 (pCell 1 false (cellsL x1) 0 fun v62 =>
 pBin PP .geq T.int v62 (.int .i64 32) fun v63 =>
 pBool v63 fun b64 => br b64
 (pCell 1 false (cellsL x1) 2 fun v65 =>
 pCallF R F.cadenceref07_Store_W [x0, v65] H12 fun r66 H67 =>
 pBin PP .geq T.int v1 r66 fun v68 =>
 some (v68, H67))
 (pCell 1 false (cellsL x1) 0 fun v69 =>
 pBin PP .geq T.int v69 (.int .i64 25) fun v70 =>
 pBool v70 fun b71 => br b71
 (pCell 1 false (cellsL x1) 2 fun v72 =>
 pCallF R F.cadenceref07_Store_W [x0, v72] H12 fun r73 H74 =>
 pBin PP .eql T.int v1 r73 fun v75 =>
 pBool v75 fun b76 => br b76
 (pCallF R F.cadenceref01_Shifts [v1] H74 fun r77 H78 =>
 some (r77, H78))
 (some ((.bool false), H74)))
 (pCell 1 false (cellsL x1) 2 fun v79 =>
 pCallF R F.cadenceref07_Store_W [x0, v79] H12 fun r80 H81 =>
 pBin PP .eql T.int v1 r80 fun v82 =>
 some (v82, H81))))))))))
 (fun i13 => onExit i13 0 (
 pCell 1 false (cellsL x1) 2 fun v83 =>
 pCallF R F.cadenceref07_Store_W [x0, v83] H12 fun r84 H85 =>
 pBin PP .eql T.int v1 r84 fun v86 =>
 some (v86, H85)) (
 none))
 (some ((l11.headD undef), H12))
theorem e_cadenceref07_Store_width (R : Handler) (x0 x1 : Value) (H0 : Hp) : execF PP orc R F.cadenceref07_Store_width Go.Proofs.Tryd.f57 [x0, x1] H0 = m_cadenceref07_Store_width R x0 x1 H0 := by kernel_rfl
noncomputable def m_cadenceref01_Name (R : Handler) (x0 : Value) (H0 : Hp) : Option (Value × Hp) :=
 bindO (
 pLen .str x0 H0 fun v1 =>
 pBin PP .lss T.int v1 (.int .i64 1) fun v2 =>
 pBool v2 fun b3 => br b3
 (some (.ret, [(.bool false)], H0))
 (pLen .str x0 H0 fun v4 =>
 pBin PP .gtr T.int v4 (.int .i64 24) fun v5 =>
 pBool v5 fun b6 => br b6
 (some (.ret, [(.bool false)], H0))
 (pAtStr x0 (.int .i64 0) fun v7 =>
 pCallF R F.cadenceref01_Letter [v7] H0 fun r8 H9 =>
 pUn .not r8 fun v10 =>
 pBool v10 fun b11 => br b11
 (some (.ret, [(.bool false)], H9))
 (some (.next, [], H9))))) fun q12 l13 H14 => onCtl q12
 (bindO (loopD (fun l16 H17 =>
 pLen .str x0 H17 fun v18 =>
 pBin PP .lss T.int (l16.getD 0 undef) v18 fun v19 =>
 pBool v19 fun b20 => br b20
 (pAtStr x0 (l16.getD 0 undef) fun v21 =>
 pCallF R F.cadenceref01_Letter [v21] H17 fun r22 H23 =>
 pUn .not r22 fun v24 =>
 pBool v24 fun b25 => br b25
 (pAtStr x0 (l16.getD 0 undef) fun v26 =>
 pBin PP .lss T.uint8 v26 (.int .u8 48) fun v27 =>
 pBool v27 fun b28 => br b28
 (some (.ret, [(.bool false)], H23))
 (pAtStr x0 (l16.getD 0 undef) fun v29 =>
 pBin PP .gtr T.uint8 v29 (.int .u8 57) fun v30 =>
 pBool v30 fun b31 => br b31
 (some (.ret, [(.bool false)], H23))
 (pBin PP .add T.int (l16.getD 0 undef) (.int .i64 1) fun v32 =>
 some (.next, [v32], H23))))
 (pBin PP .add T.int (l16.getD 0 undef) (.int .i64 1) fun v33 =>
 some (.next, [v33], H23)))
 (some (.exit 0, [(l16.getD 0 undef)], H17))) [(.int .i64 1)] H14) fun q34 l35 H36 => onCtl q34 none
 (fun i37 => onExit i37 0 (
 some ((.bool true), H36)) (
 none))
 (some ((l35.headD undef), H36)))
 (fun i15 => none)
 (some ((l13.headD undef), H14))
theorem e_cadenceref01_Name (R : Handler) (x0 : Value) (H0 : Hp) : execF PP orc R F.cadenceref01_Name Go.Proofs.Tryd.f58 [x0] H0 = m_cadenceref01_Name R x0 H0 := by kernel_rfl
noncomputable def m_cadenceref01_Trim (R : Handler) (x0 x1 : Value) (H0 : Hp) : Option (Value × Hp) :=
 pBin PP .lss T.int x0 (.int .i64 1) fun v1 =>
 pBool v1 fun b2 => br b2
 (some ((.int .u64 0), H0))
 (pBin PP .geq T.int x0 (.int .i64 64) fun v3 =>
 pBool v3 fun b4 => br b4
 (some (x1, H0))
 (pConvInt .u64 x0 fun v5 =>
 pBin PP .shl T.uint64 (.int .u64 1) v5 fun v6 =>
 pBin PP .rem T.uint64 x1 v6 fun v7 =>
 some (v7, H0)))
theorem e_cadenceref01_Trim (R : Handler) (x0 x1 : Value) (H0 : Hp) : execF PP orc R F.cadenceref01_Trim Go.Proofs.Tryd.f59 [x0, x1] H0 = m_cadenceref01_Trim R x0 x1 H0 := by kernel_rfl
noncomputable def m_cadenceref07_Store_wide (R : Handler) (x0 x1 : Value) (H0 : Hp) : Option (Value × Hp) :=
 pCallF R F.cadenceref07_Store_is [x0, x1] H0 fun r1 H2 =>
 pUn .not r1 fun v3 =>
 pBool v3 fun b4 => br b4
 (some ((.int .i64 0), H2))
 (pCallF R F.cadenceref07_Store_W [x0, x1] H2 fun r5 H6 =>
 some (r5, H6))
theorem e_cadenceref07_Store_wide (R : Handler) (x0 x1 : Value) (H0 : Hp) : execF PP orc R F.cadenceref07_Store_wide Go.Proofs.Tryd.f60 [x0, x1] H0 = m_cadenceref07_Store_wide R x0 x1 H0 := by kernel_rfl
noncomputable def m_internal_strconv_FormatInt (R : Handler) (x0 x1 : Value) (H0 : Hp) : Option (Value × Hp) :=
 pBin PP .eql T.int x1 (.int .i64 10) fun v1 =>
 pBool v1 fun b2 => br b2
 (bindO (
 pBin PP .leq T.int64 (.int .i64 0) x0 fun v3 =>
 pBool v3 fun b4 => br b4
 (pBin PP .lss T.int64 x0 (.int .i64 100) fun v5 =>
 pBool v5 fun b6 => br b6
 (pCallF R F.internal_strconv_small [x0] H0 fun r7 H8 =>
 some (.ret, [r7], H8))
 (some (.next, [], H0)))
 (some (.next, [], H0))) fun q9 l10 H11 => onCtl q9
 (pAlloc [.int .u8 0, .int .u8 0, .int .u8 0, .int .u8 0, .int .u8 0, .int .u8 0, .int .u8 0, .int .u8 0, .int .u8 0, .int .u8 0, .int .u8 0, .int .u8 0, .int .u8 0, .int .u8 0, .int .u8 0, .int .u8 0, .int .u8 0, .int .u8 0, .int .u8 0, .int .u8 0, .int .u8 0, .int .u8 0, .int .u8 0, .int .u8 0] H11 fun p13 H14 =>
 pConvInt .u64 x0 fun v15 =>
 bindO (
 pBin PP .lss T.int64 x0 (.int .i64 0) fun v16 =>
 pBool v16 fun b17 => br b17
 (pUn .neg v15 fun v18 =>
 some (.next, [v18], H14))
 (some (.next, [v15], H14))) fun q19 l20 H21 => onCtl q19
 (pCallF R F.internal_strconv_numDigits [(l20.getD 0 undef)] H21 fun r23 H24 =>
 pBin PP .add T.int (.int .i64 1) r23 fun v25 =>
 pSliceA 24 1 p13 (some (.int .i64 1)) (some v25) H24 fun v26 =>
 pCallF R F.internal_strconv_formatBase10 [v26, (l20.getD 0 undef)] H24 fun r27 H28 =>
 pBin PP .lss T.int64 x0 (.int .i64 0) fun v29 =>
 pBool v29 fun b30 => br b30
 (pIdxArr 24 1 p13 (.int .i64 0) fun p31 =>
 pStore 1 H28 p31 (.int .u8 45) fun H32 =>
 pBin PP .add T.int (.int .i64 1) r23 fun v33 =>
 pSliceA 24 1 p13 none (some v33) H32 fun v34 =>
 pToStr v34 H32 fun v35 =>
 some (v35, H32))
 (pBin PP .add T.int (.int .i64 1) r23 fun v36 =>
 pSliceA 24 1 p13 (some (.int .i64 1)) (some v36) H28 fun v37 =>
 pToStr v37 H28 fun v38 =>
 some (v38, H28)))
 (fun i22 => none)
 (some ((l20.headD undef), H21)))
 (fun i12 => none)
 (some ((l10.headD undef), H11)))
 (pConvInt .u64 x0 fun v39 =>
 pBin PP .lss T.int64 x0 (.int .i64 0) fun v40 =>
 pCallF R F.internal_strconv_formatBits [(.slice none 0 0), v39, x1, v40, (.bool false)] H0 fun r41 H42 =>
 pExtract r41 0 fun v43 =>
 pExtract r41 1 fun v44 =>
 some (v44, H42))
theorem e_internal_strconv_FormatInt (R : Handler) (x0 x1 : Value) (H0 : Hp) : execF PP orc R F.internal_strconv_FormatInt Go.Proofs.Tryd.f62 [x0, x1] H0 = m_internal_strconv_FormatInt R x0 x1 H0 := by kernel_rfl
noncomputable def m_strings_FieldsFunc (R : Handler) (x0 x1 : Value) (H0 : Hp) : Option (Value × Hp) :=
 pMakeSlice 2 16 [.int .i64 0, .int .i64 0] (.int .i64 0) (.int .i64 32) H0 fun v1 H2 =>
 pStrC x0 fun s3 =>
 bindO (loopD (fun l4 H5 =>
 br (Nat.blt (posOf ((l4.drop 2).getD 0 undef)) (strOf ((l4.drop 2).getD 0 undef)).size)
 (pCall R x1 [(.int .i32 (Utf8.decode (strOf ((l4.drop 2).getD 0 undef)) (posOf ((l4.drop 2).getD 0 undef))).1)] H5 fun r6 H7 =>
 pBool r6 fun b8 => br b8
 (pBin PP .geq T.int (l4.getD 1 undef) (.int .i64 0) fun v9 =>
 pBool v9 fun b10 => br b10
 (pBuild PP T.strings_span [(0, (l4.getD 1 undef)), (1, (.int .i64 ((posOf ((l4.drop 2).getD 0 undef)) : Nat)))] fun v11 =>
 pBuildSlice 2 [.int .i64 0, .int .i64 0] 1 [(0, v11)] H7 fun v12 H13 =>
 pAppend 2 16 (l4.getD 0 undef) v12 H13 fun v14 H15 =>
 pUn .xor (l4.getD 1 undef) fun v16 =>
 some (.next, [v14, v16, (.tuple #[.string (strOf ((l4.drop 2).getD 0 undef)), .int .i64 (((posOf ((l4.drop 2).getD 0 undef)) + (Utf8.decode (strOf ((l4.drop 2).getD 0 undef)) (posOf ((l4.drop 2).getD 0 undef))).2) : Nat)])], H15))
 (some (.next, [(l4.getD 0 undef), (l4.getD 1 undef), (.tuple #[.string (strOf ((l4.drop 2).getD 0 undef)), .int .i64 (((posOf ((l4.drop 2).getD 0 undef)) + (Utf8.decode (strOf ((l4.drop 2).getD 0 undef)) (posOf ((l4.drop 2).getD 0 undef))).2) : Nat)])], H7)))
 (pBin PP .lss T.int (l4.getD 1 undef) (.int .i64 0) fun v17 =>
 pBool v17 fun b18 => br b18
 (some (.next, [(l4.getD 0 undef), (.int .i64 ((posOf ((l4.drop 2).getD 0 undef)) : Nat)), (.tuple #[.string (strOf ((l4.drop 2).getD 0 undef)), .int .i64 (((posOf ((l4.drop 2).getD 0 undef)) + (Utf8.decode (strOf ((l4.drop 2).getD 0 undef)) (posOf ((l4.drop 2).getD 0 undef))).2) : Nat)])], H7))
 (some (.next, [(l4.getD 0 undef), (l4.getD 1 undef), (.tuple #[.string (strOf ((l4.drop 2).getD 0 undef)), .int .i64 (((posOf ((l4.drop 2).getD 0 undef)) + (Utf8.decode (strOf ((l4.drop 2).getD 0 undef)) (posOf ((l4.drop 2).getD 0 undef))).2) : Nat)])], H7))))
 (some (.exit 0, [(l4.getD 0 undef), (l4.getD 1 undef), (.tuple #[.string (strOf ((l4.drop 2).getD 0 undef)), .int .i64 ((posOf ((l4.drop 2).getD 0 undef)) : Nat)])], H5))) [v1, (.int .i64 (-1)), (.tuple #[.string s3, .int .i64 (0 : Nat)])] H2) fun q19 l20 H21 => onCtl q19 none
 (fun i22 => onExit i22 0 (
 bindO (
 pBin PP .geq T.int (l20.getD 1 undef) (.int .i64 0) fun v23 =>
 pBool v23 fun b24 => br b24
 (pLen .str x0 H21 fun v25 =>
 pBuild PP T.strings_span [(0, (l20.getD 1 undef)), (1, v25)] fun v26 =>
 pBuildSlice 2 [.int .i64 0, .int .i64 0] 1 [(0, v26)] H21 fun v27 H28 =>
 pAppend 2 16 (l20.getD 0 undef) v27 H28 fun v29 H30 =>
 some (.next, [v29], H30))
 (some (.next, [(l20.getD 0 undef)], H21))) fun q31 l32 H33 => onCtl q31
 (pLen .sl (l32.getD 0 undef) H33 fun v35 =>
 pMakeSlice 1 16 [.string ⟨#[]⟩] v35 v35 H33 fun v36 H37 =>
 pLen .sl (l32.getD 0 undef) H37 fun v38 =>
 bindO (loopD (fun l39 H40 =>
 pBin PP .lss T.int (l39.getD 0 undef) v38 fun v41 =>
 pBool v41 fun b42 => br b42
 (pIdx 2 (l32.getD 0 undef) (l39.getD 0 undef) fun p43 =>
 pLoad 2 true H40 p43 fun v44 =>
 pSplice 2 [.int .i64 0, .int .i64 0] 0 v44 fun c45 =>
 pCell 1 false c45 0 fun v46 =>
 pCell 1 false c45 1 fun v47 =>
 pSliceS x0 (some v46) (some v47) fun v48 =>
 pIdx 1 v36 (l39.getD 0 undef) fun p49 =>
 pStore 1 H40 p49 v48 fun H50 =>
 pBin PP .add T.int (l39.getD 0 undef) (.int .i64 1) fun v51 =>
 some (.next, [v51], H50))
 (some (.exit 2, [(l39.getD 0 undef)], H40))) [(.int .i64 0)] H37) fun q52 l53 H54 => onCtl q52 none
 (fun i55 => onExit i55 2 (
 some (v36, H54)) (
 none))
 (some ((l53.headD undef), H54)))
 (fun i34 => none)
 (some ((l32.headD undef), H33))) (
 none))
 (some ((l20.headD undef), H21))
theorem e_strings_FieldsFunc (R : Handler) (x0 x1 : Value) (H0 : Hp) : execF PP orc R F.strings_FieldsFunc Go.Proofs.Tryd.f63 [x0, x1] H0 = m_strings_FieldsFunc R x0 x1 H0 := by kernel_rfl
noncomputable def m_internal_strconv_FormatUint (R : Handler) (x0 x1 : Value) (H0 : Hp) : Option (Value × Hp) :=
 pBin PP .eql T.int x1 (.int .i64 10) fun v1 =>
 pBool v1 fun b2 => br b2
 (pBin PP .lss T.uint64 x0 (.int .u64 100) fun v3 =>
 pBool v3 fun b4 => br b4
 (pConvInt .i64 x0 fun v5 =>
 pCallF R F.internal_strconv_small [v5] H0 fun r6 H7 =>
 some (r6, H7))
 (pAlloc [.int .u8 0, .int .u8 0, .int .u8 0, .int .u8 0, .int .u8 0, .int .u8 0, .int .u8 0, .int .u8 0, .int .u8 0, .int .u8 0, .int .u8 0, .int .u8 0, .int .u8 0, .int .u8 0, .int .u8 0, .int .u8 0, .int .u8 0, .int .u8 0, .int .u8 0, .int .u8 0, .int .u8 0, .int .u8 0, .int .u8 0, .int .u8 0] H0 fun p8 H9 =>
 pCallF R F.internal_strconv_numDigits [x0] H9 fun r10 H11 =>
 pSliceA 24 1 p8 none (some r10) H11 fun v12 =>
 pCallF R F.internal_strconv_formatBase10 [v12, x0] H11 fun r13 H14 =>
 pSliceA 24 1 p8 none (some r10) H14 fun v15 =>
 pToStr v15 H14 fun v16 =>
 some (v16, H14)))
 (pCallF R F.internal_strconv_formatBits [(.slice none 0 0), x0, x1, (.bool false), (.bool false)] H0 fun r17 H18 =>
 pExtract r17 0 fun v19 =>
 pExtract r17 1 fun v20 =>
 some (v20, H18))
theorem e_internal_strconv_FormatUint (R : Handler) (x0 x1 : Value) (H0 : Hp) : execF PP orc R F.internal_strconv_FormatUint Go.Proofs.Tryd.f65 [x0, x1] H0 = m_internal_strconv_FormatUint R x0 x1 H0 := by kernel_rfl
noncomputable def m_bits_OnesCount (R : Handler) (x0 : Value) (H0 : Hp) : Option (Value × Hp) :=
 pCallF R F.bits_OnesCount64 [x0] H0 fun r1 H2 =>
 some (r1, H2)
theorem e_bits_OnesCount (R : Handler) (x0 : Value) (H0 : Hp) : execF PP orc R F.bits_OnesCount Go.Proofs.Tryd.f66 [x0] H0 = m_bits_OnesCount R x0 H0 := by kernel_rfl
noncomputable def m_cadenceref07_Store_W (R : Handler) (x0 x1 : Value) (H0 : Hp) : Option (Value × Hp) :=
 pNil x0 (
 pOffs 1 x0 fun p1 =>
 pLoad 1 false H0 p1 fun v2 =>
 pBin PP .sub T.int x1 (.int .i64 1) fun v3 =>
 pIdx 7 v2 v3 fun p4 =>
 pOffs 1 p4 fun p5 =>
 pLoad 1 false H0 p5 fun v6 =>
 some (v6, H0))
theorem e_cadenceref07_Store_W (R : Handler) (x0 x1 : Value) (H0 : Hp) : execF PP orc R F.cadenceref07_Store_W Go.Proofs.Tryd.f67 [x0, x1] H0 = m_cadenceref07_Store_W R x0 x1 H0 := by kernel_rfl
noncomputable def m_cadenceref01_Shifts (R : Handler) (x0 : Value) (H0 : Hp) : Option (Value × Hp) :=
 bindO (loopD (fun l1 H2 =>
 pBin PP .leq T.int (l1.getD 0 undef) (.int .i64 64) fun v3 =>
 pBool v3 fun b4 => br b4
 (pBin PP .eql T.int x0 (l1.getD 0 undef) fun v5 =>
 pBool v5 fun b6 => br b6
 (some (.ret, [(.bool true)], H2))
 (pBin PP .mul T.int (.int .i64 2) (l1.getD 0 undef) fun v7 =>
 some (.next, [v7], H2)))
 (some (.exit 0, [(l1.getD 0 undef)], H2))) [(.int .i64 1)] H0) fun q8 l9 H10 => onCtl q8 none
 (fun i11 => onExit i11 0 (
 some ((.bool false), H10)) (
 none))
 (some ((l9.headD undef), H10))
theorem e_cadenceref01_Shifts (R : Handler) (x0 : Value) (H0 : Hp) : execF PP orc R F.cadenceref01_Shifts Go.Proofs.Tryd.f68 [x0] H0 = m_cadenceref01_Shifts R x0 H0 := by kernel_rfl
noncomputable def m_cadenceref01_Letter (R : Handler) (x0 : Value) (H0 : Hp) : Option (Value × Hp) :=
 pBin PP .geq T.uint8 x0 (.int .u8 97) fun v1 =>
 pBool v1 fun b2 => br b2
 (pBin PP .leq T.uint8 x0 (.int .u8 122) fun v3 =>
 pBool v3 fun b4 => br b4
 (some ((.bool true), H0))
 (pBin PP .geq T.uint8 x0 (.int .u8 65) fun v5 =>
 pBool v5 fun b6 => br b6
 (pBin PP .leq T.uint8 x0 (.int .u8 90) fun v7 =>
 pBool v7 fun b8 => br b8
 (some ((.bool true), H0))
 (pBin PP .eql T.uint8 x0 (.int .u8 95) fun v9 =>
 some (v9, H0)))
 (pBin PP .eql T.uint8 x0 (.int .u8 95) fun v10 =>
 some (v10, H0))))
 (pBin PP .geq T.uint8 x0 (.int .u8 65) fun v11 =>
 pBool v11 fun b12 => br b12
 (pBin PP .leq T.uint8 x0 (.int .u8 90) fun v13 =>
 pBool v13 fun b14 => br b14
 (some ((.bool true), H0))
 (pBin PP .eql T.uint8 x0 (.int .u8 95) fun v15 =>
 some (v15, H0)))
 (pBin PP .eql T.uint8 x0 (.int .u8 95) fun v16 =>
 some (v16, H0)))
theorem e_cadenceref01_Letter (R : Handler) (x0 : Value) (H0 : Hp) : execF PP orc R F.cadenceref01_Letter Go.Proofs.Tryd.f69 [x0] H0 = m_cadenceref01_Letter R x0 H0 := by kernel_rfl
noncomputable def m_internal_strconv_small (R : Handler) (x0 : Value) (H0 : Hp) : Option (Value × Hp) :=
 pBin PP .lss T.int x0 (.int .i64 10) fun v1 =>
 pBool v1 fun b2 => br b2
 (pBin PP .add T.int x0 (.int .i64 1) fun v3 =>
 pSliceS (.string ⟨#[48, 49, 50, 51, 52, 53, 54, 55, 56, 57, 97, 98, 99, 100, 101, 102, 103, 104, 105, 106, 107, 108, 109, 110, 111, 112, 113, 114, 115, 116, 117, 118, 119, 120, 121, 122]⟩) (some x0) (some v3) fun v4 =>
 some (v4, H0))
 (pBin PP .mul T.int x0 (.int .i64 2) fun v5 =>
 pBin PP .mul T.int x0 (.int .i64 2) fun v6 =>
 pBin PP .add T.int v6 (.int .i64 2) fun v7 =>
 pSliceS (.string ⟨#[48, 48, 48, 49, 48, 50, 48, 51, 48, 52, 48, 53, 48, 54, 48, 55, 48, 56, 48, 57, 49, 48, 49, 49, 49, 50, 49, 51, 49, 52, 49, 53, 49, 54, 49, 55, 49, 56, 49, 57, 50, 48, 50, 49, 50, 50, 50, 51, 50, 52, 50, 53, 50, 54, 50, 55, 50, 56, 50, 57, 51, 48, 51, 49, 51, 50, 51, 51, 51, 52, 51, 53, 51, 54, 51, 55, 51, 56, 51, 57, 52, 48, 52, 49, 52, 50, 52, 51, 52, 52, 52, 53, 52, 54, 52, 55, 52, 56, 52, 57, 53, 48, 53, 49, 53, 50, 53, 51, 53, 52, 53, 53, 53, 54, 53, 55, 53, 56, 53, 57, 54, 48, 54, 49, 54, 50, 54, 51, 54, 52, 54, 53, 54, 54, 54, 55, 54, 56, 54, 57, 55, 48, 55, 49, 55, 50, 55, 51, 55, 52, 55, 53, 55, 54, 55, 55, 55, 56, 55, 57, 56, 48, 56, 49, 56, 50, 56, 51, 56, 52, 56, 53, 56, 54, 56, 55, 56, 56, 56, 57, 57, 48, 57, 49, 57, 50, 57, 51, 57, 52, 57, 53, 57, 54, 57, 55, 57, 56, 57, 57]⟩) (some v5) (some v7) fun v8 =>
 some (v8, H0))
theorem e_internal_strconv_small (R : Handler) (x0 : Value) (H0 : Hp) : execF PP orc R F.internal_strconv_small Go.Proofs.Tryd.f70 [x0] H0 = m_internal_strconv_small R x0 H0 := by kernel_rfl
noncomputable def m_internal_strconv_numDigits (R : Handler) (x0 : Value) (H0 : Hp) : Option (Value × Hp) :=
 pCallF R F.bits_Len64 [x0] H0 fun r1 H2 =>
 pCallF R F.internal_strconv_log10Pow2 [r1] H2 fun r3 H4 =>
 pIdxArr 20 1 (.pointer (some ⟨G.internal_strconv_uint64pow10, 0, none⟩)) r3 fun p5 =>
 pLoad 1 false H4 p5 fun v6 =>
 pBin PP .geq T.uint64 x0 v6 fun v7 =>
 pCallF R F.internal_strconv_bool2_int [v7] H4 fun r8 H9 =>
 pBin PP .add T.int r3 r8 fun v10 =>
 some (v10, H9)
theorem e_internal_strconv_numDigits (R : Handler) (x0 : Value) (H0 : Hp) : execF PP orc R F.internal_strconv_numDigits Go.Proofs.Tryd.f71 [x0] H0 = m_internal_strconv_numDigits R x0 H0 := by kernel_rfl
noncomputable def m_internal_strconv_formatBase10 (R : Handler) (x0 x1 : Value) (H0 : Hp) : Option (Value × Hp) :=
 pLen .sl x0 H0 fun v1 =>
 bindO (loopD (fun l2 H3 =>
 pBin PP .geq T.int (l2.getD 1 undef) (.int .i64 8) fun v4 =>
 pBool v4 fun b5 => br b5
 (pBin PP .rem T.uint64 (l2.getD 0 undef) (.int .u64 100000000) fun v6 =>
 pConvInt .u32 v6 fun v7 =>
 pBin PP .quo T.uint64 (l2.getD 0 undef) (.int .u64 100000000) fun v8 =>
 pBin PP .quo T.uint32 v7 (.int .u32 10000) fun v9 =>
 pBin PP .rem T.uint32 v7 (.int .u32 10000) fun v10 =>
 pBin PP .quo T.uint32 v10 (.int .u32 100) fun v11 =>
 pBin PP .mul T.uint32 v11 (.int .u32 2) fun v12 =>
 pBin PP .rem T.uint32 v10 (.int .u32 100) fun v13 =>
 pBin PP .mul T.uint32 v13 (.int .u32 2) fun v14 =>
 pBin PP .quo T.uint32 v9 (.int .u32 100) fun v15 =>
 pBin PP .mul T.uint32 v15 (.int .u32 2) fun v16 =>
 pBin PP .rem T.uint32 v9 (.int .u32 100) fun v17 =>
 pBin PP .mul T.uint32 v17 (.int .u32 2) fun v18 =>
 pBin PP .sub T.int (l2.getD 1 undef) (.int .i64 1) fun v19 =>
 pBin PP .sub T.int (l2.getD 1 undef) (.int .i64 2) fun v20 =>
 pBin PP .add T.uint32 v14 (.int .u32 1) fun v21 =>
 pAtStr (.string ⟨#[48, 48, 48, 49, 48, 50, 48, 51, 48, 52, 48, 53, 48, 54, 48, 55, 48, 56, 48, 57, 49, 48, 49, 49, 49, 50, 49, 51, 49, 52, 49, 53, 49, 54, 49, 55, 49, 56, 49, 57, 50, 48, 50, 49, 50, 50, 50, 51, 50, 52, 50, 53, 50, 54, 50, 55, 50, 56, 50, 57, 51, 48, 51, 49, 51, 50, 51, 51, 51, 52, 51, 53, 51, 54, 51, 55, 51, 56, 51, 57, 52, 48, 52, 49, 52, 50, 52, 51, 52, 52, 52, 53, 52, 54, 52, 55, 52, 56, 52, 57, 53, 48, 53, 49, 53, 50, 53, 51, 53, 52, 53, 53, 53, 54, 53, 55, 53, 56, 53, 57, 54, 48, 54, 49, 54, 50, 54, 51, 54, 52, 54, 53, 54, 54, 54, 55, 54, 56, 54, 57, 55, 48, 55, 49, 55, 50, 55, 51, 55, 52, 55, 53, 55, 54, 55, 55, 55, 56, 55, 57, 56, 48, 56, 49, 56, 50, 56, 51, 56, 52, 56, 53, 56, 54, 56, 55, 56, 56, 56, 57, 57, 48, 57, 49, 57, 50, 57, 51, 57, 52, 57, 53, 57, 54, 57, 55, 57, 56, 57, 57]⟩) v21 fun v22 =>
 pAtStr (.string ⟨#[48, 48, 48, 49, 48, 50, 48, 51, 48, 52, 48, 53, 48, 54, 48, 55, 48, 56, 48, 57, 49, 48, 49, 49, 49, 50, 49, 51, 49, 52, 49, 53, 49, 54, 49, 55, 49, 56, 49, 57, 50, 48, 50, 49, 50, 50, 50, 51, 50, 52, 50, 53, 50, 54, 50, 55, 50, 56, 50, 57, 51, 48, 51, 49, 51, 50, 51, 51, 51, 52, 51, 53, 51, 54, 51, 55, 51, 56, 51, 57, 52, 48, 52, 49, 52, 50, 52, 51, 52, 52, 52, 53, 52, 54, 52, 55, 52, 56, 52, 57, 53, 48, 53, 49, 53, 50, 53, 51, 53, 52, 53, 53, 53, 54, 53, 55, 53, 56, 53, 57, 54, 48, 54, 49, 54, 50, 54, 51, 54, 52, 54, 53, 54, 54, 54, 55, 54, 56, 54, 57, 55, 48, 55, 49, 55, 50, 55, 51, 55, 52, 55, 53, 55, 54, 55, 55, 55, 56, 55, 57, 56, 48, 56, 49, 56, 50, 56, 51, 56, 52, 56, 53, 56, 54, 56, 55, 56, 56, 56, 57, 57, 48, 57, 49, 57, 50, 57, 51, 57, 52, 57, 53, 57, 54, 57, 55, 57, 56, 57, 57]⟩) v14 fun v23 =>
 pIdx 1 x0 v19 fun p24 =>
 pStore 1 H3 p24 v22 fun H25 =>
 pIdx 1 x0 v20 fun p26 =>
 pStore 1 H25 p26 v23 fun H27 =>
 pBin PP .sub T.int (l2.getD 1 undef) (.int .i64 3) fun v28 =>
 pBin PP .sub T.int (l2.getD 1 undef) (.int .i64 4) fun v29 =>
 pBin PP .add T.uint32 v12 (.int .u32 1) fun v30 =>
 pAtStr (.string ⟨#[48, 48, 48, 49, 48, 50, 48, 51, 48, 52, 48, 53, 48, 54, 48, 55, 48, 56, 48, 57, 49, 48, 49, 49, 49, 50, 49, 51, 49, 52, 49, 53, 49, 54, 49, 55, 49, 56, 49, 57, 50, 48, 50, 49, 50, 50, 50, 51, 50, 52, 50, 53, 50, 54, 50, 55, 50, 56, 50, 57, 51, 48, 51, 49, 51, 50, 51, 51, 51, 52, 51, 53, 51, 54, 51, 55, 51, 56, 51, 57, 52, 48, 52, 49, 52, 50, 52, 51, 52, 52, 52, 53, 52, 54, 52, 55, 52, 56, 52, 57, 53, 48, 53, 49, 53, 50, 53, 51, 53, 52, 53, 53, 53, 54, 53, 55, 53, 56, 53, 57, 54, 48, 54, 49, 54, 50, 54, 51, 54, 52, 54, 53, 54, 54, 54, 55, 54, 56, 54, 57, 55, 48, 55, 49, 55, 50, 55, 51, 55, 52, 55, 53, 55, 54, 55, 55, 55, 56, 55, 57, 56, 48, 56, 49, 56, 50, 56, 51, 56, 52, 56, 53, 56, 54, 56, 55, 56, 56, 56, 57, 57, 48, 57, 49, 57, 50, 57, 51, 57, 52, 57, 53, 57, 54, 57, 55, 57, 56, 57, 57]⟩) v30 fun v31 =>
 pAtStr (.string ⟨#[48, 48, 48, 49, 48, 50, 48, 51, 48, 52, 48, 53, 48, 54, 48, 55, 48, 56, 48, 57, 49, 48, 49, 49, 49, 50, 49, 51, 49, 52, 49, 53, 49, 54, 49, 55, 49, 56, 49, 57, 50, 48, 50, 49, 50, 50, 50, 51, 50, 52, 50, 53, 50, 54, 50, 55, 50, 56, 50, 57, 51, 48, 51, 49, 51, 50, 51, 51, 51, 52, 51, 53, 51, 54, 51, 55, 51, 56, 51, 57, 52, 48, 52, 49, 52, 50, 52, 51, 52, 52, 52, 53, 52, 54, 52, 55, 52, 56, 52, 57, 53, 48, 53, 49, 53, 50, 53, 51, 53, 52, 53, 53, 53, 54, 53, 55, 53, 56, 53, 57, 54, 48, 54, 49, 54, 50, 54, 51, 54, 52, 54, 53, 54, 54, 54, 55, 54, 56, 54, 57, 55, 48, 55, 49, 55, 50, 55, 51, 55, 52, 55, 53, 55, 54, 55, 55, 55, 56, 55, 57, 56, 48, 56, 49, 56, 50, 56, 51, 56, 52, 56, 53, 56, 54, 56, 55, 56, 56, 56, 57, 57, 48, 57, 49, 57, 50, 57, 51, 57, 52, 57, 53, 57, 54, 57, 55, 57, 56, 57, 57]⟩) v12 fun v32 =>
 pIdx 1 x0 v28 fun p33 =>
 pStore 1 H27 p33 v31 fun H34 =>
 pIdx 1 x0 v29 fun p35 =>
 pStore 1 H34 p35 v32 fun H36 =>
 pBin PP .sub T.int (l2.getD 1 undef) (.int .i64 5) fun v37 =>
 pBin PP .sub T.int (l2.getD 1 undef) (.int .i64 6) fun v38 =>
 pBin PP .add T.uint32 v18 (.int .u32 1) fun v39 =>
 pAtStr (.string ⟨#[48, 48, 48, 49, 48, 50, 48, 51, 48, 52, 48, 53, 48, 54, 48, 55, 48, 56, 48, 57, 49, 48, 49, 49, 49, 50, 49, 51, 49, 52, 49, 53, 49, 54, 49, 55, 49, 56, 49, 57, 50, 48, 50, 49, 50, 50, 50, 51, 50, 52, 50, 53, 50, 54, 50, 55, 50, 56, 50, 57, 51, 48, 51, 49, 51, 50, 51, 51, 51, 52, 51, 53, 51, 54, 51, 55, 51, 56, 51, 57, 52, 48, 52, 49, 52, 50, 52, 51, 52, 52, 52, 53, 52, 54, 52, 55, 52, 56, 52, 57, 53, 48, 53, 49, 53, 50, 53, 51, 53, 52, 53, 53, 53, 54, 53, 55, 53, 56, 53, 57, 54, 48, 54, 49, 54, 50, 54, 51, 54, 52, 54, 53, 54, 54, 54, 55, 54, 56, 54, 57, 55, 48, 55, 49, 55, 50, 55, 51, 55, 52, 55, 53, 55, 54, 55, 55, 55, 56, 55, 57, 56, 48, 56, 49, 56, 50, 56, 51, 56, 52, 56, 53, 56, 54, 56, 55, 56, 56, 56, 57, 57, 48, 57, 49, 57, 50, 57, 51, 57, 52, 57, 53, 57, 54, 57, 55, 57, 56, 57, 57]⟩) v39 fun v40 =>
 pAtStr (.string ⟨#[48, 48, 48, 49, 48, 50, 48, 51, 48, 52, 48, 53, 48, 54, 48, 55, 48, 56, 48, 57, 49, 48, 49, 49, 49, 50, 49, 51, 49, 52, 49, 53, 49, 54, 49, 55, 49, 56, 49, 57, 50, 48, 50, 49, 50, 50, 50, 51, 50, 52, 50, 53, 50, 54, 50, 55, 50, 56, 50, 57, 51, 48, 51, 49, 51, 50, 51, 51, 51, 52, 51, 53, 51, 54, 51, 55, 51, 56, 51, 57, 52, 48, 52, 49, 52, 50, 52, 51, 52, 52, 52, 53, 52, 54, 52, 55, 52, 56, 52, 57, 53, 48, 53, 49, 53, 50, 53, 51, 53, 52, 53, 53, 53, 54, 53, 55, 53, 56, 53, 57, 54, 48, 54, 49, 54, 50, 54, 51, 54, 52, 54, 53, 54, 54, 54, 55, 54, 56, 54, 57, 55, 48, 55, 49, 55, 50, 55, 51, 55, 52, 55, 53, 55, 54, 55, 55, 55, 56, 55, 57, 56, 48, 56, 49, 56, 50, 56, 51, 56, 52, 56, 53, 56, 54, 56, 55, 56, 56, 56, 57, 57, 48, 57, 49, 57, 50, 57, 51, 57, 52, 57, 53, 57, 54, 57, 55, 57, 56, 57, 57]⟩) v18 fun v41 =>
 pIdx 1 x0 v37 fun p42 =>
 pStore 1 H36 p42 v40 fun H43 =>
 pIdx 1 x0 v38 fun p44 =>
 pStore 1 H43 p44 v41 fun H45 =>
 pBin PP .sub T.int (l2.getD 1 undef) (.int .i64 7) fun v46 =>
 pBin PP .sub T.int (l2.getD 1 undef) (.int .i64 8) fun v47 =>
 pBin PP .add T.uint32 v16 (.int .u32 1) fun v48 =>
 pAtStr (.string ⟨#[48, 48, 48, 49, 48, 50, 48, 51, 48, 52, 48, 53, 48, 54, 48, 55, 48, 56, 48, 57, 49, 48, 49, 49, 49, 50, 49, 51, 49, 52, 49, 53, 49, 54, 49, 55, 49, 56, 49, 57, 50, 48, 50, 49, 50, 50, 50, 51, 50, 52, 50, 53, 50, 54, 50, 55, 50, 56, 50, 57, 51, 48, 51, 49, 51, 50, 51, 51, 51, 52, 51, 53, 51, 54, 51, 55, 51, 56, 51, 57, 52, 48, 52, 49, 52, 50, 52, 51, 52, 52, 52, 53, 52, 54, 52, 55, 52, 56, 52, 57, 53, 48, 53, 49, 53, 50, 53, 51, 53, 52, 53, 53, 53, 54, 53, 55, 53, 56, 53, 57, 54, 48, 54, 49, 54, 50, 54, 51, 54, 52, 54, 53, 54, 54, 54, 55, 54, 56, 54, 57, 55, 48, 55, 49, 55, 50, 55, 51, 55, 52, 55, 53, 55, 54, 55, 55, 55, 56, 55, 57, 56, 48, 56, 49, 56, 50, 56, 51, 56, 52, 56, 53, 56, 54, 56, 55, 56, 56, 56, 57, 57, 48, 57, 49, 57, 50, 57, 51, 57, 52, 57, 53, 57, 54, 57, 55, 57, 56, 57, 57]⟩) v48 fun v49 =>
 pAtStr (.string ⟨#[48, 48, 48, 49, 48, 50, 48, 51, 48, 52, 48, 53, 48, 54, 48, 55, 48, 56, 48, 57, 49, 48, 49, 49, 49, 50, 49, 51, 49, 52, 49, 53, 49, 54, 49, 55, 49, 56, 49, 57, 50, 48, 50, 49, 50, 50, 50, 51, 50, 52, 50, 53, 50, 54, 50, 55, 50, 56, 50, 57, 51, 48, 51, 49, 51, 50, 51, 51, 51, 52, 51, 53, 51, 54, 51, 55, 51, 56, 51, 57, 52, 48, 52, 49, 52, 50, 52, 51, 52, 52, 52, 53, 52, 54, 52, 55, 52, 56, 52, 57, 53, 48, 53, 49, 53, 50, 53, 51, 53, 52, 53, 53, 53, 54, 53, 55, 53, 56, 53, 57, 54, 48, 54, 49, 54, 50, 54, 51, 54, 52, 54, 53, 54, 54, 54, 55, 54, 56, 54, 57, 55, 48, 55, 49, 55, 50, 55, 51, 55, 52, 55, 53, 55, 54, 55, 55, 55, 56, 55, 57, 56, 48, 56, 49, 56, 50, 56, 51, 56, 52, 56, 53, 56, 54, 56, 55, 56, 56, 56, 57, 57, 48, 57, 49, 57, 50, 57, 51, 57, 52, 57, 53, 57, 54, 57, 55, 57, 56, 57, 57]⟩) v16 fun v50 =>
 pIdx 1 x0 v46 fun p51 =>
 pStore 1 H45 p51 v49 fun H52 =>
 pIdx 1 x0 v47 fun p53 =>
 pStore 1 H52 p53 v50 fun H54 =>
 pBin PP .sub T.int (l2.getD 1 undef) (.int .i64 8) fun v55 =>
 some (.next, [v8, v55], H54))
 (some (.exit 0, [(l2.getD 0 undef), (l2.getD 1 undef)], H3))) [x1, v1] H0) fun q56 l57 H58 => onCtl q56 none
 (fun i59 => onExit i59 0 (
 pConvInt .u32 (l57.getD 0 undef) fun v60 =>
 bindO (
 pBin PP .geq T.int (l57.getD 1 undef) (.int .i64 4) fun v61 =>
 pBool v61 fun b62 => br b62
 (pBin PP .rem T.uint32 v60 (.int .u32 10000) fun v63 =>
 pBin PP .quo T.uint32 v60 (.int .u32 10000) fun v64 =>
 pBin PP .quo T.uint32 v63 (.int .u32 100) fun v65 =>
 pBin PP .mul T.uint32 v65 (.int .u32 2) fun v66 =>
 pBin PP .rem T.uint32 v63 (.int .u32 100) fun v67 =>
 pBin PP .mul T.uint32 v67 (.int .u32 2) fun v68 =>
 pBin PP .sub T.int (l57.getD 1 undef) (.int .i64 1) fun v69 =>
 pBin PP .sub T.int (l57.getD 1 undef) (.int .i64 2) fun v70 =>
 pBin PP .add T.uint32 v68 (.int .u32 1) fun v71 =>
 pAtStr (.string ⟨#[48, 48, 48, 49, 48, 50, 48, 51, 48, 52, 48, 53, 48, 54, 48, 55, 48, 56, 48, 57, 49, 48, 49, 49, 49, 50, 49, 51, 49, 52, 49, 53, 49, 54, 49, 55, 49, 56, 49, 57, 50, 48, 50, 49, 50, 50, 50, 51, 50, 52, 50, 53, 50, 54, 50, 55, 50, 56, 50, 57, 51, 48, 51, 49, 51, 50, 51, 51, 51, 52, 51, 53, 51, 54, 51, 55, 51, 56, 51, 57, 52, 48, 52, 49, 52, 50, 52, 51, 52, 52, 52, 53, 52, 54, 52, 55, 52, 56, 52, 57, 53, 48, 53, 49, 53, 50, 53, 51, 53, 52, 53, 53, 53, 54, 53, 55, 53, 56, 53, 57, 54, 48, 54, 49, 54, 50, 54, 51, 54, 52, 54, 53, 54, 54, 54, 55, 54, 56, 54, 57, 55, 48, 55, 49, 55, 50, 55, 51, 55, 52, 55, 53, 55, 54, 55, 55, 55, 56, 55, 57, 56, 48, 56, 49, 56, 50, 56, 51, 56, 52, 56, 53, 56, 54, 56, 55, 56, 56, 56, 57, 57, 48, 57, 49, 57, 50, 57, 51, 57, 52, 57, 53, 57, 54, 57, 55, 57, 56, 57, 57]⟩) v71 fun v72 =>
 pAtStr (.string ⟨#[48, 48, 48, 49, 48, 50, 48, 51, 48, 52, 48, 53, 48, 54, 48, 55, 48, 56, 48, 57, 49, 48, 49, 49, 49, 50, 49, 51, 49, 52, 49, 53, 49, 54, 49, 55, 49, 56, 49, 57, 50, 48, 50, 49, 50, 50, 50, 51, 50, 52, 50, 53, 50, 54, 50, 55, 50, 56, 50, 57, 51, 48, 51, 49, 51, 50, 51, 51, 51, 52, 51, 53, 51, 54, 51, 55, 51, 56, 51, 57, 52, 48, 52, 49, 52, 50, 52, 51, 52, 52, 52, 53, 52, 54, 52, 55, 52, 56, 52, 57, 53, 48, 53, 49, 53, 50, 53, 51, 53, 52, 53, 53, 53, 54, 53, 55, 53, 56, 53, 57, 54, 48, 54, 49, 54, 50, 54, 51, 54, 52, 54, 53, 54, 54, 54, 55, 54, 56, 54, 57, 55, 48, 55, 49, 55, 50, 55, 51, 55, 52, 55, 53, 55, 54, 55, 55, 55, 56, 55, 57, 56, 48, 56, 49, 56, 50, 56, 51, 56, 52, 56, 53, 56, 54, 56, 55, 56, 56, 56, 57, 57, 48, 57, 49, 57, 50, 57, 51, 57, 52, 57, 53, 57, 54, 57, 55, 57, 56, 57, 57]⟩) v68 fun v73 =>
 pIdx 1 x0 v69 fun p74 =>
 pStore 1 H58 p74 v72 fun H75 =>
 pIdx 1 x0 v70 fun p76 =>
 pStore 1 H75 p76 v73 fun H77 =>
 pBin PP .sub T.int (l57.getD 1 undef) (.int .i64 3) fun v78 =>
 pBin PP .sub T.int (l57.getD 1 undef) (.int .i64 4) fun v79 =>
 pBin PP .add T.uint32 v66 (.int .u32 1) fun v80 =>
 pAtStr (.string ⟨#[48, 48, 48, 49, 48, 50, 48, 51, 48, 52, 48, 53, 48, 54, 48, 55, 48, 56, 48, 57, 49, 48, 49, 49, 49, 50, 49, 51, 49, 52, 49, 53, 49, 54, 49, 55, 49, 56, 49, 57, 50, 48, 50, 49, 50, 50, 50, 51, 50, 52, 50, 53, 50, 54, 50, 55, 50, 56, 50, 57, 51, 48, 51, 49, 51, 50, 51, 51, 51, 52, 51, 53, 51, 54, 51, 55, 51, 56, 51, 57, 52, 48, 52, 49, 52, 50, 52, 51, 52, 52, 52, 53, 52, 54, 52, 55, 52, 56, 52, 57, 53, 48, 53, 49, 53, 50, 53, 51, 53, 52, 53, 53, 53, 54, 53, 55, 53, 56, 53, 57, 54, 48, 54, 49, 54, 50, 54, 51, 54, 52, 54, 53, 54, 54, 54, 55, 54, 56, 54, 57, 55, 48, 55, 49, 55, 50, 55, 51, 55, 52, 55, 53, 55, 54, 55, 55, 55, 56, 55, 57, 56, 48, 56, 49, 56, 50, 56, 51, 56, 52, 56, 53, 56, 54, 56, 55, 56, 56, 56, 57, 57, 48, 57, 49, 57, 50, 57, 51, 57, 52, 57, 53, 57, 54, 57, 55, 57, 56, 57, 57]⟩) v80 fun v81 =>
 pAtStr (.string ⟨#[48, 48, 48, 49, 48, 50, 48, 51, 48, 52, 48, 53, 48, 54, 48, 55, 48, 56, 48, 57, 49, 48, 49, 49, 49, 50, 49, 51, 49, 52, 49, 53, 49, 54, 49, 55, 49, 56, 49, 57, 50, 48, 50, 49, 50, 50, 50, 51, 50, 52, 50, 53, 50, 54, 50, 55, 50, 56, 50, 57, 51, 48, 51, 49, 51, 50, 51, 51, 51, 52, 51, 53, 51, 54, 51, 55, 51, 56, 51, 57, 52, 48, 52, 49, 52, 50, 52, 51, 52, 52, 52, 53, 52, 54, 52, 55, 52, 56, 52, 57, 53, 48, 53, 49, 53, 50, 53, 51, 53, 52, 53, 53, 53, 54, 53, 55, 53, 56, 53, 57, 54, 48, 54, 49, 54, 50, 54, 51, 54, 52, 54, 53, 54, 54, 54, 55, 54, 56, 54, 57, 55, 48, 55, 49, 55, 50, 55, 51, 55, 52, 55, 53, 55, 54, 55, 55, 55, 56, 55, 57, 56, 48, 56, 49, 56, 50, 56, 51, 56, 52, 56, 53, 56, 54, 56, 55, 56, 56, 56, 57, 57, 48, 57, 49, 57, 50, 57, 51, 57, 52, 57, 53, 57, 54, 57, 55, 57, 56, 57, 57]⟩) v66 fun v82 =>
 pIdx 1 x0 v78 fun p83 =>
 pStore 1 H77 p83 v81 fun H84 =>
 pIdx 1 x0 v79 fun p85 =>
 pStore 1 H84 p85 v82 fun H86 =>
 pBin PP .sub T.int (l57.getD 1 undef) (.int .i64 4) fun v87 =>
 some (.next, [v87, v64], H86))
 (some (.next, [(l57.getD 1 undef), v60], H58))) fun q88 l89 H90 => onCtl q88
 (pBin PP .geq T.int (l89.getD 0 undef) (.int .i64 2) fun v92 =>
 pBool v92 fun b93 => br b93
 (pBin PP .rem T.uint32 (l89.getD 1 undef) (.int .u32 100) fun v94 =>
 pBin PP .mul T.uint32 v94 (.int .u32 2) fun v95 =>
 pBin PP .quo T.uint32 (l89.getD 1 undef) (.int .u32 100) fun v96 =>
 pBin PP .sub T.int (l89.getD 0 undef) (.int .i64 1) fun v97 =>
 pBin PP .sub T.int (l89.getD 0 undef) (.int .i64 2) fun v98 =>
 pBin PP .add T.uint32 v95 (.int .u32 1) fun v99 =>
 pAtStr (.string ⟨#[48, 48, 48, 49, 48, 50, 48, 51, 48, 52, 48, 53, 48, 54, 48, 55, 48, 56, 48, 57, 49, 48, 49, 49, 49, 50, 49, 51, 49, 52, 49, 53, 49, 54, 49, 55, 49, 56, 49, 57, 50, 48, 50, 49, 50, 50, 50, 51, 50, 52, 50, 53, 50, 54, 50, 55, 50, 56, 50, 57, 51, 48, 51, 49, 51, 50, 51, 51, 51, 52, 51, 53, 51, 54, 51, 55, 51, 56, 51, 57, 52, 48, 52, 49, 52, 50, 52, 51, 52, 52, 52, 53, 52, 54, 52, 55, 52, 56, 52, 57, 53, 48, 53, 49, 53, 50, 53, 51, 53, 52, 53, 53, 53, 54, 53, 55, 53, 56, 53, 57, 54, 48, 54, 49, 54, 50, 54, 51, 54, 52, 54, 53, 54, 54, 54, 55, 54, 56, 54, 57, 55, 48, 55, 49, 55, 50, 55, 51, 55, 52, 55, 53, 55, 54, 55, 55, 55, 56, 55, 57, 56, 48, 56, 49, 56, 50, 56, 51, 56, 52, 56, 53, 56, 54, 56, 55, 56, 56, 56, 57, 57, 48, 57, 49, 57, 50, 57, 51, 57, 52, 57, 53, 57, 54, 57, 55, 57, 56, 57, 57]⟩) v99 fun v100 =>
 pAtStr (.string ⟨#[48, 48, 48, 49, 48, 50, 48, 51, 48, 52, 48, 53, 48, 54, 48, 55, 48, 56, 48, 57, 49, 48, 49, 49, 49, 50, 49, 51, 49, 52, 49, 53, 49, 54, 49, 55, 49, 56, 49, 57, 50, 48, 50, 49, 50, 50, 50, 51, 50, 52, 50, 53, 50, 54, 50, 55, 50, 56, 50, 57, 51, 48, 51, 49, 51, 50, 51, 51, 51, 52, 51, 53, 51, 54, 51, 55, 51, 56, 51, 57, 52, 48, 52, 49, 52, 50, 52, 51, 52, 52, 52, 53, 52, 54, 52, 55, 52, 56, 52, 57, 53, 48, 53, 49, 53, 50, 53, 51, 53, 52, 53, 53, 53, 54, 53, 55, 53, 56, 53, 57, 54, 48, 54, 49, 54, 50, 54, 51, 54, 52, 54, 53, 54, 54, 54, 55, 54, 56, 54, 57, 55, 48, 55, 49, 55, 50, 55, 51, 55, 52, 55, 53, 55, 54, 55, 55, 55, 56, 55, 57, 56, 48, 56, 49, 56, 50, 56, 51, 56, 52, 56, 53, 56, 54, 56, 55, 56, 56, 56, 57, 57, 48, 57, 49, 57, 50, 57, 51, 57, 52, 57, 53, 57, 54, 57, 55, 57, 56, 57, 57]⟩) v95 fun v101 =>
 pIdx 1 x0 v97 fun p102 =>
 pStore 1 H90 p102 v100 fun H103 =>
 pIdx 1 x0 v98 fun p104 =>
 pStore 1 H103 p104 v101 fun H105 =>
 pBin PP .sub T.int (l89.getD 0 undef) (.int .i64 2) fun v106 =>
 pBin PP .gtr T.int v106 (.int .i64 0) fun v107 =>
 pBool v107 fun b108 => br b108
 (pBin PP .add T.uint32 (.int .u32 48) v96 fun v109 =>
 pConvInt .u8 v109 fun v110 =>
 pIdx 1 x0 (.int .i64 0) fun p111 =>
 pStore 1 H105 p111 v110 fun H112 =>
 some ((.tuple #[]), H112))
 (some ((.tuple #[]), H105)))
 (pBin PP .gtr T.int (l89.getD 0 undef) (.int .i64 0) fun v113 =>
 pBool v113 fun b114 => br b114
 (pBin PP .add T.uint32 (.int .u32 48) (l89.getD 1 undef) fun v115 =>
 pConvInt .u8 v115 fun v116 =>
 pIdx 1 x0 (.int .i64 0) fun p117 =>
 pStore 1 H90 p117 v116 fun H118 =>
 some ((.tuple #[]), H118))
 (some ((.tuple #[]), H90))))
 (fun i91 => none)
 (some ((l89.headD undef), H90))) (
 none))
 (some ((l57.headD undef), H58))
theorem e_internal_strconv_formatBase10 (R : Handler) (x0 x1 : Value) (H0 : Hp) : execF PP orc R F.internal_strconv_formatBase10 Go.Proofs.Tryd.f72 [x0, x1] H0 = m_internal_strconv_formatBase10 R x0 x1 H0 := by kernel_rfl
noncomputable def m_internal_strconv_formatBits (R : Handler) (x0 x1 x2 x3 x4 : Value) (H0 : Hp) : Option (Value × Hp) :=
 bindO (
 pBin PP .lss T.int x2 (.int .i64 2) fun v1 =>
 pBool v1 fun b2 => br b2
 (none)
 (pBin PP .eql T.int x2 (.int .i64 10) fun v3 =>
 pBool v3 fun b4 => br b4
 (none)
 (pBin PP .gtr T.int x2 (.int .i64 36) fun v5 =>
 pBool v5 fun b6 => br b6
 (none)
 (some (.next, [], H0))))) fun q7 l8 H9 => onCtl q7
 (pAlloc [.int .u8 0, .int .u8 0, .int .u8 0, .int .u8 0, .int .u8 0, .int .u8 0, .int .u8 0, .int .u8 0, .int .u8 0, .int .u8 0, .int .u8 0, .int .u8 0, .int .u8 0, .int .u8 0, .int .u8 0, .int .u8 0, .int .u8 0, .int .u8 0, .int .u8 0, .int .u8 0, .int .u8 0, .int .u8 0, .int .u8 0, .int .u8 0, .int .u8 0, .int .u8 0, .int .u8 0, .int .u8 0, .int .u8 0, .int .u8 0, .int .u8 0, .int .u8 0, .int .u8 0, .int .u8 0, .int .u8 0, .int .u8 0, .int .u8 0, .int .u8 0, .int .u8 0, .int .u8 0, .int .u8 0, .int .u8 0, .int .u8 0, .int .u8 0, .int .u8 0, .int .u8 0, .int .u8 0, .int .u8 0, .int .u8 0, .int .u8 0, .int .u8 0, .int .u8 0, .int .u8 0, .int .u8 0, .int .u8 0, .int .u8 0, .int .u8 0, .int .u8 0, .int .u8 0, .int .u8 0, .int .u8 0, .int .u8 0, .int .u8 0, .int .u8 0, .int .u8 0] H9 fun p11 H12 =>
 bindO (
 pBool x3 fun b13 => br b13
 (pUn .neg x1 fun v14 =>
 some (.next, [v14], H12))
 (some (.next, [x1], H12))) fun q15 l16 H17 => onCtl q15
 (pCallF R F.internal_strconv_isPowerOfTwo [x2] H17 fun r19 H20 =>
 pBool r19 fun b21 => br b21
 (pConvInt .u64 x2 fun v22 =>
 pCallF R F.bits_TrailingZeros [v22] H20 fun r23 H24 =>
 pConvInt .u64 r23 fun v25 =>
 pConvInt .u64 x2 fun v26 =>
 pConvInt .u64 x2 fun v27 =>
 pBin PP .sub T.uint v27 (.int .u64 1) fun v28 =>
 bindO (loopD (fun l29 H30 =>
 pBin PP .geq T.uint64 (l29.getD 0 undef) v26 fun v31 =>
 pBool v31 fun b32 => br b32
 (pBin PP .sub T.int (l29.getD 1 undef) (.int .i64 1) fun v33 =>
 pBin PP .and T.uint (l29.getD 0 undef) v28 fun v34 =>
 pAtStr (.string ⟨#[48, 49, 50, 51, 52, 53, 54, 55, 56, 57, 97, 98, 99, 100, 101, 102, 103, 104, 105, 106, 107, 108, 109, 110, 111, 112, 113, 114, 115, 116, 117, 118, 119, 120, 121, 122]⟩) v34 fun v35 =>
 pIdxArr 65 1 p11 v33 fun p36 =>
 pStore 1 H30 p36 v35 fun H37 =>
 pBin PP .shr T.uint64 (l29.getD 0 undef) v25 fun v38 =>
 some (.next, [v38, v33], H37))
 (some (.exit 0, [(l29.getD 0 undef), (l29.getD 1 undef)], H30))) [(l16.getD 0 undef), (.int .i64 65)] H24) fun q39 l40 H41 => onCtl q39 none
 (fun i42 => onExit i42 0 (
 pBin PP .sub T.int (l40.getD 1 undef) (.int .i64 1) fun v43 =>
 pAtStr (.string ⟨#[48, 49, 50, 51, 52, 53, 54, 55, 56, 57, 97, 98, 99, 100, 101, 102, 103, 104, 105, 106, 107, 108, 109, 110, 111, 112, 113, 114, 115, 116, 117, 118, 119, 120, 121, 122]⟩) (l40.getD 0 undef) fun v44 =>
 pIdxArr 65 1 p11 v43 fun p45 =>
 pStore 1 H41 p45 v44 fun H46 =>
 pBool x3 fun b47 => br b47
 (pBin PP .sub T.int v43 (.int .i64 1) fun v48 =>
 pIdxArr 65 1 p11 v48 fun p49 =>
 pStore 1 H46 p49 (.int .u8 45) fun H50 =>
 pBool x4 fun b51 => br b51
 (pSliceA 65 1 p11 (some v48) none H50 fun v52 =>
 pAppendT T.uint8 1 1 x0 v52 H50 fun v53 H54 =>
 some ((.tuple #[v53, (.string ⟨#[]⟩)]), H54))
 (pSliceA 65 1 p11 (some v48) none H50 fun v55 =>
 pToStr v55 H50 fun v56 =>
 some ((.tuple #[(.slice none 0 0), v56]), H50)))
 (pBool x4 fun b57 => br b57
 (pSliceA 65 1 p11 (some v43) none H46 fun v58 =>
 pAppendT T.uint8 1 1 x0 v58 H46 fun v59 H60 =>
 some ((.tuple #[v59, (.string ⟨#[]⟩)]), H60))
 (pSliceA 65 1 p11 (some v43) none H46 fun v61 =>
 pToStr v61 H46 fun v62 =>
 some ((.tuple #[(.slice none 0 0), v62]), H46)))) (
 none))
 (some ((l40.headD undef), H41)))
 (pConvInt .u64 x2 fun v63 =>
 bindO (loopD (fun l64 H65 =>
 pBin PP .geq T.uint64 (l64.getD 0 undef) v63 fun v66 =>
 pBool v66 fun b67 => br b67
 (pBin PP .sub T.int (l64.getD 1 undef) (.int .i64 1) fun v68 =>
 pBin PP .quo T.uint64 (l64.getD 0 undef) v63 fun v69 =>
 pBin PP .mul T.uint64 v69 v63 fun v70 =>
 pBin PP .sub T.uint64 (l64.getD 0 undef) v70 fun v71 =>
 pAtStr (.string ⟨#[48, 49, 50, 51, 52, 53, 54, 55, 56, 57, 97, 98, 99, 100, 101, 102, 103, 104, 105, 106, 107, 108, 109, 110, 111, 112, 113, 114, 115, 116, 117, 118, 119, 120, 121, 122]⟩) v71 fun v72 =>
 pIdxArr 65 1 p11 v68 fun p73 =>
 pStore 1 H65 p73 v72 fun H74 =>
 some (.next, [v69, v68], H74))
 (some (.exit 2, [(l64.getD 0 undef), (l64.getD 1 undef)], H65))) [(l16.getD 0 undef), (.int .i64 65)] H20) fun q75 l76 H77 => onCtl q75 none
 (fun i78 => onExit i78 2 (
 pBin PP .sub T.int (l76.getD 1 undef) (.int .i64 1) fun v79 =>
 pAtStr (.string ⟨#[48, 49, 50, 51, 52, 53, 54, 55, 56, 57, 97, 98, 99, 100, 101, 102, 103, 104, 105, 106, 107, 108, 109, 110, 111, 112, 113, 114, 115, 116, 117, 118, 119, 120, 121, 122]⟩) (l76.getD 0 undef) fun v80 =>
 pIdxArr 65 1 p11 v79 fun p81 =>
 pStore 1 H77 p81 v80 fun H82 =>
 pBool x3 fun b83 => br b83
 (pBin PP .sub T.int v79 (.int .i64 1) fun v84 =>
 pIdxArr 65 1 p11 v84 fun p85 =>
 pStore 1 H82 p85 (.int .u8 45) fun H86 =>
 pBool x4 fun b87 => br b87
 (pSliceA 65 1 p11 (some v84) none H86 fun v88 =>
 pAppendT T.uint8 1 1 x0 v88 H86 fun v89 H90 =>
 some ((.tuple #[v89, (.string ⟨#[]⟩)]), H90))
 (pSliceA 65 1 p11 (some v84) none H86 fun v91 =>
 pToStr v91 H86 fun v92 =>
 some ((.tuple #[(.slice none 0 0), v92]), H86)))
 (pBool x4 fun b93 => br b93
 (pSliceA 65 1 p11 (some v79) none H82 fun v94 =>
 pAppendT T.uint8 1 1 x0 v94 H82 fun v95 H96 =>
 some ((.tuple #[v95, (.string ⟨#[]⟩)]), H96))
 (pSliceA 65 1 p11 (some v79) none H82 fun v97 =>
 pToStr v97 H82 fun v98 =>
 some ((.tuple #[(.slice none 0 0), v98]), H82)))) (
 none))
 (some ((l76.headD undef), H77))))
 (fun i18 => none)
 (some ((l16.headD undef), H17)))
 (fun i10 => none)
 (some ((l8.headD undef), H9))
theorem e_internal_strconv_formatBits (R : Handler) (x0 x1 x2 x3 x4 : Value) (H0 : Hp) : execF PP orc R F.internal_strconv_formatBits Go.Proofs.Tryd.f73 [x0, x1, x2, x3, x4] H0 = m_internal_strconv_formatBits R x0 x1 x2 x3 x4 H0 := by kernel_rfl
noncomputable def m_bits_OnesCount64 (R : Handler) (x0 : Value) (H0 : Hp) : Option (Value × Hp) :=
 pBin PP .shr T.uint64 x0 (.int .u64 1) fun v1 =>
 pBin PP .and T.uint64 v1 (.int .u64 6148914691236517205) fun v2 =>
 pBin PP .and T.uint64 x0 (.int .u64 6148914691236517205) fun v3 =>
 pBin PP .add T.uint64 v2 v3 fun v4 =>
 pBin PP .shr T.uint64 v4 (.int .u64 2) fun v5 =>
 pBin PP .and T.uint64 v5 (.int .u64 3689348814741910323) fun v6 =>
 pBin PP .and T.uint64 v4 (.int .u64 3689348814741910323) fun v7 =>
 pBin PP .add T.uint64 v6 v7 fun v8 =>
 pBin PP .shr T.uint64 v8 (.int .u64 4) fun v9 =>
 pBin PP .add T.uint64 v9 v8 fun v10 =>
 pBin PP .and T.uint64 v10 (.int .u64 1085102592571150095) fun v11 =>
 pBin PP .shr T.uint64 v11 (.int .u64 8) fun v12 =>
 pBin PP .add T.uint64 v11 v12 fun v13 =>
 pBin PP .shr T.uint64 v13 (.int .u64 16) fun v14 =>
 pBin PP .add T.uint64 v13 v14 fun v15 =>
 pBin PP .shr T.uint64 v15 (.int .u64 32) fun v16 =>
 pBin PP .add T.uint64 v15 v16 fun v17 =>
 pConvInt .i64 v17 fun v18 =>
 pBin PP .and T.int v18 (.int .i64 127) fun v19 =>
 some (v19, H0)
theorem e_bits_OnesCount64 (R : Handler) (x0 : Value) (H0 : Hp) : execF PP orc R F.bits_OnesCount64 Go.Proofs.Tryd.f76 [x0] H0 = m_bits_OnesCount64 R x0 H0 := by kernel_rfl
noncomputable def m_internal_strconv_log10Pow2 (R : Handler) (x0 : Value) (H0 : Hp) : Option (Value × Hp) :=
 pBin PP .mul T.int x0 (.int .i64 78913) fun v1 =>
 pBin PP .shr T.int v1 (.int .u64 18) fun v2 =>
 some (v2, H0)
theorem e_internal_strconv_log10Pow2 (R : Handler) (x0 : Value) (H0 : Hp) : execF PP orc R F.internal_strconv_log10Pow2 Go.Proofs.Tryd.f77 [x0] H0 = m_internal_strconv_log10Pow2 R x0 H0 := by kernel_rfl
noncomputable def m_bits_Len64 (R : Handler) (x0 : Value) (H0 : Hp) : Option (Value × Hp) :=
 bindO (
 pBin PP .geq T.uint64 x0 (.int .u64 4294967296) fun v1 =>
 pBool v1 fun b2 => br b2
 (pBin PP .shr T.uint64 x0 (.int .u64 32) fun v3 =>
 some (.next, [v3, (.int .i64 32)], H0))
 (some (.next, [x0, (.int .i64 0)], H0))) fun q4 l5 H6 => onCtl q4
 (pBin PP .geq T.uint64 (l5.getD 0 undef) (.int .u64 65536) fun v8 =>
 pBool v8 fun b9 => br b9
 (pBin PP .shr T.uint64 (l5.getD 0 undef) (.int .u64 16) fun v10 =>
 pBin PP .add T.int (l5.getD 1 undef) (.int .i64 16) fun v11 =>
 pBin PP .geq T.uint64 v10 (.int .u64 256) fun v12 =>
 pBool v12 fun b13 => br b13
 (pBin PP .shr T.uint64 v10 (.int .u64 8) fun v14 =>
 pBin PP .add T.int v11 (.int .i64 8) fun v15 =>
 pConvInt .u8 v14 fun v16 =>
 pAtStr (.string ⟨#[0, 1, 2, 2, 3, 3, 3, 3, 4, 4, 4, 4, 4, 4, 4, 4, 5, 5, 5, 5, 5, 5, 5, 5, 5, 5, 5, 5, 5, 5, 5, 5, 6, 6, 6, 6, 6, 6, 6, 6, 6, 6, 6, 6, 6, 6, 6, 6, 6, 6, 6, 6, 6, 6, 6, 6, 6, 6, 6, 6, 6, 6, 6, 6, 7, 7, 7, 7, 7, 7, 7, 7, 7, 7, 7, 7, 7, 7, 7, 7, 7, 7, 7, 7, 7, 7, 7, 7, 7, 7, 7, 7, 7, 7, 7, 7, 7, 7, 7, 7, 7, 7, 7, 7, 7, 7, 7, 7, 7, 7, 7, 7, 7, 7, 7, 7, 7, 7, 7, 7, 7, 7, 7, 7, 7, 7, 7, 7, 8, 8, 8, 8, 8, 8, 8, 8, 8, 8, 8, 8, 8, 8, 8, 8, 8, 8, 8, 8, 8, 8, 8, 8, 8, 8, 8, 8, 8, 8, 8, 8, 8, 8, 8, 8, 8, 8, 8, 8, 8, 8, 8, 8, 8, 8, 8, 8, 8, 8, 8, 8, 8, 8, 8, 8, 8, 8, 8, 8, 8, 8, 8, 8, 8, 8, 8, 8, 8, 8, 8, 8, 8, 8, 8, 8, 8, 8, 8, 8, 8, 8, 8, 8, 8, 8, 8, 8, 8, 8, 8, 8, 8, 8, 8, 8, 8, 8, 8, 8, 8, 8, 8, 8, 8, 8, 8, 8, 8, 8, 8, 8, 8, 8, 8, 8, 8, 8, 8, 8, 8, 8, 8, 8, 8, 8, 8, 8]⟩) v16 fun v17 =>
 pConvInt .i64 v17 fun v18 =>
 pBin PP .add T.int v15 v18 fun v19 =>
 some (v19, H6))
 (pConvInt .u8 v10 fun v20 =>
 pAtStr (.string ⟨#[0, 1, 2, 2, 3, 3, 3, 3, 4, 4, 4, 4, 4, 4, 4, 4, 5, 5, 5, 5, 5, 5, 5, 5, 5, 5, 5, 5, 5, 5, 5, 5, 6, 6, 6, 6, 6, 6, 6, 6, 6, 6, 6, 6, 6, 6, 6, 6, 6, 6, 6, 6, 6, 6, 6, 6, 6, 6, 6, 6, 6, 6, 6, 6, 7, 7, 7, 7, 7, 7, 7, 7, 7, 7, 7, 7, 7, 7, 7, 7, 7, 7, 7, 7, 7, 7, 7, 7, 7, 7, 7, 7, 7, 7, 7, 7, 7, 7, 7, 7, 7, 7, 7, 7, 7, 7, 7, 7, 7, 7, 7, 7, 7, 7, 7, 7, 7, 7, 7, 7, 7, 7, 7, 7, 7, 7, 7, 7, 8, 8, 8, 8, 8, 8, 8, 8, 8, 8, 8, 8, 8, 8, 8, 8, 8, 8, 8, 8, 8, 8, 8, 8, 8, 8, 8, 8, 8, 8, 8, 8, 8, 8, 8, 8, 8, 8, 8, 8, 8, 8, 8, 8, 8, 8, 8, 8, 8, 8, 8, 8, 8, 8, 8, 8, 8, 8, 8, 8, 8, 8, 8, 8, 8, 8, 8, 8, 8, 8, 8, 8, 8, 8, 8, 8, 8, 8, 8, 8, 8, 8, 8, 8, 8, 8, 8, 8, 8, 8, 8, 8, 8, 8, 8, 8, 8, 8, 8, 8, 8, 8, 8, 8, 8, 8, 8, 8, 8, 8, 8, 8, 8, 8, 8, 8, 8, 8, 8, 8, 8, 8, 8, 8, 8, 8, 8, 8]⟩) v20 fun v21 =>
 pConvInt .i64 v21 fun v22 =>
 pBin PP .add T.int v11 v22 fun v23 =>
 some (v23, H6)))
 (pBin PP .geq T.uint64 (l5.getD 0 undef) (.int .u64 256) fun v24 =>
 pBool v24 fun b25 => br b25
 (pBin PP .shr T.uint64 (l5.getD 0 undef) (.int .u64 8) fun v26 =>
 pBin PP .add T.int (l5.getD 1 undef) (.int .i64 8) fun v27 =>
 pConvInt .u8 v26 fun v28 =>
 pAtStr (.string ⟨#[0, 1, 2, 2, 3, 3, 3, 3, 4, 4, 4, 4, 4, 4, 4, 4, 5, 5, 5, 5, 5, 5, 5, 5, 5, 5, 5, 5, 5, 5, 5, 5, 6, 6, 6, 6, 6, 6, 6, 6, 6, 6, 6, 6, 6, 6, 6, 6, 6, 6, 6, 6, 6, 6, 6, 6, 6, 6, 6, 6, 6, 6, 6, 6, 7, 7, 7, 7, 7, 7, 7, 7, 7, 7, 7, 7, 7, 7, 7, 7, 7, 7, 7, 7, 7, 7, 7, 7, 7, 7, 7, 7, 7, 7, 7, 7, 7, 7, 7, 7, 7, 7, 7, 7, 7, 7, 7, 7, 7, 7, 7, 7, 7, 7, 7, 7, 7, 7, 7, 7, 7, 7, 7, 7, 7, 7, 7, 7, 8, 8, 8, 8, 8, 8, 8, 8, 8, 8, 8, 8, 8, 8, 8, 8, 8, 8, 8, 8, 8, 8, 8, 8, 8, 8, 8, 8, 8, 8, 8, 8, 8, 8, 8, 8, 8, 8, 8, 8, 8, 8, 8, 8, 8, 8, 8, 8, 8, 8, 8, 8, 8, 8, 8, 8, 8, 8, 8, 8, 8, 8, 8, 8, 8, 8, 8, 8, 8, 8, 8, 8, 8, 8, 8, 8, 8, 8, 8, 8, 8, 8, 8, 8, 8, 8, 8, 8, 8, 8, 8, 8, 8, 8, 8, 8, 8, 8, 8, 8, 8, 8, 8, 8, 8, 8, 8, 8, 8, 8, 8, 8, 8, 8, 8, 8, 8, 8, 8, 8, 8, 8, 8, 8, 8, 8, 8, 8]⟩) v28 fun v29 =>
 pConvInt .i64 v29 fun v30 =>
 pBin PP .add T.int v27 v30 fun v31 =>
 some (v31, H6))
 (pConvInt .u8 (l5.getD 0 undef) fun v32 =>
 pAtStr (.string ⟨#[0, 1, 2, 2, 3, 3, 3, 3, 4, 4, 4, 4, 4, 4, 4, 4, 5, 5, 5, 5, 5, 5, 5, 5, 5, 5, 5, 5, 5, 5, 5, 5, 6, 6, 6, 6, 6, 6, 6, 6, 6, 6, 6, 6, 6, 6, 6, 6, 6, 6, 6, 6, 6, 6, 6, 6, 6, 6, 6, 6, 6, 6, 6, 6, 7, 7, 7, 7, 7, 7, 7, 7, 7, 7, 7, 7, 7, 7, 7, 7, 7, 7, 7, 7, 7, 7, 7, 7, 7, 7, 7, 7, 7, 7, 7, 7, 7, 7, 7, 7, 7, 7, 7, 7, 7, 7, 7, 7, 7, 7, 7, 7, 7, 7, 7, 7, 7, 7, 7, 7, 7, 7, 7, 7, 7, 7, 7, 7, 8, 8, 8, 8, 8, 8, 8, 8, 8, 8, 8, 8, 8, 8, 8, 8, 8, 8, 8, 8, 8, 8, 8, 8, 8, 8, 8, 8, 8, 8, 8, 8, 8, 8, 8, 8, 8, 8, 8, 8, 8, 8, 8, 8, 8, 8, 8, 8, 8, 8, 8, 8, 8, 8, 8, 8, 8, 8, 8, 8, 8, 8, 8, 8, 8, 8, 8, 8, 8, 8, 8, 8, 8, 8, 8, 8, 8, 8, 8, 8, 8, 8, 8, 8, 8, 8, 8, 8, 8, 8, 8, 8, 8, 8, 8, 8, 8, 8, 8, 8, 8, 8, 8, 8, 8, 8, 8, 8, 8, 8, 8, 8, 8, 8, 8, 8, 8, 8, 8, 8, 8, 8, 8, 8, 8, 8, 8, 8]⟩) v32 fun v33 =>
 pConvInt .i64 v33 fun v34 =>
 pBin PP .add T.int (l5.getD 1 undef) v34 fun v35 =>
 some (v35, H6))))
 (fun i7 => none)
 (some ((l5.headD undef), H6))
theorem e_bits_Len64 (R : Handler) (x0 : Value) (H0 : Hp) : execF PP orc R F.bits_Len64 Go.Proofs.Tryd.f78 [x0] H0 = m_bits_Len64 R x0 H0 := by kernel_rfl
noncomputable def m_internal_strconv_bool2_int (R : Handler) (x0 : Value) (H0 : Hp) : Option (Value × Hp) :=
 pBool x0 fun b1 => br b1
 (some ((.int .i64 1), H0))
 (some ((.int .i64 0), H0))
theorem e_internal_strconv_bool2_int (R : Handler) (x0 : Value) (H0 : Hp) : execF PP orc R F.internal_strconv_bool2_int Go.Proofs.Tryd.f79 [x0] H0 = m_internal_strconv_bool2_int R x0 H0 := by kernel_rfl
noncomputable def m_internal_strconv_isPowerOfTwo (R : Handler) (x0 : Value) (H0 : Hp) : Option (Value × Hp) :=
 pBin PP .sub T.int x0 (.int .i64 1) fun v1 =>
 pBin PP .and T.int x0 v1 fun v2 =>
 pBin PP .eql T.int v2 (.int .i64 0) fun v3 =>
 some (v3, H0)
theorem e_internal_strconv_isPowerOfTwo (R : Handler) (x0 : Value) (H0 : Hp) : execF PP orc R F.internal_strconv_isPowerOfTwo Go.Proofs.Tryd.f80 [x0] H0 = m_internal_strconv_isPowerOfTwo R x0 H0 := by kernel_rfl
noncomputable def m_bits_TrailingZeros (R : Handler) (x0 : Value) (H0 : Hp) : Option (Value × Hp) :=
 pCallF R F.bits_TrailingZeros64 [x0] H0 fun r1 H2 =>
 some (r1, H2)
theorem e_bits_TrailingZeros (R : Handler) (x0 : Value) (H0 : Hp) : execF PP orc R F.bits_TrailingZeros Go.Proofs.Tryd.f81 [x0] H0 = m_bits_TrailingZeros R x0 H0 := by kernel_rfl
noncomputable def m_bits_TrailingZeros64 (R : Handler) (x0 : Value) (H0 : Hp) : Option (Value × Hp) :=
 pBin PP .eql T.uint64 x0 (.int .u64 0) fun v1 =>
 pBool v1 fun b2 => br b2
 (some ((.int .i64 64), H0))
 (pUn .neg x0 fun v3 =>
 pBin PP .and T.uint64 x0 v3 fun v4 =>
 pBin PP .mul T.uint64 v4 (.int .u64 285870213051353865) fun v5 =>
 pBin PP .shr T.uint64 v5 (.int .u64 58) fun v6 =>
 pIdxArr 64 1 (.pointer (some ⟨G.bits_deBruijn64tab, 0, none⟩)) v6 fun p7 =>
 pLoad 1 false H0 p7 fun v8 =>
 pConvInt .i64 v8 fun v9 =>
 some (v9, H0))
theorem e_bits_TrailingZeros64 (R : Handler) (x0 : Value) (H0 : Hp) : execF PP orc R F.bits_TrailingZeros64 Go.Proofs.Tryd.f85 [x0] H0 = m_bits_TrailingZeros64 R x0 H0 := by kernel_rfl
theorem r_cadencelaw07_TermDumps (E : FuncId → Option (List Value → Hp → Option (Value × Hp))) (h : E F.cadencelaw07_TermDumps = none) (x0 x1 x2 : Value) (H0 : Hp) : run PP orc E F.cadencelaw07_TermDumps [x0, x1, x2] H0 = m_cadencelaw07_TermDumps (run PP orc E) x0 x1 x2 H0 := (run_fn Go.Proofs.Tryd.func3 (by kernel_rfl) (by kernel_rfl) h _ _).trans (e_cadencelaw07_TermDumps _ x0 x1 x2 H0)
theorem r_cadencelaw07_Both (E : FuncId → Option (List Value → Hp → Option (Value × Hp))) (h : E F.cadencelaw07_Both = none) (x0 x1 : Value) (H0 : Hp) : run PP orc E F.cadencelaw07_Both [x0, x1] H0 = m_cadencelaw07_Both (run PP orc E) x0 x1 H0 := (run_fn Go.Proofs.Tryd.func4 (by kernel_rfl) (by kernel_rfl) h _ _).trans (e_cadencelaw07_Both _ x0 x1 H0)
theorem r_term_Store_Dump (E : FuncId → Option (List Value → Hp → Option (Value × Hp))) (h : E F.term_Store_Dump = none) (x0 x1 : Value) (H0 : Hp) : run PP orc E F.term_Store_Dump [x0, x1] H0 = m_term_Store_Dump (run PP orc E) x0 x1 H0 := (run_fn Go.Proofs.Tryd.func5 (by kernel_rfl) (by kernel_rfl) h _ _).trans (e_term_Store_Dump _ x0 x1 H0)
theorem r_cadenceref07_Store_Dump (E : FuncId → Option (List Value → Hp → Option (Value × Hp))) (h : E F.cadenceref07_Store_Dump = none) (x0 x1 : Value) (H0 : Hp) : run PP orc E F.cadenceref07_Store_Dump [x0, x1] H0 = m_cadenceref07_Store_Dump (run PP orc E) x0 x1 H0 := (run_fn Go.Proofs.Tryd.func6 (by kernel_rfl) (by kernel_rfl) h _ _).trans (e_cadenceref07_Store_Dump _ x0 x1 H0)
theorem r_term_New (E : FuncId → Option (List Value → Hp → Option (Value × Hp))) (h : E F.term_New = none) (x0 : Value) (H0 : Hp) : run PP orc E F.term_New [x0] H0 = m_term_New (run PP orc E) x0 H0 := (run_fn Go.Proofs.Tryd.func7 (by kernel_rfl) (by kernel_rfl) h _ _).trans (e_term_New _ x0 H0)
theorem r_cadenceref07_New (E : FuncId → Option (List Value → Hp → Option (Value × Hp))) (h : E F.cadenceref07_New = none) (x0 : Value) (H0 : Hp) : run PP orc E F.cadenceref07_New [x0] H0 = m_cadenceref07_New (run PP orc E) x0 H0 := (run_fn Go.Proofs.Tryd.func8 (by kernel_rfl) (by kernel_rfl) h _ _).trans (e_cadenceref07_New _ x0 H0)
theorem r_cadencelaw07_Ask (E : FuncId → Option (List Value → Hp → Option (Value × Hp))) (h : E F.cadencelaw07_Ask = none) (x0 x1 : Value) (H0 : Hp) : run PP orc E F.cadencelaw07_Ask [x0, x1] H0 = m_cadencelaw07_Ask (run PP orc E) x0 x1 H0 := (run_fn Go.Proofs.Tryd.func9 (by kernel_rfl) (by kernel_rfl) h _ _).trans (e_cadencelaw07_Ask _ x0 x1 H0)
theorem r_cadencelaw07_Also (E : FuncId → Option (List Value → Hp → Option (Value × Hp))) (h : E F.cadencelaw07_Also = none) (x0 x1 : Value) (H0 : Hp) : run PP orc E F.cadencelaw07_Also [x0, x1] H0 = m_cadencelaw07_Also (run PP orc E) x0 x1 H0 := (run_fn Go.Proofs.Tryd.func10 (by kernel_rfl) (by kernel_rfl) h _ _).trans (e_cadencelaw07_Also _ x0 x1 H0)
theorem r_term_Store_Order (E : FuncId → Option (List Value → Hp → Option (Value × Hp))) (h : E F.term_Store_Order = none) (x0 x1 : Value) (H0 : Hp) : run PP orc E F.term_Store_Order [x0, x1] H0 = m_term_Store_Order (run PP orc E) x0 x1 H0 := (run_fn Go.Proofs.Tryd.func11 (by kernel_rfl) (by kernel_rfl) h _ _).trans (e_term_Store_Order _ x0 x1 H0)
theorem r_term_Store_Dump_1 (E : FuncId → Option (List Value → Hp → Option (Value × Hp))) (h : E F.term_Store_Dump_1 = none) (x0 x1 : Value) (H0 : Hp) : run PP orc E F.term_Store_Dump_1 [x0, x1] H0 = m_term_Store_Dump_1 (run PP orc E) x0 x1 H0 := (run_fn Go.Proofs.Tryd.func12 (by kernel_rfl) (by kernel_rfl) h _ _).trans (e_term_Store_Dump_1 _ x0 x1 H0)
theorem r_strings_Builder_WriteString (E : FuncId → Option (List Value → Hp → Option (Value × Hp))) (h : E F.strings_Builder_WriteString = none) (x0 x1 : Value) (H0 : Hp) : run PP orc E F.strings_Builder_WriteString [x0, x1] H0 = m_strings_Builder_WriteString (run PP orc E) x0 x1 H0 := (run_fn Go.Proofs.Tryd.func13 (by kernel_rfl) (by kernel_rfl) h _ _).trans (e_strings_Builder_WriteString _ x0 x1 H0)
theorem r_strconv_Itoa (E : FuncId → Option (List Value → Hp → Option (Value × Hp))) (h : E F.strconv_Itoa = none) (x0 : Value) (H0 : Hp) : run PP orc E F.strconv_Itoa [x0] H0 = m_strconv_Itoa (run PP orc E) x0 H0 := (run_fn Go.Proofs.Tryd.func14 (by kernel_rfl) (by kernel_rfl) h _ _).trans (e_strconv_Itoa _ x0 H0)
theorem r_term_names (E : FuncId → Option (List Value → Hp → Option (Value × Hp))) (h : E F.term_names = none) (H0 : Hp) : run PP orc E F.term_names [] H0 = m_term_names (run PP orc E)  H0 := (run_fn Go.Proofs.Tryd.func15 (by kernel_rfl) (by kernel_rfl) h _ _).trans (e_term_names _  H0)
theorem r_bits_Text (E : FuncId → Option (List Value → Hp → Option (Value × Hp))) (h : E F.bits_Text = none) (x0 : Value) (H0 : Hp) : run PP orc E F.bits_Text [x0] H0 = m_bits_Text (run PP orc E) x0 H0 := (run_fn Go.Proofs.Tryd.func16 (by kernel_rfl) (by kernel_rfl) h _ _).trans (e_bits_Text _ x0 H0)
theorem r_term_parts (E : FuncId → Option (List Value → Hp → Option (Value × Hp))) (h : E F.term_parts = none) (x0 : Value) (H0 : Hp) : run PP orc E F.term_parts [x0] H0 = m_term_parts (run PP orc E) x0 H0 := (run_fn Go.Proofs.Tryd.func17 (by kernel_rfl) (by kernel_rfl) h _ _).trans (e_term_parts _ x0 H0)
theorem r_strings_Builder_WriteByte (E : FuncId → Option (List Value → Hp → Option (Value × Hp))) (h : E F.strings_Builder_WriteByte = none) (x0 x1 : Value) (H0 : Hp) : run PP orc E F.strings_Builder_WriteByte [x0, x1] H0 = m_strings_Builder_WriteByte (run PP orc E) x0 x1 H0 := (run_fn Go.Proofs.Tryd.func18 (by kernel_rfl) (by kernel_rfl) h _ _).trans (e_strings_Builder_WriteByte _ x0 x1 H0)
theorem r_strings_Builder_String (E : FuncId → Option (List Value → Hp → Option (Value × Hp))) (h : E F.strings_Builder_String = none) (x0 : Value) (H0 : Hp) : run PP orc E F.strings_Builder_String [x0] H0 = m_strings_Builder_String (run PP orc E) x0 H0 := (run_fn Go.Proofs.Tryd.func19 (by kernel_rfl) (by kernel_rfl) h _ _).trans (e_strings_Builder_String _ x0 H0)
theorem r_cadenceref07_Store_Order (E : FuncId → Option (List Value → Hp → Option (Value × Hp))) (h : E F.cadenceref07_Store_Order = none) (x0 x1 : Value) (H0 : Hp) : run PP orc E F.cadenceref07_Store_Order [x0, x1] H0 = m_cadenceref07_Store_Order (run PP orc E) x0 x1 H0 := (run_fn Go.Proofs.Tryd.func20 (by kernel_rfl) (by kernel_rfl) h _ _).trans (e_cadenceref07_Store_Order _ x0 x1 H0)
theorem r_cadenceref07_Word (E : FuncId → Option (List Value → Hp → Option (Value × Hp))) (h : E F.cadenceref07_Word = none) (x0 : Value) (H0 : Hp) : run PP orc E F.cadenceref07_Word [x0] H0 = m_cadenceref07_Word (run PP orc E) x0 H0 := (run_fn Go.Proofs.Tryd.func21 (by kernel_rfl) (by kernel_rfl) h _ _).trans (e_cadenceref07_Word _ x0 H0)
theorem r_cadenceref07_fields (E : FuncId → Option (List Value → Hp → Option (Value × Hp))) (h : E F.cadenceref07_fields = none) (x0 : Value) (H0 : Hp) : run PP orc E F.cadenceref07_fields [x0] H0 = m_cadenceref07_fields (run PP orc E) x0 H0 := (run_fn Go.Proofs.Tryd.func22 (by kernel_rfl) (by kernel_rfl) h _ _).trans (e_cadenceref07_fields _ x0 H0)
theorem r_cadenceref01_Text (E : FuncId → Option (List Value → Hp → Option (Value × Hp))) (h : E F.cadenceref01_Text = none) (x0 : Value) (H0 : Hp) : run PP orc E F.cadenceref01_Text [x0] H0 = m_cadenceref01_Text (run PP orc E) x0 H0 := (run_fn Go.Proofs.Tryd.func23 (by kernel_rfl) (by kernel_rfl) h _ _).trans (e_cadenceref01_Text _ x0 H0)
theorem r_term_Store_Make (E : FuncId → Option (List Value → Hp → Option (Value × Hp))) (h : E F.term_Store_Make = none) (x0 x1 : Value) (H0 : Hp) : run PP orc E F.term_Store_Make [x0, x1] H0 = m_term_Store_Make (run PP orc E) x0 x1 H0 := (run_fn Go.Proofs.Tryd.func24 (by kernel_rfl) (by kernel_rfl) h _ _).trans (e_term_Store_Make _ x0 x1 H0)
theorem r_term_Store_Truth (E : FuncId → Option (List Value → Hp → Option (Value × Hp))) (h : E F.term_Store_Truth = none) (x0 x1 : Value) (H0 : Hp) : run PP orc E F.term_Store_Truth [x0, x1] H0 = m_term_Store_Truth (run PP orc E) x0 x1 H0 := (run_fn Go.Proofs.Tryd.func25 (by kernel_rfl) (by kernel_rfl) h _ _).trans (e_term_Store_Truth _ x0 x1 H0)
theorem r_term_Store_Const (E : FuncId → Option (List Value → Hp → Option (Value × Hp))) (h : E F.term_Store_Const = none) (x0 x1 x2 : Value) (H0 : Hp) : run PP orc E F.term_Store_Const [x0, x1, x2] H0 = m_term_Store_Const (run PP orc E) x0 x1 x2 H0 := (run_fn Go.Proofs.Tryd.func26 (by kernel_rfl) (by kernel_rfl) h _ _).trans (e_term_Store_Const _ x0 x1 x2 H0)
theorem r_term_Store_Var (E : FuncId → Option (List Value → Hp → Option (Value × Hp))) (h : E F.term_Store_Var = none) (x0 x1 x2 : Value) (H0 : Hp) : run PP orc E F.term_Store_Var [x0, x1, x2] H0 = m_term_Store_Var (run PP orc E) x0 x1 x2 H0 := (run_fn Go.Proofs.Tryd.func27 (by kernel_rfl) (by kernel_rfl) h _ _).trans (e_term_Store_Var _ x0 x1 x2 H0)
theorem r_term_Store_Un (E : FuncId → Option (List Value → Hp → Option (Value × Hp))) (h : E F.term_Store_Un = none) (x0 x1 x2 : Value) (H0 : Hp) : run PP orc E F.term_Store_Un [x0, x1, x2] H0 = m_term_Store_Un (run PP orc E) x0 x1 x2 H0 := (run_fn Go.Proofs.Tryd.func28 (by kernel_rfl) (by kernel_rfl) h _ _).trans (e_term_Store_Un _ x0 x1 x2 H0)
theorem r_term_Store_Bin (E : FuncId → Option (List Value → Hp → Option (Value × Hp))) (h : E F.term_Store_Bin = none) (x0 x1 x2 x3 : Value) (H0 : Hp) : run PP orc E F.term_Store_Bin [x0, x1, x2, x3] H0 = m_term_Store_Bin (run PP orc E) x0 x1 x2 x3 H0 := (run_fn Go.Proofs.Tryd.func29 (by kernel_rfl) (by kernel_rfl) h _ _).trans (e_term_Store_Bin _ x0 x1 x2 x3 H0)
theorem r_term_Store_Ite (E : FuncId → Option (List Value → Hp → Option (Value × Hp))) (h : E F.term_Store_Ite = none) (x0 x1 x2 x3 : Value) (H0 : Hp) : run PP orc E F.term_Store_Ite [x0, x1, x2, x3] H0 = m_term_Store_Ite (run PP orc E) x0 x1 x2 x3 H0 := (run_fn Go.Proofs.Tryd.func30 (by kernel_rfl) (by kernel_rfl) h _ _).trans (e_term_Store_Ite _ x0 x1 x2 x3 H0)
theorem r_term_Store_Slice (E : FuncId → Option (List Value → Hp → Option (Value × Hp))) (h : E F.term_Store_Slice = none) (x0 x1 x2 x3 : Value) (H0 : Hp) : run PP orc E F.term_Store_Slice [x0, x1, x2, x3] H0 = m_term_Store_Slice (run PP orc E) x0 x1 x2 x3 H0 := (run_fn Go.Proofs.Tryd.func31 (by kernel_rfl) (by kernel_rfl) h _ _).trans (e_term_Store_Slice _ x0 x1 x2 x3 H0)
theorem r_term_Store_Ext (E : FuncId → Option (List Value → Hp → Option (Value × Hp))) (h : E F.term_Store_Ext = none) (x0 x1 x2 x3 : Value) (H0 : Hp) : run PP orc E F.term_Store_Ext [x0, x1, x2, x3] H0 = m_term_Store_Ext (run PP orc E) x0 x1 x2 x3 H0 := (run_fn Go.Proofs.Tryd.func32 (by kernel_rfl) (by kernel_rfl) h _ _).trans (e_term_Store_Ext _ x0 x1 x2 x3 H0)
theorem r_cadenceref07_Store_Make (E : FuncId → Option (List Value → Hp → Option (Value × Hp))) (h : E F.cadenceref07_Store_Make = none) (x0 x1 : Value) (H0 : Hp) : run PP orc E F.cadenceref07_Store_Make [x0, x1] H0 = m_cadenceref07_Store_Make (run PP orc E) x0 x1 H0 := (run_fn Go.Proofs.Tryd.func33 (by kernel_rfl) (by kernel_rfl) h _ _).trans (e_cadenceref07_Store_Make _ x0 x1 H0)
theorem r_cadenceref07_Store_Truth (E : FuncId → Option (List Value → Hp → Option (Value × Hp))) (h : E F.cadenceref07_Store_Truth = none) (x0 x1 : Value) (H0 : Hp) : run PP orc E F.cadenceref07_Store_Truth [x0, x1] H0 = m_cadenceref07_Store_Truth (run PP orc E) x0 x1 H0 := (run_fn Go.Proofs.Tryd.func34 (by kernel_rfl) (by kernel_rfl) h _ _).trans (e_cadenceref07_Store_Truth _ x0 x1 H0)
theorem r_cadenceref07_Store_Const (E : FuncId → Option (List Value → Hp → Option (Value × Hp))) (h : E F.cadenceref07_Store_Const = none) (x0 x1 x2 : Value) (H0 : Hp) : run PP orc E F.cadenceref07_Store_Const [x0, x1, x2] H0 = m_cadenceref07_Store_Const (run PP orc E) x0 x1 x2 H0 := (run_fn Go.Proofs.Tryd.func35 (by kernel_rfl) (by kernel_rfl) h _ _).trans (e_cadenceref07_Store_Const _ x0 x1 x2 H0)
theorem r_cadenceref07_Store_Var (E : FuncId → Option (List Value → Hp → Option (Value × Hp))) (h : E F.cadenceref07_Store_Var = none) (x0 x1 x2 : Value) (H0 : Hp) : run PP orc E F.cadenceref07_Store_Var [x0, x1, x2] H0 = m_cadenceref07_Store_Var (run PP orc E) x0 x1 x2 H0 := (run_fn Go.Proofs.Tryd.func36 (by kernel_rfl) (by kernel_rfl) h _ _).trans (e_cadenceref07_Store_Var _ x0 x1 x2 H0)
theorem r_cadenceref07_Store_Un (E : FuncId → Option (List Value → Hp → Option (Value × Hp))) (h : E F.cadenceref07_Store_Un = none) (x0 x1 x2 : Value) (H0 : Hp) : run PP orc E F.cadenceref07_Store_Un [x0, x1, x2] H0 = m_cadenceref07_Store_Un (run PP orc E) x0 x1 x2 H0 := (run_fn Go.Proofs.Tryd.func37 (by kernel_rfl) (by kernel_rfl) h _ _).trans (e_cadenceref07_Store_Un _ x0 x1 x2 H0)
theorem r_cadenceref07_Store_Bin (E : FuncId → Option (List Value → Hp → Option (Value × Hp))) (h : E F.cadenceref07_Store_Bin = none) (x0 x1 x2 x3 : Value) (H0 : Hp) : run PP orc E F.cadenceref07_Store_Bin [x0, x1, x2, x3] H0 = m_cadenceref07_Store_Bin (run PP orc E) x0 x1 x2 x3 H0 := (run_fn Go.Proofs.Tryd.func38 (by kernel_rfl) (by kernel_rfl) h _ _).trans (e_cadenceref07_Store_Bin _ x0 x1 x2 x3 H0)
theorem r_cadenceref07_Store_Ite (E : FuncId → Option (List Value → Hp → Option (Value × Hp))) (h : E F.cadenceref07_Store_Ite = none) (x0 x1 x2 x3 : Value) (H0 : Hp) : run PP orc E F.cadenceref07_Store_Ite [x0, x1, x2, x3] H0 = m_cadenceref07_Store_Ite (run PP orc E) x0 x1 x2 x3 H0 := (run_fn Go.Proofs.Tryd.func39 (by kernel_rfl) (by kernel_rfl) h _ _).trans (e_cadenceref07_Store_Ite _ x0 x1 x2 x3 H0)
theorem r_cadenceref07_Store_Slice (E : FuncId → Option (List Value → Hp → Option (Value × Hp))) (h : E F.cadenceref07_Store_Slice = none) (x0 x1 x2 x3 : Value) (H0 : Hp) : run PP orc E F.cadenceref07_Store_Slice [x0, x1, x2, x3] H0 = m_cadenceref07_Store_Slice (run PP orc E) x0 x1 x2 x3 H0 := (run_fn Go.Proofs.Tryd.func40 (by kernel_rfl) (by kernel_rfl) h _ _).trans (e_cadenceref07_Store_Slice _ x0 x1 x2 x3 H0)
theorem r_cadenceref07_Store_Ext (E : FuncId → Option (List Value → Hp → Option (Value × Hp))) (h : E F.cadenceref07_Store_Ext = none) (x0 x1 x2 x3 : Value) (H0 : Hp) : run PP orc E F.cadenceref07_Store_Ext [x0, x1, x2, x3] H0 = m_cadenceref07_Store_Ext (run PP orc E) x0 x1 x2 x3 H0 := (run_fn Go.Proofs.Tryd.func41 (by kernel_rfl) (by kernel_rfl) h _ _).trans (e_cadenceref07_Store_Ext _ x0 x1 x2 x3 H0)
theorem r_term_Store_is (E : FuncId → Option (List Value → Hp → Option (Value × Hp))) (h : E F.term_Store_is = none) (x0 x1 : Value) (H0 : Hp) : run PP orc E F.term_Store_is [x0, x1] H0 = m_term_Store_is (run PP orc E) x0 x1 H0 := (run_fn Go.Proofs.Tryd.func42 (by kernel_rfl) (by kernel_rfl) h _ _).trans (e_term_Store_is _ x0 x1 H0)
theorem r_strings_Builder_copyCheck (E : FuncId → Option (List Value → Hp → Option (Value × Hp))) (h : E F.strings_Builder_copyCheck = none) (x0 : Value) (H0 : Hp) : run PP orc E F.strings_Builder_copyCheck [x0] H0 = m_strings_Builder_copyCheck (run PP orc E) x0 H0 := (run_fn Go.Proofs.Tryd.func43 (by kernel_rfl) (by kernel_rfl) h _ _).trans (e_strings_Builder_copyCheck _ x0 H0)
theorem r_internal_strconv_Itoa (E : FuncId → Option (List Value → Hp → Option (Value × Hp))) (h : E F.internal_strconv_Itoa = none) (x0 : Value) (H0 : Hp) : run PP orc E F.internal_strconv_Itoa [x0] H0 = m_internal_strconv_Itoa (run PP orc E) x0 H0 := (run_fn Go.Proofs.Tryd.func44 (by kernel_rfl) (by kernel_rfl) h _ _).trans (e_internal_strconv_Itoa _ x0 H0)
theorem r_strings_Fields (E : FuncId → Option (List Value → Hp → Option (Value × Hp))) (h : E F.strings_Fields = none) (x0 : Value) (H0 : Hp) : run PP orc E F.strings_Fields [x0] H0 = m_strings_Fields (run PP orc E) x0 H0 := (run_fn Go.Proofs.Tryd.func45 (by kernel_rfl) (by kernel_rfl) h _ _).trans (e_strings_Fields _ x0 H0)
theorem r_strconv_FormatUint (E : FuncId → Option (List Value → Hp → Option (Value × Hp))) (h : E F.strconv_FormatUint = none) (x0 x1 : Value) (H0 : Hp) : run PP orc E F.strconv_FormatUint [x0, x1] H0 = m_strconv_FormatUint (run PP orc E) x0 x1 H0 := (run_fn Go.Proofs.Tryd.func46 (by kernel_rfl) (by kernel_rfl) h _ _).trans (e_strconv_FormatUint _ x0 x1 H0)
theorem r_cadenceref07_Store_is (E : FuncId → Option (List Value → Hp → Option (Value × Hp))) (h : E F.cadenceref07_Store_is = none) (x0 x1 : Value) (H0 : Hp) : run PP orc E F.cadenceref07_Store_is [x0, x1] H0 = m_cadenceref07_Store_is (run PP orc E) x0 x1 H0 := (run_fn Go.Proofs.Tryd.func47 (by kernel_rfl) (by kernel_rfl) h _ _).trans (e_cadenceref07_Store_is _ x0 x1 H0)
theorem r_cadenceref07_Parts (E : FuncId → Option (List Value → Hp → Option (Value × Hp))) (h : E F.cadenceref07_Parts = none) (x0 : Value) (H0 : Hp) : run PP orc E F.cadenceref07_Parts [x0] H0 = m_cadenceref07_Parts (run PP orc E) x0 H0 := (run_fn Go.Proofs.Tryd.func48 (by kernel_rfl) (by kernel_rfl) h _ _).trans (e_cadenceref07_Parts _ x0 H0)
theorem r_term_spare (E : FuncId → Option (List Value → Hp → Option (Value × Hp))) (h : E F.term_spare = none) (x0 : Value) (H0 : Hp) : run PP orc E F.term_spare [x0] H0 = m_term_spare (run PP orc E) x0 H0 := (run_fn Go.Proofs.Tryd.func49 (by kernel_rfl) (by kernel_rfl) h _ _).trans (e_term_spare _ x0 H0)
theorem r_term_Store_sorted (E : FuncId → Option (List Value → Hp → Option (Value × Hp))) (h : E F.term_Store_sorted = none) (x0 x1 : Value) (H0 : Hp) : run PP orc E F.term_Store_sorted [x0, x1] H0 = m_term_Store_sorted (run PP orc E) x0 x1 H0 := (run_fn Go.Proofs.Tryd.func50 (by kernel_rfl) (by kernel_rfl) h _ _).trans (e_term_Store_sorted _ x0 x1 H0)
theorem r_term_Store_wide (E : FuncId → Option (List Value → Hp → Option (Value × Hp))) (h : E F.term_Store_wide = none) (x0 x1 : Value) (H0 : Hp) : run PP orc E F.term_Store_wide [x0, x1] H0 = m_term_Store_wide (run PP orc E) x0 x1 H0 := (run_fn Go.Proofs.Tryd.func51 (by kernel_rfl) (by kernel_rfl) h _ _).trans (e_term_Store_wide _ x0 x1 H0)
theorem r_bits_Name (E : FuncId → Option (List Value → Hp → Option (Value × Hp))) (h : E F.bits_Name = none) (x0 : Value) (H0 : Hp) : run PP orc E F.bits_Name [x0] H0 = m_bits_Name (run PP orc E) x0 H0 := (run_fn Go.Proofs.Tryd.func52 (by kernel_rfl) (by kernel_rfl) h _ _).trans (e_bits_Name _ x0 H0)
theorem r_bits_Trim (E : FuncId → Option (List Value → Hp → Option (Value × Hp))) (h : E F.bits_Trim = none) (x0 x1 : Value) (H0 : Hp) : run PP orc E F.bits_Trim [x0, x1] H0 = m_bits_Trim (run PP orc E) x0 x1 H0 := (run_fn Go.Proofs.Tryd.func53 (by kernel_rfl) (by kernel_rfl) h _ _).trans (e_bits_Trim _ x0 x1 H0)
theorem r_term_Store_w (E : FuncId → Option (List Value → Hp → Option (Value × Hp))) (h : E F.term_Store_w = none) (x0 x1 : Value) (H0 : Hp) : run PP orc E F.term_Store_w [x0, x1] H0 = m_term_Store_w (run PP orc E) x0 x1 H0 := (run_fn Go.Proofs.Tryd.func54 (by kernel_rfl) (by kernel_rfl) h _ _).trans (e_term_Store_w _ x0 x1 H0)
theorem r_cadenceref07_extra (E : FuncId → Option (List Value → Hp → Option (Value × Hp))) (h : E F.cadenceref07_extra = none) (x0 x1 : Value) (H0 : Hp) : run PP orc E F.cadenceref07_extra [x0, x1] H0 = m_cadenceref07_extra (run PP orc E) x0 x1 H0 := (run_fn Go.Proofs.Tryd.func55 (by kernel_rfl) (by kernel_rfl) h _ _).trans (e_cadenceref07_extra _ x0 x1 H0)
theorem r_cadenceref07_Store_sorts (E : FuncId → Option (List Value → Hp → Option (Value × Hp))) (h : E F.cadenceref07_Store_sorts = none) (x0 x1 : Value) (H0 : Hp) : run PP orc E F.cadenceref07_Store_sorts [x0, x1] H0 = m_cadenceref07_Store_sorts (run PP orc E) x0 x1 H0 := (run_fn Go.Proofs.Tryd.func56 (by kernel_rfl) (by kernel_rfl) h _ _).trans (e_cadenceref07_Store_sorts _ x0 x1 H0)
theorem r_cadenceref07_Store_width (E : FuncId → Option (List Value → Hp → Option (Value × Hp))) (h : E F.cadenceref07_Store_width = none) (x0 x1 : Value) (H0 : Hp) : run PP orc E F.cadenceref07_Store_width [x0, x1] H0 = m_cadenceref07_Store_width (run PP orc E) x0 x1 H0 := (run_fn Go.Proofs.Tryd.func57 (by kernel_rfl) (by kernel_rfl) h _ _).trans (e_cadenceref07_Store_width _ x0 x1 H0)
theorem r_cadenceref01_Name (E : FuncId → Option (List Value → Hp → Option (Value × Hp))) (h : E F.cadenceref01_Name = none) (x0 : Value) (H0 : Hp) : run PP orc E F.cadenceref01_Name [x0] H0 = m_cadenceref01_Name (run PP orc E) x0 H0 := (run_fn Go.Proofs.Tryd.func58 (by kernel_rfl) (by kernel_rfl) h _ _).trans (e_cadenceref01_Name _ x0 H0)
theorem r_cadenceref01_Trim (E : FuncId → Option (List Value → Hp → Option (Value × Hp))) (h : E F.cadenceref01_Trim = none) (x0 x1 : Value) (H0 : Hp) : run PP orc E F.cadenceref01_Trim [x0, x1] H0 = m_cadenceref01_Trim (run PP orc E) x0 x1 H0 := (run_fn Go.Proofs.Tryd.func59 (by kernel_rfl) (by kernel_rfl) h _ _).trans (e_cadenceref01_Trim _ x0 x1 H0)
theorem r_cadenceref07_Store_wide (E : FuncId → Option (List Value → Hp → Option (Value × Hp))) (h : E F.cadenceref07_Store_wide = none) (x0 x1 : Value) (H0 : Hp) : run PP orc E F.cadenceref07_Store_wide [x0, x1] H0 = m_cadenceref07_Store_wide (run PP orc E) x0 x1 H0 := (run_fn Go.Proofs.Tryd.func60 (by kernel_rfl) (by kernel_rfl) h _ _).trans (e_cadenceref07_Store_wide _ x0 x1 H0)
theorem r_internal_strconv_FormatInt (E : FuncId → Option (List Value → Hp → Option (Value × Hp))) (h : E F.internal_strconv_FormatInt = none) (x0 x1 : Value) (H0 : Hp) : run PP orc E F.internal_strconv_FormatInt [x0, x1] H0 = m_internal_strconv_FormatInt (run PP orc E) x0 x1 H0 := (run_fn Go.Proofs.Tryd.func62 (by kernel_rfl) (by kernel_rfl) h _ _).trans (e_internal_strconv_FormatInt _ x0 x1 H0)
theorem r_strings_FieldsFunc (E : FuncId → Option (List Value → Hp → Option (Value × Hp))) (h : E F.strings_FieldsFunc = none) (x0 x1 : Value) (H0 : Hp) : run PP orc E F.strings_FieldsFunc [x0, x1] H0 = m_strings_FieldsFunc (run PP orc E) x0 x1 H0 := (run_fn Go.Proofs.Tryd.func63 (by kernel_rfl) (by kernel_rfl) h _ _).trans (e_strings_FieldsFunc _ x0 x1 H0)
theorem r_internal_strconv_FormatUint (E : FuncId → Option (List Value → Hp → Option (Value × Hp))) (h : E F.internal_strconv_FormatUint = none) (x0 x1 : Value) (H0 : Hp) : run PP orc E F.internal_strconv_FormatUint [x0, x1] H0 = m_internal_strconv_FormatUint (run PP orc E) x0 x1 H0 := (run_fn Go.Proofs.Tryd.func65 (by kernel_rfl) (by kernel_rfl) h _ _).trans (e_internal_strconv_FormatUint _ x0 x1 H0)
theorem r_bits_OnesCount (E : FuncId → Option (List Value → Hp → Option (Value × Hp))) (h : E F.bits_OnesCount = none) (x0 : Value) (H0 : Hp) : run PP orc E F.bits_OnesCount [x0] H0 = m_bits_OnesCount (run PP orc E) x0 H0 := (run_fn Go.Proofs.Tryd.func66 (by kernel_rfl) (by kernel_rfl) h _ _).trans (e_bits_OnesCount _ x0 H0)
theorem r_cadenceref07_Store_W (E : FuncId → Option (List Value → Hp → Option (Value × Hp))) (h : E F.cadenceref07_Store_W = none) (x0 x1 : Value) (H0 : Hp) : run PP orc E F.cadenceref07_Store_W [x0, x1] H0 = m_cadenceref07_Store_W (run PP orc E) x0 x1 H0 := (run_fn Go.Proofs.Tryd.func67 (by kernel_rfl) (by kernel_rfl) h _ _).trans (e_cadenceref07_Store_W _ x0 x1 H0)
theorem r_cadenceref01_Shifts (E : FuncId → Option (List Value → Hp → Option (Value × Hp))) (h : E F.cadenceref01_Shifts = none) (x0 : Value) (H0 : Hp) : run PP orc E F.cadenceref01_Shifts [x0] H0 = m_cadenceref01_Shifts (run PP orc E) x0 H0 := (run_fn Go.Proofs.Tryd.func68 (by kernel_rfl) (by kernel_rfl) h _ _).trans (e_cadenceref01_Shifts _ x0 H0)
theorem r_cadenceref01_Letter (E : FuncId → Option (List Value → Hp → Option (Value × Hp))) (h : E F.cadenceref01_Letter = none) (x0 : Value) (H0 : Hp) : run PP orc E F.cadenceref01_Letter [x0] H0 = m_cadenceref01_Letter (run PP orc E) x0 H0 := (run_fn Go.Proofs.Tryd.func69 (by kernel_rfl) (by kernel_rfl) h _ _).trans (e_cadenceref01_Letter _ x0 H0)
theorem r_internal_strconv_small (E : FuncId → Option (List Value → Hp → Option (Value × Hp))) (h : E F.internal_strconv_small = none) (x0 : Value) (H0 : Hp) : run PP orc E F.internal_strconv_small [x0] H0 = m_internal_strconv_small (run PP orc E) x0 H0 := (run_fn Go.Proofs.Tryd.func70 (by kernel_rfl) (by kernel_rfl) h _ _).trans (e_internal_strconv_small _ x0 H0)
theorem r_internal_strconv_numDigits (E : FuncId → Option (List Value → Hp → Option (Value × Hp))) (h : E F.internal_strconv_numDigits = none) (x0 : Value) (H0 : Hp) : run PP orc E F.internal_strconv_numDigits [x0] H0 = m_internal_strconv_numDigits (run PP orc E) x0 H0 := (run_fn Go.Proofs.Tryd.func71 (by kernel_rfl) (by kernel_rfl) h _ _).trans (e_internal_strconv_numDigits _ x0 H0)
theorem r_internal_strconv_formatBase10 (E : FuncId → Option (List Value → Hp → Option (Value × Hp))) (h : E F.internal_strconv_formatBase10 = none) (x0 x1 : Value) (H0 : Hp) : run PP orc E F.internal_strconv_formatBase10 [x0, x1] H0 = m_internal_strconv_formatBase10 (run PP orc E) x0 x1 H0 := (run_fn Go.Proofs.Tryd.func72 (by kernel_rfl) (by kernel_rfl) h _ _).trans (e_internal_strconv_formatBase10 _ x0 x1 H0)
theorem r_internal_strconv_formatBits (E : FuncId → Option (List Value → Hp → Option (Value × Hp))) (h : E F.internal_strconv_formatBits = none) (x0 x1 x2 x3 x4 : Value) (H0 : Hp) : run PP orc E F.internal_strconv_formatBits [x0, x1, x2, x3, x4] H0 = m_internal_strconv_formatBits (run PP orc E) x0 x1 x2 x3 x4 H0 := (run_fn Go.Proofs.Tryd.func73 (by kernel_rfl) (by kernel_rfl) h _ _).trans (e_internal_strconv_formatBits _ x0 x1 x2 x3 x4 H0)
theorem r_bits_OnesCount64 (E : FuncId → Option (List Value → Hp → Option (Value × Hp))) (h : E F.bits_OnesCount64 = none) (x0 : Value) (H0 : Hp) : run PP orc E F.bits_OnesCount64 [x0] H0 = m_bits_OnesCount64 (run PP orc E) x0 H0 := (run_fn Go.Proofs.Tryd.func76 (by kernel_rfl) (by kernel_rfl) h _ _).trans (e_bits_OnesCount64 _ x0 H0)
theorem r_internal_strconv_log10Pow2 (E : FuncId → Option (List Value → Hp → Option (Value × Hp))) (h : E F.internal_strconv_log10Pow2 = none) (x0 : Value) (H0 : Hp) : run PP orc E F.internal_strconv_log10Pow2 [x0] H0 = m_internal_strconv_log10Pow2 (run PP orc E) x0 H0 := (run_fn Go.Proofs.Tryd.func77 (by kernel_rfl) (by kernel_rfl) h _ _).trans (e_internal_strconv_log10Pow2 _ x0 H0)
theorem r_bits_Len64 (E : FuncId → Option (List Value → Hp → Option (Value × Hp))) (h : E F.bits_Len64 = none) (x0 : Value) (H0 : Hp) : run PP orc E F.bits_Len64 [x0] H0 = m_bits_Len64 (run PP orc E) x0 H0 := (run_fn Go.Proofs.Tryd.func78 (by kernel_rfl) (by kernel_rfl) h _ _).trans (e_bits_Len64 _ x0 H0)
theorem r_internal_strconv_bool2_int (E : FuncId → Option (List Value → Hp → Option (Value × Hp))) (h : E F.internal_strconv_bool2_int = none) (x0 : Value) (H0 : Hp) : run PP orc E F.internal_strconv_bool2_int [x0] H0 = m_internal_strconv_bool2_int (run PP orc E) x0 H0 := (run_fn Go.Proofs.Tryd.func79 (by kernel_rfl) (by kernel_rfl) h _ _).trans (e_internal_strconv_bool2_int _ x0 H0)
theorem r_internal_strconv_isPowerOfTwo (E : FuncId → Option (List Value → Hp → Option (Value × Hp))) (h : E F.internal_strconv_isPowerOfTwo = none) (x0 : Value) (H0 : Hp) : run PP orc E F.internal_strconv_isPowerOfTwo [x0] H0 = m_internal_strconv_isPowerOfTwo (run PP orc E) x0 H0 := (run_fn Go.Proofs.Tryd.func80 (by kernel_rfl) (by kernel_rfl) h _ _).trans (e_internal_strconv_isPowerOfTwo _ x0 H0)
theorem r_bits_TrailingZeros (E : FuncId → Option (List Value → Hp → Option (Value × Hp))) (h : E F.bits_TrailingZeros = none) (x0 : Value) (H0 : Hp) : run PP orc E F.bits_TrailingZeros [x0] H0 = m_bits_TrailingZeros (run PP orc E) x0 H0 := (run_fn Go.Proofs.Tryd.func81 (by kernel_rfl) (by kernel_rfl) h _ _).trans (e_bits_TrailingZeros _ x0 H0)
theorem r_bits_TrailingZeros64 (E : FuncId → Option (List Value → Hp → Option (Value × Hp))) (h : E F.bits_TrailingZeros64 = none) (x0 : Value) (H0 : Hp) : run PP orc E F.bits_TrailingZeros64 [x0] H0 = m_bits_TrailingZeros64 (run PP orc E) x0 H0 := (run_fn Go.Proofs.Tryd.func85 (by kernel_rfl) (by kernel_rfl) h _ _).trans (e_bits_TrailingZeros64 _ x0 H0)
end Go.AM
