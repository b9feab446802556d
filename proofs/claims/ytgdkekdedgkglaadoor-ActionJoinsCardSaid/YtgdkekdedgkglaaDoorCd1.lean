/- A deterministic heap for the model, proved sound, and walks of the program over it: part 6. No condition. -/
import Derived.Test.YtgdkekdedgkglaaDoorAb1
import Derived.Test.YtgdkekdedgkglaaDoorAb2
import Derived.Test.YtgdkekdedgkglaaDoorAb3
import Derived.Test.YtgdkekdedgkglaaDoorAb4
import Derived.Test.YtgdkekdedgkglaaDoorProg
import Derived.Test.YtgdkekdedgkglaaDoorAb5
set_option linter.unusedVariables false
set_option linter.unusedSimpArgs false
set_option linter.unusedSectionVars false
section
/- Names of functions and types. -/
namespace Go.Proofs.YtgdkekdedgkglaaDoor
open Go.Abs
noncomputable abbrev P : Program := Tryd.prog
def f_brickyardlaw20_SchedTurns : Nat := 3
def f_brickyardlaw13_ActionParses : Nat := 4
def f_brickyardlaw13_ActionNames : Nat := 5
def f_brickyardlaw13_ActionSame : Nat := 6
def f_brickyardlaw13_ActionCut : Nat := 7
def f_brickyardlaw13_ActionJoins : Nat := 8
def f_brickyardlaw13_ActionPrints : Nat := 9
def f_brickyardlaw13_ActionBack : Nat := 11
def f_brickyardlaw20_works : Nat := 12
def f_sched_New : Nat := 13
def f_brickyardlaw20_name : Nat := 14
def f_p_sched_Sched_Want : Nat := 15
def f_p_sched_Sched_Over : Nat := 16
def f_p_sched_Sched_Fill : Nat := 17
def f_p_sched_Sched_Pick : Nat := 18
def f_p_sched_Sched_Done : Nat := 19
def f_p_sched_Sched_Starts : Nat := 20
def f_slices_Equal_sl_string_string : Nat := 21
def f_brickyardlaw13_works : Nat := 22
def f_brickyardlaw13_wide : Nat := 23
def f_action_Parse : Nat := 24
def f_brickyardref13_Parse : Nat := 25
def f_brickyardref13_Same : Nat := 26
def f_action_Deep : Nat := 27
def f_brickyardlaw13_great : Nat := 28
def f_action_Same : Nat := 29
def f_action_May : Nat := 30
def f_action_Lines : Nat := 31
def f_action_Size : Nat := 32
def f_brickyardref13_Digits : Nat := 33
def f_brickyardref13_Lines : Nat := 34
def f_action_Print : Nat := 35
def f_brickyardref13_Print : Nat := 36
def f_brickyardref13_May : Nat := 37
def f_brickyardref13_Size : Nat := 38
def f_brickyardref13_Deep : Nat := 39
def f_brickyardref13_Alike : Nat := 40
def f_p_sched_Sched_Stuck : Nat := 43
def f_p_sched_Sched_State : Nat := 44
def f_strconv_Atoi : Nat := 45
def f_p_sched_Sched_Wait : Nat := 46
def f_slices_Contains_sl_string_string : Nat := 47
def f_p_sched_Sched_Slots : Nat := 48
def f_lex_Lines : Nat := 49
def f_p_sched_Sched_Queue : Nat := 50
def f_strconv_Itoa : Nat := 51
def f_p_sched_Sched_ready : Nat := 52
def f_p_sched_Sched_live : Nat := 53
def f_p_sched_Sched_turn : Nat := 54
def f_p_sched_Sched_Pick_fn1 : Nat := 55
def f_p_sched_Sched_leave : Nat := 56
def f_slices_DeleteFunc_sl_string_string : Nat := 57
def f_p_sched_Sched_Done_fn1 : Nat := 58
def f_action_Parse_fn1 : Nat := 59
def f_action_Parse_fn2 : Nat := 60
def f_action_stmt : Nat := 61
def f_action_opens : Nat := 62
def f_brickyardref13_Check : Nat := 63
def f_brickyardref13_Until : Nat := 64
def f_brickyardlaw13_weight : Nat := 65
def f_slices_EqualFunc_sl_api_Stmt_sl_api_Stmt_api_Stmt_api_Stmt : Nat := 66
def f_action_Same_fn1 : Nat := 67
def f_action_right : Nat := 68
def f_action_lines : Nat := 69
def f_brickyardref13_all : Nat := 70
def f_p_strings_Builder_WriteByte : Nat := 71
def f_p_strings_Builder_WriteString : Nat := 72
def f_lex_Show : Nat := 73
def f_p_strings_Builder_String : Nat := 74
def f_brickyardref11_Show : Nat := 75
def f_brickyardref13_one : Nat := 76
def f_brickyardref13_Opens : Nat := 77
def f_strconv_Atoi_78 : Nat := 78
def f_strconv_toError : Nat := 79
def f_p_sched_Sched_circle : Nat := 80
def f_slices_Index_sl_string_string : Nat := 81
def f_slices_Clone_sl_string_string : Nat := 82
def f_lex_Lines_fn1 : Nat := 83
def f_p_lex_reader_lines : Nat := 84
def f_strconv_Itoa_85 : Nat := 85
def f_slices_IndexFunc_sl_string_string : Nat := 86
def f_action_word : Nat := 87
def f_action_number : Nat := 88
def f_action_fits : Nat := 89
def f_brickyardref13_Stmt : Nat := 90
def f_brickyardref13_Word : Nat := 91
def f_p_strings_Builder_copyCheck : Nat := 92
def f_lex_Plain : Nat := 93
def f_lex_Quote : Nat := 94
def f_brickyardref11_Plain : Nat := 95
def f_brickyardref11_Quote : Nat := 96
def f_brickyardref13_Args : Nat := 97
def f_strconv_ParseInt : Nat := 98
def f_strconv_syntaxError : Nat := 99
def f_strconv_rangeError : Nat := 100
def f_strconv_baseError : Nat := 101
def f_strconv_bitSizeError : Nat := 102
def f_slices_Min_sl_string_string : Nat := 103
def f_slices_Concat_sl_string_string : Nat := 104
def f_p_lex_reader_lines_fn1 : Nat := 105
def f_p_lex_reader_peek : Nat := 106
def f_p_lex_reader_next : Nat := 107
def f_lex_bare : Nat := 108
def f_p_lex_reader_quoted : Nat := 109
def f_strconv_FormatInt : Nat := 110
def f_brickyardref13_Number : Nat := 111
def f_brickyardref11_Bare : Nat := 113
def f_strconv_ParseUint : Nat := 114
def f_stringslite_Clone : Nat := 115
def f_errors_New : Nat := 116
def f_slices_Grow_sl_string_string : Nat := 117
def f_strings_HasPrefix : Nat := 118
def f_strings_IndexByte : Nat := 119
def f_strconv_small : Nat := 120
def f_strconv_numDigits : Nat := 121
def f_strconv_formatBase10 : Nat := 122
def f_strconv_formatBits : Nat := 123
def f_strconv_lower : Nat := 124
def f_strconv_underscoreOK : Nat := 125
def f_stringslite_HasPrefix : Nat := 126
def f_stringslite_IndexByte : Nat := 127
def f_strconv_log10Pow2 : Nat := 128
def f_math_bits_Len64 : Nat := 129
def f_strconv_bool2_int : Nat := 130
def f_strconv_isPowerOfTwo : Nat := 131
def f_math_bits_TrailingZeros : Nat := 132
def f_bytealg_IndexByteString : Nat := 133
def f_math_bits_TrailingZeros32 : Nat := 134
def f_math_bits_TrailingZeros64 : Nat := 135
def ty_int : Nat := 3
def ty_bool : Nat := 4
def ty_uint8 : Nat := 5
def ty_string : Nat := 9
def ty_sl_string : Nat := 26
def ty_sl_sl_string : Nat := 37
def ty_sl_api_Stmt : Nat := 39
def ty_api_Stmt : Nat := 46
def ty_error : Nat := 60
def ty_sl_api_Line : Nat := 67
def ty_sl_api_Word : Nat := 70
def ty_api_Line : Nat := 72
def ty_api_Word : Nat := 74
def ty_map_string_p_sched_task : Nat := 75
def ty_p_sched_task : Nat := 79
def ty_sched_task : Nat := 81
def ty_sl_uint8 : Nat := 101
def ty_strconv_Error : Nat := 122
def ty_p_strconv_NumError : Nat := 125
def ty_strconv_NumError : Nat := 142
def ty_24_uint8 : Nat := 147
def ty_p_errors_errorString : Nat := 153
def ty_errors_errorString : Nat := 155
def ty_65_uint8 : Nat := 159
theorem ti_ty_int : tiOf P ty_int = some (TI.mk (TypeDesc.int IntKind.i64) false 1 8 (some (Value.int IntKind.i64 (Int.ofNat 0)))) := by kernel_rfl
theorem ti_ty_bool : tiOf P ty_bool = some (TI.mk TypeDesc.bool false 1 1 (some (Value.bool false))) := by kernel_rfl
theorem ti_ty_uint8 : tiOf P ty_uint8 = some (TI.mk (TypeDesc.int IntKind.u8) false 1 1 (some (Value.int IntKind.u8 (Int.ofNat 0)))) := by kernel_rfl
theorem ti_ty_string : tiOf P ty_string = some (TI.mk TypeDesc.string false 1 16 (some (Value.string (ByteArray.mk (Array.mk []))))) := by kernel_rfl
theorem ti_ty_sl_string : tiOf P ty_sl_string = some (TI.mk (TypeDesc.slice ty_string) false 1 24 (some (Value.slice none 0 0))) := by kernel_rfl
theorem ti_ty_sl_sl_string : tiOf P ty_sl_sl_string = some (TI.mk (TypeDesc.slice ty_sl_string) false 1 24 (some (Value.slice none 0 0))) := by kernel_rfl
theorem ti_ty_sl_api_Stmt : tiOf P ty_sl_api_Stmt = some (TI.mk (TypeDesc.slice ty_api_Stmt) false 1 24 (some (Value.slice none 0 0))) := by kernel_rfl
theorem ti_ty_api_Stmt : tiOf P ty_api_Stmt = some (TI.mk (TypeDesc.struct (Array.mk [Field.mk "Op" ty_int 0 false "" "" 0, Field.mk "Args" ty_sl_string 1 false "" "" 8, Field.mk "N" ty_int 2 false "" "" 32, Field.mk "Body" ty_sl_api_Stmt 3 false "" "" 40])) true 4 64 (some (Value.agg (Array.mk [Value.int IntKind.i64 (Int.ofNat 0), Value.slice none 0 0, Value.int IntKind.i64 (Int.ofNat 0), Value.slice none 0 0])))) := by kernel_rfl
theorem ti_ty_error : tiOf P ty_error = some (TI.mk (TypeDesc.interface (Array.mk [("Error", 107)])) false 1 16 (some Value.nilIface)) := by kernel_rfl
theorem ti_ty_sl_api_Line : tiOf P ty_sl_api_Line = some (TI.mk (TypeDesc.slice ty_api_Line) false 1 24 (some (Value.slice none 0 0))) := by kernel_rfl
theorem ti_ty_sl_api_Word : tiOf P ty_sl_api_Word = some (TI.mk (TypeDesc.slice ty_api_Word) false 1 24 (some (Value.slice none 0 0))) := by kernel_rfl
theorem ti_ty_api_Line : tiOf P ty_api_Line = some (TI.mk (TypeDesc.struct (Array.mk [Field.mk "Number" ty_int 0 false "" "" 0, Field.mk "Indented" ty_bool 1 false "" "" 8, Field.mk "Words" ty_sl_api_Word 2 false "" "" 16])) true 3 40 (some (Value.agg (Array.mk [Value.int IntKind.i64 (Int.ofNat 0), Value.bool false, Value.slice none 0 0])))) := by kernel_rfl
theorem ti_ty_api_Word : tiOf P ty_api_Word = some (TI.mk (TypeDesc.struct (Array.mk [Field.mk "Text" ty_string 0 false "" "" 0, Field.mk "Line" ty_int 1 false "" "" 16, Field.mk "Col" ty_int 2 false "" "" 24, Field.mk "Quoted" ty_bool 3 false "" "" 32, Field.mk "Mark" ty_bool 4 false "" "" 33])) true 5 40 (some (Value.agg (Array.mk [Value.string (ByteArray.mk (Array.mk [])), Value.int IntKind.i64 (Int.ofNat 0), Value.int IntKind.i64 (Int.ofNat 0), Value.bool false, Value.bool false])))) := by kernel_rfl
theorem ti_ty_map_string_p_sched_task : tiOf P ty_map_string_p_sched_task = some (TI.mk (TypeDesc.map ty_string ty_p_sched_task) false 1 8 (some (Value.map none))) := by kernel_rfl
theorem ti_ty_p_sched_task : tiOf P ty_p_sched_task = some (TI.mk (TypeDesc.pointer ty_sched_task) false 1 8 (some (Value.pointer none))) := by kernel_rfl
theorem ti_ty_sched_task : tiOf P ty_sched_task = some (TI.mk (TypeDesc.struct (Array.mk [Field.mk "state" ty_int 0 false "" "brickyard/sched" 0, Field.mk "on" ty_string 1 false "" "brickyard/sched" 8, Field.mk "waiters" ty_sl_string 2 false "" "brickyard/sched" 24, Field.mk "starts" ty_int 3 false "" "brickyard/sched" 48])) true 4 56 (some (Value.agg (Array.mk [Value.int IntKind.i64 (Int.ofNat 0), Value.string (ByteArray.mk (Array.mk [])), Value.slice none 0 0, Value.int IntKind.i64 (Int.ofNat 0)])))) := by kernel_rfl
theorem ti_ty_sl_uint8 : tiOf P ty_sl_uint8 = some (TI.mk (TypeDesc.slice ty_uint8) false 1 24 (some (Value.slice none 0 0))) := by kernel_rfl
theorem ti_ty_strconv_Error : tiOf P ty_strconv_Error = some (TI.mk (TypeDesc.int IntKind.i64) false 1 8 (some (Value.int IntKind.i64 (Int.ofNat 0)))) := by kernel_rfl
theorem ti_ty_p_strconv_NumError : tiOf P ty_p_strconv_NumError = some (TI.mk (TypeDesc.pointer ty_strconv_NumError) false 1 8 (some (Value.pointer none))) := by kernel_rfl
theorem ti_ty_strconv_NumError : tiOf P ty_strconv_NumError = some (TI.mk (TypeDesc.struct (Array.mk [Field.mk "Func" ty_string 0 false "" "" 0, Field.mk "Num" ty_string 1 false "" "" 16, Field.mk "Err" ty_error 2 false "" "" 32])) true 3 48 (some (Value.agg (Array.mk [Value.string (ByteArray.mk (Array.mk [])), Value.string (ByteArray.mk (Array.mk [])), Value.nilIface])))) := by kernel_rfl
theorem ti_ty_24_uint8 : tiOf P ty_24_uint8 = some (TI.mk (TypeDesc.array 24 ty_uint8) true 24 24 (some (Value.agg (Array.mk [Value.int IntKind.u8 (Int.ofNat 0), Value.int IntKind.u8 (Int.ofNat 0), Value.int IntKind.u8 (Int.ofNat 0), Value.int IntKind.u8 (Int.ofNat 0), Value.int IntKind.u8 (Int.ofNat 0), Value.int IntKind.u8 (Int.ofNat 0), Value.int IntKind.u8 (Int.ofNat 0), Value.int IntKind.u8 (Int.ofNat 0), Value.int IntKind.u8 (Int.ofNat 0), Value.int IntKind.u8 (Int.ofNat 0), Value.int IntKind.u8 (Int.ofNat 0), Value.int IntKind.u8 (Int.ofNat 0), Value.int IntKind.u8 (Int.ofNat 0), Value.int IntKind.u8 (Int.ofNat 0), Value.int IntKind.u8 (Int.ofNat 0), Value.int IntKind.u8 (Int.ofNat 0), Value.int IntKind.u8 (Int.ofNat 0), Value.int IntKind.u8 (Int.ofNat 0), Value.int IntKind.u8 (Int.ofNat 0), Value.int IntKind.u8 (Int.ofNat 0), Value.int IntKind.u8 (Int.ofNat 0), Value.int IntKind.u8 (Int.ofNat 0), Value.int IntKind.u8 (Int.ofNat 0), Value.int IntKind.u8 (Int.ofNat 0)])))) := by kernel_rfl
theorem ti_ty_p_errors_errorString : tiOf P ty_p_errors_errorString = some (TI.mk (TypeDesc.pointer ty_errors_errorString) false 1 8 (some (Value.pointer none))) := by kernel_rfl
theorem ti_ty_errors_errorString : tiOf P ty_errors_errorString = some (TI.mk (TypeDesc.struct (Array.mk [Field.mk "s" ty_string 0 false "" "errors" 0])) true 1 16 (some (Value.agg (Array.mk [Value.string (ByteArray.mk (Array.mk []))])))) := by kernel_rfl
theorem ti_ty_65_uint8 : tiOf P ty_65_uint8 = some (TI.mk (TypeDesc.array 65 ty_uint8) true 65 65 (some (Value.agg (Array.mk [Value.int IntKind.u8 (Int.ofNat 0), Value.int IntKind.u8 (Int.ofNat 0), Value.int IntKind.u8 (Int.ofNat 0), Value.int IntKind.u8 (Int.ofNat 0), Value.int IntKind.u8 (Int.ofNat 0), Value.int IntKind.u8 (Int.ofNat 0), Value.int IntKind.u8 (Int.ofNat 0), Value.int IntKind.u8 (Int.ofNat 0), Value.int IntKind.u8 (Int.ofNat 0), Value.int IntKind.u8 (Int.ofNat 0), Value.int IntKind.u8 (Int.ofNat 0), Value.int IntKind.u8 (Int.ofNat 0), Value.int IntKind.u8 (Int.ofNat 0), Value.int IntKind.u8 (Int.ofNat 0), Value.int IntKind.u8 (Int.ofNat 0), Value.int IntKind.u8 (Int.ofNat 0), Value.int IntKind.u8 (Int.ofNat 0), Value.int IntKind.u8 (Int.ofNat 0), Value.int IntKind.u8 (Int.ofNat 0), Value.int IntKind.u8 (Int.ofNat 0), Value.int IntKind.u8 (Int.ofNat 0), Value.int IntKind.u8 (Int.ofNat 0), Value.int IntKind.u8 (Int.ofNat 0), Value.int IntKind.u8 (Int.ofNat 0), Value.int IntKind.u8 (Int.ofNat 0), Value.int IntKind.u8 (Int.ofNat 0), Value.int IntKind.u8 (Int.ofNat 0), Value.int IntKind.u8 (Int.ofNat 0), Value.int IntKind.u8 (Int.ofNat 0), Value.int IntKind.u8 (Int.ofNat 0), Value.int IntKind.u8 (Int.ofNat 0), Value.int IntKind.u8 (Int.ofNat 0), Value.int IntKind.u8 (Int.ofNat 0), Value.int IntKind.u8 (Int.ofNat 0), Value.int IntKind.u8 (Int.ofNat 0), Value.int IntKind.u8 (Int.ofNat 0), Value.int IntKind.u8 (Int.ofNat 0), Value.int IntKind.u8 (Int.ofNat 0), Value.int IntKind.u8 (Int.ofNat 0), Value.int IntKind.u8 (Int.ofNat 0), Value.int IntKind.u8 (Int.ofNat 0), Value.int IntKind.u8 (Int.ofNat 0), Value.int IntKind.u8 (Int.ofNat 0), Value.int IntKind.u8 (Int.ofNat 0), Value.int IntKind.u8 (Int.ofNat 0), Value.int IntKind.u8 (Int.ofNat 0), Value.int IntKind.u8 (Int.ofNat 0), Value.int IntKind.u8 (Int.ofNat 0), Value.int IntKind.u8 (Int.ofNat 0), Value.int IntKind.u8 (Int.ofNat 0), Value.int IntKind.u8 (Int.ofNat 0), Value.int IntKind.u8 (Int.ofNat 0), Value.int IntKind.u8 (Int.ofNat 0), Value.int IntKind.u8 (Int.ofNat 0), Value.int IntKind.u8 (Int.ofNat 0), Value.int IntKind.u8 (Int.ofNat 0), Value.int IntKind.u8 (Int.ofNat 0), Value.int IntKind.u8 (Int.ofNat 0), Value.int IntKind.u8 (Int.ofNat 0), Value.int IntKind.u8 (Int.ofNat 0), Value.int IntKind.u8 (Int.ofNat 0), Value.int IntKind.u8 (Int.ofNat 0), Value.int IntKind.u8 (Int.ofNat 0), Value.int IntKind.u8 (Int.ofNat 0), Value.int IntKind.u8 (Int.ofNat 0)])))) := by kernel_rfl
end Go.Proofs.YtgdkekdedgkglaaDoor
end

section
/- Rules of walks, printed by a program of ours: group Lib. -/
namespace Go.Proofs.YtgdkekdedgkglaaDoor
open Go.Abs
set_option maxRecDepth 100000
theorem r_slices_Equal_sl_string_string {p1 : Option Addr} {m2 : Nat} {m3 : Nat} {p4 : Option Addr} {m5 : Nat} {m6 : Nat} {h : AW} {Q : Value → AW → Prop} (H : bC ((↑m2 : Int) != (↑m5 : Int)) (Q
  (Value.bool false) h) (unitAt P f_slices_Equal_sl_string_string 4 [0, 1, 12, 13] [Value.slice p1 m2 m3, Value.slice p4 m5 m6, Value.int IntKind.i64 (↑m2 : Int), Value.int IntKind.i64 0] h Q)) : EvQ P f_slices_Equal_sl_string_string
  [Value.slice p1 m2 m3, Value.slice p4 m5 m6] h Q := fn_ok (n := 400) (ann := annOf [(4, [0, 1, 12, 13])]) (Eq.mp (by kernel_rfl) H)
theorem r_slices_Equal_sl_string_string_4 {p1 : Option Addr} {m2 : Nat} {m3 : Nat} {p4 : Option Addr} {m5 : Nat} {m6 : Nat} {n7 : Int} {n8 : Int} {h : AW} {Q : Value → AW → Prop} (H : bC (decide (n8 < n7))
  (aP p1 fun m9 m10 => oB (natIdx n8 m2) fun m11 => oB (AW.rd h m9 (m10 + m11 * 1)) fun v12 => vStr v12 fun s13 => aP p4 fun m14 m15 => oB (natIdx n8 m5) fun m16 => oB (AW.rd h m14
  (m15 + m16 * 1)) fun v17 => vStr v17 fun s18 => bC (!bEq s13 s18) (Q (Value.bool false) h) (unitAt P f_slices_Equal_sl_string_string 4 [0, 1, 12, 13] [Value.slice p1 m2 m3, Value.slice p4 m5 m6, Value.int
  IntKind.i64 n7, Value.int IntKind.i64 (IntKind.wrap IntKind.i64 (n8 + 1))] h Q)) (Q (Value.bool true) h)) : unitAt P f_slices_Equal_sl_string_string 4 [0, 1, 12, 13] [Value.slice p1 m2 m3, Value.slice p4
  m5 m6, Value.int IntKind.i64 n7, Value.int IntKind.i64 n8] h Q := unit_ok (n := 400) (ann := annOf [(4, [0, 1, 12, 13])]) (Eq.mp (by kernel_rfl) H)
theorem r_slices_Contains_sl_string_string {p1 : Option Addr} {m2 : Nat} {m3 : Nat} {s4 : ByteArray} {h : AW} {Q : Value → AW → Prop} (H : EvQ P f_slices_Index_sl_string_string [Value.slice p1 m2 m3, Value.string s4] h fun v5 h6 =>
  vInt IntKind.i64 v5 fun n7 => Q (Value.bool (decide (n7 ≥ 0))) h6) : EvQ P f_slices_Contains_sl_string_string [Value.slice p1 m2 m3, Value.string s4] h Q := fn_ok (n := 400) (ann := annOf []) (Eq.mp (by
  kernel_rfl) H)
theorem r_slices_DeleteFunc_sl_string_string {p1 : Option Addr} {m2 : Nat} {m3 : Nat} {v4 : Value} {h : AW} {Q : Value → AW → Prop} (H : EvQ P f_slices_IndexFunc_sl_string_string [Value.slice p1 m2 m3, v4] h fun v5 h6 => vInt IntKind.i64 v5
  fun n7 => bC (n7 == Int.negSucc 0) (Q (Value.slice p1 m2 m3) h6) (unitAt P f_slices_DeleteFunc_sl_string_string 5 [0, 1, 5, 6] [Value.slice p1 m2 m3, v4, Value.int IntKind.i64 n7, Value.int IntKind.i64
  (IntKind.wrap IntKind.i64 (n7 + 1))] h6 Q)) : EvQ P f_slices_DeleteFunc_sl_string_string [Value.slice p1 m2 m3, v4] h Q := fn_ok (n := 400) (ann := annOf [(5, [0, 1, 5, 6])]) (Eq.mp (by kernel_rfl) H)
theorem r_slices_DeleteFunc_sl_string_string_5 {p1 : Option Addr} {m2 : Nat} {m3 : Nat} {v4 : Value} {n5 : Int} {n6 : Int} {h : AW} {Q : Value → AW → Prop} (H : bC (decide (n6 < (↑m2 : Int))) (aP p1 fun m7 m8
  => oB (natIdx n6 m2) fun m9 => oB (AW.rd h m7 (m8 + m9 * 1)) fun v10 => vStr v10 fun s11 => vFun v4 fun m12 l13 l14 => EvQ P m12 (l13 ++ Value.string s11 :: l14) h fun v15 h16 =>
  vBool v15 fun b17 => bC (!b17) (aP p1 fun m18 m19 => oB (natIdx n5 m2) fun m20 => oB (AW.wr h16 m18 (m19 + m20 * 1) (Value.string s11)) fun h21 => unitAt P f_slices_DeleteFunc_sl_string_string 5 [0, 1, 5, 6]
  [Value.slice p1 m2 m3, v4, Value.int IntKind.i64 (IntKind.wrap IntKind.i64 (n5 + 1)), Value.int IntKind.i64 (IntKind.wrap IntKind.i64 (n6 + 1))] h21 Q) (unitAt P f_slices_DeleteFunc_sl_string_string 5 [0, 1, 5,
  6] [Value.slice p1 m2 m3, v4, Value.int IntKind.i64 n5, Value.int IntKind.i64 (IntKind.wrap IntKind.i64 (n6 + 1))] h16 Q)) (oB (natBnd n5 m2) fun m22 => bC (Nat.ble m2 m3) (oB
  (shO p1 (m22 * 1)) fun p23 => oP (clearB P h (Array.mk [ty_sl_string]) [Value.slice p23 (m2 - m22) (m3 - m22)]) fun v24 h25 => oB (natBnd n5 m3) fun m26 => bC (Nat.ble m26 m3) (oB (shO
  p1 0) fun p27 => Q (Value.slice p27 (m26 - 0) (m3 - 0)) h25) False) False)) : unitAt P f_slices_DeleteFunc_sl_string_string 5 [0, 1, 5, 6] [Value.slice p1 m2 m3, v4, Value.int IntKind.i64 n5, Value.int
  IntKind.i64 n6] h Q := unit_ok (n := 400) (ann := annOf [(5, [0, 1, 5, 6])]) (Eq.mp (by kernel_rfl) H)
theorem r_slices_Index_sl_string_string {p1 : Option Addr} {m2 : Nat} {m3 : Nat} {s4 : ByteArray} {h : AW} {Q : Value → AW → Prop} (H : unitAt P f_slices_Index_sl_string_string 2 [0, 1, 7, 8] [Value.slice p1 m2 m3, Value.string s4,
  Value.int IntKind.i64 (↑m2 : Int), Value.int IntKind.i64 0] h Q) : EvQ P f_slices_Index_sl_string_string [Value.slice p1 m2 m3, Value.string s4] h Q := fn_ok (n := 400) (ann := annOf [(2, [0, 1, 7, 8])])
  (Eq.mp (by kernel_rfl) H)
theorem r_slices_Index_sl_string_string_2 {p1 : Option Addr} {m2 : Nat} {m3 : Nat} {s4 : ByteArray} {n5 : Int} {n6 : Int} {h : AW} {Q : Value → AW → Prop} (H : bC (decide (n6 < n5)) (aP p1 fun m7 m8 => oB
  (natIdx n6 m2) fun m9 => oB (AW.rd h m7 (m8 + m9 * 1)) fun v10 => vStr v10 fun s11 => bC (bEq s4 s11) (Q (Value.int IntKind.i64 n6) h) (unitAt P f_slices_Index_sl_string_string 2 [0, 1, 7, 8] [Value.slice
  p1 m2 m3, Value.string s4, Value.int IntKind.i64 n5, Value.int IntKind.i64 (IntKind.wrap IntKind.i64 (n6 + 1))] h Q)) (Q (Value.int IntKind.i64 (Int.negSucc 0)) h)) : unitAt P
  f_slices_Index_sl_string_string 2 [0, 1, 7, 8] [Value.slice p1 m2 m3, Value.string s4, Value.int IntKind.i64 n5, Value.int IntKind.i64 n6] h Q := unit_ok (n := 400) (ann := annOf [(2, [0, 1, 7, 8])])
  (Eq.mp (by kernel_rfl) H)
theorem r_slices_Clone_sl_string_string {p1 : Option Addr} {m2 : Nat} {m3 : Nat} {h : AW} {Q : Value → AW → Prop} (H : bC (Option.isNone p1) (Q (Value.slice none 0 0) h) (oP (appendB P (AW.addVar h [])
  (Array.mk [ty_sl_string, ty_sl_string]) [Value.slice (some (Addr.mk (AW.next h) 0 none)) 0 0, Value.slice p1 m2 m3]) fun v4 h5 => vSl v4 fun p6 m7 m8 => Q (Value.slice p6 m7 m8) h5)) : EvQ P
  f_slices_Clone_sl_string_string [Value.slice p1 m2 m3] h Q := fn_ok (n := 400) (ann := annOf []) (Eq.mp (by kernel_rfl) H)
theorem r_slices_IndexFunc_sl_string_string {p1 : Option Addr} {m2 : Nat} {m3 : Nat} {v4 : Value} {h : AW} {Q : Value → AW → Prop} (H : unitAt P f_slices_IndexFunc_sl_string_string 2 [0, 1, 7, 8] [Value.slice p1 m2 m3, v4, Value.int
  IntKind.i64 (↑m2 : Int), Value.int IntKind.i64 0] h Q) : EvQ P f_slices_IndexFunc_sl_string_string [Value.slice p1 m2 m3, v4] h Q := fn_ok (n := 400) (ann := annOf [(2, [0, 1, 7, 8])]) (Eq.mp (by kernel_rfl)
  H)
theorem r_slices_IndexFunc_sl_string_string_2 {p1 : Option Addr} {m2 : Nat} {m3 : Nat} {v4 : Value} {n5 : Int} {n6 : Int} {h : AW} {Q : Value → AW → Prop} (H : bC (decide (n6 < n5)) (aP p1 fun m7 m8 => oB
  (natIdx n6 m2) fun m9 => oB (AW.rd h m7 (m8 + m9 * 1)) fun v10 => vStr v10 fun s11 => vFun v4 fun m12 l13 l14 => EvQ P m12 (l13 ++ Value.string s11 :: l14) h fun v15 h16 => vBool
  v15 fun b17 => bC b17 (Q (Value.int IntKind.i64 n6) h16) (unitAt P f_slices_IndexFunc_sl_string_string 2 [0, 1, 7, 8] [Value.slice p1 m2 m3, v4, Value.int IntKind.i64 n5, Value.int IntKind.i64 (IntKind.wrap
  IntKind.i64 (n6 + 1))] h16 Q)) (Q (Value.int IntKind.i64 (Int.negSucc 0)) h)) : unitAt P f_slices_IndexFunc_sl_string_string 2 [0, 1, 7, 8] [Value.slice p1 m2 m3, v4, Value.int IntKind.i64 n5, Value.int
  IntKind.i64 n6] h Q := unit_ok (n := 400) (ann := annOf [(2, [0, 1, 7, 8])]) (Eq.mp (by kernel_rfl) H)
theorem r_slices_Min_sl_string_string {p1 : Option Addr} {m2 : Nat} {m3 : Nat} {h : AW} {Q : Value → AW → Prop} (H : bC (decide ((↑m2 : Int) < 1)) False (aP p1 fun m4 m5 => oB (natIdx 0 m2) fun m6 => oB
  (AW.rd h m4 (m5 + m6 * 1)) fun v7 => vStr v7 fun s8 => unitAt P f_slices_Min_sl_string_string 5 [0, 3, 4] [Value.slice p1 m2 m3, Value.string s8, Value.int IntKind.i64 1] h Q)) : EvQ P f_slices_Min_sl_string_string
  [Value.slice p1 m2 m3] h Q := fn_ok (n := 400) (ann := annOf [(5, [0, 3, 4])]) (Eq.mp (by kernel_rfl) H)
theorem r_slices_Min_sl_string_string_5 {p1 : Option Addr} {m2 : Nat} {m3 : Nat} {s4 : ByteArray} {n5 : Int} {h : AW} {Q : Value → AW → Prop} (H : bC (decide (n5 < (↑m2 : Int))) (aP p1 fun m6 m7 => oB
  (natIdx n5 m2) fun m8 => oB (AW.rd h m6 (m7 + m8 * 1)) fun v9 => vStr v9 fun s10 => unitAt P f_slices_Min_sl_string_string 5 [0, 3, 4] [Value.slice p1 m2 m3, Value.string (if (Op.bytesLess (Array.toList
  (ByteArray.data s4)) (Array.toList (ByteArray.data s10)) || Array.toList (ByteArray.data s4) == Array.toList (ByteArray.data s10)) = true then s4 else s10), Value.int IntKind.i64
  (IntKind.wrap IntKind.i64 (n5 + 1))] h Q) (Q (Value.string s4) h)) : unitAt P f_slices_Min_sl_string_string 5 [0, 3, 4] [Value.slice p1 m2 m3, Value.string s4, Value.int IntKind.i64 n5] h Q := unit_ok
  (n := 400) (ann := annOf [(5, [0, 3, 4])]) (Eq.mp (by kernel_rfl) H)
theorem r_slices_Concat_sl_string_string {p1 : Option Addr} {m2 : Nat} {m3 : Nat} {h : AW} {Q : Value → AW → Prop} (H : unitAt P f_slices_Concat_sl_string_string 3 [0, 3, 9, 10, 11] [Value.slice p1 m2 m3, Value.int IntKind.i64 0,
  Value.slice p1 m2 m3, Value.int IntKind.i64 (↑m2 : Int), Value.int IntKind.i64 0] h Q) : EvQ P f_slices_Concat_sl_string_string [Value.slice p1 m2 m3] h Q := fn_ok (n := 400) (ann := annOf [(3, [0, 3, 9,
  10, 11]), (11, [6, 25, 26, 27])]) (Eq.mp (by kernel_rfl) H)
theorem r_slices_Concat_sl_string_string_3 {p1 : Option Addr} {m2 : Nat} {m3 : Nat} {n4 : Int} {p5 : Option Addr} {m6 : Nat} {m7 : Nat} {n8 : Int} {n9 : Int} {h : AW} {Q : Value → AW → Prop} (H : bC
  (decide (n9 < n8)) (aP p5 fun m10 m11 => oB (natIdx n9 m6) fun m12 => oB (AW.rd h m10 (m11 + m12 * 1)) fun v13 => vSl v13 fun p14 m15 m16 => bC (decide (IntKind.wrap IntKind.i64
  (n4 + (↑m15 : Int)) < 0)) False (unitAt P f_slices_Concat_sl_string_string 3 [0, 3, 9, 10, 11] [Value.slice p1 m2 m3, Value.int IntKind.i64 (IntKind.wrap IntKind.i64 (n4 + (↑m15 : Int))), Value.slice p5 m6
  m7, Value.int IntKind.i64 n8, Value.int IntKind.i64 (IntKind.wrap IntKind.i64 (n9 + 1))] h Q)) (EvQ P f_slices_Grow_sl_string_string [Value.slice none 0 0, Value.int IntKind.i64 n4] h fun v17 h18 => vSl
  v17 fun p19 m20 m21 => unitAt P f_slices_Concat_sl_string_string 11 [6, 25, 26, 27] [Value.slice p19 m20 m21, Value.slice p1 m2 m3, Value.int IntKind.i64 (↑m2 : Int), Value.int IntKind.i64 0] h18 Q)) :
  unitAt P f_slices_Concat_sl_string_string 3 [0, 3, 9, 10, 11] [Value.slice p1 m2 m3, Value.int IntKind.i64 n4, Value.slice p5 m6 m7, Value.int IntKind.i64 n8, Value.int IntKind.i64 n9] h Q := unit_ok (n :=
  400) (ann := annOf [(3, [0, 3, 9, 10, 11]), (11, [6, 25, 26, 27])]) (Eq.mp (by kernel_rfl) H)
theorem r_slices_Concat_sl_string_string_11 {p1 : Option Addr} {m2 : Nat} {m3 : Nat} {p4 : Option Addr} {m5 : Nat} {m6 : Nat} {n7 : Int} {n8 : Int} {h : AW} {Q : Value → AW → Prop} (H : bC (decide (n8 <
  n7)) (aP p4 fun m9 m10 => oB (natIdx n8 m5) fun m11 => oB (AW.rd h m9 (m10 + m11 * 1)) fun v12 => vSl v12 fun p13 m14 m15 => oP (appendB P h (Array.mk [ty_sl_string, ty_sl_string])
  [Value.slice p1 m2 m3, Value.slice p13 m14 m15]) fun v16 h17 => vSl v16 fun p18 m19 m20 => unitAt P f_slices_Concat_sl_string_string 11 [6, 25, 26, 27] [Value.slice p18 m19 m20, Value.slice p4 m5 m6,
  Value.int IntKind.i64 n7, Value.int IntKind.i64 (IntKind.wrap IntKind.i64 (n8 + 1))] h17 Q) (Q (Value.slice p1 m2 m3) h)) : unitAt P f_slices_Concat_sl_string_string 11 [6, 25, 26, 27] [Value.slice p1 m2
  m3, Value.slice p4 m5 m6, Value.int IntKind.i64 n7, Value.int IntKind.i64 n8] h Q := unit_ok (n := 400) (ann := annOf [(3, [0, 3, 9, 10, 11]), (11, [6, 25, 26, 27])]) (Eq.mp (by
  kernel_rfl) H)
theorem r_slices_Grow_sl_string_string {p1 : Option Addr} {m2 : Nat} {m3 : Nat} {n4 : Int} {h : AW} {Q : Value → AW → Prop} (H : bC (decide (n4 < 0)) False (unitAt P f_slices_Grow_sl_string_string 3 [0, 1] [Value.slice p1 m2 m3,
  Value.int IntKind.i64 n4] h Q)) : EvQ P f_slices_Grow_sl_string_string [Value.slice p1 m2 m3, Value.int IntKind.i64 n4] h Q := fn_ok (n := 400) (ann := annOf [(3, [0, 1])]) (Eq.mp (by kernel_rfl) H)
theorem r_slices_Grow_sl_string_string_3 {p1 : Option Addr} {m2 : Nat} {m3 : Nat} {n4 : Int} {h : AW} {Q : Value → AW → Prop} (H : oB (capB P h (Array.mk [ty_sl_string]) [Value.slice p1 m2 m3]) fun v5 => vInt
  IntKind.i64 v5 fun n6 => bC (decide (IntKind.wrap IntKind.i64 (n4 - IntKind.wrap IntKind.i64 (n6 - (↑m2 : Int))) > 0)) (oB (capB P h (Array.mk [ty_sl_string]) [Value.slice p1 m2 m3])
  fun v7 => vInt IntKind.i64 v7 fun n8 => oB (natBnd n8 m3) fun m9 => bC (Nat.ble m9 m3) (oB (shO p1 0) fun p10 => oP (appendB P h (Array.mk [ty_sl_string, ty_int]) [Value.slice p10 (m9 -
  0) (m3 - 0), Value.int IntKind.i64 (IntKind.wrap IntKind.i64 (n4 - IntKind.wrap IntKind.i64 (n6 - (↑m2 : Int))))]) fun v11 h12 => vSl v11 fun p13 m14 m15 => oB (natBnd (↑m2 :
  Int) m15) fun m16 => bC (Nat.ble m16 m15) (oB (shO p13 0) fun p17 => Q (Value.slice p17 (m16 - 0) (m15 - 0)) h12) False) False) (Q (Value.slice p1 m2 m3) h)) : unitAt P f_slices_Grow_sl_string_string 3
  [0, 1] [Value.slice p1 m2 m3, Value.int IntKind.i64 n4] h Q := unit_ok (n := 400) (ann := annOf [(3, [0, 1])]) (Eq.mp (by kernel_rfl) H)
end Go.Proofs.YtgdkekdedgkglaaDoor
end

section
/- What the library's functions on slices of strings come to. -/
namespace Go.Proofs.YtgdkekdedgkglaaDoor
open Go.Abs Go.Abs.Sch
set_option maxRecDepth 100000
attribute [local irreducible] unitAt EvQ
variable {h : AW} {μ : Paint} {ρ : Store} {Q : Value → AW → Prop}
abbrev Strs (h : AW) (a : Option Addr) (l : List Str) : Prop := Sl h a (strs l)
theorem sat1 {a : Option Addr} {x : List Str} (H : Sl h a (strs x)) {z : Int} {j n : Nat} (hz : z = j) (hn : n = x.length) (hj : j < x.length) {f : Str → Prop} (hf : f x[j]) : aP a fun i off => oB (natIdx z n) fun j => oB (h.rd i (off + j * 1)) fun v => vStr v f :=
  H.at1 (v := .string x[j]) hz (by simpa using hn) (by simp [hj]) (by simpa using hf)
theorem equal_loop {a b : Option Addr} {x y : List Str} {c d : Nat} (X : Strs h a x) (Y : Strs h b y) (hl : x.length = y.length) (hx : x.length < 1000000001) (hq : Q (.bool (decide (x = y))) h) :
    ∀ (n k : Nat), x.length - k = n → k ≤ x.length → x.take k = y.take k → unitAt P f_slices_Equal_sl_string_string 4 [0, 1, 12, 13] [.slice a x.length c, .slice b y.length d, .int .i64 (x.length : Int), .int .i64 (k : Int)] h Q := by
  intro n
  induction n with
  | zero =>
    intro k hn hk he
    refine r_slices_Equal_sl_string_string_4 ?_
    rw [show decide ((k : Int) < (x.length : Int)) = false from by simp; omega]
    simp only [bC_false]
    have : k = x.length := by omega
    subst this
    rw [List.take_length, hl, List.take_length] at he
    rw [← decide_eq_true he]; exact hq
  | succ n ih =>
    intro k hn hk he
    refine r_slices_Equal_sl_string_string_4 ?_
    have hlt : k < x.length := by omega
    rw [show decide ((k : Int) < (x.length : Int)) = true from by simp; omega]
    simp only [bC_true]
    refine sat1 X rfl rfl hlt ?_
    refine sat1 Y rfl rfl (by omega) ?_
    refine bC_iff (fun e => ?_) (fun e => ?_)
    · have e' : x[k] ≠ y[k] := by simpa [bEq_false] using e
      have : decide (x = y) = false := by
        rw [decide_eq_false_iff_not]
        intro e2; subst e2; exact e' rfl
      rw [← this]; exact hq
    · rw [wrapS (by omega)]
      have e' : x[k] = y[k] := by simpa [bEq_iff] using e
      exact ih (k + 1) (by omega) (by omega) (by rw [List.take_succ_eq_append_getElem hlt, List.take_succ_eq_append_getElem (by omega), he, e'])
theorem equal_ok {a b : Option Addr} {x y : List Str} {c d : Nat} (X : Strs h a x) (Y : Strs h b y) (hx : x.length < 1000000001) (hq : Q (.bool (decide (x = y))) h) :
    EvQ P f_slices_Equal_sl_string_string [.slice a x.length c, .slice b y.length d] h Q := by
  refine r_slices_Equal_sl_string_string ?_
  refine bC_iff (fun e => ?_) (fun e => ?_)
  · have : x.length ≠ y.length := by simp at e; omega
    have e2 : decide (x = y) = false := by
      rw [decide_eq_false_iff_not]
      intro e2; subst e2; exact this rfl
    rw [← e2]; exact hq
  · have hl : x.length = y.length := by simp at e; omega
    exact equal_loop X Y hl hx hq x.length 0 (by omega) (by omega) rfl

/-- Where a key stands first; -1: nowhere. -/
def idxOf (s : Str) (x : List Str) : Int := match x.findIdx? (fun t => bEq s t) with | some j => (j : Int) | none => -1
theorem index_loop {a : Option Addr} {x : List Str} {s : Str} {c : Nat} (X : Strs h a x) (hx : x.length < 1000000001) (hq : Q (.int .i64 (idxOf s x)) h) :
    ∀ (n k : Nat), x.length - k = n → k ≤ x.length → (∀ j (hj : j < x.length), j < k → bEq s x[j] = false) → unitAt P f_slices_Index_sl_string_string 2 [0, 1, 7, 8] [.slice a x.length c, .string s, .int .i64 (x.length : Int), .int .i64 (k : Int)] h Q := by
  intro n
  induction n with
  | zero =>
    intro k hn hk he
    refine r_slices_Index_sl_string_string_2 ?_
    rw [show decide ((k : Int) < (x.length : Int)) = false from by simp; omega]
    simp only [bC_false]
    have : idxOf s x = -1 := by
      unfold idxOf
      rw [List.findIdx?_eq_none_iff.2 fun t ht => ?_]
      obtain ⟨j, hj, e⟩ := List.getElem_of_mem ht
      rw [← e]; simpa using he j hj (by omega)
    rw [this] at hq; exact hq
  | succ n ih =>
    intro k hn hk he
    refine r_slices_Index_sl_string_string_2 ?_
    have hlt : k < x.length := by omega
    rw [show decide ((k : Int) < (x.length : Int)) = true from by simp; omega]
    simp only [bC_true]
    refine sat1 X rfl rfl hlt ?_
    refine bC_iff (fun e => ?_) (fun e => ?_)
    · have : idxOf s x = k := by
        unfold idxOf
        rw [List.findIdx?_eq_some_iff_getElem.2 ⟨hlt, e, fun j hj => by simpa using he j (by omega) hj⟩]
      rw [this] at hq; exact hq
    · rw [wrapS (by omega)]
      exact ih (k + 1) (by omega) (by omega) fun j hj hjk => by
        rcases Nat.lt_or_ge j k with h1 | h1
        · exact he j hj h1
        · have : j = k := by omega
          subst this; exact e
theorem index_ok {a : Option Addr} {x : List Str} {s : Str} {c : Nat} (X : Strs h a x) (hx : x.length < 1000000001) (hq : Q (.int .i64 (idxOf s x)) h) :
    EvQ P f_slices_Index_sl_string_string [.slice a x.length c, .string s] h Q := by
  refine r_slices_Index_sl_string_string ?_
  exact index_loop X hx hq x.length 0 (by omega) (by omega) (by intro j _ hj; omega)
theorem idxOf_ge {s : Str} {x : List Str} : decide (idxOf s x ≥ 0) = memB s x := by
  unfold idxOf
  cases e : x.findIdx? (fun t => bEq s t) with
  | none =>
    have := List.findIdx?_eq_none_iff.1 e
    have hn : s ∉ x := fun hm => by have := this s hm; simp at this
    have : memB s x = false := by rw [← Bool.not_eq_true, memB_iff]; exact hn
    rw [this]; simp
  | some j =>
    obtain ⟨hj, h1, _⟩ := List.findIdx?_eq_some_iff_getElem.1 e
    have hm : s ∈ x := by rw [bEq_iff.1 h1]; exact List.getElem_mem hj
    rw [memB_iff.2 hm]; simp
theorem contains_ok {a : Option Addr} {x : List Str} {s : Str} {c : Nat} (X : Strs h a x) (hx : x.length < 1000000001) (hq : Q (.bool (memB s x)) h) :
    EvQ P f_slices_Contains_sl_string_string [.slice a x.length c, .string s] h Q := by
  refine r_slices_Contains_sl_string_string ?_
  refine index_ok X hx ?_
  simp only [vInt_int]
  rw [idxOf_ge]; exact hq

/-- A fresh slice of strings comes back. -/
def NewS (Q : Value → AW → Prop) (ρ : Store) (x : List Str) : Prop :=
  ∀ h' μ' ρ' co oa oc, Own h' μ' ρ' → Pcs ρ ρ' [co] [.sl oa oc 1 (strs x)] → ρ co = none → Q (.slice oa x.length oc) h'
theorem new_nil (O : Own h μ ρ) (hq : NewS Q ρ []) : Q (.slice none 0 0) h := by
  obtain ⟨ρ1, co, O1, W1, hco⟩ := w_nil O (Pcs.init (ρ := ρ) (ns := []) (rs := []) List.nodup_nil rfl (by intro i c r h; simp at h)) 1
  exact hq _ _ _ _ _ _ O1 W1 hco
theorem p0 : Pcs ρ ρ [] [] := Pcs.init List.nodup_nil rfl (by intro i c r h; simp at h)
theorem clone_ok {a : Option Addr} {x : List Str} {cap : Nat} (O : Own h μ ρ) (X : Rd ρ [] a (strs x)) (hx : x.length ≤ 1000000000) (hq : NewS Q ρ x) :
    EvQ P f_slices_Clone_sl_string_string [.slice a x.length cap] h Q := by
  refine r_slices_Clone_sl_string_string ?_
  refine bC_iff (fun e => ?_) (fun e => ?_)
  · rcases X.sl O with ⟨rfl, hx0⟩ | ⟨i, off, rfl, _⟩
    · have : x = [] := by simpa using hx0
      subst this
      exact new_nil O hq
    · simp at e
  · obtain ⟨μ1, ρ1, c1, O1, W1, hc1⟩ := w_block O p0 [] (n := 0) (sz := 1) rfl rfl
    have X1 : Rd ρ1 [] a (strs x) := X.keep (W1.tail hc1).fra
    refine w_app (P := P) O1 W1 0 (l := []) (n := 0) ti_ty_sl_string ti_ty_string (by decide) rfl rfl (X1.sl O1) (m := x.length) (by simp) allOne_strs (by omega) (by omega) fun oa oc h2 μ2 ρ2 O2 W2 => ?_
    simp only [oB_some, bC_true, bC_false, vInt_int, vBool_bool, vStr_string, vPtr_pointer, vSl_slice, vMap_map, vFun_func, vAgg_agg, vTup_tuple, vIfc_nil, vIfc_iface, lC_cons, lN_nil, aP_some, shO_none, shO_some, Option.isNone_none, Option.isNone_some, Bool.not_true, Bool.not_false]
    rw [Nat.zero_add]
    exact hq _ _ _ _ _ _ O2 W2 hc1
theorem grow_nil {n : Nat} (O : Own h μ ρ) (hn : n ≤ 1000000000) (hq : ∀ h' μ' ρ' co oa oc, Own h' μ' ρ' → Pcs ρ ρ' [co] [.sl oa oc 1 []] → ρ co = none → Q (.slice oa 0 oc) h') :
    EvQ P f_slices_Grow_sl_string_string [.slice none 0 0, .int .i64 (n : Int)] h Q := by
  refine r_slices_Grow_sl_string_string ?_
  rw [show decide ((n : Int) < 0) = false from decide_eq_false (by omega)]
  simp only [oB_some, bC_true, bC_false, vInt_int, vBool_bool, vStr_string, vPtr_pointer, vSl_slice, vMap_map, vFun_func, vAgg_agg, vTup_tuple, vIfc_nil, vIfc_iface, lC_cons, lN_nil, aP_some, shO_none, shO_some, Option.isNone_none, Option.isNone_some, Bool.not_true, Bool.not_false]
  refine r_slices_Grow_sl_string_string_3 ?_
  rw [show capB P h (Array.mk [ty_sl_string]) [Value.slice none 0 0] = some (goInt 0) from by unfold capB; simp only; rw [ti_ty_sl_string]; rfl]
  simp only [oB_some, bC_true, bC_false, vInt_int, vBool_bool, vStr_string, vPtr_pointer, vSl_slice, vMap_map, vFun_func, vAgg_agg, vTup_tuple, vIfc_nil, vIfc_iface, lC_cons, lN_nil, aP_some, shO_none, shO_some, Option.isNone_none, Option.isNone_some, Bool.not_true, Bool.not_false, goInt]
  rw [show IntKind.wrap .i64 ((n : Int) - IntKind.wrap .i64 ((0 : Int) - ((0 : Nat) : Int))) = (n : Int) from by
    rw [show IntKind.wrap .i64 ((0 : Int) - ((0 : Nat) : Int)) = 0 from by decide, wrap_small (n := (n : Int) - 0) (by omega) (by omega)]; omega]
  refine bC_iff (fun e => ?_) (fun e => ?_)
  · obtain ⟨ρ1, c1, O1, W1, hc1⟩ := w_nil O p0 1
    rw [show natBnd 0 0 = some 0 from rfl]
    simp only [oB_some, bC_true, bC_false, vInt_int, vBool_bool, vStr_string, vPtr_pointer, vSl_slice, vMap_map, vFun_func, vAgg_agg, vTup_tuple, vIfc_nil, vIfc_iface, lC_cons, lN_nil, aP_some, shO_none, shO_some, Option.isNone_none, Option.isNone_some, Bool.not_true, Bool.not_false, Nat.ble]
    refine w_appN (P := P) (m := n) O1 W1 0 (l := []) (n := 0) ti_ty_sl_string ti_ty_string ti_ty_int (by decide) rfl ?_ rfl rfl (by omega) (by omega) fun oa oc h2 μ2 ρ2 O2 W2 => ?_
    · show allOne (rep [.string _] n) = true
      rw [rep_one]; exact allOne_of fun v hv => by rw [(List.mem_replicate.1 hv).2]; rfl
    obtain ⟨ρ3, O3, W3⟩ := w_take O2 W2 0 rfl 0
    simp only [oB_some, bC_true, bC_false, vInt_int, vBool_bool, vStr_string, vPtr_pointer, vSl_slice, vMap_map, vFun_func, vAgg_agg, vTup_tuple, vIfc_nil, vIfc_iface, lC_cons, lN_nil, aP_some, shO_none, shO_some, Option.isNone_none, Option.isNone_some, Bool.not_true, Bool.not_false]
    rw [show natBnd ((0 : Nat) : Int) oc = some 0 from rfl]
    simp only [oB_some, bC_true, bC_false, vInt_int, vBool_bool, vStr_string, vPtr_pointer, vSl_slice, vMap_map, vFun_func, vAgg_agg, vTup_tuple, vIfc_nil, vIfc_iface, lC_cons, lN_nil, aP_some, shO_none, shO_some, Option.isNone_none, Option.isNone_some, Bool.not_true, Bool.not_false]
    rw [show Nat.ble 0 oc = true from rfl]
    simp only [oB_some, bC_true, bC_false, vInt_int, vBool_bool, vStr_string, vPtr_pointer, vSl_slice, vMap_map, vFun_func, vAgg_agg, vTup_tuple, vIfc_nil, vIfc_iface, lC_cons, lN_nil, aP_some, shO_none, shO_some, Option.isNone_none, Option.isNone_some, Bool.not_true, Bool.not_false]
    have Z : ∀ {f : Option Addr → Prop}, f oa → oB (shO oa 0) f := by
      intro f hf
      rcases w_sl O2 W2 0 rfl with ⟨rfl, _⟩ | ⟨i, off, rfl, _⟩ <;> exact hf
    exact Z (hq _ _ _ _ _ _ O3 W3 hc1)
  · have : n = 0 := by simp at e; omega
    subst this
    obtain ⟨ρ1, c1, O1, W1, hc1⟩ := w_nil O p0 1
    exact hq _ _ _ _ _ _ O1 W1 hc1

/-- Slices behind one another. -/
structure Part where
  a : Option Addr
  cap : Nat
  x : List Str
def Part.cell (p : Part) : Value := .slice p.a p.x.length p.cap
theorem part_len (p : Part) : [p.cell].length = 1 := rfl
def total (l : List Part) : Nat := (l.map fun p => p.x.length).foldr (· + ·) 0
theorem total_cons {p : Part} {l : List Part} : total (p :: l) = p.x.length + total l := rfl
theorem concat_loop {parts : List Part} {a : Option Addr} {c : Nat} (X : Rd ρ [] a (parts.map Part.cell)) (hp : ∀ p, p ∈ parts → Rd ρ [] p.a (strs p.x)) (ht : total parts ≤ 1000000000) (hl : parts.length ≤ 1000000) :
    ∀ (n j : Nat) {h : AW} {μ : Paint} {ρ' : Store} {co : Nat} {oa : Option Addr} {oc : Nat} {out : List Str}, parts.length - j = n → j ≤ parts.length → Own h μ ρ' → Pcs ρ ρ' [co] [.sl oa oc 1 (strs out)] → ρ co = none → out.length + total (parts.drop j) ≤ 1000000000 →
      NewS Q ρ (out ++ (parts.drop j).flatMap Part.x) →
      unitAt P f_slices_Concat_sl_string_string 11 [6, 25, 26, 27] [.slice oa out.length oc, .slice a parts.length c, .int .i64 (parts.length : Int), .int .i64 (j : Int)] h Q := by
  intro n
  induction n with
  | zero =>
    intro j h μ ρ' co oa oc out hn hj O W hco ht hq
    refine r_slices_Concat_sl_string_string_11 ?_
    rw [geI (by omega)]
    simp only [oB_some, bC_true, bC_false, vInt_int, vBool_bool, vStr_string, vPtr_pointer, vSl_slice, vMap_map, vFun_func, vAgg_agg, vTup_tuple, vIfc_nil, vIfc_iface, lC_cons, lN_nil, aP_some, shO_none, shO_some, Option.isNone_none, Option.isNone_some, Bool.not_true, Bool.not_false]
    rw [List.drop_eq_nil_of_le (by omega)] at hq
    simp only [List.flatMap_nil, List.append_nil] at hq
    exact hq _ _ _ _ _ _ O W hco
  | succ n ih =>
    intro j h μ ρ' co oa oc out hn hj O W hco ht hq
    have hlt : j < parts.length := by omega
    have hd : parts.drop j = parts[j] :: parts.drop (j + 1) := List.drop_eq_getElem_cons hlt
    refine r_slices_Concat_sl_string_string_11 ?_
    rw [ltI hlt]
    simp only [oB_some, bC_true, bC_false, vInt_int, vBool_bool, vStr_string, vPtr_pointer, vSl_slice, vMap_map, vFun_func, vAgg_agg, vTup_tuple, vIfc_nil, vIfc_iface, lC_cons, lN_nil, aP_some, shO_none, shO_some, Option.isNone_none, Option.isNone_some, Bool.not_true, Bool.not_false]
    have F0 : Fra [] ρ ρ' := fun c r _ hc => W.fra c r (fun x => by simp at x; rw [x, hco] at hc; cases hc) hc
    refine ((X.keep F0).sl O).at1 (v := parts[j].cell) rfl (by simp) (by simp [hlt]) ?_
    simp only [Part.cell, oB_some, bC_true, bC_false, vInt_int, vBool_bool, vStr_string, vPtr_pointer, vSl_slice, vMap_map, vFun_func, vAgg_agg, vTup_tuple, vIfc_nil, vIfc_iface, lC_cons, lN_nil, aP_some, shO_none, shO_some, Option.isNone_none, Option.isNone_some, Bool.not_true, Bool.not_false]
    have Xj := (hp _ (List.getElem_mem hlt)).keep F0
    rw [hd, total_cons] at ht
    refine w_app (P := P) O W 0 ti_ty_sl_string ti_ty_string (by decide) rfl (by simp) (Xj.sl O) (m := parts[j].x.length) (by simp) allOne_strs (by omega) (by omega) fun oa oc h2 μ2 ρ2 O2 W2 => ?_
    simp only [oB_some, bC_true, bC_false, vInt_int, vBool_bool, vStr_string, vPtr_pointer, vSl_slice, vMap_map, vFun_func, vAgg_agg, vTup_tuple, vIfc_nil, vIfc_iface, lC_cons, lN_nil, aP_some, shO_none, shO_some, Option.isNone_none, Option.isNone_some, Bool.not_true, Bool.not_false]
    rw [wrapS (by omega), ← List.length_append]
    refine ih (j + 1) (by omega) (by omega) O2 (W2.eq (by simp)) hco (by simp; omega) ?_
    rw [hd, List.flatMap_cons, ← List.append_assoc] at hq
    exact hq
theorem concat_size {parts : List Part} {a : Option Addr} {c : Nat} (O : Own h μ ρ) (X : Rd ρ [] a (parts.map Part.cell)) (hp : ∀ p, p ∈ parts → Rd ρ [] p.a (strs p.x)) (ht : total parts ≤ 1000000000) (hl : parts.length ≤ 1000000) (hq : NewS Q ρ (parts.flatMap Part.x)) :
    ∀ (n j s : Nat), parts.length - j = n → j ≤ parts.length → s + total (parts.drop j) = total parts →
      unitAt P f_slices_Concat_sl_string_string 3 [0, 3, 9, 10, 11] [.slice a parts.length c, .int .i64 (s : Int), .slice a parts.length c, .int .i64 (parts.length : Int), .int .i64 (j : Int)] h Q := by
  intro n
  induction n with
  | zero =>
    intro j s hn hj hs
    refine r_slices_Concat_sl_string_string_3 ?_
    rw [geI (by omega)]
    simp only [oB_some, bC_true, bC_false, vInt_int, vBool_bool, vStr_string, vPtr_pointer, vSl_slice, vMap_map, vFun_func, vAgg_agg, vTup_tuple, vIfc_nil, vIfc_iface, lC_cons, lN_nil, aP_some, shO_none, shO_some, Option.isNone_none, Option.isNone_some, Bool.not_true, Bool.not_false]
    rw [List.drop_eq_nil_of_le (by omega)] at hs
    have hs : s = total parts := hs
    subst hs
    refine grow_nil O ht fun h1 μ1 ρ1 co oa oc O1 W1 hco => ?_
    simp only [oB_some, bC_true, bC_false, vInt_int, vBool_bool, vStr_string, vPtr_pointer, vSl_slice, vMap_map, vFun_func, vAgg_agg, vTup_tuple, vIfc_nil, vIfc_iface, lC_cons, lN_nil, aP_some, shO_none, shO_some, Option.isNone_none, Option.isNone_some, Bool.not_true, Bool.not_false]
    exact concat_loop X hp ht hl _ 0 (out := []) rfl (by omega) O1 W1 hco (by simpa using ht) (by simpa using hq)
  | succ n ih =>
    intro j s hn hj hs
    have hlt : j < parts.length := by omega
    have hd : parts.drop j = parts[j] :: parts.drop (j + 1) := List.drop_eq_getElem_cons hlt
    refine r_slices_Concat_sl_string_string_3 ?_
    rw [ltI hlt]
    simp only [oB_some, bC_true, bC_false, vInt_int, vBool_bool, vStr_string, vPtr_pointer, vSl_slice, vMap_map, vFun_func, vAgg_agg, vTup_tuple, vIfc_nil, vIfc_iface, lC_cons, lN_nil, aP_some, shO_none, shO_some, Option.isNone_none, Option.isNone_some, Bool.not_true, Bool.not_false]
    refine (X.sl O).at1 (v := parts[j].cell) rfl (by simp) (by simp [hlt]) ?_
    simp only [Part.cell, oB_some, bC_true, bC_false, vInt_int, vBool_bool, vStr_string, vPtr_pointer, vSl_slice, vMap_map, vFun_func, vAgg_agg, vTup_tuple, vIfc_nil, vIfc_iface, lC_cons, lN_nil, aP_some, shO_none, shO_some, Option.isNone_none, Option.isNone_some, Bool.not_true, Bool.not_false]
    rw [hd, total_cons] at hs
    rw [show IntKind.wrap .i64 ((s : Int) + (parts[j].x.length : Int)) = ((s + parts[j].x.length : Nat) : Int) from by rw [wrap_small (n := (s : Int) + (parts[j].x.length : Int)) (by omega) (by omega)]; omega]
    rw [show decide (((s + parts[j].x.length : Nat) : Int) < 0) = false from decide_eq_false (by omega), wrapS (by omega)]
    simp only [oB_some, bC_true, bC_false, vInt_int, vBool_bool, vStr_string, vPtr_pointer, vSl_slice, vMap_map, vFun_func, vAgg_agg, vTup_tuple, vIfc_nil, vIfc_iface, lC_cons, lN_nil, aP_some, shO_none, shO_some, Option.isNone_none, Option.isNone_some, Bool.not_true, Bool.not_false]
    exact ih (j + 1) _ (by omega) (by omega) (by omega)
theorem concat_ok {parts : List Part} {a : Option Addr} {c : Nat} (O : Own h μ ρ) (X : Rd ρ [] a (parts.map Part.cell)) (hp : ∀ p, p ∈ parts → Rd ρ [] p.a (strs p.x)) (ht : total parts ≤ 1000000000) (hl : parts.length ≤ 1000000) (hq : NewS Q ρ (parts.flatMap Part.x)) :
    EvQ P f_slices_Concat_sl_string_string [.slice a parts.length c] h Q :=
  r_slices_Concat_sl_string_string (concat_size O X hp ht hl hq _ 0 0 rfl (by omega) (by simp))

theorem min_loop {a : Option Addr} {x : List Str} {c : Nat} (X : Strs h a x) (hx : x.length < 1000000001) :
    ∀ (n k : Nat) (cur : Str), x.length - k = n → k ≤ x.length → Q (.string ((x.drop k).foldl (fun c t => if leqS c t then c else t) cur)) h →
      unitAt P f_slices_Min_sl_string_string 5 [0, 3, 4] [.slice a x.length c, .string cur, .int .i64 (k : Int)] h Q := by
  intro n
  induction n with
  | zero =>
    intro k cur hn hk hq
    refine r_slices_Min_sl_string_string_5 ?_
    rw [geI (by omega)]
    simp only [oB_some, bC_true, bC_false, vInt_int, vBool_bool, vStr_string, vPtr_pointer, vSl_slice, vMap_map, vFun_func, vAgg_agg, vTup_tuple, vIfc_nil, vIfc_iface, lC_cons, lN_nil, aP_some, shO_none, shO_some, Option.isNone_none, Option.isNone_some, Bool.not_true, Bool.not_false]
    rw [List.drop_eq_nil_of_le (by omega)] at hq
    exact hq
  | succ n ih =>
    intro k cur hn hk hq
    have hlt : k < x.length := by omega
    refine r_slices_Min_sl_string_string_5 ?_
    rw [ltI hlt]
    simp only [oB_some, bC_true, bC_false, vInt_int, vBool_bool, vStr_string, vPtr_pointer, vSl_slice, vMap_map, vFun_func, vAgg_agg, vTup_tuple, vIfc_nil, vIfc_iface, lC_cons, lN_nil, aP_some, shO_none, shO_some, Option.isNone_none, Option.isNone_some, Bool.not_true, Bool.not_false]
    refine sat1 X rfl rfl hlt ?_
    rw [wrapS (by omega)]
    rw [List.drop_eq_getElem_cons hlt] at hq
    exact ih (k + 1) _ (by omega) (by omega) hq
theorem min_ok {a : Option Addr} {x : List Str} {c : Nat} (X : Strs h a x) (hx : x.length < 1000000001) (h0 : 0 < x.length) (hq : Q (.string (minS x)) h) : EvQ P f_slices_Min_sl_string_string [.slice a x.length c] h Q := by
  refine r_slices_Min_sl_string_string ?_
  rw [show decide ((x.length : Int) < 1) = false from decide_eq_false (by omega)]
  simp only [oB_some, bC_true, bC_false, vInt_int, vBool_bool, vStr_string, vPtr_pointer, vSl_slice, vMap_map, vFun_func, vAgg_agg, vTup_tuple, vIfc_nil, vIfc_iface, lC_cons, lN_nil, aP_some, shO_none, shO_some, Option.isNone_none, Option.isNone_some, Bool.not_true, Bool.not_false]
  refine sat1 (j := 0) X rfl rfl h0 ?_
  refine min_loop X hx _ 1 _ rfl (by omega) ?_
  have : x.headD e0 = x[0] := by cases x with | nil => simp at h0 | cons y x => rfl
  unfold minS at hq; rw [this] at hq; exact hq

/-- A test of strings. -/
def Tests (f : FuncId) (l1 l2 : List Value) (p : Str → Bool) (c : Nat) (ρ : Store) : Prop :=
  ∀ h' μ' ρ' s Q', Own h' μ' ρ' → Fra [c] ρ ρ' → Q' (.bool (p s)) h' → EvQ P f (l1 ++ .string s :: l2) h' Q'
theorem indexf_loop {f : FuncId} {l1 l2 : List Value} {p : Str → Bool} {c0 : Nat} {a : Option Addr} {x : List Str} {c : Nat} (T : Tests f l1 l2 p c0 ρ) (O : Own h μ ρ) (X : Strs h a x) (hx : x.length < 1000000001) (hq : Q (.int .i64 (match x.findIdx? p with | some j => (j : Int) | none => -1)) h) :
    ∀ (n k : Nat), x.length - k = n → k ≤ x.length → (∀ j (hj : j < x.length), j < k → p x[j] = false) → unitAt P f_slices_IndexFunc_sl_string_string 2 [0, 1, 7, 8] [.slice a x.length c, .func (.func f) ⟨l1⟩ ⟨l2⟩, .int .i64 (x.length : Int), .int .i64 (k : Int)] h Q := by
  intro n
  induction n with
  | zero =>
    intro k hn hk he
    refine r_slices_IndexFunc_sl_string_string_2 ?_
    rw [geI (by omega)]
    simp only [oB_some, bC_true, bC_false, vInt_int, vBool_bool, vStr_string, vPtr_pointer, vSl_slice, vMap_map, vFun_func, vAgg_agg, vTup_tuple, vIfc_nil, vIfc_iface, lC_cons, lN_nil, aP_some, shO_none, shO_some, Option.isNone_none, Option.isNone_some, Bool.not_true, Bool.not_false]
    rw [List.findIdx?_eq_none_iff.2 fun t ht => ?_] at hq
    · exact hq
    · obtain ⟨j, hj, e⟩ := List.getElem_of_mem ht
      rw [← e]; exact he j hj (by omega)
  | succ n ih =>
    intro k hn hk he
    refine r_slices_IndexFunc_sl_string_string_2 ?_
    have hlt : k < x.length := by omega
    rw [ltI hlt]
    simp only [oB_some, bC_true, bC_false, vInt_int, vBool_bool, vStr_string, vPtr_pointer, vSl_slice, vMap_map, vFun_func, vAgg_agg, vTup_tuple, vIfc_nil, vIfc_iface, lC_cons, lN_nil, aP_some, shO_none, shO_some, Option.isNone_none, Option.isNone_some, Bool.not_true, Bool.not_false]
    refine sat1 X rfl rfl hlt ?_
    refine T _ _ _ _ _ O Fra.refl ?_
    simp only [oB_some, bC_true, bC_false, vInt_int, vBool_bool, vStr_string, vPtr_pointer, vSl_slice, vMap_map, vFun_func, vAgg_agg, vTup_tuple, vIfc_nil, vIfc_iface, lC_cons, lN_nil, aP_some, shO_none, shO_some, Option.isNone_none, Option.isNone_some, Bool.not_true, Bool.not_false]
    refine bC_iff (fun e => ?_) (fun e => ?_)
    · rw [List.findIdx?_eq_some_iff_getElem.2 ⟨hlt, e, fun j hj => by simpa using he j (by omega) hj⟩] at hq
      exact hq
    · rw [wrapS (by omega)]
      exact ih (k + 1) (by omega) (by omega) fun j hj hjk => by
        rcases Nat.lt_or_ge j k with h1 | h1
        · exact he j hj h1
        · have : j = k := by omega
          subst this; exact e
theorem del_loop {f : FuncId} {l1 l2 : List Value} {p : Str → Bool} {c0 : Nat} {b off cap : Nat} {x : List Str} (T : Tests f l1 l2 p c0 ρ) (hx : x.length < 1000000001)
    (hq : ∀ h' μ' ρ', Own h' μ' ρ' → Pcs ρ ρ' [c0] [.sl (some ⟨b, off, none⟩) cap 1 (strs (x.filter fun s => !p s))] → Q (.slice (some ⟨b, off, none⟩) (x.filter fun s => !p s).length cap) h') :
    ∀ (n i j : Nat) {h : AW} {μ : Paint} {ρ' : Store} {y : List Str}, x.length - j = n → i < j → j ≤ x.length → Own h μ ρ' → Pcs ρ ρ' [c0] [.sl (some ⟨b, off, none⟩) cap 1 (strs y)] → y.length = x.length → y.take i = (x.take j).filter (fun s => !p s) → y.drop j = x.drop j → i ≤ y.length →
      unitAt P f_slices_DeleteFunc_sl_string_string 5 [0, 1, 5, 6] [.slice (some ⟨b, off, none⟩) x.length cap, .func (.func f) ⟨l1⟩ ⟨l2⟩, .int .i64 (i : Int), .int .i64 (j : Int)] h Q := by
  intro n
  induction n with
  | zero =>
    intro i j h μ ρ' y hn hij hj O W hy ht hd hiy
    refine r_slices_DeleteFunc_sl_string_string_5 ?_
    rw [geI (by omega)]
    have hcap := w_cap O W 0 rfl
    simp only [List.length_map, Nat.mul_one] at hcap
    simp only [oB_some, bC_true, bC_false, vInt_int, vBool_bool, vStr_string, vPtr_pointer, vSl_slice, vMap_map, vFun_func, vAgg_agg, vTup_tuple, vIfc_nil, vIfc_iface, lC_cons, lN_nil, aP_some, shO_none, shO_some, Option.isNone_none, Option.isNone_some, Bool.not_true, Bool.not_false]
    rw [natBnd_eq (show i ≤ x.length by omega)]
    simp only [oB_some, bC_true, bC_false, vInt_int, vBool_bool, vStr_string, vPtr_pointer, vSl_slice, vMap_map, vFun_func, vAgg_agg, vTup_tuple, vIfc_nil, vIfc_iface, lC_cons, lN_nil, aP_some, shO_none, shO_some, Option.isNone_none, Option.isNone_some, Bool.not_true, Bool.not_false, Nat.ble_eq_true_of_le (show x.length ≤ cap by omega)]
    refine w_clear (P := P) O W 0 (n := x.length - i) (k := i) ti_ty_sl_string ti_ty_string rfl rfl (by simp; omega) ?_ fun h2 ρ2 O2 W2 => ?_
    · show allOne (rep [.string _] _) = true
      rw [rep_one]; exact allOne_of fun v hv => by rw [(List.mem_replicate.1 hv).2]; rfl
    rw [natBnd_eq (show i ≤ cap by omega)]
    simp only [oB_some, bC_true, bC_false, vInt_int, vBool_bool, vStr_string, vPtr_pointer, vSl_slice, vMap_map, vFun_func, vAgg_agg, vTup_tuple, vIfc_nil, vIfc_iface, lC_cons, lN_nil, aP_some, shO_none, shO_some, Option.isNone_none, Option.isNone_some, Bool.not_true, Bool.not_false, Nat.ble_eq_true_of_le (show i ≤ cap by omega)]
    obtain ⟨ρ3, O3, W3⟩ := w_take O2 W2 0 rfl i
    have e : j = x.length := by omega
    subst e
    rw [List.take_length] at ht
    have hlen : (x.filter fun s => !p s).length = i := by rw [← ht, List.length_take]; omega
    have := hq h2 μ ρ3 O3 (W3.eq (by
      simp only [List.set_cons_zero, List.cons.injEq, and_true, Nat.mul_one]
      rw [setAll_take, ← List.map_take, ht]))
    rw [hlen] at this
    exact this
  | succ n ih =>
    intro i j h μ ρ' y hn hij hj O W hy ht hd hiy
    have hlt : j < x.length := by omega
    refine r_slices_DeleteFunc_sl_string_string_5 ?_
    rw [ltI hlt]
    simp only [bC_true]
    have hyj : y[j]'(by omega) = x[j] := by
      have h1 : y[j]? = x[j]? := by
        have := congrArg (fun l => l[0]?) hd
        simpa using this
      rw [List.getElem?_eq_getElem hlt, List.getElem?_eq_getElem (by omega)] at h1
      exact Option.some.inj h1
    refine sat1 (w_sl O W 0 rfl) rfl hy.symm (by omega) ?_
    simp only [vFun_func]
    refine T _ _ _ _ _ O W.fra ?_
    simp only [vBool_bool]
    rw [wrapS (j := j) (by omega), hyj]
    refine bC_iff (fun e => ?_) (fun e => ?_)
    · have e : p x[j] = false := by simpa using e
      refine w_i1_wr O W 0 (j := i) rfl rfl (by simp [hy]) (by simp; omega) rfl fun h2 ρ2 O2 W2 => ?_
      rw [wrapS (j := i) (by omega)]
      refine ih (i + 1) (j + 1) (y := y.set i x[j]) (by omega) (by omega) (by omega) O2 (W2.eq (by simp [List.map_set])) (by simpa using hy) ?_ ?_ (by simp; omega)
      · rw [List.take_succ_eq_append_getElem (by simp; omega), List.take_set_of_le (by omega), ht, List.take_succ_eq_append_getElem hlt, List.filter_append]
        simp [e]
      · rw [List.drop_set_of_lt (by omega)]
        have := congrArg (List.drop 1) hd
        simpa [List.drop_drop, Nat.add_comm] using this
    · have e : p x[j] = true := by simpa using e
      refine ih i (j + 1) (by omega) (by omega) (by omega) O W hy ?_ ?_ hiy
      · rw [ht, List.take_succ_eq_append_getElem hlt, List.filter_append]
        simp [e]
      · have := congrArg (List.drop 1) hd
        simpa [List.drop_drop, Nat.add_comm] using this
theorem del_ok {f : FuncId} {l1 l2 : List Value} {p : Str → Bool} {c0 : Nat} {a : Option Addr} {cap : Nat} {x : List Str} (T : Tests f l1 l2 p c0 ρ) (hx : x.length < 1000000001) (O : Own h μ ρ) (hc : ρ c0 = some (.sl a cap 1 (strs x)))
    (hq : ∀ h' μ' ρ', Own h' μ' ρ' → Pcs ρ ρ' [c0] [.sl a cap 1 (strs (x.filter fun s => !p s))] → Q (.slice a (x.filter fun s => !p s).length cap) h') :
    EvQ P f_slices_DeleteFunc_sl_string_string [.slice a x.length cap, .func (.func f) ⟨l1⟩ ⟨l2⟩] h Q := by
  have W : Pcs ρ ρ [c0] [.sl a cap 1 (strs x)] := Pcs.init (by simp) rfl (by
    intro i c r h1 h2
    cases i with
    | zero => simp at h1 h2; subst h1 h2; exact hc
    | succ i => simp at h1)
  refine r_slices_DeleteFunc_sl_string_string ?_
  refine r_slices_IndexFunc_sl_string_string ?_
  refine indexf_loop T O (O.sl hc) hx ?_ x.length 0 (by omega) (by omega) (by intro j _ hj; omega)
  simp only [vInt_int]
  cases e : x.findIdx? p with
  | none =>
    have := List.findIdx?_eq_none_iff.1 e
    have hf : (x.filter fun s => !p s) = x := List.filter_eq_self.2 fun s hs => by simp [this s hs]
    simp only [show ((-1 : Int) == Int.negSucc 0) = true from rfl, bC_true]
    have := hq h μ ρ O (W.eq (by rw [hf]))
    rw [hf] at this; exact this
  | some j =>
    obtain ⟨hj, h1, h2⟩ := List.findIdx?_eq_some_iff_getElem.1 e
    simp only
    rw [show ((j : Int) == Int.negSucc 0) = false from by simp]
    simp only [bC_false]
    rw [wrapS (by omega)]
    obtain ⟨b, off, rfl⟩ : ∃ b off, a = some ⟨b, off, none⟩ := by
      rcases O.sl hc with ⟨_, e⟩ | ⟨i, off, e, _⟩
      · simp at e; subst e; simp at hj
      · exact ⟨i, off, e⟩
    refine del_loop T hx hq _ j (j + 1) rfl (by omega) hj O W rfl ?_ rfl (by omega)
    rw [List.take_succ_eq_append_getElem hj, List.filter_append]
    simp only [h1, Bool.not_true, List.filter_cons, Bool.false_eq_true, if_false, List.filter_nil, List.append_nil]
    refine (List.filter_eq_self.2 fun s hs => ?_).symm
    obtain ⟨k, hk, e2⟩ := List.getElem_of_mem hs
    rw [List.length_take] at hk
    have := h2 k (by omega)
    rw [List.getElem_take] at e2
    rw [← e2]; simpa using this
end Go.Proofs.YtgdkekdedgkglaaDoor
end
