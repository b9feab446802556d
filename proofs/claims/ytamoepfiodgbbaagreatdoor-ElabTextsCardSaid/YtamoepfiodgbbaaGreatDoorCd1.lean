/- A deterministic heap for the model, proved sound, and walks of the program over it: part 7. No condition. -/
import Derived.Test.YtamoepfiodgbbaaGreatDoorAb1
import Derived.Test.YtamoepfiodgbbaaGreatDoorAb2
import Derived.Test.YtamoepfiodgbbaaGreatDoorAb3
import Derived.Test.YtamoepfiodgbbaaGreatDoorAb6
import Derived.Test.YtamoepfiodgbbaaGreatDoorAb4
import Derived.Test.YtamoepfiodgbbaaGreatDoorProg
import Derived.Test.YtamoepfiodgbbaaGreatDoorAb5
set_option linter.unusedVariables false
set_option linter.unusedSimpArgs false
set_option linter.unusedSectionVars false
section
/- Names of functions and types. -/
namespace Go.Proofs.YtamoepfiodgbbaaGreatDoor
open Go.Abs
noncomputable abbrev P : Program := Tryz.prog
def f_brickyardlaw15_ElabTexts : Nat := 7
def f_brickyardlaw15_works : Nat := 8
def f_lex_Show : Nat := 9
def f_lex_Quote : Nat := 12
def f_brickyardref15_Texts : Nat := 16
def f_path_Is : Nat := 22
def f_brickyardlaw15_big : Nat := 27
def f_elab_JobText : Nat := 28
def f_brickyardref15_JobText : Nat := 29
def f_action_May : Nat := 30
def f_brickyardlaw15_paths : Nat := 31
def f_action_Same : Nat := 32
def f_lex_Plain : Nat := 34
def f_p_strings_Builder_WriteByte : Nat := 38
def f_p_strings_Builder_WriteString : Nat := 39
def f_p_strings_Builder_String : Nat := 40
def f_strings_Cut : Nat := 49
def f_path_segment : Nat := 50
def f_brickyardlaw15_weight : Nat := 52
def f_strings_Join : Nat := 53
def f_action_Print : Nat := 54
def f_strings_SplitAfter : Nat := 55
def f_brickyardref11_Show : Nat := 56
def f_brickyardref13_Lines : Nat := 57
def f_action_right : Nat := 58
def f_action_Size : Nat := 59
def f_slices_EqualFunc_sl_api_Stmt_sl_api_Stmt_api_Stmt_api_Stmt : Nat := 60
def f_action_Same_fn1 : Nat := 61
def f_slices_Equal_sl_string_string : Nat := 62
def f_lex_bare : Nat := 66
def f_p_strings_Builder_copyCheck : Nat := 73
def f_strings_Count : Nat := 74
def f_stringslite_Cut : Nat := 89
def f_path_may : Nat := 90
def f_p_strings_Builder_Grow : Nat := 91
def f_action_Lines : Nat := 92
def f_strings_genSplit : Nat := 93
def f_brickyardref11_Plain : Nat := 94
def f_brickyardref11_Quote : Nat := 95
def f_brickyardref13_May : Nat := 96
def f_brickyardref13_all : Nat := 97
def f_action_fits : Nat := 98
def f_action_opens : Nat := 99
def f_abi_NoEscape : Nat := 107
def f_unicode_utf8_RuneCountInString : Nat := 108
def f_bytealg_CountString : Nat := 109
def f_strings_Index : Nat := 110
def f_stringslite_Index : Nat := 122
def f_p_strings_Builder_grow : Nat := 123
def f_action_lines : Nat := 124
def f_strings_explode : Nat := 125
def f_brickyardref11_Bare : Nat := 126
def f_brickyardref13_one : Nat := 127
def f_brickyardref13_Size : Nat := 128
def f_brickyardref13_Deep : Nat := 129
def f_brickyardref13_Word : Nat := 130
def f_brickyardref13_Digits : Nat := 131
def f_brickyardref13_Opens : Nat := 132
def f_stringslite_IndexByte : Nat := 141
def f_action_word : Nat := 144
def f_action_number : Nat := 145
def f_bytealg_IndexString : Nat := 146
def f_bytealg_MakeNoZero : Nat := 149
def f_strconv_Itoa : Nat := 150
def f_brickyardref13_Args : Nat := 152
def f_math_bits_Len64 : Nat := 163
def f_bytealg_IndexByteString : Nat := 165
def f_strconv_Itoa_168 : Nat := 168
def f_strconv_FormatInt : Nat := 178
def f_strconv_small : Nat := 185
def f_strconv_numDigits : Nat := 186
def f_strconv_formatBase10 : Nat := 187
def f_strconv_formatBits : Nat := 188
def f_strconv_log10Pow2 : Nat := 192
def f_strconv_bool2_int : Nat := 193
def ty_int : Nat := 3
def ty_uint8 : Nat := 5
def ty_string : Nat := 9
def ty_sl_string : Nat := 22
def ty_sl_uint8 : Nat := 58
def ty_p_strings_Builder : Nat := 93
def ty_strings_Builder : Nat := 95
def ty_sl_sl_string : Nat := 117
def ty_p_uint8 : Nat := 145
def ty_unsafe_Pointer : Nat := 170
def ty_24_uint8 : Nat := 226
theorem ti_ty_uint8 : tiOf P ty_uint8 = some (TI.mk (TypeDesc.int IntKind.u8) false 1 1 (some (Value.int IntKind.u8 (Int.ofNat 0)))) := by kernel_rfl
theorem ti_ty_string : tiOf P ty_string = some (TI.mk TypeDesc.string false 1 16 (some (Value.string (ByteArray.mk (Array.mk []))))) := by kernel_rfl
theorem ti_ty_sl_string : tiOf P ty_sl_string = some (TI.mk (TypeDesc.slice ty_string) false 1 24 (some (Value.slice none 0 0))) := by kernel_rfl
theorem ti_ty_sl_uint8 : tiOf P ty_sl_uint8 = some (TI.mk (TypeDesc.slice ty_uint8) false 1 24 (some (Value.slice none 0 0))) := by kernel_rfl
theorem ti_ty_p_strings_Builder : tiOf P ty_p_strings_Builder = some (TI.mk (TypeDesc.pointer ty_strings_Builder) false 1 8 (some (Value.pointer none))) := by kernel_rfl
theorem ti_ty_strings_Builder : tiOf P ty_strings_Builder = some (TI.mk (TypeDesc.struct (Array.mk [Field.mk "addr" ty_p_strings_Builder 0 false "" "strings" 0, Field.mk "buf" ty_sl_uint8 1 false "" "strings" 8])) true 2 32 (some (Value.agg (Array.mk [Value.pointer none, Value.slice none 0 0])))) := by kernel_rfl
theorem ti_ty_sl_sl_string : tiOf P ty_sl_sl_string = some (TI.mk (TypeDesc.slice ty_sl_string) false 1 24 (some (Value.slice none 0 0))) := by kernel_rfl
theorem ti_ty_p_uint8 : tiOf P ty_p_uint8 = some (TI.mk (TypeDesc.pointer ty_uint8) false 1 8 (some (Value.pointer none))) := by kernel_rfl
theorem ti_ty_unsafe_Pointer : tiOf P ty_unsafe_Pointer = some (TI.mk TypeDesc.unsafePointer false 1 8 (some (Value.pointer none))) := by kernel_rfl
theorem ti_ty_24_uint8 : tiOf P ty_24_uint8 = some (TI.mk (TypeDesc.array 24 ty_uint8) true 24 24 (some (Value.agg (Array.mk [Value.int IntKind.u8 (Int.ofNat 0), Value.int IntKind.u8 (Int.ofNat 0), Value.int IntKind.u8 (Int.ofNat 0), Value.int IntKind.u8 (Int.ofNat 0), Value.int IntKind.u8 (Int.ofNat 0), Value.int IntKind.u8 (Int.ofNat 0), Value.int IntKind.u8 (Int.ofNat 0), Value.int IntKind.u8 (Int.ofNat 0), Value.int IntKind.u8 (Int.ofNat 0), Value.int IntKind.u8 (Int.ofNat 0), Value.int IntKind.u8 (Int.ofNat 0), Value.int IntKind.u8 (Int.ofNat 0), Value.int IntKind.u8 (Int.ofNat 0), Value.int IntKind.u8 (Int.ofNat 0), Value.int IntKind.u8 (Int.ofNat 0), Value.int IntKind.u8 (Int.ofNat 0), Value.int IntKind.u8 (Int.ofNat 0), Value.int IntKind.u8 (Int.ofNat 0), Value.int IntKind.u8 (Int.ofNat 0), Value.int IntKind.u8 (Int.ofNat 0), Value.int IntKind.u8 (Int.ofNat 0), Value.int IntKind.u8 (Int.ofNat 0), Value.int IntKind.u8 (Int.ofNat 0), Value.int IntKind.u8 (Int.ofNat 0)])))) := by kernel_rfl
end Go.Proofs.YtamoepfiodgbbaaGreatDoor
end

section
/- Rules of walks, printed by a program of ours: group Lib. -/
namespace Go.Proofs.YtamoepfiodgbbaaGreatDoor
open Go.Abs
set_option maxRecDepth 100000
theorem r_slices_Equal_sl_string_string {p1 : Option Addr} {m2 : Nat} {m3 : Nat} {p4 : Option Addr} {m5 : Nat} {m6 : Nat} {h : AW} {Q : Value → AW → Prop} (H : bC ((↑m2 : Int) != (↑m5 : Int)) (Q
  (Value.bool false) h) (unitAt P f_slices_Equal_sl_string_string 4 [0, 1, 12, 13] [Value.slice p1 m2 m3, Value.slice p4 m5 m6, Value.int IntKind.i64 (↑m2 : Int), Value.int IntKind.i64 0] h Q)) : EvQ P f_slices_Equal_sl_string_string
  [Value.slice p1 m2 m3, Value.slice p4 m5 m6] h Q := fn_ok (n := 400) (ann := annOf [(4, [0, 1, 12, 13])]) (Eq.mp (by kernel_rfl) H)
theorem r_slices_Equal_sl_string_string_4 {p1 : Option Addr} {m2 : Nat} {m3 : Nat} {p4 : Option Addr} {m5 : Nat} {m6 : Nat} {n7 : Int} {n8 : Int} {h : AW} {Q : Value → AW → Prop} (H : bC (decide (n8 < n7))
  (aP p1 fun m9 m10 => oB (natIdx n8 m2) fun m11 => oB (AW.rd h m9 (m10 + m11 * 1)) fun v12 => vStr v12 fun s13 => aP p4 fun m14 m15 => oB (natIdx n8 m5) fun m16 => oB (AW.rd h m14
  (m15 + m16 * 1)) fun v17 => vStr v17 fun s18 => bC (!bEq s13 s18) (Q (Value.bool false) h) (unitAt P f_slices_Equal_sl_string_string 4 [0, 1, 12, 13] [Value.slice p1 m2 m3, Value.slice p4 m5 m6, Value.int
  IntKind.i64 n7, Value.int IntKind.i64 (IntKind.wrap IntKind.i64 (n8 + 1))] h Q)) (Q (Value.bool true) h)) : unitAt P f_slices_Equal_sl_string_string 4 [0, 1, 12, 13] [Value.slice p1 m2 m3, Value.slice p4
  m5 m6, Value.int IntKind.i64 n7, Value.int IntKind.i64 n8] h Q := unit_ok (n := 400) (ann := annOf [(4, [0, 1, 12, 13])]) (Eq.mp (by kernel_rfl) H)
end Go.Proofs.YtamoepfiodgbbaaGreatDoor
end

section
/- What the library's functions on slices of strings come to. -/
namespace Go.Proofs.YtamoepfiodgbbaaGreatDoor
open Go.Abs Go.Abs.Sch
set_option maxRecDepth 100000
attribute [local irreducible] unitAt EvQ
variable {h : AW} {μ : Paint} {ρ : Store} {Q : Value → AW → Prop}
theorem p0 : Pcs ρ ρ [] [] := Pcs.init List.nodup_nil rfl (by intro i c r h; simp at h)
/-- Slices behind one another. -/
structure Part where
  a : Option Addr
  cap : Nat
  x : List Str
def Part.cell (p : Part) : Value := .slice p.a p.x.length p.cap
/-- A test of strings. -/
def Tests (f : FuncId) (l1 l2 : List Value) (p : Str → Bool) (c : Nat) (ρ : Store) : Prop :=
  ∀ h' μ' ρ' s Q', Own h' μ' ρ' → Fra [c] ρ ρ' → Q' (.bool (p s)) h' → EvQ P f (l1 ++ .string s :: l2) h' Q'
end Go.Proofs.YtamoepfiodgbbaaGreatDoor
end

section
/- Rules of walks, printed by a program of ours: group Act. -/
namespace Go.Proofs.YtamoepfiodgbbaaGreatDoor
open Go.Abs
set_option maxRecDepth 100000
attribute [local irreducible] kFn kUnit EvQ unitAt
theorem r_action_Same {p1 : Option Addr} {m2 : Nat} {m3 : Nat} {p4 : Option Addr} {m5 : Nat} {m6 : Nat} {h : AW} {Q : Value → AW → Prop} (H : EvQ P f_slices_EqualFunc_sl_api_Stmt_sl_api_Stmt_api_Stmt_api_Stmt [Value.slice p1 m2 m3, Value.slice
  p4 m5 m6, Value.func (Fn.func f_action_Same_fn1) (Array.mk []) (Array.mk [])] h fun v7 h8 => vBool v7 fun b9 => Q (Value.bool b9) h8) : EvQ P f_action_Same [Value.slice p1 m2 m3, Value.slice p4 m5 m6]
  h Q := fn_ok (n := 400) (ann := annOf []) (Eq.mp (by kernel_rfl) H)
theorem r_action_May {p1 : Option Addr} {m2 : Nat} {m3 : Nat} {h : AW} {Q : Value → AW → Prop} (H : EvQ P f_action_right [Value.slice p1 m2 m3, Value.int IntKind.i64 0] h fun v4 h5 => vBool v4 fun
  b6 => bC b6 (EvQ P f_action_Size [Value.slice p1 m2 m3] h5 fun v7 h8 => vInt IntKind.i64 v7 fun n9 => Q (Value.bool (decide (n9 ≤ 256))) h8) (Q (Value.bool false) h5)) : EvQ P f_action_May
  [Value.slice p1 m2 m3] h Q := fn_ok (n := 400) (ann := annOf []) (Eq.mp (by kernel_rfl) H)
theorem r_action_Lines {p1 : Option Addr} {m2 : Nat} {m3 : Nat} {h : AW} {Q : Value → AW → Prop} (H : EvQ P f_action_May [Value.slice p1 m2 m3] h fun v4 h5 => vBool v4 fun b6 => bC (!b6) (Q
  (Value.tuple (Array.mk [Value.slice none 0 0, Value.int IntKind.i64 2])) h5) (EvQ P f_action_lines [Value.slice p1 m2 m3] h5 fun v7 h8 => vSl v7 fun p9 m10 m11 => Q (Value.tuple (Array.mk
  [Value.slice p9 m10 m11, Value.int IntKind.i64 0])) h8)) : EvQ P f_action_Lines [Value.slice p1 m2 m3] h Q := fn_ok (n := 400) (ann := annOf []) (Eq.mp (by kernel_rfl) H)
theorem r_action_Size {p1 : Option Addr} {m2 : Nat} {m3 : Nat} {h : AW} {Q : Value → AW → Prop} (H : unitAt P f_action_Size 3 [3, 8, 9, 10] [Value.int IntKind.i64 (↑m2 : Int), Value.slice p1 m2
  m3, Value.int IntKind.i64 (↑m2 : Int), Value.int IntKind.i64 0] h Q) : EvQ P f_action_Size [Value.slice p1 m2 m3] h Q := fn_ok (n := 400) (ann := annOf [(3, [3, 8, 9, 10])]) (Eq.mp (by
  kernel_rfl) H)
theorem r_action_Size_3 {n1 : Int} {p2 : Option Addr} {m3 : Nat} {m4 : Nat} {n5 : Int} {n6 : Int} {h : AW} {Q : Value → AW → Prop} (H : bC (decide (n6 < n5)) (aP p2 fun m7 m8 => oB
  (natIdx n6 m3) fun m9 => oB (AW.rd h m7 (m8 + m9 * 4)) fun v10 => vInt IntKind.i64 v10 fun n11 => oB (AW.rd h m7 (m8 + m9 * 4 + 1)) fun v12 => vSl v12 fun p13 m14 m15 => oB
  (AW.rd h m7 (m8 + m9 * 4 + 1 + 1)) fun v16 => vInt IntKind.i64 v16 fun n17 => oB (AW.rd h m7 (m8 + m9 * 4 + 1 + 1 + 1)) fun v18 => vSl v18 fun p19 m20 m21 => oB (AW.wrL
  (AW.addVar h [Value.int IntKind.i64 0, Value.slice none 0 0, Value.int IntKind.i64 0, Value.slice none 0 0]) (AW.next h) 0 [Value.int IntKind.i64 n11, Value.slice p13 m14 m15,
  Value.int IntKind.i64 n17, Value.slice p19 m20 m21]) fun h22 => oB (AW.rd h22 (AW.next h) 3) fun v23 => vSl v23 fun p24 m25 m26 => EvQ P f_action_Size [Value.slice p24 m25 m26] h22 fun
  v27 h28 => vInt IntKind.i64 v27 fun n29 => unitAt P f_action_Size 3 [3, 8, 9, 10] [Value.int IntKind.i64 (IntKind.wrap IntKind.i64 (n1 + n29)), Value.slice p2 m3 m4, Value.int IntKind.i64
  n5, Value.int IntKind.i64 (IntKind.wrap IntKind.i64 (n6 + 1))] h28 Q) (Q (Value.int IntKind.i64 n1) h)) : unitAt P f_action_Size 3 [3, 8, 9, 10] [Value.int IntKind.i64 n1, Value.slice p2
  m3 m4, Value.int IntKind.i64 n5, Value.int IntKind.i64 n6] h Q := unit_ok (n := 400) (ann := annOf [(3, [3, 8, 9, 10])]) (Eq.mp (by kernel_rfl) H)
theorem r_action_Print {p1 : Option Addr} {m2 : Nat} {m3 : Nat} {h : AW} {Q : Value → AW → Prop} (H : EvQ P f_action_Lines [Value.slice p1 m2 m3] h fun v4 h5 => vTup v4 fun l6 => lC l6 fun v7 l8 =>
  vSl v7 fun p9 m10 m11 => lC l8 fun v12 l13 => vInt IntKind.i64 v12 fun n14 => lN l13 (bC (n14 != 0) (Q (Value.tuple (Array.mk [Value.string (ByteArray.mk #[]), Value.int
  IntKind.i64 n14])) h5) (unitAt P f_action_Print 6 [6, 19, 20, 21] [Value.pointer (some (Addr.mk (AW.next h5) 0 none)), Value.slice p9 m10 m11, Value.int IntKind.i64 (↑m10 : Int), Value.int
  IntKind.i64 0] (AW.tag (AW.addVar h5 [Value.pointer none, Value.slice none 0 0]) (AW.next h5) ty_strings_Builder) Q))) : EvQ P f_action_Print [Value.slice p1 m2 m3] h Q := fn_ok (n := 400) (ann :=
  annOf [(6, [6, 19, 20, 21]), (9, [6, 19, 20, 21, 25, 26, 27]), (13, [6, 10, 19, 20, 21, 25, 26, 27])]) (Eq.mp (by kernel_rfl) H)
theorem r_action_Print_6 {m1 : Nat} {p2 : Option Addr} {m3 : Nat} {m4 : Nat} {n5 : Int} {n6 : Int} {h : AW} {Q : Value → AW → Prop} (H : bC (decide (n6 < n5)) (aP p2 fun m7 m8 => oB
  (natIdx n6 m3) fun m9 => oB (AW.rd h m7 (m8 + m9 * 1)) fun v10 => vSl v10 fun p11 m12 m13 => unitAt P f_action_Print 9 [6, 19, 20, 21, 25, 26, 27] [Value.pointer (some (Addr.mk m1 0
  none)), Value.slice p2 m3 m4, Value.int IntKind.i64 n5, Value.int IntKind.i64 n6, Value.slice p11 m12 m13, Value.int IntKind.i64 (↑m12 : Int), Value.int IntKind.i64 0] h Q) (EvQ
  P f_p_strings_Builder_String [Value.pointer (some (Addr.mk m1 0 none))] h fun v14 h15 => vStr v14 fun s16 => Q (Value.tuple (Array.mk [Value.string s16, Value.int IntKind.i64 0])) h15)) : unitAt P
  f_action_Print 6 [6, 19, 20, 21] [Value.pointer (some (Addr.mk m1 0 none)), Value.slice p2 m3 m4, Value.int IntKind.i64 n5, Value.int IntKind.i64 n6] h Q := unit_ok (n := 400) (ann :=
  annOf [(6, [6, 19, 20, 21]), (9, [6, 19, 20, 21, 25, 26, 27]), (13, [6, 10, 19, 20, 21, 25, 26, 27])]) (Eq.mp (by kernel_rfl) H)
theorem r_action_Print_9 {m1 : Nat} {p2 : Option Addr} {m3 : Nat} {m4 : Nat} {n5 : Int} {n6 : Int} {p7 : Option Addr} {m8 : Nat} {m9 : Nat} {n10 : Int} {n11 : Int} {h : AW} {Q : Value → AW
  → Prop} (H : bC (decide (n11 < n10)) (aP p7 fun m12 m13 => oB (natIdx n11 m8) fun m14 => oB (AW.rd h m12 (m13 + m14 * 1)) fun v15 => vStr v15 fun s16 => bC (decide (n11 > 0))
  (EvQ P f_p_strings_Builder_WriteByte [Value.pointer (some (Addr.mk m1 0 none)), Value.int IntKind.u8 32] h fun v17 h18 => vIfc v17 (unitAt P f_action_Print 13 [6, 10, 19, 20, 21, 25, 26, 27] [Value.pointer (some
  (Addr.mk m1 0 none)), Value.string s16, Value.slice p2 m3 m4, Value.int IntKind.i64 n5, Value.int IntKind.i64 n6, Value.slice p7 m8 m9, Value.int IntKind.i64 n10, Value.int
  IntKind.i64 n11] h18 Q) fun m19 v20 => unitAt P f_action_Print 13 [6, 10, 19, 20, 21, 25, 26, 27] [Value.pointer (some (Addr.mk m1 0 none)), Value.string s16, Value.slice p2 m3 m4,
  Value.int IntKind.i64 n5, Value.int IntKind.i64 n6, Value.slice p7 m8 m9, Value.int IntKind.i64 n10, Value.int IntKind.i64 n11] h18 Q) (unitAt P f_action_Print 13 [6, 10, 19, 20, 21, 25,
  26, 27] [Value.pointer (some (Addr.mk m1 0 none)), Value.string s16, Value.slice p2 m3 m4, Value.int IntKind.i64 n5, Value.int IntKind.i64 n6, Value.slice p7 m8 m9, Value.int
  IntKind.i64 n10, Value.int IntKind.i64 n11] h Q)) (EvQ P f_p_strings_Builder_WriteByte [Value.pointer (some (Addr.mk m1 0 none)), Value.int IntKind.u8 10] h fun v21 h22 => vIfc v21 (unitAt P f_action_Print 6 [6,
  19, 20, 21] [Value.pointer (some (Addr.mk m1 0 none)), Value.slice p2 m3 m4, Value.int IntKind.i64 n5, Value.int IntKind.i64 (IntKind.wrap IntKind.i64 (n6 + 1))] h22 Q) fun m23
  v24 => unitAt P f_action_Print 6 [6, 19, 20, 21] [Value.pointer (some (Addr.mk m1 0 none)), Value.slice p2 m3 m4, Value.int IntKind.i64 n5, Value.int IntKind.i64 (IntKind.wrap IntKind.i64
  (n6 + 1))] h22 Q)) : unitAt P f_action_Print 9 [6, 19, 20, 21, 25, 26, 27] [Value.pointer (some (Addr.mk m1 0 none)), Value.slice p2 m3 m4, Value.int IntKind.i64 n5, Value.int IntKind.i64
  n6, Value.slice p7 m8 m9, Value.int IntKind.i64 n10, Value.int IntKind.i64 n11] h Q := unit_ok (n := 400) (ann := annOf [(6, [6, 19, 20, 21]), (9, [6, 19, 20, 21, 25, 26, 27]),
  (13, [6, 10, 19, 20, 21, 25, 26, 27])]) (Eq.mp (by kernel_rfl) H)
theorem r_action_Print_13 {m1 : Nat} {s2 : ByteArray} {p3 : Option Addr} {m4 : Nat} {m5 : Nat} {n6 : Int} {n7 : Int} {p8 : Option Addr} {m9 : Nat} {m10 : Nat} {n11 : Int} {n12 : Int} {h :
  AW} {Q : Value → AW → Prop} (H : EvQ P f_lex_Show [Value.string s2] h fun v13 h14 => vStr v13 fun s15 => EvQ P f_p_strings_Builder_WriteString [Value.pointer (some (Addr.mk m1 0 none)), Value.string s15] h14 fun
  v16 h17 => vTup v16 fun l18 => lC l18 fun v19 l20 => vInt IntKind.i64 v19 fun n21 => lC l20 fun v22 l23 => vIfc v22 (lN l23 (unitAt P f_action_Print 9 [6, 19, 20, 21, 25, 26, 27]
  [Value.pointer (some (Addr.mk m1 0 none)), Value.slice p3 m4 m5, Value.int IntKind.i64 n6, Value.int IntKind.i64 n7, Value.slice p8 m9 m10, Value.int IntKind.i64 n11, Value.int
  IntKind.i64 (IntKind.wrap IntKind.i64 (n12 + 1))] h17 Q)) fun m24 v25 => lN l23 (unitAt P f_action_Print 9 [6, 19, 20, 21, 25, 26, 27] [Value.pointer (some (Addr.mk m1 0 none)),
  Value.slice p3 m4 m5, Value.int IntKind.i64 n6, Value.int IntKind.i64 n7, Value.slice p8 m9 m10, Value.int IntKind.i64 n11, Value.int IntKind.i64 (IntKind.wrap IntKind.i64 (n12 +
  1))] h17 Q)) : unitAt P f_action_Print 13 [6, 10, 19, 20, 21, 25, 26, 27] [Value.pointer (some (Addr.mk m1 0 none)), Value.string s2, Value.slice p3 m4 m5, Value.int IntKind.i64 n6,
  Value.int IntKind.i64 n7, Value.slice p8 m9 m10, Value.int IntKind.i64 n11, Value.int IntKind.i64 n12] h Q := unit_ok (n := 400) (ann := annOf [(6, [6, 19, 20, 21]), (9, [6, 19,
  20, 21, 25, 26, 27]), (13, [6, 10, 19, 20, 21, 25, 26, 27])]) (Eq.mp (by kernel_rfl) H)
theorem r_action_opens {n1 : Int} {h : AW} {Q : Value → AW → Prop} (H : bC (decide (n1 ≥ 10)) (Q (Value.bool (decide (n1 ≤ 12))) h) (Q (Value.bool false) h)) : EvQ P f_action_opens [Value.int
  IntKind.i64 n1] h Q := fn_ok (n := 400) (ann := annOf []) (Eq.mp (by kernel_rfl) H)
theorem r_slices_EqualFunc_sl_api_Stmt_sl_api_Stmt_api_Stmt_api_Stmt {p1 : Option Addr} {m2 : Nat} {m3 : Nat} {p4 : Option Addr} {m5 : Nat} {m6 : Nat} {v7 : Value} {h : AW} {Q : Value → AW → Prop} (H : bC ((↑m2 : Int) != (↑m5 : Int))
  (Q (Value.bool false) h) (unitAt P f_slices_EqualFunc_sl_api_Stmt_sl_api_Stmt_api_Stmt_api_Stmt 4 [1, 2, 15, 16, 17] [Value.slice p4 m5 m6, v7, Value.slice p1 m2 m3, Value.int IntKind.i64 (↑m2 : Int), Value.int IntKind.i64 0] h Q)) :
  EvQ P f_slices_EqualFunc_sl_api_Stmt_sl_api_Stmt_api_Stmt_api_Stmt [Value.slice p1 m2 m3, Value.slice p4 m5 m6, v7] h Q := fn_ok (n := 400) (ann := annOf [(4, [1, 2, 15, 16, 17])]) (Eq.mp (by kernel_rfl) H)
theorem r_slices_EqualFunc_sl_api_Stmt_sl_api_Stmt_api_Stmt_api_Stmt_4 {p1 : Option Addr} {m2 : Nat} {m3 : Nat} {v4 : Value} {p5 : Option Addr} {m6 : Nat} {m7 : Nat} {n8 : Int} {n9 : Int} {h : AW} {Q : Value → AW → Prop} (H : bC
  (decide (n9 < n8)) (aP p5 fun m10 m11 => oB (natIdx n9 m6) fun m12 => oB (AW.rd h m10 (m11 + m12 * 4)) fun v13 => vInt IntKind.i64 v13 fun n14 => oB (AW.rd h m10 (m11 + m12 * 4 +
  1)) fun v15 => vSl v15 fun p16 m17 m18 => oB (AW.rd h m10 (m11 + m12 * 4 + 1 + 1)) fun v19 => vInt IntKind.i64 v19 fun n20 => oB (AW.rd h m10 (m11 + m12 * 4 + 1 + 1 + 1)) fun v21
  => vSl v21 fun p22 m23 m24 => oB (AW.wrL (AW.addVar h [Value.int IntKind.i64 0, Value.slice none 0 0, Value.int IntKind.i64 0, Value.slice none 0 0]) (AW.next h) 0 [Value.int
  IntKind.i64 n14, Value.slice p16 m17 m18, Value.int IntKind.i64 n20, Value.slice p22 m23 m24]) fun h25 => aP p1 fun m26 m27 => oB (natIdx n9 m2) fun m28 => oB (AW.rd h25 m26 (m27
  + m28 * 4)) fun v29 => vInt IntKind.i64 v29 fun n30 => oB (AW.rd h25 m26 (m27 + m28 * 4 + 1)) fun v31 => vSl v31 fun p32 m33 m34 => oB (AW.rd h25 m26 (m27 + m28 * 4 + 1 + 1)) fun
  v35 => vInt IntKind.i64 v35 fun n36 => oB (AW.rd h25 m26 (m27 + m28 * 4 + 1 + 1 + 1)) fun v37 => vSl v37 fun p38 m39 m40 => oB (AW.wrL (AW.addVar h25 [Value.int IntKind.i64 0,
  Value.slice none 0 0, Value.int IntKind.i64 0, Value.slice none 0 0]) (AW.next h25) 0 [Value.int IntKind.i64 n30, Value.slice p32 m33 m34, Value.int IntKind.i64 n36, Value.slice
  p38 m39 m40]) fun h41 => oB (AW.rd h41 (AW.next h) 0) fun v42 => vInt IntKind.i64 v42 fun n43 => oB (AW.rd h41 (AW.next h) 1) fun v44 => vSl v44 fun p45 m46 m47 => oB (AW.rd h41
  (AW.next h) 2) fun v48 => vInt IntKind.i64 v48 fun n49 => oB (AW.rd h41 (AW.next h) 3) fun v50 => vSl v50 fun p51 m52 m53 => oB (AW.rd h41 (AW.next h25) 0) fun v54 => vInt
  IntKind.i64 v54 fun n55 => oB (AW.rd h41 (AW.next h25) 1) fun v56 => vSl v56 fun p57 m58 m59 => oB (AW.rd h41 (AW.next h25) 2) fun v60 => vInt IntKind.i64 v60 fun n61 => oB
  (AW.rd h41 (AW.next h25) 3) fun v62 => vSl v62 fun p63 m64 m65 => vFun v4 fun m66 l67 l68 => EvQ P m66 (l67 ++ Value.agg (Array.mk [Value.int IntKind.i64 n43, Value.slice p45 m46
  m47, Value.int IntKind.i64 n49, Value.slice p51 m52 m53]) :: Value.agg (Array.mk [Value.int IntKind.i64 n55, Value.slice p57 m58 m59, Value.int IntKind.i64 n61, Value.slice p63
  m64 m65]) :: l68) h41 fun v69 h70 => vBool v69 fun b71 => bC (!b71) (Q (Value.bool false) h70) (unitAt P f_slices_EqualFunc_sl_api_Stmt_sl_api_Stmt_api_Stmt_api_Stmt 4 [1, 2, 15, 16, 17] [Value.slice p1 m2 m3, v4, Value.slice p5 m6
  m7, Value.int IntKind.i64 n8, Value.int IntKind.i64 (IntKind.wrap IntKind.i64 (n9 + 1))] h70 Q)) (Q (Value.bool true) h)) : unitAt P f_slices_EqualFunc_sl_api_Stmt_sl_api_Stmt_api_Stmt_api_Stmt 4 [1, 2, 15, 16, 17] [Value.slice p1 m2
  m3, v4, Value.slice p5 m6 m7, Value.int IntKind.i64 n8, Value.int IntKind.i64 n9] h Q := unit_ok (n := 400) (ann := annOf [(4, [1, 2, 15, 16, 17])]) (Eq.mp (by kernel_rfl) H)
theorem r_action_Same_fn1 {n1 : Int} {p2 : Option Addr} {m3 : Nat} {m4 : Nat} {n5 : Int} {p6 : Option Addr} {m7 : Nat} {m8 : Nat} {n9 : Int} {p10 : Option Addr} {m11 : Nat} {m12 : Nat} {n13 :
  Int} {p14 : Option Addr} {m15 : Nat} {m16 : Nat} {h : AW} {Q : Value → AW → Prop} (H : oB (AW.rd (AW.addVar (AW.addVar h [Value.int IntKind.i64 n1, Value.slice p2 m3 m4,
  Value.int IntKind.i64 n5, Value.slice p6 m7 m8]) [Value.int IntKind.i64 n9, Value.slice p10 m11 m12, Value.int IntKind.i64 n13, Value.slice p14 m15 m16]) (AW.next h) 0) fun v17
  => vInt IntKind.i64 v17 fun n18 => oB (AW.rd (AW.addVar (AW.addVar h [Value.int IntKind.i64 n1, Value.slice p2 m3 m4, Value.int IntKind.i64 n5, Value.slice p6 m7 m8]) [Value.int
  IntKind.i64 n9, Value.slice p10 m11 m12, Value.int IntKind.i64 n13, Value.slice p14 m15 m16]) (AW.next (AW.addVar h [Value.int IntKind.i64 n1, Value.slice p2 m3 m4, Value.int
  IntKind.i64 n5, Value.slice p6 m7 m8])) 0) fun v19 => vInt IntKind.i64 v19 fun n20 => bC (n18 == n20) (oB (AW.rd (AW.addVar (AW.addVar h [Value.int IntKind.i64 n1, Value.slice p2
  m3 m4, Value.int IntKind.i64 n5, Value.slice p6 m7 m8]) [Value.int IntKind.i64 n9, Value.slice p10 m11 m12, Value.int IntKind.i64 n13, Value.slice p14 m15 m16]) (AW.next h) 2)
  fun v21 => vInt IntKind.i64 v21 fun n22 => oB (AW.rd (AW.addVar (AW.addVar h [Value.int IntKind.i64 n1, Value.slice p2 m3 m4, Value.int IntKind.i64 n5, Value.slice p6 m7 m8])
  [Value.int IntKind.i64 n9, Value.slice p10 m11 m12, Value.int IntKind.i64 n13, Value.slice p14 m15 m16]) (AW.next (AW.addVar h [Value.int IntKind.i64 n1, Value.slice p2 m3 m4,
  Value.int IntKind.i64 n5, Value.slice p6 m7 m8])) 2) fun v23 => vInt IntKind.i64 v23 fun n24 => bC (n22 == n24) (oB (AW.rd (AW.addVar (AW.addVar h [Value.int IntKind.i64 n1,
  Value.slice p2 m3 m4, Value.int IntKind.i64 n5, Value.slice p6 m7 m8]) [Value.int IntKind.i64 n9, Value.slice p10 m11 m12, Value.int IntKind.i64 n13, Value.slice p14 m15 m16])
  (AW.next h) 1) fun v25 => vSl v25 fun p26 m27 m28 => oB (AW.rd (AW.addVar (AW.addVar h [Value.int IntKind.i64 n1, Value.slice p2 m3 m4, Value.int IntKind.i64 n5, Value.slice p6
  m7 m8]) [Value.int IntKind.i64 n9, Value.slice p10 m11 m12, Value.int IntKind.i64 n13, Value.slice p14 m15 m16]) (AW.next (AW.addVar h [Value.int IntKind.i64 n1, Value.slice p2
  m3 m4, Value.int IntKind.i64 n5, Value.slice p6 m7 m8])) 1) fun v29 => vSl v29 fun p30 m31 m32 => EvQ P f_slices_Equal_sl_string_string [Value.slice p26 m27 m28, Value.slice p30 m31 m32] (AW.addVar
  (AW.addVar h [Value.int IntKind.i64 n1, Value.slice p2 m3 m4, Value.int IntKind.i64 n5, Value.slice p6 m7 m8]) [Value.int IntKind.i64 n9, Value.slice p10 m11 m12, Value.int
  IntKind.i64 n13, Value.slice p14 m15 m16]) fun v33 h34 => vBool v33 fun b35 => bC b35 (oB (AW.rd h34 (AW.next h) 3) fun v36 => vSl v36 fun p37 m38 m39 => oB (AW.rd h34 (AW.next
  (AW.addVar h [Value.int IntKind.i64 n1, Value.slice p2 m3 m4, Value.int IntKind.i64 n5, Value.slice p6 m7 m8])) 3) fun v40 => vSl v40 fun p41 m42 m43 => EvQ P f_action_Same [Value.slice
  p37 m38 m39, Value.slice p41 m42 m43] h34 fun v44 h45 => vBool v44 fun b46 => Q (Value.bool b46) h45) (Q (Value.bool false) h34)) (Q (Value.bool false) (AW.addVar (AW.addVar h
  [Value.int IntKind.i64 n1, Value.slice p2 m3 m4, Value.int IntKind.i64 n5, Value.slice p6 m7 m8]) [Value.int IntKind.i64 n9, Value.slice p10 m11 m12, Value.int IntKind.i64 n13,
  Value.slice p14 m15 m16]))) (Q (Value.bool false) (AW.addVar (AW.addVar h [Value.int IntKind.i64 n1, Value.slice p2 m3 m4, Value.int IntKind.i64 n5, Value.slice p6 m7 m8])
  [Value.int IntKind.i64 n9, Value.slice p10 m11 m12, Value.int IntKind.i64 n13, Value.slice p14 m15 m16]))) : EvQ P f_action_Same_fn1 [Value.agg (Array.mk [Value.int IntKind.i64 n1,
  Value.slice p2 m3 m4, Value.int IntKind.i64 n5, Value.slice p6 m7 m8]), Value.agg (Array.mk [Value.int IntKind.i64 n9, Value.slice p10 m11 m12, Value.int IntKind.i64 n13,
  Value.slice p14 m15 m16])] h Q := fn_ok (n := 400) (ann := annOf []) (Eq.mp (by kernel_rfl) H)
theorem r_action_right {p1 : Option Addr} {m2 : Nat} {m3 : Nat} {n4 : Int} {h : AW} {Q : Value → AW → Prop} (H : unitAt P f_action_right 2 [1, 7, 8, 9] [Value.int IntKind.i64 n4, Value.slice p1 m2
  m3, Value.int IntKind.i64 (↑m2 : Int), Value.int IntKind.i64 0] h Q) : EvQ P f_action_right [Value.slice p1 m2 m3, Value.int IntKind.i64 n4] h Q := fn_ok (n := 400) (ann := annOf [(2, [1,
  7, 8, 9])]) (Eq.mp (by kernel_rfl) H)
theorem r_action_right_2 {n1 : Int} {p2 : Option Addr} {m3 : Nat} {m4 : Nat} {n5 : Int} {n6 : Int} {h : AW} {Q : Value → AW → Prop} (H : bC (decide (n6 < n5)) (aP p2 fun m7 m8 => oB
  (natIdx n6 m3) fun m9 => oB (AW.rd h m7 (m8 + m9 * 4)) fun v10 => vInt IntKind.i64 v10 fun n11 => oB (AW.rd h m7 (m8 + m9 * 4 + 1)) fun v12 => vSl v12 fun p13 m14 m15 => oB
  (AW.rd h m7 (m8 + m9 * 4 + 1 + 1)) fun v16 => vInt IntKind.i64 v16 fun n17 => oB (AW.rd h m7 (m8 + m9 * 4 + 1 + 1 + 1)) fun v18 => vSl v18 fun p19 m20 m21 => oB (AW.wrL
  (AW.addVar h [Value.int IntKind.i64 0, Value.slice none 0 0, Value.int IntKind.i64 0, Value.slice none 0 0]) (AW.next h) 0 [Value.int IntKind.i64 n11, Value.slice p13 m14 m15,
  Value.int IntKind.i64 n17, Value.slice p19 m20 m21]) fun h22 => oB (AW.rd h22 (AW.next h) 0) fun v23 => vInt IntKind.i64 v23 fun n24 => bC (decide (n24 < 1)) (Q (Value.bool
  false) h22) (oB (AW.rd h22 (AW.next h) 0) fun v25 => vInt IntKind.i64 v25 fun n26 => bC (decide (n26 > 12)) (Q (Value.bool false) h22) (oB (AW.rd h22 (AW.next h) 0) fun v27 =>
  vInt IntKind.i64 v27 fun n28 => oB (AW.rd h22 (AW.next h) 1) fun v29 => vSl v29 fun p30 m31 m32 => EvQ P f_action_fits [Value.int IntKind.i64 n28, Value.int IntKind.i64 (↑m31 : Int)] h22
  fun v33 h34 => vBool v33 fun b35 => bC (!b35) (Q (Value.bool false) h34) (oB (AW.rd h34 (AW.next h) 2) fun v36 => vInt IntKind.i64 v36 fun n37 => bC (decide (n37 < 0)) (Q
  (Value.bool false) h34) (oB (AW.rd h34 (AW.next h) 2) fun v38 => vInt IntKind.i64 v38 fun n39 => bC (decide (n39 > 1000)) (Q (Value.bool false) h34) (oB (AW.rd h34 (AW.next h) 2)
  fun v40 => vInt IntKind.i64 v40 fun n41 => bC (decide (n41 > 0)) (oB (AW.rd h34 (AW.next h) 0) fun v42 => vInt IntKind.i64 v42 fun n43 => bC (n43 != 10) (Q (Value.bool false)
  h34) (oB (AW.rd h34 (AW.next h) 0) fun v44 => vInt IntKind.i64 v44 fun n45 => EvQ P f_action_opens [Value.int IntKind.i64 n45] h34 fun v46 h47 => vBool v46 fun b48 => bC b48 (bC (n1 == 8)
  (Q (Value.bool false) h47) (oB (AW.rd h47 (AW.next h) 0) fun v49 => vInt IntKind.i64 v49 fun n50 => EvQ P f_action_opens [Value.int IntKind.i64 n50] h47 fun v51 h52 => vBool v51 fun b53 =>
  bC (!b53) (oB (AW.rd h52 (AW.next h) 3) fun v54 => vSl v54 fun p55 m56 m57 => bC (decide ((↑m56 : Int) > 0)) (Q (Value.bool false) h52) (oB (AW.rd h52 (AW.next h) 3) fun v58 =>
  vSl v58 fun p59 m60 m61 => EvQ P f_action_right [Value.slice p59 m60 m61, Value.int IntKind.i64 (IntKind.wrap IntKind.i64 (n1 + 1))] h52 fun v62 h63 => vBool v62 fun b64 => bC (!b64) (Q
  (Value.bool false) h63) (unitAt P f_action_right 2 [1, 7, 8, 9] [Value.int IntKind.i64 n1, Value.slice p2 m3 m4, Value.int IntKind.i64 n5, Value.int IntKind.i64 (IntKind.wrap IntKind.i64
  (n6 + 1))] h63 Q))) (oB (AW.rd h52 (AW.next h) 3) fun v65 => vSl v65 fun p66 m67 m68 => EvQ P f_action_right [Value.slice p66 m67 m68, Value.int IntKind.i64 (IntKind.wrap IntKind.i64 (n1 +
  1))] h52 fun v69 h70 => vBool v69 fun b71 => bC (!b71) (Q (Value.bool false) h70) (unitAt P f_action_right 2 [1, 7, 8, 9] [Value.int IntKind.i64 n1, Value.slice p2 m3 m4, Value.int
  IntKind.i64 n5, Value.int IntKind.i64 (IntKind.wrap IntKind.i64 (n6 + 1))] h70 Q)))) (oB (AW.rd h47 (AW.next h) 0) fun v72 => vInt IntKind.i64 v72 fun n73 => EvQ P f_action_opens
  [Value.int IntKind.i64 n73] h47 fun v74 h75 => vBool v74 fun b76 => bC (!b76) (oB (AW.rd h75 (AW.next h) 3) fun v77 => vSl v77 fun p78 m79 m80 => bC (decide ((↑m79 : Int) > 0))
  (Q (Value.bool false) h75) (oB (AW.rd h75 (AW.next h) 3) fun v81 => vSl v81 fun p82 m83 m84 => EvQ P f_action_right [Value.slice p82 m83 m84, Value.int IntKind.i64 (IntKind.wrap
  IntKind.i64 (n1 + 1))] h75 fun v85 h86 => vBool v85 fun b87 => bC (!b87) (Q (Value.bool false) h86) (unitAt P f_action_right 2 [1, 7, 8, 9] [Value.int IntKind.i64 n1, Value.slice p2 m3 m4,
  Value.int IntKind.i64 n5, Value.int IntKind.i64 (IntKind.wrap IntKind.i64 (n6 + 1))] h86 Q))) (oB (AW.rd h75 (AW.next h) 3) fun v88 => vSl v88 fun p89 m90 m91 => EvQ P f_action_right
  [Value.slice p89 m90 m91, Value.int IntKind.i64 (IntKind.wrap IntKind.i64 (n1 + 1))] h75 fun v92 h93 => vBool v92 fun b94 => bC (!b94) (Q (Value.bool false) h93) (unitAt P f_action_right 2
  [1, 7, 8, 9] [Value.int IntKind.i64 n1, Value.slice p2 m3 m4, Value.int IntKind.i64 n5, Value.int IntKind.i64 (IntKind.wrap IntKind.i64 (n6 + 1))] h93 Q))))) (oB (AW.rd h34
  (AW.next h) 0) fun v95 => vInt IntKind.i64 v95 fun n96 => EvQ P f_action_opens [Value.int IntKind.i64 n96] h34 fun v97 h98 => vBool v97 fun b99 => bC b99 (bC (n1 == 8) (Q (Value.bool
  false) h98) (oB (AW.rd h98 (AW.next h) 0) fun v100 => vInt IntKind.i64 v100 fun n101 => EvQ P f_action_opens [Value.int IntKind.i64 n101] h98 fun v102 h103 => vBool v102 fun b104 => bC
  (!b104) (oB (AW.rd h103 (AW.next h) 3) fun v105 => vSl v105 fun p106 m107 m108 => bC (decide ((↑m107 : Int) > 0)) (Q (Value.bool false) h103) (oB (AW.rd h103 (AW.next h) 3) fun
  v109 => vSl v109 fun p110 m111 m112 => EvQ P f_action_right [Value.slice p110 m111 m112, Value.int IntKind.i64 (IntKind.wrap IntKind.i64 (n1 + 1))] h103 fun v113 h114 => vBool v113 fun
  b115 => bC (!b115) (Q (Value.bool false) h114) (unitAt P f_action_right 2 [1, 7, 8, 9] [Value.int IntKind.i64 n1, Value.slice p2 m3 m4, Value.int IntKind.i64 n5, Value.int IntKind.i64
  (IntKind.wrap IntKind.i64 (n6 + 1))] h114 Q))) (oB (AW.rd h103 (AW.next h) 3) fun v116 => vSl v116 fun p117 m118 m119 => EvQ P f_action_right [Value.slice p117 m118 m119, Value.int
  IntKind.i64 (IntKind.wrap IntKind.i64 (n1 + 1))] h103 fun v120 h121 => vBool v120 fun b122 => bC (!b122) (Q (Value.bool false) h121) (unitAt P f_action_right 2 [1, 7, 8, 9] [Value.int
  IntKind.i64 n1, Value.slice p2 m3 m4, Value.int IntKind.i64 n5, Value.int IntKind.i64 (IntKind.wrap IntKind.i64 (n6 + 1))] h121 Q)))) (oB (AW.rd h98 (AW.next h) 0) fun v123 =>
  vInt IntKind.i64 v123 fun n124 => EvQ P f_action_opens [Value.int IntKind.i64 n124] h98 fun v125 h126 => vBool v125 fun b127 => bC (!b127) (oB (AW.rd h126 (AW.next h) 3) fun v128 => vSl
  v128 fun p129 m130 m131 => bC (decide ((↑m130 : Int) > 0)) (Q (Value.bool false) h126) (oB (AW.rd h126 (AW.next h) 3) fun v132 => vSl v132 fun p133 m134 m135 => EvQ P f_action_right
  [Value.slice p133 m134 m135, Value.int IntKind.i64 (IntKind.wrap IntKind.i64 (n1 + 1))] h126 fun v136 h137 => vBool v136 fun b138 => bC (!b138) (Q (Value.bool false) h137)
  (unitAt P f_action_right 2 [1, 7, 8, 9] [Value.int IntKind.i64 n1, Value.slice p2 m3 m4, Value.int IntKind.i64 n5, Value.int IntKind.i64 (IntKind.wrap IntKind.i64 (n6 + 1))] h137 Q))) (oB
  (AW.rd h126 (AW.next h) 3) fun v139 => vSl v139 fun p140 m141 m142 => EvQ P f_action_right [Value.slice p140 m141 m142, Value.int IntKind.i64 (IntKind.wrap IntKind.i64 (n1 + 1))] h126 fun
  v143 h144 => vBool v143 fun b145 => bC (!b145) (Q (Value.bool false) h144) (unitAt P f_action_right 2 [1, 7, 8, 9] [Value.int IntKind.i64 n1, Value.slice p2 m3 m4, Value.int IntKind.i64
  n5, Value.int IntKind.i64 (IntKind.wrap IntKind.i64 (n6 + 1))] h144 Q)))))))))) (Q (Value.bool true) h)) : unitAt P f_action_right 2 [1, 7, 8, 9] [Value.int IntKind.i64 n1, Value.slice p2
  m3 m4, Value.int IntKind.i64 n5, Value.int IntKind.i64 n6] h Q := unit_ok (n := 400) (ann := annOf [(2, [1, 7, 8, 9])]) (Eq.mp (by kernel_rfl) H)
theorem r_action_lines {p1 : Option Addr} {m2 : Nat} {m3 : Nat} {h : AW} {Q : Value → AW → Prop} (H : unitAt P f_action_lines 3 [3, 7, 8, 9] [Value.slice none 0 0, Value.slice p1 m2 m3, Value.int
  IntKind.i64 (↑m2 : Int), Value.int IntKind.i64 0] h Q) : EvQ P f_action_lines [Value.slice p1 m2 m3] h Q := fn_ok (n := 400) (ann := annOf [(3, [3, 7, 8, 9]), (8, [3, 5, 6, 7, 8, 9])])
  (Eq.mp (by kernel_rfl) H)
theorem r_action_lines_3 {p1 : Option Addr} {m2 : Nat} {m3 : Nat} {p4 : Option Addr} {m5 : Nat} {m6 : Nat} {n7 : Int} {n8 : Int} {h : AW} {Q : Value → AW → Prop} (H : bC (decide (n8 <
  n7)) (aP p4 fun m9 m10 => oB (natIdx n8 m5) fun m11 => oB (AW.rd h m9 (m10 + m11 * 4)) fun v12 => vInt IntKind.i64 v12 fun n13 => oB (AW.rd h m9 (m10 + m11 * 4 + 1)) fun v14 =>
  vSl v14 fun p15 m16 m17 => oB (AW.rd h m9 (m10 + m11 * 4 + 1 + 1)) fun v18 => vInt IntKind.i64 v18 fun n19 => oB (AW.rd h m9 (m10 + m11 * 4 + 1 + 1 + 1)) fun v20 => vSl v20 fun
  p21 m22 m23 => oB (AW.wrL (AW.addVar h [Value.int IntKind.i64 0, Value.slice none 0 0, Value.int IntKind.i64 0, Value.slice none 0 0]) (AW.next h) 0 [Value.int IntKind.i64 n13,
  Value.slice p15 m16 m17, Value.int IntKind.i64 n19, Value.slice p21 m22 m23]) fun h24 => oB (AW.rd h24 (AW.next h) 0) fun v25 => vInt IntKind.i64 v25 fun n26 => EvQ P f_action_word
  [Value.int IntKind.i64 n26] h24 fun v27 h28 => vStr v27 fun s29 => oB (AW.rd (AW.addVar h28 [Value.string s29]) (AW.next h) 1) fun v30 => vSl v30 fun p31 m32 m33 => oP (appendB P
  (AW.addVar h28 [Value.string s29]) (Array.mk [ty_sl_string, ty_sl_string]) [Value.slice (some (Addr.mk (AW.next h28) 0 none)) 1 1, Value.slice p31 m32 m33]) fun v34 h35 => vSl v34 fun p36 m37
  m38 => oB (AW.rd h24 (AW.next h) 1) fun v39 => vSl v39 fun p40 m41 m42 => Value.slice p40 m41 m42 = Value.slice p31 m32 m33 ∧ oB (AW.rd h28 (AW.next h) 1) fun v43 => vSl v43 fun
  p44 m45 m46 => Value.slice p44 m45 m46 = Value.slice p31 m32 m33 ∧ oB (AW.rd h35 (AW.next h) 0) fun v47 => vInt IntKind.i64 v47 fun n48 => bC (n48 == 10) (oB (AW.rd h35 (AW.next
  h) 2) fun v49 => vInt IntKind.i64 v49 fun n50 => EvQ P f_strconv_Itoa [Value.int IntKind.i64 n50] h35 fun v51 h52 => vStr v51 fun s53 => oP (appendB P (AW.addVar h52 [Value.string s53])
  (Array.mk [ty_sl_string, ty_sl_string]) [Value.slice p36 m37 m38, Value.slice (some (Addr.mk (AW.next h52) 0 none)) 1 1]) fun v54 h55 => vSl v54 fun p56 m57 m58 => unitAt P f_action_lines 8 [3, 5, 6,
  7, 8, 9] [Value.slice p1 m2 m3, Value.pointer (some (Addr.mk (AW.next h) 0 none)), Value.slice p56 m57 m58, Value.slice p4 m5 m6, Value.int IntKind.i64 n7, Value.int IntKind.i64
  n8] h55 Q) (unitAt P f_action_lines 8 [3, 5, 6, 7, 8, 9] [Value.slice p1 m2 m3, Value.pointer (some (Addr.mk (AW.next h) 0 none)), Value.slice p36 m37 m38, Value.slice p4 m5 m6, Value.int
  IntKind.i64 n7, Value.int IntKind.i64 n8] h35 Q)) (Q (Value.slice p1 m2 m3) h)) : unitAt P f_action_lines 3 [3, 7, 8, 9] [Value.slice p1 m2 m3, Value.slice p4 m5 m6, Value.int IntKind.i64
  n7, Value.int IntKind.i64 n8] h Q := unit_ok (n := 400) (ann := annOf [(3, [3, 7, 8, 9]), (8, [3, 5, 6, 7, 8, 9])]) (Eq.mp (by kernel_rfl) H)
theorem r_action_lines_8 {p1 : Option Addr} {m2 : Nat} {m3 : Nat} {m4 : Nat} {p5 : Option Addr} {m6 : Nat} {m7 : Nat} {p8 : Option Addr} {m9 : Nat} {m10 : Nat} {n11 : Int} {n12 : Int} {h
  : AW} {Q : Value → AW → Prop} (H : oP (appendB P (AW.addVar h [Value.slice p5 m6 m7]) (Array.mk [ty_sl_sl_string, ty_sl_sl_string]) [Value.slice p1 m2 m3, Value.slice (some (Addr.mk (AW.next h) 0
  none)) 1 1]) fun v13 h14 => vSl v13 fun p15 m16 m17 => oB (AW.rd h14 m4 0) fun v18 => vInt IntKind.i64 v18 fun n19 => EvQ P f_action_opens [Value.int IntKind.i64 n19] h14 fun v20 h21 =>
  vBool v20 fun b22 => bC b22 (oB (AW.rd h21 m4 3) fun v23 => vSl v23 fun p24 m25 m26 => EvQ P f_action_lines [Value.slice p24 m25 m26] h21 fun v27 h28 => vSl v27 fun p29 m30 m31 => oP
  (appendB P h28 (Array.mk [ty_sl_sl_string, ty_sl_sl_string]) [Value.slice p15 m16 m17, Value.slice p29 m30 m31]) fun v32 h33 => vSl v32 fun p34 m35 m36 => oP (appendB P (AW.addVar (AW.addVar h33
  [Value.string (ByteArray.mk #[101, 110, 100])]) [Value.slice (some (Addr.mk (AW.next h33) 0 none)) 1 1]) (Array.mk [ty_sl_sl_string, ty_sl_sl_string]) [Value.slice p34 m35 m36, Value.slice (some
  (Addr.mk (AW.next (AW.addVar h33 [Value.string (ByteArray.mk #[101, 110, 100])])) 0 none)) 1 1]) fun v37 h38 => vSl v37 fun p39 m40 m41 => unitAt P f_action_lines 3 [3, 7, 8, 9]
  [Value.slice p39 m40 m41, Value.slice p8 m9 m10, Value.int IntKind.i64 n11, Value.int IntKind.i64 (IntKind.wrap IntKind.i64 (n12 + 1))] h38 Q) (unitAt P f_action_lines 3 [3, 7, 8, 9]
  [Value.slice p15 m16 m17, Value.slice p8 m9 m10, Value.int IntKind.i64 n11, Value.int IntKind.i64 (IntKind.wrap IntKind.i64 (n12 + 1))] h21 Q)) : unitAt P f_action_lines 8 [3, 5, 6, 7, 8,
  9] [Value.slice p1 m2 m3, Value.pointer (some (Addr.mk m4 0 none)), Value.slice p5 m6 m7, Value.slice p8 m9 m10, Value.int IntKind.i64 n11, Value.int IntKind.i64 n12] h Q :=
  unit_ok (n := 400) (ann := annOf [(3, [3, 7, 8, 9]), (8, [3, 5, 6, 7, 8, 9])]) (Eq.mp (by kernel_rfl) H)
theorem r_action_word {n1 : Int} {h : AW} {Q : Value → AW → Prop} (H : oB (AW.wrL (AW.addVar h [Value.string (ByteArray.mk #[]), Value.string (ByteArray.mk #[]), Value.string
  (ByteArray.mk #[]), Value.string (ByteArray.mk #[]), Value.string (ByteArray.mk #[]), Value.string (ByteArray.mk #[]), Value.string (ByteArray.mk #[]), Value.string (ByteArray.mk
  #[]), Value.string (ByteArray.mk #[]), Value.string (ByteArray.mk #[]), Value.string (ByteArray.mk #[]), Value.string (ByteArray.mk #[]), Value.string (ByteArray.mk #[])])
  (AW.next h) 0 [Value.string (ByteArray.mk #[]), Value.string (ByteArray.mk #[110, 101, 101, 100]), Value.string (ByteArray.mk #[99, 97, 116]), Value.string (ByteArray.mk #[116,
  101, 120, 116]), Value.string (ByteArray.mk #[117, 112, 112, 101, 114]), Value.string (ByteArray.mk #[115, 111, 114, 116]), Value.string (ByteArray.mk #[117, 110, 105, 113]),
  Value.string (ByteArray.mk #[99, 111, 117, 110, 116]), Value.string (ByteArray.mk #[119, 114, 105, 116, 101]), Value.string (ByteArray.mk #[102, 97, 105, 108]), Value.string
  (ByteArray.mk #[114, 101, 112, 101, 97, 116]), Value.string (ByteArray.mk #[101, 97, 99, 104]), Value.string (ByteArray.mk #[119, 104, 101, 110])]) fun h2 => bC (decide (n1 < 0))
  (Q (Value.string (ByteArray.mk #[])) h2) (bC (decide (n1 ≥ 13)) (Q (Value.string (ByteArray.mk #[])) h2) (oB (natIdx n1 13) fun m3 => oB (AW.rd h2 (AW.next h) (0 + m3 * 1)) fun
  v4 => vStr v4 fun s5 => Q (Value.string s5) h2))) : EvQ P f_action_word [Value.int IntKind.i64 n1] h Q := fn_ok (n := 400) (ann := annOf []) (Eq.mp (by kernel_rfl) H)
theorem r_action_fits {n1 : Int} {n2 : Int} {h : AW} {Q : Value → AW → Prop} (H : bC (n1 == 1) (Q (Value.bool (n2 == 1)) h) (bC (n1 == 2) (Q (Value.bool (n2 == 1)) h) (bC (n1 == 8) (Q
  (Value.bool (n2 == 1)) h) (bC (n1 == 11) (Q (Value.bool (n2 == 1)) h) (unitAt P f_action_fits 7 [1, 5] [Value.int IntKind.i64 n2, Value.int IntKind.i64 n1] h Q))))) : EvQ P f_action_fits
  [Value.int IntKind.i64 n1, Value.int IntKind.i64 n2] h Q := fn_ok (n := 400) (ann := annOf [(7, [1, 5]), (10, [1, 5])]) (Eq.mp (by kernel_rfl) H)
theorem r_action_fits_7 {n1 : Int} {n2 : Int} {h : AW} {Q : Value → AW → Prop} (H : bC (n2 == 3) (Q (Value.bool true) h) (bC (n2 == 9) (Q (Value.bool true) h) (unitAt P f_action_fits 10 [1, 5]
  [Value.int IntKind.i64 n1, Value.int IntKind.i64 n2] h Q))) : unitAt P f_action_fits 7 [1, 5] [Value.int IntKind.i64 n1, Value.int IntKind.i64 n2] h Q := unit_ok (n := 400) (ann := annOf
  [(7, [1, 5]), (10, [1, 5])]) (Eq.mp (by kernel_rfl) H)
theorem r_action_fits_10 {n1 : Int} {n2 : Int} {h : AW} {Q : Value → AW → Prop} (H : bC (n2 == 12) (Q (Value.bool (n1 == 2)) h) (Q (Value.bool (n1 == 0)) h)) : unitAt P f_action_fits 10 [1, 5]
  [Value.int IntKind.i64 n1, Value.int IntKind.i64 n2] h Q := unit_ok (n := 400) (ann := annOf [(7, [1, 5]), (10, [1, 5])]) (Eq.mp (by kernel_rfl) H)
end Go.Proofs.YtamoepfiodgbbaaGreatDoor
end

section
/- Rules of walks, printed by a program of ours: group ARef. -/
namespace Go.Proofs.YtamoepfiodgbbaaGreatDoor
open Go.Abs
set_option maxRecDepth 100000
theorem r_brickyardref13_Digits {n1 : Int} {h : AW} {Q : Value → AW → Prop} (H : oB (AW.bytes (AW.addVar h [Value.int IntKind.u8 (IntKind.wrap IntKind.u8 (IntKind.wrap IntKind.i64 (48 + Int.tmod
  n1 10)))]) (some (Addr.mk (AW.next h) 0 none)) 1) fun s2 => bC (decide (n1 ≥ 10)) (EvQ P f_brickyardref13_Digits [Value.int IntKind.i64 (IntKind.wrap IntKind.i64 (Int.tdiv n1 10))] (AW.addVar h
  [Value.int IntKind.u8 (IntKind.wrap IntKind.u8 (IntKind.wrap IntKind.i64 (48 + Int.tmod n1 10)))]) fun v3 h4 => vStr v3 fun s5 => bC (Nat.ble (ByteArray.size s5 + ByteArray.size
  s2) 9223372036854775807) (Q (Value.string (s5 ++ s2)) h4) False) (Q (Value.string s2) (AW.addVar h [Value.int IntKind.u8 (IntKind.wrap IntKind.u8 (IntKind.wrap IntKind.i64 (48 +
  Int.tmod n1 10)))]))) : EvQ P f_brickyardref13_Digits [Value.int IntKind.i64 n1] h Q := fn_ok (n := 400) (ann := annOf []) (Eq.mp (by kernel_rfl) H)
theorem r_brickyardref13_Lines {p1 : Option Addr} {m2 : Nat} {m3 : Nat} {h : AW} {Q : Value → AW → Prop} (H : EvQ P f_brickyardref13_May [Value.slice p1 m2 m3] h fun v4 h5 => vBool v4 fun b6 => bC (!b6) (Q
  (Value.tuple (Array.mk [Value.slice none 0 0, Value.int IntKind.i64 2])) h5) (EvQ P f_brickyardref13_all [Value.slice p1 m2 m3] h5 fun v7 h8 => vSl v7 fun p9 m10 m11 => Q (Value.tuple (Array.mk
  [Value.slice p9 m10 m11, Value.int IntKind.i64 0])) h8)) : EvQ P f_brickyardref13_Lines [Value.slice p1 m2 m3] h Q := fn_ok (n := 400) (ann := annOf []) (Eq.mp (by kernel_rfl) H)
theorem r_brickyardref13_May {p1 : Option Addr} {m2 : Nat} {m3 : Nat} {h : AW} {Q : Value → AW → Prop} (H : EvQ P f_brickyardref13_one [Value.slice p1 m2 m3] h fun v4 h5 => vBool v4 fun b6 => bC b6 (EvQ P
  f_brickyardref13_Size [Value.slice p1 m2 m3] h5 fun v7 h8 => vInt IntKind.i64 v7 fun n9 => bC (decide (n9 ≤ 256)) (EvQ P f_brickyardref13_Deep [Value.slice p1 m2 m3] h8 fun v10 h11 => vInt IntKind.i64 v10 fun
  n12 => Q (Value.bool (decide (n12 ≤ 8))) h11) (Q (Value.bool false) h8)) (Q (Value.bool false) h5)) : EvQ P f_brickyardref13_May [Value.slice p1 m2 m3] h Q := fn_ok (n := 400) (ann := annOf [])
  (Eq.mp (by kernel_rfl) H)
theorem r_brickyardref13_Size {p1 : Option Addr} {m2 : Nat} {m3 : Nat} {h : AW} {Q : Value → AW → Prop} (H : unitAt P f_brickyardref13_Size 3 [0, 3, 4] [Value.slice p1 m2 m3, Value.int IntKind.i64 0, Value.int
  IntKind.i64 0] h Q) : EvQ P f_brickyardref13_Size [Value.slice p1 m2 m3] h Q := fn_ok (n := 400) (ann := annOf [(3, [0, 3, 4])]) (Eq.mp (by kernel_rfl) H)
theorem r_brickyardref13_Size_3 {p1 : Option Addr} {m2 : Nat} {m3 : Nat} {n4 : Int} {n5 : Int} {h : AW} {Q : Value → AW → Prop} (H : bC (decide (n5 < (↑m2 : Int))) (aP p1 fun m6 m7 => oB (natIdx
  n5 m2) fun m8 => oB (AW.rd h m6 (m7 + m8 * 4 + 3)) fun v9 => vSl v9 fun p10 m11 m12 => EvQ P f_brickyardref13_Size [Value.slice p10 m11 m12] h fun v13 h14 => vInt IntKind.i64 v13 fun n15 =>
  unitAt P f_brickyardref13_Size 3 [0, 3, 4] [Value.slice p1 m2 m3, Value.int IntKind.i64 (IntKind.wrap IntKind.i64 (n4 + IntKind.wrap IntKind.i64 (1 + n15))), Value.int IntKind.i64 (IntKind.wrap
  IntKind.i64 (n5 + 1))] h14 Q) (Q (Value.int IntKind.i64 n4) h)) : unitAt P f_brickyardref13_Size 3 [0, 3, 4] [Value.slice p1 m2 m3, Value.int IntKind.i64 n4, Value.int IntKind.i64 n5] h Q :=
  unit_ok (n := 400) (ann := annOf [(3, [0, 3, 4])]) (Eq.mp (by kernel_rfl) H)
theorem r_brickyardref13_Deep {p1 : Option Addr} {m2 : Nat} {m3 : Nat} {h : AW} {Q : Value → AW → Prop} (H : unitAt P f_brickyardref13_Deep 3 [0, 3, 4] [Value.slice p1 m2 m3, Value.int IntKind.i64 0, Value.int
  IntKind.i64 0] h Q) : EvQ P f_brickyardref13_Deep [Value.slice p1 m2 m3] h Q := fn_ok (n := 400) (ann := annOf [(3, [0, 3, 4])]) (Eq.mp (by kernel_rfl) H)
theorem r_brickyardref13_Deep_3 {p1 : Option Addr} {m2 : Nat} {m3 : Nat} {n4 : Int} {n5 : Int} {h : AW} {Q : Value → AW → Prop} (H : bC (decide (n5 < (↑m2 : Int))) (aP p1 fun m6 m7 => oB (natIdx
  n5 m2) fun m8 => oB (AW.rd h m6 (m7 + m8 * 4)) fun v9 => vInt IntKind.i64 v9 fun n10 => EvQ P f_brickyardref13_Opens [Value.int IntKind.i64 n10] h fun v11 h12 => vBool v11 fun b13 => bC b13 (aP
  p1 fun m14 m15 => oB (natIdx n5 m2) fun m16 => oB (AW.rd h12 m14 (m15 + m16 * 4 + 3)) fun v17 => vSl v17 fun p18 m19 m20 => EvQ P f_brickyardref13_Deep [Value.slice p18 m19 m20] h12 fun v21 h22
  => vInt IntKind.i64 v21 fun n23 => unitAt P f_brickyardref13_Deep 3 [0, 3, 4] [Value.slice p1 m2 m3, Value.int IntKind.i64 (if IntKind.wrap IntKind.i64 (1 + n23) > n4 then IntKind.wrap
  IntKind.i64 (1 + n23) else n4), Value.int IntKind.i64 (IntKind.wrap IntKind.i64 (n5 + 1))] h22 Q) (unitAt P f_brickyardref13_Deep 3 [0, 3, 4] [Value.slice p1 m2 m3, Value.int IntKind.i64 n4,
  Value.int IntKind.i64 (IntKind.wrap IntKind.i64 (n5 + 1))] h12 Q)) (Q (Value.int IntKind.i64 n4) h)) : unitAt P f_brickyardref13_Deep 3 [0, 3, 4] [Value.slice p1 m2 m3, Value.int IntKind.i64 n4,
  Value.int IntKind.i64 n5] h Q := unit_ok (n := 400) (ann := annOf [(3, [0, 3, 4])]) (Eq.mp (by kernel_rfl) H)
theorem r_brickyardref13_all {p1 : Option Addr} {m2 : Nat} {m3 : Nat} {h : AW} {Q : Value → AW → Prop} (H : unitAt P f_brickyardref13_all 3 [0, 3, 4] [Value.slice p1 m2 m3, Value.slice none 0 0, Value.int
  IntKind.i64 0] h Q) : EvQ P f_brickyardref13_all [Value.slice p1 m2 m3] h Q := fn_ok (n := 400) (ann := annOf [(3, [0, 3, 4]), (10, [0, 3, 4, 5, 6])]) (Eq.mp (by kernel_rfl) H)
theorem r_brickyardref13_all_3 {p1 : Option Addr} {m2 : Nat} {m3 : Nat} {p4 : Option Addr} {m5 : Nat} {m6 : Nat} {n7 : Int} {h : AW} {Q : Value → AW → Prop} (H : bC (decide (n7 < (↑m2 : Int)))
  (aP p1 fun m8 m9 => oB (natIdx n7 m2) fun m10 => oB (AW.rd h m8 (m9 + m10 * 4)) fun v11 => vInt IntKind.i64 v11 fun n12 => oB (AW.rd h m8 (m9 + m10 * 4 + 1)) fun v13 => vSl v13
  fun p14 m15 m16 => oB (AW.rd h m8 (m9 + m10 * 4 + 1 + 1)) fun v17 => vInt IntKind.i64 v17 fun n18 => oB (AW.rd h m8 (m9 + m10 * 4 + 1 + 1 + 1)) fun v19 => vSl v19 fun p20 m21 m22
  => oB (AW.wrL (AW.addVar h [Value.int IntKind.i64 0, Value.slice none 0 0, Value.int IntKind.i64 0, Value.slice none 0 0]) (AW.next h) 0 [Value.int IntKind.i64 n12, Value.slice
  p14 m15 m16, Value.int IntKind.i64 n18, Value.slice p20 m21 m22]) fun h23 => oB (AW.rd h23 (AW.next h) 0) fun v24 => vInt IntKind.i64 v24 fun n25 => EvQ P f_brickyardref13_Word [Value.int
  IntKind.i64 n25] h23 fun v26 h27 => vStr v26 fun s28 => oB (AW.rd (AW.addVar h27 [Value.string s28]) (AW.next h) 1) fun v29 => vSl v29 fun p30 m31 m32 => oP (appendB P (AW.addVar
  h27 [Value.string s28]) (Array.mk [ty_sl_string, ty_sl_string]) [Value.slice (some (Addr.mk (AW.next h27) 0 none)) 1 1, Value.slice p30 m31 m32]) fun v33 h34 => vSl v33 fun p35 m36 m37 => oB
  (AW.rd h34 (AW.next h) 0) fun v38 => vInt IntKind.i64 v38 fun n39 => bC (n39 == 10) (oB (AW.rd h34 (AW.next h) 2) fun v40 => vInt IntKind.i64 v40 fun n41 => EvQ P f_brickyardref13_Digits
  [Value.int IntKind.i64 n41] h34 fun v42 h43 => vStr v42 fun s44 => oP (appendB P (AW.addVar h43 [Value.string s44]) (Array.mk [ty_sl_string, ty_sl_string]) [Value.slice p35 m36 m37,
  Value.slice (some (Addr.mk (AW.next h43) 0 none)) 1 1]) fun v45 h46 => vSl v45 fun p47 m48 m49 => unitAt P f_brickyardref13_all 10 [0, 3, 4, 5, 6] [Value.slice p1 m2 m3, Value.slice p4 m5 m6,
  Value.int IntKind.i64 n7, Value.pointer (some (Addr.mk (AW.next h) 0 none)), Value.slice p47 m48 m49] h46 Q) (unitAt P f_brickyardref13_all 10 [0, 3, 4, 5, 6] [Value.slice p1 m2 m3, Value.slice
  p4 m5 m6, Value.int IntKind.i64 n7, Value.pointer (some (Addr.mk (AW.next h) 0 none)), Value.slice p35 m36 m37] h34 Q)) (Q (Value.slice p4 m5 m6) h)) : unitAt P f_brickyardref13_all 3 [0, 3, 4]
  [Value.slice p1 m2 m3, Value.slice p4 m5 m6, Value.int IntKind.i64 n7] h Q := unit_ok (n := 400) (ann := annOf [(3, [0, 3, 4]), (10, [0, 3, 4, 5, 6])]) (Eq.mp (by kernel_rfl) H)
theorem r_brickyardref13_all_10 {p1 : Option Addr} {m2 : Nat} {m3 : Nat} {p4 : Option Addr} {m5 : Nat} {m6 : Nat} {n7 : Int} {m8 : Nat} {p9 : Option Addr} {m10 : Nat} {m11 : Nat} {h : AW} {Q :
  Value → AW → Prop} (H : oP (appendB P (AW.addVar h [Value.slice p9 m10 m11]) (Array.mk [ty_sl_sl_string, ty_sl_sl_string]) [Value.slice p4 m5 m6, Value.slice (some (Addr.mk (AW.next h) 0 none)) 1
  1]) fun v12 h13 => vSl v12 fun p14 m15 m16 => oB (AW.rd h13 m8 0) fun v17 => vInt IntKind.i64 v17 fun n18 => EvQ P f_brickyardref13_Opens [Value.int IntKind.i64 n18] h13 fun v19 h20 => vBool v19
  fun b21 => bC b21 (oB (AW.rd h20 m8 3) fun v22 => vSl v22 fun p23 m24 m25 => EvQ P f_brickyardref13_all [Value.slice p23 m24 m25] h20 fun v26 h27 => vSl v26 fun p28 m29 m30 => oP (appendB P h27
  (Array.mk [ty_sl_sl_string, ty_sl_sl_string]) [Value.slice p14 m15 m16, Value.slice p28 m29 m30]) fun v31 h32 => vSl v31 fun p33 m34 m35 => oP (appendB P (AW.addVar (AW.addVar h32 [Value.string
  (ByteArray.mk #[101, 110, 100])]) [Value.slice (some (Addr.mk (AW.next h32) 0 none)) 1 1]) (Array.mk [ty_sl_sl_string, ty_sl_sl_string]) [Value.slice p33 m34 m35, Value.slice (some (Addr.mk
  (AW.next (AW.addVar h32 [Value.string (ByteArray.mk #[101, 110, 100])])) 0 none)) 1 1]) fun v36 h37 => vSl v36 fun p38 m39 m40 => unitAt P f_brickyardref13_all 3 [0, 3, 4] [Value.slice p1 m2 m3,
  Value.slice p38 m39 m40, Value.int IntKind.i64 (IntKind.wrap IntKind.i64 (n7 + 1))] h37 Q) (unitAt P f_brickyardref13_all 3 [0, 3, 4] [Value.slice p1 m2 m3, Value.slice p14 m15 m16, Value.int
  IntKind.i64 (IntKind.wrap IntKind.i64 (n7 + 1))] h20 Q)) : unitAt P f_brickyardref13_all 10 [0, 3, 4, 5, 6] [Value.slice p1 m2 m3, Value.slice p4 m5 m6, Value.int IntKind.i64 n7, Value.pointer
  (some (Addr.mk m8 0 none)), Value.slice p9 m10 m11] h Q := unit_ok (n := 400) (ann := annOf [(3, [0, 3, 4]), (10, [0, 3, 4, 5, 6])]) (Eq.mp (by kernel_rfl) H)
theorem r_brickyardref13_one {p1 : Option Addr} {m2 : Nat} {m3 : Nat} {h : AW} {Q : Value → AW → Prop} (H : unitAt P f_brickyardref13_one 2 [0, 3] [Value.slice p1 m2 m3, Value.int IntKind.i64 0] h Q) : EvQ P
  f_brickyardref13_one [Value.slice p1 m2 m3] h Q := fn_ok (n := 400) (ann := annOf [(2, [0, 3])]) (Eq.mp (by kernel_rfl) H)
theorem r_brickyardref13_one_2 {p1 : Option Addr} {m2 : Nat} {m3 : Nat} {n4 : Int} {h : AW} {Q : Value → AW → Prop} (H : bC (decide (n4 < (↑m2 : Int))) (aP p1 fun m5 m6 => oB (natIdx n4 m2) fun
  m7 => oB (AW.rd h m5 (m6 + m7 * 4)) fun v8 => vInt IntKind.i64 v8 fun n9 => oB (AW.rd h m5 (m6 + m7 * 4 + 1)) fun v10 => vSl v10 fun p11 m12 m13 => oB (AW.rd h m5 (m6 + m7 * 4 +
  1 + 1)) fun v14 => vInt IntKind.i64 v14 fun n15 => oB (AW.rd h m5 (m6 + m7 * 4 + 1 + 1 + 1)) fun v16 => vSl v16 fun p17 m18 m19 => oB (AW.wrL (AW.addVar h [Value.int IntKind.i64
  0, Value.slice none 0 0, Value.int IntKind.i64 0, Value.slice none 0 0]) (AW.next h) 0 [Value.int IntKind.i64 n9, Value.slice p11 m12 m13, Value.int IntKind.i64 n15, Value.slice
  p17 m18 m19]) fun h20 => oB (AW.rd h20 (AW.next h) 0) fun v21 => vInt IntKind.i64 v21 fun n22 => EvQ P f_brickyardref13_Word [Value.int IntKind.i64 n22] h20 fun v23 h24 => vStr v23 fun s25 => bC
  (bEq s25 (ByteArray.mk #[])) (Q (Value.bool false) h24) (oB (AW.rd h24 (AW.next h) 0) fun v26 => vInt IntKind.i64 v26 fun n27 => EvQ P f_brickyardref13_Args [Value.int IntKind.i64 n27] h24 fun
  v28 h29 => vInt IntKind.i64 v28 fun n30 => bC (decide (n30 ≥ 0)) (oB (AW.rd h29 (AW.next h) 0) fun v31 => vInt IntKind.i64 v31 fun n32 => EvQ P f_brickyardref13_Args [Value.int IntKind.i64 n32]
  h29 fun v33 h34 => vInt IntKind.i64 v33 fun n35 => oB (AW.rd h34 (AW.next h) 1) fun v36 => vSl v36 fun p37 m38 m39 => bC (n35 != (↑m38 : Int)) (oB (AW.rd h29 (AW.next h) 1) fun
  v40 => vSl v40 fun p41 m42 m43 => Value.slice p41 m42 m43 = Value.slice p37 m38 m39 ∧ Value.int IntKind.i64 (↑m38 : Int) = Value.int IntKind.i64 (↑m38 : Int) ∧ Q (Value.bool
  false) h34) (oB (AW.rd h34 (AW.next h) 2) fun v44 => vInt IntKind.i64 v44 fun n45 => bC (decide (n45 < 0)) (oB (AW.rd h29 (AW.next h) 1) fun v46 => vSl v46 fun p47 m48 m49 =>
  Value.slice p47 m48 m49 = Value.slice p37 m38 m39 ∧ Value.int IntKind.i64 (↑m38 : Int) = Value.int IntKind.i64 (↑m38 : Int) ∧ Q (Value.bool false) h34) (oB (AW.rd h34 (AW.next h)
  2) fun v50 => vInt IntKind.i64 v50 fun n51 => bC (decide (n51 > 1000)) (oB (AW.rd h29 (AW.next h) 1) fun v52 => vSl v52 fun p53 m54 m55 => Value.slice p53 m54 m55 = Value.slice
  p37 m38 m39 ∧ Value.int IntKind.i64 (↑m38 : Int) = Value.int IntKind.i64 (↑m38 : Int) ∧ Q (Value.bool false) h34) (oB (AW.rd h34 (AW.next h) 0) fun v56 => vInt IntKind.i64 v56
  fun n57 => bC (n57 != 10) (oB (AW.rd h34 (AW.next h) 2) fun v58 => vInt IntKind.i64 v58 fun n59 => bC (n59 != 0) (oB (AW.rd h29 (AW.next h) 1) fun v60 => vSl v60 fun p61 m62 m63
  => Value.slice p61 m62 m63 = Value.slice p37 m38 m39 ∧ Value.int IntKind.i64 (↑m38 : Int) = Value.int IntKind.i64 (↑m38 : Int) ∧ Q (Value.bool false) h34) (oB (AW.rd h34 (AW.next
  h) 0) fun v64 => vInt IntKind.i64 v64 fun n65 => EvQ P f_brickyardref13_Opens [Value.int IntKind.i64 n65] h34 fun v66 h67 => vBool v66 fun b68 => bC (!b68) (oB (AW.rd h67 (AW.next h) 3) fun v69
  => vSl v69 fun p70 m71 m72 => bC (decide ((↑m71 : Int) > 0)) (oB (AW.rd h29 (AW.next h) 1) fun v73 => vSl v73 fun p74 m75 m76 => Value.slice p74 m75 m76 = Value.slice p37 m38 m39
  ∧ Value.int IntKind.i64 (↑m38 : Int) = Value.int IntKind.i64 (↑m38 : Int) ∧ Q (Value.bool false) h67) (oB (AW.rd h67 (AW.next h) 3) fun v77 => vSl v77 fun p78 m79 m80 => EvQ P
  f_brickyardref13_one [Value.slice p78 m79 m80] h67 fun v81 h82 => vBool v81 fun b83 => oB (AW.rd h29 (AW.next h) 1) fun v84 => vSl v84 fun p85 m86 m87 => Value.slice p85 m86 m87 = Value.slice
  p37 m38 m39 ∧ Value.int IntKind.i64 (↑m38 : Int) = Value.int IntKind.i64 (↑m38 : Int) ∧ bC (!b83) (Q (Value.bool false) h82) (unitAt P f_brickyardref13_one 2 [0, 3] [Value.slice p1 m2 m3,
  Value.int IntKind.i64 (IntKind.wrap IntKind.i64 (n4 + 1))] h82 Q))) (oB (AW.rd h67 (AW.next h) 3) fun v88 => vSl v88 fun p89 m90 m91 => EvQ P f_brickyardref13_one [Value.slice p89 m90 m91] h67
  fun v92 h93 => vBool v92 fun b94 => oB (AW.rd h29 (AW.next h) 1) fun v95 => vSl v95 fun p96 m97 m98 => Value.slice p96 m97 m98 = Value.slice p37 m38 m39 ∧ Value.int IntKind.i64
  (↑m38 : Int) = Value.int IntKind.i64 (↑m38 : Int) ∧ bC (!b94) (Q (Value.bool false) h93) (unitAt P f_brickyardref13_one 2 [0, 3] [Value.slice p1 m2 m3, Value.int IntKind.i64 (IntKind.wrap
  IntKind.i64 (n4 + 1))] h93 Q)))) (oB (AW.rd h34 (AW.next h) 0) fun v99 => vInt IntKind.i64 v99 fun n100 => EvQ P f_brickyardref13_Opens [Value.int IntKind.i64 n100] h34 fun v101 h102 => vBool
  v101 fun b103 => bC (!b103) (oB (AW.rd h102 (AW.next h) 3) fun v104 => vSl v104 fun p105 m106 m107 => bC (decide ((↑m106 : Int) > 0)) (oB (AW.rd h29 (AW.next h) 1) fun v108 =>
  vSl v108 fun p109 m110 m111 => Value.slice p109 m110 m111 = Value.slice p37 m38 m39 ∧ Value.int IntKind.i64 (↑m38 : Int) = Value.int IntKind.i64 (↑m38 : Int) ∧ Q (Value.bool
  false) h102) (oB (AW.rd h102 (AW.next h) 3) fun v112 => vSl v112 fun p113 m114 m115 => EvQ P f_brickyardref13_one [Value.slice p113 m114 m115] h102 fun v116 h117 => vBool v116 fun b118 => oB
  (AW.rd h29 (AW.next h) 1) fun v119 => vSl v119 fun p120 m121 m122 => Value.slice p120 m121 m122 = Value.slice p37 m38 m39 ∧ Value.int IntKind.i64 (↑m38 : Int) = Value.int
  IntKind.i64 (↑m38 : Int) ∧ bC (!b118) (Q (Value.bool false) h117) (unitAt P f_brickyardref13_one 2 [0, 3] [Value.slice p1 m2 m3, Value.int IntKind.i64 (IntKind.wrap IntKind.i64 (n4 + 1))] h117
  Q))) (oB (AW.rd h102 (AW.next h) 3) fun v123 => vSl v123 fun p124 m125 m126 => EvQ P f_brickyardref13_one [Value.slice p124 m125 m126] h102 fun v127 h128 => vBool v127 fun b129 => oB (AW.rd h29
  (AW.next h) 1) fun v130 => vSl v130 fun p131 m132 m133 => Value.slice p131 m132 m133 = Value.slice p37 m38 m39 ∧ Value.int IntKind.i64 (↑m38 : Int) = Value.int IntKind.i64 (↑m38
  : Int) ∧ bC (!b129) (Q (Value.bool false) h128) (unitAt P f_brickyardref13_one 2 [0, 3] [Value.slice p1 m2 m3, Value.int IntKind.i64 (IntKind.wrap IntKind.i64 (n4 + 1))] h128 Q))))))) (oB
  (AW.rd h29 (AW.next h) 2) fun v134 => vInt IntKind.i64 v134 fun n135 => bC (decide (n135 < 0)) (Q (Value.bool false) h29) (oB (AW.rd h29 (AW.next h) 2) fun v136 => vInt
  IntKind.i64 v136 fun n137 => bC (decide (n137 > 1000)) (Q (Value.bool false) h29) (oB (AW.rd h29 (AW.next h) 0) fun v138 => vInt IntKind.i64 v138 fun n139 => bC (n139 != 10) (oB
  (AW.rd h29 (AW.next h) 2) fun v140 => vInt IntKind.i64 v140 fun n141 => bC (n141 != 0) (Q (Value.bool false) h29) (oB (AW.rd h29 (AW.next h) 0) fun v142 => vInt IntKind.i64 v142
  fun n143 => EvQ P f_brickyardref13_Opens [Value.int IntKind.i64 n143] h29 fun v144 h145 => vBool v144 fun b146 => bC (!b146) (oB (AW.rd h145 (AW.next h) 3) fun v147 => vSl v147 fun p148 m149 m150
  => bC (decide ((↑m149 : Int) > 0)) (Q (Value.bool false) h145) (oB (AW.rd h145 (AW.next h) 3) fun v151 => vSl v151 fun p152 m153 m154 => EvQ P f_brickyardref13_one [Value.slice p152 m153 m154]
  h145 fun v155 h156 => vBool v155 fun b157 => bC (!b157) (Q (Value.bool false) h156) (unitAt P f_brickyardref13_one 2 [0, 3] [Value.slice p1 m2 m3, Value.int IntKind.i64 (IntKind.wrap
  IntKind.i64 (n4 + 1))] h156 Q))) (oB (AW.rd h145 (AW.next h) 3) fun v158 => vSl v158 fun p159 m160 m161 => EvQ P f_brickyardref13_one [Value.slice p159 m160 m161] h145 fun v162 h163 => vBool
  v162 fun b164 => bC (!b164) (Q (Value.bool false) h163) (unitAt P f_brickyardref13_one 2 [0, 3] [Value.slice p1 m2 m3, Value.int IntKind.i64 (IntKind.wrap IntKind.i64 (n4 + 1))] h163 Q)))) (oB
  (AW.rd h29 (AW.next h) 0) fun v165 => vInt IntKind.i64 v165 fun n166 => EvQ P f_brickyardref13_Opens [Value.int IntKind.i64 n166] h29 fun v167 h168 => vBool v167 fun b169 => bC (!b169) (oB (AW.rd
  h168 (AW.next h) 3) fun v170 => vSl v170 fun p171 m172 m173 => bC (decide ((↑m172 : Int) > 0)) (Q (Value.bool false) h168) (oB (AW.rd h168 (AW.next h) 3) fun v174 => vSl v174 fun
  p175 m176 m177 => EvQ P f_brickyardref13_one [Value.slice p175 m176 m177] h168 fun v178 h179 => vBool v178 fun b180 => bC (!b180) (Q (Value.bool false) h179) (unitAt P f_brickyardref13_one 2 [0, 3]
  [Value.slice p1 m2 m3, Value.int IntKind.i64 (IntKind.wrap IntKind.i64 (n4 + 1))] h179 Q))) (oB (AW.rd h168 (AW.next h) 3) fun v181 => vSl v181 fun p182 m183 m184 => EvQ P f_brickyardref13_one
  [Value.slice p182 m183 m184] h168 fun v185 h186 => vBool v185 fun b187 => bC (!b187) (Q (Value.bool false) h186) (unitAt P f_brickyardref13_one 2 [0, 3] [Value.slice p1 m2 m3, Value.int
  IntKind.i64 (IntKind.wrap IntKind.i64 (n4 + 1))] h186 Q)))))))) (Q (Value.bool true) h)) : unitAt P f_brickyardref13_one 2 [0, 3] [Value.slice p1 m2 m3, Value.int IntKind.i64 n4] h Q := unit_ok
  (n := 400) (ann := annOf [(2, [0, 3])]) (Eq.mp (by kernel_rfl) H)
theorem r_brickyardref13_Opens {n1 : Int} {h : AW} {Q : Value → AW → Prop} (H : bC (n1 == 10) (Q (Value.bool true) h) (bC (n1 == 11) (Q (Value.bool true) h) (Q (Value.bool (n1 == 12)) h))) : EvQ
  P f_brickyardref13_Opens [Value.int IntKind.i64 n1] h Q := fn_ok (n := 400) (ann := annOf []) (Eq.mp (by kernel_rfl) H)
theorem r_brickyardref13_Word {n1 : Int} {h : AW} {Q : Value → AW → Prop} (H : bC (n1 == 1) (Q (Value.string (ByteArray.mk #[110, 101, 101, 100])) h) (bC (n1 == 2) (Q (Value.string (ByteArray.mk
  #[99, 97, 116])) h) (bC (n1 == 3) (Q (Value.string (ByteArray.mk #[116, 101, 120, 116])) h) (bC (n1 == 4) (Q (Value.string (ByteArray.mk #[117, 112, 112, 101, 114])) h) (bC (n1
  == 5) (Q (Value.string (ByteArray.mk #[115, 111, 114, 116])) h) (bC (n1 == 6) (Q (Value.string (ByteArray.mk #[117, 110, 105, 113])) h) (bC (n1 == 7) (Q (Value.string
  (ByteArray.mk #[99, 111, 117, 110, 116])) h) (bC (n1 == 8) (Q (Value.string (ByteArray.mk #[119, 114, 105, 116, 101])) h) (bC (n1 == 9) (Q (Value.string (ByteArray.mk #[102, 97,
  105, 108])) h) (bC (n1 == 10) (Q (Value.string (ByteArray.mk #[114, 101, 112, 101, 97, 116])) h) (bC (n1 == 11) (Q (Value.string (ByteArray.mk #[101, 97, 99, 104])) h) (bC (n1 ==
  12) (Q (Value.string (ByteArray.mk #[119, 104, 101, 110])) h) (Q (Value.string (ByteArray.mk #[])) h))))))))))))) : EvQ P f_brickyardref13_Word [Value.int IntKind.i64 n1] h Q := fn_ok (n := 400)
  (ann := annOf []) (Eq.mp (by kernel_rfl) H)
theorem r_brickyardref13_Args {n1 : Int} {h : AW} {Q : Value → AW → Prop} (H : bC (n1 == 1) (Q (Value.int IntKind.i64 1) h) (bC (n1 == 2) (Q (Value.int IntKind.i64 1) h) (bC (n1 == 8) (Q
  (Value.int IntKind.i64 1) h) (bC (n1 == 11) (Q (Value.int IntKind.i64 1) h) (unitAt P f_brickyardref13_Args 7 [3] [Value.int IntKind.i64 n1] h Q))))) : EvQ P f_brickyardref13_Args [Value.int IntKind.i64 n1] h Q
  := fn_ok (n := 400) (ann := annOf [(7, [3]), (10, [3])]) (Eq.mp (by kernel_rfl) H)
theorem r_brickyardref13_Args_7 {n1 : Int} {h : AW} {Q : Value → AW → Prop} (H : bC (n1 == 3) (Q (Value.int IntKind.i64 (Int.negSucc 0)) h) (bC (n1 == 9) (Q (Value.int IntKind.i64 (Int.negSucc
  0)) h) (unitAt P f_brickyardref13_Args 10 [3] [Value.int IntKind.i64 n1] h Q))) : unitAt P f_brickyardref13_Args 7 [3] [Value.int IntKind.i64 n1] h Q := unit_ok (n := 400) (ann := annOf [(7, [3]), (10, [3])])
  (Eq.mp (by kernel_rfl) H)
theorem r_brickyardref13_Args_10 {n1 : Int} {h : AW} {Q : Value → AW → Prop} (H : bC (n1 == 12) (Q (Value.int IntKind.i64 2) h) (Q (Value.int IntKind.i64 0) h)) : unitAt P f_brickyardref13_Args 10 [3]
  [Value.int IntKind.i64 n1] h Q := unit_ok (n := 400) (ann := annOf [(7, [3]), (10, [3])]) (Eq.mp (by kernel_rfl) H)
end Go.Proofs.YtamoepfiodgbbaaGreatDoor
end

section
/- Layer 13: kinds, numbers and words. -/
namespace Go.Proofs.YtamoepfiodgbbaaGreatDoor
open Go.Abs Go.Abs.Fo
set_option maxRecDepth 100000
attribute [local irreducible] unitAt EvQ
variable {h : AW} {μ : Paint} {ρ : Store} {Q : Value → AW → Prop}

theorem opens_ok {n : Int} (hq : Q (.bool (opensM n)) h) : EvQ P f_action_opens [.int .i64 n] h Q := by
  refine r_action_opens ?_
  unfold opensM at hq
  refine bC_iff (fun e => ?_) (fun e => ?_)
  · have : decide (10 ≤ n) = true := e
    rw [this] at hq; exact hq
  · have : decide (10 ≤ n) = false := e
    rw [this] at hq; exact hq
theorem eqI {a b : Int} (e : (a == b) = true) : a = b := by simpa using e
theorem neI {a b : Int} (e : (a == b) = false) : a ≠ b := by simpa using e
theorem nb {b : Bool} (e : (!b) = true) : b = false := by cases b <;> simp_all
theorem nb' {b : Bool} (e : (!b) = false) : b = true := by cases b <;> simp_all
theorem rOpens_ok {n : Int} (hq : Q (.bool (opensM n)) h) : EvQ P f_brickyardref13_Opens [.int .i64 n] h Q := by
  refine r_brickyardref13_Opens ?_
  refine bC_iff (fun e => ?_) (fun e => ?_)
  · have e := eqI e; subst e; exact hq
  · refine bC_iff (fun e2 => ?_) (fun e2 => ?_)
    · have e := eqI e2; subst e; exact hq
    · have : (n == 12) = opensM n := by
        have h1 := neI e
        have h2 := neI e2
        unfold opensM
        rw [Bool.eq_iff_iff]
        simp
        omega
      rw [this]; exact hq
theorem rArgs_ok {n : Int} (hq : Q (.int .i64 (argsM n)) h) : EvQ P f_brickyardref13_Args [.int .i64 n] h Q := by
  refine r_brickyardref13_Args ?_
  refine bC_iff (fun e => ?_) (fun e1 => ?_)
  · have e := eqI e; subst e; exact hq
  refine bC_iff (fun e => ?_) (fun e2 => ?_)
  · have e := eqI e; subst e; exact hq
  refine bC_iff (fun e => ?_) (fun e3 => ?_)
  · have e := eqI e; subst e; exact hq
  refine bC_iff (fun e => ?_) (fun e4 => ?_)
  · have e := eqI e; subst e; exact hq
  refine r_brickyardref13_Args_7 ?_
  refine bC_iff (fun e => ?_) (fun e5 => ?_)
  · have e := eqI e; subst e; exact hq
  refine bC_iff (fun e => ?_) (fun e6 => ?_)
  · have e := eqI e; subst e; exact hq
  refine r_brickyardref13_Args_10 ?_
  refine bC_iff (fun e => ?_) (fun e7 => ?_)
  · have e := eqI e; subst e; exact hq
  · have h1 := neI e1
    have h2 := neI e2
    have h3 := neI e3
    have h4 := neI e4
    have h5 := neI e5
    have h6 := neI e6
    have h7 := neI e7
    rw [argsM, if_neg (by omega), if_neg (by omega), if_neg (by omega)] at hq
    exact hq
theorem fits_ok {n : Int} {k : Nat} (hq : Q (.bool (fitsM n k)) h) : EvQ P f_action_fits [.int .i64 n, .int .i64 (k : Int)] h Q := by
  have one : ∀ m : Nat, argsM n = (m : Int) → ((k : Int) == (m : Int)) = fitsM n k := by
    intro m e
    unfold fitsM
    rw [e]
    rw [Bool.eq_iff_iff]
    simp
    omega
  have o1 : ∀ e : argsM n = 1, Q (.bool ((k : Int) == 1)) h := fun e => by
    have := one 1 e
    rw [← this] at hq; exact hq
  refine r_action_fits ?_
  refine bC_iff (fun e => ?_) (fun e1 => ?_)
  · have e := eqI e; subst e; exact o1 rfl
  refine bC_iff (fun e => ?_) (fun e2 => ?_)
  · have e := eqI e; subst e; exact o1 rfl
  refine bC_iff (fun e => ?_) (fun e3 => ?_)
  · have e := eqI e; subst e; exact o1 rfl
  refine bC_iff (fun e => ?_) (fun e4 => ?_)
  · have e := eqI e; subst e; exact o1 rfl
  refine r_action_fits_7 ?_
  refine bC_iff (fun e => ?_) (fun e5 => ?_)
  · have e := eqI e; subst e; exact hq
  refine bC_iff (fun e => ?_) (fun e6 => ?_)
  · have e := eqI e; subst e; exact hq
  refine r_action_fits_10 ?_
  refine bC_iff (fun e => ?_) (fun e7 => ?_)
  · have e := eqI e; subst e
    have := one 2 rfl
    rw [← this] at hq; exact hq
  · have h1 := neI e1
    have h2 := neI e2
    have h3 := neI e3
    have h4 := neI e4
    have h5 := neI e5
    have h6 := neI e6
    have h7 := neI e7
    have := one 0 (by rw [argsM, if_neg (by omega), if_neg (by omega), if_neg (by omega)]; rfl)
    rw [← this] at hq; exact hq
theorem wordM_out {n : Int} (hn : n < 1 ∨ 12 < n) : wordM n = e0 := by
  cases n with
  | negSucc k => rfl
  | ofNat k =>
    unfold wordM
    simp only
    by_cases hk : k = 0
    · subst hk; rfl
    · have : 12 < k := by
        rcases hn with x | x
        · have x : (k : Int) < 1 := x
          omega
        · have x : 12 < (k : Int) := x
          omega
      rw [List.getElem?_eq_none (by simp; omega)]; rfl
theorem rWord_ok {n : Int} (hq : Q (.string (wordM n)) h) : EvQ P f_brickyardref13_Word [.int .i64 n] h Q := by
  refine r_brickyardref13_Word ?_
  refine bC_iff (fun e => ?_) (fun e1 => ?_)
  · have e := eqI e; subst e; exact hq
  refine bC_iff (fun e => ?_) (fun e2 => ?_)
  · have e := eqI e; subst e; exact hq
  refine bC_iff (fun e => ?_) (fun e3 => ?_)
  · have e := eqI e; subst e; exact hq
  refine bC_iff (fun e => ?_) (fun e4 => ?_)
  · have e := eqI e; subst e; exact hq
  refine bC_iff (fun e => ?_) (fun e5 => ?_)
  · have e := eqI e; subst e; exact hq
  refine bC_iff (fun e => ?_) (fun e6 => ?_)
  · have e := eqI e; subst e; exact hq
  refine bC_iff (fun e => ?_) (fun e7 => ?_)
  · have e := eqI e; subst e; exact hq
  refine bC_iff (fun e => ?_) (fun e8 => ?_)
  · have e := eqI e; subst e; exact hq
  refine bC_iff (fun e => ?_) (fun e9 => ?_)
  · have e := eqI e; subst e; exact hq
  refine bC_iff (fun e => ?_) (fun e10 => ?_)
  · have e := eqI e; subst e; exact hq
  refine bC_iff (fun e => ?_) (fun e11 => ?_)
  · have e := eqI e; subst e; exact hq
  refine bC_iff (fun e => ?_) (fun e12 => ?_)
  · have e := eqI e; subst e; exact hq
  have h1 := neI e1
  have h2 := neI e2
  have h3 := neI e3
  have h4 := neI e4
  have h5 := neI e5
  have h6 := neI e6
  have h7 := neI e7
  have h8 := neI e8
  have h9 := neI e9
  have h10 := neI e10
  have h11 := neI e11
  have h12 := neI e12
  rw [wordM_out (by omega)] at hq
  exact hq
theorem bytes_one {b : UInt8} : AW.bytes (h.addVar [.int .u8 b.toNat]) (some ⟨h.next, 0, none⟩) 1 = some ⟨#[b]⟩ := by
  have hr : (h.addVar [.int .u8 b.toNat]).rd h.next 0 = some (.int .u8 b.toNat) := by
    have := (addVar_at (h := h) (l := [.int .u8 b.toNat])).rd 0
    exact this
  have hn : (h.addVar [.int .u8 b.toNat]).rdN h.next 0 1 = some [.int .u8 b.toNat] := by
    simp only [AW.rdN]
    rw [hr]
  unfold AW.bytes
  simp only
  rw [hn]
  simp only [bytesV]
  rw [show UInt8.ofNat (Int.toNat ((b.toNat : Nat) : Int)) = b from by simp]
theorem wrap8 {n : Nat} (hn : n < 256) : IntKind.wrap .u8 (n : Int) = (n : Int) := by
  unfold IntKind.wrap
  simp [IntKind.signed, IntKind.bits]
  omega
theorem digits_more : ∀ (k n : Nat), n < 10 ^ (k + 1) → digits (k + 1) n = digits k n
  | 0, n, hn => by
    rw [digits, digits, if_neg (by omega)]
  | k + 1, n, hn => by
    rw [digits]
    conv => rhs; rw [digits]
    rw [digits_more k (n / 10) (by rw [Nat.pow_succ] at hn; omega)]
theorem digS_rec {n : Nat} (h0 : 10 ≤ n) (hn : n < 10000) : digS n = digS (n / 10) ++ ⟨#[digB n]⟩ := by
  unfold digS
  rw [digits, if_pos h0]
  have : digits 20 (n / 10) = digits 19 (n / 10) := digits_more 19 _ (by omega)
  rw [this]
  have hh : ∀ a b : List UInt8, (⟨⟨a ++ b⟩⟩ : ByteArray) = (⟨⟨a⟩⟩ : ByteArray) ++ (⟨⟨b⟩⟩ : ByteArray) := by
    intro a b
    apply ByteArray.ext
    simp
  exact hh _ _
theorem digS_small {n : Nat} (h0 : ¬ 10 ≤ n) : digS n = ⟨#[digB n]⟩ := by
  unfold digS
  rw [digits, if_neg h0]
theorem digits_len : ∀ (k n : Nat), (digits k n).length ≤ k + 1
  | 0, n => by simp [digits]
  | k + 1, n => by
    rw [digits]; split
    · have := digits_len k (n / 10); simp; omega
    · simp
theorem rDigits_ok (O : Own h μ ρ) {n : Nat} (hn : n < 10000) (hq : RdQ Q ρ (.string (digS n))) : EvQ P f_brickyardref13_Digits [.int .i64 (n : Int)] h Q := by
  induction n using Nat.strongRecOn generalizing h μ ρ Q with
  | ind n ih =>
    have hw : IntKind.wrap .u8 (IntKind.wrap .i64 (48 + Int.tmod (n : Int) 10)) = ((digB n).toNat : Int) := by
      have e : (48 + Int.tmod (n : Int) 10) = ((48 + n % 10 : Nat) : Int) := by
        have : Int.tmod (n : Int) ((10 : Nat) : Int) = ((n % 10 : Nat) : Int) := rfl
        rw [show (10 : Int) = ((10 : Nat) : Int) from rfl, this]; omega
      rw [e, wrap_small (n := ((48 + n % 10 : Nat) : Int)) (by omega) (by omega), wrap8 (by omega)]
      have : (digB n).toNat = 48 + n % 10 := by
        unfold digB
        rw [UInt8.toNat_ofNat']; omega
      rw [this]
    refine r_brickyardref13_Digits ?_
    rw [hw, bytes_one]
    simp only [oB_some, bC_true, bC_false, vInt_int, vBool_bool, vStr_string, vPtr_pointer, vSl_slice, vMap_map, vFun_func, vAgg_agg, vTup_tuple, vIfc_nil, vIfc_iface, lC_cons, lN_nil, aP_some, shO_none, shO_some, Option.isNone_none, Option.isNone_some, Bool.not_true, Bool.not_false]
    obtain ⟨μ1, O1⟩ := o_junk (l := [.int .u8 (digB n).toNat]) O
    refine bC_iff (fun e => ?_) (fun e => ?_)
    · have e : (n : Int) ≥ 10 := of_decide_eq_true e
      have h10 : 10 ≤ n := by omega
      have e2 : IntKind.wrap .i64 (Int.tdiv (n : Int) 10) = ((n / 10 : Nat) : Int) := by
        have : Int.tdiv (n : Int) ((10 : Nat) : Int) = ((n / 10 : Nat) : Int) := rfl
        rw [show (10 : Int) = ((10 : Nat) : Int) from rfl, this, wrap_small (n := ((n / 10 : Nat) : Int)) (by omega) (by omega)]
      rw [e2]
      refine ih (n / 10) (by omega) O1 (by omega) fun h2 μ2 ρ2 O2 F2 => ?_
      simp only [oB_some, bC_true, bC_false, vInt_int, vBool_bool, vStr_string, vPtr_pointer, vSl_slice, vMap_map, vFun_func, vAgg_agg, vTup_tuple, vIfc_nil, vIfc_iface, lC_cons, lN_nil, aP_some, shO_none, shO_some, Option.isNone_none, Option.isNone_some, Bool.not_true, Bool.not_false]
      have hl : ∀ k, (digS k).size ≤ 21 := fun k => by
        have := digits_len 20 k
        simpa [digS, ByteArray.size] using this
      have h1 : (digS (n / 10)).size ≤ 21 := hl _
      rw [Nat.ble_eq_true_of_le (by have : (ByteArray.mk #[digB n]).size = 1 := rfl; omega)]
      simp only [oB_some, bC_true, bC_false, vInt_int, vBool_bool, vStr_string, vPtr_pointer, vSl_slice, vMap_map, vFun_func, vAgg_agg, vTup_tuple, vIfc_nil, vIfc_iface, lC_cons, lN_nil, aP_some, shO_none, shO_some, Option.isNone_none, Option.isNone_some, Bool.not_true, Bool.not_false]
      rw [← digS_rec h10 hn]
      exact hq _ _ _ O2 F2
    · have e : ¬ (n : Int) ≥ 10 := of_decide_eq_false e
      rw [digS_small (by omega)] at hq
      exact hq.now O1
end Go.Proofs.YtamoepfiodgbbaaGreatDoor
end

section
/- Rules of walks, printed by a program of ours: group Law. -/
namespace Go.Proofs.YtamoepfiodgbbaaGreatDoor
open Go.Abs
set_option maxRecDepth 100000
theorem r_brickyardlaw15_ElabTexts {s1 : ByteArray} {p2 : Option Addr} {m3 : Nat} {m4 : Nat} {p5 : Option Addr} {m6 : Nat} {m7 : Nat} {p8 : Option Addr} {m9 : Nat} {m10 : Nat} {s11 : ByteArray} {p12 :
  Option Addr} {m13 : Nat} {m14 : Nat} {p15 : Option Addr} {m16 : Nat} {m17 : Nat} {p18 : Option Addr} {m19 : Nat} {m20 : Nat} {h : AW} {Q : Value → AW → Prop} (H : EvQ P f_brickyardlaw15_works []
  (AW.addVar (AW.addVar h [Value.string s1, Value.slice p2 m3 m4, Value.slice p5 m6 m7, Value.slice p8 m9 m10]) [Value.string s11, Value.slice p12 m13 m14, Value.slice p15 m16 m17,
  Value.slice p18 m19 m20]) fun v21 h22 => vBool v21 fun b23 => bC (!b23) (Q (Value.bool false) h22) (oB (AW.rd h22 (AW.next h) 0) fun v24 => vStr v24 fun s25 => oB (AW.rd h22
  (AW.next h) 1) fun v26 => vSl v26 fun p27 m28 m29 => oB (AW.rd h22 (AW.next h) 2) fun v30 => vSl v30 fun p31 m32 m33 => oB (AW.rd h22 (AW.next h) 3) fun v34 => vSl v34 fun p35
  m36 m37 => EvQ P f_brickyardlaw15_big [Value.agg (Array.mk [Value.string s25, Value.slice p27 m28 m29, Value.slice p31 m32 m33, Value.slice p35 m36 m37])] h22 fun v38 h39 => vBool v38 fun b40 =>
  bC b40 (Q (Value.bool true) h39) (oB (AW.rd h39 (AW.next (AW.addVar h [Value.string s1, Value.slice p2 m3 m4, Value.slice p5 m6 m7, Value.slice p8 m9 m10])) 0) fun v41 => vStr
  v41 fun s42 => oB (AW.rd h39 (AW.next (AW.addVar h [Value.string s1, Value.slice p2 m3 m4, Value.slice p5 m6 m7, Value.slice p8 m9 m10])) 1) fun v43 => vSl v43 fun p44 m45 m46 =>
  oB (AW.rd h39 (AW.next (AW.addVar h [Value.string s1, Value.slice p2 m3 m4, Value.slice p5 m6 m7, Value.slice p8 m9 m10])) 2) fun v47 => vSl v47 fun p48 m49 m50 => oB (AW.rd h39
  (AW.next (AW.addVar h [Value.string s1, Value.slice p2 m3 m4, Value.slice p5 m6 m7, Value.slice p8 m9 m10])) 3) fun v51 => vSl v51 fun p52 m53 m54 => EvQ P f_brickyardlaw15_big [Value.agg
  (Array.mk [Value.string s42, Value.slice p44 m45 m46, Value.slice p48 m49 m50, Value.slice p52 m53 m54])] h39 fun v55 h56 => vBool v55 fun b57 => bC b57 (Q (Value.bool true) h56)
  (oB (AW.rd h56 (AW.next h) 0) fun v58 => vStr v58 fun s59 => oB (AW.rd h56 (AW.next h) 1) fun v60 => vSl v60 fun p61 m62 m63 => oB (AW.rd h56 (AW.next h) 2) fun v64 => vSl v64
  fun p65 m66 m67 => oB (AW.rd h56 (AW.next h) 3) fun v68 => vSl v68 fun p69 m70 m71 => EvQ P f_elab_JobText [Value.agg (Array.mk [Value.string s59, Value.slice p61 m62 m63, Value.slice p65
  m66 m67, Value.slice p69 m70 m71])] h56 fun v72 h73 => vStr v72 fun s74 => oB (AW.rd h73 (AW.next (AW.addVar h [Value.string s1, Value.slice p2 m3 m4, Value.slice p5 m6 m7,
  Value.slice p8 m9 m10])) 0) fun v75 => vStr v75 fun s76 => oB (AW.rd h73 (AW.next (AW.addVar h [Value.string s1, Value.slice p2 m3 m4, Value.slice p5 m6 m7, Value.slice p8 m9
  m10])) 1) fun v77 => vSl v77 fun p78 m79 m80 => oB (AW.rd h73 (AW.next (AW.addVar h [Value.string s1, Value.slice p2 m3 m4, Value.slice p5 m6 m7, Value.slice p8 m9 m10])) 2) fun
  v81 => vSl v81 fun p82 m83 m84 => oB (AW.rd h73 (AW.next (AW.addVar h [Value.string s1, Value.slice p2 m3 m4, Value.slice p5 m6 m7, Value.slice p8 m9 m10])) 3) fun v85 => vSl v85
  fun p86 m87 m88 => EvQ P f_elab_JobText [Value.agg (Array.mk [Value.string s76, Value.slice p78 m79 m80, Value.slice p82 m83 m84, Value.slice p86 m87 m88])] h73 fun v89 h90 => vStr v89 fun
  s91 => oB (AW.rd h56 (AW.next (AW.addVar h [Value.string s1, Value.slice p2 m3 m4, Value.slice p5 m6 m7, Value.slice p8 m9 m10])) 0) fun v92 => vStr v92 fun s93 => oB (AW.rd h56
  (AW.next (AW.addVar h [Value.string s1, Value.slice p2 m3 m4, Value.slice p5 m6 m7, Value.slice p8 m9 m10])) 1) fun v94 => vSl v94 fun p95 m96 m97 => oB (AW.rd h56 (AW.next
  (AW.addVar h [Value.string s1, Value.slice p2 m3 m4, Value.slice p5 m6 m7, Value.slice p8 m9 m10])) 2) fun v98 => vSl v98 fun p99 m100 m101 => oB (AW.rd h56 (AW.next (AW.addVar h
  [Value.string s1, Value.slice p2 m3 m4, Value.slice p5 m6 m7, Value.slice p8 m9 m10])) 3) fun v102 => vSl v102 fun p103 m104 m105 => Value.agg (Array.mk [Value.string s93,
  Value.slice p95 m96 m97, Value.slice p99 m100 m101, Value.slice p103 m104 m105]) = Value.agg (Array.mk [Value.string s76, Value.slice p78 m79 m80, Value.slice p82 m83 m84,
  Value.slice p86 m87 m88]) ∧ oB (AW.rd h90 (AW.next h) 0) fun v106 => vStr v106 fun s107 => oB (AW.rd h90 (AW.next h) 1) fun v108 => vSl v108 fun p109 m110 m111 => oB (AW.rd h90
  (AW.next h) 2) fun v112 => vSl v112 fun p113 m114 m115 => oB (AW.rd h90 (AW.next h) 3) fun v116 => vSl v116 fun p117 m118 m119 => EvQ P f_brickyardref15_JobText [Value.agg (Array.mk [Value.string
  s107, Value.slice p109 m110 m111, Value.slice p113 m114 m115, Value.slice p117 m118 m119])] h90 fun v120 h121 => vStr v120 fun s122 => bC (!bEq s74 s122) (Q (Value.bool false)
  h121) (oB (AW.rd h121 (AW.next (AW.addVar h [Value.string s1, Value.slice p2 m3 m4, Value.slice p5 m6 m7, Value.slice p8 m9 m10])) 0) fun v123 => vStr v123 fun s124 => oB (AW.rd
  h121 (AW.next (AW.addVar h [Value.string s1, Value.slice p2 m3 m4, Value.slice p5 m6 m7, Value.slice p8 m9 m10])) 1) fun v125 => vSl v125 fun p126 m127 m128 => oB (AW.rd h121
  (AW.next (AW.addVar h [Value.string s1, Value.slice p2 m3 m4, Value.slice p5 m6 m7, Value.slice p8 m9 m10])) 2) fun v129 => vSl v129 fun p130 m131 m132 => oB (AW.rd h121 (AW.next
  (AW.addVar h [Value.string s1, Value.slice p2 m3 m4, Value.slice p5 m6 m7, Value.slice p8 m9 m10])) 3) fun v133 => vSl v133 fun p134 m135 m136 => EvQ P f_brickyardref15_JobText [Value.agg (Array.mk
  [Value.string s124, Value.slice p126 m127 m128, Value.slice p130 m131 m132, Value.slice p134 m135 m136])] h121 fun v137 h138 => vStr v137 fun s139 => bC (!bEq s91 s139) (Q
  (Value.bool false) h138) (oB (AW.rd h138 (AW.next h) 3) fun v140 => vSl v140 fun p141 m142 m143 => EvQ P f_action_May [Value.slice p141 m142 m143] h138 fun v144 h145 => vBool v144 fun
  b146 => bC (!b146) (Q (Value.bool true) h145) (oB (AW.rd h145 (AW.next (AW.addVar h [Value.string s1, Value.slice p2 m3 m4, Value.slice p5 m6 m7, Value.slice p8 m9 m10])) 3) fun
  v147 => vSl v147 fun p148 m149 m150 => EvQ P f_action_May [Value.slice p148 m149 m150] h145 fun v151 h152 => vBool v151 fun b153 => bC (!b153) (Q (Value.bool true) h152) (oB (AW.rd h152
  (AW.next h) 1) fun v154 => vSl v154 fun p155 m156 m157 => EvQ P f_brickyardlaw15_paths [Value.slice p155 m156 m157] h152 fun v158 h159 => vBool v158 fun b160 => bC (!b160) (Q (Value.bool true)
  h159) (oB (AW.rd h159 (AW.next (AW.addVar h [Value.string s1, Value.slice p2 m3 m4, Value.slice p5 m6 m7, Value.slice p8 m9 m10])) 1) fun v161 => vSl v161 fun p162 m163 m164 =>
  EvQ P f_brickyardlaw15_paths [Value.slice p162 m163 m164] h159 fun v165 h166 => vBool v165 fun b167 => bC (!b167) (Q (Value.bool true) h166) (oB (AW.rd h166 (AW.next h) 2) fun v168 => vSl v168 fun
  p169 m170 m171 => EvQ P f_brickyardlaw15_paths [Value.slice p169 m170 m171] h166 fun v172 h173 => vBool v172 fun b174 => bC (!b174) (Q (Value.bool true) h173) (oB (AW.rd h173 (AW.next (AW.addVar h
  [Value.string s1, Value.slice p2 m3 m4, Value.slice p5 m6 m7, Value.slice p8 m9 m10])) 2) fun v175 => vSl v175 fun p176 m177 m178 => EvQ P f_brickyardlaw15_paths [Value.slice p176 m177 m178] h173
  fun v179 h180 => vBool v179 fun b181 => bC (!b181) (Q (Value.bool true) h180) (oB (AW.rd h180 (AW.next h) 1) fun v182 => vSl v182 fun p183 m184 m185 => oB (AW.rd h180 (AW.next
  (AW.addVar h [Value.string s1, Value.slice p2 m3 m4, Value.slice p5 m6 m7, Value.slice p8 m9 m10])) 1) fun v186 => vSl v186 fun p187 m188 m189 => EvQ P f_brickyardref15_Texts [Value.slice p183
  m184 m185, Value.slice p187 m188 m189] h180 fun v190 h191 => vBool v190 fun b192 => bC b192 (oB (AW.rd h191 (AW.next h) 2) fun v193 => vSl v193 fun p194 m195 m196 => oB (AW.rd
  h191 (AW.next (AW.addVar h [Value.string s1, Value.slice p2 m3 m4, Value.slice p5 m6 m7, Value.slice p8 m9 m10])) 2) fun v197 => vSl v197 fun p198 m199 m200 => EvQ P f_brickyardref15_Texts
  [Value.slice p194 m195 m196, Value.slice p198 m199 m200] h191 fun v201 h202 => vBool v201 fun b203 => bC b203 (oB (AW.rd h202 (AW.next h) 3) fun v204 => vSl v204 fun p205 m206
  m207 => oB (AW.rd h202 (AW.next (AW.addVar h [Value.string s1, Value.slice p2 m3 m4, Value.slice p5 m6 m7, Value.slice p8 m9 m10])) 3) fun v208 => vSl v208 fun p209 m210 m211 =>
  EvQ P f_action_Same [Value.slice p205 m206 m207, Value.slice p209 m210 m211] h202 fun v212 h213 => vBool v212 fun b214 => Q (Value.bool (bEq s74 s91 == b214)) h213) (Q (Value.bool (bEq
  s74 s91 == false)) h202)) (Q (Value.bool (bEq s74 s91 == false)) h191))))))))))))) : EvQ P f_brickyardlaw15_ElabTexts [Value.agg (Array.mk [Value.string s1, Value.slice p2 m3 m4, Value.slice p5 m6 m7,
  Value.slice p8 m9 m10]), Value.agg (Array.mk [Value.string s11, Value.slice p12 m13 m14, Value.slice p15 m16 m17, Value.slice p18 m19 m20])] h Q := fn_ok (n := 400) (ann := annOf
  []) (Eq.mp (by kernel_rfl) H)
theorem r_brickyardlaw15_big {s1 : ByteArray} {p2 : Option Addr} {m3 : Nat} {m4 : Nat} {p5 : Option Addr} {m6 : Nat} {m7 : Nat} {p8 : Option Addr} {m9 : Nat} {m10 : Nat} {h : AW} {Q : Value → AW
  → Prop} (H : oB (AW.rd (AW.addVar h [Value.string s1, Value.slice p2 m3 m4, Value.slice p5 m6 m7, Value.slice p8 m9 m10]) (AW.next h) 3) fun v11 => vSl v11 fun p12 m13 m14 => EvQ
  P f_brickyardlaw15_weight [Value.slice p12 m13 m14, Value.int IntKind.i64 131072, Value.int IntKind.i64 0] (AW.addVar h [Value.string s1, Value.slice p2 m3 m4, Value.slice p5 m6 m7, Value.slice p8
  m9 m10]) fun v15 h16 => vInt IntKind.i64 v15 fun n17 => unitAt P f_brickyardlaw15_big 3 [1, 3, 4] [Value.pointer (some (Addr.mk (AW.next h) 0 none)), Value.int IntKind.i64 n17, Value.int
  IntKind.i64 0] h16 Q) : EvQ P f_brickyardlaw15_big [Value.agg (Array.mk [Value.string s1, Value.slice p2 m3 m4, Value.slice p5 m6 m7, Value.slice p8 m9 m10])] h Q := fn_ok (n := 400) (ann :=
  annOf [(3, [1, 3, 4]), (7, [1, 3, 5])]) (Eq.mp (by kernel_rfl) H)
theorem r_brickyardlaw15_big_3 {m1 : Nat} {n2 : Int} {n3 : Int} {h : AW} {Q : Value → AW → Prop} (H : oB (AW.rd h m1 1) fun v4 => vSl v4 fun p5 m6 m7 => bC (decide (n3 < (↑m6 : Int))) (bC
  (decide (n2 < 131072)) (oB (AW.rd h m1 1) fun v8 => vSl v8 fun p9 m10 m11 => aP p9 fun m12 m13 => oB (natIdx n3 m10) fun m14 => oB (AW.rd h m12 (m13 + m14 * 1)) fun v15 => vStr
  v15 fun s16 => unitAt P f_brickyardlaw15_big 3 [1, 3, 4] [Value.pointer (some (Addr.mk m1 0 none)), Value.int IntKind.i64 (IntKind.wrap IntKind.i64 (n2 + IntKind.wrap IntKind.i64 (1 +
  (↑(ByteArray.size s16) : Int)))), Value.int IntKind.i64 (IntKind.wrap IntKind.i64 (n3 + 1))] h Q) (unitAt P f_brickyardlaw15_big 7 [1, 3, 5] [Value.pointer (some (Addr.mk m1 0 none)), Value.int
  IntKind.i64 n2, Value.int IntKind.i64 0] h Q)) (unitAt P f_brickyardlaw15_big 7 [1, 3, 5] [Value.pointer (some (Addr.mk m1 0 none)), Value.int IntKind.i64 n2, Value.int IntKind.i64 0] h Q)) :
  unitAt P f_brickyardlaw15_big 3 [1, 3, 4] [Value.pointer (some (Addr.mk m1 0 none)), Value.int IntKind.i64 n2, Value.int IntKind.i64 n3] h Q := unit_ok (n := 400) (ann := annOf [(3, [1, 3, 4]),
  (7, [1, 3, 5])]) (Eq.mp (by kernel_rfl) H)
theorem r_brickyardlaw15_big_7 {m1 : Nat} {n2 : Int} {n3 : Int} {h : AW} {Q : Value → AW → Prop} (H : oB (AW.rd h m1 2) fun v4 => vSl v4 fun p5 m6 m7 => bC (decide (n3 < (↑m6 : Int))) (bC
  (decide (n2 < 131072)) (oB (AW.rd h m1 2) fun v8 => vSl v8 fun p9 m10 m11 => aP p9 fun m12 m13 => oB (natIdx n3 m10) fun m14 => oB (AW.rd h m12 (m13 + m14 * 1)) fun v15 => vStr
  v15 fun s16 => unitAt P f_brickyardlaw15_big 7 [1, 3, 5] [Value.pointer (some (Addr.mk m1 0 none)), Value.int IntKind.i64 (IntKind.wrap IntKind.i64 (n2 + IntKind.wrap IntKind.i64 (1 +
  (↑(ByteArray.size s16) : Int)))), Value.int IntKind.i64 (IntKind.wrap IntKind.i64 (n3 + 1))] h Q) (Q (Value.bool (decide (n2 ≥ 131072))) h)) (Q (Value.bool (decide (n2 ≥
  131072))) h)) : unitAt P f_brickyardlaw15_big 7 [1, 3, 5] [Value.pointer (some (Addr.mk m1 0 none)), Value.int IntKind.i64 n2, Value.int IntKind.i64 n3] h Q := unit_ok (n := 400) (ann := annOf
  [(3, [1, 3, 4]), (7, [1, 3, 5])]) (Eq.mp (by kernel_rfl) H)
theorem r_brickyardlaw15_paths {p1 : Option Addr} {m2 : Nat} {m3 : Nat} {h : AW} {Q : Value → AW → Prop} (H : unitAt P f_brickyardlaw15_paths 2 [0, 3] [Value.slice p1 m2 m3, Value.int IntKind.i64 0] h Q) : EvQ P
  f_brickyardlaw15_paths [Value.slice p1 m2 m3] h Q := fn_ok (n := 400) (ann := annOf [(2, [0, 3])]) (Eq.mp (by kernel_rfl) H)
theorem r_brickyardlaw15_paths_2 {p1 : Option Addr} {m2 : Nat} {m3 : Nat} {n4 : Int} {h : AW} {Q : Value → AW → Prop} (H : bC (decide (n4 < (↑m2 : Int))) (aP p1 fun m5 m6 => oB (natIdx n4 m2) fun
  m7 => oB (AW.rd h m5 (m6 + m7 * 1)) fun v8 => vStr v8 fun s9 => EvQ P f_path_Is [Value.string s9] h fun v10 h11 => vBool v10 fun b12 => bC (!b12) (Q (Value.bool false) h11) (unitAt P
  f_brickyardlaw15_paths 2 [0, 3] [Value.slice p1 m2 m3, Value.int IntKind.i64 (IntKind.wrap IntKind.i64 (n4 + 1))] h11 Q)) (Q (Value.bool true) h)) : unitAt P f_brickyardlaw15_paths 2 [0, 3] [Value.slice p1 m2 m3,
  Value.int IntKind.i64 n4] h Q := unit_ok (n := 400) (ann := annOf [(2, [0, 3])]) (Eq.mp (by kernel_rfl) H)
theorem r_brickyardlaw15_weight {p1 : Option Addr} {m2 : Nat} {m3 : Nat} {n4 : Int} {n5 : Int} {h : AW} {Q : Value → AW → Prop} (H : unitAt P f_brickyardlaw15_weight 3 [0, 1, 2, 7, 8] [Value.slice p1 m2 m3, Value.int
  IntKind.i64 n4, Value.int IntKind.i64 n5, Value.int IntKind.i64 0, Value.int IntKind.i64 0] h Q) : EvQ P f_brickyardlaw15_weight [Value.slice p1 m2 m3, Value.int IntKind.i64 n4, Value.int
  IntKind.i64 n5] h Q := fn_ok (n := 400) (ann := annOf [(3, [0, 1, 2, 7, 8]), (7, [0, 1, 2, 7, 8, 9])]) (Eq.mp (by kernel_rfl) H)
theorem r_brickyardlaw15_weight_3 {p1 : Option Addr} {m2 : Nat} {m3 : Nat} {n4 : Int} {n5 : Int} {n6 : Int} {n7 : Int} {h : AW} {Q : Value → AW → Prop} (H : bC (decide (n7 < (↑m2 : Int))) (bC
  (decide (n6 < n4)) (unitAt P f_brickyardlaw15_weight 7 [0, 1, 2, 7, 8, 9] [Value.slice p1 m2 m3, Value.int IntKind.i64 n4, Value.int IntKind.i64 n5, Value.int IntKind.i64 (IntKind.wrap IntKind.i64
  (n6 + 1)), Value.int IntKind.i64 n7, Value.int IntKind.i64 0] h Q) (Q (Value.int IntKind.i64 n6) h)) (Q (Value.int IntKind.i64 n6) h)) : unitAt P f_brickyardlaw15_weight 3 [0, 1, 2, 7, 8]
  [Value.slice p1 m2 m3, Value.int IntKind.i64 n4, Value.int IntKind.i64 n5, Value.int IntKind.i64 n6, Value.int IntKind.i64 n7] h Q := unit_ok (n := 400) (ann := annOf [(3, [0, 1,
  2, 7, 8]), (7, [0, 1, 2, 7, 8, 9])]) (Eq.mp (by kernel_rfl) H)
theorem r_brickyardlaw15_weight_7 {p1 : Option Addr} {m2 : Nat} {m3 : Nat} {n4 : Int} {n5 : Int} {n6 : Int} {n7 : Int} {n8 : Int} {h : AW} {Q : Value → AW → Prop} (H : aP p1 fun m9 m10 => oB
  (natIdx n7 m2) fun m11 => oB (AW.rd h m9 (m10 + m11 * 4 + 1)) fun v12 => vSl v12 fun p13 m14 m15 => bC (decide (n8 < (↑m14 : Int))) (bC (decide (n6 < n4)) (aP p1 fun m16 m17 =>
  oB (natIdx n7 m2) fun m18 => oB (AW.rd h m16 (m17 + m18 * 4 + 1)) fun v19 => vSl v19 fun p20 m21 m22 => aP p20 fun m23 m24 => oB (natIdx n8 m21) fun m25 => oB (AW.rd h m23 (m24 +
  m25 * 1)) fun v26 => vStr v26 fun s27 => unitAt P f_brickyardlaw15_weight 7 [0, 1, 2, 7, 8, 9] [Value.slice p1 m2 m3, Value.int IntKind.i64 n4, Value.int IntKind.i64 n5, Value.int IntKind.i64
  (IntKind.wrap IntKind.i64 (n6 + IntKind.wrap IntKind.i64 (1 + (↑(ByteArray.size s27) : Int)))), Value.int IntKind.i64 n7, Value.int IntKind.i64 (IntKind.wrap IntKind.i64 (n8 +
  1))] h Q) (bC (decide (n5 > 60)) (Q (Value.int IntKind.i64 n4) h) (aP p1 fun m28 m29 => oB (natIdx n7 m2) fun m30 => oB (AW.rd h m28 (m29 + m30 * 4 + 3)) fun v31 => vSl v31 fun
  p32 m33 m34 => EvQ P f_brickyardlaw15_weight [Value.slice p32 m33 m34, Value.int IntKind.i64 (IntKind.wrap IntKind.i64 (n4 - n6)), Value.int IntKind.i64 (IntKind.wrap IntKind.i64 (n5 + 1))] h fun
  v35 h36 => vInt IntKind.i64 v35 fun n37 => unitAt P f_brickyardlaw15_weight 3 [0, 1, 2, 7, 8] [Value.slice p1 m2 m3, Value.int IntKind.i64 n4, Value.int IntKind.i64 n5, Value.int IntKind.i64
  (IntKind.wrap IntKind.i64 (n6 + n37)), Value.int IntKind.i64 (IntKind.wrap IntKind.i64 (n7 + 1))] h36 Q))) (bC (decide (n5 > 60)) (Q (Value.int IntKind.i64 n4) h) (aP p1 fun m38
  m39 => oB (natIdx n7 m2) fun m40 => oB (AW.rd h m38 (m39 + m40 * 4 + 3)) fun v41 => vSl v41 fun p42 m43 m44 => EvQ P f_brickyardlaw15_weight [Value.slice p42 m43 m44, Value.int IntKind.i64
  (IntKind.wrap IntKind.i64 (n4 - n6)), Value.int IntKind.i64 (IntKind.wrap IntKind.i64 (n5 + 1))] h fun v45 h46 => vInt IntKind.i64 v45 fun n47 => unitAt P f_brickyardlaw15_weight 3 [0, 1, 2, 7, 8]
  [Value.slice p1 m2 m3, Value.int IntKind.i64 n4, Value.int IntKind.i64 n5, Value.int IntKind.i64 (IntKind.wrap IntKind.i64 (n6 + n47)), Value.int IntKind.i64 (IntKind.wrap
  IntKind.i64 (n7 + 1))] h46 Q))) : unitAt P f_brickyardlaw15_weight 7 [0, 1, 2, 7, 8, 9] [Value.slice p1 m2 m3, Value.int IntKind.i64 n4, Value.int IntKind.i64 n5, Value.int IntKind.i64 n6,
  Value.int IntKind.i64 n7, Value.int IntKind.i64 n8] h Q := unit_ok (n := 400) (ann := annOf [(3, [0, 1, 2, 7, 8]), (7, [0, 1, 2, 7, 8, 9])]) (Eq.mp (by kernel_rfl) H)
theorem r_brickyardref15_Texts {p1 : Option Addr} {m2 : Nat} {m3 : Nat} {p4 : Option Addr} {m5 : Nat} {m6 : Nat} {h : AW} {Q : Value → AW → Prop} (H : bC ((↑m2 : Int) != (↑m5 : Int)) (Q
  (Value.bool false) h) (unitAt P f_brickyardref15_Texts 4 [0, 1, 5] [Value.slice p1 m2 m3, Value.slice p4 m5 m6, Value.int IntKind.i64 0] h Q)) : EvQ P f_brickyardref15_Texts [Value.slice p1 m2 m3, Value.slice p4 m5
  m6] h Q := fn_ok (n := 400) (ann := annOf [(4, [0, 1, 5])]) (Eq.mp (by kernel_rfl) H)
theorem r_brickyardref15_Texts_4 {p1 : Option Addr} {m2 : Nat} {m3 : Nat} {p4 : Option Addr} {m5 : Nat} {m6 : Nat} {n7 : Int} {h : AW} {Q : Value → AW → Prop} (H : bC (decide (n7 < (↑m2 : Int)))
  (aP p1 fun m8 m9 => oB (natIdx n7 m2) fun m10 => oB (AW.rd h m8 (m9 + m10 * 1)) fun v11 => vStr v11 fun s12 => aP p4 fun m13 m14 => oB (natIdx n7 m5) fun m15 => oB (AW.rd h m13
  (m14 + m15 * 1)) fun v16 => vStr v16 fun s17 => bC (!bEq s12 s17) (Q (Value.bool false) h) (unitAt P f_brickyardref15_Texts 4 [0, 1, 5] [Value.slice p1 m2 m3, Value.slice p4 m5 m6, Value.int
  IntKind.i64 (IntKind.wrap IntKind.i64 (n7 + 1))] h Q)) (Q (Value.bool true) h)) : unitAt P f_brickyardref15_Texts 4 [0, 1, 5] [Value.slice p1 m2 m3, Value.slice p4 m5 m6, Value.int IntKind.i64 n7]
  h Q := unit_ok (n := 400) (ann := annOf [(4, [0, 1, 5])]) (Eq.mp (by kernel_rfl) H)
end Go.Proofs.YtamoepfiodgbbaaGreatDoor
end
