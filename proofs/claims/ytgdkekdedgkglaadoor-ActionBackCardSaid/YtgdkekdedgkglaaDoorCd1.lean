/- A deterministic heap for the model, proved sound, and walks of the program over it: part 7. No condition. -/
import Derived.Test.YtgdkekdedgkglaaDoorAb1
import Derived.Test.YtgdkekdedgkglaaDoorAb2
import Derived.Test.YtgdkekdedgkglaaDoorAb3
import Derived.Test.YtgdkekdedgkglaaDoorAb6
import Derived.Test.YtgdkekdedgkglaaDoorAb4
import Derived.Test.YtgdkekdedgkglaaDoorProg
import Derived.Test.YtgdkekdedgkglaaDoorAb5
set_option linter.unusedVariables false
set_option linter.unusedSimpArgs false
set_option linter.unusedSectionVars false
section
/- Names of functions and types. -/
namespace Go.Proofs.YtgdkekdedgkglaaDoor
open Go.Abs
noncomputable abbrev P : Program := Tryd.prog
def f_brickyardlaw13_ActionBack : Nat := 11
def f_slices_Equal_sl_string_string : Nat := 21
def f_brickyardlaw13_works : Nat := 22
def f_brickyardlaw13_wide : Nat := 23
def f_action_Parse : Nat := 24
def f_action_Same : Nat := 29
def f_action_May : Nat := 30
def f_action_Lines : Nat := 31
def f_action_Size : Nat := 32
def f_action_Print : Nat := 35
def f_brickyardref13_Alike : Nat := 40
def f_strconv_Atoi : Nat := 45
def f_lex_Lines : Nat := 49
def f_strconv_Itoa : Nat := 51
def f_slices_DeleteFunc_sl_string_string : Nat := 57
def f_action_Parse_fn1 : Nat := 59
def f_action_Parse_fn2 : Nat := 60
def f_action_stmt : Nat := 61
def f_action_opens : Nat := 62
def f_slices_EqualFunc_sl_api_Stmt_sl_api_Stmt_api_Stmt_api_Stmt : Nat := 66
def f_action_Same_fn1 : Nat := 67
def f_action_right : Nat := 68
def f_action_lines : Nat := 69
def f_p_strings_Builder_WriteByte : Nat := 71
def f_p_strings_Builder_WriteString : Nat := 72
def f_lex_Show : Nat := 73
def f_p_strings_Builder_String : Nat := 74
def f_strconv_Atoi_78 : Nat := 78
def f_strconv_toError : Nat := 79
def f_slices_Clone_sl_string_string : Nat := 82
def f_p_lex_reader_lines : Nat := 84
def f_strconv_Itoa_85 : Nat := 85
def f_slices_IndexFunc_sl_string_string : Nat := 86
def f_action_word : Nat := 87
def f_action_number : Nat := 88
def f_action_fits : Nat := 89
def f_p_strings_Builder_copyCheck : Nat := 92
def f_lex_Plain : Nat := 93
def f_lex_Quote : Nat := 94
def f_strconv_ParseInt : Nat := 98
def f_strconv_syntaxError : Nat := 99
def f_strconv_rangeError : Nat := 100
def f_strconv_baseError : Nat := 101
def f_strconv_bitSizeError : Nat := 102
def f_p_lex_reader_lines_fn1 : Nat := 105
def f_p_lex_reader_peek : Nat := 106
def f_p_lex_reader_next : Nat := 107
def f_lex_bare : Nat := 108
def f_p_lex_reader_quoted : Nat := 109
def f_strconv_FormatInt : Nat := 110
def f_abi_NoEscape : Nat := 112
def f_strconv_ParseUint : Nat := 114
def f_stringslite_Clone : Nat := 115
def f_strings_HasPrefix : Nat := 118
def f_strings_IndexByte : Nat := 119
def f_strconv_small : Nat := 120
def f_strconv_numDigits : Nat := 121
def f_strconv_formatBase10 : Nat := 122
def f_strconv_formatBits : Nat := 123
def f_strconv_lower : Nat := 124
def f_strconv_underscoreOK : Nat := 125
def f_stringslite_HasPrefix : Nat := 126
def f_stringslite_IndexByte : Nat := 127
def f_strconv_log10Pow2 : Nat := 128
def f_math_bits_Len64 : Nat := 129
def f_strconv_bool2_int : Nat := 130
def f_bytealg_IndexByteString : Nat := 133
def ty_int : Nat := 3
def ty_bool : Nat := 4
def ty_uint8 : Nat := 5
def ty_string : Nat := 9
def ty_sl_string : Nat := 26
def ty_sl_sl_string : Nat := 37
def ty_sl_api_Stmt : Nat := 39
def ty_api_Stmt : Nat := 46
def ty_error : Nat := 60
def ty_sl_api_Line : Nat := 67
def ty_sl_api_Word : Nat := 70
def ty_api_Line : Nat := 72
def ty_api_Word : Nat := 74
def ty_sl_uint8 : Nat := 101
def ty_p_strings_Builder : Nat := 102
def ty_strings_Builder : Nat := 104
def ty_p_uint8 : Nat := 120
def ty_strconv_Error : Nat := 122
def ty_p_strconv_NumError : Nat := 125
def ty_unsafe_Pointer : Nat := 135
def ty_24_uint8 : Nat := 147
theorem ti_ty_uint8 : tiOf P ty_uint8 = some (TI.mk (TypeDesc.int IntKind.u8) false 1 1 (some (Value.int IntKind.u8 (Int.ofNat 0)))) := by kernel_rfl
theorem ti_ty_string : tiOf P ty_string = some (TI.mk TypeDesc.string false 1 16 (some (Value.string (ByteArray.mk (Array.mk []))))) := by kernel_rfl
theorem ti_ty_sl_string : tiOf P ty_sl_string = some (TI.mk (TypeDesc.slice ty_string) false 1 24 (some (Value.slice none 0 0))) := by kernel_rfl
theorem ti_ty_sl_sl_string : tiOf P ty_sl_sl_string = some (TI.mk (TypeDesc.slice ty_sl_string) false 1 24 (some (Value.slice none 0 0))) := by kernel_rfl
theorem ti_ty_sl_api_Stmt : tiOf P ty_sl_api_Stmt = some (TI.mk (TypeDesc.slice ty_api_Stmt) false 1 24 (some (Value.slice none 0 0))) := by kernel_rfl
theorem ti_ty_api_Stmt : tiOf P ty_api_Stmt = some (TI.mk (TypeDesc.struct (Array.mk [Field.mk "Op" ty_int 0 false "" "" 0, Field.mk "Args" ty_sl_string 1 false "" "" 8, Field.mk "N" ty_int 2 false "" "" 32, Field.mk "Body" ty_sl_api_Stmt 3 false "" "" 40])) true 4 64 (some (Value.agg (Array.mk [Value.int IntKind.i64 (Int.ofNat 0), Value.slice none 0 0, Value.int IntKind.i64 (Int.ofNat 0), Value.slice none 0 0])))) := by kernel_rfl
theorem ti_ty_sl_api_Line : tiOf P ty_sl_api_Line = some (TI.mk (TypeDesc.slice ty_api_Line) false 1 24 (some (Value.slice none 0 0))) := by kernel_rfl
theorem ti_ty_sl_api_Word : tiOf P ty_sl_api_Word = some (TI.mk (TypeDesc.slice ty_api_Word) false 1 24 (some (Value.slice none 0 0))) := by kernel_rfl
theorem ti_ty_api_Line : tiOf P ty_api_Line = some (TI.mk (TypeDesc.struct (Array.mk [Field.mk "Number" ty_int 0 false "" "" 0, Field.mk "Indented" ty_bool 1 false "" "" 8, Field.mk "Words" ty_sl_api_Word 2 false "" "" 16])) true 3 40 (some (Value.agg (Array.mk [Value.int IntKind.i64 (Int.ofNat 0), Value.bool false, Value.slice none 0 0])))) := by kernel_rfl
theorem ti_ty_api_Word : tiOf P ty_api_Word = some (TI.mk (TypeDesc.struct (Array.mk [Field.mk "Text" ty_string 0 false "" "" 0, Field.mk "Line" ty_int 1 false "" "" 16, Field.mk "Col" ty_int 2 false "" "" 24, Field.mk "Quoted" ty_bool 3 false "" "" 32, Field.mk "Mark" ty_bool 4 false "" "" 33])) true 5 40 (some (Value.agg (Array.mk [Value.string (ByteArray.mk (Array.mk [])), Value.int IntKind.i64 (Int.ofNat 0), Value.int IntKind.i64 (Int.ofNat 0), Value.bool false, Value.bool false])))) := by kernel_rfl
theorem ti_ty_sl_uint8 : tiOf P ty_sl_uint8 = some (TI.mk (TypeDesc.slice ty_uint8) false 1 24 (some (Value.slice none 0 0))) := by kernel_rfl
theorem ti_ty_p_strings_Builder : tiOf P ty_p_strings_Builder = some (TI.mk (TypeDesc.pointer ty_strings_Builder) false 1 8 (some (Value.pointer none))) := by kernel_rfl
theorem ti_ty_strings_Builder : tiOf P ty_strings_Builder = some (TI.mk (TypeDesc.struct (Array.mk [Field.mk "addr" ty_p_strings_Builder 0 false "" "strings" 0, Field.mk "buf" ty_sl_uint8 1 false "" "strings" 8])) true 2 32 (some (Value.agg (Array.mk [Value.pointer none, Value.slice none 0 0])))) := by kernel_rfl
theorem ti_ty_p_uint8 : tiOf P ty_p_uint8 = some (TI.mk (TypeDesc.pointer ty_uint8) false 1 8 (some (Value.pointer none))) := by kernel_rfl
theorem ti_ty_unsafe_Pointer : tiOf P ty_unsafe_Pointer = some (TI.mk TypeDesc.unsafePointer false 1 8 (some (Value.pointer none))) := by kernel_rfl
theorem ti_ty_24_uint8 : tiOf P ty_24_uint8 = some (TI.mk (TypeDesc.array 24 ty_uint8) true 24 24 (some (Value.agg (Array.mk [Value.int IntKind.u8 (Int.ofNat 0), Value.int IntKind.u8 (Int.ofNat 0), Value.int IntKind.u8 (Int.ofNat 0), Value.int IntKind.u8 (Int.ofNat 0), Value.int IntKind.u8 (Int.ofNat 0), Value.int IntKind.u8 (Int.ofNat 0), Value.int IntKind.u8 (Int.ofNat 0), Value.int IntKind.u8 (Int.ofNat 0), Value.int IntKind.u8 (Int.ofNat 0), Value.int IntKind.u8 (Int.ofNat 0), Value.int IntKind.u8 (Int.ofNat 0), Value.int IntKind.u8 (Int.ofNat 0), Value.int IntKind.u8 (Int.ofNat 0), Value.int IntKind.u8 (Int.ofNat 0), Value.int IntKind.u8 (Int.ofNat 0), Value.int IntKind.u8 (Int.ofNat 0), Value.int IntKind.u8 (Int.ofNat 0), Value.int IntKind.u8 (Int.ofNat 0), Value.int IntKind.u8 (Int.ofNat 0), Value.int IntKind.u8 (Int.ofNat 0), Value.int IntKind.u8 (Int.ofNat 0), Value.int IntKind.u8 (Int.ofNat 0), Value.int IntKind.u8 (Int.ofNat 0), Value.int IntKind.u8 (Int.ofNat 0)])))) := by kernel_rfl
end Go.Proofs.YtgdkekdedgkglaaDoor
end

section
/- Rules of walks, printed by a program of ours: group Lib. -/
namespace Go.Proofs.YtgdkekdedgkglaaDoor
open Go.Abs
set_option maxRecDepth 100000
theorem r_slices_Equal_sl_string_string {p1 : Option Addr} {m2 : Nat} {m3 : Nat} {p4 : Option Addr} {m5 : Nat} {m6 : Nat} {h : AW} {Q : Value → AW → Prop} (H : bC ((↑m2 : Int) != (↑m5 : Int)) (Q
  (Value.bool false) h) (unitAt P f_slices_Equal_sl_string_string 4 [0, 1, 12, 13] [Value.slice p1 m2 m3, Value.slice p4 m5 m6, Value.int IntKind.i64 (↑m2 : Int), Value.int IntKind.i64 0] h Q)) : EvQ P f_slices_Equal_sl_string_string
  [Value.slice p1 m2 m3, Value.slice p4 m5 m6] h Q := fn_ok (n := 400) (ann := annOf [(4, [0, 1, 12, 13])]) (Eq.mp (by kernel_rfl) H)
theorem r_slices_Equal_sl_string_string_4 {p1 : Option Addr} {m2 : Nat} {m3 : Nat} {p4 : Option Addr} {m5 : Nat} {m6 : Nat} {n7 : Int} {n8 : Int} {h : AW} {Q : Value → AW → Prop} (H : bC (decide (n8 < n7))
  (aP p1 fun m9 m10 => oB (natIdx n8 m2) fun m11 => oB (AW.rd h m9 (m10 + m11 * 1)) fun v12 => vStr v12 fun s13 => aP p4 fun m14 m15 => oB (natIdx n8 m5) fun m16 => oB (AW.rd h m14
  (m15 + m16 * 1)) fun v17 => vStr v17 fun s18 => bC (!bEq s13 s18) (Q (Value.bool false) h) (unitAt P f_slices_Equal_sl_string_string 4 [0, 1, 12, 13] [Value.slice p1 m2 m3, Value.slice p4 m5 m6, Value.int
  IntKind.i64 n7, Value.int IntKind.i64 (IntKind.wrap IntKind.i64 (n8 + 1))] h Q)) (Q (Value.bool true) h)) : unitAt P f_slices_Equal_sl_string_string 4 [0, 1, 12, 13] [Value.slice p1 m2 m3, Value.slice p4
  m5 m6, Value.int IntKind.i64 n7, Value.int IntKind.i64 n8] h Q := unit_ok (n := 400) (ann := annOf [(4, [0, 1, 12, 13])]) (Eq.mp (by kernel_rfl) H)
theorem r_slices_DeleteFunc_sl_string_string {p1 : Option Addr} {m2 : Nat} {m3 : Nat} {v4 : Value} {h : AW} {Q : Value → AW → Prop} (H : EvQ P f_slices_IndexFunc_sl_string_string [Value.slice p1 m2 m3, v4] h fun v5 h6 => vInt IntKind.i64 v5
  fun n7 => bC (n7 == Int.negSucc 0) (Q (Value.slice p1 m2 m3) h6) (unitAt P f_slices_DeleteFunc_sl_string_string 5 [0, 1, 5, 6] [Value.slice p1 m2 m3, v4, Value.int IntKind.i64 n7, Value.int IntKind.i64
  (IntKind.wrap IntKind.i64 (n7 + 1))] h6 Q)) : EvQ P f_slices_DeleteFunc_sl_string_string [Value.slice p1 m2 m3, v4] h Q := fn_ok (n := 400) (ann := annOf [(5, [0, 1, 5, 6])]) (Eq.mp (by kernel_rfl) H)
theorem r_slices_DeleteFunc_sl_string_string_5 {p1 : Option Addr} {m2 : Nat} {m3 : Nat} {v4 : Value} {n5 : Int} {n6 : Int} {h : AW} {Q : Value → AW → Prop} (H : bC (decide (n6 < (↑m2 : Int))) (aP p1 fun m7 m8
  => oB (natIdx n6 m2) fun m9 => oB (AW.rd h m7 (m8 + m9 * 1)) fun v10 => vStr v10 fun s11 => vFun v4 fun m12 l13 l14 => EvQ P m12 (l13 ++ Value.string s11 :: l14) h fun v15 h16 =>
  vBool v15 fun b17 => bC (!b17) (aP p1 fun m18 m19 => oB (natIdx n5 m2) fun m20 => oB (AW.wr h16 m18 (m19 + m20 * 1) (Value.string s11)) fun h21 => unitAt P f_slices_DeleteFunc_sl_string_string 5 [0, 1, 5, 6]
  [Value.slice p1 m2 m3, v4, Value.int IntKind.i64 (IntKind.wrap IntKind.i64 (n5 + 1)), Value.int IntKind.i64 (IntKind.wrap IntKind.i64 (n6 + 1))] h21 Q) (unitAt P f_slices_DeleteFunc_sl_string_string 5 [0, 1, 5,
  6] [Value.slice p1 m2 m3, v4, Value.int IntKind.i64 n5, Value.int IntKind.i64 (IntKind.wrap IntKind.i64 (n6 + 1))] h16 Q)) (oB (natBnd n5 m2) fun m22 => bC (Nat.ble m2 m3) (oB
  (shO p1 (m22 * 1)) fun p23 => oP (clearB P h (Array.mk [ty_sl_string]) [Value.slice p23 (m2 - m22) (m3 - m22)]) fun v24 h25 => oB (natBnd n5 m3) fun m26 => bC (Nat.ble m26 m3) (oB (shO
  p1 0) fun p27 => Q (Value.slice p27 (m26 - 0) (m3 - 0)) h25) False) False)) : unitAt P f_slices_DeleteFunc_sl_string_string 5 [0, 1, 5, 6] [Value.slice p1 m2 m3, v4, Value.int IntKind.i64 n5, Value.int
  IntKind.i64 n6] h Q := unit_ok (n := 400) (ann := annOf [(5, [0, 1, 5, 6])]) (Eq.mp (by kernel_rfl) H)
theorem r_slices_Clone_sl_string_string {p1 : Option Addr} {m2 : Nat} {m3 : Nat} {h : AW} {Q : Value → AW → Prop} (H : bC (Option.isNone p1) (Q (Value.slice none 0 0) h) (oP (appendB P (AW.addVar h [])
  (Array.mk [ty_sl_string, ty_sl_string]) [Value.slice (some (Addr.mk (AW.next h) 0 none)) 0 0, Value.slice p1 m2 m3]) fun v4 h5 => vSl v4 fun p6 m7 m8 => Q (Value.slice p6 m7 m8) h5)) : EvQ P
  f_slices_Clone_sl_string_string [Value.slice p1 m2 m3] h Q := fn_ok (n := 400) (ann := annOf []) (Eq.mp (by kernel_rfl) H)
theorem r_slices_IndexFunc_sl_string_string {p1 : Option Addr} {m2 : Nat} {m3 : Nat} {v4 : Value} {h : AW} {Q : Value → AW → Prop} (H : unitAt P f_slices_IndexFunc_sl_string_string 2 [0, 1, 7, 8] [Value.slice p1 m2 m3, v4, Value.int
  IntKind.i64 (↑m2 : Int), Value.int IntKind.i64 0] h Q) : EvQ P f_slices_IndexFunc_sl_string_string [Value.slice p1 m2 m3, v4] h Q := fn_ok (n := 400) (ann := annOf [(2, [0, 1, 7, 8])]) (Eq.mp (by kernel_rfl)
  H)
theorem r_slices_IndexFunc_sl_string_string_2 {p1 : Option Addr} {m2 : Nat} {m3 : Nat} {v4 : Value} {n5 : Int} {n6 : Int} {h : AW} {Q : Value → AW → Prop} (H : bC (decide (n6 < n5)) (aP p1 fun m7 m8 => oB
  (natIdx n6 m2) fun m9 => oB (AW.rd h m7 (m8 + m9 * 1)) fun v10 => vStr v10 fun s11 => vFun v4 fun m12 l13 l14 => EvQ P m12 (l13 ++ Value.string s11 :: l14) h fun v15 h16 => vBool
  v15 fun b17 => bC b17 (Q (Value.int IntKind.i64 n6) h16) (unitAt P f_slices_IndexFunc_sl_string_string 2 [0, 1, 7, 8] [Value.slice p1 m2 m3, v4, Value.int IntKind.i64 n5, Value.int IntKind.i64 (IntKind.wrap
  IntKind.i64 (n6 + 1))] h16 Q)) (Q (Value.int IntKind.i64 (Int.negSucc 0)) h)) : unitAt P f_slices_IndexFunc_sl_string_string 2 [0, 1, 7, 8] [Value.slice p1 m2 m3, v4, Value.int IntKind.i64 n5, Value.int
  IntKind.i64 n6] h Q := unit_ok (n := 400) (ann := annOf [(2, [0, 1, 7, 8])]) (Eq.mp (by kernel_rfl) H)
end Go.Proofs.YtgdkekdedgkglaaDoor
end

section
/- What the library's functions on slices of strings come to. -/
namespace Go.Proofs.YtgdkekdedgkglaaDoor
open Go.Abs Go.Abs.Sch
set_option maxRecDepth 100000
attribute [local irreducible] unitAt EvQ
variable {h : AW} {μ : Paint} {ρ : Store} {Q : Value → AW → Prop}
abbrev Strs (h : AW) (a : Option Addr) (l : List Str) : Prop := Sl h a (strs l)
theorem sat1 {a : Option Addr} {x : List Str} (H : Sl h a (strs x)) {z : Int} {j n : Nat} (hz : z = j) (hn : n = x.length) (hj : j < x.length) {f : Str → Prop} (hf : f x[j]) : aP a fun i off => oB (natIdx z n) fun j => oB (h.rd i (off + j * 1)) fun v => vStr v f :=
  H.at1 (v := .string x[j]) hz (by simpa using hn) (by simp [hj]) (by simpa using hf)
/-- A fresh slice of strings comes back. -/
def NewS (Q : Value → AW → Prop) (ρ : Store) (x : List Str) : Prop :=
  ∀ h' μ' ρ' co oa oc, Own h' μ' ρ' → Pcs ρ ρ' [co] [.sl oa oc 1 (strs x)] → ρ co = none → Q (.slice oa x.length oc) h'
theorem new_nil (O : Own h μ ρ) (hq : NewS Q ρ []) : Q (.slice none 0 0) h := by
  obtain ⟨ρ1, co, O1, W1, hco⟩ := w_nil O (Pcs.init (ρ := ρ) (ns := []) (rs := []) List.nodup_nil rfl (by intro i c r h; simp at h)) 1
  exact hq _ _ _ _ _ _ O1 W1 hco
theorem p0 : Pcs ρ ρ [] [] := Pcs.init List.nodup_nil rfl (by intro i c r h; simp at h)
theorem clone_ok {a : Option Addr} {x : List Str} {cap : Nat} (O : Own h μ ρ) (X : Rd ρ [] a (strs x)) (hx : x.length ≤ 1000000000) (hq : NewS Q ρ x) :
    EvQ P f_slices_Clone_sl_string_string [.slice a x.length cap] h Q := by
  refine r_slices_Clone_sl_string_string ?_
  refine bC_iff (fun e => ?_) (fun e => ?_)
  · rcases X.sl O with ⟨rfl, hx0⟩ | ⟨i, off, rfl, _⟩
    · have : x = [] := by simpa using hx0
      subst this
      exact new_nil O hq
    · simp at e
  · obtain ⟨μ1, ρ1, c1, O1, W1, hc1⟩ := w_block O p0 [] (n := 0) (sz := 1) rfl rfl
    have X1 : Rd ρ1 [] a (strs x) := X.keep (W1.tail hc1).fra
    refine w_app (P := P) O1 W1 0 (l := []) (n := 0) ti_ty_sl_string ti_ty_string (by decide) rfl rfl (X1.sl O1) (m := x.length) (by simp) allOne_strs (by omega) (by omega) fun oa oc h2 μ2 ρ2 O2 W2 => ?_
    simp only [oB_some, bC_true, bC_false, vInt_int, vBool_bool, vStr_string, vPtr_pointer, vSl_slice, vMap_map, vFun_func, vAgg_agg, vTup_tuple, vIfc_nil, vIfc_iface, lC_cons, lN_nil, aP_some, shO_none, shO_some, Option.isNone_none, Option.isNone_some, Bool.not_true, Bool.not_false]
    rw [Nat.zero_add]
    exact hq _ _ _ _ _ _ O2 W2 hc1
/-- Slices behind one another. -/
structure Part where
  a : Option Addr
  cap : Nat
  x : List Str
def Part.cell (p : Part) : Value := .slice p.a p.x.length p.cap
/-- A test of strings. -/
def Tests (f : FuncId) (l1 l2 : List Value) (p : Str → Bool) (c : Nat) (ρ : Store) : Prop :=
  ∀ h' μ' ρ' s Q', Own h' μ' ρ' → Fra [c] ρ ρ' → Q' (.bool (p s)) h' → EvQ P f (l1 ++ .string s :: l2) h' Q'
theorem indexf_loop {f : FuncId} {l1 l2 : List Value} {p : Str → Bool} {c0 : Nat} {a : Option Addr} {x : List Str} {c : Nat} (T : Tests f l1 l2 p c0 ρ) (O : Own h μ ρ) (X : Strs h a x) (hx : x.length < 1000000001) (hq : Q (.int .i64 (match x.findIdx? p with | some j => (j : Int) | none => -1)) h) :
    ∀ (n k : Nat), x.length - k = n → k ≤ x.length → (∀ j (hj : j < x.length), j < k → p x[j] = false) → unitAt P f_slices_IndexFunc_sl_string_string 2 [0, 1, 7, 8] [.slice a x.length c, .func (.func f) ⟨l1⟩ ⟨l2⟩, .int .i64 (x.length : Int), .int .i64 (k : Int)] h Q := by
  intro n
  induction n with
  | zero =>
    intro k hn hk he
    refine r_slices_IndexFunc_sl_string_string_2 ?_
    rw [geI (by omega)]
    simp only [oB_some, bC_true, bC_false, vInt_int, vBool_bool, vStr_string, vPtr_pointer, vSl_slice, vMap_map, vFun_func, vAgg_agg, vTup_tuple, vIfc_nil, vIfc_iface, lC_cons, lN_nil, aP_some, shO_none, shO_some, Option.isNone_none, Option.isNone_some, Bool.not_true, Bool.not_false]
    rw [List.findIdx?_eq_none_iff.2 fun t ht => ?_] at hq
    · exact hq
    · obtain ⟨j, hj, e⟩ := List.getElem_of_mem ht
      rw [← e]; exact he j hj (by omega)
  | succ n ih =>
    intro k hn hk he
    refine r_slices_IndexFunc_sl_string_string_2 ?_
    have hlt : k < x.length := by omega
    rw [ltI hlt]
    simp only [oB_some, bC_true, bC_false, vInt_int, vBool_bool, vStr_string, vPtr_pointer, vSl_slice, vMap_map, vFun_func, vAgg_agg, vTup_tuple, vIfc_nil, vIfc_iface, lC_cons, lN_nil, aP_some, shO_none, shO_some, Option.isNone_none, Option.isNone_some, Bool.not_true, Bool.not_false]
    refine sat1 X rfl rfl hlt ?_
    refine T _ _ _ _ _ O Fra.refl ?_
    simp only [oB_some, bC_true, bC_false, vInt_int, vBool_bool, vStr_string, vPtr_pointer, vSl_slice, vMap_map, vFun_func, vAgg_agg, vTup_tuple, vIfc_nil, vIfc_iface, lC_cons, lN_nil, aP_some, shO_none, shO_some, Option.isNone_none, Option.isNone_some, Bool.not_true, Bool.not_false]
    refine bC_iff (fun e => ?_) (fun e => ?_)
    · rw [List.findIdx?_eq_some_iff_getElem.2 ⟨hlt, e, fun j hj => by simpa using he j (by omega) hj⟩] at hq
      exact hq
    · rw [wrapS (by omega)]
      exact ih (k + 1) (by omega) (by omega) fun j hj hjk => by
        rcases Nat.lt_or_ge j k with h1 | h1
        · exact he j hj h1
        · have : j = k := by omega
          subst this; exact e
theorem del_loop {f : FuncId} {l1 l2 : List Value} {p : Str → Bool} {c0 : Nat} {b off cap : Nat} {x : List Str} (T : Tests f l1 l2 p c0 ρ) (hx : x.length < 1000000001)
    (hq : ∀ h' μ' ρ', Own h' μ' ρ' → Pcs ρ ρ' [c0] [.sl (some ⟨b, off, none⟩) cap 1 (strs (x.filter fun s => !p s))] → Q (.slice (some ⟨b, off, none⟩) (x.filter fun s => !p s).length cap) h') :
    ∀ (n i j : Nat) {h : AW} {μ : Paint} {ρ' : Store} {y : List Str}, x.length - j = n → i < j → j ≤ x.length → Own h μ ρ' → Pcs ρ ρ' [c0] [.sl (some ⟨b, off, none⟩) cap 1 (strs y)] → y.length = x.length → y.take i = (x.take j).filter (fun s => !p s) → y.drop j = x.drop j → i ≤ y.length →
      unitAt P f_slices_DeleteFunc_sl_string_string 5 [0, 1, 5, 6] [.slice (some ⟨b, off, none⟩) x.length cap, .func (.func f) ⟨l1⟩ ⟨l2⟩, .int .i64 (i : Int), .int .i64 (j : Int)] h Q := by
  intro n
  induction n with
  | zero =>
    intro i j h μ ρ' y hn hij hj O W hy ht hd hiy
    refine r_slices_DeleteFunc_sl_string_string_5 ?_
    rw [geI (by omega)]
    have hcap := w_cap O W 0 rfl
    simp only [List.length_map, Nat.mul_one] at hcap
    simp only [oB_some, bC_true, bC_false, vInt_int, vBool_bool, vStr_string, vPtr_pointer, vSl_slice, vMap_map, vFun_func, vAgg_agg, vTup_tuple, vIfc_nil, vIfc_iface, lC_cons, lN_nil, aP_some, shO_none, shO_some, Option.isNone_none, Option.isNone_some, Bool.not_true, Bool.not_false]
    rw [natBnd_eq (show i ≤ x.length by omega)]
    simp only [oB_some, bC_true, bC_false, vInt_int, vBool_bool, vStr_string, vPtr_pointer, vSl_slice, vMap_map, vFun_func, vAgg_agg, vTup_tuple, vIfc_nil, vIfc_iface, lC_cons, lN_nil, aP_some, shO_none, shO_some, Option.isNone_none, Option.isNone_some, Bool.not_true, Bool.not_false, Nat.ble_eq_true_of_le (show x.length ≤ cap by omega)]
    refine w_clear (P := P) O W 0 (n := x.length - i) (k := i) ti_ty_sl_string ti_ty_string rfl rfl (by simp; omega) ?_ fun h2 ρ2 O2 W2 => ?_
    · show allOne (rep [.string _] _) = true
      rw [rep_one]; exact allOne_of fun v hv => by rw [(List.mem_replicate.1 hv).2]; rfl
    rw [natBnd_eq (show i ≤ cap by omega)]
    simp only [oB_some, bC_true, bC_false, vInt_int, vBool_bool, vStr_string, vPtr_pointer, vSl_slice, vMap_map, vFun_func, vAgg_agg, vTup_tuple, vIfc_nil, vIfc_iface, lC_cons, lN_nil, aP_some, shO_none, shO_some, Option.isNone_none, Option.isNone_some, Bool.not_true, Bool.not_false, Nat.ble_eq_true_of_le (show i ≤ cap by omega)]
    obtain ⟨ρ3, O3, W3⟩ := w_take O2 W2 0 rfl i
    have e : j = x.length := by omega
    subst e
    rw [List.take_length] at ht
    have hlen : (x.filter fun s => !p s).length = i := by rw [← ht, List.length_take]; omega
    have := hq h2 μ ρ3 O3 (W3.eq (by
      simp only [List.set_cons_zero, List.cons.injEq, and_true, Nat.mul_one]
      rw [setAll_take, ← List.map_take, ht]))
    rw [hlen] at this
    exact this
  | succ n ih =>
    intro i j h μ ρ' y hn hij hj O W hy ht hd hiy
    have hlt : j < x.length := by omega
    refine r_slices_DeleteFunc_sl_string_string_5 ?_
    rw [ltI hlt]
    simp only [bC_true]
    have hyj : y[j]'(by omega) = x[j] := by
      have h1 : y[j]? = x[j]? := by
        have := congrArg (fun l => l[0]?) hd
        simpa using this
      rw [List.getElem?_eq_getElem hlt, List.getElem?_eq_getElem (by omega)] at h1
      exact Option.some.inj h1
    refine sat1 (w_sl O W 0 rfl) rfl hy.symm (by omega) ?_
    simp only [vFun_func]
    refine T _ _ _ _ _ O W.fra ?_
    simp only [vBool_bool]
    rw [wrapS (j := j) (by omega), hyj]
    refine bC_iff (fun e => ?_) (fun e => ?_)
    · have e : p x[j] = false := by simpa using e
      refine w_i1_wr O W 0 (j := i) rfl rfl (by simp [hy]) (by simp; omega) rfl fun h2 ρ2 O2 W2 => ?_
      rw [wrapS (j := i) (by omega)]
      refine ih (i + 1) (j + 1) (y := y.set i x[j]) (by omega) (by omega) (by omega) O2 (W2.eq (by simp [List.map_set])) (by simpa using hy) ?_ ?_ (by simp; omega)
      · rw [List.take_succ_eq_append_getElem (by simp; omega), List.take_set_of_le (by omega), ht, List.take_succ_eq_append_getElem hlt, List.filter_append]
        simp [e]
      · rw [List.drop_set_of_lt (by omega)]
        have := congrArg (List.drop 1) hd
        simpa [List.drop_drop, Nat.add_comm] using this
    · have e : p x[j] = true := by simpa using e
      refine ih i (j + 1) (by omega) (by omega) (by omega) O W hy ?_ ?_ hiy
      · rw [ht, List.take_succ_eq_append_getElem hlt, List.filter_append]
        simp [e]
      · have := congrArg (List.drop 1) hd
        simpa [List.drop_drop, Nat.add_comm] using this
theorem del_ok {f : FuncId} {l1 l2 : List Value} {p : Str → Bool} {c0 : Nat} {a : Option Addr} {cap : Nat} {x : List Str} (T : Tests f l1 l2 p c0 ρ) (hx : x.length < 1000000001) (O : Own h μ ρ) (hc : ρ c0 = some (.sl a cap 1 (strs x)))
    (hq : ∀ h' μ' ρ', Own h' μ' ρ' → Pcs ρ ρ' [c0] [.sl a cap 1 (strs (x.filter fun s => !p s))] → Q (.slice a (x.filter fun s => !p s).length cap) h') :
    EvQ P f_slices_DeleteFunc_sl_string_string [.slice a x.length cap, .func (.func f) ⟨l1⟩ ⟨l2⟩] h Q := by
  have W : Pcs ρ ρ [c0] [.sl a cap 1 (strs x)] := Pcs.init (by simp) rfl (by
    intro i c r h1 h2
    cases i with
    | zero => simp at h1 h2; subst h1 h2; exact hc
    | succ i => simp at h1)
  refine r_slices_DeleteFunc_sl_string_string ?_
  refine r_slices_IndexFunc_sl_string_string ?_
  refine indexf_loop T O (O.sl hc) hx ?_ x.length 0 (by omega) (by omega) (by intro j _ hj; omega)
  simp only [vInt_int]
  cases e : x.findIdx? p with
  | none =>
    have := List.findIdx?_eq_none_iff.1 e
    have hf : (x.filter fun s => !p s) = x := List.filter_eq_self.2 fun s hs => by simp [this s hs]
    simp only [show ((-1 : Int) == Int.negSucc 0) = true from rfl, bC_true]
    have := hq h μ ρ O (W.eq (by rw [hf]))
    rw [hf] at this; exact this
  | some j =>
    obtain ⟨hj, h1, h2⟩ := List.findIdx?_eq_some_iff_getElem.1 e
    simp only
    rw [show ((j : Int) == Int.negSucc 0) = false from by simp]
    simp only [bC_false]
    rw [wrapS (by omega)]
    obtain ⟨b, off, rfl⟩ : ∃ b off, a = some ⟨b, off, none⟩ := by
      rcases O.sl hc with ⟨_, e⟩ | ⟨i, off, e, _⟩
      · simp at e; subst e; simp at hj
      · exact ⟨i, off, e⟩
    refine del_loop T hx hq _ j (j + 1) rfl (by omega) hj O W rfl ?_ rfl (by omega)
    rw [List.take_succ_eq_append_getElem hj, List.filter_append]
    simp only [h1, Bool.not_true, List.filter_cons, Bool.false_eq_true, if_false, List.filter_nil, List.append_nil]
    refine (List.filter_eq_self.2 fun s hs => ?_).symm
    obtain ⟨k, hk, e2⟩ := List.getElem_of_mem hs
    rw [List.length_take] at hk
    have := h2 k (by omega)
    rw [List.getElem_take] at e2
    rw [← e2]; simpa using this
end Go.Proofs.YtgdkekdedgkglaaDoor
end

section
/- Rules of walks, printed by a program of ours: group Act. -/
namespace Go.Proofs.YtgdkekdedgkglaaDoor
open Go.Abs
set_option maxRecDepth 100000
attribute [local irreducible] kFn kUnit EvQ unitAt
theorem r_action_Parse {p1 : Option Addr} {m2 : Nat} {m3 : Nat} {h : AW} {Q : Value → AW → Prop} (H : oB (AW.wr (AW.addVar (AW.addVar (AW.addVar (AW.addVar h [Value.slice p1 m2 m3])
  [Value.int IntKind.i64 0, Value.int IntKind.i64 0]) [Value.int IntKind.i64 0]) [Value.int IntKind.i64 0]) (AW.next (AW.addVar (AW.addVar h [Value.slice p1 m2 m3]) [Value.int
  IntKind.i64 0, Value.int IntKind.i64 0])) 0 (Value.int IntKind.i64 0)) fun h4 => oB (AW.wr h4 (AW.next (AW.addVar (AW.addVar (AW.addVar h [Value.slice p1 m2 m3]) [Value.int
  IntKind.i64 0, Value.int IntKind.i64 0]) [Value.int IntKind.i64 0])) 0 (Value.int IntKind.i64 0)) fun h5 => oB (AW.wr (AW.addVar (AW.addVar h5 [Value.int IntKind.i64 0, Value.int
  IntKind.i64 0]) [Value.nilFunc]) (AW.next (AW.addVar h5 [Value.int IntKind.i64 0, Value.int IntKind.i64 0])) 0 (Value.func (Fn.func f_action_Parse_fn1) (Array.mk []) (Array.mk [Value.pointer
  (some (Addr.mk (AW.next (AW.addVar (AW.addVar h [Value.slice p1 m2 m3]) [Value.int IntKind.i64 0, Value.int IntKind.i64 0])) 0 none)), Value.pointer (some (Addr.mk (AW.next h) 0
  none))]))) fun h6 => oB (AW.wr (AW.addVar h6 [Value.nilFunc]) (AW.next h6) 0 (Value.func (Fn.func f_action_Parse_fn2) (Array.mk []) (Array.mk [Value.pointer (some (Addr.mk (AW.next h5) 0
  none)), Value.pointer (some (Addr.mk (AW.next (AW.addVar h5 [Value.int IntKind.i64 0, Value.int IntKind.i64 0])) 0 none)), Value.pointer (some (Addr.mk (AW.next (AW.addVar
  (AW.addVar h [Value.slice p1 m2 m3]) [Value.int IntKind.i64 0, Value.int IntKind.i64 0])) 0 none)), Value.pointer (some (Addr.mk (AW.next (AW.addVar (AW.addVar (AW.addVar h
  [Value.slice p1 m2 m3]) [Value.int IntKind.i64 0, Value.int IntKind.i64 0]) [Value.int IntKind.i64 0])) 0 none)), Value.pointer (some (Addr.mk (AW.next h6) 0 none))]))) fun h7 =>
  oB (AW.rd h7 (AW.next h6) 0) fun v8 => vFun v8 fun m9 l10 l11 => EvQ P m9 (l10 ++ Value.int IntKind.i64 0 :: l11) h7 fun v12 h13 => vSl v12 fun p14 m15 m16 => oB (AW.rd h13
  (AW.next h5) 0) fun v17 => vInt IntKind.i64 v17 fun n18 => bC (n18 != 0) (oB (AW.rd h13 (AW.next h5) 0) fun v19 => vInt IntKind.i64 v19 fun n20 => oB (AW.rd h13 (AW.next h5) 1)
  fun v21 => vInt IntKind.i64 v21 fun n22 => oB (AW.wrL h13 (AW.next (AW.addVar h [Value.slice p1 m2 m3])) 0 [Value.int IntKind.i64 n20, Value.int IntKind.i64 n22]) fun h23 => oB
  (AW.rd h23 (AW.next (AW.addVar h [Value.slice p1 m2 m3])) 0) fun v24 => vInt IntKind.i64 v24 fun n25 => oB (AW.rd h23 (AW.next (AW.addVar h [Value.slice p1 m2 m3])) 1) fun v26 =>
  vInt IntKind.i64 v26 fun n27 => Q (Value.tuple (Array.mk [Value.slice none 0 0, Value.agg (Array.mk [Value.int IntKind.i64 n25, Value.int IntKind.i64 n27])])) h23) (oB (AW.wrL
  h13 (AW.next (AW.addVar h [Value.slice p1 m2 m3])) 0 [Value.int IntKind.i64 0, Value.int IntKind.i64 0]) fun h28 => oB (AW.rd h28 (AW.next (AW.addVar h [Value.slice p1 m2 m3]))
  0) fun v29 => vInt IntKind.i64 v29 fun n30 => oB (AW.rd h28 (AW.next (AW.addVar h [Value.slice p1 m2 m3])) 1) fun v31 => vInt IntKind.i64 v31 fun n32 => Q (Value.tuple (Array.mk
  [Value.slice p14 m15 m16, Value.agg (Array.mk [Value.int IntKind.i64 n30, Value.int IntKind.i64 n32])])) h28)) : EvQ P f_action_Parse [Value.slice p1 m2 m3] h Q := fn_ok (n := 400) (ann :=
  annOf []) (Eq.mp (by kernel_rfl) H)
theorem r_action_Same {p1 : Option Addr} {m2 : Nat} {m3 : Nat} {p4 : Option Addr} {m5 : Nat} {m6 : Nat} {h : AW} {Q : Value → AW → Prop} (H : EvQ P f_slices_EqualFunc_sl_api_Stmt_sl_api_Stmt_api_Stmt_api_Stmt [Value.slice p1 m2 m3, Value.slice
  p4 m5 m6, Value.func (Fn.func f_action_Same_fn1) (Array.mk []) (Array.mk [])] h fun v7 h8 => vBool v7 fun b9 => Q (Value.bool b9) h8) : EvQ P f_action_Same [Value.slice p1 m2 m3, Value.slice p4 m5 m6]
  h Q := fn_ok (n := 400) (ann := annOf []) (Eq.mp (by kernel_rfl) H)
theorem r_action_May {p1 : Option Addr} {m2 : Nat} {m3 : Nat} {h : AW} {Q : Value → AW → Prop} (H : EvQ P f_action_right [Value.slice p1 m2 m3, Value.int IntKind.i64 0] h fun v4 h5 => vBool v4 fun
  b6 => bC b6 (EvQ P f_action_Size [Value.slice p1 m2 m3] h5 fun v7 h8 => vInt IntKind.i64 v7 fun n9 => Q (Value.bool (decide (n9 ≤ 256))) h8) (Q (Value.bool false) h5)) : EvQ P f_action_May
  [Value.slice p1 m2 m3] h Q := fn_ok (n := 400) (ann := annOf []) (Eq.mp (by kernel_rfl) H)
theorem r_action_Lines {p1 : Option Addr} {m2 : Nat} {m3 : Nat} {h : AW} {Q : Value → AW → Prop} (H : EvQ P f_action_May [Value.slice p1 m2 m3] h fun v4 h5 => vBool v4 fun b6 => bC (!b6) (Q
  (Value.tuple (Array.mk [Value.slice none 0 0, Value.int IntKind.i64 2])) h5) (EvQ P f_action_lines [Value.slice p1 m2 m3] h5 fun v7 h8 => vSl v7 fun p9 m10 m11 => Q (Value.tuple (Array.mk
  [Value.slice p9 m10 m11, Value.int IntKind.i64 0])) h8)) : EvQ P f_action_Lines [Value.slice p1 m2 m3] h Q := fn_ok (n := 400) (ann := annOf []) (Eq.mp (by kernel_rfl) H)
theorem r_action_Size {p1 : Option Addr} {m2 : Nat} {m3 : Nat} {h : AW} {Q : Value → AW → Prop} (H : unitAt P f_action_Size 3 [3, 8, 9, 10] [Value.int IntKind.i64 (↑m2 : Int), Value.slice p1 m2
  m3, Value.int IntKind.i64 (↑m2 : Int), Value.int IntKind.i64 0] h Q) : EvQ P f_action_Size [Value.slice p1 m2 m3] h Q := fn_ok (n := 400) (ann := annOf [(3, [3, 8, 9, 10])]) (Eq.mp (by
  kernel_rfl) H)
theorem r_action_Size_3 {n1 : Int} {p2 : Option Addr} {m3 : Nat} {m4 : Nat} {n5 : Int} {n6 : Int} {h : AW} {Q : Value → AW → Prop} (H : bC (decide (n6 < n5)) (aP p2 fun m7 m8 => oB
  (natIdx n6 m3) fun m9 => oB (AW.rd h m7 (m8 + m9 * 4)) fun v10 => vInt IntKind.i64 v10 fun n11 => oB (AW.rd h m7 (m8 + m9 * 4 + 1)) fun v12 => vSl v12 fun p13 m14 m15 => oB
  (AW.rd h m7 (m8 + m9 * 4 + 1 + 1)) fun v16 => vInt IntKind.i64 v16 fun n17 => oB (AW.rd h m7 (m8 + m9 * 4 + 1 + 1 + 1)) fun v18 => vSl v18 fun p19 m20 m21 => oB (AW.wrL
  (AW.addVar h [Value.int IntKind.i64 0, Value.slice none 0 0, Value.int IntKind.i64 0, Value.slice none 0 0]) (AW.next h) 0 [Value.int IntKind.i64 n11, Value.slice p13 m14 m15,
  Value.int IntKind.i64 n17, Value.slice p19 m20 m21]) fun h22 => oB (AW.rd h22 (AW.next h) 3) fun v23 => vSl v23 fun p24 m25 m26 => EvQ P f_action_Size [Value.slice p24 m25 m26] h22 fun
  v27 h28 => vInt IntKind.i64 v27 fun n29 => unitAt P f_action_Size 3 [3, 8, 9, 10] [Value.int IntKind.i64 (IntKind.wrap IntKind.i64 (n1 + n29)), Value.slice p2 m3 m4, Value.int IntKind.i64
  n5, Value.int IntKind.i64 (IntKind.wrap IntKind.i64 (n6 + 1))] h28 Q) (Q (Value.int IntKind.i64 n1) h)) : unitAt P f_action_Size 3 [3, 8, 9, 10] [Value.int IntKind.i64 n1, Value.slice p2
  m3 m4, Value.int IntKind.i64 n5, Value.int IntKind.i64 n6] h Q := unit_ok (n := 400) (ann := annOf [(3, [3, 8, 9, 10])]) (Eq.mp (by kernel_rfl) H)
theorem r_action_Print {p1 : Option Addr} {m2 : Nat} {m3 : Nat} {h : AW} {Q : Value → AW → Prop} (H : EvQ P f_action_Lines [Value.slice p1 m2 m3] h fun v4 h5 => vTup v4 fun l6 => lC l6 fun v7 l8 =>
  vSl v7 fun p9 m10 m11 => lC l8 fun v12 l13 => vInt IntKind.i64 v12 fun n14 => lN l13 (bC (n14 != 0) (Q (Value.tuple (Array.mk [Value.string (ByteArray.mk #[]), Value.int
  IntKind.i64 n14])) h5) (unitAt P f_action_Print 6 [6, 19, 20, 21] [Value.pointer (some (Addr.mk (AW.next h5) 0 none)), Value.slice p9 m10 m11, Value.int IntKind.i64 (↑m10 : Int), Value.int
  IntKind.i64 0] (AW.tag (AW.addVar h5 [Value.pointer none, Value.slice none 0 0]) (AW.next h5) ty_strings_Builder) Q))) : EvQ P f_action_Print [Value.slice p1 m2 m3] h Q := fn_ok (n := 400) (ann :=
  annOf [(6, [6, 19, 20, 21]), (9, [6, 19, 20, 21, 25, 26, 27]), (13, [6, 10, 19, 20, 21, 25, 26, 27])]) (Eq.mp (by kernel_rfl) H)
theorem r_action_Print_6 {m1 : Nat} {p2 : Option Addr} {m3 : Nat} {m4 : Nat} {n5 : Int} {n6 : Int} {h : AW} {Q : Value → AW → Prop} (H : bC (decide (n6 < n5)) (aP p2 fun m7 m8 => oB
  (natIdx n6 m3) fun m9 => oB (AW.rd h m7 (m8 + m9 * 1)) fun v10 => vSl v10 fun p11 m12 m13 => unitAt P f_action_Print 9 [6, 19, 20, 21, 25, 26, 27] [Value.pointer (some (Addr.mk m1 0
  none)), Value.slice p2 m3 m4, Value.int IntKind.i64 n5, Value.int IntKind.i64 n6, Value.slice p11 m12 m13, Value.int IntKind.i64 (↑m12 : Int), Value.int IntKind.i64 0] h Q) (EvQ
  P f_p_strings_Builder_String [Value.pointer (some (Addr.mk m1 0 none))] h fun v14 h15 => vStr v14 fun s16 => Q (Value.tuple (Array.mk [Value.string s16, Value.int IntKind.i64 0])) h15)) : unitAt P
  f_action_Print 6 [6, 19, 20, 21] [Value.pointer (some (Addr.mk m1 0 none)), Value.slice p2 m3 m4, Value.int IntKind.i64 n5, Value.int IntKind.i64 n6] h Q := unit_ok (n := 400) (ann :=
  annOf [(6, [6, 19, 20, 21]), (9, [6, 19, 20, 21, 25, 26, 27]), (13, [6, 10, 19, 20, 21, 25, 26, 27])]) (Eq.mp (by kernel_rfl) H)
theorem r_action_Print_9 {m1 : Nat} {p2 : Option Addr} {m3 : Nat} {m4 : Nat} {n5 : Int} {n6 : Int} {p7 : Option Addr} {m8 : Nat} {m9 : Nat} {n10 : Int} {n11 : Int} {h : AW} {Q : Value → AW
  → Prop} (H : bC (decide (n11 < n10)) (aP p7 fun m12 m13 => oB (natIdx n11 m8) fun m14 => oB (AW.rd h m12 (m13 + m14 * 1)) fun v15 => vStr v15 fun s16 => bC (decide (n11 > 0))
  (EvQ P f_p_strings_Builder_WriteByte [Value.pointer (some (Addr.mk m1 0 none)), Value.int IntKind.u8 32] h fun v17 h18 => vIfc v17 (unitAt P f_action_Print 13 [6, 10, 19, 20, 21, 25, 26, 27] [Value.pointer (some
  (Addr.mk m1 0 none)), Value.string s16, Value.slice p2 m3 m4, Value.int IntKind.i64 n5, Value.int IntKind.i64 n6, Value.slice p7 m8 m9, Value.int IntKind.i64 n10, Value.int
  IntKind.i64 n11] h18 Q) fun m19 v20 => unitAt P f_action_Print 13 [6, 10, 19, 20, 21, 25, 26, 27] [Value.pointer (some (Addr.mk m1 0 none)), Value.string s16, Value.slice p2 m3 m4,
  Value.int IntKind.i64 n5, Value.int IntKind.i64 n6, Value.slice p7 m8 m9, Value.int IntKind.i64 n10, Value.int IntKind.i64 n11] h18 Q) (unitAt P f_action_Print 13 [6, 10, 19, 20, 21, 25,
  26, 27] [Value.pointer (some (Addr.mk m1 0 none)), Value.string s16, Value.slice p2 m3 m4, Value.int IntKind.i64 n5, Value.int IntKind.i64 n6, Value.slice p7 m8 m9, Value.int
  IntKind.i64 n10, Value.int IntKind.i64 n11] h Q)) (EvQ P f_p_strings_Builder_WriteByte [Value.pointer (some (Addr.mk m1 0 none)), Value.int IntKind.u8 10] h fun v21 h22 => vIfc v21 (unitAt P f_action_Print 6 [6,
  19, 20, 21] [Value.pointer (some (Addr.mk m1 0 none)), Value.slice p2 m3 m4, Value.int IntKind.i64 n5, Value.int IntKind.i64 (IntKind.wrap IntKind.i64 (n6 + 1))] h22 Q) fun m23
  v24 => unitAt P f_action_Print 6 [6, 19, 20, 21] [Value.pointer (some (Addr.mk m1 0 none)), Value.slice p2 m3 m4, Value.int IntKind.i64 n5, Value.int IntKind.i64 (IntKind.wrap IntKind.i64
  (n6 + 1))] h22 Q)) : unitAt P f_action_Print 9 [6, 19, 20, 21, 25, 26, 27] [Value.pointer (some (Addr.mk m1 0 none)), Value.slice p2 m3 m4, Value.int IntKind.i64 n5, Value.int IntKind.i64
  n6, Value.slice p7 m8 m9, Value.int IntKind.i64 n10, Value.int IntKind.i64 n11] h Q := unit_ok (n := 400) (ann := annOf [(6, [6, 19, 20, 21]), (9, [6, 19, 20, 21, 25, 26, 27]),
  (13, [6, 10, 19, 20, 21, 25, 26, 27])]) (Eq.mp (by kernel_rfl) H)
theorem r_action_Print_13 {m1 : Nat} {s2 : ByteArray} {p3 : Option Addr} {m4 : Nat} {m5 : Nat} {n6 : Int} {n7 : Int} {p8 : Option Addr} {m9 : Nat} {m10 : Nat} {n11 : Int} {n12 : Int} {h :
  AW} {Q : Value → AW → Prop} (H : EvQ P f_lex_Show [Value.string s2] h fun v13 h14 => vStr v13 fun s15 => EvQ P f_p_strings_Builder_WriteString [Value.pointer (some (Addr.mk m1 0 none)), Value.string s15] h14 fun
  v16 h17 => vTup v16 fun l18 => lC l18 fun v19 l20 => vInt IntKind.i64 v19 fun n21 => lC l20 fun v22 l23 => vIfc v22 (lN l23 (unitAt P f_action_Print 9 [6, 19, 20, 21, 25, 26, 27]
  [Value.pointer (some (Addr.mk m1 0 none)), Value.slice p3 m4 m5, Value.int IntKind.i64 n6, Value.int IntKind.i64 n7, Value.slice p8 m9 m10, Value.int IntKind.i64 n11, Value.int
  IntKind.i64 (IntKind.wrap IntKind.i64 (n12 + 1))] h17 Q)) fun m24 v25 => lN l23 (unitAt P f_action_Print 9 [6, 19, 20, 21, 25, 26, 27] [Value.pointer (some (Addr.mk m1 0 none)),
  Value.slice p3 m4 m5, Value.int IntKind.i64 n6, Value.int IntKind.i64 n7, Value.slice p8 m9 m10, Value.int IntKind.i64 n11, Value.int IntKind.i64 (IntKind.wrap IntKind.i64 (n12 +
  1))] h17 Q)) : unitAt P f_action_Print 13 [6, 10, 19, 20, 21, 25, 26, 27] [Value.pointer (some (Addr.mk m1 0 none)), Value.string s2, Value.slice p3 m4 m5, Value.int IntKind.i64 n6,
  Value.int IntKind.i64 n7, Value.slice p8 m9 m10, Value.int IntKind.i64 n11, Value.int IntKind.i64 n12] h Q := unit_ok (n := 400) (ann := annOf [(6, [6, 19, 20, 21]), (9, [6, 19,
  20, 21, 25, 26, 27]), (13, [6, 10, 19, 20, 21, 25, 26, 27])]) (Eq.mp (by kernel_rfl) H)
theorem r_action_Parse_fn1 {m1 : Nat} {m2 : Nat} {m3 : Nat} {m4 : Nat} {h : AW} {Q : Value → AW → Prop} (H : oB (AW.rd h m1 m2) fun v5 => vInt IntKind.i64 v5 fun n6 => oB (AW.rd h m3 m4) fun
  v7 => vSl v7 fun p8 m9 m10 => bC (n6 == (↑m9 : Int)) (Q (Value.tuple (Array.mk [Value.slice none 0 0, Value.bool false])) h) (oB (AW.rd h m1 m2) fun v11 => vInt IntKind.i64 v11
  fun n12 => oB (AW.wr h m1 m2 (Value.int IntKind.i64 (IntKind.wrap IntKind.i64 (n12 + 1)))) fun h13 => oB (AW.rd h13 m3 m4) fun v14 => vSl v14 fun p15 m16 m17 => oB (AW.rd h13 m1
  m2) fun v18 => vInt IntKind.i64 v18 fun n19 => aP p15 fun m20 m21 => oB (natIdx (IntKind.wrap IntKind.i64 (n19 - 1)) m16) fun m22 => oB (AW.rd h13 m20 (m21 + m22 * 1)) fun v23 =>
  vSl v23 fun p24 m25 m26 => Q (Value.tuple (Array.mk [Value.slice p24 m25 m26, Value.bool true])) h13)) : EvQ P f_action_Parse_fn1 [Value.pointer (some (Addr.mk m1 m2 none)), Value.pointer
  (some (Addr.mk m3 m4 none))] h Q := fn_ok (n := 400) (ann := annOf []) (Eq.mp (by kernel_rfl) H)
theorem r_action_Parse_fn2 {n1 : Int} {m2 : Nat} {m3 : Nat} {m4 : Nat} {m5 : Nat} {m6 : Nat} {m7 : Nat} {m8 : Nat} {m9 : Nat} {m10 : Nat} {m11 : Nat} {h : AW} {Q : Value → AW → Prop} (H :
  unitAt P f_action_Parse_fn2 2 [0, 1, 2, 3, 4, 5, 8] [Value.int IntKind.i64 n1, Value.pointer (some (Addr.mk m2 m3 none)), Value.pointer (some (Addr.mk m4 m5 none)), Value.pointer (some
  (Addr.mk m6 m7 none)), Value.pointer (some (Addr.mk m8 m9 none)), Value.pointer (some (Addr.mk m10 m11 none)), Value.slice none 0 0] h Q) : EvQ P f_action_Parse_fn2 [Value.int IntKind.i64 n1,
  Value.pointer (some (Addr.mk m2 m3 none)), Value.pointer (some (Addr.mk m4 m5 none)), Value.pointer (some (Addr.mk m6 m7 none)), Value.pointer (some (Addr.mk m8 m9 none)),
  Value.pointer (some (Addr.mk m10 m11 none))] h Q := fn_ok (n := 400) (ann := annOf [(2, [0, 1, 2, 3, 4, 5, 8])]) (Eq.mp (by kernel_rfl) H)
theorem r_action_Parse_fn2_2 {n1 : Int} {m2 : Nat} {m3 : Nat} {m4 : Nat} {m5 : Nat} {m6 : Nat} {m7 : Nat} {m8 : Nat} {m9 : Nat} {m10 : Nat} {m11 : Nat} {p12 : Option Addr} {m13 : Nat} {m14 :
  Nat} {h : AW} {Q : Value → AW → Prop} (H : oB (AW.rd h m2 m3) fun v15 => vInt IntKind.i64 v15 fun n16 => bC (n16 == 0) (oB (AW.rd h m4 m5) fun v17 => vFun v17 fun m18 l19 l20 =>
  EvQ P m18 (l19 ++ ([] ++ l20)) h fun v21 h22 => vTup v21 fun l23 => lC l23 fun v24 l25 => vSl v24 fun p26 m27 m28 => lC l25 fun v29 l30 => vBool v29 fun b31 => lN l30 (bC (!b31)
  (bC (decide (n1 > 0)) (oB (AW.rd h22 m6 m7) fun v32 => vInt IntKind.i64 v32 fun n33 => oB (AW.wrL h22 m2 m3 [Value.int IntKind.i64 131, Value.int IntKind.i64 n33]) fun h34 => Q
  (Value.slice p12 m13 m14) h34) (Q (Value.slice p12 m13 m14) h22)) (bC ((↑m27 : Int) == 1) (aP p26 fun m35 m36 => oB (natIdx 0 m27) fun m37 => oB (AW.rd h22 m35 (m36 + m37 * 1))
  fun v38 => vStr v38 fun s39 => bC (bEq s39 (ByteArray.mk #[101, 110, 100])) (bC (n1 == 0) (oB (AW.rd h22 m6 m7) fun v40 => vInt IntKind.i64 v40 fun n41 => oB (AW.wrL h22 m2 m3
  [Value.int IntKind.i64 131, Value.int IntKind.i64 (IntKind.wrap IntKind.i64 (n41 - 1))]) fun h42 => Q (Value.slice p12 m13 m14) h42) (Q (Value.slice p12 m13 m14) h22)) (EvQ P
  f_action_stmt [Value.slice p26 m27 m28] h22 fun v43 h44 => vTup v43 fun l45 => lC l45 fun v46 l47 => vAgg v46 fun l48 => lC l48 fun v49 l50 => vInt IntKind.i64 v49 fun n51 => lC l50 fun
  v52 l53 => vSl v52 fun p54 m55 m56 => lC l53 fun v57 l58 => vInt IntKind.i64 v57 fun n59 => lC l58 fun v60 l61 => vSl v60 fun p62 m63 m64 => lN l61 (lC l47 fun v65 l66 => vBool
  v65 fun b67 => lN l66 (oB (AW.wrL (AW.addVar h44 [Value.int IntKind.i64 0, Value.slice none 0 0, Value.int IntKind.i64 0, Value.slice none 0 0]) (AW.next h44) 0 [Value.int
  IntKind.i64 n51, Value.slice p54 m55 m56, Value.int IntKind.i64 n59, Value.slice p62 m63 m64]) fun h68 => oB (AW.rd h68 m8 m9) fun v69 => vInt IntKind.i64 v69 fun n70 => oB
  (AW.wr h68 m8 m9 (Value.int IntKind.i64 (IntKind.wrap IntKind.i64 (n70 + 1)))) fun h71 => bC (!b67) (oB (AW.rd h71 m6 m7) fun v72 => vInt IntKind.i64 v72 fun n73 => oB (AW.wrL
  h71 m2 m3 [Value.int IntKind.i64 130, Value.int IntKind.i64 (IntKind.wrap IntKind.i64 (n73 - 1))]) fun h74 => oB (AW.rd h74 (AW.next h44) 0) fun v75 => vInt IntKind.i64 v75 fun
  n76 => oB (AW.rd h74 (AW.next h44) 1) fun v77 => vSl v77 fun p78 m79 m80 => oB (AW.rd h74 (AW.next h44) 2) fun v81 => vInt IntKind.i64 v81 fun n82 => oB (AW.rd h74 (AW.next h44)
  3) fun v83 => vSl v83 fun p84 m85 m86 => oP (appendB P (AW.addVar h74 [Value.int IntKind.i64 n76, Value.slice p78 m79 m80, Value.int IntKind.i64 n82, Value.slice p84 m85 m86])
  (Array.mk [ty_sl_api_Stmt, ty_sl_api_Stmt]) [Value.slice p12 m13 m14, Value.slice (some (Addr.mk (AW.next h74) 0 none)) 1 1]) fun v87 h88 => vSl v87 fun p89 m90 m91 => unitAt P f_action_Parse_fn2 2 [0, 1, 2, 3,
  4, 5, 8] [Value.int IntKind.i64 n1, Value.pointer (some (Addr.mk m2 m3 none)), Value.pointer (some (Addr.mk m4 m5 none)), Value.pointer (some (Addr.mk m6 m7 none)), Value.pointer
  (some (Addr.mk m8 m9 none)), Value.pointer (some (Addr.mk m10 m11 none)), Value.slice p89 m90 m91] h88 Q) (oB (AW.rd h71 m8 m9) fun v92 => vInt IntKind.i64 v92 fun n93 => bC
  (decide (n93 > 256)) (oB (AW.rd h71 m6 m7) fun v94 => vInt IntKind.i64 v94 fun n95 => oB (AW.wrL h71 m2 m3 [Value.int IntKind.i64 3, Value.int IntKind.i64 (IntKind.wrap
  IntKind.i64 (n95 - 1))]) fun h96 => oB (AW.rd h96 (AW.next h44) 0) fun v97 => vInt IntKind.i64 v97 fun n98 => oB (AW.rd h96 (AW.next h44) 1) fun v99 => vSl v99 fun p100 m101 m102
  => oB (AW.rd h96 (AW.next h44) 2) fun v103 => vInt IntKind.i64 v103 fun n104 => oB (AW.rd h96 (AW.next h44) 3) fun v105 => vSl v105 fun p106 m107 m108 => oP (appendB P (AW.addVar
  h96 [Value.int IntKind.i64 n98, Value.slice p100 m101 m102, Value.int IntKind.i64 n104, Value.slice p106 m107 m108]) (Array.mk [ty_sl_api_Stmt, ty_sl_api_Stmt]) [Value.slice p12 m13 m14,
  Value.slice (some (Addr.mk (AW.next h96) 0 none)) 1 1]) fun v109 h110 => vSl v109 fun p111 m112 m113 => unitAt P f_action_Parse_fn2 2 [0, 1, 2, 3, 4, 5, 8] [Value.int IntKind.i64 n1,
  Value.pointer (some (Addr.mk m2 m3 none)), Value.pointer (some (Addr.mk m4 m5 none)), Value.pointer (some (Addr.mk m6 m7 none)), Value.pointer (some (Addr.mk m8 m9 none)),
  Value.pointer (some (Addr.mk m10 m11 none)), Value.slice p111 m112 m113] h110 Q) (oB (AW.rd h71 (AW.next h44) 0) fun v114 => vInt IntKind.i64 v114 fun n115 => EvQ P f_action_opens
  [Value.int IntKind.i64 n115] h71 fun v116 h117 => vBool v116 fun b118 => bC b118 (bC (n1 == 8) (oB (AW.rd h117 m6 m7) fun v119 => vInt IntKind.i64 v119 fun n120 => oB (AW.wrL
  h117 m2 m3 [Value.int IntKind.i64 132, Value.int IntKind.i64 (IntKind.wrap IntKind.i64 (n120 - 1))]) fun h121 => oB (AW.rd h121 (AW.next h44) 0) fun v122 => vInt IntKind.i64 v122
  fun n123 => oB (AW.rd h121 (AW.next h44) 1) fun v124 => vSl v124 fun p125 m126 m127 => oB (AW.rd h121 (AW.next h44) 2) fun v128 => vInt IntKind.i64 v128 fun n129 => oB (AW.rd
  h121 (AW.next h44) 3) fun v130 => vSl v130 fun p131 m132 m133 => oP (appendB P (AW.addVar h121 [Value.int IntKind.i64 n123, Value.slice p125 m126 m127, Value.int IntKind.i64
  n129, Value.slice p131 m132 m133]) (Array.mk [ty_sl_api_Stmt, ty_sl_api_Stmt]) [Value.slice p12 m13 m14, Value.slice (some (Addr.mk (AW.next h121) 0 none)) 1 1]) fun v134 h135 => vSl v134 fun p136
  m137 m138 => unitAt P f_action_Parse_fn2 2 [0, 1, 2, 3, 4, 5, 8] [Value.int IntKind.i64 n1, Value.pointer (some (Addr.mk m2 m3 none)), Value.pointer (some (Addr.mk m4 m5 none)), Value.pointer
  (some (Addr.mk m6 m7 none)), Value.pointer (some (Addr.mk m8 m9 none)), Value.pointer (some (Addr.mk m10 m11 none)), Value.slice p136 m137 m138] h135 Q) (oB (AW.rd h117 (AW.next
  h44) 0) fun v139 => vInt IntKind.i64 v139 fun n140 => EvQ P f_action_opens [Value.int IntKind.i64 n140] h117 fun v141 h142 => vBool v141 fun b143 => bC b143 (oB (AW.rd h142 m10 m11) fun
  v144 => vFun v144 fun m145 l146 l147 => EvQ P m145 (l146 ++ Value.int IntKind.i64 (IntKind.wrap IntKind.i64 (n1 + 1)) :: l147) h142 fun v148 h149 => vSl v148 fun p150 m151 m152
  => oB (AW.wr h149 (AW.next h44) 3 (Value.slice p150 m151 m152)) fun h153 => oB (AW.rd h153 (AW.next h44) 0) fun v154 => vInt IntKind.i64 v154 fun n155 => oB (AW.rd h153 (AW.next
  h44) 1) fun v156 => vSl v156 fun p157 m158 m159 => oB (AW.rd h153 (AW.next h44) 2) fun v160 => vInt IntKind.i64 v160 fun n161 => oB (AW.rd h153 (AW.next h44) 3) fun v162 => vSl
  v162 fun p163 m164 m165 => oP (appendB P (AW.addVar h153 [Value.int IntKind.i64 n155, Value.slice p157 m158 m159, Value.int IntKind.i64 n161, Value.slice p163 m164 m165])
  (Array.mk [ty_sl_api_Stmt, ty_sl_api_Stmt]) [Value.slice p12 m13 m14, Value.slice (some (Addr.mk (AW.next h153) 0 none)) 1 1]) fun v166 h167 => vSl v166 fun p168 m169 m170 => unitAt P f_action_Parse_fn2 2 [0,
  1, 2, 3, 4, 5, 8] [Value.int IntKind.i64 n1, Value.pointer (some (Addr.mk m2 m3 none)), Value.pointer (some (Addr.mk m4 m5 none)), Value.pointer (some (Addr.mk m6 m7 none)),
  Value.pointer (some (Addr.mk m8 m9 none)), Value.pointer (some (Addr.mk m10 m11 none)), Value.slice p168 m169 m170] h167 Q) (oB (AW.rd h142 (AW.next h44) 0) fun v171 => vInt
  IntKind.i64 v171 fun n172 => oB (AW.rd h142 (AW.next h44) 1) fun v173 => vSl v173 fun p174 m175 m176 => oB (AW.rd h142 (AW.next h44) 2) fun v177 => vInt IntKind.i64 v177 fun n178
  => oB (AW.rd h142 (AW.next h44) 3) fun v179 => vSl v179 fun p180 m181 m182 => oP (appendB P (AW.addVar h142 [Value.int IntKind.i64 n172, Value.slice p174 m175 m176, Value.int
  IntKind.i64 n178, Value.slice p180 m181 m182]) (Array.mk [ty_sl_api_Stmt, ty_sl_api_Stmt]) [Value.slice p12 m13 m14, Value.slice (some (Addr.mk (AW.next h142) 0 none)) 1 1]) fun v183 h184 => vSl
  v183 fun p185 m186 m187 => unitAt P f_action_Parse_fn2 2 [0, 1, 2, 3, 4, 5, 8] [Value.int IntKind.i64 n1, Value.pointer (some (Addr.mk m2 m3 none)), Value.pointer (some (Addr.mk m4 m5 none)),
  Value.pointer (some (Addr.mk m6 m7 none)), Value.pointer (some (Addr.mk m8 m9 none)), Value.pointer (some (Addr.mk m10 m11 none)), Value.slice p185 m186 m187] h184 Q))) (oB
  (AW.rd h117 (AW.next h44) 0) fun v188 => vInt IntKind.i64 v188 fun n189 => EvQ P f_action_opens [Value.int IntKind.i64 n189] h117 fun v190 h191 => vBool v190 fun b192 => bC b192 (oB (AW.rd
  h191 m10 m11) fun v193 => vFun v193 fun m194 l195 l196 => EvQ P m194 (l195 ++ Value.int IntKind.i64 (IntKind.wrap IntKind.i64 (n1 + 1)) :: l196) h191 fun v197 h198 => vSl v197
  fun p199 m200 m201 => oB (AW.wr h198 (AW.next h44) 3 (Value.slice p199 m200 m201)) fun h202 => oB (AW.rd h202 (AW.next h44) 0) fun v203 => vInt IntKind.i64 v203 fun n204 => oB
  (AW.rd h202 (AW.next h44) 1) fun v205 => vSl v205 fun p206 m207 m208 => oB (AW.rd h202 (AW.next h44) 2) fun v209 => vInt IntKind.i64 v209 fun n210 => oB (AW.rd h202 (AW.next h44)
  3) fun v211 => vSl v211 fun p212 m213 m214 => oP (appendB P (AW.addVar h202 [Value.int IntKind.i64 n204, Value.slice p206 m207 m208, Value.int IntKind.i64 n210, Value.slice p212
  m213 m214]) (Array.mk [ty_sl_api_Stmt, ty_sl_api_Stmt]) [Value.slice p12 m13 m14, Value.slice (some (Addr.mk (AW.next h202) 0 none)) 1 1]) fun v215 h216 => vSl v215 fun p217 m218 m219 => unitAt P
  f_action_Parse_fn2 2 [0, 1, 2, 3, 4, 5, 8] [Value.int IntKind.i64 n1, Value.pointer (some (Addr.mk m2 m3 none)), Value.pointer (some (Addr.mk m4 m5 none)), Value.pointer (some (Addr.mk m6 m7
  none)), Value.pointer (some (Addr.mk m8 m9 none)), Value.pointer (some (Addr.mk m10 m11 none)), Value.slice p217 m218 m219] h216 Q) (oB (AW.rd h191 (AW.next h44) 0) fun v220 =>
  vInt IntKind.i64 v220 fun n221 => oB (AW.rd h191 (AW.next h44) 1) fun v222 => vSl v222 fun p223 m224 m225 => oB (AW.rd h191 (AW.next h44) 2) fun v226 => vInt IntKind.i64 v226 fun
  n227 => oB (AW.rd h191 (AW.next h44) 3) fun v228 => vSl v228 fun p229 m230 m231 => oP (appendB P (AW.addVar h191 [Value.int IntKind.i64 n221, Value.slice p223 m224 m225,
  Value.int IntKind.i64 n227, Value.slice p229 m230 m231]) (Array.mk [ty_sl_api_Stmt, ty_sl_api_Stmt]) [Value.slice p12 m13 m14, Value.slice (some (Addr.mk (AW.next h191) 0 none)) 1 1]) fun v232
  h233 => vSl v232 fun p234 m235 m236 => unitAt P f_action_Parse_fn2 2 [0, 1, 2, 3, 4, 5, 8] [Value.int IntKind.i64 n1, Value.pointer (some (Addr.mk m2 m3 none)), Value.pointer (some (Addr.mk m4
  m5 none)), Value.pointer (some (Addr.mk m6 m7 none)), Value.pointer (some (Addr.mk m8 m9 none)), Value.pointer (some (Addr.mk m10 m11 none)), Value.slice p234 m235 m236] h233
  Q)))))))) (EvQ P f_action_stmt [Value.slice p26 m27 m28] h22 fun v237 h238 => vTup v237 fun l239 => lC l239 fun v240 l241 => vAgg v240 fun l242 => lC l242 fun v243 l244 => vInt
  IntKind.i64 v243 fun n245 => lC l244 fun v246 l247 => vSl v246 fun p248 m249 m250 => lC l247 fun v251 l252 => vInt IntKind.i64 v251 fun n253 => lC l252 fun v254 l255 => vSl v254
  fun p256 m257 m258 => lN l255 (lC l241 fun v259 l260 => vBool v259 fun b261 => lN l260 (oB (AW.wrL (AW.addVar h238 [Value.int IntKind.i64 0, Value.slice none 0 0, Value.int
  IntKind.i64 0, Value.slice none 0 0]) (AW.next h238) 0 [Value.int IntKind.i64 n245, Value.slice p248 m249 m250, Value.int IntKind.i64 n253, Value.slice p256 m257 m258]) fun h262
  => oB (AW.rd h262 m8 m9) fun v263 => vInt IntKind.i64 v263 fun n264 => oB (AW.wr h262 m8 m9 (Value.int IntKind.i64 (IntKind.wrap IntKind.i64 (n264 + 1)))) fun h265 => bC (!b261)
  (oB (AW.rd h265 m6 m7) fun v266 => vInt IntKind.i64 v266 fun n267 => oB (AW.wrL h265 m2 m3 [Value.int IntKind.i64 130, Value.int IntKind.i64 (IntKind.wrap IntKind.i64 (n267 -
  1))]) fun h268 => oB (AW.rd h268 (AW.next h238) 0) fun v269 => vInt IntKind.i64 v269 fun n270 => oB (AW.rd h268 (AW.next h238) 1) fun v271 => vSl v271 fun p272 m273 m274 => oB
  (AW.rd h268 (AW.next h238) 2) fun v275 => vInt IntKind.i64 v275 fun n276 => oB (AW.rd h268 (AW.next h238) 3) fun v277 => vSl v277 fun p278 m279 m280 => oP (appendB P (AW.addVar
  h268 [Value.int IntKind.i64 n270, Value.slice p272 m273 m274, Value.int IntKind.i64 n276, Value.slice p278 m279 m280]) (Array.mk [ty_sl_api_Stmt, ty_sl_api_Stmt]) [Value.slice p12 m13 m14,
  Value.slice (some (Addr.mk (AW.next h268) 0 none)) 1 1]) fun v281 h282 => vSl v281 fun p283 m284 m285 => unitAt P f_action_Parse_fn2 2 [0, 1, 2, 3, 4, 5, 8] [Value.int IntKind.i64 n1,
  Value.pointer (some (Addr.mk m2 m3 none)), Value.pointer (some (Addr.mk m4 m5 none)), Value.pointer (some (Addr.mk m6 m7 none)), Value.pointer (some (Addr.mk m8 m9 none)),
  Value.pointer (some (Addr.mk m10 m11 none)), Value.slice p283 m284 m285] h282 Q) (oB (AW.rd h265 m8 m9) fun v286 => vInt IntKind.i64 v286 fun n287 => bC (decide (n287 > 256)) (oB
  (AW.rd h265 m6 m7) fun v288 => vInt IntKind.i64 v288 fun n289 => oB (AW.wrL h265 m2 m3 [Value.int IntKind.i64 3, Value.int IntKind.i64 (IntKind.wrap IntKind.i64 (n289 - 1))]) fun
  h290 => oB (AW.rd h290 (AW.next h238) 0) fun v291 => vInt IntKind.i64 v291 fun n292 => oB (AW.rd h290 (AW.next h238) 1) fun v293 => vSl v293 fun p294 m295 m296 => oB (AW.rd h290
  (AW.next h238) 2) fun v297 => vInt IntKind.i64 v297 fun n298 => oB (AW.rd h290 (AW.next h238) 3) fun v299 => vSl v299 fun p300 m301 m302 => oP (appendB P (AW.addVar h290
  [Value.int IntKind.i64 n292, Value.slice p294 m295 m296, Value.int IntKind.i64 n298, Value.slice p300 m301 m302]) (Array.mk [ty_sl_api_Stmt, ty_sl_api_Stmt]) [Value.slice p12 m13 m14, Value.slice
  (some (Addr.mk (AW.next h290) 0 none)) 1 1]) fun v303 h304 => vSl v303 fun p305 m306 m307 => unitAt P f_action_Parse_fn2 2 [0, 1, 2, 3, 4, 5, 8] [Value.int IntKind.i64 n1, Value.pointer (some
  (Addr.mk m2 m3 none)), Value.pointer (some (Addr.mk m4 m5 none)), Value.pointer (some (Addr.mk m6 m7 none)), Value.pointer (some (Addr.mk m8 m9 none)), Value.pointer (some
  (Addr.mk m10 m11 none)), Value.slice p305 m306 m307] h304 Q) (oB (AW.rd h265 (AW.next h238) 0) fun v308 => vInt IntKind.i64 v308 fun n309 => EvQ P f_action_opens [Value.int IntKind.i64
  n309] h265 fun v310 h311 => vBool v310 fun b312 => bC b312 (bC (n1 == 8) (oB (AW.rd h311 m6 m7) fun v313 => vInt IntKind.i64 v313 fun n314 => oB (AW.wrL h311 m2 m3 [Value.int
  IntKind.i64 132, Value.int IntKind.i64 (IntKind.wrap IntKind.i64 (n314 - 1))]) fun h315 => oB (AW.rd h315 (AW.next h238) 0) fun v316 => vInt IntKind.i64 v316 fun n317 => oB
  (AW.rd h315 (AW.next h238) 1) fun v318 => vSl v318 fun p319 m320 m321 => oB (AW.rd h315 (AW.next h238) 2) fun v322 => vInt IntKind.i64 v322 fun n323 => oB (AW.rd h315 (AW.next
  h238) 3) fun v324 => vSl v324 fun p325 m326 m327 => oP (appendB P (AW.addVar h315 [Value.int IntKind.i64 n317, Value.slice p319 m320 m321, Value.int IntKind.i64 n323, Value.slice
  p325 m326 m327]) (Array.mk [ty_sl_api_Stmt, ty_sl_api_Stmt]) [Value.slice p12 m13 m14, Value.slice (some (Addr.mk (AW.next h315) 0 none)) 1 1]) fun v328 h329 => vSl v328 fun p330 m331 m332 =>
  unitAt P f_action_Parse_fn2 2 [0, 1, 2, 3, 4, 5, 8] [Value.int IntKind.i64 n1, Value.pointer (some (Addr.mk m2 m3 none)), Value.pointer (some (Addr.mk m4 m5 none)), Value.pointer (some
  (Addr.mk m6 m7 none)), Value.pointer (some (Addr.mk m8 m9 none)), Value.pointer (some (Addr.mk m10 m11 none)), Value.slice p330 m331 m332] h329 Q) (oB (AW.rd h311 (AW.next h238)
  0) fun v333 => vInt IntKind.i64 v333 fun n334 => EvQ P f_action_opens [Value.int IntKind.i64 n334] h311 fun v335 h336 => vBool v335 fun b337 => bC b337 (oB (AW.rd h336 m10 m11) fun v338 =>
  vFun v338 fun m339 l340 l341 => EvQ P m339 (l340 ++ Value.int IntKind.i64 (IntKind.wrap IntKind.i64 (n1 + 1)) :: l341) h336 fun v342 h343 => vSl v342 fun p344 m345 m346 => oB
  (AW.wr h343 (AW.next h238) 3 (Value.slice p344 m345 m346)) fun h347 => oB (AW.rd h347 (AW.next h238) 0) fun v348 => vInt IntKind.i64 v348 fun n349 => oB (AW.rd h347 (AW.next
  h238) 1) fun v350 => vSl v350 fun p351 m352 m353 => oB (AW.rd h347 (AW.next h238) 2) fun v354 => vInt IntKind.i64 v354 fun n355 => oB (AW.rd h347 (AW.next h238) 3) fun v356 =>
  vSl v356 fun p357 m358 m359 => oP (appendB P (AW.addVar h347 [Value.int IntKind.i64 n349, Value.slice p351 m352 m353, Value.int IntKind.i64 n355, Value.slice p357 m358 m359])
  (Array.mk [ty_sl_api_Stmt, ty_sl_api_Stmt]) [Value.slice p12 m13 m14, Value.slice (some (Addr.mk (AW.next h347) 0 none)) 1 1]) fun v360 h361 => vSl v360 fun p362 m363 m364 => unitAt P f_action_Parse_fn2 2 [0,
  1, 2, 3, 4, 5, 8] [Value.int IntKind.i64 n1, Value.pointer (some (Addr.mk m2 m3 none)), Value.pointer (some (Addr.mk m4 m5 none)), Value.pointer (some (Addr.mk m6 m7 none)),
  Value.pointer (some (Addr.mk m8 m9 none)), Value.pointer (some (Addr.mk m10 m11 none)), Value.slice p362 m363 m364] h361 Q) (oB (AW.rd h336 (AW.next h238) 0) fun v365 => vInt
  IntKind.i64 v365 fun n366 => oB (AW.rd h336 (AW.next h238) 1) fun v367 => vSl v367 fun p368 m369 m370 => oB (AW.rd h336 (AW.next h238) 2) fun v371 => vInt IntKind.i64 v371 fun
  n372 => oB (AW.rd h336 (AW.next h238) 3) fun v373 => vSl v373 fun p374 m375 m376 => oP (appendB P (AW.addVar h336 [Value.int IntKind.i64 n366, Value.slice p368 m369 m370,
  Value.int IntKind.i64 n372, Value.slice p374 m375 m376]) (Array.mk [ty_sl_api_Stmt, ty_sl_api_Stmt]) [Value.slice p12 m13 m14, Value.slice (some (Addr.mk (AW.next h336) 0 none)) 1 1]) fun v377
  h378 => vSl v377 fun p379 m380 m381 => unitAt P f_action_Parse_fn2 2 [0, 1, 2, 3, 4, 5, 8] [Value.int IntKind.i64 n1, Value.pointer (some (Addr.mk m2 m3 none)), Value.pointer (some (Addr.mk m4
  m5 none)), Value.pointer (some (Addr.mk m6 m7 none)), Value.pointer (some (Addr.mk m8 m9 none)), Value.pointer (some (Addr.mk m10 m11 none)), Value.slice p379 m380 m381] h378
  Q))) (oB (AW.rd h311 (AW.next h238) 0) fun v382 => vInt IntKind.i64 v382 fun n383 => EvQ P f_action_opens [Value.int IntKind.i64 n383] h311 fun v384 h385 => vBool v384 fun b386 => bC b386
  (oB (AW.rd h385 m10 m11) fun v387 => vFun v387 fun m388 l389 l390 => EvQ P m388 (l389 ++ Value.int IntKind.i64 (IntKind.wrap IntKind.i64 (n1 + 1)) :: l390) h385 fun v391 h392 =>
  vSl v391 fun p393 m394 m395 => oB (AW.wr h392 (AW.next h238) 3 (Value.slice p393 m394 m395)) fun h396 => oB (AW.rd h396 (AW.next h238) 0) fun v397 => vInt IntKind.i64 v397 fun
  n398 => oB (AW.rd h396 (AW.next h238) 1) fun v399 => vSl v399 fun p400 m401 m402 => oB (AW.rd h396 (AW.next h238) 2) fun v403 => vInt IntKind.i64 v403 fun n404 => oB (AW.rd h396
  (AW.next h238) 3) fun v405 => vSl v405 fun p406 m407 m408 => oP (appendB P (AW.addVar h396 [Value.int IntKind.i64 n398, Value.slice p400 m401 m402, Value.int IntKind.i64 n404,
  Value.slice p406 m407 m408]) (Array.mk [ty_sl_api_Stmt, ty_sl_api_Stmt]) [Value.slice p12 m13 m14, Value.slice (some (Addr.mk (AW.next h396) 0 none)) 1 1]) fun v409 h410 => vSl v409 fun p411 m412
  m413 => unitAt P f_action_Parse_fn2 2 [0, 1, 2, 3, 4, 5, 8] [Value.int IntKind.i64 n1, Value.pointer (some (Addr.mk m2 m3 none)), Value.pointer (some (Addr.mk m4 m5 none)), Value.pointer (some
  (Addr.mk m6 m7 none)), Value.pointer (some (Addr.mk m8 m9 none)), Value.pointer (some (Addr.mk m10 m11 none)), Value.slice p411 m412 m413] h410 Q) (oB (AW.rd h385 (AW.next h238)
  0) fun v414 => vInt IntKind.i64 v414 fun n415 => oB (AW.rd h385 (AW.next h238) 1) fun v416 => vSl v416 fun p417 m418 m419 => oB (AW.rd h385 (AW.next h238) 2) fun v420 => vInt
  IntKind.i64 v420 fun n421 => oB (AW.rd h385 (AW.next h238) 3) fun v422 => vSl v422 fun p423 m424 m425 => oP (appendB P (AW.addVar h385 [Value.int IntKind.i64 n415, Value.slice
  p417 m418 m419, Value.int IntKind.i64 n421, Value.slice p423 m424 m425]) (Array.mk [ty_sl_api_Stmt, ty_sl_api_Stmt]) [Value.slice p12 m13 m14, Value.slice (some (Addr.mk (AW.next h385) 0 none)) 1
  1]) fun v426 h427 => vSl v426 fun p428 m429 m430 => unitAt P f_action_Parse_fn2 2 [0, 1, 2, 3, 4, 5, 8] [Value.int IntKind.i64 n1, Value.pointer (some (Addr.mk m2 m3 none)), Value.pointer
  (some (Addr.mk m4 m5 none)), Value.pointer (some (Addr.mk m6 m7 none)), Value.pointer (some (Addr.mk m8 m9 none)), Value.pointer (some (Addr.mk m10 m11 none)), Value.slice p428
  m429 m430] h427 Q)))))))))) (Q (Value.slice p12 m13 m14) h)) : unitAt P f_action_Parse_fn2 2 [0, 1, 2, 3, 4, 5, 8] [Value.int IntKind.i64 n1, Value.pointer (some (Addr.mk m2 m3 none)),
  Value.pointer (some (Addr.mk m4 m5 none)), Value.pointer (some (Addr.mk m6 m7 none)), Value.pointer (some (Addr.mk m8 m9 none)), Value.pointer (some (Addr.mk m10 m11 none)),
  Value.slice p12 m13 m14] h Q := unit_ok (n := 400) (ann := annOf [(2, [0, 1, 2, 3, 4, 5, 8])]) (Eq.mp (by kernel_rfl) H)
theorem r_action_stmt {p1 : Option Addr} {m2 : Nat} {m3 : Nat} {h : AW} {Q : Value → AW → Prop} (H : bC ((↑m2 : Int) == 0) (oB (AW.wrL (AW.addVar h [Value.int IntKind.i64 0, Value.slice
  none 0 0, Value.int IntKind.i64 0, Value.slice none 0 0]) (AW.next h) 0 [Value.int IntKind.i64 0, Value.slice none 0 0, Value.int IntKind.i64 0, Value.slice none 0 0]) fun h4 =>
  oB (AW.rd h4 (AW.next h) 0) fun v5 => vInt IntKind.i64 v5 fun n6 => oB (AW.rd h4 (AW.next h) 1) fun v7 => vSl v7 fun p8 m9 m10 => oB (AW.rd h4 (AW.next h) 2) fun v11 => vInt
  IntKind.i64 v11 fun n12 => oB (AW.rd h4 (AW.next h) 3) fun v13 => vSl v13 fun p14 m15 m16 => Q (Value.tuple (Array.mk [Value.agg (Array.mk [Value.int IntKind.i64 n6, Value.slice
  p8 m9 m10, Value.int IntKind.i64 n12, Value.slice p14 m15 m16]), Value.bool false])) h4) (oB (AW.wrL (AW.addVar (AW.addVar h [Value.int IntKind.i64 0, Value.slice none 0 0,
  Value.int IntKind.i64 0, Value.slice none 0 0]) [Value.int IntKind.i64 0, Value.slice none 0 0, Value.int IntKind.i64 0, Value.slice none 0 0]) (AW.next (AW.addVar h [Value.int
  IntKind.i64 0, Value.slice none 0 0, Value.int IntKind.i64 0, Value.slice none 0 0])) 0 [Value.int IntKind.i64 0, Value.slice none 0 0, Value.int IntKind.i64 0, Value.slice none
  0 0]) fun h17 => unitAt P f_action_stmt 5 [0, 2, 4, 5] [Value.slice p1 m2 m3, Value.pointer (some (Addr.mk (AW.next h) 0 none)), Value.pointer (some (Addr.mk (AW.next (AW.addVar h
  [Value.int IntKind.i64 0, Value.slice none 0 0, Value.int IntKind.i64 0, Value.slice none 0 0])) 0 none)), Value.int IntKind.i64 1] h17 Q)) : EvQ P f_action_stmt [Value.slice p1 m2 m3] h
  Q := fn_ok (n := 400) (ann := annOf [(5, [0, 2, 4, 5])]) (Eq.mp (by kernel_rfl) H)
theorem r_action_stmt_5 {p1 : Option Addr} {m2 : Nat} {m3 : Nat} {m4 : Nat} {m5 : Nat} {n6 : Int} {h : AW} {Q : Value → AW → Prop} (H : bC (decide (n6 ≤ 12)) (EvQ P f_action_word [Value.int
  IntKind.i64 n6] h fun v7 h8 => vStr v7 fun s9 => aP p1 fun m10 m11 => oB (natIdx 0 m2) fun m12 => oB (AW.rd h8 m10 (m11 + m12 * 1)) fun v13 => vStr v13 fun s14 => oB (AW.rd h m10
  (m11 + m12 * 1)) fun v15 => vStr v15 fun s16 => Value.string s16 = Value.string s14 ∧ bC (bEq s9 s14) (oB (AW.wr h8 m5 0 (Value.int IntKind.i64 n6)) fun h17 => unitAt P f_action_stmt 5
  [0, 2, 4, 5] [Value.slice p1 m2 m3, Value.pointer (some (Addr.mk m4 0 none)), Value.pointer (some (Addr.mk m5 0 none)), Value.int IntKind.i64 (IntKind.wrap IntKind.i64 (n6 + 1))]
  h17 Q) (unitAt P f_action_stmt 5 [0, 2, 4, 5] [Value.slice p1 m2 m3, Value.pointer (some (Addr.mk m4 0 none)), Value.pointer (some (Addr.mk m5 0 none)), Value.int IntKind.i64
  (IntKind.wrap IntKind.i64 (n6 + 1))] h8 Q)) (oB (natBnd 1 m2) fun m18 => bC (Nat.ble m2 m3) (oB (shO p1 (m18 * 1)) fun p19 => oB (AW.rd h m5 0) fun v20 => vInt IntKind.i64 v20
  fun n21 => bC (n21 == 10) (bC ((↑(m2 - m18) : Int) != 1) (oB (AW.wrL h m4 0 [Value.int IntKind.i64 0, Value.slice none 0 0, Value.int IntKind.i64 0, Value.slice none 0 0]) fun
  h22 => oB (AW.rd h22 m4 0) fun v23 => vInt IntKind.i64 v23 fun n24 => oB (AW.rd h22 m4 1) fun v25 => vSl v25 fun p26 m27 m28 => oB (AW.rd h22 m4 2) fun v29 => vInt IntKind.i64
  v29 fun n30 => oB (AW.rd h22 m4 3) fun v31 => vSl v31 fun p32 m33 m34 => Q (Value.tuple (Array.mk [Value.agg (Array.mk [Value.int IntKind.i64 n24, Value.slice p26 m27 m28,
  Value.int IntKind.i64 n30, Value.slice p32 m33 m34]), Value.bool false])) h22) (aP p19 fun m35 m36 => oB (natIdx 0 (m2 - m18)) fun m37 => oB (AW.rd h m35 (m36 + m37 * 1)) fun v38
  => vStr v38 fun s39 => EvQ P f_action_number [Value.string s39] h fun v40 h41 => vInt IntKind.i64 v40 fun n42 => oB (AW.wr h41 m5 2 (Value.int IntKind.i64 n42)) fun h43 => oB (AW.rd h43 m5
  0) fun v44 => vInt IntKind.i64 v44 fun n45 => oB (AW.rd h43 m5 1) fun v46 => vSl v46 fun p47 m48 m49 => oB (AW.rd h43 m5 2) fun v50 => vInt IntKind.i64 v50 fun n51 => oB (AW.rd
  h43 m5 3) fun v52 => vSl v52 fun p53 m54 m55 => oB (AW.rd h43 m5 2) fun v56 => vInt IntKind.i64 v56 fun n57 => oB (AW.wrL h43 m4 0 [Value.int IntKind.i64 n45, Value.slice p47 m48
  m49, Value.int IntKind.i64 n51, Value.slice p53 m54 m55]) fun h58 => oB (AW.rd h58 m5 2) fun v59 => vInt IntKind.i64 v59 fun n60 => Value.int IntKind.i64 n60 = Value.int
  IntKind.i64 n57 ∧ oB (AW.rd h58 m4 0) fun v61 => vInt IntKind.i64 v61 fun n62 => oB (AW.rd h58 m4 1) fun v63 => vSl v63 fun p64 m65 m66 => oB (AW.rd h58 m4 2) fun v67 => vInt
  IntKind.i64 v67 fun n68 => oB (AW.rd h58 m4 3) fun v69 => vSl v69 fun p70 m71 m72 => Q (Value.tuple (Array.mk [Value.agg (Array.mk [Value.int IntKind.i64 n62, Value.slice p64 m65
  m66, Value.int IntKind.i64 n68, Value.slice p70 m71 m72]), Value.bool (decide (n57 ≥ 0))])) h58)) (EvQ P f_slices_Clone_sl_string_string [Value.slice p19 (m2 - m18) (m3 - m18)] h fun v73 h74 => vSl v73 fun
  p75 m76 m77 => oB (AW.wr h74 m5 1 (Value.slice p75 m76 m77)) fun h78 => oB (AW.rd h78 m5 0) fun v79 => vInt IntKind.i64 v79 fun n80 => oB (AW.rd h78 m5 1) fun v81 => vSl v81 fun
  p82 m83 m84 => oB (AW.rd h78 m5 2) fun v85 => vInt IntKind.i64 v85 fun n86 => oB (AW.rd h78 m5 3) fun v87 => vSl v87 fun p88 m89 m90 => oB (AW.rd h78 m5 0) fun v91 => vInt
  IntKind.i64 v91 fun n92 => bC (decide (n92 > 0)) (oB (AW.rd h78 m5 0) fun v93 => vInt IntKind.i64 v93 fun n94 => EvQ P f_action_fits [Value.int IntKind.i64 n94, Value.int IntKind.i64
  (↑(m2 - m18) : Int)] h78 fun v95 h96 => vBool v95 fun b97 => oB (AW.wrL h96 m4 0 [Value.int IntKind.i64 n80, Value.slice p82 m83 m84, Value.int IntKind.i64 n86, Value.slice p88
  m89 m90]) fun h98 => oB (AW.rd h96 m5 0) fun v99 => vInt IntKind.i64 v99 fun n100 => oB (AW.rd h96 m5 1) fun v101 => vSl v101 fun p102 m103 m104 => oB (AW.rd h96 m5 2) fun v105
  => vInt IntKind.i64 v105 fun n106 => oB (AW.rd h96 m5 3) fun v107 => vSl v107 fun p108 m109 m110 => Value.agg (Array.mk [Value.int IntKind.i64 n100, Value.slice p102 m103 m104,
  Value.int IntKind.i64 n106, Value.slice p108 m109 m110]) = Value.agg (Array.mk [Value.int IntKind.i64 n80, Value.slice p82 m83 m84, Value.int IntKind.i64 n86, Value.slice p88 m89
  m90]) ∧ oB (AW.rd h98 m4 0) fun v111 => vInt IntKind.i64 v111 fun n112 => oB (AW.rd h98 m4 1) fun v113 => vSl v113 fun p114 m115 m116 => oB (AW.rd h98 m4 2) fun v117 => vInt
  IntKind.i64 v117 fun n118 => oB (AW.rd h98 m4 3) fun v119 => vSl v119 fun p120 m121 m122 => Q (Value.tuple (Array.mk [Value.agg (Array.mk [Value.int IntKind.i64 n112, Value.slice
  p114 m115 m116, Value.int IntKind.i64 n118, Value.slice p120 m121 m122]), Value.bool b97])) h98) (oB (AW.wrL h78 m4 0 [Value.int IntKind.i64 n80, Value.slice p82 m83 m84,
  Value.int IntKind.i64 n86, Value.slice p88 m89 m90]) fun h123 => oB (AW.rd h123 m4 0) fun v124 => vInt IntKind.i64 v124 fun n125 => oB (AW.rd h123 m4 1) fun v126 => vSl v126 fun
  p127 m128 m129 => oB (AW.rd h123 m4 2) fun v130 => vInt IntKind.i64 v130 fun n131 => oB (AW.rd h123 m4 3) fun v132 => vSl v132 fun p133 m134 m135 => Q (Value.tuple (Array.mk
  [Value.agg (Array.mk [Value.int IntKind.i64 n125, Value.slice p127 m128 m129, Value.int IntKind.i64 n131, Value.slice p133 m134 m135]), Value.bool false])) h123))) False)) :
  unitAt P f_action_stmt 5 [0, 2, 4, 5] [Value.slice p1 m2 m3, Value.pointer (some (Addr.mk m4 0 none)), Value.pointer (some (Addr.mk m5 0 none)), Value.int IntKind.i64 n6] h Q := unit_ok
  (n := 400) (ann := annOf [(5, [0, 2, 4, 5])]) (Eq.mp (by kernel_rfl) H)
theorem r_action_opens {n1 : Int} {h : AW} {Q : Value → AW → Prop} (H : bC (decide (n1 ≥ 10)) (Q (Value.bool (decide (n1 ≤ 12))) h) (Q (Value.bool false) h)) : EvQ P f_action_opens [Value.int
  IntKind.i64 n1] h Q := fn_ok (n := 400) (ann := annOf []) (Eq.mp (by kernel_rfl) H)
theorem r_slices_EqualFunc_sl_api_Stmt_sl_api_Stmt_api_Stmt_api_Stmt {p1 : Option Addr} {m2 : Nat} {m3 : Nat} {p4 : Option Addr} {m5 : Nat} {m6 : Nat} {v7 : Value} {h : AW} {Q : Value → AW → Prop} (H : bC ((↑m2 : Int) != (↑m5 : Int))
  (Q (Value.bool false) h) (unitAt P f_slices_EqualFunc_sl_api_Stmt_sl_api_Stmt_api_Stmt_api_Stmt 4 [1, 2, 15, 16, 17] [Value.slice p4 m5 m6, v7, Value.slice p1 m2 m3, Value.int IntKind.i64 (↑m2 : Int), Value.int IntKind.i64 0] h Q)) :
  EvQ P f_slices_EqualFunc_sl_api_Stmt_sl_api_Stmt_api_Stmt_api_Stmt [Value.slice p1 m2 m3, Value.slice p4 m5 m6, v7] h Q := fn_ok (n := 400) (ann := annOf [(4, [1, 2, 15, 16, 17])]) (Eq.mp (by kernel_rfl) H)
theorem r_slices_EqualFunc_sl_api_Stmt_sl_api_Stmt_api_Stmt_api_Stmt_4 {p1 : Option Addr} {m2 : Nat} {m3 : Nat} {v4 : Value} {p5 : Option Addr} {m6 : Nat} {m7 : Nat} {n8 : Int} {n9 : Int} {h : AW} {Q : Value → AW → Prop} (H : bC
  (decide (n9 < n8)) (aP p5 fun m10 m11 => oB (natIdx n9 m6) fun m12 => oB (AW.rd h m10 (m11 + m12 * 4)) fun v13 => vInt IntKind.i64 v13 fun n14 => oB (AW.rd h m10 (m11 + m12 * 4 +
  1)) fun v15 => vSl v15 fun p16 m17 m18 => oB (AW.rd h m10 (m11 + m12 * 4 + 1 + 1)) fun v19 => vInt IntKind.i64 v19 fun n20 => oB (AW.rd h m10 (m11 + m12 * 4 + 1 + 1 + 1)) fun v21
  => vSl v21 fun p22 m23 m24 => oB (AW.wrL (AW.addVar h [Value.int IntKind.i64 0, Value.slice none 0 0, Value.int IntKind.i64 0, Value.slice none 0 0]) (AW.next h) 0 [Value.int
  IntKind.i64 n14, Value.slice p16 m17 m18, Value.int IntKind.i64 n20, Value.slice p22 m23 m24]) fun h25 => aP p1 fun m26 m27 => oB (natIdx n9 m2) fun m28 => oB (AW.rd h25 m26 (m27
  + m28 * 4)) fun v29 => vInt IntKind.i64 v29 fun n30 => oB (AW.rd h25 m26 (m27 + m28 * 4 + 1)) fun v31 => vSl v31 fun p32 m33 m34 => oB (AW.rd h25 m26 (m27 + m28 * 4 + 1 + 1)) fun
  v35 => vInt IntKind.i64 v35 fun n36 => oB (AW.rd h25 m26 (m27 + m28 * 4 + 1 + 1 + 1)) fun v37 => vSl v37 fun p38 m39 m40 => oB (AW.wrL (AW.addVar h25 [Value.int IntKind.i64 0,
  Value.slice none 0 0, Value.int IntKind.i64 0, Value.slice none 0 0]) (AW.next h25) 0 [Value.int IntKind.i64 n30, Value.slice p32 m33 m34, Value.int IntKind.i64 n36, Value.slice
  p38 m39 m40]) fun h41 => oB (AW.rd h41 (AW.next h) 0) fun v42 => vInt IntKind.i64 v42 fun n43 => oB (AW.rd h41 (AW.next h) 1) fun v44 => vSl v44 fun p45 m46 m47 => oB (AW.rd h41
  (AW.next h) 2) fun v48 => vInt IntKind.i64 v48 fun n49 => oB (AW.rd h41 (AW.next h) 3) fun v50 => vSl v50 fun p51 m52 m53 => oB (AW.rd h41 (AW.next h25) 0) fun v54 => vInt
  IntKind.i64 v54 fun n55 => oB (AW.rd h41 (AW.next h25) 1) fun v56 => vSl v56 fun p57 m58 m59 => oB (AW.rd h41 (AW.next h25) 2) fun v60 => vInt IntKind.i64 v60 fun n61 => oB
  (AW.rd h41 (AW.next h25) 3) fun v62 => vSl v62 fun p63 m64 m65 => vFun v4 fun m66 l67 l68 => EvQ P m66 (l67 ++ Value.agg (Array.mk [Value.int IntKind.i64 n43, Value.slice p45 m46
  m47, Value.int IntKind.i64 n49, Value.slice p51 m52 m53]) :: Value.agg (Array.mk [Value.int IntKind.i64 n55, Value.slice p57 m58 m59, Value.int IntKind.i64 n61, Value.slice p63
  m64 m65]) :: l68) h41 fun v69 h70 => vBool v69 fun b71 => bC (!b71) (Q (Value.bool false) h70) (unitAt P f_slices_EqualFunc_sl_api_Stmt_sl_api_Stmt_api_Stmt_api_Stmt 4 [1, 2, 15, 16, 17] [Value.slice p1 m2 m3, v4, Value.slice p5 m6
  m7, Value.int IntKind.i64 n8, Value.int IntKind.i64 (IntKind.wrap IntKind.i64 (n9 + 1))] h70 Q)) (Q (Value.bool true) h)) : unitAt P f_slices_EqualFunc_sl_api_Stmt_sl_api_Stmt_api_Stmt_api_Stmt 4 [1, 2, 15, 16, 17] [Value.slice p1 m2
  m3, v4, Value.slice p5 m6 m7, Value.int IntKind.i64 n8, Value.int IntKind.i64 n9] h Q := unit_ok (n := 400) (ann := annOf [(4, [1, 2, 15, 16, 17])]) (Eq.mp (by kernel_rfl) H)
theorem r_action_Same_fn1 {n1 : Int} {p2 : Option Addr} {m3 : Nat} {m4 : Nat} {n5 : Int} {p6 : Option Addr} {m7 : Nat} {m8 : Nat} {n9 : Int} {p10 : Option Addr} {m11 : Nat} {m12 : Nat} {n13 :
  Int} {p14 : Option Addr} {m15 : Nat} {m16 : Nat} {h : AW} {Q : Value → AW → Prop} (H : oB (AW.rd (AW.addVar (AW.addVar h [Value.int IntKind.i64 n1, Value.slice p2 m3 m4,
  Value.int IntKind.i64 n5, Value.slice p6 m7 m8]) [Value.int IntKind.i64 n9, Value.slice p10 m11 m12, Value.int IntKind.i64 n13, Value.slice p14 m15 m16]) (AW.next h) 0) fun v17
  => vInt IntKind.i64 v17 fun n18 => oB (AW.rd (AW.addVar (AW.addVar h [Value.int IntKind.i64 n1, Value.slice p2 m3 m4, Value.int IntKind.i64 n5, Value.slice p6 m7 m8]) [Value.int
  IntKind.i64 n9, Value.slice p10 m11 m12, Value.int IntKind.i64 n13, Value.slice p14 m15 m16]) (AW.next (AW.addVar h [Value.int IntKind.i64 n1, Value.slice p2 m3 m4, Value.int
  IntKind.i64 n5, Value.slice p6 m7 m8])) 0) fun v19 => vInt IntKind.i64 v19 fun n20 => bC (n18 == n20) (oB (AW.rd (AW.addVar (AW.addVar h [Value.int IntKind.i64 n1, Value.slice p2
  m3 m4, Value.int IntKind.i64 n5, Value.slice p6 m7 m8]) [Value.int IntKind.i64 n9, Value.slice p10 m11 m12, Value.int IntKind.i64 n13, Value.slice p14 m15 m16]) (AW.next h) 2)
  fun v21 => vInt IntKind.i64 v21 fun n22 => oB (AW.rd (AW.addVar (AW.addVar h [Value.int IntKind.i64 n1, Value.slice p2 m3 m4, Value.int IntKind.i64 n5, Value.slice p6 m7 m8])
  [Value.int IntKind.i64 n9, Value.slice p10 m11 m12, Value.int IntKind.i64 n13, Value.slice p14 m15 m16]) (AW.next (AW.addVar h [Value.int IntKind.i64 n1, Value.slice p2 m3 m4,
  Value.int IntKind.i64 n5, Value.slice p6 m7 m8])) 2) fun v23 => vInt IntKind.i64 v23 fun n24 => bC (n22 == n24) (oB (AW.rd (AW.addVar (AW.addVar h [Value.int IntKind.i64 n1,
  Value.slice p2 m3 m4, Value.int IntKind.i64 n5, Value.slice p6 m7 m8]) [Value.int IntKind.i64 n9, Value.slice p10 m11 m12, Value.int IntKind.i64 n13, Value.slice p14 m15 m16])
  (AW.next h) 1) fun v25 => vSl v25 fun p26 m27 m28 => oB (AW.rd (AW.addVar (AW.addVar h [Value.int IntKind.i64 n1, Value.slice p2 m3 m4, Value.int IntKind.i64 n5, Value.slice p6
  m7 m8]) [Value.int IntKind.i64 n9, Value.slice p10 m11 m12, Value.int IntKind.i64 n13, Value.slice p14 m15 m16]) (AW.next (AW.addVar h [Value.int IntKind.i64 n1, Value.slice p2
  m3 m4, Value.int IntKind.i64 n5, Value.slice p6 m7 m8])) 1) fun v29 => vSl v29 fun p30 m31 m32 => EvQ P f_slices_Equal_sl_string_string [Value.slice p26 m27 m28, Value.slice p30 m31 m32] (AW.addVar
  (AW.addVar h [Value.int IntKind.i64 n1, Value.slice p2 m3 m4, Value.int IntKind.i64 n5, Value.slice p6 m7 m8]) [Value.int IntKind.i64 n9, Value.slice p10 m11 m12, Value.int
  IntKind.i64 n13, Value.slice p14 m15 m16]) fun v33 h34 => vBool v33 fun b35 => bC b35 (oB (AW.rd h34 (AW.next h) 3) fun v36 => vSl v36 fun p37 m38 m39 => oB (AW.rd h34 (AW.next
  (AW.addVar h [Value.int IntKind.i64 n1, Value.slice p2 m3 m4, Value.int IntKind.i64 n5, Value.slice p6 m7 m8])) 3) fun v40 => vSl v40 fun p41 m42 m43 => EvQ P f_action_Same [Value.slice
  p37 m38 m39, Value.slice p41 m42 m43] h34 fun v44 h45 => vBool v44 fun b46 => Q (Value.bool b46) h45) (Q (Value.bool false) h34)) (Q (Value.bool false) (AW.addVar (AW.addVar h
  [Value.int IntKind.i64 n1, Value.slice p2 m3 m4, Value.int IntKind.i64 n5, Value.slice p6 m7 m8]) [Value.int IntKind.i64 n9, Value.slice p10 m11 m12, Value.int IntKind.i64 n13,
  Value.slice p14 m15 m16]))) (Q (Value.bool false) (AW.addVar (AW.addVar h [Value.int IntKind.i64 n1, Value.slice p2 m3 m4, Value.int IntKind.i64 n5, Value.slice p6 m7 m8])
  [Value.int IntKind.i64 n9, Value.slice p10 m11 m12, Value.int IntKind.i64 n13, Value.slice p14 m15 m16]))) : EvQ P f_action_Same_fn1 [Value.agg (Array.mk [Value.int IntKind.i64 n1,
  Value.slice p2 m3 m4, Value.int IntKind.i64 n5, Value.slice p6 m7 m8]), Value.agg (Array.mk [Value.int IntKind.i64 n9, Value.slice p10 m11 m12, Value.int IntKind.i64 n13,
  Value.slice p14 m15 m16])] h Q := fn_ok (n := 400) (ann := annOf []) (Eq.mp (by kernel_rfl) H)
theorem r_action_right {p1 : Option Addr} {m2 : Nat} {m3 : Nat} {n4 : Int} {h : AW} {Q : Value → AW → Prop} (H : unitAt P f_action_right 2 [1, 7, 8, 9] [Value.int IntKind.i64 n4, Value.slice p1 m2
  m3, Value.int IntKind.i64 (↑m2 : Int), Value.int IntKind.i64 0] h Q) : EvQ P f_action_right [Value.slice p1 m2 m3, Value.int IntKind.i64 n4] h Q := fn_ok (n := 400) (ann := annOf [(2, [1,
  7, 8, 9])]) (Eq.mp (by kernel_rfl) H)
theorem r_action_right_2 {n1 : Int} {p2 : Option Addr} {m3 : Nat} {m4 : Nat} {n5 : Int} {n6 : Int} {h : AW} {Q : Value → AW → Prop} (H : bC (decide (n6 < n5)) (aP p2 fun m7 m8 => oB
  (natIdx n6 m3) fun m9 => oB (AW.rd h m7 (m8 + m9 * 4)) fun v10 => vInt IntKind.i64 v10 fun n11 => oB (AW.rd h m7 (m8 + m9 * 4 + 1)) fun v12 => vSl v12 fun p13 m14 m15 => oB
  (AW.rd h m7 (m8 + m9 * 4 + 1 + 1)) fun v16 => vInt IntKind.i64 v16 fun n17 => oB (AW.rd h m7 (m8 + m9 * 4 + 1 + 1 + 1)) fun v18 => vSl v18 fun p19 m20 m21 => oB (AW.wrL
  (AW.addVar h [Value.int IntKind.i64 0, Value.slice none 0 0, Value.int IntKind.i64 0, Value.slice none 0 0]) (AW.next h) 0 [Value.int IntKind.i64 n11, Value.slice p13 m14 m15,
  Value.int IntKind.i64 n17, Value.slice p19 m20 m21]) fun h22 => oB (AW.rd h22 (AW.next h) 0) fun v23 => vInt IntKind.i64 v23 fun n24 => bC (decide (n24 < 1)) (Q (Value.bool
  false) h22) (oB (AW.rd h22 (AW.next h) 0) fun v25 => vInt IntKind.i64 v25 fun n26 => bC (decide (n26 > 12)) (Q (Value.bool false) h22) (oB (AW.rd h22 (AW.next h) 0) fun v27 =>
  vInt IntKind.i64 v27 fun n28 => oB (AW.rd h22 (AW.next h) 1) fun v29 => vSl v29 fun p30 m31 m32 => EvQ P f_action_fits [Value.int IntKind.i64 n28, Value.int IntKind.i64 (↑m31 : Int)] h22
  fun v33 h34 => vBool v33 fun b35 => bC (!b35) (Q (Value.bool false) h34) (oB (AW.rd h34 (AW.next h) 2) fun v36 => vInt IntKind.i64 v36 fun n37 => bC (decide (n37 < 0)) (Q
  (Value.bool false) h34) (oB (AW.rd h34 (AW.next h) 2) fun v38 => vInt IntKind.i64 v38 fun n39 => bC (decide (n39 > 1000)) (Q (Value.bool false) h34) (oB (AW.rd h34 (AW.next h) 2)
  fun v40 => vInt IntKind.i64 v40 fun n41 => bC (decide (n41 > 0)) (oB (AW.rd h34 (AW.next h) 0) fun v42 => vInt IntKind.i64 v42 fun n43 => bC (n43 != 10) (Q (Value.bool false)
  h34) (oB (AW.rd h34 (AW.next h) 0) fun v44 => vInt IntKind.i64 v44 fun n45 => EvQ P f_action_opens [Value.int IntKind.i64 n45] h34 fun v46 h47 => vBool v46 fun b48 => bC b48 (bC (n1 == 8)
  (Q (Value.bool false) h47) (oB (AW.rd h47 (AW.next h) 0) fun v49 => vInt IntKind.i64 v49 fun n50 => EvQ P f_action_opens [Value.int IntKind.i64 n50] h47 fun v51 h52 => vBool v51 fun b53 =>
  bC (!b53) (oB (AW.rd h52 (AW.next h) 3) fun v54 => vSl v54 fun p55 m56 m57 => bC (decide ((↑m56 : Int) > 0)) (Q (Value.bool false) h52) (oB (AW.rd h52 (AW.next h) 3) fun v58 =>
  vSl v58 fun p59 m60 m61 => EvQ P f_action_right [Value.slice p59 m60 m61, Value.int IntKind.i64 (IntKind.wrap IntKind.i64 (n1 + 1))] h52 fun v62 h63 => vBool v62 fun b64 => bC (!b64) (Q
  (Value.bool false) h63) (unitAt P f_action_right 2 [1, 7, 8, 9] [Value.int IntKind.i64 n1, Value.slice p2 m3 m4, Value.int IntKind.i64 n5, Value.int IntKind.i64 (IntKind.wrap IntKind.i64
  (n6 + 1))] h63 Q))) (oB (AW.rd h52 (AW.next h) 3) fun v65 => vSl v65 fun p66 m67 m68 => EvQ P f_action_right [Value.slice p66 m67 m68, Value.int IntKind.i64 (IntKind.wrap IntKind.i64 (n1 +
  1))] h52 fun v69 h70 => vBool v69 fun b71 => bC (!b71) (Q (Value.bool false) h70) (unitAt P f_action_right 2 [1, 7, 8, 9] [Value.int IntKind.i64 n1, Value.slice p2 m3 m4, Value.int
  IntKind.i64 n5, Value.int IntKind.i64 (IntKind.wrap IntKind.i64 (n6 + 1))] h70 Q)))) (oB (AW.rd h47 (AW.next h) 0) fun v72 => vInt IntKind.i64 v72 fun n73 => EvQ P f_action_opens
  [Value.int IntKind.i64 n73] h47 fun v74 h75 => vBool v74 fun b76 => bC (!b76) (oB (AW.rd h75 (AW.next h) 3) fun v77 => vSl v77 fun p78 m79 m80 => bC (decide ((↑m79 : Int) > 0))
  (Q (Value.bool false) h75) (oB (AW.rd h75 (AW.next h) 3) fun v81 => vSl v81 fun p82 m83 m84 => EvQ P f_action_right [Value.slice p82 m83 m84, Value.int IntKind.i64 (IntKind.wrap
  IntKind.i64 (n1 + 1))] h75 fun v85 h86 => vBool v85 fun b87 => bC (!b87) (Q (Value.bool false) h86) (unitAt P f_action_right 2 [1, 7, 8, 9] [Value.int IntKind.i64 n1, Value.slice p2 m3 m4,
  Value.int IntKind.i64 n5, Value.int IntKind.i64 (IntKind.wrap IntKind.i64 (n6 + 1))] h86 Q))) (oB (AW.rd h75 (AW.next h) 3) fun v88 => vSl v88 fun p89 m90 m91 => EvQ P f_action_right
  [Value.slice p89 m90 m91, Value.int IntKind.i64 (IntKind.wrap IntKind.i64 (n1 + 1))] h75 fun v92 h93 => vBool v92 fun b94 => bC (!b94) (Q (Value.bool false) h93) (unitAt P f_action_right 2
  [1, 7, 8, 9] [Value.int IntKind.i64 n1, Value.slice p2 m3 m4, Value.int IntKind.i64 n5, Value.int IntKind.i64 (IntKind.wrap IntKind.i64 (n6 + 1))] h93 Q))))) (oB (AW.rd h34
  (AW.next h) 0) fun v95 => vInt IntKind.i64 v95 fun n96 => EvQ P f_action_opens [Value.int IntKind.i64 n96] h34 fun v97 h98 => vBool v97 fun b99 => bC b99 (bC (n1 == 8) (Q (Value.bool
  false) h98) (oB (AW.rd h98 (AW.next h) 0) fun v100 => vInt IntKind.i64 v100 fun n101 => EvQ P f_action_opens [Value.int IntKind.i64 n101] h98 fun v102 h103 => vBool v102 fun b104 => bC
  (!b104) (oB (AW.rd h103 (AW.next h) 3) fun v105 => vSl v105 fun p106 m107 m108 => bC (decide ((↑m107 : Int) > 0)) (Q (Value.bool false) h103) (oB (AW.rd h103 (AW.next h) 3) fun
  v109 => vSl v109 fun p110 m111 m112 => EvQ P f_action_right [Value.slice p110 m111 m112, Value.int IntKind.i64 (IntKind.wrap IntKind.i64 (n1 + 1))] h103 fun v113 h114 => vBool v113 fun
  b115 => bC (!b115) (Q (Value.bool false) h114) (unitAt P f_action_right 2 [1, 7, 8, 9] [Value.int IntKind.i64 n1, Value.slice p2 m3 m4, Value.int IntKind.i64 n5, Value.int IntKind.i64
  (IntKind.wrap IntKind.i64 (n6 + 1))] h114 Q))) (oB (AW.rd h103 (AW.next h) 3) fun v116 => vSl v116 fun p117 m118 m119 => EvQ P f_action_right [Value.slice p117 m118 m119, Value.int
  IntKind.i64 (IntKind.wrap IntKind.i64 (n1 + 1))] h103 fun v120 h121 => vBool v120 fun b122 => bC (!b122) (Q (Value.bool false) h121) (unitAt P f_action_right 2 [1, 7, 8, 9] [Value.int
  IntKind.i64 n1, Value.slice p2 m3 m4, Value.int IntKind.i64 n5, Value.int IntKind.i64 (IntKind.wrap IntKind.i64 (n6 + 1))] h121 Q)))) (oB (AW.rd h98 (AW.next h) 0) fun v123 =>
  vInt IntKind.i64 v123 fun n124 => EvQ P f_action_opens [Value.int IntKind.i64 n124] h98 fun v125 h126 => vBool v125 fun b127 => bC (!b127) (oB (AW.rd h126 (AW.next h) 3) fun v128 => vSl
  v128 fun p129 m130 m131 => bC (decide ((↑m130 : Int) > 0)) (Q (Value.bool false) h126) (oB (AW.rd h126 (AW.next h) 3) fun v132 => vSl v132 fun p133 m134 m135 => EvQ P f_action_right
  [Value.slice p133 m134 m135, Value.int IntKind.i64 (IntKind.wrap IntKind.i64 (n1 + 1))] h126 fun v136 h137 => vBool v136 fun b138 => bC (!b138) (Q (Value.bool false) h137)
  (unitAt P f_action_right 2 [1, 7, 8, 9] [Value.int IntKind.i64 n1, Value.slice p2 m3 m4, Value.int IntKind.i64 n5, Value.int IntKind.i64 (IntKind.wrap IntKind.i64 (n6 + 1))] h137 Q))) (oB
  (AW.rd h126 (AW.next h) 3) fun v139 => vSl v139 fun p140 m141 m142 => EvQ P f_action_right [Value.slice p140 m141 m142, Value.int IntKind.i64 (IntKind.wrap IntKind.i64 (n1 + 1))] h126 fun
  v143 h144 => vBool v143 fun b145 => bC (!b145) (Q (Value.bool false) h144) (unitAt P f_action_right 2 [1, 7, 8, 9] [Value.int IntKind.i64 n1, Value.slice p2 m3 m4, Value.int IntKind.i64
  n5, Value.int IntKind.i64 (IntKind.wrap IntKind.i64 (n6 + 1))] h144 Q)))))))))) (Q (Value.bool true) h)) : unitAt P f_action_right 2 [1, 7, 8, 9] [Value.int IntKind.i64 n1, Value.slice p2
  m3 m4, Value.int IntKind.i64 n5, Value.int IntKind.i64 n6] h Q := unit_ok (n := 400) (ann := annOf [(2, [1, 7, 8, 9])]) (Eq.mp (by kernel_rfl) H)
theorem r_action_lines {p1 : Option Addr} {m2 : Nat} {m3 : Nat} {h : AW} {Q : Value → AW → Prop} (H : unitAt P f_action_lines 3 [3, 7, 8, 9] [Value.slice none 0 0, Value.slice p1 m2 m3, Value.int
  IntKind.i64 (↑m2 : Int), Value.int IntKind.i64 0] h Q) : EvQ P f_action_lines [Value.slice p1 m2 m3] h Q := fn_ok (n := 400) (ann := annOf [(3, [3, 7, 8, 9]), (8, [3, 5, 6, 7, 8, 9])])
  (Eq.mp (by kernel_rfl) H)
theorem r_action_lines_3 {p1 : Option Addr} {m2 : Nat} {m3 : Nat} {p4 : Option Addr} {m5 : Nat} {m6 : Nat} {n7 : Int} {n8 : Int} {h : AW} {Q : Value → AW → Prop} (H : bC (decide (n8 < n7))
  (aP p4 fun m9 m10 => oB (natIdx n8 m5) fun m11 => oB (AW.rd h m9 (m10 + m11 * 4)) fun v12 => vInt IntKind.i64 v12 fun n13 => oB (AW.rd h m9 (m10 + m11 * 4 + 1)) fun v14 => vSl
  v14 fun p15 m16 m17 => oB (AW.rd h m9 (m10 + m11 * 4 + 1 + 1)) fun v18 => vInt IntKind.i64 v18 fun n19 => oB (AW.rd h m9 (m10 + m11 * 4 + 1 + 1 + 1)) fun v20 => vSl v20 fun p21
  m22 m23 => oB (AW.wrL (AW.addVar h [Value.int IntKind.i64 0, Value.slice none 0 0, Value.int IntKind.i64 0, Value.slice none 0 0]) (AW.next h) 0 [Value.int IntKind.i64 n13,
  Value.slice p15 m16 m17, Value.int IntKind.i64 n19, Value.slice p21 m22 m23]) fun h24 => oB (AW.rd h24 (AW.next h) 0) fun v25 => vInt IntKind.i64 v25 fun n26 => EvQ P f_action_word
  [Value.int IntKind.i64 n26] h24 fun v27 h28 => vStr v27 fun s29 => oB (AW.rd (AW.addVar h28 [Value.string s29]) (AW.next h) 1) fun v30 => vSl v30 fun p31 m32 m33 => oP (appendB P
  (AW.addVar h28 [Value.string s29]) (Array.mk [ty_sl_string, ty_sl_string]) [Value.slice (some (Addr.mk (AW.next h28) 0 none)) 1 1, Value.slice p31 m32 m33]) fun v34 h35 => vSl v34 fun p36 m37
  m38 => oB (AW.rd h24 (AW.next h) 1) fun v39 => vSl v39 fun p40 m41 m42 => Value.slice p40 m41 m42 = Value.slice p31 m32 m33 ∧ oB (AW.rd h28 (AW.next h) 1) fun v43 => vSl v43 fun
  p44 m45 m46 => Value.slice p44 m45 m46 = Value.slice p31 m32 m33 ∧ oB (AW.rd h35 (AW.next h) 0) fun v47 => vInt IntKind.i64 v47 fun n48 => bC (n48 == 10) (oB (AW.rd h35 (AW.next
  h) 2) fun v49 => vInt IntKind.i64 v49 fun n50 => EvQ P f_strconv_Itoa [Value.int IntKind.i64 n50] h35 fun v51 h52 => vStr v51 fun s53 => oP (appendB P (AW.addVar h52 [Value.string s53])
  (Array.mk [ty_sl_string, ty_sl_string]) [Value.slice p36 m37 m38, Value.slice (some (Addr.mk (AW.next h52) 0 none)) 1 1]) fun v54 h55 => vSl v54 fun p56 m57 m58 => unitAt P f_action_lines 8 [3, 5, 6, 7,
  8, 9] [Value.slice p1 m2 m3, Value.pointer (some (Addr.mk (AW.next h) 0 none)), Value.slice p56 m57 m58, Value.slice p4 m5 m6, Value.int IntKind.i64 n7, Value.int IntKind.i64 n8]
  h55 Q) (unitAt P f_action_lines 8 [3, 5, 6, 7, 8, 9] [Value.slice p1 m2 m3, Value.pointer (some (Addr.mk (AW.next h) 0 none)), Value.slice p36 m37 m38, Value.slice p4 m5 m6, Value.int
  IntKind.i64 n7, Value.int IntKind.i64 n8] h35 Q)) (Q (Value.slice p1 m2 m3) h)) : unitAt P f_action_lines 3 [3, 7, 8, 9] [Value.slice p1 m2 m3, Value.slice p4 m5 m6, Value.int IntKind.i64
  n7, Value.int IntKind.i64 n8] h Q := unit_ok (n := 400) (ann := annOf [(3, [3, 7, 8, 9]), (8, [3, 5, 6, 7, 8, 9])]) (Eq.mp (by kernel_rfl) H)
theorem r_action_lines_8 {p1 : Option Addr} {m2 : Nat} {m3 : Nat} {m4 : Nat} {p5 : Option Addr} {m6 : Nat} {m7 : Nat} {p8 : Option Addr} {m9 : Nat} {m10 : Nat} {n11 : Int} {n12 : Int} {h :
  AW} {Q : Value → AW → Prop} (H : oP (appendB P (AW.addVar h [Value.slice p5 m6 m7]) (Array.mk [ty_sl_sl_string, ty_sl_sl_string]) [Value.slice p1 m2 m3, Value.slice (some (Addr.mk (AW.next h) 0
  none)) 1 1]) fun v13 h14 => vSl v13 fun p15 m16 m17 => oB (AW.rd h14 m4 0) fun v18 => vInt IntKind.i64 v18 fun n19 => EvQ P f_action_opens [Value.int IntKind.i64 n19] h14 fun v20 h21 =>
  vBool v20 fun b22 => bC b22 (oB (AW.rd h21 m4 3) fun v23 => vSl v23 fun p24 m25 m26 => EvQ P f_action_lines [Value.slice p24 m25 m26] h21 fun v27 h28 => vSl v27 fun p29 m30 m31 => oP
  (appendB P h28 (Array.mk [ty_sl_sl_string, ty_sl_sl_string]) [Value.slice p15 m16 m17, Value.slice p29 m30 m31]) fun v32 h33 => vSl v32 fun p34 m35 m36 => oP (appendB P (AW.addVar (AW.addVar h33
  [Value.string (ByteArray.mk #[101, 110, 100])]) [Value.slice (some (Addr.mk (AW.next h33) 0 none)) 1 1]) (Array.mk [ty_sl_sl_string, ty_sl_sl_string]) [Value.slice p34 m35 m36, Value.slice (some
  (Addr.mk (AW.next (AW.addVar h33 [Value.string (ByteArray.mk #[101, 110, 100])])) 0 none)) 1 1]) fun v37 h38 => vSl v37 fun p39 m40 m41 => unitAt P f_action_lines 3 [3, 7, 8, 9]
  [Value.slice p39 m40 m41, Value.slice p8 m9 m10, Value.int IntKind.i64 n11, Value.int IntKind.i64 (IntKind.wrap IntKind.i64 (n12 + 1))] h38 Q) (unitAt P f_action_lines 3 [3, 7, 8, 9]
  [Value.slice p15 m16 m17, Value.slice p8 m9 m10, Value.int IntKind.i64 n11, Value.int IntKind.i64 (IntKind.wrap IntKind.i64 (n12 + 1))] h21 Q)) : unitAt P f_action_lines 8 [3, 5, 6, 7, 8,
  9] [Value.slice p1 m2 m3, Value.pointer (some (Addr.mk m4 0 none)), Value.slice p5 m6 m7, Value.slice p8 m9 m10, Value.int IntKind.i64 n11, Value.int IntKind.i64 n12] h Q :=
  unit_ok (n := 400) (ann := annOf [(3, [3, 7, 8, 9]), (8, [3, 5, 6, 7, 8, 9])]) (Eq.mp (by kernel_rfl) H)
theorem r_action_word {n1 : Int} {h : AW} {Q : Value → AW → Prop} (H : oB (AW.wrL (AW.addVar h [Value.string (ByteArray.mk #[]), Value.string (ByteArray.mk #[]), Value.string
  (ByteArray.mk #[]), Value.string (ByteArray.mk #[]), Value.string (ByteArray.mk #[]), Value.string (ByteArray.mk #[]), Value.string (ByteArray.mk #[]), Value.string (ByteArray.mk
  #[]), Value.string (ByteArray.mk #[]), Value.string (ByteArray.mk #[]), Value.string (ByteArray.mk #[]), Value.string (ByteArray.mk #[]), Value.string (ByteArray.mk #[])])
  (AW.next h) 0 [Value.string (ByteArray.mk #[]), Value.string (ByteArray.mk #[110, 101, 101, 100]), Value.string (ByteArray.mk #[99, 97, 116]), Value.string (ByteArray.mk #[116,
  101, 120, 116]), Value.string (ByteArray.mk #[117, 112, 112, 101, 114]), Value.string (ByteArray.mk #[115, 111, 114, 116]), Value.string (ByteArray.mk #[117, 110, 105, 113]),
  Value.string (ByteArray.mk #[99, 111, 117, 110, 116]), Value.string (ByteArray.mk #[119, 114, 105, 116, 101]), Value.string (ByteArray.mk #[102, 97, 105, 108]), Value.string
  (ByteArray.mk #[114, 101, 112, 101, 97, 116]), Value.string (ByteArray.mk #[101, 97, 99, 104]), Value.string (ByteArray.mk #[119, 104, 101, 110])]) fun h2 => bC (decide (n1 < 0))
  (Q (Value.string (ByteArray.mk #[])) h2) (bC (decide (n1 ≥ 13)) (Q (Value.string (ByteArray.mk #[])) h2) (oB (natIdx n1 13) fun m3 => oB (AW.rd h2 (AW.next h) (0 + m3 * 1)) fun
  v4 => vStr v4 fun s5 => Q (Value.string s5) h2))) : EvQ P f_action_word [Value.int IntKind.i64 n1] h Q := fn_ok (n := 400) (ann := annOf []) (Eq.mp (by kernel_rfl) H)
theorem r_action_number {s1 : ByteArray} {h : AW} {Q : Value → AW → Prop} (H : EvQ P f_strconv_Atoi [Value.string s1] h fun v2 h3 => vTup v2 fun l4 => lC l4 fun v5 l6 => vInt IntKind.i64 v5 fun n7 =>
  lC l6 fun v8 l9 => vIfc v8 (lN l9 (bC (decide (n7 < 0)) (Q (Value.int IntKind.i64 (Int.negSucc 0)) h3) (bC (decide (n7 > 1000)) (Q (Value.int IntKind.i64 (Int.negSucc 0)) h3)
  (EvQ P f_strconv_Itoa [Value.int IntKind.i64 n7] h3 fun v10 h11 => vStr v10 fun s12 => bC (!bEq s12 s1) (Q (Value.int IntKind.i64 (Int.negSucc 0)) h11) (Q (Value.int IntKind.i64 n7)
  h11))))) fun m13 v14 => lN l9 (Q (Value.int IntKind.i64 (Int.negSucc 0)) h3)) : EvQ P f_action_number [Value.string s1] h Q := fn_ok (n := 400) (ann := annOf []) (Eq.mp (by kernel_rfl) H)
theorem r_action_fits {n1 : Int} {n2 : Int} {h : AW} {Q : Value → AW → Prop} (H : bC (n1 == 1) (Q (Value.bool (n2 == 1)) h) (bC (n1 == 2) (Q (Value.bool (n2 == 1)) h) (bC (n1 == 8) (Q
  (Value.bool (n2 == 1)) h) (bC (n1 == 11) (Q (Value.bool (n2 == 1)) h) (unitAt P f_action_fits 7 [1, 5] [Value.int IntKind.i64 n2, Value.int IntKind.i64 n1] h Q))))) : EvQ P f_action_fits
  [Value.int IntKind.i64 n1, Value.int IntKind.i64 n2] h Q := fn_ok (n := 400) (ann := annOf [(7, [1, 5]), (10, [1, 5])]) (Eq.mp (by kernel_rfl) H)
theorem r_action_fits_7 {n1 : Int} {n2 : Int} {h : AW} {Q : Value → AW → Prop} (H : bC (n2 == 3) (Q (Value.bool true) h) (bC (n2 == 9) (Q (Value.bool true) h) (unitAt P f_action_fits 10 [1, 5]
  [Value.int IntKind.i64 n1, Value.int IntKind.i64 n2] h Q))) : unitAt P f_action_fits 7 [1, 5] [Value.int IntKind.i64 n1, Value.int IntKind.i64 n2] h Q := unit_ok (n := 400) (ann := annOf
  [(7, [1, 5]), (10, [1, 5])]) (Eq.mp (by kernel_rfl) H)
theorem r_action_fits_10 {n1 : Int} {n2 : Int} {h : AW} {Q : Value → AW → Prop} (H : bC (n2 == 12) (Q (Value.bool (n1 == 2)) h) (Q (Value.bool (n1 == 0)) h)) : unitAt P f_action_fits 10 [1, 5]
  [Value.int IntKind.i64 n1, Value.int IntKind.i64 n2] h Q := unit_ok (n := 400) (ann := annOf [(7, [1, 5]), (10, [1, 5])]) (Eq.mp (by kernel_rfl) H)
end Go.Proofs.YtgdkekdedgkglaaDoor
end

section
/- Rules of walks, printed by a program of ours: group ARef. -/
namespace Go.Proofs.YtgdkekdedgkglaaDoor
open Go.Abs
set_option maxRecDepth 100000
theorem r_brickyardref13_Alike {p1 : Option Addr} {m2 : Nat} {m3 : Nat} {p4 : Option Addr} {m5 : Nat} {m6 : Nat} {h : AW} {Q : Value → AW → Prop} (H : bC ((↑m2 : Int) != (↑m5 : Int)) (Q
  (Value.bool false) h) (unitAt P f_brickyardref13_Alike 4 [0, 1, 5] [Value.slice p1 m2 m3, Value.slice p4 m5 m6, Value.int IntKind.i64 0] h Q)) : EvQ P f_brickyardref13_Alike [Value.slice p1 m2 m3, Value.slice p4 m5
  m6] h Q := fn_ok (n := 400) (ann := annOf [(4, [0, 1, 5]), (9, [0, 1, 5, 6])]) (Eq.mp (by kernel_rfl) H)
theorem r_brickyardref13_Alike_4 {p1 : Option Addr} {m2 : Nat} {m3 : Nat} {p4 : Option Addr} {m5 : Nat} {m6 : Nat} {n7 : Int} {h : AW} {Q : Value → AW → Prop} (H : bC (decide (n7 < (↑m2 : Int)))
  (aP p1 fun m8 m9 => oB (natIdx n7 m2) fun m10 => oB (AW.rd h m8 (m9 + m10 * 1)) fun v11 => vSl v11 fun p12 m13 m14 => aP p4 fun m15 m16 => oB (natIdx n7 m5) fun m17 => oB (AW.rd
  h m15 (m16 + m17 * 1)) fun v18 => vSl v18 fun p19 m20 m21 => bC ((↑m13 : Int) != (↑m20 : Int)) (Q (Value.bool false) h) (unitAt P f_brickyardref13_Alike 9 [0, 1, 5, 6] [Value.slice p1 m2 m3,
  Value.slice p4 m5 m6, Value.int IntKind.i64 n7, Value.int IntKind.i64 0] h Q)) (Q (Value.bool true) h)) : unitAt P f_brickyardref13_Alike 4 [0, 1, 5] [Value.slice p1 m2 m3, Value.slice p4 m5 m6,
  Value.int IntKind.i64 n7] h Q := unit_ok (n := 400) (ann := annOf [(4, [0, 1, 5]), (9, [0, 1, 5, 6])]) (Eq.mp (by kernel_rfl) H)
theorem r_brickyardref13_Alike_9 {p1 : Option Addr} {m2 : Nat} {m3 : Nat} {p4 : Option Addr} {m5 : Nat} {m6 : Nat} {n7 : Int} {n8 : Int} {h : AW} {Q : Value → AW → Prop} (H : aP p1 fun m9 m10 =>
  oB (natIdx n7 m2) fun m11 => oB (AW.rd h m9 (m10 + m11 * 1)) fun v12 => vSl v12 fun p13 m14 m15 => bC (decide (n8 < (↑m14 : Int))) (aP p1 fun m16 m17 => oB (natIdx n7 m2) fun m18
  => oB (AW.rd h m16 (m17 + m18 * 1)) fun v19 => vSl v19 fun p20 m21 m22 => aP p20 fun m23 m24 => oB (natIdx n8 m21) fun m25 => oB (AW.rd h m23 (m24 + m25 * 1)) fun v26 => vStr v26
  fun s27 => aP p4 fun m28 m29 => oB (natIdx n7 m5) fun m30 => oB (AW.rd h m28 (m29 + m30 * 1)) fun v31 => vSl v31 fun p32 m33 m34 => aP p32 fun m35 m36 => oB (natIdx n8 m33) fun
  m37 => oB (AW.rd h m35 (m36 + m37 * 1)) fun v38 => vStr v38 fun s39 => bC (!bEq s27 s39) (Q (Value.bool false) h) (unitAt P f_brickyardref13_Alike 9 [0, 1, 5, 6] [Value.slice p1 m2 m3, Value.slice
  p4 m5 m6, Value.int IntKind.i64 n7, Value.int IntKind.i64 (IntKind.wrap IntKind.i64 (n8 + 1))] h Q)) (unitAt P f_brickyardref13_Alike 4 [0, 1, 5] [Value.slice p1 m2 m3, Value.slice p4 m5 m6,
  Value.int IntKind.i64 (IntKind.wrap IntKind.i64 (n7 + 1))] h Q)) : unitAt P f_brickyardref13_Alike 9 [0, 1, 5, 6] [Value.slice p1 m2 m3, Value.slice p4 m5 m6, Value.int IntKind.i64 n7, Value.int
  IntKind.i64 n8] h Q := unit_ok (n := 400) (ann := annOf [(4, [0, 1, 5]), (9, [0, 1, 5, 6])]) (Eq.mp (by kernel_rfl) H)
end Go.Proofs.YtgdkekdedgkglaaDoor
end

section
/- Layer 13: kinds, numbers and words. -/
namespace Go.Proofs.YtgdkekdedgkglaaDoor
open Go.Abs Go.Abs.Fo
set_option maxRecDepth 100000
attribute [local irreducible] unitAt EvQ
variable {h : AW} {μ : Paint} {ρ : Store} {Q : Value → AW → Prop}

theorem opens_ok {n : Int} (hq : Q (.bool (opensM n)) h) : EvQ P f_action_opens [.int .i64 n] h Q := by
  refine r_action_opens ?_
  unfold opensM at hq
  refine bC_iff (fun e => ?_) (fun e => ?_)
  · have : decide (10 ≤ n) = true := e
    rw [this] at hq; exact hq
  · have : decide (10 ≤ n) = false := e
    rw [this] at hq; exact hq
theorem eqI {a b : Int} (e : (a == b) = true) : a = b := by simpa using e
theorem neI {a b : Int} (e : (a == b) = false) : a ≠ b := by simpa using e
theorem nb {b : Bool} (e : (!b) = true) : b = false := by cases b <;> simp_all
theorem nb' {b : Bool} (e : (!b) = false) : b = true := by cases b <;> simp_all
theorem fits_ok {n : Int} {k : Nat} (hq : Q (.bool (fitsM n k)) h) : EvQ P f_action_fits [.int .i64 n, .int .i64 (k : Int)] h Q := by
  have one : ∀ m : Nat, argsM n = (m : Int) → ((k : Int) == (m : Int)) = fitsM n k := by
    intro m e
    unfold fitsM
    rw [e]
    rw [Bool.eq_iff_iff]
    simp
    omega
  have o1 : ∀ e : argsM n = 1, Q (.bool ((k : Int) == 1)) h := fun e => by
    have := one 1 e
    rw [← this] at hq; exact hq
  refine r_action_fits ?_
  refine bC_iff (fun e => ?_) (fun e1 => ?_)
  · have e := eqI e; subst e; exact o1 rfl
  refine bC_iff (fun e => ?_) (fun e2 => ?_)
  · have e := eqI e; subst e; exact o1 rfl
  refine bC_iff (fun e => ?_) (fun e3 => ?_)
  · have e := eqI e; subst e; exact o1 rfl
  refine bC_iff (fun e => ?_) (fun e4 => ?_)
  · have e := eqI e; subst e; exact o1 rfl
  refine r_action_fits_7 ?_
  refine bC_iff (fun e => ?_) (fun e5 => ?_)
  · have e := eqI e; subst e; exact hq
  refine bC_iff (fun e => ?_) (fun e6 => ?_)
  · have e := eqI e; subst e; exact hq
  refine r_action_fits_10 ?_
  refine bC_iff (fun e => ?_) (fun e7 => ?_)
  · have e := eqI e; subst e
    have := one 2 rfl
    rw [← this] at hq; exact hq
  · have h1 := neI e1
    have h2 := neI e2
    have h3 := neI e3
    have h4 := neI e4
    have h5 := neI e5
    have h6 := neI e6
    have h7 := neI e7
    have := one 0 (by rw [argsM, if_neg (by omega), if_neg (by omega), if_neg (by omega)]; rfl)
    rw [← this] at hq; exact hq
theorem wrap8 {n : Nat} (hn : n < 256) : IntKind.wrap .u8 (n : Int) = (n : Int) := by
  unfold IntKind.wrap
  simp [IntKind.signed, IntKind.bits]
  omega
theorem digits_len : ∀ (k n : Nat), (digits k n).length ≤ k + 1
  | 0, n => by simp [digits]
  | k + 1, n => by
    rw [digits]; split
    · have := digits_len k (n / 10); simp; omega
    · simp
end Go.Proofs.YtgdkekdedgkglaaDoor
end
