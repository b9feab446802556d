/- A deterministic heap for the model, proved sound, and walks of the program over it: part 8. No condition. -/
import Derived.Test.YtgdkekdedgkglaaDoorAb1
import Derived.Test.YtgdkekdedgkglaaDoorAb2
import Derived.Test.YtgdkekdedgkglaaDoorAb3
import Derived.Test.YtgdkekdedgkglaaDoorAb4
import Derived.Test.YtgdkekdedgkglaaDoorAb6
import Derived.Test.YtgdkekdedgkglaaDoorCd1
import Derived.Test.YtgdkekdedgkglaaDoorAb5
set_option linter.unusedVariables false
set_option linter.unusedSimpArgs false
set_option linter.unusedSectionVars false
section
/- Rules of walks, printed by a program of ours: group AStr. -/
namespace Go.Proofs.YtgdkekdedgkglaaDoor
open Go.Abs
set_option maxRecDepth 100000
attribute [local irreducible] kFn kUnit EvQ unitAt
theorem r_strconv_Atoi {s1 : ByteArray} {h : AW} {Q : Value → AW → Prop} (H : EvQ P f_strconv_Atoi_78 [Value.string s1] h fun v2 h3 => vTup v2 fun l4 => lC l4 fun v5 l6 => vInt IntKind.i64 v5 fun n7 =>
  lC l6 fun v8 l9 => vIfc v8 (lN l9 (Q (Value.tuple (Array.mk [Value.int IntKind.i64 n7, Value.nilIface])) h3)) fun m10 v11 => lN l9 (EvQ P f_strconv_toError [Value.string (ByteArray.mk #[65,
  116, 111, 105]), Value.string s1, Value.int IntKind.i64 0, Value.int IntKind.i64 0, Value.iface m10 v11] h3 fun v12 h13 => vIfc v12 (Q (Value.tuple (Array.mk [Value.int
  IntKind.i64 n7, Value.nilIface])) h13) fun m14 v15 => Q (Value.tuple (Array.mk [Value.int IntKind.i64 n7, Value.iface m14 v15])) h13)) : EvQ P f_strconv_Atoi [Value.string s1] h Q := fn_ok
  (n := 400) (ann := annOf []) (Eq.mp (by kernel_rfl) H)
theorem r_strconv_Itoa {n1 : Int} {h : AW} {Q : Value → AW → Prop} (H : EvQ P f_strconv_Itoa_85 [Value.int IntKind.i64 n1] h fun v2 h3 => vStr v2 fun s4 => Q (Value.string s4) h3) : EvQ P f_strconv_Itoa
  [Value.int IntKind.i64 n1] h Q := fn_ok (n := 400) (ann := annOf []) (Eq.mp (by kernel_rfl) H)
theorem r_p_strings_Builder_WriteByte {p1 : Option Addr} {n2 : Int} {h : AW} {Q : Value → AW → Prop} (H : EvQ P f_p_strings_Builder_copyCheck [Value.pointer p1] h fun v3 h4 => aP p1 fun m5 m6 => oB (AW.rd h4 m5 (m6 + 1)) fun v7
  => vSl v7 fun p8 m9 m10 => oP (appendB P (AW.addVar h4 [Value.int IntKind.u8 n2]) (Array.mk [ty_sl_uint8, ty_sl_uint8]) [Value.slice p8 m9 m10, Value.slice (some (Addr.mk (AW.next h4) 0
  none)) 1 1]) fun v11 h12 => vSl v11 fun p13 m14 m15 => aP p1 fun m16 m17 => oB (AW.wr h12 m16 (m17 + 1) (Value.slice p13 m14 m15)) fun h18 => Q Value.nilIface h18) : EvQ P f_p_strings_Builder_WriteByte
  [Value.pointer p1, Value.int IntKind.u8 n2] h Q := fn_ok (n := 400) (ann := annOf []) (Eq.mp (by kernel_rfl) H)
theorem r_p_strings_Builder_WriteString {p1 : Option Addr} {s2 : ByteArray} {h : AW} {Q : Value → AW → Prop} (H : EvQ P f_p_strings_Builder_copyCheck [Value.pointer p1] h fun v3 h4 => aP p1 fun m5 m6 => oB (AW.rd h4 m5 (m6 + 1))
  fun v7 => vSl v7 fun p8 m9 m10 => oP (appendB P h4 (Array.mk [ty_sl_uint8, ty_string]) [Value.slice p8 m9 m10, Value.string s2]) fun v11 h12 => vSl v11 fun p13 m14 m15 => aP p1 fun m16 m17
  => oB (AW.wr h12 m16 (m17 + 1) (Value.slice p13 m14 m15)) fun h18 => Q (Value.tuple (Array.mk [Value.int IntKind.i64 (↑(ByteArray.size s2) : Int), Value.nilIface])) h18) : EvQ P
  f_p_strings_Builder_WriteString [Value.pointer p1, Value.string s2] h Q := fn_ok (n := 400) (ann := annOf []) (Eq.mp (by kernel_rfl) H)
theorem r_strconv_Atoi_78 {s1 : ByteArray} {h : AW} {Q : Value → AW → Prop} (H : bC (decide (0 < (↑(ByteArray.size s1) : Int))) (bC (decide ((↑(ByteArray.size s1) : Int) < 19)) (oB (natIdx 0
  (ByteArray.size s1)) fun m2 => oB (bAt s1 m2) fun n3 => bC (n3 == 45) (oB (natBnd 1 (ByteArray.size s1)) fun m4 => bC (decide ((↑(ByteArray.size (bSub s1 m4 (ByteArray.size s1)))
  : Int) < 1)) (Q (Value.tuple (Array.mk [Value.int IntKind.i64 0, Value.iface ty_strconv_Error (Value.int IntKind.i64 2)])) h) (unitAt P f_strconv_Atoi_78 8 [0, 5] [Value.string (bSub s1 m4
  (ByteArray.size s1)), Value.string s1] h Q)) (oB (natIdx 0 (ByteArray.size s1)) fun m5 => oB (bAt s1 m5) fun n6 => bC (n6 == 43) (oB (natBnd 1 (ByteArray.size s1)) fun m7 => bC
  (decide ((↑(ByteArray.size (bSub s1 m7 (ByteArray.size s1))) : Int) < 1)) (Q (Value.tuple (Array.mk [Value.int IntKind.i64 0, Value.iface ty_strconv_Error (Value.int IntKind.i64 2)])) h)
  (unitAt P f_strconv_Atoi_78 8 [0, 5] [Value.string (bSub s1 m7 (ByteArray.size s1)), Value.string s1] h Q)) (unitAt P f_strconv_Atoi_78 8 [0, 5] [Value.string s1, Value.string s1] h Q))) (EvQ P f_strconv_ParseInt
  [Value.string s1, Value.int IntKind.i64 10, Value.int IntKind.i64 0] h fun v8 h9 => vTup v8 fun l10 => lC l10 fun v11 l12 => vInt IntKind.i64 v11 fun n13 => lC l12 fun v14 l15 =>
  vIfc v14 (lN l15 (Q (Value.tuple (Array.mk [Value.int IntKind.i64 n13, Value.nilIface])) h9)) fun m16 v17 => lN l15 (Q (Value.tuple (Array.mk [Value.int IntKind.i64 n13,
  Value.iface m16 v17])) h9))) (EvQ P f_strconv_ParseInt [Value.string s1, Value.int IntKind.i64 10, Value.int IntKind.i64 0] h fun v18 h19 => vTup v18 fun l20 => lC l20 fun v21 l22 => vInt
  IntKind.i64 v21 fun n23 => lC l22 fun v24 l25 => vIfc v24 (lN l25 (Q (Value.tuple (Array.mk [Value.int IntKind.i64 n23, Value.nilIface])) h19)) fun m26 v27 => lN l25 (Q
  (Value.tuple (Array.mk [Value.int IntKind.i64 n23, Value.iface m26 v27])) h19))) : EvQ P f_strconv_Atoi_78 [Value.string s1] h Q := fn_ok (n := 400) (ann := annOf [(8, [0, 5]), (10, [5, 6,
  47, 48, 49])]) (Eq.mp (by kernel_rfl) H)
theorem r_strconv_Atoi_78_8 {s1 : ByteArray} {s2 : ByteArray} {h : AW} {Q : Value → AW → Prop} (H : oP (convA P h ty_string ty_sl_uint8 (Value.string s1)) fun v3 h4 => vSl v3 fun p5 m6 m7 => unitAt P
  f_strconv_Atoi_78 10 [5, 6, 47, 48, 49] [Value.string s2, Value.int IntKind.i64 0, Value.slice p5 m6 m7, Value.int IntKind.i64 (↑m6 : Int), Value.int IntKind.i64 0] h4 Q) : unitAt P f_strconv_Atoi_78 8
  [0, 5] [Value.string s1, Value.string s2] h Q := unit_ok (n := 400) (ann := annOf [(8, [0, 5]), (10, [5, 6, 47, 48, 49])]) (Eq.mp (by kernel_rfl) H)
theorem r_strconv_Atoi_78_10 {s1 : ByteArray} {n2 : Int} {p3 : Option Addr} {m4 : Nat} {m5 : Nat} {n6 : Int} {n7 : Int} {h : AW} {Q : Value → AW → Prop} (H : bC (decide (n7 < n6)) (aP p3 fun
  m8 m9 => oB (natIdx n7 m4) fun m10 => oB (AW.rd h m8 (m9 + m10 * 1)) fun v11 => vInt IntKind.u8 v11 fun n12 => bC (decide (IntKind.wrap IntKind.u8 (n12 - 48) > 9)) (Q
  (Value.tuple (Array.mk [Value.int IntKind.i64 0, Value.iface ty_strconv_Error (Value.int IntKind.i64 2)])) h) (unitAt P f_strconv_Atoi_78 10 [5, 6, 47, 48, 49] [Value.string s1, Value.int IntKind.i64
  (IntKind.wrap IntKind.i64 (IntKind.wrap IntKind.i64 (n2 * 10) + IntKind.wrap IntKind.i64 (IntKind.wrap IntKind.u8 (n12 - 48)))), Value.slice p3 m4 m5, Value.int IntKind.i64 n6,
  Value.int IntKind.i64 (IntKind.wrap IntKind.i64 (n7 + 1))] h Q)) (oB (natIdx 0 (ByteArray.size s1)) fun m13 => oB (bAt s1 m13) fun n14 => bC (n14 == 45) (Q (Value.tuple (Array.mk
  [Value.int IntKind.i64 (IntKind.wrap IntKind.i64 (0 - n2)), Value.nilIface])) h) (Q (Value.tuple (Array.mk [Value.int IntKind.i64 n2, Value.nilIface])) h))) : unitAt P f_strconv_Atoi_78 10
  [5, 6, 47, 48, 49] [Value.string s1, Value.int IntKind.i64 n2, Value.slice p3 m4 m5, Value.int IntKind.i64 n6, Value.int IntKind.i64 n7] h Q := unit_ok (n := 400) (ann := annOf
  [(8, [0, 5]), (10, [5, 6, 47, 48, 49])]) (Eq.mp (by kernel_rfl) H)
theorem r_strconv_toError {s1 : ByteArray} {s2 : ByteArray} {n3 : Int} {n4 : Int} {x5 : TypeId} {v6 : Value} {h : AW} {Q : Value → AW → Prop} (H : oB (eqV P ty_error false (Value.iface x5 v6)
  (Value.iface ty_strconv_Error (Value.int IntKind.i64 2))) fun b7 => bC b7 (EvQ P f_strconv_syntaxError [Value.string s1, Value.string s2] h fun v8 h9 => vPtr v8 fun p10 => Q (Value.iface ty_p_strconv_NumError
  (Value.pointer p10)) h9) (oB (eqV P ty_error false (Value.iface x5 v6) (Value.iface ty_strconv_Error (Value.int IntKind.i64 1))) fun b11 => bC b11 (EvQ P f_strconv_rangeError [Value.string s1, Value.string
  s2] h fun v12 h13 => vPtr v12 fun p14 => Q (Value.iface ty_p_strconv_NumError (Value.pointer p14)) h13) (oB (eqV P ty_error false (Value.iface x5 v6) (Value.iface ty_strconv_Error (Value.int IntKind.i64
  3))) fun b15 => bC b15 (EvQ P f_strconv_baseError [Value.string s1, Value.string s2, Value.int IntKind.i64 n3] h fun v16 h17 => vPtr v16 fun p18 => Q (Value.iface ty_p_strconv_NumError (Value.pointer p18))
  h17) (oB (eqV P ty_error false (Value.iface x5 v6) (Value.iface ty_strconv_Error (Value.int IntKind.i64 4))) fun b19 => bC b19 (EvQ P f_strconv_bitSizeError [Value.string s1, Value.string s2, Value.int
  IntKind.i64 n4] h fun v20 h21 => vPtr v20 fun p22 => Q (Value.iface ty_p_strconv_NumError (Value.pointer p22)) h21) (Q (Value.iface x5 v6) h))))) : EvQ P f_strconv_toError [Value.string s1, Value.string s2,
  Value.int IntKind.i64 n3, Value.int IntKind.i64 n4, Value.iface x5 v6] h Q := fn_ok (n := 400) (ann := annOf []) (Eq.mp (by kernel_rfl) H)
theorem r_strconv_Itoa_85 {n1 : Int} {h : AW} {Q : Value → AW → Prop} (H : EvQ P f_strconv_FormatInt [Value.int IntKind.i64 n1, Value.int IntKind.i64 10] h fun v2 h3 => vStr v2 fun s4 => Q (Value.string
  s4) h3) : EvQ P f_strconv_Itoa_85 [Value.int IntKind.i64 n1] h Q := fn_ok (n := 400) (ann := annOf []) (Eq.mp (by kernel_rfl) H)
theorem r_strconv_ParseInt {s1 : ByteArray} {n2 : Int} {n3 : Int} {h : AW} {Q : Value → AW → Prop} (H : bC (bEq s1 (ByteArray.mk #[])) (Q (Value.tuple (Array.mk [Value.int IntKind.i64 0,
  Value.iface ty_strconv_Error (Value.int IntKind.i64 2)])) h) (oB (natIdx 0 (ByteArray.size s1)) fun m4 => oB (bAt s1 m4) fun n5 => bC (n5 == 43) (oB (natBnd 1 (ByteArray.size s1)) fun m6
  => unitAt P f_strconv_ParseInt 10 [0, 1, 2, 8] [Value.string (bSub s1 m6 (ByteArray.size s1)), Value.int IntKind.i64 n2, Value.int IntKind.i64 n3, Value.bool false] h Q) (bC (n5 == 45) (oB
  (natBnd 1 (ByteArray.size s1)) fun m7 => unitAt P f_strconv_ParseInt 10 [0, 1, 2, 8] [Value.string (bSub s1 m7 (ByteArray.size s1)), Value.int IntKind.i64 n2, Value.int IntKind.i64 n3,
  Value.bool true] h Q) (unitAt P f_strconv_ParseInt 10 [0, 1, 2, 8] [Value.string s1, Value.int IntKind.i64 n2, Value.int IntKind.i64 n3, Value.bool false] h Q)))) : EvQ P f_strconv_ParseInt [Value.string
  s1, Value.int IntKind.i64 n2, Value.int IntKind.i64 n3] h Q := fn_ok (n := 400) (ann := annOf [(10, [0, 1, 2, 8]), (16, [2, 8, 9])]) (Eq.mp (by kernel_rfl) H)
theorem r_strconv_ParseInt_10 {s1 : ByteArray} {n2 : Int} {n3 : Int} {b4 : Bool} {h : AW} {Q : Value → AW → Prop} (H : EvQ P f_strconv_ParseUint [Value.string s1, Value.int IntKind.i64 n2, Value.int
  IntKind.i64 n3] h fun v5 h6 => vTup v5 fun l7 => lC l7 fun v8 l9 => vInt IntKind.u64 v8 fun n10 => lC l9 fun v11 l12 => vIfc v11 (lN l12 (bC (n3 == 0) (unitAt P f_strconv_ParseInt 16 [2, 8, 9]
  [Value.int IntKind.i64 64, Value.bool b4, Value.int IntKind.u64 n10] h6 Q) (unitAt P f_strconv_ParseInt 16 [2, 8, 9] [Value.int IntKind.i64 n3, Value.bool b4, Value.int IntKind.u64 n10] h6
  Q))) fun m13 v14 => lN l12 (oB (eqV P ty_error false (Value.iface m13 v14) (Value.iface ty_strconv_Error (Value.int IntKind.i64 1))) fun b15 => bC (!b15) (Q (Value.tuple (Array.mk [Value.int
  IntKind.i64 0, Value.iface m13 v14])) h6) (bC (n3 == 0) (unitAt P f_strconv_ParseInt 16 [2, 8, 9] [Value.int IntKind.i64 64, Value.bool b4, Value.int IntKind.u64 n10] h6 Q) (unitAt P f_strconv_ParseInt 16
  [2, 8, 9] [Value.int IntKind.i64 n3, Value.bool b4, Value.int IntKind.u64 n10] h6 Q)))) : unitAt P f_strconv_ParseInt 10 [0, 1, 2, 8] [Value.string s1, Value.int IntKind.i64 n2, Value.int
  IntKind.i64 n3, Value.bool b4] h Q := unit_ok (n := 400) (ann := annOf [(10, [0, 1, 2, 8]), (16, [2, 8, 9])]) (Eq.mp (by kernel_rfl) H)
theorem r_strconv_ParseInt_16 {n1 : Int} {b2 : Bool} {n3 : Int} {h : AW} {Q : Value → AW → Prop} (H : bC (decide (IntKind.wrap IntKind.u64 (IntKind.wrap IntKind.i64 (n1 - 1)) < 0)) False (bC
  (!b2) (bC (decide (n3 ≥ IntKind.wrap IntKind.u64 (1 * 2 ^ min (Int.toNat (IntKind.wrap IntKind.u64 (IntKind.wrap IntKind.i64 (n1 - 1)))) 64))) (Q (Value.tuple (Array.mk
  [Value.int IntKind.i64 (IntKind.wrap IntKind.i64 (IntKind.wrap IntKind.u64 (IntKind.wrap IntKind.u64 (1 * 2 ^ min (Int.toNat (IntKind.wrap IntKind.u64 (IntKind.wrap IntKind.i64
  (n1 - 1)))) 64) - 1))), Value.iface ty_strconv_Error (Value.int IntKind.i64 1)])) h) (bC b2 (bC (decide (n3 > IntKind.wrap IntKind.u64 (1 * 2 ^ min (Int.toNat (IntKind.wrap IntKind.u64
  (IntKind.wrap IntKind.i64 (n1 - 1)))) 64))) (Q (Value.tuple (Array.mk [Value.int IntKind.i64 (IntKind.wrap IntKind.i64 (0 - IntKind.wrap IntKind.i64 (IntKind.wrap IntKind.u64 (1
  * 2 ^ min (Int.toNat (IntKind.wrap IntKind.u64 (IntKind.wrap IntKind.i64 (n1 - 1)))) 64)))), Value.iface ty_strconv_Error (Value.int IntKind.i64 1)])) h) (bC b2 (Q (Value.tuple (Array.mk
  [Value.int IntKind.i64 (IntKind.wrap IntKind.i64 (0 - IntKind.wrap IntKind.i64 n3)), Value.nilIface])) h) (Q (Value.tuple (Array.mk [Value.int IntKind.i64 (IntKind.wrap
  IntKind.i64 n3), Value.nilIface])) h))) (bC b2 (Q (Value.tuple (Array.mk [Value.int IntKind.i64 (IntKind.wrap IntKind.i64 (0 - IntKind.wrap IntKind.i64 n3)), Value.nilIface])) h)
  (Q (Value.tuple (Array.mk [Value.int IntKind.i64 (IntKind.wrap IntKind.i64 n3), Value.nilIface])) h)))) (bC b2 (bC (decide (n3 > IntKind.wrap IntKind.u64 (1 * 2 ^ min (Int.toNat
  (IntKind.wrap IntKind.u64 (IntKind.wrap IntKind.i64 (n1 - 1)))) 64))) (Q (Value.tuple (Array.mk [Value.int IntKind.i64 (IntKind.wrap IntKind.i64 (0 - IntKind.wrap IntKind.i64
  (IntKind.wrap IntKind.u64 (1 * 2 ^ min (Int.toNat (IntKind.wrap IntKind.u64 (IntKind.wrap IntKind.i64 (n1 - 1)))) 64)))), Value.iface ty_strconv_Error (Value.int IntKind.i64 1)])) h) (bC
  b2 (Q (Value.tuple (Array.mk [Value.int IntKind.i64 (IntKind.wrap IntKind.i64 (0 - IntKind.wrap IntKind.i64 n3)), Value.nilIface])) h) (Q (Value.tuple (Array.mk [Value.int
  IntKind.i64 (IntKind.wrap IntKind.i64 n3), Value.nilIface])) h))) (bC b2 (Q (Value.tuple (Array.mk [Value.int IntKind.i64 (IntKind.wrap IntKind.i64 (0 - IntKind.wrap IntKind.i64
  n3)), Value.nilIface])) h) (Q (Value.tuple (Array.mk [Value.int IntKind.i64 (IntKind.wrap IntKind.i64 n3), Value.nilIface])) h))))) : unitAt P f_strconv_ParseInt 16 [2, 8, 9] [Value.int
  IntKind.i64 n1, Value.bool b2, Value.int IntKind.u64 n3] h Q := unit_ok (n := 400) (ann := annOf [(10, [0, 1, 2, 8]), (16, [2, 8, 9])]) (Eq.mp (by kernel_rfl) H)
theorem r_strconv_syntaxError {s1 : ByteArray} {s2 : ByteArray} {h : AW} {Q : Value → AW → Prop} (H : EvQ P f_stringslite_Clone [Value.string s2] h fun v3 h4 => vStr v3 fun s5 => oB (AW.rd h4 0 0) fun v6 =>
  vIfc v6 (oB (AW.rd h 0 0) fun v7 => vIfc v7 (Value.nilIface = Value.nilIface ∧ Q (Value.pointer (some (Addr.mk (AW.next h4) 0 none))) (AW.addVar h4 [Value.string s1, Value.string
  s5, Value.nilIface])) fun m8 v9 => Value.iface m8 v9 = Value.nilIface ∧ Q (Value.pointer (some (Addr.mk (AW.next h4) 0 none))) (AW.addVar h4 [Value.string s1, Value.string s5,
  Value.nilIface])) fun m10 v11 => ifcB v11 = true ∧ oB (AW.rd h 0 0) fun v12 => vIfc v12 (Value.nilIface = Value.iface m10 v11 ∧ Q (Value.pointer (some (Addr.mk (AW.next h4) 0
  none))) (AW.addVar h4 [Value.string s1, Value.string s5, Value.iface m10 v11])) fun m13 v14 => Value.iface m13 v14 = Value.iface m10 v11 ∧ Q (Value.pointer (some (Addr.mk
  (AW.next h4) 0 none))) (AW.addVar h4 [Value.string s1, Value.string s5, Value.iface m10 v11])) : EvQ P f_strconv_syntaxError [Value.string s1, Value.string s2] h Q := fn_ok (n := 400) (ann :=
  annOf []) (Eq.mp (by kernel_rfl) H)
theorem r_strconv_rangeError {s1 : ByteArray} {s2 : ByteArray} {h : AW} {Q : Value → AW → Prop} (H : EvQ P f_stringslite_Clone [Value.string s2] h fun v3 h4 => vStr v3 fun s5 => oB (AW.rd h4 1 0) fun v6 =>
  vIfc v6 (oB (AW.rd h 1 0) fun v7 => vIfc v7 (Value.nilIface = Value.nilIface ∧ Q (Value.pointer (some (Addr.mk (AW.next h4) 0 none))) (AW.addVar h4 [Value.string s1, Value.string
  s5, Value.nilIface])) fun m8 v9 => Value.iface m8 v9 = Value.nilIface ∧ Q (Value.pointer (some (Addr.mk (AW.next h4) 0 none))) (AW.addVar h4 [Value.string s1, Value.string s5,
  Value.nilIface])) fun m10 v11 => ifcB v11 = true ∧ oB (AW.rd h 1 0) fun v12 => vIfc v12 (Value.nilIface = Value.iface m10 v11 ∧ Q (Value.pointer (some (Addr.mk (AW.next h4) 0
  none))) (AW.addVar h4 [Value.string s1, Value.string s5, Value.iface m10 v11])) fun m13 v14 => Value.iface m13 v14 = Value.iface m10 v11 ∧ Q (Value.pointer (some (Addr.mk
  (AW.next h4) 0 none))) (AW.addVar h4 [Value.string s1, Value.string s5, Value.iface m10 v11])) : EvQ P f_strconv_rangeError [Value.string s1, Value.string s2] h Q := fn_ok (n := 400) (ann :=
  annOf []) (Eq.mp (by kernel_rfl) H)
theorem r_strconv_FormatInt {n1 : Int} {n2 : Int} {h : AW} {Q : Value → AW → Prop} (H : bC (n2 == 10) (bC (decide (0 ≤ n1)) (bC (decide (n1 < 100)) (EvQ P f_strconv_small [Value.int IntKind.i64 n1] h
  fun v3 h4 => vStr v3 fun s5 => Q (Value.string s5) h4) (bC (decide (n1 < 0)) (unitAt P f_strconv_FormatInt 8 [0, 5, 6] [Value.int IntKind.i64 n1, Value.pointer (some (Addr.mk (AW.next h) 0
  none)), Value.int IntKind.u64 (IntKind.wrap IntKind.u64 (0 - IntKind.wrap IntKind.u64 n1))] (AW.addVar h [Value.int IntKind.u8 0, Value.int IntKind.u8 0, Value.int IntKind.u8 0,
  Value.int IntKind.u8 0, Value.int IntKind.u8 0, Value.int IntKind.u8 0, Value.int IntKind.u8 0, Value.int IntKind.u8 0, Value.int IntKind.u8 0, Value.int IntKind.u8 0, Value.int
  IntKind.u8 0, Value.int IntKind.u8 0, Value.int IntKind.u8 0, Value.int IntKind.u8 0, Value.int IntKind.u8 0, Value.int IntKind.u8 0, Value.int IntKind.u8 0, Value.int IntKind.u8
  0, Value.int IntKind.u8 0, Value.int IntKind.u8 0, Value.int IntKind.u8 0, Value.int IntKind.u8 0, Value.int IntKind.u8 0, Value.int IntKind.u8 0]) Q) (unitAt P f_strconv_FormatInt 8 [0, 5, 6]
  [Value.int IntKind.i64 n1, Value.pointer (some (Addr.mk (AW.next h) 0 none)), Value.int IntKind.u64 (IntKind.wrap IntKind.u64 n1)] (AW.addVar h [Value.int IntKind.u8 0, Value.int
  IntKind.u8 0, Value.int IntKind.u8 0, Value.int IntKind.u8 0, Value.int IntKind.u8 0, Value.int IntKind.u8 0, Value.int IntKind.u8 0, Value.int IntKind.u8 0, Value.int IntKind.u8
  0, Value.int IntKind.u8 0, Value.int IntKind.u8 0, Value.int IntKind.u8 0, Value.int IntKind.u8 0, Value.int IntKind.u8 0, Value.int IntKind.u8 0, Value.int IntKind.u8 0,
  Value.int IntKind.u8 0, Value.int IntKind.u8 0, Value.int IntKind.u8 0, Value.int IntKind.u8 0, Value.int IntKind.u8 0, Value.int IntKind.u8 0, Value.int IntKind.u8 0, Value.int
  IntKind.u8 0]) Q))) (bC (decide (n1 < 0)) (unitAt P f_strconv_FormatInt 8 [0, 5, 6] [Value.int IntKind.i64 n1, Value.pointer (some (Addr.mk (AW.next h) 0 none)), Value.int IntKind.u64
  (IntKind.wrap IntKind.u64 (0 - IntKind.wrap IntKind.u64 n1))] (AW.addVar h [Value.int IntKind.u8 0, Value.int IntKind.u8 0, Value.int IntKind.u8 0, Value.int IntKind.u8 0,
  Value.int IntKind.u8 0, Value.int IntKind.u8 0, Value.int IntKind.u8 0, Value.int IntKind.u8 0, Value.int IntKind.u8 0, Value.int IntKind.u8 0, Value.int IntKind.u8 0, Value.int
  IntKind.u8 0, Value.int IntKind.u8 0, Value.int IntKind.u8 0, Value.int IntKind.u8 0, Value.int IntKind.u8 0, Value.int IntKind.u8 0, Value.int IntKind.u8 0, Value.int IntKind.u8
  0, Value.int IntKind.u8 0, Value.int IntKind.u8 0, Value.int IntKind.u8 0, Value.int IntKind.u8 0, Value.int IntKind.u8 0]) Q) (unitAt P f_strconv_FormatInt 8 [0, 5, 6] [Value.int IntKind.i64
  n1, Value.pointer (some (Addr.mk (AW.next h) 0 none)), Value.int IntKind.u64 (IntKind.wrap IntKind.u64 n1)] (AW.addVar h [Value.int IntKind.u8 0, Value.int IntKind.u8 0,
  Value.int IntKind.u8 0, Value.int IntKind.u8 0, Value.int IntKind.u8 0, Value.int IntKind.u8 0, Value.int IntKind.u8 0, Value.int IntKind.u8 0, Value.int IntKind.u8 0, Value.int
  IntKind.u8 0, Value.int IntKind.u8 0, Value.int IntKind.u8 0, Value.int IntKind.u8 0, Value.int IntKind.u8 0, Value.int IntKind.u8 0, Value.int IntKind.u8 0, Value.int IntKind.u8
  0, Value.int IntKind.u8 0, Value.int IntKind.u8 0, Value.int IntKind.u8 0, Value.int IntKind.u8 0, Value.int IntKind.u8 0, Value.int IntKind.u8 0, Value.int IntKind.u8 0]) Q)))
  (EvQ P f_strconv_formatBits [Value.slice none 0 0, Value.int IntKind.u64 (IntKind.wrap IntKind.u64 n1), Value.int IntKind.i64 n2, Value.bool (decide (n1 < 0)), Value.bool false] h fun v6 h7 =>
  vTup v6 fun l8 => lC l8 fun v9 l10 => vSl v9 fun p11 m12 m13 => lC l10 fun v14 l15 => vStr v14 fun s16 => lN l15 (Q (Value.string s16) h7))) : EvQ P f_strconv_FormatInt [Value.int IntKind.i64
  n1, Value.int IntKind.i64 n2] h Q := fn_ok (n := 400) (ann := annOf [(8, [0, 5, 6])]) (Eq.mp (by kernel_rfl) H)
theorem r_strconv_FormatInt_8 {n1 : Int} {m2 : Nat} {n3 : Int} {h : AW} {Q : Value → AW → Prop} (H : EvQ P f_strconv_numDigits [Value.int IntKind.u64 n3] h fun v4 h5 => vInt IntKind.i64 v4 fun n6 => oB
  (sliceQ P h5 ty_24_uint8 (Value.pointer (some (Addr.mk m2 0 none))) (some (Value.int IntKind.i64 1)) (some (Value.int IntKind.i64 (IntKind.wrap IntKind.i64 (1 + n6))))) fun v7 => vSl
  v7 fun p8 m9 m10 => EvQ P f_strconv_formatBase10 [Value.slice p8 m9 m10, Value.int IntKind.u64 n3] h5 fun v11 h12 => bC (decide (n1 < 0)) (oB (natIdx 0 24) fun m13 => oB (AW.wr h12 m2 (0 + m13 *
  1) (Value.int IntKind.u8 45)) fun h14 => oB (sliceQ P h14 ty_24_uint8 (Value.pointer (some (Addr.mk m2 0 none))) none (some (Value.int IntKind.i64 (IntKind.wrap IntKind.i64 (1 +
  n6))))) fun v15 => vSl v15 fun p16 m17 m18 => oB (AW.bytes h14 p16 m17) fun s19 => Q (Value.string s19) h14) (oB (sliceQ P h12 ty_24_uint8 (Value.pointer (some (Addr.mk m2 0 none)))
  (some (Value.int IntKind.i64 1)) (some (Value.int IntKind.i64 (IntKind.wrap IntKind.i64 (1 + n6))))) fun v20 => vSl v20 fun p21 m22 m23 => oB (AW.bytes h12 p21 m22) fun s24 => Q
  (Value.string s24) h12)) : unitAt P f_strconv_FormatInt 8 [0, 5, 6] [Value.int IntKind.i64 n1, Value.pointer (some (Addr.mk m2 0 none)), Value.int IntKind.u64 n3] h Q := unit_ok (n := 400)
  (ann := annOf [(8, [0, 5, 6])]) (Eq.mp (by kernel_rfl) H)
theorem r_strconv_ParseUint {s1 : ByteArray} {n2 : Int} {n3 : Int} {h : AW} {Q : Value → AW → Prop} (H : bC (bEq s1 (ByteArray.mk #[])) (Q (Value.tuple (Array.mk [Value.int IntKind.u64 0,
  Value.iface ty_strconv_Error (Value.int IntKind.i64 2)])) h) (bC (decide (2 ≤ n2)) (bC (decide (n2 ≤ 36)) (unitAt P f_strconv_ParseUint 21 [0, 1, 2, 8, 9] [Value.string s1, Value.int IntKind.i64 n2,
  Value.int IntKind.i64 n3, Value.bool (n2 == 0), Value.string s1] h Q) (bC (n2 == 0) (oB (natIdx 0 (ByteArray.size s1)) fun m4 => oB (bAt s1 m4) fun n5 => bC (n5 == 48) (bC
  (decide ((↑(ByteArray.size s1) : Int) ≥ 3)) (oB (natIdx 1 (ByteArray.size s1)) fun m6 => oB (bAt s1 m6) fun n7 => EvQ P f_strconv_lower [Value.int IntKind.u8 n7] h fun v8 h9 => vInt
  IntKind.u8 v8 fun n10 => bC (n10 == 98) (oB (natBnd 2 (ByteArray.size s1)) fun m11 => unitAt P f_strconv_ParseUint 21 [0, 1, 2, 8, 9] [Value.string (bSub s1 m11 (ByteArray.size s1)), Value.int
  IntKind.i64 2, Value.int IntKind.i64 n3, Value.bool (n2 == 0), Value.string s1] h9 Q) (bC (decide ((↑(ByteArray.size s1) : Int) ≥ 3)) (oB (natIdx 1 (ByteArray.size s1)) fun m12
  => oB (bAt s1 m12) fun n13 => EvQ P f_strconv_lower [Value.int IntKind.u8 n13] h9 fun v14 h15 => vInt IntKind.u8 v14 fun n16 => bC (n16 == 111) (oB (natBnd 2 (ByteArray.size s1)) fun m17
  => unitAt P f_strconv_ParseUint 21 [0, 1, 2, 8, 9] [Value.string (bSub s1 m17 (ByteArray.size s1)), Value.int IntKind.i64 8, Value.int IntKind.i64 n3, Value.bool (n2 == 0), Value.string s1]
  h15 Q) (bC (decide ((↑(ByteArray.size s1) : Int) ≥ 3)) (oB (natIdx 1 (ByteArray.size s1)) fun m18 => oB (bAt s1 m18) fun n19 => EvQ P f_strconv_lower [Value.int IntKind.u8 n19] h15 fun v20
  h21 => vInt IntKind.u8 v20 fun n22 => bC (n22 == 120) (oB (natBnd 2 (ByteArray.size s1)) fun m23 => unitAt P f_strconv_ParseUint 21 [0, 1, 2, 8, 9] [Value.string (bSub s1 m23 (ByteArray.size
  s1)), Value.int IntKind.i64 16, Value.int IntKind.i64 n3, Value.bool (n2 == 0), Value.string s1] h21 Q) (oB (natBnd 1 (ByteArray.size s1)) fun m24 => unitAt P f_strconv_ParseUint 21 [0, 1, 2,
  8, 9] [Value.string (bSub s1 m24 (ByteArray.size s1)), Value.int IntKind.i64 8, Value.int IntKind.i64 n3, Value.bool (n2 == 0), Value.string s1] h21 Q)) (oB (natBnd 1
  (ByteArray.size s1)) fun m25 => unitAt P f_strconv_ParseUint 21 [0, 1, 2, 8, 9] [Value.string (bSub s1 m25 (ByteArray.size s1)), Value.int IntKind.i64 8, Value.int IntKind.i64 n3, Value.bool
  (n2 == 0), Value.string s1] h15 Q))) (bC (decide ((↑(ByteArray.size s1) : Int) ≥ 3)) (oB (natIdx 1 (ByteArray.size s1)) fun m26 => oB (bAt s1 m26) fun n27 => EvQ P f_strconv_lower
  [Value.int IntKind.u8 n27] h9 fun v28 h29 => vInt IntKind.u8 v28 fun n30 => bC (n30 == 120) (oB (natBnd 2 (ByteArray.size s1)) fun m31 => unitAt P f_strconv_ParseUint 21 [0, 1, 2, 8, 9]
  [Value.string (bSub s1 m31 (ByteArray.size s1)), Value.int IntKind.i64 16, Value.int IntKind.i64 n3, Value.bool (n2 == 0), Value.string s1] h29 Q) (oB (natBnd 1 (ByteArray.size
  s1)) fun m32 => unitAt P f_strconv_ParseUint 21 [0, 1, 2, 8, 9] [Value.string (bSub s1 m32 (ByteArray.size s1)), Value.int IntKind.i64 8, Value.int IntKind.i64 n3, Value.bool (n2 == 0),
  Value.string s1] h29 Q)) (oB (natBnd 1 (ByteArray.size s1)) fun m33 => unitAt P f_strconv_ParseUint 21 [0, 1, 2, 8, 9] [Value.string (bSub s1 m33 (ByteArray.size s1)), Value.int IntKind.i64 8,
  Value.int IntKind.i64 n3, Value.bool (n2 == 0), Value.string s1] h9 Q)))) (bC (decide ((↑(ByteArray.size s1) : Int) ≥ 3)) (oB (natIdx 1 (ByteArray.size s1)) fun m34 => oB (bAt s1
  m34) fun n35 => EvQ P f_strconv_lower [Value.int IntKind.u8 n35] h fun v36 h37 => vInt IntKind.u8 v36 fun n38 => bC (n38 == 111) (oB (natBnd 2 (ByteArray.size s1)) fun m39 => unitAt P
  f_strconv_ParseUint 21 [0, 1, 2, 8, 9] [Value.string (bSub s1 m39 (ByteArray.size s1)), Value.int IntKind.i64 8, Value.int IntKind.i64 n3, Value.bool (n2 == 0), Value.string s1] h37 Q) (bC
  (decide ((↑(ByteArray.size s1) : Int) ≥ 3)) (oB (natIdx 1 (ByteArray.size s1)) fun m40 => oB (bAt s1 m40) fun n41 => EvQ P f_strconv_lower [Value.int IntKind.u8 n41] h37 fun v42 h43 =>
  vInt IntKind.u8 v42 fun n44 => bC (n44 == 120) (oB (natBnd 2 (ByteArray.size s1)) fun m45 => unitAt P f_strconv_ParseUint 21 [0, 1, 2, 8, 9] [Value.string (bSub s1 m45 (ByteArray.size s1)),
  Value.int IntKind.i64 16, Value.int IntKind.i64 n3, Value.bool (n2 == 0), Value.string s1] h43 Q) (oB (natBnd 1 (ByteArray.size s1)) fun m46 => unitAt P f_strconv_ParseUint 21 [0, 1, 2, 8, 9]
  [Value.string (bSub s1 m46 (ByteArray.size s1)), Value.int IntKind.i64 8, Value.int IntKind.i64 n3, Value.bool (n2 == 0), Value.string s1] h43 Q)) (oB (natBnd 1 (ByteArray.size
  s1)) fun m47 => unitAt P f_strconv_ParseUint 21 [0, 1, 2, 8, 9] [Value.string (bSub s1 m47 (ByteArray.size s1)), Value.int IntKind.i64 8, Value.int IntKind.i64 n3, Value.bool (n2 == 0),
  Value.string s1] h37 Q))) (bC (decide ((↑(ByteArray.size s1) : Int) ≥ 3)) (oB (natIdx 1 (ByteArray.size s1)) fun m48 => oB (bAt s1 m48) fun n49 => EvQ P f_strconv_lower [Value.int
  IntKind.u8 n49] h fun v50 h51 => vInt IntKind.u8 v50 fun n52 => bC (n52 == 120) (oB (natBnd 2 (ByteArray.size s1)) fun m53 => unitAt P f_strconv_ParseUint 21 [0, 1, 2, 8, 9] [Value.string
  (bSub s1 m53 (ByteArray.size s1)), Value.int IntKind.i64 16, Value.int IntKind.i64 n3, Value.bool (n2 == 0), Value.string s1] h51 Q) (oB (natBnd 1 (ByteArray.size s1)) fun m54 =>
  unitAt P f_strconv_ParseUint 21 [0, 1, 2, 8, 9] [Value.string (bSub s1 m54 (ByteArray.size s1)), Value.int IntKind.i64 8, Value.int IntKind.i64 n3, Value.bool (n2 == 0), Value.string s1] h51
  Q)) (oB (natBnd 1 (ByteArray.size s1)) fun m55 => unitAt P f_strconv_ParseUint 21 [0, 1, 2, 8, 9] [Value.string (bSub s1 m55 (ByteArray.size s1)), Value.int IntKind.i64 8, Value.int
  IntKind.i64 n3, Value.bool (n2 == 0), Value.string s1] h Q)))) (unitAt P f_strconv_ParseUint 21 [0, 1, 2, 8, 9] [Value.string s1, Value.int IntKind.i64 10, Value.int IntKind.i64 n3, Value.bool
  (n2 == 0), Value.string s1] h Q)) (Q (Value.tuple (Array.mk [Value.int IntKind.u64 0, Value.iface ty_strconv_Error (Value.int IntKind.i64 3)])) h))) (bC (n2 == 0) (oB (natIdx 0
  (ByteArray.size s1)) fun m56 => oB (bAt s1 m56) fun n57 => bC (n57 == 48) (bC (decide ((↑(ByteArray.size s1) : Int) ≥ 3)) (oB (natIdx 1 (ByteArray.size s1)) fun m58 => oB (bAt s1
  m58) fun n59 => EvQ P f_strconv_lower [Value.int IntKind.u8 n59] h fun v60 h61 => vInt IntKind.u8 v60 fun n62 => bC (n62 == 98) (oB (natBnd 2 (ByteArray.size s1)) fun m63 => unitAt P f_strconv_ParseUint
  21 [0, 1, 2, 8, 9] [Value.string (bSub s1 m63 (ByteArray.size s1)), Value.int IntKind.i64 2, Value.int IntKind.i64 n3, Value.bool (n2 == 0), Value.string s1] h61 Q) (bC (decide
  ((↑(ByteArray.size s1) : Int) ≥ 3)) (oB (natIdx 1 (ByteArray.size s1)) fun m64 => oB (bAt s1 m64) fun n65 => EvQ P f_strconv_lower [Value.int IntKind.u8 n65] h61 fun v66 h67 => vInt
  IntKind.u8 v66 fun n68 => bC (n68 == 111) (oB (natBnd 2 (ByteArray.size s1)) fun m69 => unitAt P f_strconv_ParseUint 21 [0, 1, 2, 8, 9] [Value.string (bSub s1 m69 (ByteArray.size s1)),
  Value.int IntKind.i64 8, Value.int IntKind.i64 n3, Value.bool (n2 == 0), Value.string s1] h67 Q) (bC (decide ((↑(ByteArray.size s1) : Int) ≥ 3)) (oB (natIdx 1 (ByteArray.size
  s1)) fun m70 => oB (bAt s1 m70) fun n71 => EvQ P f_strconv_lower [Value.int IntKind.u8 n71] h67 fun v72 h73 => vInt IntKind.u8 v72 fun n74 => bC (n74 == 120) (oB (natBnd 2 (ByteArray.size
  s1)) fun m75 => unitAt P f_strconv_ParseUint 21 [0, 1, 2, 8, 9] [Value.string (bSub s1 m75 (ByteArray.size s1)), Value.int IntKind.i64 16, Value.int IntKind.i64 n3, Value.bool (n2 == 0),
  Value.string s1] h73 Q) (oB (natBnd 1 (ByteArray.size s1)) fun m76 => unitAt P f_strconv_ParseUint 21 [0, 1, 2, 8, 9] [Value.string (bSub s1 m76 (ByteArray.size s1)), Value.int IntKind.i64 8,
  Value.int IntKind.i64 n3, Value.bool (n2 == 0), Value.string s1] h73 Q)) (oB (natBnd 1 (ByteArray.size s1)) fun m77 => unitAt P f_strconv_ParseUint 21 [0, 1, 2, 8, 9] [Value.string (bSub s1
  m77 (ByteArray.size s1)), Value.int IntKind.i64 8, Value.int IntKind.i64 n3, Value.bool (n2 == 0), Value.string s1] h67 Q))) (bC (decide ((↑(ByteArray.size s1) : Int) ≥ 3)) (oB
  (natIdx 1 (ByteArray.size s1)) fun m78 => oB (bAt s1 m78) fun n79 => EvQ P f_strconv_lower [Value.int IntKind.u8 n79] h61 fun v80 h81 => vInt IntKind.u8 v80 fun n82 => bC (n82 == 120) (oB
  (natBnd 2 (ByteArray.size s1)) fun m83 => unitAt P f_strconv_ParseUint 21 [0, 1, 2, 8, 9] [Value.string (bSub s1 m83 (ByteArray.size s1)), Value.int IntKind.i64 16, Value.int IntKind.i64 n3,
  Value.bool (n2 == 0), Value.string s1] h81 Q) (oB (natBnd 1 (ByteArray.size s1)) fun m84 => unitAt P f_strconv_ParseUint 21 [0, 1, 2, 8, 9] [Value.string (bSub s1 m84 (ByteArray.size s1)),
  Value.int IntKind.i64 8, Value.int IntKind.i64 n3, Value.bool (n2 == 0), Value.string s1] h81 Q)) (oB (natBnd 1 (ByteArray.size s1)) fun m85 => unitAt P f_strconv_ParseUint 21 [0, 1, 2, 8, 9]
  [Value.string (bSub s1 m85 (ByteArray.size s1)), Value.int IntKind.i64 8, Value.int IntKind.i64 n3, Value.bool (n2 == 0), Value.string s1] h61 Q)))) (bC (decide
  ((↑(ByteArray.size s1) : Int) ≥ 3)) (oB (natIdx 1 (ByteArray.size s1)) fun m86 => oB (bAt s1 m86) fun n87 => EvQ P f_strconv_lower [Value.int IntKind.u8 n87] h fun v88 h89 => vInt
  IntKind.u8 v88 fun n90 => bC (n90 == 111) (oB (natBnd 2 (ByteArray.size s1)) fun m91 => unitAt P f_strconv_ParseUint 21 [0, 1, 2, 8, 9] [Value.string (bSub s1 m91 (ByteArray.size s1)),
  Value.int IntKind.i64 8, Value.int IntKind.i64 n3, Value.bool (n2 == 0), Value.string s1] h89 Q) (bC (decide ((↑(ByteArray.size s1) : Int) ≥ 3)) (oB (natIdx 1 (ByteArray.size
  s1)) fun m92 => oB (bAt s1 m92) fun n93 => EvQ P f_strconv_lower [Value.int IntKind.u8 n93] h89 fun v94 h95 => vInt IntKind.u8 v94 fun n96 => bC (n96 == 120) (oB (natBnd 2 (ByteArray.size
  s1)) fun m97 => unitAt P f_strconv_ParseUint 21 [0, 1, 2, 8, 9] [Value.string (bSub s1 m97 (ByteArray.size s1)), Value.int IntKind.i64 16, Value.int IntKind.i64 n3, Value.bool (n2 == 0),
  Value.string s1] h95 Q) (oB (natBnd 1 (ByteArray.size s1)) fun m98 => unitAt P f_strconv_ParseUint 21 [0, 1, 2, 8, 9] [Value.string (bSub s1 m98 (ByteArray.size s1)), Value.int IntKind.i64 8,
  Value.int IntKind.i64 n3, Value.bool (n2 == 0), Value.string s1] h95 Q)) (oB (natBnd 1 (ByteArray.size s1)) fun m99 => unitAt P f_strconv_ParseUint 21 [0, 1, 2, 8, 9] [Value.string (bSub s1
  m99 (ByteArray.size s1)), Value.int IntKind.i64 8, Value.int IntKind.i64 n3, Value.bool (n2 == 0), Value.string s1] h89 Q))) (bC (decide ((↑(ByteArray.size s1) : Int) ≥ 3)) (oB
  (natIdx 1 (ByteArray.size s1)) fun m100 => oB (bAt s1 m100) fun n101 => EvQ P f_strconv_lower [Value.int IntKind.u8 n101] h fun v102 h103 => vInt IntKind.u8 v102 fun n104 => bC (n104 ==
  120) (oB (natBnd 2 (ByteArray.size s1)) fun m105 => unitAt P f_strconv_ParseUint 21 [0, 1, 2, 8, 9] [Value.string (bSub s1 m105 (ByteArray.size s1)), Value.int IntKind.i64 16, Value.int
  IntKind.i64 n3, Value.bool (n2 == 0), Value.string s1] h103 Q) (oB (natBnd 1 (ByteArray.size s1)) fun m106 => unitAt P f_strconv_ParseUint 21 [0, 1, 2, 8, 9] [Value.string (bSub s1 m106
  (ByteArray.size s1)), Value.int IntKind.i64 8, Value.int IntKind.i64 n3, Value.bool (n2 == 0), Value.string s1] h103 Q)) (oB (natBnd 1 (ByteArray.size s1)) fun m107 => unitAt P
  f_strconv_ParseUint 21 [0, 1, 2, 8, 9] [Value.string (bSub s1 m107 (ByteArray.size s1)), Value.int IntKind.i64 8, Value.int IntKind.i64 n3, Value.bool (n2 == 0), Value.string s1] h Q))))
  (unitAt P f_strconv_ParseUint 21 [0, 1, 2, 8, 9] [Value.string s1, Value.int IntKind.i64 10, Value.int IntKind.i64 n3, Value.bool (n2 == 0), Value.string s1] h Q)) (Q (Value.tuple (Array.mk
  [Value.int IntKind.u64 0, Value.iface ty_strconv_Error (Value.int IntKind.i64 3)])) h)))) : EvQ P f_strconv_ParseUint [Value.string s1, Value.int IntKind.i64 n2, Value.int IntKind.i64 n3] h Q := fn_ok
  (n := 400) (ann := annOf [(21, [0, 1, 2, 8, 9]), (25, [0, 1, 2, 8, 9]), (32, [0, 1, 2, 8, 9, 10]), (36, [1, 8, 9, 10, 11, 12, 13, 99, 100, 101]), (46, [1, 8, 9, 10, 11, 12, 13,
  16, 99, 100, 101])]) (Eq.mp (by kernel_rfl) H)
theorem r_strconv_ParseUint_21 {s1 : ByteArray} {n2 : Int} {n3 : Int} {b4 : Bool} {s5 : ByteArray} {h : AW} {Q : Value → AW → Prop} (H : bC (n3 == 0) (unitAt P f_strconv_ParseUint 25 [0, 1, 2, 8, 9]
  [Value.string s1, Value.int IntKind.i64 n2, Value.int IntKind.i64 64, Value.bool b4, Value.string s5] h Q) (bC (decide (n3 < 0)) (Q (Value.tuple (Array.mk [Value.int IntKind.u64
  0, Value.iface ty_strconv_Error (Value.int IntKind.i64 4)])) h) (bC (decide (n3 > 64)) (Q (Value.tuple (Array.mk [Value.int IntKind.u64 0, Value.iface ty_strconv_Error (Value.int IntKind.i64 4)]))
  h) (unitAt P f_strconv_ParseUint 25 [0, 1, 2, 8, 9] [Value.string s1, Value.int IntKind.i64 n2, Value.int IntKind.i64 n3, Value.bool b4, Value.string s5] h Q)))) : unitAt P f_strconv_ParseUint 21 [0, 1, 2,
  8, 9] [Value.string s1, Value.int IntKind.i64 n2, Value.int IntKind.i64 n3, Value.bool b4, Value.string s5] h Q := unit_ok (n := 400) (ann := annOf [(21, [0, 1, 2, 8, 9]), (25,
  [0, 1, 2, 8, 9]), (32, [0, 1, 2, 8, 9, 10]), (36, [1, 8, 9, 10, 11, 12, 13, 99, 100, 101]), (46, [1, 8, 9, 10, 11, 12, 13, 16, 99, 100, 101])]) (Eq.mp (by kernel_rfl) H)
theorem r_strconv_ParseUint_25 {s1 : ByteArray} {n2 : Int} {n3 : Int} {b4 : Bool} {s5 : ByteArray} {h : AW} {Q : Value → AW → Prop} (H : bC (n2 == 10) (unitAt P f_strconv_ParseUint 32 [0, 1, 2, 8, 9, 10]
  [Value.string s1, Value.int IntKind.i64 n2, Value.int IntKind.i64 n3, Value.bool b4, Value.string s5, Value.int IntKind.u64 1844674407370955162] h Q) (bC (n2 == 16) (unitAt P
  f_strconv_ParseUint 32 [0, 1, 2, 8, 9, 10] [Value.string s1, Value.int IntKind.i64 n2, Value.int IntKind.i64 n3, Value.bool b4, Value.string s5, Value.int IntKind.u64 1152921504606846976] h Q)
  (bC (decide (IntKind.wrap IntKind.u64 n2 = 0)) False (unitAt P f_strconv_ParseUint 32 [0, 1, 2, 8, 9, 10] [Value.string s1, Value.int IntKind.i64 n2, Value.int IntKind.i64 n3, Value.bool b4,
  Value.string s5, Value.int IntKind.u64 (IntKind.wrap IntKind.u64 (IntKind.wrap IntKind.u64 (Int.tdiv 18446744073709551615 (IntKind.wrap IntKind.u64 n2)) + 1))] h Q)))) : unitAt P
  f_strconv_ParseUint 25 [0, 1, 2, 8, 9] [Value.string s1, Value.int IntKind.i64 n2, Value.int IntKind.i64 n3, Value.bool b4, Value.string s5] h Q := unit_ok (n := 400) (ann := annOf [(21, [0,
  1, 2, 8, 9]), (25, [0, 1, 2, 8, 9]), (32, [0, 1, 2, 8, 9, 10]), (36, [1, 8, 9, 10, 11, 12, 13, 99, 100, 101]), (46, [1, 8, 9, 10, 11, 12, 13, 16, 99, 100, 101])]) (Eq.mp (by
  kernel_rfl) H)
theorem r_strconv_ParseUint_32 {s1 : ByteArray} {n2 : Int} {n3 : Int} {b4 : Bool} {s5 : ByteArray} {n6 : Int} {h : AW} {Q : Value → AW → Prop} (H : bC (decide (IntKind.wrap IntKind.u64 n3 <
  0)) False (oP (convA P h ty_string ty_sl_uint8 (Value.string s1)) fun v7 h8 => vSl v7 fun p9 m10 m11 => unitAt P f_strconv_ParseUint 36 [1, 8, 9, 10, 11, 12, 13, 99, 100, 101] [Value.int IntKind.i64 n2,
  Value.bool b4, Value.string s5, Value.int IntKind.u64 n6, Value.int IntKind.u64 (IntKind.wrap IntKind.u64 (IntKind.wrap IntKind.u64 (1 * 2 ^ min (Int.toNat (IntKind.wrap
  IntKind.u64 n3)) 64) - 1)), Value.bool false, Value.int IntKind.u64 0, Value.slice p9 m10 m11, Value.int IntKind.i64 (↑m10 : Int), Value.int IntKind.i64 0] h8 Q)) : unitAt P
  f_strconv_ParseUint 32 [0, 1, 2, 8, 9, 10] [Value.string s1, Value.int IntKind.i64 n2, Value.int IntKind.i64 n3, Value.bool b4, Value.string s5, Value.int IntKind.u64 n6] h Q := unit_ok (n :=
  400) (ann := annOf [(21, [0, 1, 2, 8, 9]), (25, [0, 1, 2, 8, 9]), (32, [0, 1, 2, 8, 9, 10]), (36, [1, 8, 9, 10, 11, 12, 13, 99, 100, 101]), (46, [1, 8, 9, 10, 11, 12, 13, 16, 99,
  100, 101])]) (Eq.mp (by kernel_rfl) H)
theorem r_strconv_ParseUint_36 {n1 : Int} {b2 : Bool} {s3 : ByteArray} {n4 : Int} {n5 : Int} {b6 : Bool} {n7 : Int} {p8 : Option Addr} {m9 : Nat} {m10 : Nat} {n11 : Int} {n12 : Int} {h : AW}
  {Q : Value → AW → Prop} (H : bC (decide (n12 < n11)) (aP p8 fun m13 m14 => oB (natIdx n12 m9) fun m15 => oB (AW.rd h m13 (m14 + m15 * 1)) fun v16 => vInt IntKind.u8 v16 fun n17
  => bC (n17 == 95) (bC b2 (unitAt P f_strconv_ParseUint 36 [1, 8, 9, 10, 11, 12, 13, 99, 100, 101] [Value.int IntKind.i64 n1, Value.bool b2, Value.string s3, Value.int IntKind.u64 n4, Value.int
  IntKind.u64 n5, Value.bool true, Value.int IntKind.u64 n7, Value.slice p8 m9 m10, Value.int IntKind.i64 n11, Value.int IntKind.i64 (IntKind.wrap IntKind.i64 (n12 + 1))] h Q) (bC
  (decide (48 ≤ n17)) (bC (decide (n17 ≤ 57)) (unitAt P f_strconv_ParseUint 46 [1, 8, 9, 10, 11, 12, 13, 16, 99, 100, 101] [Value.int IntKind.i64 n1, Value.bool b2, Value.string s3, Value.int
  IntKind.u64 n4, Value.int IntKind.u64 n5, Value.bool b6, Value.int IntKind.u64 n7, Value.int IntKind.u8 (IntKind.wrap IntKind.u8 (n17 - 48)), Value.slice p8 m9 m10, Value.int
  IntKind.i64 n11, Value.int IntKind.i64 n12] h Q) (EvQ P f_strconv_lower [Value.int IntKind.u8 n17] h fun v18 h19 => vInt IntKind.u8 v18 fun n20 => bC (decide (97 ≤ n20)) (EvQ P f_strconv_lower
  [Value.int IntKind.u8 n17] h19 fun v21 h22 => vInt IntKind.u8 v21 fun n23 => bC (decide (n23 ≤ 122)) (EvQ P f_strconv_lower [Value.int IntKind.u8 n17] h22 fun v24 h25 => vInt IntKind.u8
  v24 fun n26 => unitAt P f_strconv_ParseUint 46 [1, 8, 9, 10, 11, 12, 13, 16, 99, 100, 101] [Value.int IntKind.i64 n1, Value.bool b2, Value.string s3, Value.int IntKind.u64 n4, Value.int
  IntKind.u64 n5, Value.bool b6, Value.int IntKind.u64 n7, Value.int IntKind.u8 (IntKind.wrap IntKind.u8 (IntKind.wrap IntKind.u8 (n26 - 97) + 10)), Value.slice p8 m9 m10,
  Value.int IntKind.i64 n11, Value.int IntKind.i64 n12] h25 Q) (Q (Value.tuple (Array.mk [Value.int IntKind.u64 0, Value.iface ty_strconv_Error (Value.int IntKind.i64 2)])) h22)) (Q
  (Value.tuple (Array.mk [Value.int IntKind.u64 0, Value.iface ty_strconv_Error (Value.int IntKind.i64 2)])) h19))) (EvQ P f_strconv_lower [Value.int IntKind.u8 n17] h fun v27 h28 => vInt IntKind.u8
  v27 fun n29 => bC (decide (97 ≤ n29)) (EvQ P f_strconv_lower [Value.int IntKind.u8 n17] h28 fun v30 h31 => vInt IntKind.u8 v30 fun n32 => bC (decide (n32 ≤ 122)) (EvQ P f_strconv_lower [Value.int
  IntKind.u8 n17] h31 fun v33 h34 => vInt IntKind.u8 v33 fun n35 => unitAt P f_strconv_ParseUint 46 [1, 8, 9, 10, 11, 12, 13, 16, 99, 100, 101] [Value.int IntKind.i64 n1, Value.bool b2,
  Value.string s3, Value.int IntKind.u64 n4, Value.int IntKind.u64 n5, Value.bool b6, Value.int IntKind.u64 n7, Value.int IntKind.u8 (IntKind.wrap IntKind.u8 (IntKind.wrap
  IntKind.u8 (n35 - 97) + 10)), Value.slice p8 m9 m10, Value.int IntKind.i64 n11, Value.int IntKind.i64 n12] h34 Q) (Q (Value.tuple (Array.mk [Value.int IntKind.u64 0, Value.iface
  ty_strconv_Error (Value.int IntKind.i64 2)])) h31)) (Q (Value.tuple (Array.mk [Value.int IntKind.u64 0, Value.iface ty_strconv_Error (Value.int IntKind.i64 2)])) h28)))) (bC (decide (48 ≤ n17)) (bC
  (decide (n17 ≤ 57)) (unitAt P f_strconv_ParseUint 46 [1, 8, 9, 10, 11, 12, 13, 16, 99, 100, 101] [Value.int IntKind.i64 n1, Value.bool b2, Value.string s3, Value.int IntKind.u64 n4, Value.int
  IntKind.u64 n5, Value.bool b6, Value.int IntKind.u64 n7, Value.int IntKind.u8 (IntKind.wrap IntKind.u8 (n17 - 48)), Value.slice p8 m9 m10, Value.int IntKind.i64 n11, Value.int
  IntKind.i64 n12] h Q) (EvQ P f_strconv_lower [Value.int IntKind.u8 n17] h fun v36 h37 => vInt IntKind.u8 v36 fun n38 => bC (decide (97 ≤ n38)) (EvQ P f_strconv_lower [Value.int IntKind.u8 n17] h37
  fun v39 h40 => vInt IntKind.u8 v39 fun n41 => bC (decide (n41 ≤ 122)) (EvQ P f_strconv_lower [Value.int IntKind.u8 n17] h40 fun v42 h43 => vInt IntKind.u8 v42 fun n44 => unitAt P f_strconv_ParseUint 46
  [1, 8, 9, 10, 11, 12, 13, 16, 99, 100, 101] [Value.int IntKind.i64 n1, Value.bool b2, Value.string s3, Value.int IntKind.u64 n4, Value.int IntKind.u64 n5, Value.bool b6,
  Value.int IntKind.u64 n7, Value.int IntKind.u8 (IntKind.wrap IntKind.u8 (IntKind.wrap IntKind.u8 (n44 - 97) + 10)), Value.slice p8 m9 m10, Value.int IntKind.i64 n11, Value.int
  IntKind.i64 n12] h43 Q) (Q (Value.tuple (Array.mk [Value.int IntKind.u64 0, Value.iface ty_strconv_Error (Value.int IntKind.i64 2)])) h40)) (Q (Value.tuple (Array.mk [Value.int IntKind.u64
  0, Value.iface ty_strconv_Error (Value.int IntKind.i64 2)])) h37))) (EvQ P f_strconv_lower [Value.int IntKind.u8 n17] h fun v45 h46 => vInt IntKind.u8 v45 fun n47 => bC (decide (97 ≤ n47)) (EvQ P
  f_strconv_lower [Value.int IntKind.u8 n17] h46 fun v48 h49 => vInt IntKind.u8 v48 fun n50 => bC (decide (n50 ≤ 122)) (EvQ P f_strconv_lower [Value.int IntKind.u8 n17] h49 fun v51 h52 => vInt
  IntKind.u8 v51 fun n53 => unitAt P f_strconv_ParseUint 46 [1, 8, 9, 10, 11, 12, 13, 16, 99, 100, 101] [Value.int IntKind.i64 n1, Value.bool b2, Value.string s3, Value.int IntKind.u64 n4,
  Value.int IntKind.u64 n5, Value.bool b6, Value.int IntKind.u64 n7, Value.int IntKind.u8 (IntKind.wrap IntKind.u8 (IntKind.wrap IntKind.u8 (n53 - 97) + 10)), Value.slice p8 m9
  m10, Value.int IntKind.i64 n11, Value.int IntKind.i64 n12] h52 Q) (Q (Value.tuple (Array.mk [Value.int IntKind.u64 0, Value.iface ty_strconv_Error (Value.int IntKind.i64 2)])) h49)) (Q
  (Value.tuple (Array.mk [Value.int IntKind.u64 0, Value.iface ty_strconv_Error (Value.int IntKind.i64 2)])) h46)))) (bC b6 (EvQ P f_strconv_underscoreOK [Value.string s3] h fun v54 h55 => vBool v54 fun b56
  => bC (!b56) (Q (Value.tuple (Array.mk [Value.int IntKind.u64 0, Value.iface ty_strconv_Error (Value.int IntKind.i64 2)])) h55) (Q (Value.tuple (Array.mk [Value.int IntKind.u64 n7,
  Value.nilIface])) h55)) (Q (Value.tuple (Array.mk [Value.int IntKind.u64 n7, Value.nilIface])) h))) : unitAt P f_strconv_ParseUint 36 [1, 8, 9, 10, 11, 12, 13, 99, 100, 101] [Value.int
  IntKind.i64 n1, Value.bool b2, Value.string s3, Value.int IntKind.u64 n4, Value.int IntKind.u64 n5, Value.bool b6, Value.int IntKind.u64 n7, Value.slice p8 m9 m10, Value.int
  IntKind.i64 n11, Value.int IntKind.i64 n12] h Q := unit_ok (n := 400) (ann := annOf [(21, [0, 1, 2, 8, 9]), (25, [0, 1, 2, 8, 9]), (32, [0, 1, 2, 8, 9, 10]), (36, [1, 8, 9, 10,
  11, 12, 13, 99, 100, 101]), (46, [1, 8, 9, 10, 11, 12, 13, 16, 99, 100, 101])]) (Eq.mp (by kernel_rfl) H)
theorem r_strconv_ParseUint_46 {n1 : Int} {b2 : Bool} {s3 : ByteArray} {n4 : Int} {n5 : Int} {b6 : Bool} {n7 : Int} {n8 : Int} {p9 : Option Addr} {m10 : Nat} {m11 : Nat} {n12 : Int} {n13 :
  Int} {h : AW} {Q : Value → AW → Prop} (H : bC (decide (n8 ≥ IntKind.wrap IntKind.u8 n1)) (Q (Value.tuple (Array.mk [Value.int IntKind.u64 0, Value.iface ty_strconv_Error (Value.int
  IntKind.i64 2)])) h) (bC (decide (n7 ≥ n4)) (Q (Value.tuple (Array.mk [Value.int IntKind.u64 n5, Value.iface ty_strconv_Error (Value.int IntKind.i64 1)])) h) (bC (decide (IntKind.wrap
  IntKind.u64 (IntKind.wrap IntKind.u64 (n7 * IntKind.wrap IntKind.u64 n1) + IntKind.wrap IntKind.u64 n8) < IntKind.wrap IntKind.u64 (n7 * IntKind.wrap IntKind.u64 n1))) (Q
  (Value.tuple (Array.mk [Value.int IntKind.u64 n5, Value.iface ty_strconv_Error (Value.int IntKind.i64 1)])) h) (bC (decide (IntKind.wrap IntKind.u64 (IntKind.wrap IntKind.u64 (n7 *
  IntKind.wrap IntKind.u64 n1) + IntKind.wrap IntKind.u64 n8) > n5)) (Q (Value.tuple (Array.mk [Value.int IntKind.u64 n5, Value.iface ty_strconv_Error (Value.int IntKind.i64 1)])) h) (unitAt
  P f_strconv_ParseUint 36 [1, 8, 9, 10, 11, 12, 13, 99, 100, 101] [Value.int IntKind.i64 n1, Value.bool b2, Value.string s3, Value.int IntKind.u64 n4, Value.int IntKind.u64 n5, Value.bool b6,
  Value.int IntKind.u64 (IntKind.wrap IntKind.u64 (IntKind.wrap IntKind.u64 (n7 * IntKind.wrap IntKind.u64 n1) + IntKind.wrap IntKind.u64 n8)), Value.slice p9 m10 m11, Value.int
  IntKind.i64 n12, Value.int IntKind.i64 (IntKind.wrap IntKind.i64 (n13 + 1))] h Q))))) : unitAt P f_strconv_ParseUint 46 [1, 8, 9, 10, 11, 12, 13, 16, 99, 100, 101] [Value.int IntKind.i64 n1,
  Value.bool b2, Value.string s3, Value.int IntKind.u64 n4, Value.int IntKind.u64 n5, Value.bool b6, Value.int IntKind.u64 n7, Value.int IntKind.u8 n8, Value.slice p9 m10 m11,
  Value.int IntKind.i64 n12, Value.int IntKind.i64 n13] h Q := unit_ok (n := 400) (ann := annOf [(21, [0, 1, 2, 8, 9]), (25, [0, 1, 2, 8, 9]), (32, [0, 1, 2, 8, 9, 10]), (36, [1,
  8, 9, 10, 11, 12, 13, 99, 100, 101]), (46, [1, 8, 9, 10, 11, 12, 13, 16, 99, 100, 101])]) (Eq.mp (by kernel_rfl) H)
theorem r_stringslite_Clone {s1 : ByteArray} {h : AW} {Q : Value → AW → Prop} (H : bC ((↑(ByteArray.size s1) : Int) == 0) (Q (Value.string (ByteArray.mk #[])) h) (oP (makeSliceV P h ty_sl_uint8
  (Value.int IntKind.i64 (↑(ByteArray.size s1) : Int)) (Value.int IntKind.i64 (↑(ByteArray.size s1) : Int))) fun v2 h3 => vSl v2 fun p4 m5 m6 => oP (copyB P h3 (Array.mk [ty_sl_uint8,
  ty_string]) [Value.slice p4 m5 m6, Value.string s1]) fun v7 h8 => vInt IntKind.i64 v7 fun n9 => aP p4 fun m10 m11 => oB (natIdx 0 m5) fun m12 => oP (ustrB P h8 (Array.mk [ty_p_uint8,
  ty_int]) [Value.pointer (some (Addr.mk m10 (m11 + m12 * 1) none)), Value.int IntKind.i64 (↑m5 : Int)]) fun v13 h14 => vStr v13 fun s15 => Q (Value.string s15) h14)) : EvQ P f_stringslite_Clone
  [Value.string s1] h Q := fn_ok (n := 400) (ann := annOf []) (Eq.mp (by kernel_rfl) H)
theorem r_strconv_small {n1 : Int} {h : AW} {Q : Value → AW → Prop} (H : bC (decide (n1 < 10)) (oB (natBnd (IntKind.wrap IntKind.i64 (n1 + 1)) 36) fun m2 => oB (natBnd n1 m2) fun m3 => Q
  (Value.string (bSub (ByteArray.mk #[48, 49, 50, 51, 52, 53, 54, 55, 56, 57, 97, 98, 99, 100, 101, 102, 103, 104, 105, 106, 107, 108, 109, 110, 111, 112, 113, 114, 115, 116, 117,
  118, 119, 120, 121, 122]) m3 m2)) h) (oB (natBnd (IntKind.wrap IntKind.i64 (IntKind.wrap IntKind.i64 (n1 * 2) + 2)) 200) fun m4 => oB (natBnd (IntKind.wrap IntKind.i64 (n1 * 2))
  m4) fun m5 => Q (Value.string (bSub (ByteArray.mk (List.toArray (List.append (List.append [48, 48, 48, 49, 48, 50, 48, 51, 48, 52, 48, 53, 48, 54, 48, 55, 48, 56, 48, 57, 49, 48,
  49, 49, 49, 50, 49, 51, 49, 52, 49, 53, 49, 54, 49, 55, 49, 56, 49, 57, 50, 48, 50, 49, 50, 50, 50, 51, 50, 52] [50, 53, 50, 54, 50, 55, 50, 56, 50, 57, 51, 48, 51, 49, 51, 50,
  51, 51, 51, 52, 51, 53, 51, 54, 51, 55, 51, 56, 51, 57, 52, 48, 52, 49, 52, 50, 52, 51, 52, 52, 52, 53, 52, 54, 52, 55, 52, 56, 52, 57]) (List.append [53, 48, 53, 49, 53, 50, 53,
  51, 53, 52, 53, 53, 53, 54, 53, 55, 53, 56, 53, 57, 54, 48, 54, 49, 54, 50, 54, 51, 54, 52, 54, 53, 54, 54, 54, 55, 54, 56, 54, 57, 55, 48, 55, 49, 55, 50, 55, 51, 55, 52] [55,
  53, 55, 54, 55, 55, 55, 56, 55, 57, 56, 48, 56, 49, 56, 50, 56, 51, 56, 52, 56, 53, 56, 54, 56, 55, 56, 56, 56, 57, 57, 48, 57, 49, 57, 50, 57, 51, 57, 52, 57, 53, 57, 54, 57,
  55, 57, 56, 57, 57])))) m5 m4)) h)) : EvQ P f_strconv_small [Value.int IntKind.i64 n1] h Q := fn_ok (n := 400) (ann := annOf []) (Eq.mp (by kernel_rfl) H)
theorem r_strconv_numDigits {n1 : Int} {h : AW} {Q : Value → AW → Prop} (H : EvQ P f_math_bits_Len64 [Value.int IntKind.u64 n1] h fun v2 h3 => vInt IntKind.i64 v2 fun n4 => EvQ P f_strconv_log10Pow2 [Value.int
  IntKind.i64 n4] h3 fun v5 h6 => vInt IntKind.i64 v5 fun n7 => oB (natIdx n7 20) fun m8 => oB (AW.rd h6 2 (0 + m8 * 1)) fun v9 => vInt IntKind.u64 v9 fun n10 => EvQ P f_strconv_bool2_int
  [Value.bool (decide (n1 ≥ n10))] h6 fun v11 h12 => vInt IntKind.i64 v11 fun n13 => Q (Value.int IntKind.i64 (IntKind.wrap IntKind.i64 (n7 + n13))) h12) : EvQ P f_strconv_numDigits [Value.int
  IntKind.u64 n1] h Q := fn_ok (n := 400) (ann := annOf []) (Eq.mp (by kernel_rfl) H)
theorem r_strconv_formatBase10 {p1 : Option Addr} {m2 : Nat} {m3 : Nat} {n4 : Int} {h : AW} {Q : Value → AW → Prop} (H : unitAt P f_strconv_formatBase10 1 [0, 1, 4] [Value.slice p1 m2 m3, Value.int IntKind.u64
  n4, Value.int IntKind.i64 (↑m2 : Int)] h Q) : EvQ P f_strconv_formatBase10 [Value.slice p1 m2 m3, Value.int IntKind.u64 n4] h Q := fn_ok (n := 400) (ann := annOf [(1, [0, 1, 4]), (20, [0, 4,
  12]), (25, [0, 4, 12])]) (Eq.mp (by kernel_rfl) H)
theorem r_strconv_formatBase10_1 {p1 : Option Addr} {m2 : Nat} {m3 : Nat} {n4 : Int} {n5 : Int} {h : AW} {Q : Value → AW → Prop} (H : bC (decide (n5 ≥ 8)) (oB (natIdx (IntKind.wrap IntKind.u32
  (IntKind.wrap IntKind.u32 (Int.tmod (Int.tmod (IntKind.wrap IntKind.u32 (Int.tmod n4 100000000)) 10000) 100 * 2) + 1)) 200) fun m6 => oB (bAt (ByteArray.mk (List.toArray
  (List.append (List.append [48, 48, 48, 49, 48, 50, 48, 51, 48, 52, 48, 53, 48, 54, 48, 55, 48, 56, 48, 57, 49, 48, 49, 49, 49, 50, 49, 51, 49, 52, 49, 53, 49, 54, 49, 55, 49, 56,
  49, 57, 50, 48, 50, 49, 50, 50, 50, 51, 50, 52] [50, 53, 50, 54, 50, 55, 50, 56, 50, 57, 51, 48, 51, 49, 51, 50, 51, 51, 51, 52, 51, 53, 51, 54, 51, 55, 51, 56, 51, 57, 52, 48,
  52, 49, 52, 50, 52, 51, 52, 52, 52, 53, 52, 54, 52, 55, 52, 56, 52, 57]) (List.append [53, 48, 53, 49, 53, 50, 53, 51, 53, 52, 53, 53, 53, 54, 53, 55, 53, 56, 53, 57, 54, 48, 54,
  49, 54, 50, 54, 51, 54, 52, 54, 53, 54, 54, 54, 55, 54, 56, 54, 57, 55, 48, 55, 49, 55, 50, 55, 51, 55, 52] [55, 53, 55, 54, 55, 55, 55, 56, 55, 57, 56, 48, 56, 49, 56, 50, 56,
  51, 56, 52, 56, 53, 56, 54, 56, 55, 56, 56, 56, 57, 57, 48, 57, 49, 57, 50, 57, 51, 57, 52, 57, 53, 57, 54, 57, 55, 57, 56, 57, 57])))) m6) fun n7 => oB (natIdx (IntKind.wrap
  IntKind.u32 (Int.tmod (Int.tmod (IntKind.wrap IntKind.u32 (Int.tmod n4 100000000)) 10000) 100 * 2)) 200) fun m8 => oB (bAt (ByteArray.mk (List.toArray (List.append (List.append
  [48, 48, 48, 49, 48, 50, 48, 51, 48, 52, 48, 53, 48, 54, 48, 55, 48, 56, 48, 57, 49, 48, 49, 49, 49, 50, 49, 51, 49, 52, 49, 53, 49, 54, 49, 55, 49, 56, 49, 57, 50, 48, 50, 49,
  50, 50, 50, 51, 50, 52] [50, 53, 50, 54, 50, 55, 50, 56, 50, 57, 51, 48, 51, 49, 51, 50, 51, 51, 51, 52, 51, 53, 51, 54, 51, 55, 51, 56, 51, 57, 52, 48, 52, 49, 52, 50, 52, 51,
  52, 52, 52, 53, 52, 54, 52, 55, 52, 56, 52, 57]) (List.append [53, 48, 53, 49, 53, 50, 53, 51, 53, 52, 53, 53, 53, 54, 53, 55, 53, 56, 53, 57, 54, 48, 54, 49, 54, 50, 54, 51, 54,
  52, 54, 53, 54, 54, 54, 55, 54, 56, 54, 57, 55, 48, 55, 49, 55, 50, 55, 51, 55, 52] [55, 53, 55, 54, 55, 55, 55, 56, 55, 57, 56, 48, 56, 49, 56, 50, 56, 51, 56, 52, 56, 53, 56,
  54, 56, 55, 56, 56, 56, 57, 57, 48, 57, 49, 57, 50, 57, 51, 57, 52, 57, 53, 57, 54, 57, 55, 57, 56, 57, 57])))) m8) fun n9 => aP p1 fun m10 m11 => oB (natIdx (IntKind.wrap
  IntKind.i64 (n5 - 1)) m2) fun m12 => oB (AW.wr h m10 (m11 + m12 * 1) (Value.int IntKind.u8 n7)) fun h13 => aP p1 fun m14 m15 => oB (natIdx (IntKind.wrap IntKind.i64 (n5 - 2)) m2)
  fun m16 => oB (AW.wr h13 m14 (m15 + m16 * 1) (Value.int IntKind.u8 n9)) fun h17 => oB (natIdx (IntKind.wrap IntKind.u32 (IntKind.wrap IntKind.u32 (IntKind.wrap IntKind.u32
  (Int.tdiv (Int.tmod (IntKind.wrap IntKind.u32 (Int.tmod n4 100000000)) 10000) 100) * 2) + 1)) 200) fun m18 => oB (bAt (ByteArray.mk (List.toArray (List.append (List.append [48,
  48, 48, 49, 48, 50, 48, 51, 48, 52, 48, 53, 48, 54, 48, 55, 48, 56, 48, 57, 49, 48, 49, 49, 49, 50, 49, 51, 49, 52, 49, 53, 49, 54, 49, 55, 49, 56, 49, 57, 50, 48, 50, 49, 50,
  50, 50, 51, 50, 52] [50, 53, 50, 54, 50, 55, 50, 56, 50, 57, 51, 48, 51, 49, 51, 50, 51, 51, 51, 52, 51, 53, 51, 54, 51, 55, 51, 56, 51, 57, 52, 48, 52, 49, 52, 50, 52, 51, 52,
  52, 52, 53, 52, 54, 52, 55, 52, 56, 52, 57]) (List.append [53, 48, 53, 49, 53, 50, 53, 51, 53, 52, 53, 53, 53, 54, 53, 55, 53, 56, 53, 57, 54, 48, 54, 49, 54, 50, 54, 51, 54, 52,
  54, 53, 54, 54, 54, 55, 54, 56, 54, 57, 55, 48, 55, 49, 55, 50, 55, 51, 55, 52] [55, 53, 55, 54, 55, 55, 55, 56, 55, 57, 56, 48, 56, 49, 56, 50, 56, 51, 56, 52, 56, 53, 56, 54,
  56, 55, 56, 56, 56, 57, 57, 48, 57, 49, 57, 50, 57, 51, 57, 52, 57, 53, 57, 54, 57, 55, 57, 56, 57, 57])))) m18) fun n19 => oB (natIdx (IntKind.wrap IntKind.u32 (IntKind.wrap
  IntKind.u32 (Int.tdiv (Int.tmod (IntKind.wrap IntKind.u32 (Int.tmod n4 100000000)) 10000) 100) * 2)) 200) fun m20 => oB (bAt (ByteArray.mk (List.toArray (List.append (List.append
  [48, 48, 48, 49, 48, 50, 48, 51, 48, 52, 48, 53, 48, 54, 48, 55, 48, 56, 48, 57, 49, 48, 49, 49, 49, 50, 49, 51, 49, 52, 49, 53, 49, 54, 49, 55, 49, 56, 49, 57, 50, 48, 50, 49,
  50, 50, 50, 51, 50, 52] [50, 53, 50, 54, 50, 55, 50, 56, 50, 57, 51, 48, 51, 49, 51, 50, 51, 51, 51, 52, 51, 53, 51, 54, 51, 55, 51, 56, 51, 57, 52, 48, 52, 49, 52, 50, 52, 51,
  52, 52, 52, 53, 52, 54, 52, 55, 52, 56, 52, 57]) (List.append [53, 48, 53, 49, 53, 50, 53, 51, 53, 52, 53, 53, 53, 54, 53, 55, 53, 56, 53, 57, 54, 48, 54, 49, 54, 50, 54, 51, 54,
  52, 54, 53, 54, 54, 54, 55, 54, 56, 54, 57, 55, 48, 55, 49, 55, 50, 55, 51, 55, 52] [55, 53, 55, 54, 55, 55, 55, 56, 55, 57, 56, 48, 56, 49, 56, 50, 56, 51, 56, 52, 56, 53, 56,
  54, 56, 55, 56, 56, 56, 57, 57, 48, 57, 49, 57, 50, 57, 51, 57, 52, 57, 53, 57, 54, 57, 55, 57, 56, 57, 57])))) m20) fun n21 => aP p1 fun m22 m23 => oB (natIdx (IntKind.wrap
  IntKind.i64 (n5 - 3)) m2) fun m24 => oB (AW.wr h17 m22 (m23 + m24 * 1) (Value.int IntKind.u8 n19)) fun h25 => aP p1 fun m26 m27 => oB (natIdx (IntKind.wrap IntKind.i64 (n5 - 4))
  m2) fun m28 => oB (AW.wr h25 m26 (m27 + m28 * 1) (Value.int IntKind.u8 n21)) fun h29 => oB (natIdx (IntKind.wrap IntKind.u32 (IntKind.wrap IntKind.u32 (Int.tmod (IntKind.wrap
  IntKind.u32 (Int.tdiv (IntKind.wrap IntKind.u32 (Int.tmod n4 100000000)) 10000)) 100 * 2) + 1)) 200) fun m30 => oB (bAt (ByteArray.mk (List.toArray (List.append (List.append [48,
  48, 48, 49, 48, 50, 48, 51, 48, 52, 48, 53, 48, 54, 48, 55, 48, 56, 48, 57, 49, 48, 49, 49, 49, 50, 49, 51, 49, 52, 49, 53, 49, 54, 49, 55, 49, 56, 49, 57, 50, 48, 50, 49, 50,
  50, 50, 51, 50, 52] [50, 53, 50, 54, 50, 55, 50, 56, 50, 57, 51, 48, 51, 49, 51, 50, 51, 51, 51, 52, 51, 53, 51, 54, 51, 55, 51, 56, 51, 57, 52, 48, 52, 49, 52, 50, 52, 51, 52,
  52, 52, 53, 52, 54, 52, 55, 52, 56, 52, 57]) (List.append [53, 48, 53, 49, 53, 50, 53, 51, 53, 52, 53, 53, 53, 54, 53, 55, 53, 56, 53, 57, 54, 48, 54, 49, 54, 50, 54, 51, 54, 52,
  54, 53, 54, 54, 54, 55, 54, 56, 54, 57, 55, 48, 55, 49, 55, 50, 55, 51, 55, 52] [55, 53, 55, 54, 55, 55, 55, 56, 55, 57, 56, 48, 56, 49, 56, 50, 56, 51, 56, 52, 56, 53, 56, 54,
  56, 55, 56, 56, 56, 57, 57, 48, 57, 49, 57, 50, 57, 51, 57, 52, 57, 53, 57, 54, 57, 55, 57, 56, 57, 57])))) m30) fun n31 => oB (natIdx (IntKind.wrap IntKind.u32 (Int.tmod
  (IntKind.wrap IntKind.u32 (Int.tdiv (IntKind.wrap IntKind.u32 (Int.tmod n4 100000000)) 10000)) 100 * 2)) 200) fun m32 => oB (bAt (ByteArray.mk (List.toArray (List.append
  (List.append [48, 48, 48, 49, 48, 50, 48, 51, 48, 52, 48, 53, 48, 54, 48, 55, 48, 56, 48, 57, 49, 48, 49, 49, 49, 50, 49, 51, 49, 52, 49, 53, 49, 54, 49, 55, 49, 56, 49, 57, 50,
  48, 50, 49, 50, 50, 50, 51, 50, 52] [50, 53, 50, 54, 50, 55, 50, 56, 50, 57, 51, 48, 51, 49, 51, 50, 51, 51, 51, 52, 51, 53, 51, 54, 51, 55, 51, 56, 51, 57, 52, 48, 52, 49, 52,
  50, 52, 51, 52, 52, 52, 53, 52, 54, 52, 55, 52, 56, 52, 57]) (List.append [53, 48, 53, 49, 53, 50, 53, 51, 53, 52, 53, 53, 53, 54, 53, 55, 53, 56, 53, 57, 54, 48, 54, 49, 54, 50,
  54, 51, 54, 52, 54, 53, 54, 54, 54, 55, 54, 56, 54, 57, 55, 48, 55, 49, 55, 50, 55, 51, 55, 52] [55, 53, 55, 54, 55, 55, 55, 56, 55, 57, 56, 48, 56, 49, 56, 50, 56, 51, 56, 52,
  56, 53, 56, 54, 56, 55, 56, 56, 56, 57, 57, 48, 57, 49, 57, 50, 57, 51, 57, 52, 57, 53, 57, 54, 57, 55, 57, 56, 57, 57])))) m32) fun n33 => aP p1 fun m34 m35 => oB (natIdx
  (IntKind.wrap IntKind.i64 (n5 - 5)) m2) fun m36 => oB (AW.wr h29 m34 (m35 + m36 * 1) (Value.int IntKind.u8 n31)) fun h37 => aP p1 fun m38 m39 => oB (natIdx (IntKind.wrap
  IntKind.i64 (n5 - 6)) m2) fun m40 => oB (AW.wr h37 m38 (m39 + m40 * 1) (Value.int IntKind.u8 n33)) fun h41 => oB (natIdx (IntKind.wrap IntKind.u32 (IntKind.wrap IntKind.u32
  (IntKind.wrap IntKind.u32 (Int.tdiv (IntKind.wrap IntKind.u32 (Int.tdiv (IntKind.wrap IntKind.u32 (Int.tmod n4 100000000)) 10000)) 100) * 2) + 1)) 200) fun m42 => oB (bAt
  (ByteArray.mk (List.toArray (List.append (List.append [48, 48, 48, 49, 48, 50, 48, 51, 48, 52, 48, 53, 48, 54, 48, 55, 48, 56, 48, 57, 49, 48, 49, 49, 49, 50, 49, 51, 49, 52, 49,
  53, 49, 54, 49, 55, 49, 56, 49, 57, 50, 48, 50, 49, 50, 50, 50, 51, 50, 52] [50, 53, 50, 54, 50, 55, 50, 56, 50, 57, 51, 48, 51, 49, 51, 50, 51, 51, 51, 52, 51, 53, 51, 54, 51,
  55, 51, 56, 51, 57, 52, 48, 52, 49, 52, 50, 52, 51, 52, 52, 52, 53, 52, 54, 52, 55, 52, 56, 52, 57]) (List.append [53, 48, 53, 49, 53, 50, 53, 51, 53, 52, 53, 53, 53, 54, 53, 55,
  53, 56, 53, 57, 54, 48, 54, 49, 54, 50, 54, 51, 54, 52, 54, 53, 54, 54, 54, 55, 54, 56, 54, 57, 55, 48, 55, 49, 55, 50, 55, 51, 55, 52] [55, 53, 55, 54, 55, 55, 55, 56, 55, 57,
  56, 48, 56, 49, 56, 50, 56, 51, 56, 52, 56, 53, 56, 54, 56, 55, 56, 56, 56, 57, 57, 48, 57, 49, 57, 50, 57, 51, 57, 52, 57, 53, 57, 54, 57, 55, 57, 56, 57, 57])))) m42) fun n43
  => oB (natIdx (IntKind.wrap IntKind.u32 (IntKind.wrap IntKind.u32 (Int.tdiv (IntKind.wrap IntKind.u32 (Int.tdiv (IntKind.wrap IntKind.u32 (Int.tmod n4 100000000)) 10000)) 100) *
  2)) 200) fun m44 => oB (bAt (ByteArray.mk (List.toArray (List.append (List.append [48, 48, 48, 49, 48, 50, 48, 51, 48, 52, 48, 53, 48, 54, 48, 55, 48, 56, 48, 57, 49, 48, 49, 49,
  49, 50, 49, 51, 49, 52, 49, 53, 49, 54, 49, 55, 49, 56, 49, 57, 50, 48, 50, 49, 50, 50, 50, 51, 50, 52] [50, 53, 50, 54, 50, 55, 50, 56, 50, 57, 51, 48, 51, 49, 51, 50, 51, 51,
  51, 52, 51, 53, 51, 54, 51, 55, 51, 56, 51, 57, 52, 48, 52, 49, 52, 50, 52, 51, 52, 52, 52, 53, 52, 54, 52, 55, 52, 56, 52, 57]) (List.append [53, 48, 53, 49, 53, 50, 53, 51, 53,
  52, 53, 53, 53, 54, 53, 55, 53, 56, 53, 57, 54, 48, 54, 49, 54, 50, 54, 51, 54, 52, 54, 53, 54, 54, 54, 55, 54, 56, 54, 57, 55, 48, 55, 49, 55, 50, 55, 51, 55, 52] [55, 53, 55,
  54, 55, 55, 55, 56, 55, 57, 56, 48, 56, 49, 56, 50, 56, 51, 56, 52, 56, 53, 56, 54, 56, 55, 56, 56, 56, 57, 57, 48, 57, 49, 57, 50, 57, 51, 57, 52, 57, 53, 57, 54, 57, 55, 57,
  56, 57, 57])))) m44) fun n45 => aP p1 fun m46 m47 => oB (natIdx (IntKind.wrap IntKind.i64 (n5 - 7)) m2) fun m48 => oB (AW.wr h41 m46 (m47 + m48 * 1) (Value.int IntKind.u8 n43))
  fun h49 => aP p1 fun m50 m51 => oB (natIdx (IntKind.wrap IntKind.i64 (n5 - 8)) m2) fun m52 => oB (AW.wr h49 m50 (m51 + m52 * 1) (Value.int IntKind.u8 n45)) fun h53 => unitAt P
  f_strconv_formatBase10 1 [0, 1, 4] [Value.slice p1 m2 m3, Value.int IntKind.u64 (IntKind.wrap IntKind.u64 (Int.tdiv n4 100000000)), Value.int IntKind.i64 (IntKind.wrap IntKind.i64 (n5 - 8))] h53
  Q) (bC (decide (n5 ≥ 4)) (oB (natIdx (IntKind.wrap IntKind.u32 (IntKind.wrap IntKind.u32 (Int.tmod (Int.tmod (IntKind.wrap IntKind.u32 n4) 10000) 100 * 2) + 1)) 200) fun m54 =>
  oB (bAt (ByteArray.mk (List.toArray (List.append (List.append [48, 48, 48, 49, 48, 50, 48, 51, 48, 52, 48, 53, 48, 54, 48, 55, 48, 56, 48, 57, 49, 48, 49, 49, 49, 50, 49, 51, 49,
  52, 49, 53, 49, 54, 49, 55, 49, 56, 49, 57, 50, 48, 50, 49, 50, 50, 50, 51, 50, 52] [50, 53, 50, 54, 50, 55, 50, 56, 50, 57, 51, 48, 51, 49, 51, 50, 51, 51, 51, 52, 51, 53, 51,
  54, 51, 55, 51, 56, 51, 57, 52, 48, 52, 49, 52, 50, 52, 51, 52, 52, 52, 53, 52, 54, 52, 55, 52, 56, 52, 57]) (List.append [53, 48, 53, 49, 53, 50, 53, 51, 53, 52, 53, 53, 53, 54,
  53, 55, 53, 56, 53, 57, 54, 48, 54, 49, 54, 50, 54, 51, 54, 52, 54, 53, 54, 54, 54, 55, 54, 56, 54, 57, 55, 48, 55, 49, 55, 50, 55, 51, 55, 52] [55, 53, 55, 54, 55, 55, 55, 56,
  55, 57, 56, 48, 56, 49, 56, 50, 56, 51, 56, 52, 56, 53, 56, 54, 56, 55, 56, 56, 56, 57, 57, 48, 57, 49, 57, 50, 57, 51, 57, 52, 57, 53, 57, 54, 57, 55, 57, 56, 57, 57])))) m54)
  fun n55 => oB (natIdx (IntKind.wrap IntKind.u32 (Int.tmod (Int.tmod (IntKind.wrap IntKind.u32 n4) 10000) 100 * 2)) 200) fun m56 => oB (bAt (ByteArray.mk (List.toArray
  (List.append (List.append [48, 48, 48, 49, 48, 50, 48, 51, 48, 52, 48, 53, 48, 54, 48, 55, 48, 56, 48, 57, 49, 48, 49, 49, 49, 50, 49, 51, 49, 52, 49, 53, 49, 54, 49, 55, 49, 56,
  49, 57, 50, 48, 50, 49, 50, 50, 50, 51, 50, 52] [50, 53, 50, 54, 50, 55, 50, 56, 50, 57, 51, 48, 51, 49, 51, 50, 51, 51, 51, 52, 51, 53, 51, 54, 51, 55, 51, 56, 51, 57, 52, 48,
  52, 49, 52, 50, 52, 51, 52, 52, 52, 53, 52, 54, 52, 55, 52, 56, 52, 57]) (List.append [53, 48, 53, 49, 53, 50, 53, 51, 53, 52, 53, 53, 53, 54, 53, 55, 53, 56, 53, 57, 54, 48, 54,
  49, 54, 50, 54, 51, 54, 52, 54, 53, 54, 54, 54, 55, 54, 56, 54, 57, 55, 48, 55, 49, 55, 50, 55, 51, 55, 52] [55, 53, 55, 54, 55, 55, 55, 56, 55, 57, 56, 48, 56, 49, 56, 50, 56,
  51, 56, 52, 56, 53, 56, 54, 56, 55, 56, 56, 56, 57, 57, 48, 57, 49, 57, 50, 57, 51, 57, 52, 57, 53, 57, 54, 57, 55, 57, 56, 57, 57])))) m56) fun n57 => aP p1 fun m58 m59 => oB
  (natIdx (IntKind.wrap IntKind.i64 (n5 - 1)) m2) fun m60 => oB (AW.wr h m58 (m59 + m60 * 1) (Value.int IntKind.u8 n55)) fun h61 => aP p1 fun m62 m63 => oB (natIdx (IntKind.wrap
  IntKind.i64 (n5 - 2)) m2) fun m64 => oB (AW.wr h61 m62 (m63 + m64 * 1) (Value.int IntKind.u8 n57)) fun h65 => oB (natIdx (IntKind.wrap IntKind.u32 (IntKind.wrap IntKind.u32
  (IntKind.wrap IntKind.u32 (Int.tdiv (Int.tmod (IntKind.wrap IntKind.u32 n4) 10000) 100) * 2) + 1)) 200) fun m66 => oB (bAt (ByteArray.mk (List.toArray (List.append (List.append
  [48, 48, 48, 49, 48, 50, 48, 51, 48, 52, 48, 53, 48, 54, 48, 55, 48, 56, 48, 57, 49, 48, 49, 49, 49, 50, 49, 51, 49, 52, 49, 53, 49, 54, 49, 55, 49, 56, 49, 57, 50, 48, 50, 49,
  50, 50, 50, 51, 50, 52] [50, 53, 50, 54, 50, 55, 50, 56, 50, 57, 51, 48, 51, 49, 51, 50, 51, 51, 51, 52, 51, 53, 51, 54, 51, 55, 51, 56, 51, 57, 52, 48, 52, 49, 52, 50, 52, 51,
  52, 52, 52, 53, 52, 54, 52, 55, 52, 56, 52, 57]) (List.append [53, 48, 53, 49, 53, 50, 53, 51, 53, 52, 53, 53, 53, 54, 53, 55, 53, 56, 53, 57, 54, 48, 54, 49, 54, 50, 54, 51, 54,
  52, 54, 53, 54, 54, 54, 55, 54, 56, 54, 57, 55, 48, 55, 49, 55, 50, 55, 51, 55, 52] [55, 53, 55, 54, 55, 55, 55, 56, 55, 57, 56, 48, 56, 49, 56, 50, 56, 51, 56, 52, 56, 53, 56,
  54, 56, 55, 56, 56, 56, 57, 57, 48, 57, 49, 57, 50, 57, 51, 57, 52, 57, 53, 57, 54, 57, 55, 57, 56, 57, 57])))) m66) fun n67 => oB (natIdx (IntKind.wrap IntKind.u32 (IntKind.wrap
  IntKind.u32 (Int.tdiv (Int.tmod (IntKind.wrap IntKind.u32 n4) 10000) 100) * 2)) 200) fun m68 => oB (bAt (ByteArray.mk (List.toArray (List.append (List.append [48, 48, 48, 49, 48,
  50, 48, 51, 48, 52, 48, 53, 48, 54, 48, 55, 48, 56, 48, 57, 49, 48, 49, 49, 49, 50, 49, 51, 49, 52, 49, 53, 49, 54, 49, 55, 49, 56, 49, 57, 50, 48, 50, 49, 50, 50, 50, 51, 50,
  52] [50, 53, 50, 54, 50, 55, 50, 56, 50, 57, 51, 48, 51, 49, 51, 50, 51, 51, 51, 52, 51, 53, 51, 54, 51, 55, 51, 56, 51, 57, 52, 48, 52, 49, 52, 50, 52, 51, 52, 52, 52, 53, 52,
  54, 52, 55, 52, 56, 52, 57]) (List.append [53, 48, 53, 49, 53, 50, 53, 51, 53, 52, 53, 53, 53, 54, 53, 55, 53, 56, 53, 57, 54, 48, 54, 49, 54, 50, 54, 51, 54, 52, 54, 53, 54, 54,
  54, 55, 54, 56, 54, 57, 55, 48, 55, 49, 55, 50, 55, 51, 55, 52] [55, 53, 55, 54, 55, 55, 55, 56, 55, 57, 56, 48, 56, 49, 56, 50, 56, 51, 56, 52, 56, 53, 56, 54, 56, 55, 56, 56,
  56, 57, 57, 48, 57, 49, 57, 50, 57, 51, 57, 52, 57, 53, 57, 54, 57, 55, 57, 56, 57, 57])))) m68) fun n69 => aP p1 fun m70 m71 => oB (natIdx (IntKind.wrap IntKind.i64 (n5 - 3))
  m2) fun m72 => oB (AW.wr h65 m70 (m71 + m72 * 1) (Value.int IntKind.u8 n67)) fun h73 => aP p1 fun m74 m75 => oB (natIdx (IntKind.wrap IntKind.i64 (n5 - 4)) m2) fun m76 => oB
  (AW.wr h73 m74 (m75 + m76 * 1) (Value.int IntKind.u8 n69)) fun h77 => unitAt P f_strconv_formatBase10 20 [0, 4, 12] [Value.slice p1 m2 m3, Value.int IntKind.i64 (IntKind.wrap IntKind.i64 (n5 -
  4)), Value.int IntKind.u32 (IntKind.wrap IntKind.u32 (Int.tdiv (IntKind.wrap IntKind.u32 n4) 10000))] h77 Q) (unitAt P f_strconv_formatBase10 20 [0, 4, 12] [Value.slice p1 m2 m3, Value.int
  IntKind.i64 n5, Value.int IntKind.u32 (IntKind.wrap IntKind.u32 n4)] h Q))) : unitAt P f_strconv_formatBase10 1 [0, 1, 4] [Value.slice p1 m2 m3, Value.int IntKind.u64 n4, Value.int IntKind.i64
  n5] h Q := unit_ok (n := 400) (ann := annOf [(1, [0, 1, 4]), (20, [0, 4, 12]), (25, [0, 4, 12])]) (Eq.mp (by kernel_rfl) H)
theorem r_strconv_formatBase10_20 {p1 : Option Addr} {m2 : Nat} {m3 : Nat} {n4 : Int} {n5 : Int} {h : AW} {Q : Value → AW → Prop} (H : bC (decide (n4 ≥ 2)) (oB (natIdx (IntKind.wrap IntKind.u32
  (IntKind.wrap IntKind.u32 (Int.tmod n5 100 * 2) + 1)) 200) fun m6 => oB (bAt (ByteArray.mk (List.toArray (List.append (List.append [48, 48, 48, 49, 48, 50, 48, 51, 48, 52, 48,
  53, 48, 54, 48, 55, 48, 56, 48, 57, 49, 48, 49, 49, 49, 50, 49, 51, 49, 52, 49, 53, 49, 54, 49, 55, 49, 56, 49, 57, 50, 48, 50, 49, 50, 50, 50, 51, 50, 52] [50, 53, 50, 54, 50,
  55, 50, 56, 50, 57, 51, 48, 51, 49, 51, 50, 51, 51, 51, 52, 51, 53, 51, 54, 51, 55, 51, 56, 51, 57, 52, 48, 52, 49, 52, 50, 52, 51, 52, 52, 52, 53, 52, 54, 52, 55, 52, 56, 52,
  57]) (List.append [53, 48, 53, 49, 53, 50, 53, 51, 53, 52, 53, 53, 53, 54, 53, 55, 53, 56, 53, 57, 54, 48, 54, 49, 54, 50, 54, 51, 54, 52, 54, 53, 54, 54, 54, 55, 54, 56, 54, 57,
  55, 48, 55, 49, 55, 50, 55, 51, 55, 52] [55, 53, 55, 54, 55, 55, 55, 56, 55, 57, 56, 48, 56, 49, 56, 50, 56, 51, 56, 52, 56, 53, 56, 54, 56, 55, 56, 56, 56, 57, 57, 48, 57, 49,
  57, 50, 57, 51, 57, 52, 57, 53, 57, 54, 57, 55, 57, 56, 57, 57])))) m6) fun n7 => oB (natIdx (IntKind.wrap IntKind.u32 (Int.tmod n5 100 * 2)) 200) fun m8 => oB (bAt (ByteArray.mk
  (List.toArray (List.append (List.append [48, 48, 48, 49, 48, 50, 48, 51, 48, 52, 48, 53, 48, 54, 48, 55, 48, 56, 48, 57, 49, 48, 49, 49, 49, 50, 49, 51, 49, 52, 49, 53, 49, 54,
  49, 55, 49, 56, 49, 57, 50, 48, 50, 49, 50, 50, 50, 51, 50, 52] [50, 53, 50, 54, 50, 55, 50, 56, 50, 57, 51, 48, 51, 49, 51, 50, 51, 51, 51, 52, 51, 53, 51, 54, 51, 55, 51, 56,
  51, 57, 52, 48, 52, 49, 52, 50, 52, 51, 52, 52, 52, 53, 52, 54, 52, 55, 52, 56, 52, 57]) (List.append [53, 48, 53, 49, 53, 50, 53, 51, 53, 52, 53, 53, 53, 54, 53, 55, 53, 56, 53,
  57, 54, 48, 54, 49, 54, 50, 54, 51, 54, 52, 54, 53, 54, 54, 54, 55, 54, 56, 54, 57, 55, 48, 55, 49, 55, 50, 55, 51, 55, 52] [55, 53, 55, 54, 55, 55, 55, 56, 55, 57, 56, 48, 56,
  49, 56, 50, 56, 51, 56, 52, 56, 53, 56, 54, 56, 55, 56, 56, 56, 57, 57, 48, 57, 49, 57, 50, 57, 51, 57, 52, 57, 53, 57, 54, 57, 55, 57, 56, 57, 57])))) m8) fun n9 => aP p1 fun
  m10 m11 => oB (natIdx (IntKind.wrap IntKind.i64 (n4 - 1)) m2) fun m12 => oB (AW.wr h m10 (m11 + m12 * 1) (Value.int IntKind.u8 n7)) fun h13 => aP p1 fun m14 m15 => oB (natIdx
  (IntKind.wrap IntKind.i64 (n4 - 2)) m2) fun m16 => oB (AW.wr h13 m14 (m15 + m16 * 1) (Value.int IntKind.u8 n9)) fun h17 => unitAt P f_strconv_formatBase10 25 [0, 4, 12] [Value.slice p1 m2 m3,
  Value.int IntKind.i64 (IntKind.wrap IntKind.i64 (n4 - 2)), Value.int IntKind.u32 (IntKind.wrap IntKind.u32 (Int.tdiv n5 100))] h17 Q) (unitAt P f_strconv_formatBase10 25 [0, 4, 12] [Value.slice
  p1 m2 m3, Value.int IntKind.i64 n4, Value.int IntKind.u32 n5] h Q)) : unitAt P f_strconv_formatBase10 20 [0, 4, 12] [Value.slice p1 m2 m3, Value.int IntKind.i64 n4, Value.int IntKind.u32 n5] h Q
  := unit_ok (n := 400) (ann := annOf [(1, [0, 1, 4]), (20, [0, 4, 12]), (25, [0, 4, 12])]) (Eq.mp (by kernel_rfl) H)
theorem r_strconv_formatBase10_25 {p1 : Option Addr} {m2 : Nat} {m3 : Nat} {n4 : Int} {n5 : Int} {h : AW} {Q : Value → AW → Prop} (H : bC (decide (n4 > 0)) (aP p1 fun m6 m7 => oB (natIdx 0 m2)
  fun m8 => oB (AW.wr h m6 (m7 + m8 * 1) (Value.int IntKind.u8 (IntKind.wrap IntKind.u8 (IntKind.wrap IntKind.u32 (48 + n5))))) fun h9 => Q (Value.tuple (Array.mk [])) h9) (Q
  (Value.tuple (Array.mk [])) h)) : unitAt P f_strconv_formatBase10 25 [0, 4, 12] [Value.slice p1 m2 m3, Value.int IntKind.i64 n4, Value.int IntKind.u32 n5] h Q := unit_ok (n := 400) (ann := annOf
  [(1, [0, 1, 4]), (20, [0, 4, 12]), (25, [0, 4, 12])]) (Eq.mp (by kernel_rfl) H)
theorem r_strconv_lower {n1 : Int} {h : AW} {Q : Value → AW → Prop} (H : Q (Value.int IntKind.u8 (IntKind.wrap IntKind.u8 (↑(BitVec.toNat (BitVec.ofInt (IntKind.bits IntKind.u8) n1 |||
  BitVec.ofInt (IntKind.bits IntKind.u8) 32)) : Int))) h) : EvQ P f_strconv_lower [Value.int IntKind.u8 n1] h Q := fn_ok (n := 400) (ann := annOf []) (Eq.mp (by kernel_rfl) H)
theorem r_strconv_log10Pow2 {n1 : Int} {h : AW} {Q : Value → AW → Prop} (H : Q (Value.int IntKind.i64 (Int.fdiv (IntKind.wrap IntKind.i64 (n1 * 78913)) 262144)) h) : EvQ P f_strconv_log10Pow2 [Value.int
  IntKind.i64 n1] h Q := fn_ok (n := 400) (ann := annOf []) (Eq.mp (by kernel_rfl) H)
theorem r_math_bits_Len64 {n1 : Int} {h : AW} {Q : Value → AW → Prop} (H : bC (decide (n1 ≥ 4294967296)) (unitAt P f_math_bits_Len64 4 [0, 2] [Value.int IntKind.u64 (Int.fdiv n1 4294967296), Value.int
  IntKind.i64 32] h Q) (unitAt P f_math_bits_Len64 4 [0, 2] [Value.int IntKind.u64 n1, Value.int IntKind.i64 0] h Q)) : EvQ P f_math_bits_Len64 [Value.int IntKind.u64 n1] h Q := fn_ok (n := 400) (ann :=
  annOf [(4, [0, 2]), (7, [0, 2])]) (Eq.mp (by kernel_rfl) H)
theorem r_math_bits_Len64_4 {n1 : Int} {n2 : Int} {h : AW} {Q : Value → AW → Prop} (H : bC (decide (n1 ≥ 65536)) (unitAt P f_math_bits_Len64 7 [0, 2] [Value.int IntKind.u64 (Int.fdiv n1 65536),
  Value.int IntKind.i64 (IntKind.wrap IntKind.i64 (n2 + 16))] h Q) (unitAt P f_math_bits_Len64 7 [0, 2] [Value.int IntKind.u64 n1, Value.int IntKind.i64 n2] h Q)) : unitAt P f_math_bits_Len64 4 [0, 2]
  [Value.int IntKind.u64 n1, Value.int IntKind.i64 n2] h Q := unit_ok (n := 400) (ann := annOf [(4, [0, 2]), (7, [0, 2])]) (Eq.mp (by kernel_rfl) H)
theorem r_math_bits_Len64_7 {n1 : Int} {n2 : Int} {h : AW} {Q : Value → AW → Prop} (H : bC (decide (n1 ≥ 256)) (oB (natIdx (IntKind.wrap IntKind.u8 (Int.fdiv n1 256)) 256) fun m3 => oB (bAt
  (ByteArray.mk (List.toArray (List.append (List.append [0, 1, 2, 2, 3, 3, 3, 3, 4, 4, 4, 4, 4, 4, 4, 4, 5, 5, 5, 5, 5, 5, 5, 5, 5, 5, 5, 5, 5, 5, 5, 5, 6, 6, 6, 6, 6, 6, 6, 6, 6,
  6, 6, 6, 6, 6, 6, 6, 6, 6, 6, 6, 6, 6, 6, 6, 6, 6, 6, 6, 6, 6, 6, 6] [7, 7, 7, 7, 7, 7, 7, 7, 7, 7, 7, 7, 7, 7, 7, 7, 7, 7, 7, 7, 7, 7, 7, 7, 7, 7, 7, 7, 7, 7, 7, 7, 7, 7, 7, 7,
  7, 7, 7, 7, 7, 7, 7, 7, 7, 7, 7, 7, 7, 7, 7, 7, 7, 7, 7, 7, 7, 7, 7, 7, 7, 7, 7, 7]) (List.append [8, 8, 8, 8, 8, 8, 8, 8, 8, 8, 8, 8, 8, 8, 8, 8, 8, 8, 8, 8, 8, 8, 8, 8, 8, 8,
  8, 8, 8, 8, 8, 8, 8, 8, 8, 8, 8, 8, 8, 8, 8, 8, 8, 8, 8, 8, 8, 8, 8, 8, 8, 8, 8, 8, 8, 8, 8, 8, 8, 8, 8, 8, 8, 8] [8, 8, 8, 8, 8, 8, 8, 8, 8, 8, 8, 8, 8, 8, 8, 8, 8, 8, 8, 8, 8,
  8, 8, 8, 8, 8, 8, 8, 8, 8, 8, 8, 8, 8, 8, 8, 8, 8, 8, 8, 8, 8, 8, 8, 8, 8, 8, 8, 8, 8, 8, 8, 8, 8, 8, 8, 8, 8, 8, 8, 8, 8, 8, 8])))) m3) fun n4 => Q (Value.int IntKind.i64
  (IntKind.wrap IntKind.i64 (IntKind.wrap IntKind.i64 (n2 + 8) + IntKind.wrap IntKind.i64 n4))) h) (oB (natIdx (IntKind.wrap IntKind.u8 n1) 256) fun m5 => oB (bAt (ByteArray.mk
  (List.toArray (List.append (List.append [0, 1, 2, 2, 3, 3, 3, 3, 4, 4, 4, 4, 4, 4, 4, 4, 5, 5, 5, 5, 5, 5, 5, 5, 5, 5, 5, 5, 5, 5, 5, 5, 6, 6, 6, 6, 6, 6, 6, 6, 6, 6, 6, 6, 6, 6,
  6, 6, 6, 6, 6, 6, 6, 6, 6, 6, 6, 6, 6, 6, 6, 6, 6, 6] [7, 7, 7, 7, 7, 7, 7, 7, 7, 7, 7, 7, 7, 7, 7, 7, 7, 7, 7, 7, 7, 7, 7, 7, 7, 7, 7, 7, 7, 7, 7, 7, 7, 7, 7, 7, 7, 7, 7, 7, 7,
  7, 7, 7, 7, 7, 7, 7, 7, 7, 7, 7, 7, 7, 7, 7, 7, 7, 7, 7, 7, 7, 7, 7]) (List.append [8, 8, 8, 8, 8, 8, 8, 8, 8, 8, 8, 8, 8, 8, 8, 8, 8, 8, 8, 8, 8, 8, 8, 8, 8, 8, 8, 8, 8, 8, 8,
  8, 8, 8, 8, 8, 8, 8, 8, 8, 8, 8, 8, 8, 8, 8, 8, 8, 8, 8, 8, 8, 8, 8, 8, 8, 8, 8, 8, 8, 8, 8, 8, 8] [8, 8, 8, 8, 8, 8, 8, 8, 8, 8, 8, 8, 8, 8, 8, 8, 8, 8, 8, 8, 8, 8, 8, 8, 8, 8,
  8, 8, 8, 8, 8, 8, 8, 8, 8, 8, 8, 8, 8, 8, 8, 8, 8, 8, 8, 8, 8, 8, 8, 8, 8, 8, 8, 8, 8, 8, 8, 8, 8, 8, 8, 8, 8, 8])))) m5) fun n6 => Q (Value.int IntKind.i64 (IntKind.wrap
  IntKind.i64 (n2 + IntKind.wrap IntKind.i64 n6))) h)) : unitAt P f_math_bits_Len64 7 [0, 2] [Value.int IntKind.u64 n1, Value.int IntKind.i64 n2] h Q := unit_ok (n := 400) (ann := annOf [(4,
  [0, 2]), (7, [0, 2])]) (Eq.mp (by kernel_rfl) H)
theorem r_strconv_bool2_int {b1 : Bool} {h : AW} {Q : Value → AW → Prop} (H : bC b1 (Q (Value.int IntKind.i64 1) h) (Q (Value.int IntKind.i64 0) h)) : EvQ P f_strconv_bool2_int [Value.bool b1] h Q := fn_ok
  (n := 400) (ann := annOf []) (Eq.mp (by kernel_rfl) H)
theorem r_p_strings_Builder_String {p1 : Option Addr} {h : AW} {Q : Value → AW → Prop} (H : aP p1 fun m2 m3 => oB (AW.rd h m2 (m3 + 1)) fun v4 => vSl v4 fun p5 m6 m7 => oB (sdataB [Value.slice p5 m6
  m7]) fun v8 => vPtr v8 fun p9 => aP p1 fun m10 m11 => oB (AW.rd h m10 (m11 + 1)) fun v12 => vSl v12 fun p13 m14 m15 => oP (ustrB P h (Array.mk [ty_p_uint8, ty_int]) [Value.pointer p9,
  Value.int IntKind.i64 (↑m14 : Int)]) fun v16 h17 => vStr v16 fun s18 => Q (Value.string s18) h17) : EvQ P f_p_strings_Builder_String [Value.pointer p1] h Q := fn_ok (n := 400) (ann := annOf []) (Eq.mp
  (by kernel_rfl) H)
end Go.Proofs.YtgdkekdedgkglaaDoor
end

section
/- Numbers in decimal digits, made by the library. -/
namespace Go.Proofs.YtgdkekdedgkglaaDoor
open Go.Abs Go.Abs.Fo
set_option maxRecDepth 100000
attribute [local irreducible] unitAt EvQ
variable {h : AW} {μ : Paint} {ρ : Store} {Q : Value → AW → Prop}
def tblS : ByteArray := (ByteArray.mk (List.toArray (List.append (List.append [48, 48, 48, 49, 48, 50, 48, 51, 48, 52, 48, 53, 48, 54, 48, 55, 48, 56, 48, 57, 49, 48, 49, 49, 49, 50, 49, 51, 49, 52, 49,
  53, 49, 54, 49, 55, 49, 56, 49, 57, 50, 48, 50, 49, 50, 50, 50, 51, 50, 52] [50, 53, 50, 54, 50, 55, 50, 56, 50, 57, 51, 48, 51, 49, 51, 50, 51, 51, 51, 52, 51, 53, 51, 54, 51,
  55, 51, 56, 51, 57, 52, 48, 52, 49, 52, 50, 52, 51, 52, 52, 52, 53, 52, 54, 52, 55, 52, 56, 52, 57]) (List.append [53, 48, 53, 49, 53, 50, 53, 51, 53, 52, 53, 53, 53, 54, 53, 55,
  53, 56, 53, 57, 54, 48, 54, 49, 54, 50, 54, 51, 54, 52, 54, 53, 54, 54, 54, 55, 54, 56, 54, 57, 55, 48, 55, 49, 55, 50, 55, 51, 55, 52] [55, 53, 55, 54, 55, 55, 55, 56, 55, 57,
  56, 48, 56, 49, 56, 50, 56, 51, 56, 52, 56, 53, 56, 54, 56, 55, 56, 56, 56, 57, 57, 48, 57, 49, 57, 50, 57, 51, 57, 52, 57, 53, 57, 54, 57, 55, 57, 56, 57, 57]))))
def tblL : ByteArray := (ByteArray.mk (List.toArray (List.append (List.append [0, 1, 2, 2, 3, 3, 3, 3, 4, 4, 4, 4, 4, 4, 4, 4, 5, 5, 5, 5, 5, 5, 5, 5, 5, 5, 5, 5, 5, 5, 5, 5, 6, 6, 6, 6, 6, 6, 6, 6, 6, 6,
  6, 6, 6, 6, 6, 6, 6, 6, 6, 6, 6, 6, 6, 6, 6, 6, 6, 6, 6, 6, 6, 6] [7, 7, 7, 7, 7, 7, 7, 7, 7, 7, 7, 7, 7, 7, 7, 7, 7, 7, 7, 7, 7, 7, 7, 7, 7, 7, 7, 7, 7, 7, 7, 7, 7, 7, 7, 7, 7,
  7, 7, 7, 7, 7, 7, 7, 7, 7, 7, 7, 7, 7, 7, 7, 7, 7, 7, 7, 7, 7, 7, 7, 7, 7, 7, 7]) (List.append [8, 8, 8, 8, 8, 8, 8, 8, 8, 8, 8, 8, 8, 8, 8, 8, 8, 8, 8, 8, 8, 8, 8, 8, 8, 8, 8,
  8, 8, 8, 8, 8, 8, 8, 8, 8, 8, 8, 8, 8, 8, 8, 8, 8, 8, 8, 8, 8, 8, 8, 8, 8, 8, 8, 8, 8, 8, 8, 8, 8, 8, 8, 8, 8] [8, 8, 8, 8, 8, 8, 8, 8, 8, 8, 8, 8, 8, 8, 8, 8, 8, 8, 8, 8, 8, 8,
  8, 8, 8, 8, 8, 8, 8, 8, 8, 8, 8, 8, 8, 8, 8, 8, 8, 8, 8, 8, 8, 8, 8, 8, 8, 8, 8, 8, 8, 8, 8, 8, 8, 8, 8, 8, 8, 8, 8, 8, 8, 8]))))
theorem tblS_lo : ∀ k : Fin 100, bAt tblS (k.1 * 2) = some ((48 + k.1 / 10 : Nat) : Int) := by decide +kernel
theorem tblS_hi : ∀ k : Fin 100, bAt tblS (k.1 * 2 + 1) = some ((48 + k.1 % 10 : Nat) : Int) := by decide +kernel
theorem tblS_sub : ∀ k : Fin 100, 10 ≤ k.1 → bSub tblS (k.1 * 2) (k.1 * 2 + 2) = digS k.1 := by decide +kernel
theorem tblD_sub : ∀ k : Fin 10, bSub (ByteArray.mk #[48, 49, 50, 51, 52, 53, 54, 55, 56, 57, 97, 98, 99, 100, 101, 102, 103, 104, 105, 106, 107, 108, 109, 110, 111, 112, 113, 114, 115, 116, 117, 118, 119, 120, 121, 122]) k.1 (k.1 + 1) = digS k.1 := by decide +kernel
def lenM (n : Nat) : Nat := if n ≥ 128 then 8 else if n ≥ 64 then 7 else if n ≥ 32 then 6 else if n ≥ 16 then 5 else if n ≥ 8 then 4 else if n ≥ 4 then 3 else if n ≥ 2 then 2 else if n ≥ 1 then 1 else 0
theorem tblL_at : ∀ k : Fin 256, bAt tblL k.1 = some (lenM k.1 : Int) := by decide +kernel
theorem small_ok {n : Nat} (hn : n < 100) (hq : Q (.string (digS n)) h) : EvQ P f_strconv_small [.int .i64 (n : Int)] h Q := by
  refine r_strconv_small ?_
  refine bC_iff (fun e => ?_) (fun e => ?_)
  · have e : n < 10 := by have := of_decide_eq_true e; omega
    rw [wrapS (by omega), natBnd_eq (show n + 1 ≤ 36 by omega)]
    simp only [oB_some, bC_true, bC_false, vInt_int, vBool_bool, vStr_string, vPtr_pointer, vSl_slice, vMap_map, vFun_func, vAgg_agg, vTup_tuple, vIfc_nil, vIfc_iface, lC_cons, lN_nil, aP_some, shO_none, shO_some, Option.isNone_none, Option.isNone_some, Bool.not_true, Bool.not_false]
    rw [natBnd_eq (show n ≤ n + 1 by omega)]
    simp only [oB_some, bC_true, bC_false, vInt_int, vBool_bool, vStr_string, vPtr_pointer, vSl_slice, vMap_map, vFun_func, vAgg_agg, vTup_tuple, vIfc_nil, vIfc_iface, lC_cons, lN_nil, aP_some, shO_none, shO_some, Option.isNone_none, Option.isNone_some, Bool.not_true, Bool.not_false]
    have := tblD_sub ⟨n, e⟩
    simp only at this
    rw [this]; exact hq
  · have e : ¬ n < 10 := by have := of_decide_eq_false e; omega
    have h2 : IntKind.wrap .i64 ((n : Int) * 2) = ((n * 2 : Nat) : Int) := by rw [wrap_sm (n := (n : Int) * 2) (by omega) (by omega)]; omega
    have h3 : IntKind.wrap .i64 (((n * 2 : Nat) : Int) + 2) = ((n * 2 + 2 : Nat) : Int) := by rw [wrap_sm (n := ((n * 2 : Nat) : Int) + 2) (by omega) (by omega)]; omega
    rw [h2, h3, natBnd_eq (show n * 2 + 2 ≤ 200 by omega)]
    simp only [oB_some, bC_true, bC_false, vInt_int, vBool_bool, vStr_string, vPtr_pointer, vSl_slice, vMap_map, vFun_func, vAgg_agg, vTup_tuple, vIfc_nil, vIfc_iface, lC_cons, lN_nil, aP_some, shO_none, shO_some, Option.isNone_none, Option.isNone_some, Bool.not_true, Bool.not_false]
    rw [natBnd_eq (show n * 2 ≤ n * 2 + 2 by omega)]
    simp only [oB_some, bC_true, bC_false, vInt_int, vBool_bool, vStr_string, vPtr_pointer, vSl_slice, vMap_map, vFun_func, vAgg_agg, vTup_tuple, vIfc_nil, vIfc_iface, lC_cons, lN_nil, aP_some, shO_none, shO_some, Option.isNone_none, Option.isNone_some, Bool.not_true, Bool.not_false]
    have := tblS_sub ⟨n, hn⟩ (by simp only; omega)
    simp only at this
    have e2 : bSub tblS (n * 2) (n * 2 + 2) = digS n := this
    have hq2 : Q (.string (bSub tblS (n * 2) (n * 2 + 2))) h := by rw [e2]; exact hq
    exact hq2
/-- The powers of ten. -/
abbrev pow10 : List Value := [.int .u64 1, .int .u64 10, .int .u64 100, .int .u64 1000, .int .u64 10000, .int .u64 100000, .int .u64 1000000, .int .u64 10000000, .int .u64 100000000, .int .u64 1000000000, .int .u64 10000000000, .int .u64 100000000000, .int .u64 1000000000000, .int .u64 10000000000000, .int .u64 100000000000000, .int .u64 1000000000000000, .int .u64 10000000000000000, .int .u64 100000000000000000, .int .u64 1000000000000000000, .int .u64 10000000000000000000]
theorem len64_ok {n : Nat} (hn : n ≤ 1000) (hq : Q (.int .i64 ((if n ≥ 256 then 8 + lenM (n / 256) else lenM n : Nat) : Int)) h) : EvQ P f_math_bits_Len64 [.int .u64 (n : Int)] h Q := by
  refine r_math_bits_Len64 ?_
  rw [show decide ((n : Int) ≥ 4294967296) = false from decide_eq_false (by omega)]
  simp only [oB_some, bC_true, bC_false, vInt_int, vBool_bool, vStr_string, vPtr_pointer, vSl_slice, vMap_map, vFun_func, vAgg_agg, vTup_tuple, vIfc_nil, vIfc_iface, lC_cons, lN_nil, aP_some, shO_none, shO_some, Option.isNone_none, Option.isNone_some, Bool.not_true, Bool.not_false]
  refine r_math_bits_Len64_4 ?_
  rw [show decide ((n : Int) ≥ 65536) = false from decide_eq_false (by omega)]
  simp only [oB_some, bC_true, bC_false, vInt_int, vBool_bool, vStr_string, vPtr_pointer, vSl_slice, vMap_map, vFun_func, vAgg_agg, vTup_tuple, vIfc_nil, vIfc_iface, lC_cons, lN_nil, aP_some, shO_none, shO_some, Option.isNone_none, Option.isNone_some, Bool.not_true, Bool.not_false]
  refine r_math_bits_Len64_7 ?_
  have hlen : ∀ k, lenM k ≤ 8 := fun k => by unfold lenM; repeat' split
                                             all_goals omega
  refine bC_iff (fun e => ?_) (fun e => ?_)
  · have e : n ≥ 256 := by have := of_decide_eq_true e; omega
    rw [if_pos e] at hq
    have h1 : IntKind.wrap .u8 (Int.fdiv (n : Int) 256) = ((n / 256 : Nat) : Int) := by
      have : Int.fdiv (n : Int) ((256 : Nat) : Int) = ((n / 256 : Nat) : Int) := by rw [Int.fdiv_eq_ediv_of_nonneg _ (by omega)]; rfl
      rw [show (256 : Int) = ((256 : Nat) : Int) from rfl, this, wrap8 (by omega)]
    rw [h1, natIdx_eq (show n / 256 < 256 by omega)]
    simp only [oB_some, bC_true, bC_false, vInt_int, vBool_bool, vStr_string, vPtr_pointer, vSl_slice, vMap_map, vFun_func, vAgg_agg, vTup_tuple, vIfc_nil, vIfc_iface, lC_cons, lN_nil, aP_some, shO_none, shO_some, Option.isNone_none, Option.isNone_some, Bool.not_true, Bool.not_false]
    have ht := tblL_at ⟨n / 256, by omega⟩
    refine oB_bind (show bAt _ (n / 256) = _ from ht) ?_
    have := hlen (n / 256)
    rw [wrap_sm (n := (lenM (n / 256) : Int)) (by omega) (by omega), show IntKind.wrap .i64 (0 + 8) = 8 from rfl, wrap_sm (n := 8 + (lenM (n / 256) : Int)) (by omega) (by omega)]
    have e3 : (8 : Int) + (lenM (n / 256) : Int) = ((8 + lenM (n / 256) : Nat) : Int) := by omega
    rw [e3]; exact hq
  · have e : ¬ n ≥ 256 := by have := of_decide_eq_false e; omega
    rw [if_neg e] at hq
    rw [wrap8 (n := n) (by omega), natIdx_eq (show n < 256 by omega)]
    simp only [oB_some, bC_true, bC_false, vInt_int, vBool_bool, vStr_string, vPtr_pointer, vSl_slice, vMap_map, vFun_func, vAgg_agg, vTup_tuple, vIfc_nil, vIfc_iface, lC_cons, lN_nil, aP_some, shO_none, shO_some, Option.isNone_none, Option.isNone_some, Bool.not_true, Bool.not_false]
    have ht := tblL_at ⟨n, by omega⟩
    refine oB_bind (show bAt _ n = _ from ht) ?_
    have := hlen n
    rw [wrap_sm (n := (lenM n : Int)) (by omega) (by omega), wrap_sm (n := 0 + (lenM n : Int)) (by omega) (by omega), Int.zero_add]
    exact hq
theorem lens : ∀ k : Fin 1001, 100 ≤ k.1 → (if k.1 ≥ 256 then 8 + lenM (k.1 / 256) else lenM k.1) * 78913 / 262144 = (if k.1 ≥ 512 then 3 else 2) := by decide +kernel
theorem numDigits_ok (O : Own h μ ρ) (T : Vw ρ [] (some ⟨2, 0, none⟩) pow10) {n : Nat} (h1 : 100 ≤ n) (h2 : n ≤ 1000) (hq : Q (.int .i64 ((if n = 1000 then 4 else 3 : Nat) : Int)) h) : EvQ P f_strconv_numDigits [.int .u64 (n : Int)] h Q := by
  refine r_strconv_numDigits ?_
  refine len64_ok h2 ?_
  simp only [oB_some, bC_true, bC_false, vInt_int, vBool_bool, vStr_string, vPtr_pointer, vSl_slice, vMap_map, vFun_func, vAgg_agg, vTup_tuple, vIfc_nil, vIfc_iface, lC_cons, lN_nil, aP_some, shO_none, shO_some, Option.isNone_none, Option.isNone_some, Bool.not_true, Bool.not_false]
  refine r_strconv_log10Pow2 ?_
  have hl := lens ⟨n, by omega⟩ h1
  simp only at hl
  generalize (if n ≥ 256 then 8 + lenM (n / 256) else lenM n) = L at hl
  have hL : L < 1000 := by
    rcases Nat.lt_or_ge L 1000 with x | x
    · exact x
    · have : 1000 * 78913 / 262144 ≤ L * 78913 / 262144 := Nat.div_le_div_right (Nat.mul_le_mul_right _ x)
      rw [hl] at this
      have h3 : 1000 * 78913 / 262144 = 301 := rfl
      rw [h3] at this
      split at this <;> omega
  have e1 : Int.fdiv (IntKind.wrap .i64 ((L : Int) * 78913)) 262144 = ((L * 78913 / 262144 : Nat) : Int) := by
    rw [wrap_sm (n := (L : Int) * 78913) (by omega) (by omega)]
    rw [Int.fdiv_eq_ediv_of_nonneg _ (by omega)]
    omega
  rw [e1, hl]
  simp only [oB_some, bC_true, bC_false, vInt_int, vBool_bool, vStr_string, vPtr_pointer, vSl_slice, vMap_map, vFun_func, vAgg_agg, vTup_tuple, vIfc_nil, vIfc_iface, lC_cons, lN_nil, aP_some, shO_none, shO_some, Option.isNone_none, Option.isNone_some, Bool.not_true, Bool.not_false]
  have X := T.sl O
  by_cases h5 : n ≥ 512
  · rw [if_pos h5, natIdx_eq (show 3 < 20 by omega)]
    simp only [oB_some, bC_true, bC_false, vInt_int, vBool_bool, vStr_string, vPtr_pointer, vSl_slice, vMap_map, vFun_func, vAgg_agg, vTup_tuple, vIfc_nil, vIfc_iface, lC_cons, lN_nil, aP_some, shO_none, shO_some, Option.isNone_none, Option.isNone_some, Bool.not_true, Bool.not_false]
    refine oB_bind (v := .int .u64 1000) (Sl.get (j := 3) X rfl) ?_
    simp only [oB_some, bC_true, bC_false, vInt_int, vBool_bool, vStr_string, vPtr_pointer, vSl_slice, vMap_map, vFun_func, vAgg_agg, vTup_tuple, vIfc_nil, vIfc_iface, lC_cons, lN_nil, aP_some, shO_none, shO_some, Option.isNone_none, Option.isNone_some, Bool.not_true, Bool.not_false]
    refine r_strconv_bool2_int ?_
    refine bC_iff (fun e => ?_) (fun e => ?_)
    · have e : n = 1000 := by have := of_decide_eq_true e; omega
      rw [if_pos e] at hq
      exact hq
    · have e : n ≠ 1000 := by have := of_decide_eq_false e; omega
      rw [if_neg e] at hq
      exact hq
  · rw [if_neg h5, natIdx_eq (show 2 < 20 by omega)]
    simp only [oB_some, bC_true, bC_false, vInt_int, vBool_bool, vStr_string, vPtr_pointer, vSl_slice, vMap_map, vFun_func, vAgg_agg, vTup_tuple, vIfc_nil, vIfc_iface, lC_cons, lN_nil, aP_some, shO_none, shO_some, Option.isNone_none, Option.isNone_some, Bool.not_true, Bool.not_false]
    refine oB_bind (v := .int .u64 100) (Sl.get (j := 2) X rfl) ?_
    simp only [oB_some, bC_true, bC_false, vInt_int, vBool_bool, vStr_string, vPtr_pointer, vSl_slice, vMap_map, vFun_func, vAgg_agg, vTup_tuple, vIfc_nil, vIfc_iface, lC_cons, lN_nil, aP_some, shO_none, shO_some, Option.isNone_none, Option.isNone_some, Bool.not_true, Bool.not_false]
    refine r_strconv_bool2_int ?_
    rw [show decide ((n : Int) ≥ 100) = true from decide_eq_true (by omega)]
    simp only [oB_some, bC_true, bC_false, vInt_int, vBool_bool, vStr_string, vPtr_pointer, vSl_slice, vMap_map, vFun_func, vAgg_agg, vTup_tuple, vIfc_nil, vIfc_iface, lC_cons, lN_nil, aP_some, shO_none, shO_some, Option.isNone_none, Option.isNone_some, Bool.not_true, Bool.not_false]
    rw [if_neg (by omega)] at hq
    exact hq
theorem bytes_of {i off : Nat} : ∀ (l : List UInt8), (∀ j (hj : j < l.length), h.rd i (off + j) = some (.int .u8 (l[j].toNat : Int))) → AW.bytes h (some ⟨i, off, none⟩) l.length = some ⟨⟨l⟩⟩ := by
  intro l hl
  have key : ∀ (l : List UInt8) (off : Nat), (∀ j (hj : j < l.length), h.rd i (off + j) = some (.int .u8 (l[j].toNat : Int))) → h.rdN i off l.length = some (l.map fun b => .int .u8 (b.toNat : Int)) := by
    intro l
    induction l with
    | nil => intro off _; rfl
    | cons b l ih =>
      intro off hl
      simp only [List.length_cons, AW.rdN]
      have h0 := hl 0 (by simp)
      rw [Nat.add_zero] at h0
      rw [h0]
      simp only
      rw [ih (off + 1) fun j hj => by
        have := hl (j + 1) (by simp; omega)
        rw [show off + 1 + j = off + (j + 1) from by omega, this]; simp]
      rfl
  have kb : ∀ l : List UInt8, bytesV (l.map fun b => Value.int .u8 (b.toNat : Int)) = some l := by
    intro l
    induction l with
    | nil => rfl
    | cons b l ih =>
      simp only [List.map_cons, bytesV, ih]
      simp
  unfold AW.bytes
  simp only
  rw [key l off hl]
  simp only
  rw [kb]
end Go.Proofs.YtgdkekdedgkglaaDoor
end

section
/- Numbers in decimal digits: those of three and four digits. -/
namespace Go.Proofs.YtgdkekdedgkglaaDoor
open Go.Abs Go.Abs.Fo
set_option maxRecDepth 100000
attribute [local irreducible] unitAt EvQ
variable {h : AW} {μ : Paint} {ρ : Store} {Q : Value → AW → Prop}
theorem dig3 : ∀ k : Fin 1000, 100 ≤ k.1 → digS k.1 = ⟨#[UInt8.ofNat (48 + k.1 / 100), UInt8.ofNat (48 + k.1 % 100 / 10), UInt8.ofNat (48 + k.1 % 10)]⟩ := by decide +kernel
theorem sl24 (O : Own h μ ρ) {ρ0 : Store} {ns : List Nat} {rs : List Res} (W : Pcs ρ0 ρ ns rs) (i : Nat) {p : Nat} {l : List Value} (hr : rs[i]? = some (.var p l)) {k : Nat} (hk : k + 1 ≤ 24) :
    sliceQ P h ty_24_uint8 (.pointer (some ⟨p, 0, none⟩)) (some (.int .i64 1)) (some (.int .i64 ((k + 1 : Nat) : Int))) = some (.slice (some ⟨p, 1, none⟩) k 23) := by
  obtain ⟨c, _, hc⟩ := W.get i hr
  obtain ⟨_, _, t, ho, _⟩ := O.holds _ _ hc
  unfold sliceQ
  rw [ti_ty_24_uint8]
  simp only
  have e1 : bndO (some (Value.int .i64 ((k + 1 : Nat) : Int))) 24 24 = some (k + 1) := by
    unfold bndO bnd
    simp only
    show (match Nat.ble (k + 1) 24 with | true => some (k + 1) | false => none) = _
    rw [Nat.ble_eq_true_of_le hk]
  rw [e1]
  simp only
  have e2 : bndO (some (Value.int .i64 1)) (k + 1) 0 = some 1 := by
    unfold bndO bnd
    show (match Nat.ble 1 (k + 1) with | true => some 1 | false => none) = _
    rw [Nat.ble_eq_true_of_le (by omega)]
  rw [e2, ti_ty_uint8, ho]
  rfl
theorem u32 {n : Nat} (hn : n < 4294967296) : IntKind.wrap .u32 (n : Int) = (n : Int) := by
  unfold IntKind.wrap
  simp [IntKind.signed, IntKind.bits]
  omega
theorem u64 {n : Nat} (hn : n < 4294967296) : IntKind.wrap .u64 (n : Int) = (n : Int) := by
  unfold IntKind.wrap
  simp [IntKind.signed, IntKind.bits]
  omega
theorem itoa3 (O : Own h μ ρ) (T : Vw ρ [] (some ⟨2, 0, none⟩) pow10) {n : Nat} (h1 : 100 ≤ n) (hk : n < 1000) (hq : RdQ Q ρ (.string (digS n))) : EvQ P f_strconv_FormatInt [.int .i64 (n : Int), .int .i64 10] h Q := by
  refine r_strconv_FormatInt ?_
  rw [show ((10 : Int) == 10) = true from rfl]
  simp only [oB_some, bC_true, bC_false, vInt_int, vBool_bool, vStr_string, vPtr_pointer, vSl_slice, vMap_map, vFun_func, vAgg_agg, vTup_tuple, vIfc_nil, vIfc_iface, lC_cons, lN_nil, aP_some, shO_none, shO_some, Option.isNone_none, Option.isNone_some, Bool.not_true, Bool.not_false]
  rw [show decide ((0 : Int) ≤ (n : Int)) = true from decide_eq_true (by omega)]
  simp only [oB_some, bC_true, bC_false, vInt_int, vBool_bool, vStr_string, vPtr_pointer, vSl_slice, vMap_map, vFun_func, vAgg_agg, vTup_tuple, vIfc_nil, vIfc_iface, lC_cons, lN_nil, aP_some, shO_none, shO_some, Option.isNone_none, Option.isNone_some, Bool.not_true, Bool.not_false]
  rw [show decide ((n : Int) < 100) = false from decide_eq_false (by omega)]
  simp only [oB_some, bC_true, bC_false, vInt_int, vBool_bool, vStr_string, vPtr_pointer, vSl_slice, vMap_map, vFun_func, vAgg_agg, vTup_tuple, vIfc_nil, vIfc_iface, lC_cons, lN_nil, aP_some, shO_none, shO_some, Option.isNone_none, Option.isNone_some, Bool.not_true, Bool.not_false]
  rw [show decide ((n : Int) < 0) = false from decide_eq_false (by omega)]
  simp only [oB_some, bC_true, bC_false, vInt_int, vBool_bool, vStr_string, vPtr_pointer, vSl_slice, vMap_map, vFun_func, vAgg_agg, vTup_tuple, vIfc_nil, vIfc_iface, lC_cons, lN_nil, aP_some, shO_none, shO_some, Option.isNone_none, Option.isNone_some, Bool.not_true, Bool.not_false]
  obtain ⟨μ1, ρ1, c1, O1, W1, hc1⟩ := w_new O p00 [.int .u8 0, .int .u8 0, .int .u8 0, .int .u8 0, .int .u8 0, .int .u8 0, .int .u8 0, .int .u8 0, .int .u8 0, .int .u8 0, .int .u8 0, .int .u8 0, .int .u8 0, .int .u8 0, .int .u8 0, .int .u8 0, .int .u8 0, .int .u8 0, .int .u8 0, .int .u8 0, .int .u8 0, .int .u8 0, .int .u8 0, .int .u8 0]
  have one : ∀ c, c ∈ [c1] → ρ c = none := fun c hc => by simp at hc; rw [hc]; exact hc1
  refine r_strconv_FormatInt_8 ?_
  rw [u64 (by omega)]
  refine numDigits_ok O1 (T.keep (W1.fra0 one)) h1 (by omega) ?_
  rw [if_neg (by omega)]
  simp only [oB_some, bC_true, bC_false, vInt_int, vBool_bool, vStr_string, vPtr_pointer, vSl_slice, vMap_map, vFun_func, vAgg_agg, vTup_tuple, vIfc_nil, vIfc_iface, lC_cons, lN_nil, aP_some, shO_none, shO_some, Option.isNone_none, Option.isNone_some, Bool.not_true, Bool.not_false]
  rw [show IntKind.wrap .i64 (1 + ((3 : Nat) : Int)) = ((3 + 1 : Nat) : Int) from rfl]
  rw [sl24 O1 W1 0 rfl (k := 3) (by omega)]
  simp only [oB_some, bC_true, bC_false, vInt_int, vBool_bool, vStr_string, vPtr_pointer, vSl_slice, vMap_map, vFun_func, vAgg_agg, vTup_tuple, vIfc_nil, vIfc_iface, lC_cons, lN_nil, aP_some, shO_none, shO_some, Option.isNone_none, Option.isNone_some, Bool.not_true, Bool.not_false]
  refine r_strconv_formatBase10 ?_
  refine r_strconv_formatBase10_1 ?_
  rw [show decide (((3 : Nat) : Int) ≥ 8) = false from rfl]
  simp only [oB_some, bC_true, bC_false, vInt_int, vBool_bool, vStr_string, vPtr_pointer, vSl_slice, vMap_map, vFun_func, vAgg_agg, vTup_tuple, vIfc_nil, vIfc_iface, lC_cons, lN_nil, aP_some, shO_none, shO_some, Option.isNone_none, Option.isNone_some, Bool.not_true, Bool.not_false]
  rw [u32 (by omega), show decide (((3 : Nat) : Int) ≥ 4) = false from rfl]
  simp only [oB_some, bC_true, bC_false, vInt_int, vBool_bool, vStr_string, vPtr_pointer, vSl_slice, vMap_map, vFun_func, vAgg_agg, vTup_tuple, vIfc_nil, vIfc_iface, lC_cons, lN_nil, aP_some, shO_none, shO_some, Option.isNone_none, Option.isNone_some, Bool.not_true, Bool.not_false]
  refine r_strconv_formatBase10_20 ?_
  rw [show decide (((3 : Nat) : Int) ≥ 2) = true from rfl]
  simp only [oB_some, bC_true, bC_false, vInt_int, vBool_bool, vStr_string, vPtr_pointer, vSl_slice, vMap_map, vFun_func, vAgg_agg, vTup_tuple, vIfc_nil, vIfc_iface, lC_cons, lN_nil, aP_some, shO_none, shO_some, Option.isNone_none, Option.isNone_some, Bool.not_true, Bool.not_false]
  have e1 : Int.tmod (n : Int) 100 * 2 = ((n % 100 * 2 : Nat) : Int) := by
    have : Int.tmod (n : Int) ((100 : Nat) : Int) = ((n % 100 : Nat) : Int) := rfl
    rw [show (100 : Int) = ((100 : Nat) : Int) from rfl, this]; omega
  have e2 : ((n % 100 * 2 : Nat) : Int) + 1 = ((n % 100 * 2 + 1 : Nat) : Int) := by omega
  rw [e1, u32 (n := n % 100 * 2) (by omega), e2, u32 (n := n % 100 * 2 + 1) (by omega), natIdx_eq (show n % 100 * 2 + 1 < 200 by omega)]
  simp only [oB_some, bC_true, bC_false, vInt_int, vBool_bool, vStr_string, vPtr_pointer, vSl_slice, vMap_map, vFun_func, vAgg_agg, vTup_tuple, vIfc_nil, vIfc_iface, lC_cons, lN_nil, aP_some, shO_none, shO_some, Option.isNone_none, Option.isNone_some, Bool.not_true, Bool.not_false]
  have hm : n % 100 < 100 := Nat.mod_lt _ (by omega)
  refine oB_bind (show bAt _ (n % 100 * 2 + 1) = _ from tblS_hi ⟨n % 100, hm⟩) ?_
  rw [natIdx_eq (show n % 100 * 2 < 200 by omega)]
  simp only [oB_some, bC_true, bC_false, vInt_int, vBool_bool, vStr_string, vPtr_pointer, vSl_slice, vMap_map, vFun_func, vAgg_agg, vTup_tuple, vIfc_nil, vIfc_iface, lC_cons, lN_nil, aP_some, shO_none, shO_some, Option.isNone_none, Option.isNone_some, Bool.not_true, Bool.not_false]
  refine oB_bind (show bAt _ (n % 100 * 2) = _ from tblS_lo ⟨n % 100, hm⟩) ?_
  rw [show natIdx (IntKind.wrap .i64 (((3 : Nat) : Int) - 1)) 3 = some 2 from rfl]
  simp only [oB_some, bC_true, bC_false, vInt_int, vBool_bool, vStr_string, vPtr_pointer, vSl_slice, vMap_map, vFun_func, vAgg_agg, vTup_tuple, vIfc_nil, vIfc_iface, lC_cons, lN_nil, aP_some, shO_none, shO_some, Option.isNone_none, Option.isNone_some, Bool.not_true, Bool.not_false]
  refine w_wr O1 W1 0 (j := 3) rfl (Nat.le_of_ble_eq_true rfl) rfl fun h2 ρ2 O2 W2 => ?_
  rw [show natIdx (IntKind.wrap .i64 (((3 : Nat) : Int) - 2)) 3 = some 1 from rfl]
  simp only [oB_some, bC_true, bC_false, vInt_int, vBool_bool, vStr_string, vPtr_pointer, vSl_slice, vMap_map, vFun_func, vAgg_agg, vTup_tuple, vIfc_nil, vIfc_iface, lC_cons, lN_nil, aP_some, shO_none, shO_some, Option.isNone_none, Option.isNone_some, Bool.not_true, Bool.not_false]
  refine w_wr O2 W2 0 (j := 2) rfl (Nat.le_of_ble_eq_true rfl) rfl fun h3 ρ3 O3 W3 => ?_
  refine r_strconv_formatBase10_25 ?_
  rw [show decide (IntKind.wrap .i64 (((3 : Nat) : Int) - 2) > 0) = true from rfl]
  simp only [oB_some, bC_true, bC_false, vInt_int, vBool_bool, vStr_string, vPtr_pointer, vSl_slice, vMap_map, vFun_func, vAgg_agg, vTup_tuple, vIfc_nil, vIfc_iface, lC_cons, lN_nil, aP_some, shO_none, shO_some, Option.isNone_none, Option.isNone_some, Bool.not_true, Bool.not_false]
  rw [show natIdx 0 3 = some 0 from rfl]
  simp only [oB_some, bC_true, bC_false, vInt_int, vBool_bool, vStr_string, vPtr_pointer, vSl_slice, vMap_map, vFun_func, vAgg_agg, vTup_tuple, vIfc_nil, vIfc_iface, lC_cons, lN_nil, aP_some, shO_none, shO_some, Option.isNone_none, Option.isNone_some, Bool.not_true, Bool.not_false]
  refine w_wr O3 W3 0 (j := 1) rfl (Nat.le_of_ble_eq_true rfl) rfl fun h4 ρ4 O4 W4 => ?_
  rw [show decide ((n : Int) < 0) = false from decide_eq_false (by omega)]
  simp only [oB_some, bC_true, bC_false, vInt_int, vBool_bool, vStr_string, vPtr_pointer, vSl_slice, vMap_map, vFun_func, vAgg_agg, vTup_tuple, vIfc_nil, vIfc_iface, lC_cons, lN_nil, aP_some, shO_none, shO_some, Option.isNone_none, Option.isNone_some, Bool.not_true, Bool.not_false]
  rw [sl24 O4 W4 0 rfl (k := 3) (by omega)]
  simp only [oB_some, bC_true, bC_false, vInt_int, vBool_bool, vStr_string, vPtr_pointer, vSl_slice, vMap_map, vFun_func, vAgg_agg, vTup_tuple, vIfc_nil, vIfc_iface, lC_cons, lN_nil, aP_some, shO_none, shO_some, Option.isNone_none, Option.isNone_some, Bool.not_true, Bool.not_false]
  have e3 : Int.tdiv (n : Int) 100 = ((n / 100 : Nat) : Int) := rfl
  have e4 : IntKind.wrap .u8 (IntKind.wrap .u32 (48 + IntKind.wrap .u32 (Int.tdiv (n : Int) 100))) = ((48 + n / 100 : Nat) : Int) := by
    rw [e3, u32 (n := n / 100) (by omega), show (48 : Int) + ((n / 100 : Nat) : Int) = ((48 + n / 100 : Nat) : Int) from by omega, u32 (n := 48 + n / 100) (by omega), wrap8 (by omega)]
  have hd := dig3 ⟨n, hk⟩ h1
  simp only at hd
  have key : AW.bytes h4 (some ⟨h.next, 1, none⟩) 3 = some (digS n) := by
    rw [hd]
    refine bytes_of [UInt8.ofNat (48 + n / 100), UInt8.ofNat (48 + n % 100 / 10), UInt8.ofNat (48 + n % 10)] fun j hj => ?_
    obtain ⟨c, _, hc⟩ := W4.get 0 rfl
    rw [O4.rd hc]
    match j, hj with
    | 0, _ =>
      show some (Value.int .u8 _) = some (Value.int .u8 (((UInt8.ofNat (48 + n / 100)).toNat : Nat) : Int))
      rw [e4, UInt8.toNat_ofNat', Nat.mod_eq_of_lt (show 48 + n / 100 < 2 ^ 8 by omega)]
    | 1, _ =>
      show some (Value.int .u8 _) = some (Value.int .u8 (((UInt8.ofNat (48 + n % 100 / 10)).toNat : Nat) : Int))
      rw [UInt8.toNat_ofNat', Nat.mod_eq_of_lt (show 48 + n % 100 / 10 < 2 ^ 8 by omega)]
    | 2, _ =>
      show some (Value.int .u8 _) = some (Value.int .u8 (((UInt8.ofNat (48 + n % 10)).toNat : Nat) : Int))
      rw [UInt8.toNat_ofNat', Nat.mod_eq_of_lt (show 48 + n % 10 < 2 ^ 8 by omega)]
      have : n % 100 % 10 = n % 10 := by omega
      first | rw [← this] | (simp only [this])
    | j + 3, hj => simp at hj; omega
  rw [key]
  exact hq _ _ _ O4 (W4.fra0 one)
theorem itoa1000 (O : Own h μ ρ) (T : Vw ρ [] (some ⟨2, 0, none⟩) pow10) (hq : RdQ Q ρ (.string (digS 1000))) : EvQ P f_strconv_FormatInt [.int .i64 1000, .int .i64 10] h Q := by
  refine r_strconv_FormatInt ?_
  rw [show ((10 : Int) == 10) = true from rfl, show decide ((0 : Int) ≤ 1000) = true from rfl, show decide ((1000 : Int) < 100) = false from rfl, show decide ((1000 : Int) < 0) = false from rfl]
  simp only [oB_some, bC_true, bC_false, vInt_int, vBool_bool, vStr_string, vPtr_pointer, vSl_slice, vMap_map, vFun_func, vAgg_agg, vTup_tuple, vIfc_nil, vIfc_iface, lC_cons, lN_nil, aP_some, shO_none, shO_some, Option.isNone_none, Option.isNone_some, Bool.not_true, Bool.not_false]
  obtain ⟨μ1, ρ1, c1, O1, W1, hc1⟩ := w_new O p00 [.int .u8 0, .int .u8 0, .int .u8 0, .int .u8 0, .int .u8 0, .int .u8 0, .int .u8 0, .int .u8 0, .int .u8 0, .int .u8 0, .int .u8 0, .int .u8 0, .int .u8 0, .int .u8 0, .int .u8 0, .int .u8 0, .int .u8 0, .int .u8 0, .int .u8 0, .int .u8 0, .int .u8 0, .int .u8 0, .int .u8 0, .int .u8 0]
  have one : ∀ c, c ∈ [c1] → ρ c = none := fun c hc => by simp at hc; rw [hc]; exact hc1
  refine r_strconv_FormatInt_8 ?_
  rw [show IntKind.wrap .u64 1000 = ((1000 : Nat) : Int) from rfl]
  refine numDigits_ok O1 (T.keep (W1.fra0 one)) (by omega) (by omega) ?_
  rw [if_pos rfl]
  simp only [oB_some, bC_true, bC_false, vInt_int, vBool_bool, vStr_string, vPtr_pointer, vSl_slice, vMap_map, vFun_func, vAgg_agg, vTup_tuple, vIfc_nil, vIfc_iface, lC_cons, lN_nil, aP_some, shO_none, shO_some, Option.isNone_none, Option.isNone_some, Bool.not_true, Bool.not_false]
  rw [show IntKind.wrap .i64 (1 + ((4 : Nat) : Int)) = ((4 + 1 : Nat) : Int) from rfl]
  rw [sl24 O1 W1 0 rfl (k := 4) (by omega)]
  simp only [oB_some, bC_true, bC_false, vInt_int, vBool_bool, vStr_string, vPtr_pointer, vSl_slice, vMap_map, vFun_func, vAgg_agg, vTup_tuple, vIfc_nil, vIfc_iface, lC_cons, lN_nil, aP_some, shO_none, shO_some, Option.isNone_none, Option.isNone_some, Bool.not_true, Bool.not_false]
  refine r_strconv_formatBase10 ?_
  refine r_strconv_formatBase10_1 ?_
  rw [show decide (((4 : Nat) : Int) ≥ 8) = false from rfl]
  simp only [oB_some, bC_true, bC_false, vInt_int, vBool_bool, vStr_string, vPtr_pointer, vSl_slice, vMap_map, vFun_func, vAgg_agg, vTup_tuple, vIfc_nil, vIfc_iface, lC_cons, lN_nil, aP_some, shO_none, shO_some, Option.isNone_none, Option.isNone_some, Bool.not_true, Bool.not_false]
  rw [show decide (((4 : Nat) : Int) ≥ 4) = true from rfl]
  simp only [oB_some, bC_true, bC_false, vInt_int, vBool_bool, vStr_string, vPtr_pointer, vSl_slice, vMap_map, vFun_func, vAgg_agg, vTup_tuple, vIfc_nil, vIfc_iface, lC_cons, lN_nil, aP_some, shO_none, shO_some, Option.isNone_none, Option.isNone_some, Bool.not_true, Bool.not_false]
  refine oB_bind (show natIdx _ _ = some 1 from rfl) ?_
  refine oB_bind (show bAt _ _ = some 48 from rfl) ?_
  refine oB_bind (show natIdx _ _ = some 0 from rfl) ?_
  refine oB_bind (show bAt _ _ = some 48 from rfl) ?_
  refine oB_bind (show natIdx _ _ = some 3 from rfl) ?_
  refine w_wr O1 W1 0 (j := 4) rfl (Nat.le_of_ble_eq_true rfl) rfl fun h2 ρ2 O2 W2 => ?_
  refine oB_bind (show natIdx _ _ = some 2 from rfl) ?_
  refine w_wr O2 W2 0 (j := 3) rfl (Nat.le_of_ble_eq_true rfl) rfl fun h3 ρ3 O3 W3 => ?_
  refine oB_bind (show natIdx _ _ = some 21 from rfl) ?_
  refine oB_bind (show bAt _ _ = some 48 from rfl) ?_
  refine oB_bind (show natIdx _ _ = some 20 from rfl) ?_
  refine oB_bind (show bAt _ _ = some 49 from rfl) ?_
  refine oB_bind (show natIdx _ _ = some 1 from rfl) ?_
  refine w_wr O3 W3 0 (j := 2) rfl (Nat.le_of_ble_eq_true rfl) rfl fun h4 ρ4 O4 W4 => ?_
  refine oB_bind (show natIdx _ _ = some 0 from rfl) ?_
  refine w_wr O4 W4 0 (j := 1) rfl (Nat.le_of_ble_eq_true rfl) rfl fun h5 ρ5 O5 W5 => ?_
  refine r_strconv_formatBase10_20 ?_
  rw [show decide (IntKind.wrap .i64 (((4 : Nat) : Int) - 4) ≥ 2) = false from rfl]
  simp only [oB_some, bC_true, bC_false, vInt_int, vBool_bool, vStr_string, vPtr_pointer, vSl_slice, vMap_map, vFun_func, vAgg_agg, vTup_tuple, vIfc_nil, vIfc_iface, lC_cons, lN_nil, aP_some, shO_none, shO_some, Option.isNone_none, Option.isNone_some, Bool.not_true, Bool.not_false]
  refine r_strconv_formatBase10_25 ?_
  rw [show decide (IntKind.wrap .i64 (((4 : Nat) : Int) - 4) > 0) = false from rfl]
  simp only [oB_some, bC_true, bC_false, vInt_int, vBool_bool, vStr_string, vPtr_pointer, vSl_slice, vMap_map, vFun_func, vAgg_agg, vTup_tuple, vIfc_nil, vIfc_iface, lC_cons, lN_nil, aP_some, shO_none, shO_some, Option.isNone_none, Option.isNone_some, Bool.not_true, Bool.not_false]
  rw [sl24 O5 W5 0 rfl (k := 4) (by omega)]
  simp only [oB_some, bC_true, bC_false, vInt_int, vBool_bool, vStr_string, vPtr_pointer, vSl_slice, vMap_map, vFun_func, vAgg_agg, vTup_tuple, vIfc_nil, vIfc_iface, lC_cons, lN_nil, aP_some, shO_none, shO_some, Option.isNone_none, Option.isNone_some, Bool.not_true, Bool.not_false]
  have key : AW.bytes h5 (some ⟨h.next, 1, none⟩) 4 = some (digS 1000) := by
    rw [show digS 1000 = ⟨⟨[49, 48, 48, 48]⟩⟩ from by decide +kernel]
    refine bytes_of [49, 48, 48, 48] fun j hj => ?_
    obtain ⟨c, _, hc⟩ := W5.get 0 rfl
    rw [O5.rd hc]
    match j, hj with
    | 0, _ => rfl
    | 1, _ => rfl
    | 2, _ => rfl
    | 3, _ => rfl
    | j + 4, hj => simp at hj; omega
  rw [key]
  exact hq _ _ _ O5 (W5.fra0 one)
theorem itoa_ok (O : Own h μ ρ) (T : Vw ρ [] (some ⟨2, 0, none⟩) pow10) {n : Nat} (hn : n ≤ 1000) (hq : RdQ Q ρ (.string (digS n))) : EvQ P f_strconv_Itoa [.int .i64 (n : Int)] h Q := by
  refine r_strconv_Itoa (r_strconv_Itoa_85 ?_)
  have hq2 : RdQ (fun v h => vStr v fun s => vStr (.string s) fun s => Q (.string s) h) ρ (.string (digS n)) := fun h' μ' ρ' O' F' => by
    simp only [oB_some, bC_true, bC_false, vInt_int, vBool_bool, vStr_string, vPtr_pointer, vSl_slice, vMap_map, vFun_func, vAgg_agg, vTup_tuple, vIfc_nil, vIfc_iface, lC_cons, lN_nil, aP_some, shO_none, shO_some, Option.isNone_none, Option.isNone_some, Bool.not_true, Bool.not_false]
    exact hq _ _ _ O' F'
  by_cases h1 : n < 100
  · refine r_strconv_FormatInt ?_
    rw [show ((10 : Int) == 10) = true from rfl]
    simp only [oB_some, bC_true, bC_false, vInt_int, vBool_bool, vStr_string, vPtr_pointer, vSl_slice, vMap_map, vFun_func, vAgg_agg, vTup_tuple, vIfc_nil, vIfc_iface, lC_cons, lN_nil, aP_some, shO_none, shO_some, Option.isNone_none, Option.isNone_some, Bool.not_true, Bool.not_false]
    rw [show decide ((0 : Int) ≤ (n : Int)) = true from decide_eq_true (by omega)]
    simp only [oB_some, bC_true, bC_false, vInt_int, vBool_bool, vStr_string, vPtr_pointer, vSl_slice, vMap_map, vFun_func, vAgg_agg, vTup_tuple, vIfc_nil, vIfc_iface, lC_cons, lN_nil, aP_some, shO_none, shO_some, Option.isNone_none, Option.isNone_some, Bool.not_true, Bool.not_false]
    rw [show decide ((n : Int) < 100) = true from decide_eq_true (by omega)]
    simp only [oB_some, bC_true, bC_false, vInt_int, vBool_bool, vStr_string, vPtr_pointer, vSl_slice, vMap_map, vFun_func, vAgg_agg, vTup_tuple, vIfc_nil, vIfc_iface, lC_cons, lN_nil, aP_some, shO_none, shO_some, Option.isNone_none, Option.isNone_some, Bool.not_true, Bool.not_false]
    refine small_ok h1 ?_
    simp only [oB_some, bC_true, bC_false, vInt_int, vBool_bool, vStr_string, vPtr_pointer, vSl_slice, vMap_map, vFun_func, vAgg_agg, vTup_tuple, vIfc_nil, vIfc_iface, lC_cons, lN_nil, aP_some, shO_none, shO_some, Option.isNone_none, Option.isNone_some, Bool.not_true, Bool.not_false]
    exact hq.now O
  · by_cases h2 : n < 1000
    · exact itoa3 O T (by omega) h2 hq2
    · have : n = 1000 := by omega
      subst this
      exact itoa1000 O T hq2
end Go.Proofs.YtgdkekdedgkglaaDoor
end

section
/- Numbers out of words: where they may be had. -/
namespace Go.Proofs.YtgdkekdedgkglaaDoor
open Go.Abs Go.Abs.Fo
/-- Of these words a number is asked. -/
def Tbs (G : Str → Prop) (ρ : Store) : Prop :=
  ∀ {h : AW} {μ : Paint} {ρ' : Store} {s : Str} {Q : Value → AW → Prop}, Own h μ ρ' → Fra [] ρ ρ' → G s → RdQ Q ρ' (.int .i64 (numM s)) → EvQ P f_action_number [.string s] h Q
theorem Tbs.keep {G : Str → Prop} {ρ ρ' : Store} (T : Tbs G ρ) (F : Fra [] ρ ρ') : Tbs G ρ' := fun O F' => T O (F.trans F')
theorem number_ok {G : Str → Prop} {h : AW} {μ : Paint} {ρ : Store} {Q : Value → AW → Prop} (O : Own h μ ρ) (T : Tbs G ρ) {s : Str} (hs : G s) (hq : RdQ Q ρ (.int .i64 (numM s))) : EvQ P f_action_number [.string s] h Q := T O Fra.refl hs hq
theorem Tbs.none {ρ : Store} : Tbs (fun _ => False) ρ := fun _ _ g => g.elim
end Go.Proofs.YtgdkekdedgkglaaDoor
end
