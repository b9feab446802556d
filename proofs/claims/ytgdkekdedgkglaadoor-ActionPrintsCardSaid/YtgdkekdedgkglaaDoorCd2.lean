/- A deterministic heap for the model, proved sound, and walks of the program over it: part 8. No condition. -/
import Derived.Test.YtgdkekdedgkglaaDoorAb1
import Derived.Test.YtgdkekdedgkglaaDoorAb2
import Derived.Test.YtgdkekdedgkglaaDoorAb3
import Derived.Test.YtgdkekdedgkglaaDoorAb4
import Derived.Test.YtgdkekdedgkglaaDoorAb6
import Derived.Test.YtgdkekdedgkglaaDoorCd1
import Derived.Test.YtgdkekdedgkglaaDoorAb5
set_option linter.unusedVariables false
set_option linter.unusedSimpArgs false
set_option linter.unusedSectionVars false
section
/- Rules of walks, printed by a program of ours: group ARef. -/
namespace Go.Proofs.YtgdkekdedgkglaaDoor
open Go.Abs
set_option maxRecDepth 100000
theorem r_brickyardref13_Digits {n1 : Int} {h : AW} {Q : Value → AW → Prop} (H : oB (AW.bytes (AW.addVar h [Value.int IntKind.u8 (IntKind.wrap IntKind.u8 (IntKind.wrap IntKind.i64 (48 + Int.tmod n1
  10)))]) (some (Addr.mk (AW.next h) 0 none)) 1) fun s2 => bC (decide (n1 ≥ 10)) (EvQ P f_brickyardref13_Digits [Value.int IntKind.i64 (IntKind.wrap IntKind.i64 (Int.tdiv n1 10))] (AW.addVar h
  [Value.int IntKind.u8 (IntKind.wrap IntKind.u8 (IntKind.wrap IntKind.i64 (48 + Int.tmod n1 10)))]) fun v3 h4 => vStr v3 fun s5 => bC (Nat.ble (ByteArray.size s5 + ByteArray.size
  s2) 9223372036854775807) (Q (Value.string (s5 ++ s2)) h4) False) (Q (Value.string s2) (AW.addVar h [Value.int IntKind.u8 (IntKind.wrap IntKind.u8 (IntKind.wrap IntKind.i64 (48 +
  Int.tmod n1 10)))]))) : EvQ P f_brickyardref13_Digits [Value.int IntKind.i64 n1] h Q := fn_ok (n := 400) (ann := annOf []) (Eq.mp (by kernel_rfl) H)
theorem r_brickyardref13_Lines {p1 : Option Addr} {m2 : Nat} {m3 : Nat} {h : AW} {Q : Value → AW → Prop} (H : EvQ P f_brickyardref13_May [Value.slice p1 m2 m3] h fun v4 h5 => vBool v4 fun b6 => bC (!b6) (Q
  (Value.tuple (Array.mk [Value.slice none 0 0, Value.int IntKind.i64 2])) h5) (EvQ P f_brickyardref13_all [Value.slice p1 m2 m3] h5 fun v7 h8 => vSl v7 fun p9 m10 m11 => Q (Value.tuple (Array.mk
  [Value.slice p9 m10 m11, Value.int IntKind.i64 0])) h8)) : EvQ P f_brickyardref13_Lines [Value.slice p1 m2 m3] h Q := fn_ok (n := 400) (ann := annOf []) (Eq.mp (by kernel_rfl) H)
theorem r_brickyardref13_Print {p1 : Option Addr} {m2 : Nat} {m3 : Nat} {h : AW} {Q : Value → AW → Prop} (H : EvQ P f_brickyardref13_Lines [Value.slice p1 m2 m3] h fun v4 h5 => vTup v4 fun l6 => lC l6 fun v7 l8 =>
  vSl v7 fun p9 m10 m11 => lC l8 fun v12 l13 => vInt IntKind.i64 v12 fun n14 => lN l13 (unitAt P f_brickyardref13_Print 4 [4, 5, 6, 7] [Value.slice p9 m10 m11, Value.int IntKind.i64 n14, Value.slice
  none 0 0, Value.int IntKind.i64 0] h5 Q)) : EvQ P f_brickyardref13_Print [Value.slice p1 m2 m3] h Q := fn_ok (n := 400) (ann := annOf [(4, [4, 5, 6, 7]), (7, [4, 5, 6, 7, 8]), (11, [4, 5, 6, 7,
  8])]) (Eq.mp (by kernel_rfl) H)
theorem r_brickyardref13_Print_4 {p1 : Option Addr} {m2 : Nat} {m3 : Nat} {n4 : Int} {p5 : Option Addr} {m6 : Nat} {m7 : Nat} {n8 : Int} {h : AW} {Q : Value → AW → Prop} (H : bC (decide (n8 < (↑m2
  : Int))) (unitAt P f_brickyardref13_Print 7 [4, 5, 6, 7, 8] [Value.slice p1 m2 m3, Value.int IntKind.i64 n4, Value.slice p5 m6 m7, Value.int IntKind.i64 n8, Value.int IntKind.i64 0] h Q) (oB
  (AW.bytes h p5 m6) fun s9 => Q (Value.tuple (Array.mk [Value.string s9, Value.int IntKind.i64 n4])) h)) : unitAt P f_brickyardref13_Print 4 [4, 5, 6, 7] [Value.slice p1 m2 m3, Value.int
  IntKind.i64 n4, Value.slice p5 m6 m7, Value.int IntKind.i64 n8] h Q := unit_ok (n := 400) (ann := annOf [(4, [4, 5, 6, 7]), (7, [4, 5, 6, 7, 8]), (11, [4, 5, 6, 7, 8])]) (Eq.mp
  (by kernel_rfl) H)
theorem r_brickyardref13_Print_7 {p1 : Option Addr} {m2 : Nat} {m3 : Nat} {n4 : Int} {p5 : Option Addr} {m6 : Nat} {m7 : Nat} {n8 : Int} {n9 : Int} {h : AW} {Q : Value → AW → Prop} (H : aP p1 fun
  m10 m11 => oB (natIdx n8 m2) fun m12 => oB (AW.rd h m10 (m11 + m12 * 1)) fun v13 => vSl v13 fun p14 m15 m16 => bC (decide (n9 < (↑m15 : Int))) (bC (decide (n9 > 0)) (oP (appendB
  P (AW.addVar h [Value.int IntKind.u8 32]) (Array.mk [ty_sl_uint8, ty_sl_uint8]) [Value.slice p5 m6 m7, Value.slice (some (Addr.mk (AW.next h) 0 none)) 1 1]) fun v17 h18 => vSl v17 fun p19
  m20 m21 => unitAt P f_brickyardref13_Print 11 [4, 5, 6, 7, 8] [Value.slice p1 m2 m3, Value.int IntKind.i64 n4, Value.slice p19 m20 m21, Value.int IntKind.i64 n8, Value.int IntKind.i64 n9] h18 Q)
  (unitAt P f_brickyardref13_Print 11 [4, 5, 6, 7, 8] [Value.slice p1 m2 m3, Value.int IntKind.i64 n4, Value.slice p5 m6 m7, Value.int IntKind.i64 n8, Value.int IntKind.i64 n9] h Q)) (oP (appendB P
  (AW.addVar h [Value.int IntKind.u8 10]) (Array.mk [ty_sl_uint8, ty_sl_uint8]) [Value.slice p5 m6 m7, Value.slice (some (Addr.mk (AW.next h) 0 none)) 1 1]) fun v22 h23 => vSl v22 fun p24
  m25 m26 => unitAt P f_brickyardref13_Print 4 [4, 5, 6, 7] [Value.slice p1 m2 m3, Value.int IntKind.i64 n4, Value.slice p24 m25 m26, Value.int IntKind.i64 (IntKind.wrap IntKind.i64 (n8 + 1))] h23
  Q)) : unitAt P f_brickyardref13_Print 7 [4, 5, 6, 7, 8] [Value.slice p1 m2 m3, Value.int IntKind.i64 n4, Value.slice p5 m6 m7, Value.int IntKind.i64 n8, Value.int IntKind.i64 n9] h Q := unit_ok (n
  := 400) (ann := annOf [(4, [4, 5, 6, 7]), (7, [4, 5, 6, 7, 8]), (11, [4, 5, 6, 7, 8])]) (Eq.mp (by kernel_rfl) H)
theorem r_brickyardref13_Print_11 {p1 : Option Addr} {m2 : Nat} {m3 : Nat} {n4 : Int} {p5 : Option Addr} {m6 : Nat} {m7 : Nat} {n8 : Int} {n9 : Int} {h : AW} {Q : Value → AW → Prop} (H : aP p1 fun
  m10 m11 => oB (natIdx n8 m2) fun m12 => oB (AW.rd h m10 (m11 + m12 * 1)) fun v13 => vSl v13 fun p14 m15 m16 => aP p14 fun m17 m18 => oB (natIdx n9 m15) fun m19 => oB (AW.rd h m17
  (m18 + m19 * 1)) fun v20 => vStr v20 fun s21 => EvQ P f_brickyardref11_Show [Value.string s21] h fun v22 h23 => vStr v22 fun s24 => oP (appendB P h23 (Array.mk [ty_sl_uint8, ty_string]) [Value.slice p5 m6
  m7, Value.string s24]) fun v25 h26 => vSl v25 fun p27 m28 m29 => unitAt P f_brickyardref13_Print 7 [4, 5, 6, 7, 8] [Value.slice p1 m2 m3, Value.int IntKind.i64 n4, Value.slice p27 m28 m29,
  Value.int IntKind.i64 n8, Value.int IntKind.i64 (IntKind.wrap IntKind.i64 (n9 + 1))] h26 Q) : unitAt P f_brickyardref13_Print 11 [4, 5, 6, 7, 8] [Value.slice p1 m2 m3, Value.int IntKind.i64 n4,
  Value.slice p5 m6 m7, Value.int IntKind.i64 n8, Value.int IntKind.i64 n9] h Q := unit_ok (n := 400) (ann := annOf [(4, [4, 5, 6, 7]), (7, [4, 5, 6, 7, 8]), (11, [4, 5, 6, 7,
  8])]) (Eq.mp (by kernel_rfl) H)
theorem r_brickyardref13_May {p1 : Option Addr} {m2 : Nat} {m3 : Nat} {h : AW} {Q : Value → AW → Prop} (H : EvQ P f_brickyardref13_one [Value.slice p1 m2 m3] h fun v4 h5 => vBool v4 fun b6 => bC b6 (EvQ P f_brickyardref13_Size
  [Value.slice p1 m2 m3] h5 fun v7 h8 => vInt IntKind.i64 v7 fun n9 => bC (decide (n9 ≤ 256)) (EvQ P f_brickyardref13_Deep [Value.slice p1 m2 m3] h8 fun v10 h11 => vInt IntKind.i64 v10 fun n12 => Q
  (Value.bool (decide (n12 ≤ 8))) h11) (Q (Value.bool false) h8)) (Q (Value.bool false) h5)) : EvQ P f_brickyardref13_May [Value.slice p1 m2 m3] h Q := fn_ok (n := 400) (ann := annOf []) (Eq.mp
  (by kernel_rfl) H)
theorem r_brickyardref13_Size {p1 : Option Addr} {m2 : Nat} {m3 : Nat} {h : AW} {Q : Value → AW → Prop} (H : unitAt P f_brickyardref13_Size 3 [0, 3, 4] [Value.slice p1 m2 m3, Value.int IntKind.i64 0, Value.int
  IntKind.i64 0] h Q) : EvQ P f_brickyardref13_Size [Value.slice p1 m2 m3] h Q := fn_ok (n := 400) (ann := annOf [(3, [0, 3, 4])]) (Eq.mp (by kernel_rfl) H)
theorem r_brickyardref13_Size_3 {p1 : Option Addr} {m2 : Nat} {m3 : Nat} {n4 : Int} {n5 : Int} {h : AW} {Q : Value → AW → Prop} (H : bC (decide (n5 < (↑m2 : Int))) (aP p1 fun m6 m7 => oB (natIdx
  n5 m2) fun m8 => oB (AW.rd h m6 (m7 + m8 * 4 + 3)) fun v9 => vSl v9 fun p10 m11 m12 => EvQ P f_brickyardref13_Size [Value.slice p10 m11 m12] h fun v13 h14 => vInt IntKind.i64 v13 fun n15 =>
  unitAt P f_brickyardref13_Size 3 [0, 3, 4] [Value.slice p1 m2 m3, Value.int IntKind.i64 (IntKind.wrap IntKind.i64 (n4 + IntKind.wrap IntKind.i64 (1 + n15))), Value.int IntKind.i64 (IntKind.wrap
  IntKind.i64 (n5 + 1))] h14 Q) (Q (Value.int IntKind.i64 n4) h)) : unitAt P f_brickyardref13_Size 3 [0, 3, 4] [Value.slice p1 m2 m3, Value.int IntKind.i64 n4, Value.int IntKind.i64 n5] h Q :=
  unit_ok (n := 400) (ann := annOf [(3, [0, 3, 4])]) (Eq.mp (by kernel_rfl) H)
theorem r_brickyardref13_Deep {p1 : Option Addr} {m2 : Nat} {m3 : Nat} {h : AW} {Q : Value → AW → Prop} (H : unitAt P f_brickyardref13_Deep 3 [0, 3, 4] [Value.slice p1 m2 m3, Value.int IntKind.i64 0, Value.int
  IntKind.i64 0] h Q) : EvQ P f_brickyardref13_Deep [Value.slice p1 m2 m3] h Q := fn_ok (n := 400) (ann := annOf [(3, [0, 3, 4])]) (Eq.mp (by kernel_rfl) H)
theorem r_brickyardref13_Deep_3 {p1 : Option Addr} {m2 : Nat} {m3 : Nat} {n4 : Int} {n5 : Int} {h : AW} {Q : Value → AW → Prop} (H : bC (decide (n5 < (↑m2 : Int))) (aP p1 fun m6 m7 => oB (natIdx
  n5 m2) fun m8 => oB (AW.rd h m6 (m7 + m8 * 4)) fun v9 => vInt IntKind.i64 v9 fun n10 => EvQ P f_brickyardref13_Opens [Value.int IntKind.i64 n10] h fun v11 h12 => vBool v11 fun b13 => bC b13 (aP p1
  fun m14 m15 => oB (natIdx n5 m2) fun m16 => oB (AW.rd h12 m14 (m15 + m16 * 4 + 3)) fun v17 => vSl v17 fun p18 m19 m20 => EvQ P f_brickyardref13_Deep [Value.slice p18 m19 m20] h12 fun v21 h22 =>
  vInt IntKind.i64 v21 fun n23 => unitAt P f_brickyardref13_Deep 3 [0, 3, 4] [Value.slice p1 m2 m3, Value.int IntKind.i64 (if IntKind.wrap IntKind.i64 (1 + n23) > n4 then IntKind.wrap IntKind.i64
  (1 + n23) else n4), Value.int IntKind.i64 (IntKind.wrap IntKind.i64 (n5 + 1))] h22 Q) (unitAt P f_brickyardref13_Deep 3 [0, 3, 4] [Value.slice p1 m2 m3, Value.int IntKind.i64 n4, Value.int
  IntKind.i64 (IntKind.wrap IntKind.i64 (n5 + 1))] h12 Q)) (Q (Value.int IntKind.i64 n4) h)) : unitAt P f_brickyardref13_Deep 3 [0, 3, 4] [Value.slice p1 m2 m3, Value.int IntKind.i64 n4, Value.int
  IntKind.i64 n5] h Q := unit_ok (n := 400) (ann := annOf [(3, [0, 3, 4])]) (Eq.mp (by kernel_rfl) H)
theorem r_brickyardref13_Alike {p1 : Option Addr} {m2 : Nat} {m3 : Nat} {p4 : Option Addr} {m5 : Nat} {m6 : Nat} {h : AW} {Q : Value → AW → Prop} (H : bC ((↑m2 : Int) != (↑m5 : Int)) (Q
  (Value.bool false) h) (unitAt P f_brickyardref13_Alike 4 [0, 1, 5] [Value.slice p1 m2 m3, Value.slice p4 m5 m6, Value.int IntKind.i64 0] h Q)) : EvQ P f_brickyardref13_Alike [Value.slice p1 m2 m3, Value.slice p4 m5
  m6] h Q := fn_ok (n := 400) (ann := annOf [(4, [0, 1, 5]), (9, [0, 1, 5, 6])]) (Eq.mp (by kernel_rfl) H)
theorem r_brickyardref13_Alike_4 {p1 : Option Addr} {m2 : Nat} {m3 : Nat} {p4 : Option Addr} {m5 : Nat} {m6 : Nat} {n7 : Int} {h : AW} {Q : Value → AW → Prop} (H : bC (decide (n7 < (↑m2 : Int)))
  (aP p1 fun m8 m9 => oB (natIdx n7 m2) fun m10 => oB (AW.rd h m8 (m9 + m10 * 1)) fun v11 => vSl v11 fun p12 m13 m14 => aP p4 fun m15 m16 => oB (natIdx n7 m5) fun m17 => oB (AW.rd
  h m15 (m16 + m17 * 1)) fun v18 => vSl v18 fun p19 m20 m21 => bC ((↑m13 : Int) != (↑m20 : Int)) (Q (Value.bool false) h) (unitAt P f_brickyardref13_Alike 9 [0, 1, 5, 6] [Value.slice p1 m2 m3,
  Value.slice p4 m5 m6, Value.int IntKind.i64 n7, Value.int IntKind.i64 0] h Q)) (Q (Value.bool true) h)) : unitAt P f_brickyardref13_Alike 4 [0, 1, 5] [Value.slice p1 m2 m3, Value.slice p4 m5 m6,
  Value.int IntKind.i64 n7] h Q := unit_ok (n := 400) (ann := annOf [(4, [0, 1, 5]), (9, [0, 1, 5, 6])]) (Eq.mp (by kernel_rfl) H)
theorem r_brickyardref13_Alike_9 {p1 : Option Addr} {m2 : Nat} {m3 : Nat} {p4 : Option Addr} {m5 : Nat} {m6 : Nat} {n7 : Int} {n8 : Int} {h : AW} {Q : Value → AW → Prop} (H : aP p1 fun m9 m10 =>
  oB (natIdx n7 m2) fun m11 => oB (AW.rd h m9 (m10 + m11 * 1)) fun v12 => vSl v12 fun p13 m14 m15 => bC (decide (n8 < (↑m14 : Int))) (aP p1 fun m16 m17 => oB (natIdx n7 m2) fun m18
  => oB (AW.rd h m16 (m17 + m18 * 1)) fun v19 => vSl v19 fun p20 m21 m22 => aP p20 fun m23 m24 => oB (natIdx n8 m21) fun m25 => oB (AW.rd h m23 (m24 + m25 * 1)) fun v26 => vStr v26
  fun s27 => aP p4 fun m28 m29 => oB (natIdx n7 m5) fun m30 => oB (AW.rd h m28 (m29 + m30 * 1)) fun v31 => vSl v31 fun p32 m33 m34 => aP p32 fun m35 m36 => oB (natIdx n8 m33) fun
  m37 => oB (AW.rd h m35 (m36 + m37 * 1)) fun v38 => vStr v38 fun s39 => bC (!bEq s27 s39) (Q (Value.bool false) h) (unitAt P f_brickyardref13_Alike 9 [0, 1, 5, 6] [Value.slice p1 m2 m3, Value.slice
  p4 m5 m6, Value.int IntKind.i64 n7, Value.int IntKind.i64 (IntKind.wrap IntKind.i64 (n8 + 1))] h Q)) (unitAt P f_brickyardref13_Alike 4 [0, 1, 5] [Value.slice p1 m2 m3, Value.slice p4 m5 m6,
  Value.int IntKind.i64 (IntKind.wrap IntKind.i64 (n7 + 1))] h Q)) : unitAt P f_brickyardref13_Alike 9 [0, 1, 5, 6] [Value.slice p1 m2 m3, Value.slice p4 m5 m6, Value.int IntKind.i64 n7, Value.int
  IntKind.i64 n8] h Q := unit_ok (n := 400) (ann := annOf [(4, [0, 1, 5]), (9, [0, 1, 5, 6])]) (Eq.mp (by kernel_rfl) H)
theorem r_brickyardref13_all {p1 : Option Addr} {m2 : Nat} {m3 : Nat} {h : AW} {Q : Value → AW → Prop} (H : unitAt P f_brickyardref13_all 3 [0, 3, 4] [Value.slice p1 m2 m3, Value.slice none 0 0, Value.int
  IntKind.i64 0] h Q) : EvQ P f_brickyardref13_all [Value.slice p1 m2 m3] h Q := fn_ok (n := 400) (ann := annOf [(3, [0, 3, 4]), (10, [0, 3, 4, 5, 6])]) (Eq.mp (by kernel_rfl) H)
theorem r_brickyardref13_all_3 {p1 : Option Addr} {m2 : Nat} {m3 : Nat} {p4 : Option Addr} {m5 : Nat} {m6 : Nat} {n7 : Int} {h : AW} {Q : Value → AW → Prop} (H : bC (decide (n7 < (↑m2 : Int)))
  (aP p1 fun m8 m9 => oB (natIdx n7 m2) fun m10 => oB (AW.rd h m8 (m9 + m10 * 4)) fun v11 => vInt IntKind.i64 v11 fun n12 => oB (AW.rd h m8 (m9 + m10 * 4 + 1)) fun v13 => vSl v13
  fun p14 m15 m16 => oB (AW.rd h m8 (m9 + m10 * 4 + 1 + 1)) fun v17 => vInt IntKind.i64 v17 fun n18 => oB (AW.rd h m8 (m9 + m10 * 4 + 1 + 1 + 1)) fun v19 => vSl v19 fun p20 m21 m22
  => oB (AW.wrL (AW.addVar h [Value.int IntKind.i64 0, Value.slice none 0 0, Value.int IntKind.i64 0, Value.slice none 0 0]) (AW.next h) 0 [Value.int IntKind.i64 n12, Value.slice
  p14 m15 m16, Value.int IntKind.i64 n18, Value.slice p20 m21 m22]) fun h23 => oB (AW.rd h23 (AW.next h) 0) fun v24 => vInt IntKind.i64 v24 fun n25 => EvQ P f_brickyardref13_Word [Value.int
  IntKind.i64 n25] h23 fun v26 h27 => vStr v26 fun s28 => oB (AW.rd (AW.addVar h27 [Value.string s28]) (AW.next h) 1) fun v29 => vSl v29 fun p30 m31 m32 => oP (appendB P (AW.addVar
  h27 [Value.string s28]) (Array.mk [ty_sl_string, ty_sl_string]) [Value.slice (some (Addr.mk (AW.next h27) 0 none)) 1 1, Value.slice p30 m31 m32]) fun v33 h34 => vSl v33 fun p35 m36 m37 => oB
  (AW.rd h34 (AW.next h) 0) fun v38 => vInt IntKind.i64 v38 fun n39 => bC (n39 == 10) (oB (AW.rd h34 (AW.next h) 2) fun v40 => vInt IntKind.i64 v40 fun n41 => EvQ P f_brickyardref13_Digits [Value.int
  IntKind.i64 n41] h34 fun v42 h43 => vStr v42 fun s44 => oP (appendB P (AW.addVar h43 [Value.string s44]) (Array.mk [ty_sl_string, ty_sl_string]) [Value.slice p35 m36 m37, Value.slice (some
  (Addr.mk (AW.next h43) 0 none)) 1 1]) fun v45 h46 => vSl v45 fun p47 m48 m49 => unitAt P f_brickyardref13_all 10 [0, 3, 4, 5, 6] [Value.slice p1 m2 m3, Value.slice p4 m5 m6, Value.int
  IntKind.i64 n7, Value.pointer (some (Addr.mk (AW.next h) 0 none)), Value.slice p47 m48 m49] h46 Q) (unitAt P f_brickyardref13_all 10 [0, 3, 4, 5, 6] [Value.slice p1 m2 m3, Value.slice p4 m5 m6,
  Value.int IntKind.i64 n7, Value.pointer (some (Addr.mk (AW.next h) 0 none)), Value.slice p35 m36 m37] h34 Q)) (Q (Value.slice p4 m5 m6) h)) : unitAt P f_brickyardref13_all 3 [0, 3, 4]
  [Value.slice p1 m2 m3, Value.slice p4 m5 m6, Value.int IntKind.i64 n7] h Q := unit_ok (n := 400) (ann := annOf [(3, [0, 3, 4]), (10, [0, 3, 4, 5, 6])]) (Eq.mp (by kernel_rfl) H)
theorem r_brickyardref13_all_10 {p1 : Option Addr} {m2 : Nat} {m3 : Nat} {p4 : Option Addr} {m5 : Nat} {m6 : Nat} {n7 : Int} {m8 : Nat} {p9 : Option Addr} {m10 : Nat} {m11 : Nat} {h : AW} {Q :
  Value → AW → Prop} (H : oP (appendB P (AW.addVar h [Value.slice p9 m10 m11]) (Array.mk [ty_sl_sl_string, ty_sl_sl_string]) [Value.slice p4 m5 m6, Value.slice (some (Addr.mk (AW.next h) 0 none)) 1
  1]) fun v12 h13 => vSl v12 fun p14 m15 m16 => oB (AW.rd h13 m8 0) fun v17 => vInt IntKind.i64 v17 fun n18 => EvQ P f_brickyardref13_Opens [Value.int IntKind.i64 n18] h13 fun v19 h20 => vBool v19
  fun b21 => bC b21 (oB (AW.rd h20 m8 3) fun v22 => vSl v22 fun p23 m24 m25 => EvQ P f_brickyardref13_all [Value.slice p23 m24 m25] h20 fun v26 h27 => vSl v26 fun p28 m29 m30 => oP (appendB P h27
  (Array.mk [ty_sl_sl_string, ty_sl_sl_string]) [Value.slice p14 m15 m16, Value.slice p28 m29 m30]) fun v31 h32 => vSl v31 fun p33 m34 m35 => oP (appendB P (AW.addVar (AW.addVar h32 [Value.string
  (ByteArray.mk #[101, 110, 100])]) [Value.slice (some (Addr.mk (AW.next h32) 0 none)) 1 1]) (Array.mk [ty_sl_sl_string, ty_sl_sl_string]) [Value.slice p33 m34 m35, Value.slice (some (Addr.mk (AW.next
  (AW.addVar h32 [Value.string (ByteArray.mk #[101, 110, 100])])) 0 none)) 1 1]) fun v36 h37 => vSl v36 fun p38 m39 m40 => unitAt P f_brickyardref13_all 3 [0, 3, 4] [Value.slice p1 m2 m3,
  Value.slice p38 m39 m40, Value.int IntKind.i64 (IntKind.wrap IntKind.i64 (n7 + 1))] h37 Q) (unitAt P f_brickyardref13_all 3 [0, 3, 4] [Value.slice p1 m2 m3, Value.slice p14 m15 m16, Value.int
  IntKind.i64 (IntKind.wrap IntKind.i64 (n7 + 1))] h20 Q)) : unitAt P f_brickyardref13_all 10 [0, 3, 4, 5, 6] [Value.slice p1 m2 m3, Value.slice p4 m5 m6, Value.int IntKind.i64 n7, Value.pointer
  (some (Addr.mk m8 0 none)), Value.slice p9 m10 m11] h Q := unit_ok (n := 400) (ann := annOf [(3, [0, 3, 4]), (10, [0, 3, 4, 5, 6])]) (Eq.mp (by kernel_rfl) H)
theorem r_brickyardref13_one {p1 : Option Addr} {m2 : Nat} {m3 : Nat} {h : AW} {Q : Value → AW → Prop} (H : unitAt P f_brickyardref13_one 2 [0, 3] [Value.slice p1 m2 m3, Value.int IntKind.i64 0] h Q) : EvQ P
  f_brickyardref13_one [Value.slice p1 m2 m3] h Q := fn_ok (n := 400) (ann := annOf [(2, [0, 3])]) (Eq.mp (by kernel_rfl) H)
theorem r_brickyardref13_one_2 {p1 : Option Addr} {m2 : Nat} {m3 : Nat} {n4 : Int} {h : AW} {Q : Value → AW → Prop} (H : bC (decide (n4 < (↑m2 : Int))) (aP p1 fun m5 m6 => oB (natIdx n4 m2) fun
  m7 => oB (AW.rd h m5 (m6 + m7 * 4)) fun v8 => vInt IntKind.i64 v8 fun n9 => oB (AW.rd h m5 (m6 + m7 * 4 + 1)) fun v10 => vSl v10 fun p11 m12 m13 => oB (AW.rd h m5 (m6 + m7 * 4 +
  1 + 1)) fun v14 => vInt IntKind.i64 v14 fun n15 => oB (AW.rd h m5 (m6 + m7 * 4 + 1 + 1 + 1)) fun v16 => vSl v16 fun p17 m18 m19 => oB (AW.wrL (AW.addVar h [Value.int IntKind.i64
  0, Value.slice none 0 0, Value.int IntKind.i64 0, Value.slice none 0 0]) (AW.next h) 0 [Value.int IntKind.i64 n9, Value.slice p11 m12 m13, Value.int IntKind.i64 n15, Value.slice
  p17 m18 m19]) fun h20 => oB (AW.rd h20 (AW.next h) 0) fun v21 => vInt IntKind.i64 v21 fun n22 => EvQ P f_brickyardref13_Word [Value.int IntKind.i64 n22] h20 fun v23 h24 => vStr v23 fun s25 => bC
  (bEq s25 (ByteArray.mk #[])) (Q (Value.bool false) h24) (oB (AW.rd h24 (AW.next h) 0) fun v26 => vInt IntKind.i64 v26 fun n27 => EvQ P f_brickyardref13_Args [Value.int IntKind.i64 n27] h24 fun
  v28 h29 => vInt IntKind.i64 v28 fun n30 => bC (decide (n30 ≥ 0)) (oB (AW.rd h29 (AW.next h) 0) fun v31 => vInt IntKind.i64 v31 fun n32 => EvQ P f_brickyardref13_Args [Value.int IntKind.i64 n32]
  h29 fun v33 h34 => vInt IntKind.i64 v33 fun n35 => oB (AW.rd h34 (AW.next h) 1) fun v36 => vSl v36 fun p37 m38 m39 => bC (n35 != (↑m38 : Int)) (oB (AW.rd h29 (AW.next h) 1) fun
  v40 => vSl v40 fun p41 m42 m43 => Value.slice p41 m42 m43 = Value.slice p37 m38 m39 ∧ Value.int IntKind.i64 (↑m38 : Int) = Value.int IntKind.i64 (↑m38 : Int) ∧ Q (Value.bool
  false) h34) (oB (AW.rd h34 (AW.next h) 2) fun v44 => vInt IntKind.i64 v44 fun n45 => bC (decide (n45 < 0)) (oB (AW.rd h29 (AW.next h) 1) fun v46 => vSl v46 fun p47 m48 m49 =>
  Value.slice p47 m48 m49 = Value.slice p37 m38 m39 ∧ Value.int IntKind.i64 (↑m38 : Int) = Value.int IntKind.i64 (↑m38 : Int) ∧ Q (Value.bool false) h34) (oB (AW.rd h34 (AW.next h)
  2) fun v50 => vInt IntKind.i64 v50 fun n51 => bC (decide (n51 > 1000)) (oB (AW.rd h29 (AW.next h) 1) fun v52 => vSl v52 fun p53 m54 m55 => Value.slice p53 m54 m55 = Value.slice
  p37 m38 m39 ∧ Value.int IntKind.i64 (↑m38 : Int) = Value.int IntKind.i64 (↑m38 : Int) ∧ Q (Value.bool false) h34) (oB (AW.rd h34 (AW.next h) 0) fun v56 => vInt IntKind.i64 v56
  fun n57 => bC (n57 != 10) (oB (AW.rd h34 (AW.next h) 2) fun v58 => vInt IntKind.i64 v58 fun n59 => bC (n59 != 0) (oB (AW.rd h29 (AW.next h) 1) fun v60 => vSl v60 fun p61 m62 m63
  => Value.slice p61 m62 m63 = Value.slice p37 m38 m39 ∧ Value.int IntKind.i64 (↑m38 : Int) = Value.int IntKind.i64 (↑m38 : Int) ∧ Q (Value.bool false) h34) (oB (AW.rd h34 (AW.next
  h) 0) fun v64 => vInt IntKind.i64 v64 fun n65 => EvQ P f_brickyardref13_Opens [Value.int IntKind.i64 n65] h34 fun v66 h67 => vBool v66 fun b68 => bC (!b68) (oB (AW.rd h67 (AW.next h) 3) fun v69 =>
  vSl v69 fun p70 m71 m72 => bC (decide ((↑m71 : Int) > 0)) (oB (AW.rd h29 (AW.next h) 1) fun v73 => vSl v73 fun p74 m75 m76 => Value.slice p74 m75 m76 = Value.slice p37 m38 m39 ∧
  Value.int IntKind.i64 (↑m38 : Int) = Value.int IntKind.i64 (↑m38 : Int) ∧ Q (Value.bool false) h67) (oB (AW.rd h67 (AW.next h) 3) fun v77 => vSl v77 fun p78 m79 m80 => EvQ P f_brickyardref13_one
  [Value.slice p78 m79 m80] h67 fun v81 h82 => vBool v81 fun b83 => oB (AW.rd h29 (AW.next h) 1) fun v84 => vSl v84 fun p85 m86 m87 => Value.slice p85 m86 m87 = Value.slice p37 m38
  m39 ∧ Value.int IntKind.i64 (↑m38 : Int) = Value.int IntKind.i64 (↑m38 : Int) ∧ bC (!b83) (Q (Value.bool false) h82) (unitAt P f_brickyardref13_one 2 [0, 3] [Value.slice p1 m2 m3, Value.int
  IntKind.i64 (IntKind.wrap IntKind.i64 (n4 + 1))] h82 Q))) (oB (AW.rd h67 (AW.next h) 3) fun v88 => vSl v88 fun p89 m90 m91 => EvQ P f_brickyardref13_one [Value.slice p89 m90 m91] h67 fun v92 h93
  => vBool v92 fun b94 => oB (AW.rd h29 (AW.next h) 1) fun v95 => vSl v95 fun p96 m97 m98 => Value.slice p96 m97 m98 = Value.slice p37 m38 m39 ∧ Value.int IntKind.i64 (↑m38 : Int)
  = Value.int IntKind.i64 (↑m38 : Int) ∧ bC (!b94) (Q (Value.bool false) h93) (unitAt P f_brickyardref13_one 2 [0, 3] [Value.slice p1 m2 m3, Value.int IntKind.i64 (IntKind.wrap IntKind.i64 (n4 +
  1))] h93 Q)))) (oB (AW.rd h34 (AW.next h) 0) fun v99 => vInt IntKind.i64 v99 fun n100 => EvQ P f_brickyardref13_Opens [Value.int IntKind.i64 n100] h34 fun v101 h102 => vBool v101 fun b103 => bC
  (!b103) (oB (AW.rd h102 (AW.next h) 3) fun v104 => vSl v104 fun p105 m106 m107 => bC (decide ((↑m106 : Int) > 0)) (oB (AW.rd h29 (AW.next h) 1) fun v108 => vSl v108 fun p109 m110
  m111 => Value.slice p109 m110 m111 = Value.slice p37 m38 m39 ∧ Value.int IntKind.i64 (↑m38 : Int) = Value.int IntKind.i64 (↑m38 : Int) ∧ Q (Value.bool false) h102) (oB (AW.rd
  h102 (AW.next h) 3) fun v112 => vSl v112 fun p113 m114 m115 => EvQ P f_brickyardref13_one [Value.slice p113 m114 m115] h102 fun v116 h117 => vBool v116 fun b118 => oB (AW.rd h29 (AW.next h) 1)
  fun v119 => vSl v119 fun p120 m121 m122 => Value.slice p120 m121 m122 = Value.slice p37 m38 m39 ∧ Value.int IntKind.i64 (↑m38 : Int) = Value.int IntKind.i64 (↑m38 : Int) ∧ bC
  (!b118) (Q (Value.bool false) h117) (unitAt P f_brickyardref13_one 2 [0, 3] [Value.slice p1 m2 m3, Value.int IntKind.i64 (IntKind.wrap IntKind.i64 (n4 + 1))] h117 Q))) (oB (AW.rd h102 (AW.next
  h) 3) fun v123 => vSl v123 fun p124 m125 m126 => EvQ P f_brickyardref13_one [Value.slice p124 m125 m126] h102 fun v127 h128 => vBool v127 fun b129 => oB (AW.rd h29 (AW.next h) 1) fun v130 => vSl
  v130 fun p131 m132 m133 => Value.slice p131 m132 m133 = Value.slice p37 m38 m39 ∧ Value.int IntKind.i64 (↑m38 : Int) = Value.int IntKind.i64 (↑m38 : Int) ∧ bC (!b129) (Q
  (Value.bool false) h128) (unitAt P f_brickyardref13_one 2 [0, 3] [Value.slice p1 m2 m3, Value.int IntKind.i64 (IntKind.wrap IntKind.i64 (n4 + 1))] h128 Q))))))) (oB (AW.rd h29 (AW.next h) 2) fun
  v134 => vInt IntKind.i64 v134 fun n135 => bC (decide (n135 < 0)) (Q (Value.bool false) h29) (oB (AW.rd h29 (AW.next h) 2) fun v136 => vInt IntKind.i64 v136 fun n137 => bC (decide
  (n137 > 1000)) (Q (Value.bool false) h29) (oB (AW.rd h29 (AW.next h) 0) fun v138 => vInt IntKind.i64 v138 fun n139 => bC (n139 != 10) (oB (AW.rd h29 (AW.next h) 2) fun v140 =>
  vInt IntKind.i64 v140 fun n141 => bC (n141 != 0) (Q (Value.bool false) h29) (oB (AW.rd h29 (AW.next h) 0) fun v142 => vInt IntKind.i64 v142 fun n143 => EvQ P f_brickyardref13_Opens [Value.int
  IntKind.i64 n143] h29 fun v144 h145 => vBool v144 fun b146 => bC (!b146) (oB (AW.rd h145 (AW.next h) 3) fun v147 => vSl v147 fun p148 m149 m150 => bC (decide ((↑m149 : Int) > 0))
  (Q (Value.bool false) h145) (oB (AW.rd h145 (AW.next h) 3) fun v151 => vSl v151 fun p152 m153 m154 => EvQ P f_brickyardref13_one [Value.slice p152 m153 m154] h145 fun v155 h156 => vBool v155 fun
  b157 => bC (!b157) (Q (Value.bool false) h156) (unitAt P f_brickyardref13_one 2 [0, 3] [Value.slice p1 m2 m3, Value.int IntKind.i64 (IntKind.wrap IntKind.i64 (n4 + 1))] h156 Q))) (oB (AW.rd h145
  (AW.next h) 3) fun v158 => vSl v158 fun p159 m160 m161 => EvQ P f_brickyardref13_one [Value.slice p159 m160 m161] h145 fun v162 h163 => vBool v162 fun b164 => bC (!b164) (Q (Value.bool false)
  h163) (unitAt P f_brickyardref13_one 2 [0, 3] [Value.slice p1 m2 m3, Value.int IntKind.i64 (IntKind.wrap IntKind.i64 (n4 + 1))] h163 Q)))) (oB (AW.rd h29 (AW.next h) 0) fun v165 => vInt
  IntKind.i64 v165 fun n166 => EvQ P f_brickyardref13_Opens [Value.int IntKind.i64 n166] h29 fun v167 h168 => vBool v167 fun b169 => bC (!b169) (oB (AW.rd h168 (AW.next h) 3) fun v170 => vSl v170
  fun p171 m172 m173 => bC (decide ((↑m172 : Int) > 0)) (Q (Value.bool false) h168) (oB (AW.rd h168 (AW.next h) 3) fun v174 => vSl v174 fun p175 m176 m177 => EvQ P f_brickyardref13_one
  [Value.slice p175 m176 m177] h168 fun v178 h179 => vBool v178 fun b180 => bC (!b180) (Q (Value.bool false) h179) (unitAt P f_brickyardref13_one 2 [0, 3] [Value.slice p1 m2 m3, Value.int
  IntKind.i64 (IntKind.wrap IntKind.i64 (n4 + 1))] h179 Q))) (oB (AW.rd h168 (AW.next h) 3) fun v181 => vSl v181 fun p182 m183 m184 => EvQ P f_brickyardref13_one [Value.slice p182 m183 m184] h168
  fun v185 h186 => vBool v185 fun b187 => bC (!b187) (Q (Value.bool false) h186) (unitAt P f_brickyardref13_one 2 [0, 3] [Value.slice p1 m2 m3, Value.int IntKind.i64 (IntKind.wrap IntKind.i64 (n4
  + 1))] h186 Q)))))))) (Q (Value.bool true) h)) : unitAt P f_brickyardref13_one 2 [0, 3] [Value.slice p1 m2 m3, Value.int IntKind.i64 n4] h Q := unit_ok (n := 400) (ann := annOf [(2, [0, 3])])
  (Eq.mp (by kernel_rfl) H)
theorem r_brickyardref13_Opens {n1 : Int} {h : AW} {Q : Value → AW → Prop} (H : bC (n1 == 10) (Q (Value.bool true) h) (bC (n1 == 11) (Q (Value.bool true) h) (Q (Value.bool (n1 == 12)) h))) : EvQ P
  f_brickyardref13_Opens [Value.int IntKind.i64 n1] h Q := fn_ok (n := 400) (ann := annOf []) (Eq.mp (by kernel_rfl) H)
theorem r_brickyardref13_Word {n1 : Int} {h : AW} {Q : Value → AW → Prop} (H : bC (n1 == 1) (Q (Value.string (ByteArray.mk #[110, 101, 101, 100])) h) (bC (n1 == 2) (Q (Value.string (ByteArray.mk
  #[99, 97, 116])) h) (bC (n1 == 3) (Q (Value.string (ByteArray.mk #[116, 101, 120, 116])) h) (bC (n1 == 4) (Q (Value.string (ByteArray.mk #[117, 112, 112, 101, 114])) h) (bC (n1
  == 5) (Q (Value.string (ByteArray.mk #[115, 111, 114, 116])) h) (bC (n1 == 6) (Q (Value.string (ByteArray.mk #[117, 110, 105, 113])) h) (bC (n1 == 7) (Q (Value.string
  (ByteArray.mk #[99, 111, 117, 110, 116])) h) (bC (n1 == 8) (Q (Value.string (ByteArray.mk #[119, 114, 105, 116, 101])) h) (bC (n1 == 9) (Q (Value.string (ByteArray.mk #[102, 97,
  105, 108])) h) (bC (n1 == 10) (Q (Value.string (ByteArray.mk #[114, 101, 112, 101, 97, 116])) h) (bC (n1 == 11) (Q (Value.string (ByteArray.mk #[101, 97, 99, 104])) h) (bC (n1 ==
  12) (Q (Value.string (ByteArray.mk #[119, 104, 101, 110])) h) (Q (Value.string (ByteArray.mk #[])) h))))))))))))) : EvQ P f_brickyardref13_Word [Value.int IntKind.i64 n1] h Q := fn_ok (n := 400)
  (ann := annOf []) (Eq.mp (by kernel_rfl) H)
theorem r_brickyardref13_Args {n1 : Int} {h : AW} {Q : Value → AW → Prop} (H : bC (n1 == 1) (Q (Value.int IntKind.i64 1) h) (bC (n1 == 2) (Q (Value.int IntKind.i64 1) h) (bC (n1 == 8) (Q
  (Value.int IntKind.i64 1) h) (bC (n1 == 11) (Q (Value.int IntKind.i64 1) h) (unitAt P f_brickyardref13_Args 7 [3] [Value.int IntKind.i64 n1] h Q))))) : EvQ P f_brickyardref13_Args [Value.int IntKind.i64 n1] h Q
  := fn_ok (n := 400) (ann := annOf [(7, [3]), (10, [3])]) (Eq.mp (by kernel_rfl) H)
theorem r_brickyardref13_Args_7 {n1 : Int} {h : AW} {Q : Value → AW → Prop} (H : bC (n1 == 3) (Q (Value.int IntKind.i64 (Int.negSucc 0)) h) (bC (n1 == 9) (Q (Value.int IntKind.i64 (Int.negSucc
  0)) h) (unitAt P f_brickyardref13_Args 10 [3] [Value.int IntKind.i64 n1] h Q))) : unitAt P f_brickyardref13_Args 7 [3] [Value.int IntKind.i64 n1] h Q := unit_ok (n := 400) (ann := annOf [(7, [3]), (10, [3])])
  (Eq.mp (by kernel_rfl) H)
theorem r_brickyardref13_Args_10 {n1 : Int} {h : AW} {Q : Value → AW → Prop} (H : bC (n1 == 12) (Q (Value.int IntKind.i64 2) h) (Q (Value.int IntKind.i64 0) h)) : unitAt P f_brickyardref13_Args 10 [3] [Value.int
  IntKind.i64 n1] h Q := unit_ok (n := 400) (ann := annOf [(7, [3]), (10, [3])]) (Eq.mp (by kernel_rfl) H)
end Go.Proofs.YtgdkekdedgkglaaDoor
end

section
/- Layer 13: kinds, numbers and words. -/
namespace Go.Proofs.YtgdkekdedgkglaaDoor
open Go.Abs Go.Abs.Fo
set_option maxRecDepth 100000
attribute [local irreducible] unitAt EvQ
variable {h : AW} {μ : Paint} {ρ : Store} {Q : Value → AW → Prop}

theorem opens_ok {n : Int} (hq : Q (.bool (opensM n)) h) : EvQ P f_action_opens [.int .i64 n] h Q := by
  refine r_action_opens ?_
  unfold opensM at hq
  refine bC_iff (fun e => ?_) (fun e => ?_)
  · have : decide (10 ≤ n) = true := e
    rw [this] at hq; exact hq
  · have : decide (10 ≤ n) = false := e
    rw [this] at hq; exact hq
theorem eqI {a b : Int} (e : (a == b) = true) : a = b := by simpa using e
theorem neI {a b : Int} (e : (a == b) = false) : a ≠ b := by simpa using e
theorem nb {b : Bool} (e : (!b) = true) : b = false := by cases b <;> simp_all
theorem nb' {b : Bool} (e : (!b) = false) : b = true := by cases b <;> simp_all
theorem rOpens_ok {n : Int} (hq : Q (.bool (opensM n)) h) : EvQ P f_brickyardref13_Opens [.int .i64 n] h Q := by
  refine r_brickyardref13_Opens ?_
  refine bC_iff (fun e => ?_) (fun e => ?_)
  · have e := eqI e; subst e; exact hq
  · refine bC_iff (fun e2 => ?_) (fun e2 => ?_)
    · have e := eqI e2; subst e; exact hq
    · have : (n == 12) = opensM n := by
        have h1 := neI e
        have h2 := neI e2
        unfold opensM
        rw [Bool.eq_iff_iff]
        simp
        omega
      rw [this]; exact hq
theorem rArgs_ok {n : Int} (hq : Q (.int .i64 (argsM n)) h) : EvQ P f_brickyardref13_Args [.int .i64 n] h Q := by
  refine r_brickyardref13_Args ?_
  refine bC_iff (fun e => ?_) (fun e1 => ?_)
  · have e := eqI e; subst e; exact hq
  refine bC_iff (fun e => ?_) (fun e2 => ?_)
  · have e := eqI e; subst e; exact hq
  refine bC_iff (fun e => ?_) (fun e3 => ?_)
  · have e := eqI e; subst e; exact hq
  refine bC_iff (fun e => ?_) (fun e4 => ?_)
  · have e := eqI e; subst e; exact hq
  refine r_brickyardref13_Args_7 ?_
  refine bC_iff (fun e => ?_) (fun e5 => ?_)
  · have e := eqI e; subst e; exact hq
  refine bC_iff (fun e => ?_) (fun e6 => ?_)
  · have e := eqI e; subst e; exact hq
  refine r_brickyardref13_Args_10 ?_
  refine bC_iff (fun e => ?_) (fun e7 => ?_)
  · have e := eqI e; subst e; exact hq
  · have h1 := neI e1
    have h2 := neI e2
    have h3 := neI e3
    have h4 := neI e4
    have h5 := neI e5
    have h6 := neI e6
    have h7 := neI e7
    rw [argsM, if_neg (by omega), if_neg (by omega), if_neg (by omega)] at hq
    exact hq
theorem fits_ok {n : Int} {k : Nat} (hq : Q (.bool (fitsM n k)) h) : EvQ P f_action_fits [.int .i64 n, .int .i64 (k : Int)] h Q := by
  have one : ∀ m : Nat, argsM n = (m : Int) → ((k : Int) == (m : Int)) = fitsM n k := by
    intro m e
    unfold fitsM
    rw [e]
    rw [Bool.eq_iff_iff]
    simp
    omega
  have o1 : ∀ e : argsM n = 1, Q (.bool ((k : Int) == 1)) h := fun e => by
    have := one 1 e
    rw [← this] at hq; exact hq
  refine r_action_fits ?_
  refine bC_iff (fun e => ?_) (fun e1 => ?_)
  · have e := eqI e; subst e; exact o1 rfl
  refine bC_iff (fun e => ?_) (fun e2 => ?_)
  · have e := eqI e; subst e; exact o1 rfl
  refine bC_iff (fun e => ?_) (fun e3 => ?_)
  · have e := eqI e; subst e; exact o1 rfl
  refine bC_iff (fun e => ?_) (fun e4 => ?_)
  · have e := eqI e; subst e; exact o1 rfl
  refine r_action_fits_7 ?_
  refine bC_iff (fun e => ?_) (fun e5 => ?_)
  · have e := eqI e; subst e; exact hq
  refine bC_iff (fun e => ?_) (fun e6 => ?_)
  · have e := eqI e; subst e; exact hq
  refine r_action_fits_10 ?_
  refine bC_iff (fun e => ?_) (fun e7 => ?_)
  · have e := eqI e; subst e
    have := one 2 rfl
    rw [← this] at hq; exact hq
  · have h1 := neI e1
    have h2 := neI e2
    have h3 := neI e3
    have h4 := neI e4
    have h5 := neI e5
    have h6 := neI e6
    have h7 := neI e7
    have := one 0 (by rw [argsM, if_neg (by omega), if_neg (by omega), if_neg (by omega)]; rfl)
    rw [← this] at hq; exact hq
theorem wordM_out {n : Int} (hn : n < 1 ∨ 12 < n) : wordM n = e0 := by
  cases n with
  | negSucc k => rfl
  | ofNat k =>
    unfold wordM
    simp only
    by_cases hk : k = 0
    · subst hk; rfl
    · have : 12 < k := by
        rcases hn with x | x
        · have x : (k : Int) < 1 := x
          omega
        · have x : 12 < (k : Int) := x
          omega
      rw [List.getElem?_eq_none (by simp; omega)]; rfl
theorem rWord_ok {n : Int} (hq : Q (.string (wordM n)) h) : EvQ P f_brickyardref13_Word [.int .i64 n] h Q := by
  refine r_brickyardref13_Word ?_
  refine bC_iff (fun e => ?_) (fun e1 => ?_)
  · have e := eqI e; subst e; exact hq
  refine bC_iff (fun e => ?_) (fun e2 => ?_)
  · have e := eqI e; subst e; exact hq
  refine bC_iff (fun e => ?_) (fun e3 => ?_)
  · have e := eqI e; subst e; exact hq
  refine bC_iff (fun e => ?_) (fun e4 => ?_)
  · have e := eqI e; subst e; exact hq
  refine bC_iff (fun e => ?_) (fun e5 => ?_)
  · have e := eqI e; subst e; exact hq
  refine bC_iff (fun e => ?_) (fun e6 => ?_)
  · have e := eqI e; subst e; exact hq
  refine bC_iff (fun e => ?_) (fun e7 => ?_)
  · have e := eqI e; subst e; exact hq
  refine bC_iff (fun e => ?_) (fun e8 => ?_)
  · have e := eqI e; subst e; exact hq
  refine bC_iff (fun e => ?_) (fun e9 => ?_)
  · have e := eqI e; subst e; exact hq
  refine bC_iff (fun e => ?_) (fun e10 => ?_)
  · have e := eqI e; subst e; exact hq
  refine bC_iff (fun e => ?_) (fun e11 => ?_)
  · have e := eqI e; subst e; exact hq
  refine bC_iff (fun e => ?_) (fun e12 => ?_)
  · have e := eqI e; subst e; exact hq
  have h1 := neI e1
  have h2 := neI e2
  have h3 := neI e3
  have h4 := neI e4
  have h5 := neI e5
  have h6 := neI e6
  have h7 := neI e7
  have h8 := neI e8
  have h9 := neI e9
  have h10 := neI e10
  have h11 := neI e11
  have h12 := neI e12
  rw [wordM_out (by omega)] at hq
  exact hq
theorem bytes_one {b : UInt8} : AW.bytes (h.addVar [.int .u8 b.toNat]) (some ⟨h.next, 0, none⟩) 1 = some ⟨#[b]⟩ := by
  have hr : (h.addVar [.int .u8 b.toNat]).rd h.next 0 = some (.int .u8 b.toNat) := by
    have := (addVar_at (h := h) (l := [.int .u8 b.toNat])).rd 0
    exact this
  have hn : (h.addVar [.int .u8 b.toNat]).rdN h.next 0 1 = some [.int .u8 b.toNat] := by
    simp only [AW.rdN]
    rw [hr]
  unfold AW.bytes
  simp only
  rw [hn]
  simp only [bytesV]
  rw [show UInt8.ofNat (Int.toNat ((b.toNat : Nat) : Int)) = b from by simp]
theorem wrap8 {n : Nat} (hn : n < 256) : IntKind.wrap .u8 (n : Int) = (n : Int) := by
  unfold IntKind.wrap
  simp [IntKind.signed, IntKind.bits]
  omega
theorem digits_more : ∀ (k n : Nat), n < 10 ^ (k + 1) → digits (k + 1) n = digits k n
  | 0, n, hn => by
    rw [digits, digits, if_neg (by omega)]
  | k + 1, n, hn => by
    rw [digits]
    conv => rhs; rw [digits]
    rw [digits_more k (n / 10) (by rw [Nat.pow_succ] at hn; omega)]
theorem digS_rec {n : Nat} (h0 : 10 ≤ n) (hn : n < 10000) : digS n = digS (n / 10) ++ ⟨#[digB n]⟩ := by
  unfold digS
  rw [digits, if_pos h0]
  have : digits 20 (n / 10) = digits 19 (n / 10) := digits_more 19 _ (by omega)
  rw [this]
  have hh : ∀ a b : List UInt8, (⟨⟨a ++ b⟩⟩ : ByteArray) = (⟨⟨a⟩⟩ : ByteArray) ++ (⟨⟨b⟩⟩ : ByteArray) := by
    intro a b
    apply ByteArray.ext
    simp
  exact hh _ _
theorem digS_small {n : Nat} (h0 : ¬ 10 ≤ n) : digS n = ⟨#[digB n]⟩ := by
  unfold digS
  rw [digits, if_neg h0]
theorem digits_len : ∀ (k n : Nat), (digits k n).length ≤ k + 1
  | 0, n => by simp [digits]
  | k + 1, n => by
    rw [digits]; split
    · have := digits_len k (n / 10); simp; omega
    · simp
theorem rDigits_ok (O : Own h μ ρ) {n : Nat} (hn : n < 10000) (hq : RdQ Q ρ (.string (digS n))) : EvQ P f_brickyardref13_Digits [.int .i64 (n : Int)] h Q := by
  induction n using Nat.strongRecOn generalizing h μ ρ Q with
  | ind n ih =>
    have hw : IntKind.wrap .u8 (IntKind.wrap .i64 (48 + Int.tmod (n : Int) 10)) = ((digB n).toNat : Int) := by
      have e : (48 + Int.tmod (n : Int) 10) = ((48 + n % 10 : Nat) : Int) := by
        have : Int.tmod (n : Int) ((10 : Nat) : Int) = ((n % 10 : Nat) : Int) := rfl
        rw [show (10 : Int) = ((10 : Nat) : Int) from rfl, this]; omega
      rw [e, wrap_small (n := ((48 + n % 10 : Nat) : Int)) (by omega) (by omega), wrap8 (by omega)]
      have : (digB n).toNat = 48 + n % 10 := by
        unfold digB
        rw [UInt8.toNat_ofNat']; omega
      rw [this]
    refine r_brickyardref13_Digits ?_
    rw [hw, bytes_one]
    simp only [oB_some, bC_true, bC_false, vInt_int, vBool_bool, vStr_string, vPtr_pointer, vSl_slice, vMap_map, vFun_func, vAgg_agg, vTup_tuple, vIfc_nil, vIfc_iface, lC_cons, lN_nil, aP_some, shO_none, shO_some, Option.isNone_none, Option.isNone_some, Bool.not_true, Bool.not_false]
    obtain ⟨μ1, O1⟩ := o_junk (l := [.int .u8 (digB n).toNat]) O
    refine bC_iff (fun e => ?_) (fun e => ?_)
    · have e : (n : Int) ≥ 10 := of_decide_eq_true e
      have h10 : 10 ≤ n := by omega
      have e2 : IntKind.wrap .i64 (Int.tdiv (n : Int) 10) = ((n / 10 : Nat) : Int) := by
        have : Int.tdiv (n : Int) ((10 : Nat) : Int) = ((n / 10 : Nat) : Int) := rfl
        rw [show (10 : Int) = ((10 : Nat) : Int) from rfl, this, wrap_small (n := ((n / 10 : Nat) : Int)) (by omega) (by omega)]
      rw [e2]
      refine ih (n / 10) (by omega) O1 (by omega) fun h2 μ2 ρ2 O2 F2 => ?_
      simp only [oB_some, bC_true, bC_false, vInt_int, vBool_bool, vStr_string, vPtr_pointer, vSl_slice, vMap_map, vFun_func, vAgg_agg, vTup_tuple, vIfc_nil, vIfc_iface, lC_cons, lN_nil, aP_some, shO_none, shO_some, Option.isNone_none, Option.isNone_some, Bool.not_true, Bool.not_false]
      have hl : ∀ k, (digS k).size ≤ 21 := fun k => by
        have := digits_len 20 k
        simpa [digS, ByteArray.size] using this
      have h1 : (digS (n / 10)).size ≤ 21 := hl _
      rw [Nat.ble_eq_true_of_le (by have : (ByteArray.mk #[digB n]).size = 1 := rfl; omega)]
      simp only [oB_some, bC_true, bC_false, vInt_int, vBool_bool, vStr_string, vPtr_pointer, vSl_slice, vMap_map, vFun_func, vAgg_agg, vTup_tuple, vIfc_nil, vIfc_iface, lC_cons, lN_nil, aP_some, shO_none, shO_some, Option.isNone_none, Option.isNone_some, Bool.not_true, Bool.not_false]
      rw [← digS_rec h10 hn]
      exact hq _ _ _ O2 F2
    · have e : ¬ (n : Int) ≥ 10 := of_decide_eq_false e
      rw [digS_small (by omega)] at hq
      exact hq.now O1
end Go.Proofs.YtgdkekdedgkglaaDoor
end

section
/- Numbers out of words: where they may be had. -/
namespace Go.Proofs.YtgdkekdedgkglaaDoor
open Go.Abs Go.Abs.Fo
/-- Of these words a number is asked. -/
def Tbs (G : Str → Prop) (ρ : Store) : Prop :=
  ∀ {h : AW} {μ : Paint} {ρ' : Store} {s : Str} {Q : Value → AW → Prop}, Own h μ ρ' → Fra [] ρ ρ' → G s → RdQ Q ρ' (.int .i64 (numM s)) → EvQ P f_action_number [.string s] h Q
theorem Tbs.keep {G : Str → Prop} {ρ ρ' : Store} (T : Tbs G ρ) (F : Fra [] ρ ρ') : Tbs G ρ' := fun O F' => T O (F.trans F')
theorem number_ok {G : Str → Prop} {h : AW} {μ : Paint} {ρ : Store} {Q : Value → AW → Prop} (O : Own h μ ρ) (T : Tbs G ρ) {s : Str} (hs : G s) (hq : RdQ Q ρ (.int .i64 (numM s))) : EvQ P f_action_number [.string s] h Q := T O Fra.refl hs hq
theorem Tbs.none {ρ : Store} : Tbs (fun _ => False) ρ := fun _ _ g => g.elim
end Go.Proofs.YtgdkekdedgkglaaDoor
end

section
/- A line as a statement. -/
namespace Go.Proofs.YtgdkekdedgkglaaDoor
open Go.Abs Go.Abs.Fo
set_option maxRecDepth 100000
attribute [local irreducible] unitAt EvQ
variable {h : AW} {μ : Paint} {ρ : Store} {Q : Value → AW → Prop}

theorem opOf_word {w : Str} (h : opOf w ≠ 0) : wordM (opOf w) = w := by
  unfold opOf at h ⊢
  by_cases e0 : w = wNeed
  · rw [if_pos e0, e0]; rfl
  rw [if_neg e0] at h ⊢
  by_cases e1 : w = wCat
  · rw [if_pos e1, e1]; rfl
  rw [if_neg e1] at h ⊢
  by_cases e2 : w = wText
  · rw [if_pos e2, e2]; rfl
  rw [if_neg e2] at h ⊢
  by_cases e3 : w = wUpper
  · rw [if_pos e3, e3]; rfl
  rw [if_neg e3] at h ⊢
  by_cases e4 : w = wSort
  · rw [if_pos e4, e4]; rfl
  rw [if_neg e4] at h ⊢
  by_cases e5 : w = wUniq
  · rw [if_pos e5, e5]; rfl
  rw [if_neg e5] at h ⊢
  by_cases e6 : w = wCount
  · rw [if_pos e6, e6]; rfl
  rw [if_neg e6] at h ⊢
  by_cases e7 : w = wWrite
  · rw [if_pos e7, e7]; rfl
  rw [if_neg e7] at h ⊢
  by_cases e8 : w = wFail
  · rw [if_pos e8, e8]; rfl
  rw [if_neg e8] at h ⊢
  by_cases e9 : w = wRepeat
  · rw [if_pos e9, e9]; rfl
  rw [if_neg e9] at h ⊢
  by_cases e10 : w = wEach
  · rw [if_pos e10, e10]; rfl
  rw [if_neg e10] at h ⊢
  by_cases e11 : w = wWhen
  · rw [if_pos e11, e11]; rfl
  rw [if_neg e11] at h ⊢
  exact absurd rfl h
theorem word_opOf : ∀ k : Nat, 1 ≤ k → k ≤ 12 → opOf (wordM k) = k
  | 1, _, _ => by decide
  | 2, _, _ => by decide
  | 3, _, _ => by decide
  | 4, _, _ => by decide
  | 5, _, _ => by decide
  | 6, _, _ => by decide
  | 7, _, _ => by decide
  | 8, _, _ => by decide
  | 9, _, _ => by decide
  | 10, _, _ => by decide
  | 11, _, _ => by decide
  | 12, _, _ => by decide
  | 0, h, _ => by omega
  | k + 13, _, h => by omega
theorem opOf_le (w : Str) : opOf w ≤ 12 := by
  have it : ∀ {c : Prop} [Decidable c] {a b : Nat}, a ≤ 12 → b ≤ 12 → (if c then a else b) ≤ 12 := by
    intro c _ a b h1 h2
    split <;> assumption
  unfold opOf
  repeat' refine it (by decide) ?_
  decide
theorem word_iff {w : Str} {k : Nat} (h1 : 1 ≤ k) (h2 : k ≤ 12) : wordM k = w ↔ opOf w = k :=
  ⟨fun e => by rw [← e]; exact word_opOf k h1 h2, fun e => by rw [← e]; exact opOf_word (by omega)⟩
theorem word_ok (O : Own h μ ρ) {k : Nat} (hk : k ≤ 12) (hq : RdQ Q ρ (.string (wordM k))) : EvQ P f_action_word [.int .i64 (k : Int)] h Q := by
  refine r_action_word ?_
  refine w_copy O p00 rfl rfl rfl fun h1 μ1 ρ1 c1 O1 W1 hc1 => ?_
  have F1 : Fra [] ρ ρ1 := W1.fra0 fun c hc => by simp at hc; rw [hc]; exact hc1
  rw [show decide ((k : Int) < 0) = false from decide_eq_false (by omega)]
  simp only [oB_some, bC_true, bC_false, vInt_int, vBool_bool, vStr_string, vPtr_pointer, vSl_slice, vMap_map, vFun_func, vAgg_agg, vTup_tuple, vIfc_nil, vIfc_iface, lC_cons, lN_nil, aP_some, shO_none, shO_some, Option.isNone_none, Option.isNone_some, Bool.not_true, Bool.not_false]
  rw [show decide ((k : Int) ≥ 13) = false from decide_eq_false (by omega)]
  simp only [oB_some, bC_true, bC_false, vInt_int, vBool_bool, vStr_string, vPtr_pointer, vSl_slice, vMap_map, vFun_func, vAgg_agg, vTup_tuple, vIfc_nil, vIfc_iface, lC_cons, lN_nil, aP_some, shO_none, shO_some, Option.isNone_none, Option.isNone_some, Bool.not_true, Bool.not_false]
  rw [natIdx_eq (show k < 13 by omega)]
  simp only [oB_some, bC_true, bC_false, vInt_int, vBool_bool, vStr_string, vPtr_pointer, vSl_slice, vMap_map, vFun_func, vAgg_agg, vTup_tuple, vIfc_nil, vIfc_iface, lC_cons, lN_nil, aP_some, shO_none, shO_some, Option.isNone_none, Option.isNone_some, Bool.not_true, Bool.not_false]
  have hv : (kinds.map Value.string)[k]? = some (.string (wordM k)) := by
    have : wordM (k : Int) = (kinds[k]?).getD e0 := rfl
    rw [this, List.getElem?_map, List.getElem?_eq_getElem (by simp; omega)]; rfl
  rw [show 0 + k * 1 = k from by omega]
  refine w_rd O1 W1 0 rfl hv ?_
  simp only [oB_some, bC_true, bC_false, vInt_int, vBool_bool, vStr_string, vPtr_pointer, vSl_slice, vMap_map, vFun_func, vAgg_agg, vTup_tuple, vIfc_nil, vIfc_iface, lC_cons, lN_nil, aP_some, shO_none, shO_some, Option.isNone_none, Option.isNone_some, Bool.not_true, Bool.not_false]
  exact hq _ _ _ O1 F1
theorem clone_vw (O : Own h μ ρ) {a : Option Addr} {x : List Str} {cap : Nat} (X : Vw ρ [] a (strs x)) (hx : x.length ≤ 1000000000) (hq : NewS Q ρ x) :
    EvQ P f_slices_Clone_sl_string_string [.slice a x.length cap] h Q := by
  rcases X with ⟨rfl, e⟩ | X
  · have : x = [] := by simpa using e
    subst this
    refine r_slices_Clone_sl_string_string ?_
    simp only [oB_some, bC_true, bC_false, vInt_int, vBool_bool, vStr_string, vPtr_pointer, vSl_slice, vMap_map, vFun_func, vAgg_agg, vTup_tuple, vIfc_nil, vIfc_iface, lC_cons, lN_nil, aP_some, shO_none, shO_some, Option.isNone_none, Option.isNone_some, Bool.not_true, Bool.not_false]
    exact new_nil O hq
  · exact clone_ok O X hx hq
/-- A statement comes back, its words in a slice of its own. -/
def NewX (Q : Value → AW → Prop) (ρ : Store) (x : X) : Prop :=
  ∀ h' μ' ρ' co oa oc, Own h' μ' ρ' → Pcs ρ ρ' [co] [.sl oa oc 1 (strs x.args)] → ρ co = none →
    Q (.tuple ⟨[.agg ⟨[.int .i64 x.op, .slice oa x.args.length oc, .int .i64 x.n, .slice none 0 0]⟩, .bool x.ok]⟩) h'
theorem NewX.none {x : X} (hq : NewX Q ρ x) (e : x.args = []) {ρ' : Store} {μ' : Paint} {h' : AW} (O' : Own h' μ' ρ') (F : Fra [] ρ ρ') :
    Q (.tuple ⟨[.agg ⟨[.int .i64 x.op, .slice Option.none 0 0, .int .i64 x.n, .slice Option.none 0 0]⟩, .bool x.ok]⟩) h' := by
  obtain ⟨ρ1, c1, O1, W1, hc1⟩ := w_nil O' (Pcs.mk (ρ0 := ρ) (ns := []) (rs := []) List.nodup_nil rfl (by intro i c r h; simp at h) F) 1
  have := hq h' μ' ρ1 c1 Option.none 0 O1 (by rw [e]; exact W1) hc1
  rw [e] at this
  exact this
theorem stmtM_ne {w : Str} {args : List Str} (e : opOf w ≠ 10) : stmtM (w :: args) = ⟨opOf w, args, 0, decide (0 < opOf w) && fitsM (opOf w) args.length⟩ := by
  show (if opOf w = 10 then _ else _) = _
  rw [if_neg e]
theorem stmtM_one {w s : Str} (e : opOf w = 10) : stmtM [w, s] = ⟨10, [], numM s, decide (numM s ≥ 0)⟩ := by
  show (if opOf w = 10 then _ else _) = _
  rw [if_pos e]
theorem stmtM_bad {w : Str} {args : List Str} (e : opOf w = 10) (h : args.length ≠ 1) : stmtM (w :: args) = ⟨0, [], 0, false⟩ := by
  show (if opOf w = 10 then _ else _) = _
  rw [if_pos e]
  match args, h with
  | [], _ => rfl
  | [s], h => exact absurd rfl h
  | _ :: _ :: _, _ => rfl
theorem stmt_loop {G : Str → Prop} (T : Tbs G ρ) {w : Str} {args : List Str} {a : Option Addr} {cap : Nat} (V : Vw ρ [] a (strs (w :: args))) (hc : (w :: args).length ≤ cap) (hl : args.length ≤ 1000000) (hs : ∀ s, args = [s] → opOf w = 10 → G s) (hq : NewX Q ρ (stmtM (w :: args))) :
    ∀ (d k : Nat) {h : AW} {μ : Paint} {ρ' : Store} {p5 p4 c5 c4 : Nat}, 13 - k = d → 1 ≤ k → k ≤ 13 → Own h μ ρ' → Pcs ρ ρ' [c5, c4] [.var p5 [.int .i64 ((if opOf w < k then opOf w else 0 : Nat) : Int), .slice none 0 0, .int .i64 0, .slice none 0 0], .var p4 [.int .i64 0, .slice none 0 0, .int .i64 0, .slice none 0 0]] → ρ c5 = none → ρ c4 = none →
      unitAt P f_action_stmt 5 [0, 2, 4, 5] [.slice a (w :: args).length cap, .pointer (some ⟨p4, 0, none⟩), .pointer (some ⟨p5, 0, none⟩), .int .i64 (k : Int)] h Q := by
  intro d
  induction d with
  | zero =>
    intro k h μ ρ' p5 p4 c5 c4 hd h1 hk O W hc5 hc4
    have : k = 13 := by omega
    subst this
    have F : Fra [] ρ ρ' := W.fra0 fun c hc => by
      simp at hc; rcases hc with rfl | rfl <;> assumption
    have hop := opOf_le w
    rw [if_pos (by omega)] at W
    refine r_action_stmt_5 ?_
    rw [show decide (((13 : Nat) : Int) ≤ 12) = false from rfl]
    simp only [oB_some, bC_true, bC_false, vInt_int, vBool_bool, vStr_string, vPtr_pointer, vSl_slice, vMap_map, vFun_func, vAgg_agg, vTup_tuple, vIfc_nil, vIfc_iface, lC_cons, lN_nil, aP_some, shO_none, shO_some, Option.isNone_none, Option.isNone_some, Bool.not_true, Bool.not_false]
    rw [show natBnd 1 (w :: args).length = some 1 from natBnd_eq (j := 1) (by simp)]
    simp only [oB_some, bC_true, bC_false, vInt_int, vBool_bool, vStr_string, vPtr_pointer, vSl_slice, vMap_map, vFun_func, vAgg_agg, vTup_tuple, vIfc_nil, vIfc_iface, lC_cons, lN_nil, aP_some, shO_none, shO_some, Option.isNone_none, Option.isNone_some, Bool.not_true, Bool.not_false]
    rw [Nat.ble_eq_true_of_le hc]
    simp only [oB_some, bC_true, bC_false, vInt_int, vBool_bool, vStr_string, vPtr_pointer, vSl_slice, vMap_map, vFun_func, vAgg_agg, vTup_tuple, vIfc_nil, vIfc_iface, lC_cons, lN_nil, aP_some, shO_none, shO_some, Option.isNone_none, Option.isNone_some, Bool.not_true, Bool.not_false]
    obtain ⟨a', ea, V'⟩ := (V.keep F).drop (1 * 1)
    rw [ea]
    have V' : Vw ρ' [] a' (strs args) := V'
    have hlen : (w :: args).length - 1 = args.length := by simp
    rw [hlen]
    repeat (first | refine ⟨rfl, ?_⟩ | refine ⟨trivial, ?_⟩ | simp only [oB_some, bC_true, bC_false, vInt_int, vBool_bool, vStr_string, vPtr_pointer, vSl_slice, vMap_map, vFun_func, vAgg_agg, vTup_tuple, vIfc_nil, vIfc_iface, lC_cons, lN_nil, aP_some, shO_none, shO_some, Option.isNone_none, Option.isNone_some, Bool.not_true, Bool.not_false] | refine w_rd (by assumption) (by assumption) 0 (by rfl) (by rfl) ?_ | refine w_rd (by assumption) (by assumption) 1 (by rfl) (by rfl) ?_ | refine w_wrL (by assumption) (by assumption) 0 (by rfl) (Nat.le_of_ble_eq_true (by rfl)) (by rfl) fun h ρz O W => ?_ | refine w_wrL (by assumption) (by assumption) 1 (by rfl) (Nat.le_of_ble_eq_true (by rfl)) (by rfl) fun h ρz O W => ?_ | refine w_wr (by assumption) (by assumption) 0 (by rfl) (Nat.le_of_ble_eq_true (by rfl)) (by rfl) fun h ρz O W => ?_ | refine w_wr (by assumption) (by assumption) 1 (by rfl) (Nat.le_of_ble_eq_true (by rfl)) (by rfl) fun h ρz O W => ?_)
    refine bC_iff (fun e => ?_) (fun e => ?_)
    · have e : opOf w = 10 := by have := eqI e; omega
      refine bC_iff (fun e2 => ?_) (fun e2 => ?_)
      · rw [stmtM_bad e (by simp at e2; omega)] at hq
        repeat (first | refine ⟨rfl, ?_⟩ | refine ⟨trivial, ?_⟩ | simp only [oB_some, bC_true, bC_false, vInt_int, vBool_bool, vStr_string, vPtr_pointer, vSl_slice, vMap_map, vFun_func, vAgg_agg, vTup_tuple, vIfc_nil, vIfc_iface, lC_cons, lN_nil, aP_some, shO_none, shO_some, Option.isNone_none, Option.isNone_some, Bool.not_true, Bool.not_false] | refine w_rd (by assumption) (by assumption) 0 (by rfl) (by rfl) ?_ | refine w_rd (by assumption) (by assumption) 1 (by rfl) (by rfl) ?_ | refine w_wrL (by assumption) (by assumption) 0 (by rfl) (Nat.le_of_ble_eq_true (by rfl)) (by rfl) fun h ρz O W => ?_ | refine w_wrL (by assumption) (by assumption) 1 (by rfl) (Nat.le_of_ble_eq_true (by rfl)) (by rfl) fun h ρz O W => ?_ | refine w_wr (by assumption) (by assumption) 0 (by rfl) (Nat.le_of_ble_eq_true (by rfl)) (by rfl) fun h ρz O W => ?_ | refine w_wr (by assumption) (by assumption) 1 (by rfl) (Nat.le_of_ble_eq_true (by rfl)) (by rfl) fun h ρz O W => ?_)
        exact hq.none rfl (by assumption) (Pcs.fra0 (by assumption) fun c hc => by
          simp at hc; rcases hc with rfl | rfl <;> assumption)
      · obtain ⟨s, rfl⟩ : ∃ s, args = [s] := by
          match args, e2 with
          | [], e2 => simp at e2
          | [s], _ => exact ⟨s, rfl⟩
          | _ :: _ :: _, e2 => simp at e2; omega
        rw [stmtM_one e] at hq
        refine wd_at (j := 0) O V' rfl rfl (by simp) ?_
        refine number_ok O (T.keep F) (hs _ rfl e) fun h2 μ2 ρ2 O2 F2 => ?_
        have W := W.keep0 F2
        rw [e] at W
        repeat (first | refine ⟨rfl, ?_⟩ | refine ⟨trivial, ?_⟩ | simp only [oB_some, bC_true, bC_false, vInt_int, vBool_bool, vStr_string, vPtr_pointer, vSl_slice, vMap_map, vFun_func, vAgg_agg, vTup_tuple, vIfc_nil, vIfc_iface, lC_cons, lN_nil, aP_some, shO_none, shO_some, Option.isNone_none, Option.isNone_some, Bool.not_true, Bool.not_false] | refine w_rd (by assumption) (by assumption) 0 (by rfl) (by rfl) ?_ | refine w_rd (by assumption) (by assumption) 1 (by rfl) (by rfl) ?_ | refine w_wrL (by assumption) (by assumption) 0 (by rfl) (Nat.le_of_ble_eq_true (by rfl)) (by rfl) fun h ρz O W => ?_ | refine w_wrL (by assumption) (by assumption) 1 (by rfl) (Nat.le_of_ble_eq_true (by rfl)) (by rfl) fun h ρz O W => ?_ | refine w_wr (by assumption) (by assumption) 0 (by rfl) (Nat.le_of_ble_eq_true (by rfl)) (by rfl) fun h ρz O W => ?_ | refine w_wr (by assumption) (by assumption) 1 (by rfl) (Nat.le_of_ble_eq_true (by rfl)) (by rfl) fun h ρz O W => ?_)
        exact hq.none rfl (by assumption) (Pcs.fra0 (by assumption) fun c hc => by
          simp at hc; rcases hc with rfl | rfl <;> assumption)
    · have e : opOf w ≠ 10 := by have := neI e; omega
      rw [stmtM_ne e] at hq
      refine clone_vw O V' (by omega) fun h2 μ2 ρ2 co oa oc O2 W2 hco => ?_
      have W := W.adopt W2 hco
      have hco0 := F.none0 hco
      repeat (first | refine ⟨rfl, ?_⟩ | refine ⟨trivial, ?_⟩ | simp only [oB_some, bC_true, bC_false, vInt_int, vBool_bool, vStr_string, vPtr_pointer, vSl_slice, vMap_map, vFun_func, vAgg_agg, vTup_tuple, vIfc_nil, vIfc_iface, lC_cons, lN_nil, aP_some, shO_none, shO_some, Option.isNone_none, Option.isNone_some, Bool.not_true, Bool.not_false] | refine w_rd (by assumption) (by assumption) 0 (by rfl) (by rfl) ?_ | refine w_rd (by assumption) (by assumption) 1 (by rfl) (by rfl) ?_ | refine w_rd (by assumption) (by assumption) 2 (by rfl) (by rfl) ?_ | refine w_wrL (by assumption) (by assumption) 0 (by rfl) (Nat.le_of_ble_eq_true (by rfl)) (by rfl) fun h ρz O W => ?_ | refine w_wrL (by assumption) (by assumption) 1 (by rfl) (Nat.le_of_ble_eq_true (by rfl)) (by rfl) fun h ρz O W => ?_ | refine w_wrL (by assumption) (by assumption) 2 (by rfl) (Nat.le_of_ble_eq_true (by rfl)) (by rfl) fun h ρz O W => ?_ | refine w_wr (by assumption) (by assumption) 0 (by rfl) (Nat.le_of_ble_eq_true (by rfl)) (by rfl) fun h ρz O W => ?_ | refine w_wr (by assumption) (by assumption) 1 (by rfl) (Nat.le_of_ble_eq_true (by rfl)) (by rfl) fun h ρz O W => ?_ | refine w_wr (by assumption) (by assumption) 2 (by rfl) (Nat.le_of_ble_eq_true (by rfl)) (by rfl) fun h ρz O W => ?_)
      refine bC_iff (fun e2 => ?_) (fun e2 => ?_)
      · have e2 := of_decide_eq_true e2
        rw [show decide (0 < opOf w) = true from decide_eq_true (by omega), Bool.true_and] at hq
        repeat (first | refine ⟨rfl, ?_⟩ | refine ⟨trivial, ?_⟩ | simp only [oB_some, bC_true, bC_false, vInt_int, vBool_bool, vStr_string, vPtr_pointer, vSl_slice, vMap_map, vFun_func, vAgg_agg, vTup_tuple, vIfc_nil, vIfc_iface, lC_cons, lN_nil, aP_some, shO_none, shO_some, Option.isNone_none, Option.isNone_some, Bool.not_true, Bool.not_false] | refine w_rd (by assumption) (by assumption) 0 (by rfl) (by rfl) ?_ | refine w_rd (by assumption) (by assumption) 1 (by rfl) (by rfl) ?_ | refine w_rd (by assumption) (by assumption) 2 (by rfl) (by rfl) ?_ | refine w_wrL (by assumption) (by assumption) 0 (by rfl) (Nat.le_of_ble_eq_true (by rfl)) (by rfl) fun h ρz O W => ?_ | refine w_wrL (by assumption) (by assumption) 1 (by rfl) (Nat.le_of_ble_eq_true (by rfl)) (by rfl) fun h ρz O W => ?_ | refine w_wrL (by assumption) (by assumption) 2 (by rfl) (Nat.le_of_ble_eq_true (by rfl)) (by rfl) fun h ρz O W => ?_ | refine w_wr (by assumption) (by assumption) 0 (by rfl) (Nat.le_of_ble_eq_true (by rfl)) (by rfl) fun h ρz O W => ?_ | refine w_wr (by assumption) (by assumption) 1 (by rfl) (Nat.le_of_ble_eq_true (by rfl)) (by rfl) fun h ρz O W => ?_ | refine w_wr (by assumption) (by assumption) 2 (by rfl) (Nat.le_of_ble_eq_true (by rfl)) (by rfl) fun h ρz O W => ?_)
        refine fits_ok ?_
        repeat (first | refine ⟨rfl, ?_⟩ | refine ⟨trivial, ?_⟩ | simp only [oB_some, bC_true, bC_false, vInt_int, vBool_bool, vStr_string, vPtr_pointer, vSl_slice, vMap_map, vFun_func, vAgg_agg, vTup_tuple, vIfc_nil, vIfc_iface, lC_cons, lN_nil, aP_some, shO_none, shO_some, Option.isNone_none, Option.isNone_some, Bool.not_true, Bool.not_false] | refine w_rd (by assumption) (by assumption) 0 (by rfl) (by rfl) ?_ | refine w_rd (by assumption) (by assumption) 1 (by rfl) (by rfl) ?_ | refine w_rd (by assumption) (by assumption) 2 (by rfl) (by rfl) ?_ | refine w_wrL (by assumption) (by assumption) 0 (by rfl) (Nat.le_of_ble_eq_true (by rfl)) (by rfl) fun h ρz O W => ?_ | refine w_wrL (by assumption) (by assumption) 1 (by rfl) (Nat.le_of_ble_eq_true (by rfl)) (by rfl) fun h ρz O W => ?_ | refine w_wrL (by assumption) (by assumption) 2 (by rfl) (Nat.le_of_ble_eq_true (by rfl)) (by rfl) fun h ρz O W => ?_ | refine w_wr (by assumption) (by assumption) 0 (by rfl) (Nat.le_of_ble_eq_true (by rfl)) (by rfl) fun h ρz O W => ?_ | refine w_wr (by assumption) (by assumption) 1 (by rfl) (Nat.le_of_ble_eq_true (by rfl)) (by rfl) fun h ρz O W => ?_ | refine w_wr (by assumption) (by assumption) 2 (by rfl) (Nat.le_of_ble_eq_true (by rfl)) (by rfl) fun h ρz O W => ?_)
        refine hq _ _ _ co oa oc (by assumption) (Pcs.tail2 (Pcs.tail2 (by assumption) hc5) hc4) hco0
      · have e2 := of_decide_eq_false e2
        rw [show decide (0 < opOf w) = false from decide_eq_false (by omega), Bool.false_and] at hq
        repeat (first | refine ⟨rfl, ?_⟩ | refine ⟨trivial, ?_⟩ | simp only [oB_some, bC_true, bC_false, vInt_int, vBool_bool, vStr_string, vPtr_pointer, vSl_slice, vMap_map, vFun_func, vAgg_agg, vTup_tuple, vIfc_nil, vIfc_iface, lC_cons, lN_nil, aP_some, shO_none, shO_some, Option.isNone_none, Option.isNone_some, Bool.not_true, Bool.not_false] | refine w_rd (by assumption) (by assumption) 0 (by rfl) (by rfl) ?_ | refine w_rd (by assumption) (by assumption) 1 (by rfl) (by rfl) ?_ | refine w_rd (by assumption) (by assumption) 2 (by rfl) (by rfl) ?_ | refine w_wrL (by assumption) (by assumption) 0 (by rfl) (Nat.le_of_ble_eq_true (by rfl)) (by rfl) fun h ρz O W => ?_ | refine w_wrL (by assumption) (by assumption) 1 (by rfl) (Nat.le_of_ble_eq_true (by rfl)) (by rfl) fun h ρz O W => ?_ | refine w_wrL (by assumption) (by assumption) 2 (by rfl) (Nat.le_of_ble_eq_true (by rfl)) (by rfl) fun h ρz O W => ?_ | refine w_wr (by assumption) (by assumption) 0 (by rfl) (Nat.le_of_ble_eq_true (by rfl)) (by rfl) fun h ρz O W => ?_ | refine w_wr (by assumption) (by assumption) 1 (by rfl) (Nat.le_of_ble_eq_true (by rfl)) (by rfl) fun h ρz O W => ?_ | refine w_wr (by assumption) (by assumption) 2 (by rfl) (Nat.le_of_ble_eq_true (by rfl)) (by rfl) fun h ρz O W => ?_)
        have := hq _ _ _ co oa oc (by assumption) (Pcs.tail2 (Pcs.tail2 (by assumption) hc5) hc4) hco0
        exact this
  | succ d ih =>
    intro k h μ ρ' p5 p4 c5 c4 hd h1 hk O W hc5 hc4
    have F : Fra [] ρ ρ' := W.fra0 fun c hc => by
      simp at hc; rcases hc with rfl | rfl <;> assumption
    refine r_action_stmt_5 ?_
    rw [show decide ((k : Int) ≤ 12) = true from decide_eq_true (by omega)]
    simp only [oB_some, bC_true, bC_false, vInt_int, vBool_bool, vStr_string, vPtr_pointer, vSl_slice, vMap_map, vFun_func, vAgg_agg, vTup_tuple, vIfc_nil, vIfc_iface, lC_cons, lN_nil, aP_some, shO_none, shO_some, Option.isNone_none, Option.isNone_some, Bool.not_true, Bool.not_false]
    refine word_ok O (by omega) fun h2 μ2 ρ2 O2 F2 => ?_
    simp only [oB_some, bC_true, bC_false, vInt_int, vBool_bool, vStr_string, vPtr_pointer, vSl_slice, vMap_map, vFun_func, vAgg_agg, vTup_tuple, vIfc_nil, vIfc_iface, lC_cons, lN_nil, aP_some, shO_none, shO_some, Option.isNone_none, Option.isNone_some, Bool.not_true, Bool.not_false]
    have W2 := W.keep0 F2
    refine ((V.keep (F.trans F2)).sl O2).ix (sz := 1) (j := 0) rfl (by simp) (by omega) (by simp) fun i off ea _ => ?_
    subst ea
    have g2 : h2.rd i (off + 0) = some (.string w) := Sl.get (j := 0) ((V.keep (F.trans F2)).sl O2) rfl
    have g1 : h.rd i (off + 0) = some (.string w) := Sl.get (j := 0) ((V.keep F).sl O) rfl
    refine oB_bind g2 ?_
    simp only [oB_some, bC_true, bC_false, vInt_int, vBool_bool, vStr_string, vPtr_pointer, vSl_slice, vMap_map, vFun_func, vAgg_agg, vTup_tuple, vIfc_nil, vIfc_iface, lC_cons, lN_nil, aP_some, shO_none, shO_some, Option.isNone_none, Option.isNone_some, Bool.not_true, Bool.not_false]
    refine oB_bind g1 ?_
    simp only [oB_some, bC_true, bC_false, vInt_int, vBool_bool, vStr_string, vPtr_pointer, vSl_slice, vMap_map, vFun_func, vAgg_agg, vTup_tuple, vIfc_nil, vIfc_iface, lC_cons, lN_nil, aP_some, shO_none, shO_some, Option.isNone_none, Option.isNone_some, Bool.not_true, Bool.not_false]
    refine ⟨by trivial, ?_⟩
    rw [wrapS (by omega)]
    refine bC_iff (fun e => ?_) (fun e => ?_)
    · have e : opOf w = k := (word_iff h1 (by omega)).1 (bEq_iff.1 e)
      refine w_wr O2 W2 0 (j := 0) rfl (by simp) rfl fun h3 ρ3 O3 W3 => ?_
      refine ih (k + 1) (by omega) (by omega) (by omega) O3 (W3.eq ?_) hc5 hc4
      rw [show (if opOf w < k + 1 then opOf w else 0) = k from by rw [if_pos (by omega), e]]; rfl
    · have e : opOf w ≠ k := fun e2 => bEq_false.1 e ((word_iff h1 (by omega)).2 e2)
      refine ih (k + 1) (by omega) (by omega) (by omega) O2 (W2.eq ?_) hc5 hc4
      by_cases hlt : opOf w < k
      · rw [if_pos hlt, if_pos (by omega)]
      · rw [if_neg hlt, if_neg (by omega)]
theorem stmt_ok {G : Str → Prop} (O : Own h μ ρ) (T : Tbs G ρ) {x : List Str} {a : Option Addr} {cap : Nat} (V : Vw ρ [] a (strs x)) (hc : x.length ≤ cap) (hl : x.length ≤ 1000000) (hs : ∀ w s, x = [w, s] → opOf w = 10 → G s) (hq : NewX Q ρ (stmtM x)) :
    EvQ P f_action_stmt [.slice a x.length cap] h Q := by
  refine r_action_stmt ?_
  cases x with
  | nil =>
    rw [show (((([] : List Str).length : Nat) : Int) == 0) = true from rfl]
    simp only [oB_some, bC_true, bC_false, vInt_int, vBool_bool, vStr_string, vPtr_pointer, vSl_slice, vMap_map, vFun_func, vAgg_agg, vTup_tuple, vIfc_nil, vIfc_iface, lC_cons, lN_nil, aP_some, shO_none, shO_some, Option.isNone_none, Option.isNone_some, Bool.not_true, Bool.not_false]
    refine w_copy O p00 rfl rfl rfl fun h1 μ1 ρ1 c1 O1 W1 hc1 => ?_
    repeat (first | refine ⟨rfl, ?_⟩ | refine ⟨trivial, ?_⟩ | simp only [oB_some, bC_true, bC_false, vInt_int, vBool_bool, vStr_string, vPtr_pointer, vSl_slice, vMap_map, vFun_func, vAgg_agg, vTup_tuple, vIfc_nil, vIfc_iface, lC_cons, lN_nil, aP_some, shO_none, shO_some, Option.isNone_none, Option.isNone_some, Bool.not_true, Bool.not_false] | refine w_rd (by assumption) (by assumption) 0 (by rfl) (by rfl) ?_ | refine w_rd (by assumption) (by assumption) 1 (by rfl) (by rfl) ?_ | refine w_wrL (by assumption) (by assumption) 0 (by rfl) (Nat.le_of_ble_eq_true (by rfl)) (by rfl) fun h ρz O W => ?_ | refine w_wrL (by assumption) (by assumption) 1 (by rfl) (Nat.le_of_ble_eq_true (by rfl)) (by rfl) fun h ρz O W => ?_ | refine w_wr (by assumption) (by assumption) 0 (by rfl) (Nat.le_of_ble_eq_true (by rfl)) (by rfl) fun h ρz O W => ?_ | refine w_wr (by assumption) (by assumption) 1 (by rfl) (Nat.le_of_ble_eq_true (by rfl)) (by rfl) fun h ρz O W => ?_)
    exact hq.none rfl (by assumption) (Pcs.fra0 (by assumption) fun c hc => by
      simp at hc; rw [hc]; exact hc1)
  | cons w args =>
    rw [show ((((w :: args).length : Nat) : Int) == 0) = false from by simp; omega]
    simp only [oB_some, bC_true, bC_false, vInt_int, vBool_bool, vStr_string, vPtr_pointer, vSl_slice, vMap_map, vFun_func, vAgg_agg, vTup_tuple, vIfc_nil, vIfc_iface, lC_cons, lN_nil, aP_some, shO_none, shO_some, Option.isNone_none, Option.isNone_some, Bool.not_true, Bool.not_false]
    obtain ⟨μ1, ρ1, c1, O1, W1, hc1⟩ := w_new O p00 [.int .i64 0, .slice none 0 0, .int .i64 0, .slice none 0 0]
    refine w_copy O1 W1 rfl rfl rfl fun h2 μ2 ρ2 c2 O2 W2 hc2 => ?_
    refine stmt_loop T V hc (by simp at hl; omega) (fun s h => hs w s (by rw [h])) hq _ 1 rfl (by omega) (by omega) O2 (W2.eq ?_) hc2 hc1
    by_cases hlt : opOf w < 1
    · rw [if_pos hlt, show opOf w = 0 by omega]; rfl
    · rw [if_neg hlt]; rfl
end Go.Proofs.YtgdkekdedgkglaaDoor
end
