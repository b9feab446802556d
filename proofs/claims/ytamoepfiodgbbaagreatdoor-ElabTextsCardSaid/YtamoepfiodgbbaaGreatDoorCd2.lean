/- A deterministic heap for the model, proved sound, and walks of the program over it: part 8. No condition. -/
import Derived.Test.YtamoepfiodgbbaaGreatDoorAb1
import Derived.Test.YtamoepfiodgbbaaGreatDoorAb2
import Derived.Test.YtamoepfiodgbbaaGreatDoorAb3
import Derived.Test.YtamoepfiodgbbaaGreatDoorAb4
import Derived.Test.YtamoepfiodgbbaaGreatDoorAb6
import Derived.Test.YtamoepfiodgbbaaGreatDoorCd1
import Derived.Test.YtamoepfiodgbbaaGreatDoorAb5
set_option linter.unusedVariables false
set_option linter.unusedSimpArgs false
set_option linter.unusedSectionVars false
section
/- Rules of walks, printed by a program of ours: group Elab. -/
namespace Go.Proofs.YtamoepfiodgbbaaGreatDoor
open Go.Abs
set_option maxRecDepth 100000
theorem r_elab_JobText {s1 : ByteArray} {p2 : Option Addr} {m3 : Nat} {m4 : Nat} {p5 : Option Addr} {m6 : Nat} {m7 : Nat} {p8 : Option Addr} {m9 : Nat} {m10 : Nat} {h : AW} {Q : Value → AW
  → Prop} (H : oB (AW.rd (AW.addVar (AW.addVar h [Value.string s1, Value.slice p2 m3 m4, Value.slice p5 m6 m7, Value.slice p8 m9 m10]) [Value.string (ByteArray.mk #[114, 117, 108,
  101])]) (AW.next h) 1) fun v11 => vSl v11 fun p12 m13 m14 => unitAt P f_elab_JobText 3 [1, 3, 15, 16, 17] [Value.pointer (some (Addr.mk (AW.next h) 0 none)), Value.slice (some (Addr.mk
  (AW.next (AW.addVar h [Value.string s1, Value.slice p2 m3 m4, Value.slice p5 m6 m7, Value.slice p8 m9 m10])) 0 none)) 1 1, Value.slice p12 m13 m14, Value.int IntKind.i64 (↑m13 :
  Int), Value.int IntKind.i64 0] (AW.addVar (AW.addVar h [Value.string s1, Value.slice p2 m3 m4, Value.slice p5 m6 m7, Value.slice p8 m9 m10]) [Value.string (ByteArray.mk #[114,
  117, 108, 101])]) Q) : EvQ P f_elab_JobText [Value.agg (Array.mk [Value.string s1, Value.slice p2 m3 m4, Value.slice p5 m6 m7, Value.slice p8 m9 m10])] h Q := fn_ok (n := 400) (ann :=
  annOf [(3, [1, 3, 15, 16, 17]), (9, [1, 3, 31, 32, 33]), (18, [8, 56, 57, 58])]) (Eq.mp (by kernel_rfl) H)
theorem r_elab_JobText_3 {m1 : Nat} {p2 : Option Addr} {m3 : Nat} {m4 : Nat} {p5 : Option Addr} {m6 : Nat} {m7 : Nat} {n8 : Int} {n9 : Int} {h : AW} {Q : Value → AW → Prop} (H : bC (decide
  (n9 < n8)) (aP p5 fun m10 m11 => oB (natIdx n9 m6) fun m12 => oB (AW.rd h m10 (m11 + m12 * 1)) fun v13 => vStr v13 fun s14 => EvQ P f_lex_Show [Value.string s14] h fun v15 h16 => vStr
  v15 fun s17 => oP (appendB P (AW.addVar h16 [Value.string s17]) (Array.mk [ty_sl_string, ty_sl_string]) [Value.slice p2 m3 m4, Value.slice (some (Addr.mk (AW.next h16) 0 none)) 1 1]) fun v18
  h19 => vSl v18 fun p20 m21 m22 => unitAt P f_elab_JobText 3 [1, 3, 15, 16, 17] [Value.pointer (some (Addr.mk m1 0 none)), Value.slice p20 m21 m22, Value.slice p5 m6 m7, Value.int
  IntKind.i64 n8, Value.int IntKind.i64 (IntKind.wrap IntKind.i64 (n9 + 1))] h19 Q) (oP (appendB P (AW.addVar h [Value.string (ByteArray.mk #[58])]) (Array.mk [ty_sl_string, ty_sl_string])
  [Value.slice p2 m3 m4, Value.slice (some (Addr.mk (AW.next h) 0 none)) 1 1]) fun v23 h24 => vSl v23 fun p25 m26 m27 => oB (AW.rd h24 m1 2) fun v28 => vSl v28 fun p29 m30 m31 =>
  unitAt P f_elab_JobText 9 [1, 3, 31, 32, 33] [Value.pointer (some (Addr.mk m1 0 none)), Value.slice p25 m26 m27, Value.slice p29 m30 m31, Value.int IntKind.i64 (↑m30 : Int), Value.int
  IntKind.i64 0] h24 Q)) : unitAt P f_elab_JobText 3 [1, 3, 15, 16, 17] [Value.pointer (some (Addr.mk m1 0 none)), Value.slice p2 m3 m4, Value.slice p5 m6 m7, Value.int IntKind.i64 n8,
  Value.int IntKind.i64 n9] h Q := unit_ok (n := 400) (ann := annOf [(3, [1, 3, 15, 16, 17]), (9, [1, 3, 31, 32, 33]), (18, [8, 56, 57, 58])]) (Eq.mp (by kernel_rfl) H)
theorem r_elab_JobText_9 {m1 : Nat} {p2 : Option Addr} {m3 : Nat} {m4 : Nat} {p5 : Option Addr} {m6 : Nat} {m7 : Nat} {n8 : Int} {n9 : Int} {h : AW} {Q : Value → AW → Prop} (H : bC (decide
  (n9 < n8)) (aP p5 fun m10 m11 => oB (natIdx n9 m6) fun m12 => oB (AW.rd h m10 (m11 + m12 * 1)) fun v13 => vStr v13 fun s14 => EvQ P f_lex_Show [Value.string s14] h fun v15 h16 => vStr
  v15 fun s17 => oP (appendB P (AW.addVar h16 [Value.string s17]) (Array.mk [ty_sl_string, ty_sl_string]) [Value.slice p2 m3 m4, Value.slice (some (Addr.mk (AW.next h16) 0 none)) 1 1]) fun v18
  h19 => vSl v18 fun p20 m21 m22 => unitAt P f_elab_JobText 9 [1, 3, 31, 32, 33] [Value.pointer (some (Addr.mk m1 0 none)), Value.slice p20 m21 m22, Value.slice p5 m6 m7, Value.int
  IntKind.i64 n8, Value.int IntKind.i64 (IntKind.wrap IntKind.i64 (n9 + 1))] h19 Q) (EvQ P f_strings_Join [Value.slice p2 m3 m4, Value.string (ByteArray.mk #[32])] h fun v23 h24 => vStr v23
  fun s25 => bC (Nat.ble (ByteArray.size s25 + 1) 9223372036854775807) (oB (AW.rd h24 m1 3) fun v26 => vSl v26 fun p27 m28 m29 => EvQ P f_action_Print [Value.slice p27 m28 m29] h24 fun v30
  h31 => vTup v30 fun l32 => lC l32 fun v33 l34 => vStr v33 fun s35 => lC l34 fun v36 l37 => vInt IntKind.i64 v36 fun n38 => lN l37 (bC (n38 != 0) (Q (Value.string (s25 ++
  ByteArray.mk #[10])) h31) (EvQ P f_strings_SplitAfter [Value.string s35, Value.string (ByteArray.mk #[10])] h31 fun v39 h40 => vSl v39 fun p41 m42 m43 => unitAt P f_elab_JobText 18 [8, 56, 57, 58]
  [Value.string (s25 ++ ByteArray.mk #[10]), Value.slice p41 m42 m43, Value.int IntKind.i64 (↑m42 : Int), Value.int IntKind.i64 0] h40 Q))) False)) : unitAt P f_elab_JobText 9 [1, 3, 31, 32,
  33] [Value.pointer (some (Addr.mk m1 0 none)), Value.slice p2 m3 m4, Value.slice p5 m6 m7, Value.int IntKind.i64 n8, Value.int IntKind.i64 n9] h Q := unit_ok (n := 400) (ann :=
  annOf [(3, [1, 3, 15, 16, 17]), (9, [1, 3, 31, 32, 33]), (18, [8, 56, 57, 58])]) (Eq.mp (by kernel_rfl) H)
theorem r_elab_JobText_18 {s1 : ByteArray} {p2 : Option Addr} {m3 : Nat} {m4 : Nat} {n5 : Int} {n6 : Int} {h : AW} {Q : Value → AW → Prop} (H : bC (decide (n6 < n5)) (aP p2 fun m7 m8 => oB
  (natIdx n6 m3) fun m9 => oB (AW.rd h m7 (m8 + m9 * 1)) fun v10 => vStr v10 fun s11 => bC (!bEq s11 (ByteArray.mk #[])) (bC (Nat.ble (1 + ByteArray.size s11) 9223372036854775807)
  (bC (Nat.ble (ByteArray.size s1 + ByteArray.size (ByteArray.mk #[9] ++ s11)) 9223372036854775807) (unitAt P f_elab_JobText 18 [8, 56, 57, 58] [Value.string (s1 ++ (ByteArray.mk #[9] ++
  s11)), Value.slice p2 m3 m4, Value.int IntKind.i64 n5, Value.int IntKind.i64 (IntKind.wrap IntKind.i64 (n6 + 1))] h Q) False) False) (unitAt P f_elab_JobText 18 [8, 56, 57, 58]
  [Value.string s1, Value.slice p2 m3 m4, Value.int IntKind.i64 n5, Value.int IntKind.i64 (IntKind.wrap IntKind.i64 (n6 + 1))] h Q)) (Q (Value.string s1) h)) : unitAt P f_elab_JobText 18 [8,
  56, 57, 58] [Value.string s1, Value.slice p2 m3 m4, Value.int IntKind.i64 n5, Value.int IntKind.i64 n6] h Q := unit_ok (n := 400) (ann := annOf [(3, [1, 3, 15, 16, 17]), (9, [1,
  3, 31, 32, 33]), (18, [8, 56, 57, 58])]) (Eq.mp (by kernel_rfl) H)
theorem r_brickyardref15_JobText {s1 : ByteArray} {p2 : Option Addr} {m3 : Nat} {m4 : Nat} {p5 : Option Addr} {m6 : Nat} {m7 : Nat} {p8 : Option Addr} {m9 : Nat} {m10 : Nat} {h : AW} {Q : Value → AW
  → Prop} (H : oP (convA P (AW.addVar (AW.addVar h [Value.string s1, Value.slice p2 m3 m4, Value.slice p5 m6 m7, Value.slice p8 m9 m10]) [Value.int IntKind.u8 114, Value.int
  IntKind.u8 117, Value.int IntKind.u8 108, Value.int IntKind.u8 101]) ty_sl_uint8 ty_sl_uint8 (Value.slice (some (Addr.mk (AW.next (AW.addVar h [Value.string s1, Value.slice p2 m3 m4,
  Value.slice p5 m6 m7, Value.slice p8 m9 m10])) 0 none)) 4 4)) fun v11 h12 => vSl v11 fun p13 m14 m15 => unitAt P f_brickyardref15_JobText 3 [1, 3, 4] [Value.pointer (some (Addr.mk (AW.next h) 0
  none)), Value.slice p13 m14 m15, Value.int IntKind.i64 0] h12 Q) : EvQ P f_brickyardref15_JobText [Value.agg (Array.mk [Value.string s1, Value.slice p2 m3 m4, Value.slice p5 m6 m7, Value.slice p8 m9
  m10])] h Q := fn_ok (n := 400) (ann := annOf [(3, [1, 3, 4]), (9, [1, 3, 5]), (16, [3, 6, 7, 8]), (20, [3, 6, 7, 8, 9]), (24, [3, 6, 7, 8, 9])]) (Eq.mp (by kernel_rfl) H)
theorem r_brickyardref15_JobText_3 {m1 : Nat} {p2 : Option Addr} {m3 : Nat} {m4 : Nat} {n5 : Int} {h : AW} {Q : Value → AW → Prop} (H : oB (AW.rd h m1 1) fun v6 => vSl v6 fun p7 m8 m9 => bC (decide
  (n5 < (↑m8 : Int))) (oP (appendB P (AW.addVar h [Value.int IntKind.u8 32]) (Array.mk [ty_sl_uint8, ty_sl_uint8]) [Value.slice p2 m3 m4, Value.slice (some (Addr.mk (AW.next h) 0 none)) 1 1])
  fun v10 h11 => vSl v10 fun p12 m13 m14 => oB (AW.rd h11 m1 1) fun v15 => vSl v15 fun p16 m17 m18 => aP p16 fun m19 m20 => oB (natIdx n5 m17) fun m21 => oB (AW.rd h11 m19 (m20 +
  m21 * 1)) fun v22 => vStr v22 fun s23 => EvQ P f_brickyardref11_Show [Value.string s23] h11 fun v24 h25 => vStr v24 fun s26 => oP (appendB P h25 (Array.mk [ty_sl_uint8, ty_string]) [Value.slice p12 m13 m14,
  Value.string s26]) fun v27 h28 => vSl v27 fun p29 m30 m31 => unitAt P f_brickyardref15_JobText 3 [1, 3, 4] [Value.pointer (some (Addr.mk m1 0 none)), Value.slice p29 m30 m31, Value.int IntKind.i64
  (IntKind.wrap IntKind.i64 (n5 + 1))] h28 Q) (oP (appendB P h (Array.mk [ty_sl_uint8, ty_string]) [Value.slice p2 m3 m4, Value.string (ByteArray.mk #[32, 58])]) fun v32 h33 => vSl v32 fun
  p34 m35 m36 => unitAt P f_brickyardref15_JobText 9 [1, 3, 5] [Value.pointer (some (Addr.mk m1 0 none)), Value.slice p34 m35 m36, Value.int IntKind.i64 0] h33 Q)) : unitAt P f_brickyardref15_JobText 3 [1, 3, 4]
  [Value.pointer (some (Addr.mk m1 0 none)), Value.slice p2 m3 m4, Value.int IntKind.i64 n5] h Q := unit_ok (n := 400) (ann := annOf [(3, [1, 3, 4]), (9, [1, 3, 5]), (16, [3, 6, 7,
  8]), (20, [3, 6, 7, 8, 9]), (24, [3, 6, 7, 8, 9])]) (Eq.mp (by kernel_rfl) H)
theorem r_brickyardref15_JobText_9 {m1 : Nat} {p2 : Option Addr} {m3 : Nat} {m4 : Nat} {n5 : Int} {h : AW} {Q : Value → AW → Prop} (H : oB (AW.rd h m1 2) fun v6 => vSl v6 fun p7 m8 m9 => bC (decide
  (n5 < (↑m8 : Int))) (oP (appendB P (AW.addVar h [Value.int IntKind.u8 32]) (Array.mk [ty_sl_uint8, ty_sl_uint8]) [Value.slice p2 m3 m4, Value.slice (some (Addr.mk (AW.next h) 0 none)) 1 1])
  fun v10 h11 => vSl v10 fun p12 m13 m14 => oB (AW.rd h11 m1 2) fun v15 => vSl v15 fun p16 m17 m18 => aP p16 fun m19 m20 => oB (natIdx n5 m17) fun m21 => oB (AW.rd h11 m19 (m20 +
  m21 * 1)) fun v22 => vStr v22 fun s23 => EvQ P f_brickyardref11_Show [Value.string s23] h11 fun v24 h25 => vStr v24 fun s26 => oP (appendB P h25 (Array.mk [ty_sl_uint8, ty_string]) [Value.slice p12 m13 m14,
  Value.string s26]) fun v27 h28 => vSl v27 fun p29 m30 m31 => unitAt P f_brickyardref15_JobText 9 [1, 3, 5] [Value.pointer (some (Addr.mk m1 0 none)), Value.slice p29 m30 m31, Value.int IntKind.i64
  (IntKind.wrap IntKind.i64 (n5 + 1))] h28 Q) (oP (appendB P (AW.addVar h [Value.int IntKind.u8 10]) (Array.mk [ty_sl_uint8, ty_sl_uint8]) [Value.slice p2 m3 m4, Value.slice (some (Addr.mk
  (AW.next h) 0 none)) 1 1]) fun v32 h33 => vSl v32 fun p34 m35 m36 => oB (AW.rd h33 m1 3) fun v37 => vSl v37 fun p38 m39 m40 => EvQ P f_brickyardref13_Lines [Value.slice p38 m39 m40] h33 fun v41
  h42 => vTup v41 fun l43 => lC l43 fun v44 l45 => vSl v44 fun p46 m47 m48 => lC l45 fun v49 l50 => vInt IntKind.i64 v49 fun n51 => lN l50 (unitAt P f_brickyardref15_JobText 16 [3, 6, 7, 8]
  [Value.slice p34 m35 m36, Value.slice p46 m47 m48, Value.int IntKind.i64 n51, Value.int IntKind.i64 0] h42 Q))) : unitAt P f_brickyardref15_JobText 9 [1, 3, 5] [Value.pointer (some (Addr.mk m1 0
  none)), Value.slice p2 m3 m4, Value.int IntKind.i64 n5] h Q := unit_ok (n := 400) (ann := annOf [(3, [1, 3, 4]), (9, [1, 3, 5]), (16, [3, 6, 7, 8]), (20, [3, 6, 7, 8, 9]), (24,
  [3, 6, 7, 8, 9])]) (Eq.mp (by kernel_rfl) H)
theorem r_brickyardref15_JobText_16 {p1 : Option Addr} {m2 : Nat} {m3 : Nat} {p4 : Option Addr} {m5 : Nat} {m6 : Nat} {n7 : Int} {n8 : Int} {h : AW} {Q : Value → AW → Prop} (H : bC (decide (n8 <
  (↑m5 : Int))) (bC (n7 == 0) (oP (appendB P (AW.addVar h [Value.int IntKind.u8 9]) (Array.mk [ty_sl_uint8, ty_sl_uint8]) [Value.slice p1 m2 m3, Value.slice (some (Addr.mk (AW.next h) 0 none))
  1 1]) fun v9 h10 => vSl v9 fun p11 m12 m13 => unitAt P f_brickyardref15_JobText 20 [3, 6, 7, 8, 9] [Value.slice p11 m12 m13, Value.slice p4 m5 m6, Value.int IntKind.i64 n7, Value.int IntKind.i64 n8,
  Value.int IntKind.i64 0] h10 Q) (oB (AW.bytes h p1 m2) fun s14 => Q (Value.string s14) h)) (oB (AW.bytes h p1 m2) fun s15 => Q (Value.string s15) h)) : unitAt P f_brickyardref15_JobText 16 [3, 6, 7,
  8] [Value.slice p1 m2 m3, Value.slice p4 m5 m6, Value.int IntKind.i64 n7, Value.int IntKind.i64 n8] h Q := unit_ok (n := 400) (ann := annOf [(3, [1, 3, 4]), (9, [1, 3, 5]), (16,
  [3, 6, 7, 8]), (20, [3, 6, 7, 8, 9]), (24, [3, 6, 7, 8, 9])]) (Eq.mp (by kernel_rfl) H)
theorem r_brickyardref15_JobText_20 {p1 : Option Addr} {m2 : Nat} {m3 : Nat} {p4 : Option Addr} {m5 : Nat} {m6 : Nat} {n7 : Int} {n8 : Int} {n9 : Int} {h : AW} {Q : Value → AW → Prop} (H : aP p4 fun
  m10 m11 => oB (natIdx n8 m5) fun m12 => oB (AW.rd h m10 (m11 + m12 * 1)) fun v13 => vSl v13 fun p14 m15 m16 => bC (decide (n9 < (↑m15 : Int))) (bC (decide (n9 > 0)) (oP (appendB
  P (AW.addVar h [Value.int IntKind.u8 32]) (Array.mk [ty_sl_uint8, ty_sl_uint8]) [Value.slice p1 m2 m3, Value.slice (some (Addr.mk (AW.next h) 0 none)) 1 1]) fun v17 h18 => vSl v17 fun p19
  m20 m21 => unitAt P f_brickyardref15_JobText 24 [3, 6, 7, 8, 9] [Value.slice p19 m20 m21, Value.slice p4 m5 m6, Value.int IntKind.i64 n7, Value.int IntKind.i64 n8, Value.int IntKind.i64 n9] h18 Q)
  (unitAt P f_brickyardref15_JobText 24 [3, 6, 7, 8, 9] [Value.slice p1 m2 m3, Value.slice p4 m5 m6, Value.int IntKind.i64 n7, Value.int IntKind.i64 n8, Value.int IntKind.i64 n9] h Q)) (oP (appendB P
  (AW.addVar h [Value.int IntKind.u8 10]) (Array.mk [ty_sl_uint8, ty_sl_uint8]) [Value.slice p1 m2 m3, Value.slice (some (Addr.mk (AW.next h) 0 none)) 1 1]) fun v22 h23 => vSl v22 fun p24 m25
  m26 => unitAt P f_brickyardref15_JobText 16 [3, 6, 7, 8] [Value.slice p24 m25 m26, Value.slice p4 m5 m6, Value.int IntKind.i64 n7, Value.int IntKind.i64 (IntKind.wrap IntKind.i64 (n8 + 1))] h23 Q))
  : unitAt P f_brickyardref15_JobText 20 [3, 6, 7, 8, 9] [Value.slice p1 m2 m3, Value.slice p4 m5 m6, Value.int IntKind.i64 n7, Value.int IntKind.i64 n8, Value.int IntKind.i64 n9] h Q := unit_ok (n :=
  400) (ann := annOf [(3, [1, 3, 4]), (9, [1, 3, 5]), (16, [3, 6, 7, 8]), (20, [3, 6, 7, 8, 9]), (24, [3, 6, 7, 8, 9])]) (Eq.mp (by kernel_rfl) H)
theorem r_brickyardref15_JobText_24 {p1 : Option Addr} {m2 : Nat} {m3 : Nat} {p4 : Option Addr} {m5 : Nat} {m6 : Nat} {n7 : Int} {n8 : Int} {n9 : Int} {h : AW} {Q : Value → AW → Prop} (H : aP p4 fun
  m10 m11 => oB (natIdx n8 m5) fun m12 => oB (AW.rd h m10 (m11 + m12 * 1)) fun v13 => vSl v13 fun p14 m15 m16 => aP p14 fun m17 m18 => oB (natIdx n9 m15) fun m19 => oB (AW.rd h m17
  (m18 + m19 * 1)) fun v20 => vStr v20 fun s21 => EvQ P f_brickyardref11_Show [Value.string s21] h fun v22 h23 => vStr v22 fun s24 => oP (appendB P h23 (Array.mk [ty_sl_uint8, ty_string]) [Value.slice p1 m2
  m3, Value.string s24]) fun v25 h26 => vSl v25 fun p27 m28 m29 => unitAt P f_brickyardref15_JobText 20 [3, 6, 7, 8, 9] [Value.slice p27 m28 m29, Value.slice p4 m5 m6, Value.int IntKind.i64 n7,
  Value.int IntKind.i64 n8, Value.int IntKind.i64 (IntKind.wrap IntKind.i64 (n9 + 1))] h26 Q) : unitAt P f_brickyardref15_JobText 24 [3, 6, 7, 8, 9] [Value.slice p1 m2 m3, Value.slice p4 m5 m6,
  Value.int IntKind.i64 n7, Value.int IntKind.i64 n8, Value.int IntKind.i64 n9] h Q := unit_ok (n := 400) (ann := annOf [(3, [1, 3, 4]), (9, [1, 3, 5]), (16, [3, 6, 7, 8]), (20,
  [3, 6, 7, 8, 9]), (24, [3, 6, 7, 8, 9])]) (Eq.mp (by kernel_rfl) H)
theorem r_strings_Join {p1 : Option Addr} {m2 : Nat} {m3 : Nat} {s4 : ByteArray} {h : AW} {Q : Value → AW → Prop} (H : bC ((↑m2 : Int) == 0) (Q (Value.string (ByteArray.mk #[])) h) (bC
  ((↑m2 : Int) == 1) (aP p1 fun m5 m6 => oB (natIdx 0 m2) fun m7 => oB (AW.rd h m5 (m6 + m7 * 1)) fun v8 => vStr v8 fun s9 => Q (Value.string s9) h) (bC (decide ((↑(ByteArray.size
  s4) : Int) > 0)) (bC (decide (IntKind.wrap IntKind.i64 ((↑m2 : Int) - 1) = 0)) False (bC (decide ((↑(ByteArray.size s4) : Int) ≥ IntKind.wrap IntKind.i64 (Int.tdiv
  9223372036854775807 (IntKind.wrap IntKind.i64 ((↑m2 : Int) - 1))))) False (unitAt P f_strings_Join 10 [0, 1, 5] [Value.slice p1 m2 m3, Value.string s4, Value.int IntKind.i64 0] h Q)))
  (unitAt P f_strings_Join 12 [0, 1, 5, 39, 40, 41] [Value.slice p1 m2 m3, Value.string s4, Value.int IntKind.i64 0, Value.slice p1 m2 m3, Value.int IntKind.i64 (↑m2 : Int), Value.int
  IntKind.i64 0] h Q)))) : EvQ P f_strings_Join [Value.slice p1 m2 m3, Value.string s4] h Q := fn_ok (n := 400) (ann := annOf [(10, [0, 1, 5]), (12, [0, 1, 5, 39, 40, 41]), (16, [0, 1, 5, 7,
  39, 40, 41]), (22, [1, 8, 63, 64, 65])]) (Eq.mp (by kernel_rfl) H)
theorem r_strings_Join_12 {p1 : Option Addr} {m2 : Nat} {m3 : Nat} {s4 : ByteArray} {n5 : Int} {p6 : Option Addr} {m7 : Nat} {m8 : Nat} {n9 : Int} {n10 : Int} {h : AW} {Q : Value → AW →
  Prop} (H : bC (decide (n10 < n9)) (aP p6 fun m11 m12 => oB (natIdx n10 m7) fun m13 => oB (AW.rd h m11 (m12 + m13 * 1)) fun v14 => vStr v14 fun s15 => bC (decide
  ((↑(ByteArray.size s15) : Int) > IntKind.wrap IntKind.i64 (9223372036854775807 - n5))) False (unitAt P f_strings_Join 16 [0, 1, 5, 7, 39, 40, 41] [Value.slice p1 m2 m3, Value.string s4,
  Value.int IntKind.i64 n5, Value.string s15, Value.slice p6 m7 m8, Value.int IntKind.i64 n9, Value.int IntKind.i64 n10] h Q)) (EvQ P f_p_strings_Builder_Grow [Value.pointer (some (Addr.mk (AW.next h)
  0 none)), Value.int IntKind.i64 n5] (AW.tag (AW.addVar h [Value.pointer none, Value.slice none 0 0]) (AW.next h) ty_strings_Builder) fun v16 h17 => aP p1 fun m18 m19 => oB (natIdx 0 m2) fun
  m20 => oB (AW.rd h17 m18 (m19 + m20 * 1)) fun v21 => vStr v21 fun s22 => EvQ P f_p_strings_Builder_WriteString [Value.pointer (some (Addr.mk (AW.next h) 0 none)), Value.string s22] h17 fun v23 h24 => vTup
  v23 fun l25 => lC l25 fun v26 l27 => vInt IntKind.i64 v26 fun n28 => lC l27 fun v29 l30 => vIfc v29 (lN l30 (oB (natBnd 1 m2) fun m31 => bC (Nat.ble m2 m3) (oB (shO p1 (m31 * 1))
  fun p32 => unitAt P f_strings_Join 22 [1, 8, 63, 64, 65] [Value.string s4, Value.pointer (some (Addr.mk (AW.next h) 0 none)), Value.slice p32 (m2 - m31) (m3 - m31), Value.int IntKind.i64
  (↑(m2 - m31) : Int), Value.int IntKind.i64 0] h24 Q) False)) fun m33 v34 => lN l30 (oB (natBnd 1 m2) fun m35 => bC (Nat.ble m2 m3) (oB (shO p1 (m35 * 1)) fun p36 => unitAt P f_strings_Join
  22 [1, 8, 63, 64, 65] [Value.string s4, Value.pointer (some (Addr.mk (AW.next h) 0 none)), Value.slice p36 (m2 - m35) (m3 - m35), Value.int IntKind.i64 (↑(m2 - m35) : Int),
  Value.int IntKind.i64 0] h24 Q) False))) : unitAt P f_strings_Join 12 [0, 1, 5, 39, 40, 41] [Value.slice p1 m2 m3, Value.string s4, Value.int IntKind.i64 n5, Value.slice p6 m7 m8,
  Value.int IntKind.i64 n9, Value.int IntKind.i64 n10] h Q := unit_ok (n := 400) (ann := annOf [(10, [0, 1, 5]), (12, [0, 1, 5, 39, 40, 41]), (16, [0, 1, 5, 7, 39, 40, 41]), (22,
  [1, 8, 63, 64, 65])]) (Eq.mp (by kernel_rfl) H)
theorem r_strings_Join_16 {p1 : Option Addr} {m2 : Nat} {m3 : Nat} {s4 : ByteArray} {n5 : Int} {s6 : ByteArray} {p7 : Option Addr} {m8 : Nat} {m9 : Nat} {n10 : Int} {n11 : Int} {h : AW} {Q
  : Value → AW → Prop} (H : unitAt P f_strings_Join 12 [0, 1, 5, 39, 40, 41] [Value.slice p1 m2 m3, Value.string s4, Value.int IntKind.i64 (IntKind.wrap IntKind.i64 (n5 + (↑(ByteArray.size
  s6) : Int))), Value.slice p7 m8 m9, Value.int IntKind.i64 n10, Value.int IntKind.i64 (IntKind.wrap IntKind.i64 (n11 + 1))] h Q) : unitAt P f_strings_Join 16 [0, 1, 5, 7, 39, 40, 41]
  [Value.slice p1 m2 m3, Value.string s4, Value.int IntKind.i64 n5, Value.string s6, Value.slice p7 m8 m9, Value.int IntKind.i64 n10, Value.int IntKind.i64 n11] h Q := unit_ok (n
  := 400) (ann := annOf [(10, [0, 1, 5]), (12, [0, 1, 5, 39, 40, 41]), (16, [0, 1, 5, 7, 39, 40, 41]), (22, [1, 8, 63, 64, 65])]) (Eq.mp (by kernel_rfl) H)
theorem r_strings_Join_22 {s1 : ByteArray} {m2 : Nat} {p3 : Option Addr} {m4 : Nat} {m5 : Nat} {n6 : Int} {n7 : Int} {h : AW} {Q : Value → AW → Prop} (H : bC (decide (n7 < n6)) (aP p3 fun
  m8 m9 => oB (natIdx n7 m4) fun m10 => oB (AW.rd h m8 (m9 + m10 * 1)) fun v11 => vStr v11 fun s12 => EvQ P f_p_strings_Builder_WriteString [Value.pointer (some (Addr.mk m2 0 none)), Value.string s1] h fun
  v13 h14 => vTup v13 fun l15 => lC l15 fun v16 l17 => vInt IntKind.i64 v16 fun n18 => lC l17 fun v19 l20 => vIfc v19 (lN l20 (EvQ P f_p_strings_Builder_WriteString [Value.pointer (some (Addr.mk m2 0 none)),
  Value.string s12] h14 fun v21 h22 => vTup v21 fun l23 => lC l23 fun v24 l25 => vInt IntKind.i64 v24 fun n26 => lC l25 fun v27 l28 => vIfc v27 (lN l28 (unitAt P f_strings_Join 22 [1, 8, 63,
  64, 65] [Value.string s1, Value.pointer (some (Addr.mk m2 0 none)), Value.slice p3 m4 m5, Value.int IntKind.i64 n6, Value.int IntKind.i64 (IntKind.wrap IntKind.i64 (n7 + 1))] h22
  Q)) fun m29 v30 => lN l28 (unitAt P f_strings_Join 22 [1, 8, 63, 64, 65] [Value.string s1, Value.pointer (some (Addr.mk m2 0 none)), Value.slice p3 m4 m5, Value.int IntKind.i64 n6,
  Value.int IntKind.i64 (IntKind.wrap IntKind.i64 (n7 + 1))] h22 Q))) fun m31 v32 => lN l20 (EvQ P f_p_strings_Builder_WriteString [Value.pointer (some (Addr.mk m2 0 none)), Value.string s12] h14 fun v33 h34
  => vTup v33 fun l35 => lC l35 fun v36 l37 => vInt IntKind.i64 v36 fun n38 => lC l37 fun v39 l40 => vIfc v39 (lN l40 (unitAt P f_strings_Join 22 [1, 8, 63, 64, 65] [Value.string s1,
  Value.pointer (some (Addr.mk m2 0 none)), Value.slice p3 m4 m5, Value.int IntKind.i64 n6, Value.int IntKind.i64 (IntKind.wrap IntKind.i64 (n7 + 1))] h34 Q)) fun m41 v42 => lN l40
  (unitAt P f_strings_Join 22 [1, 8, 63, 64, 65] [Value.string s1, Value.pointer (some (Addr.mk m2 0 none)), Value.slice p3 m4 m5, Value.int IntKind.i64 n6, Value.int IntKind.i64
  (IntKind.wrap IntKind.i64 (n7 + 1))] h34 Q))) (EvQ P f_p_strings_Builder_String [Value.pointer (some (Addr.mk m2 0 none))] h fun v43 h44 => vStr v43 fun s45 => Q (Value.string s45) h44)) : unitAt P
  f_strings_Join 22 [1, 8, 63, 64, 65] [Value.string s1, Value.pointer (some (Addr.mk m2 0 none)), Value.slice p3 m4 m5, Value.int IntKind.i64 n6, Value.int IntKind.i64 n7] h Q := unit_ok (n
  := 400) (ann := annOf [(10, [0, 1, 5]), (12, [0, 1, 5, 39, 40, 41]), (16, [0, 1, 5, 7, 39, 40, 41]), (22, [1, 8, 63, 64, 65])]) (Eq.mp (by kernel_rfl) H)
theorem r_strings_Join_10 {p1 : Option Addr} {m2 : Nat} {m3 : Nat} {s4 : ByteArray} {n5 : Int} {h : AW} {Q : Value → AW → Prop} (H : unitAt P f_strings_Join 12 [0, 1, 5, 39, 40, 41] [Value.slice p1
  m2 m3, Value.string s4, Value.int IntKind.i64 (IntKind.wrap IntKind.i64 (n5 + IntKind.wrap IntKind.i64 ((↑(ByteArray.size s4) : Int) * IntKind.wrap IntKind.i64 ((↑m2 : Int) -
  1)))), Value.slice p1 m2 m3, Value.int IntKind.i64 (↑m2 : Int), Value.int IntKind.i64 0] h Q) : unitAt P f_strings_Join 10 [0, 1, 5] [Value.slice p1 m2 m3, Value.string s4, Value.int
  IntKind.i64 n5] h Q := unit_ok (n := 400) (ann := annOf [(10, [0, 1, 5]), (12, [0, 1, 5, 39, 40, 41]), (16, [0, 1, 5, 7, 39, 40, 41]), (22, [1, 8, 63, 64, 65])]) (Eq.mp (by
  kernel_rfl) H)
theorem r_strings_SplitAfter {s1 : ByteArray} {s2 : ByteArray} {h : AW} {Q : Value → AW → Prop} (H : EvQ P f_strings_genSplit [Value.string s1, Value.string s2, Value.int IntKind.i64 (↑(ByteArray.size s2) :
  Int), Value.int IntKind.i64 (Int.negSucc 0)] h fun v3 h4 => vSl v3 fun p5 m6 m7 => Q (Value.slice p5 m6 m7) h4) : EvQ P f_strings_SplitAfter [Value.string s1, Value.string s2] h Q := fn_ok (n :=
  400) (ann := annOf []) (Eq.mp (by kernel_rfl) H)
theorem r_strings_genSplit {s1 : ByteArray} {s2 : ByteArray} {n3 : Int} {n4 : Int} {h : AW} {Q : Value → AW → Prop} (H : bC (n4 == 0) (Q (Value.slice none 0 0) h) (bC (bEq s2 (ByteArray.mk
  #[])) (EvQ P f_strings_explode [Value.string s1, Value.int IntKind.i64 n4] h fun v5 h6 => vSl v5 fun p7 m8 m9 => Q (Value.slice p7 m8 m9) h6) (bC (decide (n4 < 0)) (EvQ P f_strings_Count [Value.string
  s1, Value.string s2] h fun v10 h11 => vInt IntKind.i64 v10 fun n12 => unitAt P f_strings_genSplit 7 [0, 1, 2, 3] [Value.string s1, Value.string s2, Value.int IntKind.i64 n3, Value.int
  IntKind.i64 (IntKind.wrap IntKind.i64 (n12 + 1))] h11 Q) (unitAt P f_strings_genSplit 7 [0, 1, 2, 3] [Value.string s1, Value.string s2, Value.int IntKind.i64 n3, Value.int IntKind.i64 n4] h
  Q)))) : EvQ P f_strings_genSplit [Value.string s1, Value.string s2, Value.int IntKind.i64 n3, Value.int IntKind.i64 n4] h Q := fn_ok (n := 400) (ann := annOf [(7, [0, 1, 2, 3]), (11, [0, 1, 2,
  3, 9, 10]), (17, [0, 9, 10])]) (Eq.mp (by kernel_rfl) H)
theorem r_strings_genSplit_7 {s1 : ByteArray} {s2 : ByteArray} {n3 : Int} {n4 : Int} {h : AW} {Q : Value → AW → Prop} (H : oP (makeSliceV P h ty_sl_string (Value.int IntKind.i64 (if IntKind.wrap
  IntKind.i64 ((↑(ByteArray.size s1) : Int) + 1) < n4 then IntKind.wrap IntKind.i64 ((↑(ByteArray.size s1) : Int) + 1) else n4)) (Value.int IntKind.i64 (if IntKind.wrap IntKind.i64
  ((↑(ByteArray.size s1) : Int) + 1) < n4 then IntKind.wrap IntKind.i64 ((↑(ByteArray.size s1) : Int) + 1) else n4))) fun v5 h6 => vSl v5 fun p7 m8 m9 => unitAt P f_strings_genSplit 11 [0, 1, 2,
  3, 9, 10] [Value.string s1, Value.string s2, Value.int IntKind.i64 n3, Value.int IntKind.i64 (IntKind.wrap IntKind.i64 ((if IntKind.wrap IntKind.i64 ((↑(ByteArray.size s1) : Int)
  + 1) < n4 then IntKind.wrap IntKind.i64 ((↑(ByteArray.size s1) : Int) + 1) else n4) - 1)), Value.slice p7 m8 m9, Value.int IntKind.i64 0] h6 Q) : unitAt P f_strings_genSplit 7 [0, 1, 2, 3]
  [Value.string s1, Value.string s2, Value.int IntKind.i64 n3, Value.int IntKind.i64 n4] h Q := unit_ok (n := 400) (ann := annOf [(7, [0, 1, 2, 3]), (11, [0, 1, 2, 3, 9, 10]), (17,
  [0, 9, 10])]) (Eq.mp (by kernel_rfl) H)
theorem r_strings_genSplit_11 {s1 : ByteArray} {s2 : ByteArray} {n3 : Int} {n4 : Int} {p5 : Option Addr} {m6 : Nat} {m7 : Nat} {n8 : Int} {h : AW} {Q : Value → AW → Prop} (H : bC (decide (n8 <
  n4)) (EvQ P f_strings_Index [Value.string s1, Value.string s2] h fun v9 h10 => vInt IntKind.i64 v9 fun n11 => bC (decide (n11 < 0)) (unitAt P f_strings_genSplit 17 [0, 9, 10] [Value.string s1,
  Value.slice p5 m6 m7, Value.int IntKind.i64 n8] h10 Q) (oB (natBnd (IntKind.wrap IntKind.i64 (n11 + n3)) (ByteArray.size s1)) fun m12 => aP p5 fun m13 m14 => oB (natIdx n8 m6)
  fun m15 => oB (AW.wr h10 m13 (m14 + m15 * 1) (Value.string (bSub s1 0 m12))) fun h16 => oB (natBnd (IntKind.wrap IntKind.i64 (n11 + (↑(ByteArray.size s2) : Int))) (ByteArray.size
  s1)) fun m17 => unitAt P f_strings_genSplit 11 [0, 1, 2, 3, 9, 10] [Value.string (bSub s1 m17 (ByteArray.size s1)), Value.string s2, Value.int IntKind.i64 n3, Value.int IntKind.i64 n4,
  Value.slice p5 m6 m7, Value.int IntKind.i64 (IntKind.wrap IntKind.i64 (n8 + 1))] h16 Q)) (unitAt P f_strings_genSplit 17 [0, 9, 10] [Value.string s1, Value.slice p5 m6 m7, Value.int
  IntKind.i64 n8] h Q)) : unitAt P f_strings_genSplit 11 [0, 1, 2, 3, 9, 10] [Value.string s1, Value.string s2, Value.int IntKind.i64 n3, Value.int IntKind.i64 n4, Value.slice p5 m6 m7,
  Value.int IntKind.i64 n8] h Q := unit_ok (n := 400) (ann := annOf [(7, [0, 1, 2, 3]), (11, [0, 1, 2, 3, 9, 10]), (17, [0, 9, 10])]) (Eq.mp (by kernel_rfl) H)
theorem r_strings_genSplit_17 {s1 : ByteArray} {p2 : Option Addr} {m3 : Nat} {m4 : Nat} {n5 : Int} {h : AW} {Q : Value → AW → Prop} (H : aP p2 fun m6 m7 => oB (natIdx n5 m3) fun m8 => oB
  (AW.wr h m6 (m7 + m8 * 1) (Value.string s1)) fun h9 => oB (natBnd (IntKind.wrap IntKind.i64 (n5 + 1)) m4) fun m10 => bC (Nat.ble m10 m4) (oB (shO p2 0) fun p11 => Q (Value.slice
  p11 (m10 - 0) (m4 - 0)) h9) False) : unitAt P f_strings_genSplit 17 [0, 9, 10] [Value.string s1, Value.slice p2 m3 m4, Value.int IntKind.i64 n5] h Q := unit_ok (n := 400) (ann := annOf [(7,
  [0, 1, 2, 3]), (11, [0, 1, 2, 3, 9, 10]), (17, [0, 9, 10])]) (Eq.mp (by kernel_rfl) H)
theorem r_strings_Count {s1 : ByteArray} {s2 : ByteArray} {h : AW} {Q : Value → AW → Prop} (H : bC ((↑(ByteArray.size s2) : Int) == 0) (EvQ P f_unicode_utf8_RuneCountInString [Value.string s1] h fun v3 h4 => vInt
  IntKind.i64 v3 fun n5 => Q (Value.int IntKind.i64 (IntKind.wrap IntKind.i64 (n5 + 1))) h4) (bC ((↑(ByteArray.size s2) : Int) == 1) (oB (natIdx 0 (ByteArray.size s2)) fun m6 => oB
  (bAt s2 m6) fun n7 => EvQ P f_bytealg_CountString [Value.string s1, Value.int IntKind.u8 n7] h fun v8 h9 => vInt IntKind.i64 v8 fun n10 => Q (Value.int IntKind.i64 n10) h9) (unitAt P f_strings_Count 6 [0,
  1, 5] [Value.string s1, Value.string s2, Value.int IntKind.i64 0] h Q))) : EvQ P f_strings_Count [Value.string s1, Value.string s2] h Q := fn_ok (n := 400) (ann := annOf [(6, [0, 1, 5])])
  (Eq.mp (by kernel_rfl) H)
theorem r_p_strings_Builder_Grow {p1 : Option Addr} {n2 : Int} {h : AW} {Q : Value → AW → Prop} (H : EvQ P f_p_strings_Builder_copyCheck [Value.pointer p1] h fun v3 h4 => bC (decide (n2 < 0)) False (unitAt P f_p_strings_Builder_Grow 3 [0, 1]
  [Value.pointer p1, Value.int IntKind.i64 n2] h4 Q)) : EvQ P f_p_strings_Builder_Grow [Value.pointer p1, Value.int IntKind.i64 n2] h Q := fn_ok (n := 400) (ann := annOf [(3, [0, 1])]) (Eq.mp (by
  kernel_rfl) H)
theorem r_p_strings_Builder_Grow_3 {p1 : Option Addr} {n2 : Int} {h : AW} {Q : Value → AW → Prop} (H : aP p1 fun m3 m4 => oB (AW.rd h m3 (m4 + 1)) fun v5 => vSl v5 fun p6 m7 m8 => oB (capB P h
  (Array.mk [ty_sl_uint8]) [Value.slice p6 m7 m8]) fun v9 => vInt IntKind.i64 v9 fun n10 => aP p1 fun m11 m12 => oB (AW.rd h m11 (m12 + 1)) fun v13 => vSl v13 fun p14 m15 m16 => bC
  (decide (IntKind.wrap IntKind.i64 (n10 - (↑m15 : Int)) < n2)) (EvQ P f_p_strings_Builder_grow [Value.pointer p1, Value.int IntKind.i64 n2] h fun v17 h18 => Q (Value.tuple (Array.mk [])) h18) (Q
  (Value.tuple (Array.mk [])) h)) : unitAt P f_p_strings_Builder_Grow 3 [0, 1] [Value.pointer p1, Value.int IntKind.i64 n2] h Q := unit_ok (n := 400) (ann := annOf [(3, [0, 1])]) (Eq.mp (by
  kernel_rfl) H)
theorem r_p_strings_Builder_grow {p1 : Option Addr} {n2 : Int} {h : AW} {Q : Value → AW → Prop} (H : aP p1 fun m3 m4 => oB (AW.rd h m3 (m4 + 1)) fun v5 => vSl v5 fun p6 m7 m8 => oB (capB P h
  (Array.mk [ty_sl_uint8]) [Value.slice p6 m7 m8]) fun v9 => vInt IntKind.i64 v9 fun n10 => EvQ P f_bytealg_MakeNoZero [Value.int IntKind.i64 (IntKind.wrap IntKind.i64 (IntKind.wrap IntKind.i64 (2 *
  n10) + n2))] h fun v11 h12 => vSl v11 fun p13 m14 m15 => aP p1 fun m16 m17 => oB (AW.rd h12 m16 (m17 + 1)) fun v18 => vSl v18 fun p19 m20 m21 => oB (natBnd (↑m20 : Int) m15) fun
  m22 => bC (Nat.ble m22 m15) (oB (shO p13 0) fun p23 => oB (AW.rd h m16 (m17 + 1)) fun v24 => vSl v24 fun p25 m26 m27 => Value.slice p25 m26 m27 = Value.slice p19 m20 m21 ∧
  Value.int IntKind.i64 (↑m20 : Int) = Value.int IntKind.i64 (↑m20 : Int) ∧ aP p1 fun m28 m29 => oB (AW.rd h12 m28 (m29 + 1)) fun v30 => vSl v30 fun p31 m32 m33 => oP (copyB P h12
  (Array.mk [ty_sl_uint8, ty_sl_uint8]) [Value.slice p23 (m22 - 0) (m15 - 0), Value.slice p31 m32 m33]) fun v34 h35 => vInt IntKind.i64 v34 fun n36 => aP p1 fun m37 m38 => oB (AW.wr h35 m37
  (m38 + 1) (Value.slice p23 (m22 - 0) (m15 - 0))) fun h39 => Q (Value.tuple (Array.mk [])) h39) False) : EvQ P f_p_strings_Builder_grow [Value.pointer p1, Value.int IntKind.i64 n2] h Q := fn_ok (n
  := 400) (ann := annOf []) (Eq.mp (by kernel_rfl) H)
end Go.Proofs.YtamoepfiodgbbaaGreatDoor
end

section
/- Rules of walks, printed by a program of ours: group Path. -/
namespace Go.Proofs.YtamoepfiodgbbaaGreatDoor
open Go.Abs
set_option maxRecDepth 100000
theorem r_path_Is {s1 : ByteArray} {h : AW} {Q : Value → AW → Prop} (H : bC (decide ((↑(ByteArray.size s1) : Int) > 60)) (Q (Value.bool false) h) (unitAt P f_path_Is 3 [0] [Value.string
  s1] h Q)) : EvQ P f_path_Is [Value.string s1] h Q := fn_ok (n := 400) (ann := annOf [(3, [0])]) (Eq.mp (by kernel_rfl) H)
theorem r_path_Is_3 {s1 : ByteArray} {h : AW} {Q : Value → AW → Prop} (H : EvQ P f_strings_Cut [Value.string s1, Value.string (ByteArray.mk #[47])] h fun v2 h3 => vTup v2 fun l4 => lC l4 fun
  v5 l6 => vStr v5 fun s7 => lC l6 fun v8 l9 => vStr v8 fun s10 => lC l9 fun v11 l12 => vBool v11 fun b13 => lN l12 (EvQ P f_path_segment [Value.string s7] h3 fun v14 h15 => vBool v14 fun
  b16 => bC (!b16) (Q (Value.bool false) h15) (bC (!b13) (Q (Value.bool true) h15) (unitAt P f_path_Is 3 [0] [Value.string s10] h15 Q)))) : unitAt P f_path_Is 3 [0] [Value.string s1] h Q :=
  unit_ok (n := 400) (ann := annOf [(3, [0])]) (Eq.mp (by kernel_rfl) H)
theorem r_path_segment {s1 : ByteArray} {h : AW} {Q : Value → AW → Prop} (H : bC (bEq s1 (ByteArray.mk #[])) (Q (Value.bool false) h) (bC (decide ((↑(ByteArray.size s1) : Int) > 32)) (Q
  (Value.bool false) h) (bC (bEq s1 (ByteArray.mk #[46])) (Q (Value.bool false) h) (bC (bEq s1 (ByteArray.mk #[46, 46])) (Q (Value.bool false) h) (unitAt P f_path_segment 4 [0, 20, 21]
  [Value.string s1, Value.int IntKind.i64 (↑(ByteArray.size s1) : Int), Value.int IntKind.i64 0] h Q))))) : EvQ P f_path_segment [Value.string s1] h Q := fn_ok (n := 400) (ann := annOf [(4,
  [0, 20, 21])]) (Eq.mp (by kernel_rfl) H)
theorem r_path_segment_4 {s1 : ByteArray} {n2 : Int} {n3 : Int} {h : AW} {Q : Value → AW → Prop} (H : bC (decide (n3 < n2)) (oB (natIdx n3 (ByteArray.size s1)) fun m4 => oB (bAt s1 m4) fun
  n5 => EvQ P f_path_may [Value.int IntKind.u8 n5] h fun v6 h7 => vBool v6 fun b8 => bC (!b8) (Q (Value.bool false) h7) (unitAt P f_path_segment 4 [0, 20, 21] [Value.string s1, Value.int
  IntKind.i64 n2, Value.int IntKind.i64 (IntKind.wrap IntKind.i64 (n3 + 1))] h7 Q)) (Q (Value.bool true) h)) : unitAt P f_path_segment 4 [0, 20, 21] [Value.string s1, Value.int IntKind.i64
  n2, Value.int IntKind.i64 n3] h Q := unit_ok (n := 400) (ann := annOf [(4, [0, 20, 21])]) (Eq.mp (by kernel_rfl) H)
theorem r_path_may {n1 : Int} {h : AW} {Q : Value → AW → Prop} (H : bC (decide (n1 ≥ 97)) (bC (decide (n1 ≤ 122)) (Q (Value.bool true) h) (bC (decide (n1 ≥ 48)) (bC (decide (n1 ≤ 57))
  (Q (Value.bool true) h) (bC (n1 == 95) (Q (Value.bool true) h) (bC (n1 == 46) (Q (Value.bool true) h) (bC (n1 == 45) (Q (Value.bool true) h) (Q (Value.bool false) h))))) (bC (n1
  == 95) (Q (Value.bool true) h) (bC (n1 == 46) (Q (Value.bool true) h) (bC (n1 == 45) (Q (Value.bool true) h) (Q (Value.bool false) h)))))) (bC (decide (n1 ≥ 48)) (bC (decide (n1
  ≤ 57)) (Q (Value.bool true) h) (bC (n1 == 95) (Q (Value.bool true) h) (bC (n1 == 46) (Q (Value.bool true) h) (bC (n1 == 45) (Q (Value.bool true) h) (Q (Value.bool false) h)))))
  (bC (n1 == 95) (Q (Value.bool true) h) (bC (n1 == 46) (Q (Value.bool true) h) (bC (n1 == 45) (Q (Value.bool true) h) (Q (Value.bool false) h)))))) : EvQ P f_path_may [Value.int
  IntKind.u8 n1] h Q := fn_ok (n := 400) (ann := annOf []) (Eq.mp (by kernel_rfl) H)
theorem r_strings_Cut {s1 : ByteArray} {s2 : ByteArray} {h : AW} {Q : Value → AW → Prop} (H : EvQ P f_stringslite_Cut [Value.string s1, Value.string s2] h fun v3 h4 => vTup v3 fun l5 => lC l5 fun v6
  l7 => vStr v6 fun s8 => lC l7 fun v9 l10 => vStr v9 fun s11 => lC l10 fun v12 l13 => vBool v12 fun b14 => lN l13 (Q (Value.tuple (Array.mk [Value.string s8, Value.string s11,
  Value.bool b14])) h4)) : EvQ P f_strings_Cut [Value.string s1, Value.string s2] h Q := fn_ok (n := 400) (ann := annOf []) (Eq.mp (by kernel_rfl) H)
theorem r_stringslite_Cut {s1 : ByteArray} {s2 : ByteArray} {h : AW} {Q : Value → AW → Prop} (H : EvQ P f_stringslite_Index [Value.string s1, Value.string s2] h fun v3 h4 => vInt IntKind.i64 v3 fun n5 =>
  bC (decide (n5 ≥ 0)) (oB (natBnd n5 (ByteArray.size s1)) fun m6 => oB (natBnd (IntKind.wrap IntKind.i64 (n5 + (↑(ByteArray.size s2) : Int))) (ByteArray.size s1)) fun m7 => Q
  (Value.tuple (Array.mk [Value.string (bSub s1 0 m6), Value.string (bSub s1 m7 (ByteArray.size s1)), Value.bool true])) h4) (Q (Value.tuple (Array.mk [Value.string s1,
  Value.string (ByteArray.mk #[]), Value.bool false])) h4)) : EvQ P f_stringslite_Cut [Value.string s1, Value.string s2] h Q := fn_ok (n := 400) (ann := annOf []) (Eq.mp (by kernel_rfl) H)
theorem r_stringslite_Index {s1 : ByteArray} {s2 : ByteArray} {h : AW} {Q : Value → AW → Prop} (H : bC ((↑(ByteArray.size s2) : Int) == 0) (Q (Value.int IntKind.i64 0) h) (bC (bEq s2 s1) (Q
  (Value.int IntKind.i64 0) h) (bC ((↑(ByteArray.size s2) : Int) == 1) (oB (natIdx 0 (ByteArray.size s2)) fun m3 => oB (bAt s2 m3) fun n4 => EvQ P f_stringslite_IndexByte [Value.string s1, Value.int
  IntKind.u8 n4] h fun v5 h6 => vInt IntKind.i64 v5 fun n7 => Q (Value.int IntKind.i64 n7) h6) (bC (decide ((↑(ByteArray.size s2) : Int) ≥ (↑(ByteArray.size s1) : Int))) (Q
  (Value.int IntKind.i64 (Int.negSucc 0)) h) (oB (AW.rd h 0 0) fun v8 => vInt IntKind.i64 v8 fun n9 => bC (decide ((↑(ByteArray.size s2) : Int) ≤ n9)) (bC (decide
  ((↑(ByteArray.size s1) : Int) ≤ 64)) (EvQ P f_bytealg_IndexString [Value.string s1, Value.string s2] h fun v10 h11 => vInt IntKind.i64 v10 fun n12 => Q (Value.int IntKind.i64 n12) h11) (oB
  (natIdx 0 (ByteArray.size s2)) fun m13 => oB (bAt s2 m13) fun n14 => oB (natIdx 1 (ByteArray.size s2)) fun m15 => oB (bAt s2 m15) fun n16 => unitAt P f_stringslite_Index 15 [0, 1, 5, 6, 7, 8,
  9, 10] [Value.string s1, Value.string s2, Value.int IntKind.i64 (↑(ByteArray.size s2) : Int), Value.int IntKind.u8 n14, Value.int IntKind.u8 n16, Value.int IntKind.i64 0,
  Value.int IntKind.i64 (IntKind.wrap IntKind.i64 (IntKind.wrap IntKind.i64 ((↑(ByteArray.size s1) : Int) - (↑(ByteArray.size s2) : Int)) + 1)), Value.int IntKind.i64 0] h Q)) (oB
  (natIdx 0 (ByteArray.size s2)) fun m17 => oB (bAt s2 m17) fun n18 => oB (natIdx 1 (ByteArray.size s2)) fun m19 => oB (bAt s2 m19) fun n20 => unitAt P f_stringslite_Index 15 [0, 1, 5, 6, 7, 8,
  9, 10] [Value.string s1, Value.string s2, Value.int IntKind.i64 (↑(ByteArray.size s2) : Int), Value.int IntKind.u8 n18, Value.int IntKind.u8 n20, Value.int IntKind.i64 0,
  Value.int IntKind.i64 (IntKind.wrap IntKind.i64 (IntKind.wrap IntKind.i64 ((↑(ByteArray.size s1) : Int) - (↑(ByteArray.size s2) : Int)) + 1)), Value.int IntKind.i64 0] h Q))))))
  : EvQ P f_stringslite_Index [Value.string s1, Value.string s2] h Q := fn_ok (n := 400) (ann := annOf [(15, [0, 1, 5, 6, 7, 8, 9, 10]), (21, [0, 1, 5, 6, 7, 8, 9, 10])]) (Eq.mp (by kernel_rfl)
  H)
theorem r_strings_Index {s1 : ByteArray} {s2 : ByteArray} {h : AW} {Q : Value → AW → Prop} (H : EvQ P f_stringslite_Index [Value.string s1, Value.string s2] h fun v3 h4 => vInt IntKind.i64 v3 fun n5 =>
  Q (Value.int IntKind.i64 n5) h4) : EvQ P f_strings_Index [Value.string s1, Value.string s2] h Q := fn_ok (n := 400) (ann := annOf []) (Eq.mp (by kernel_rfl) H)
end Go.Proofs.YtamoepfiodgbbaaGreatDoor
end

section
/- The law's own rules, under one name. -/
end

section
/- What is played: how great lists and lines are. -/
namespace Go.Proofs.YtamoepfiodgbbaaGreatDoor
open Go.Abs Go.Abs.Fo
set_option maxRecDepth 100000
attribute [local irreducible] unitAt EvQ
variable {h : AW} {μ : Paint} {ρ : Store} {Q : Value → AW → Prop}

theorem wrap_mid {n : Int} (h1 : -400000000000000 ≤ n) (h2 : n ≤ 400000000000000) : IntKind.wrap .i64 n = n := Go.Abs.wrap_small (Int.le_trans (by decide) h1) (Int.lt_of_le_of_lt h2 (by decide))
/-! The same statements? -/
theorem eq_big_loop {a b : Option Addr} {x y : List Str} {c d : Nat} (O : Own h μ ρ) (X : Vw ρ [] a (strs x)) (Y : Vw ρ [] b (strs y)) (hl : x.length = y.length) (hx : x.length ≤ 140737488355328) (hq : Q (.bool (decide (x = y))) h) :
    ∀ (n k : Nat), x.length - k = n → k ≤ x.length → x.take k = y.take k → unitAt P f_slices_Equal_sl_string_string 4 [0, 1, 12, 13] [.slice a x.length c, .slice b y.length d, .int .i64 (x.length : Int), .int .i64 (k : Int)] h Q := by
  intro n
  induction n with
  | zero =>
    intro k hn hk he
    refine r_slices_Equal_sl_string_string_4 ?_
    rw [geI (by omega)]
    simp only [oB_some, bC_true, bC_false, vInt_int, vBool_bool, vStr_string, vPtr_pointer, vSl_slice, vMap_map, vFun_func, vAgg_agg, vTup_tuple, vIfc_nil, vIfc_iface, lC_cons, lN_nil, aP_some, shO_none, shO_some, Option.isNone_none, Option.isNone_some, Bool.not_true, Bool.not_false]
    have : k = x.length := by omega
    subst this
    rw [List.take_length, hl, List.take_length] at he
    rw [← decide_eq_true he]; exact hq
  | succ n ih =>
    intro k hn hk he
    refine r_slices_Equal_sl_string_string_4 ?_
    have hlt : k < x.length := by omega
    rw [ltI hlt]
    simp only [oB_some, bC_true, bC_false, vInt_int, vBool_bool, vStr_string, vPtr_pointer, vSl_slice, vMap_map, vFun_func, vAgg_agg, vTup_tuple, vIfc_nil, vIfc_iface, lC_cons, lN_nil, aP_some, shO_none, shO_some, Option.isNone_none, Option.isNone_some, Bool.not_true, Bool.not_false]
    refine wd_at O X rfl rfl hlt ?_
    refine wd_at O Y rfl rfl (by omega) ?_
    refine bC_iff (fun e => ?_) (fun e => ?_)
    · have e' : x[k] ≠ y[k] := by simpa [bEq_false] using e
      have : decide (x = y) = false := by
        rw [decide_eq_false_iff_not]
        intro e2; subst e2; exact e' rfl
      rw [← this]; exact hq
    · rw [wrapS (by omega)]
      have e' : x[k] = y[k] := by simpa [bEq_iff] using e
      exact ih (k + 1) (by omega) (by omega) (by rw [List.take_succ_eq_append_getElem hlt, List.take_succ_eq_append_getElem (by omega), he, e'])
theorem eq_big {a b : Option Addr} {x y : List Str} {c d : Nat} (O : Own h μ ρ) (X : Vw ρ [] a (strs x)) (Y : Vw ρ [] b (strs y)) (hx : x.length ≤ 140737488355328) (hq : Q (.bool (decide (x = y))) h) :
    EvQ P f_slices_Equal_sl_string_string [.slice a x.length c, .slice b y.length d] h Q := by
  refine r_slices_Equal_sl_string_string ?_
  refine bC_iff (fun e => ?_) (fun e => ?_)
  · have : x.length ≠ y.length := by simp at e; omega
    have e2 : decide (x = y) = false := by
      rw [decide_eq_false_iff_not]
      intro e2; subst e2; exact this rfl
    rw [← e2]; exact hq
  · have hl : x.length = y.length := by simp at e; omega
    exact eq_big_loop O X Y hl hx hq x.length 0 (by omega) (by omega) rfl
end Go.Proofs.YtamoepfiodgbbaaGreatDoor
end

section
/- Two lists of statements: the same? -/
namespace Go.Proofs.YtamoepfiodgbbaaGreatDoor
open Go.Abs Go.Abs.Fo
set_option maxRecDepth 100000
attribute [local irreducible] unitAt EvQ
variable {h : AW} {μ : Paint} {ρ : Store} {Q : Value → AW → Prop}

theorem same_fn1 (O : Own h μ ρ) {op op' n n' : Int} {args args' : List Str} {aa aa' ba ba' : Option Addr} {ac ac' bc bc' : Nat} {body body' : F} (va : Vw ρ [] aa (strs args)) (va' : Vw ρ [] aa' (strs args')) (hl : args.length ≤ 140737488355328)
    (ih : ∀ {h : AW} {μ : Paint} {ρ' : Store} {Q : Value → AW → Prop}, Own h μ ρ' → Fra [] ρ ρ' → RdQ Q ρ' (.bool (F.eqB body body')) → EvQ P f_action_Same [.slice ba body.len bc, .slice ba' body'.len bc'] h Q)
    (hq : RdQ Q ρ (.bool (decide (op = op') && decide (n = n') && decide (args = args') && F.eqB body body'))) :
    EvQ P f_action_Same_fn1 [.agg ⟨[.int .i64 op, .slice aa args.length ac, .int .i64 n, .slice ba body.len bc]⟩, .agg ⟨[.int .i64 op', .slice aa' args'.length ac', .int .i64 n', .slice ba' body'.len bc']⟩] h Q := by
  refine r_action_Same_fn1 ?_
  obtain ⟨μ1, ρ1, c1, O1, W1, hc1⟩ := w_new O p00 [.int .i64 op, .slice aa args.length ac, .int .i64 n, .slice ba body.len bc]
  obtain ⟨μ2, ρ2, c2, O2, W2, hc2⟩ := w_new O1 W1 [.int .i64 op', .slice aa' args'.length ac', .int .i64 n', .slice ba' body'.len bc']
  have F2 : Fra [] ρ ρ2 := W2.fra0 fun c hc => by
    simp at hc; rcases hc with rfl | rfl <;> assumption
  repeat (first | refine ⟨rfl, ?_⟩ | refine ⟨trivial, ?_⟩ | simp only [oB_some, bC_true, bC_false, vInt_int, vBool_bool, vStr_string, vPtr_pointer, vSl_slice, vMap_map, vFun_func, vAgg_agg, vTup_tuple, vIfc_nil, vIfc_iface, lC_cons, lN_nil, aP_some, shO_none, shO_some, Option.isNone_none, Option.isNone_some, Bool.not_true, Bool.not_false] | refine w_rd (by assumption) (by assumption) 0 (by rfl) (by rfl) ?_ | refine w_rd (by assumption) (by assumption) 1 (by rfl) (by rfl) ?_ | refine w_wrL (by assumption) (by assumption) 0 (by rfl) (Nat.le_of_ble_eq_true (by rfl)) (by rfl) fun h ρz O W => ?_ | refine w_wrL (by assumption) (by assumption) 1 (by rfl) (Nat.le_of_ble_eq_true (by rfl)) (by rfl) fun h ρz O W => ?_ | refine w_wr (by assumption) (by assumption) 0 (by rfl) (Nat.le_of_ble_eq_true (by rfl)) (by rfl) fun h ρz O W => ?_ | refine w_wr (by assumption) (by assumption) 1 (by rfl) (Nat.le_of_ble_eq_true (by rfl)) (by rfl) fun h ρz O W => ?_)
  refine bC_iff (fun e => ?_) (fun e => ?_)
  · have e := eqI e
    subst e
    repeat (first | refine ⟨rfl, ?_⟩ | refine ⟨trivial, ?_⟩ | simp only [oB_some, bC_true, bC_false, vInt_int, vBool_bool, vStr_string, vPtr_pointer, vSl_slice, vMap_map, vFun_func, vAgg_agg, vTup_tuple, vIfc_nil, vIfc_iface, lC_cons, lN_nil, aP_some, shO_none, shO_some, Option.isNone_none, Option.isNone_some, Bool.not_true, Bool.not_false] | refine w_rd (by assumption) (by assumption) 0 (by rfl) (by rfl) ?_ | refine w_rd (by assumption) (by assumption) 1 (by rfl) (by rfl) ?_ | refine w_wrL (by assumption) (by assumption) 0 (by rfl) (Nat.le_of_ble_eq_true (by rfl)) (by rfl) fun h ρz O W => ?_ | refine w_wrL (by assumption) (by assumption) 1 (by rfl) (Nat.le_of_ble_eq_true (by rfl)) (by rfl) fun h ρz O W => ?_ | refine w_wr (by assumption) (by assumption) 0 (by rfl) (Nat.le_of_ble_eq_true (by rfl)) (by rfl) fun h ρz O W => ?_ | refine w_wr (by assumption) (by assumption) 1 (by rfl) (Nat.le_of_ble_eq_true (by rfl)) (by rfl) fun h ρz O W => ?_)
    refine bC_iff (fun e => ?_) (fun e => ?_)
    · have e := eqI e
      subst e
      repeat (first | refine ⟨rfl, ?_⟩ | refine ⟨trivial, ?_⟩ | simp only [oB_some, bC_true, bC_false, vInt_int, vBool_bool, vStr_string, vPtr_pointer, vSl_slice, vMap_map, vFun_func, vAgg_agg, vTup_tuple, vIfc_nil, vIfc_iface, lC_cons, lN_nil, aP_some, shO_none, shO_some, Option.isNone_none, Option.isNone_some, Bool.not_true, Bool.not_false] | refine w_rd (by assumption) (by assumption) 0 (by rfl) (by rfl) ?_ | refine w_rd (by assumption) (by assumption) 1 (by rfl) (by rfl) ?_ | refine w_wrL (by assumption) (by assumption) 0 (by rfl) (Nat.le_of_ble_eq_true (by rfl)) (by rfl) fun h ρz O W => ?_ | refine w_wrL (by assumption) (by assumption) 1 (by rfl) (Nat.le_of_ble_eq_true (by rfl)) (by rfl) fun h ρz O W => ?_ | refine w_wr (by assumption) (by assumption) 0 (by rfl) (Nat.le_of_ble_eq_true (by rfl)) (by rfl) fun h ρz O W => ?_ | refine w_wr (by assumption) (by assumption) 1 (by rfl) (Nat.le_of_ble_eq_true (by rfl)) (by rfl) fun h ρz O W => ?_)
      refine eq_big O2 (va.keep F2) (va'.keep F2) hl ?_
      simp only [oB_some, bC_true, bC_false, vInt_int, vBool_bool, vStr_string, vPtr_pointer, vSl_slice, vMap_map, vFun_func, vAgg_agg, vTup_tuple, vIfc_nil, vIfc_iface, lC_cons, lN_nil, aP_some, shO_none, shO_some, Option.isNone_none, Option.isNone_some, Bool.not_true, Bool.not_false]
      refine bC_iff (fun e => ?_) (fun e => ?_)
      · have e := of_decide_eq_true e
        subst e
        repeat (first | refine ⟨rfl, ?_⟩ | refine ⟨trivial, ?_⟩ | simp only [oB_some, bC_true, bC_false, vInt_int, vBool_bool, vStr_string, vPtr_pointer, vSl_slice, vMap_map, vFun_func, vAgg_agg, vTup_tuple, vIfc_nil, vIfc_iface, lC_cons, lN_nil, aP_some, shO_none, shO_some, Option.isNone_none, Option.isNone_some, Bool.not_true, Bool.not_false] | refine w_rd (by assumption) (by assumption) 0 (by rfl) (by rfl) ?_ | refine w_rd (by assumption) (by assumption) 1 (by rfl) (by rfl) ?_ | refine w_wrL (by assumption) (by assumption) 0 (by rfl) (Nat.le_of_ble_eq_true (by rfl)) (by rfl) fun h ρz O W => ?_ | refine w_wrL (by assumption) (by assumption) 1 (by rfl) (Nat.le_of_ble_eq_true (by rfl)) (by rfl) fun h ρz O W => ?_ | refine w_wr (by assumption) (by assumption) 0 (by rfl) (Nat.le_of_ble_eq_true (by rfl)) (by rfl) fun h ρz O W => ?_ | refine w_wr (by assumption) (by assumption) 1 (by rfl) (Nat.le_of_ble_eq_true (by rfl)) (by rfl) fun h ρz O W => ?_)
        refine ih O2 F2 fun h3 μ3 ρ3 O3 F3 => ?_
        simp only [oB_some, bC_true, bC_false, vInt_int, vBool_bool, vStr_string, vPtr_pointer, vSl_slice, vMap_map, vFun_func, vAgg_agg, vTup_tuple, vIfc_nil, vIfc_iface, lC_cons, lN_nil, aP_some, shO_none, shO_some, Option.isNone_none, Option.isNone_some, Bool.not_true, Bool.not_false]
        have := hq _ _ _ O3 (F2.trans F3)
        simpa using this
      · have e := of_decide_eq_false e
        have := hq _ _ _ O2 F2
        simpa [e] using this
    · have e := neI e
      have := hq _ _ _ O2 F2
      simpa [e] using this
  · have e := neI e
    have := hq _ _ _ O2 F2
    simpa [e] using this
theorem same_loop : ∀ (rest : F) {h : AW} {μ : Paint} {ρ : Store} {Q : Value → AW → Prop}, Own h μ ρ → ∀ {pre pre' rest' : F} {a a' : Option Addr} {c c' : List Value} {cap cap' : Nat}, Vw ρ [] a c → Lies (Vw ρ []) (pre.app rest) c → Vw ρ [] a' c' → Lies (Vw ρ []) (pre'.app rest') c' →
    pre.len = pre'.len → rest.len = rest'.len → (pre.app rest).len ≤ 140737488355328 → Fits rest → RdQ Q ρ (.bool (F.eqB rest rest')) →
    unitAt P f_slices_EqualFunc_sl_api_Stmt_sl_api_Stmt_api_Stmt_api_Stmt 4 [1, 2, 15, 16, 17] [.slice a' (pre'.app rest').len cap', .func (.func f_action_Same_fn1) ⟨[]⟩ ⟨[]⟩, .slice a (pre.app rest).len cap, .int .i64 ((pre.app rest).len : Int), .int .i64 (pre.len : Int)] h Q
  | .nil, h, μ, ρ, Q, O, pre, pre', .nil, a, a', c, c', cap, cap', X, L, X', L', hp, hr, hl, hf, hq => by
    refine r_slices_EqualFunc_sl_api_Stmt_sl_api_Stmt_api_Stmt_api_Stmt_4 ?_
    rw [F.app_nil, geI (Nat.le_refl _)]
    simp only [oB_some, bC_true, bC_false, vInt_int, vBool_bool, vStr_string, vPtr_pointer, vSl_slice, vMap_map, vFun_func, vAgg_agg, vTup_tuple, vIfc_nil, vIfc_iface, lC_cons, lN_nil, aP_some, shO_none, shO_some, Option.isNone_none, Option.isNone_some, Bool.not_true, Bool.not_false]
    exact hq.now O
  | .nil, h, μ, ρ, Q, O, pre, pre', .cons _ _ _ _ _, a, a', c, c', cap, cap', X, L, X', L', hp, hr, hl, hf, hq => by
    simp [F.len] at hr
  | .cons _ _ _ _ _, h, μ, ρ, Q, O, pre, pre', .nil, a, a', c, c', cap, cap', X, L, X', L', hp, hr, hl, hf, hq => by
    simp [F.len] at hr
  | .cons op args kk body rest, h, μ, ρ, Q, O, pre, pre', .cons op' args' kk' body' rest', a, a', c, c', cap, cap', X, L, X', L', hp, hr, hl, hf, hq => by
    obtain ⟨f1, f2, f3, f4, f5⟩ := hf
    simp only [F.len, Nat.add_right_cancel_iff] at hr
    have hlt : pre.len < (pre.app (.cons op args kk body rest)).len := app_lt
    refine r_slices_EqualFunc_sl_api_Stmt_sl_api_Stmt_api_Stmt_api_Stmt_4 ?_
    rw [ltI hlt]
    simp only [oB_some, bC_true, bC_false, vInt_int, vBool_bool, vStr_string, vPtr_pointer, vSl_slice, vMap_map, vFun_func, vAgg_agg, vTup_tuple, vIfc_nil, vIfc_iface, lC_cons, lN_nil, aP_some, shO_none, shO_some, Option.isNone_none, Option.isNone_some, Bool.not_true, Bool.not_false]
    refine st_copy O X L rfl rfl fun h1 μ1 ρ1 c1 aa ac ba bc O1 W1 hc1 F1 va la => ?_
    refine st_copy O1 (X'.keep F1) (L'.mono fun _ _ x => x.keep F1) (by rw [hp]) rfl fun h2 μ2 ρ2 c2 aa' ac' ba' bc' O2 W2 hc2 F2 va' la' => ?_
    have W := W1.adopt W2 hc2
    repeat (first | refine ⟨rfl, ?_⟩ | refine ⟨trivial, ?_⟩ | simp only [oB_some, bC_true, bC_false, vInt_int, vBool_bool, vStr_string, vPtr_pointer, vSl_slice, vMap_map, vFun_func, vAgg_agg, vTup_tuple, vIfc_nil, vIfc_iface, lC_cons, lN_nil, aP_some, shO_none, shO_some, Option.isNone_none, Option.isNone_some, Bool.not_true, Bool.not_false] | refine w_rd (by assumption) (by assumption) 0 (by rfl) (by rfl) ?_ | refine w_rd (by assumption) (by assumption) 1 (by rfl) (by rfl) ?_ | refine w_wrL (by assumption) (by assumption) 0 (by rfl) (Nat.le_of_ble_eq_true (by rfl)) (by rfl) fun h ρz O W => ?_ | refine w_wrL (by assumption) (by assumption) 1 (by rfl) (Nat.le_of_ble_eq_true (by rfl)) (by rfl) fun h ρz O W => ?_ | refine w_wr (by assumption) (by assumption) 0 (by rfl) (Nat.le_of_ble_eq_true (by rfl)) (by rfl) fun h ρz O W => ?_ | refine w_wr (by assumption) (by assumption) 1 (by rfl) (Nat.le_of_ble_eq_true (by rfl)) (by rfl) fun h ρz O W => ?_)
    have F12 := F1.trans F2
    refine same_fn1 O2 (va.keep F2) va' f1 (body := body) (body' := body') (fun {h3} {μ3} {ρ3} {Q3} O3 F3 hq3 => ?_) fun h3 μ3 ρ3 O3 F3 => ?_
    · refine r_action_Same (r_slices_EqualFunc_sl_api_Stmt_sl_api_Stmt_api_Stmt_api_Stmt ?_)
      refine bC_iff (fun e => ?_) (fun e => ?_)
      · have e : body.len ≠ body'.len := by simp at e; omega
        rw [F.eqB_len e] at hq3
        exact hq3.now O3
      · have e : body.len = body'.len := by simp at e; omega
        obtain ⟨d, v1, l1⟩ := (la.keep F2).keep F3
        obtain ⟨d', v1', l1'⟩ := la'.keep F3
        refine same_loop body (pre := .nil) (pre' := .nil) O3 v1 l1 v1' l1' rfl e f3 f4 fun h4 μ4 ρ4 O4 F4 => ?_
        simp only [oB_some, bC_true, bC_false, vInt_int, vBool_bool, vStr_string, vPtr_pointer, vSl_slice, vMap_map, vFun_func, vAgg_agg, vTup_tuple, vIfc_nil, vIfc_iface, lC_cons, lN_nil, aP_some, shO_none, shO_some, Option.isNone_none, Option.isNone_some, Bool.not_true, Bool.not_false]
        exact hq3 _ _ _ O4 F4
    · simp only [oB_some, bC_true, bC_false, vInt_int, vBool_bool, vStr_string, vPtr_pointer, vSl_slice, vMap_map, vFun_func, vAgg_agg, vTup_tuple, vIfc_nil, vIfc_iface, lC_cons, lN_nil, aP_some, shO_none, shO_some, Option.isNone_none, Option.isNone_some, Bool.not_true, Bool.not_false]
      refine bC_iff (fun e => ?_) (fun e => ?_)
      · have := hq _ _ _ O3 (F12.trans F3)
        have e : (decide (op = op') && decide (kk = kk') && decide (args = args') && F.eqB body body') = false := nb e
        simp only [F.eqB, e, Bool.false_and] at this
        exact this
      · have e : (decide (op = op') && decide (kk = kk') && decide (args = args') && F.eqB body body') = true := nb' e
        rw [wrapS (by omega)]
        have F13 := F12.trans F3
        have e3 : ∀ g : F, (pre.snoc op args kk body).app g = pre.app (.cons op args kk body g) := fun g => F.snoc_app pre op args kk body g
        have e4 : (pre.snoc op args kk body).len = pre.len + 1 := F.snoc_len pre op args kk body
        have e5 : ∀ g : F, (pre'.snoc op' args' kk' body').app g = pre'.app (.cons op' args' kk' body' g) := fun g => F.snoc_app pre' op' args' kk' body' g
        have e6 : (pre'.snoc op' args' kk' body').len = pre'.len + 1 := F.snoc_len pre' op' args' kk' body'
        have := same_loop rest (Q := Q) O3 (pre := pre.snoc op args kk body) (pre' := pre'.snoc op' args' kk' body') (rest' := rest') (cap := cap) (cap' := cap') (X.keep F13) (by rw [e3]; exact L.mono fun _ _ x => x.keep F13) (X'.keep F13) (by rw [e5]; exact L'.mono fun _ _ x => x.keep F13)
          (by rw [e4, e6, hp]) hr (by rw [e3]; exact hl) f5 (by
            have := hq.keep F13
            simp only [F.eqB, e, Bool.true_and] at this
            exact this)
        rw [e3, e4, e5] at this
        exact this
theorem same_ok (O : Own h μ ρ) {f g : F} {a b : Option Addr} {ca cb : Nat} (X : Ly ρ f a) (Y : Ly ρ g b) (hf : Fits f) (hl : f.len ≤ 140737488355328) (hq : RdQ Q ρ (.bool (F.eqB f g))) : EvQ P f_action_Same [.slice a f.len ca, .slice b g.len cb] h Q := by
  refine r_action_Same (r_slices_EqualFunc_sl_api_Stmt_sl_api_Stmt_api_Stmt_api_Stmt ?_)
  refine bC_iff (fun e => ?_) (fun e => ?_)
  · have e : f.len ≠ g.len := by simp at e; omega
    rw [F.eqB_len e] at hq
    exact hq.now O
  · have e : f.len = g.len := by simp at e; omega
    obtain ⟨d, v1, l1⟩ := X
    obtain ⟨d', v1', l1'⟩ := Y
    refine same_loop f (pre := .nil) (pre' := .nil) O v1 l1 v1' l1' rfl e hl hf fun h4 μ4 ρ4 O4 F4 => ?_
    simp only [oB_some, bC_true, bC_false, vInt_int, vBool_bool, vStr_string, vPtr_pointer, vSl_slice, vMap_map, vFun_func, vAgg_agg, vTup_tuple, vIfc_nil, vIfc_iface, lC_cons, lN_nil, aP_some, shO_none, shO_some, Option.isNone_none, Option.isNone_some, Bool.not_true, Bool.not_false]
    exact hq _ _ _ O4 F4
end Go.Proofs.YtamoepfiodgbbaaGreatDoor
end

section
/- Rules of walks, printed by a program of ours: group ALex. -/
namespace Go.Proofs.YtamoepfiodgbbaaGreatDoor
open Go.Abs
set_option maxRecDepth 100000
theorem r_p_strings_Builder_copyCheck {p1 : Option Addr} {h : AW} {Q : Value → AW → Prop} (H : aP p1 fun m2 m3 => oB (AW.rd h m2 m3) fun v4 => vPtr v4 fun p5 => bC (Option.isNone p5) (oP (convA P h ty_p_strings_Builder
  ty_unsafe_Pointer (Value.pointer p1)) fun v6 h7 => vPtr v6 fun p8 => EvQ P f_abi_NoEscape [Value.pointer p8] h7 fun v9 h10 => vPtr v9 fun p11 => oP (convA P h10 ty_unsafe_Pointer ty_p_strings_Builder (Value.pointer p11)) fun
  v12 h13 => vPtr v12 fun p14 => aP p1 fun m15 m16 => oB (AW.wr h13 m15 m16 (Value.pointer p14)) fun h17 => Q (Value.tuple (Array.mk [])) h17) (aP p1 fun m18 m19 => oB (AW.rd h m18
  m19) fun v20 => vPtr v20 fun p21 => oB (eqV P ty_p_strings_Builder false (Value.pointer p21) (Value.pointer p1)) fun b22 => bC (!b22) False (Q (Value.tuple (Array.mk [])) h))) : EvQ P f_p_strings_Builder_copyCheck
  [Value.pointer p1] h Q := fn_ok (n := 400) (ann := annOf []) (Eq.mp (by kernel_rfl) H)
theorem r_lex_Show {s1 : ByteArray} {h : AW} {Q : Value → AW → Prop} (H : EvQ P f_lex_Plain [Value.string s1] h fun v2 h3 => vBool v2 fun b4 => bC b4 (Q (Value.string s1) h3) (EvQ P f_lex_Quote
  [Value.string s1] h3 fun v5 h6 => vStr v5 fun s7 => Q (Value.string s7) h6)) : EvQ P f_lex_Show [Value.string s1] h Q := fn_ok (n := 400) (ann := annOf []) (Eq.mp (by kernel_rfl) H)
theorem r_brickyardref11_Show {s1 : ByteArray} {h : AW} {Q : Value → AW → Prop} (H : EvQ P f_brickyardref11_Plain [Value.string s1] h fun v2 h3 => vBool v2 fun b4 => bC b4 (Q (Value.string s1) h3) (EvQ P f_brickyardref11_Quote
  [Value.string s1] h3 fun v5 h6 => vStr v5 fun s7 => Q (Value.string s7) h6)) : EvQ P f_brickyardref11_Show [Value.string s1] h Q := fn_ok (n := 400) (ann := annOf []) (Eq.mp (by kernel_rfl) H)
theorem r_lex_Plain {s1 : ByteArray} {h : AW} {Q : Value → AW → Prop} (H : unitAt P f_lex_Plain 2 [0, 5, 6] [Value.string s1, Value.int IntKind.i64 (↑(ByteArray.size s1) : Int), Value.int
  IntKind.i64 0] h Q) : EvQ P f_lex_Plain [Value.string s1] h Q := fn_ok (n := 400) (ann := annOf [(2, [0, 5, 6])]) (Eq.mp (by kernel_rfl) H)
theorem r_lex_Plain_2 {s1 : ByteArray} {n2 : Int} {n3 : Int} {h : AW} {Q : Value → AW → Prop} (H : bC (decide (n3 < n2)) (oB (natIdx n3 (ByteArray.size s1)) fun m4 => oB (bAt s1 m4) fun
  n5 => EvQ P f_lex_bare [Value.int IntKind.u8 n5] h fun v6 h7 => vBool v6 fun b8 => bC (!b8) (Q (Value.bool false) h7) (unitAt P f_lex_Plain 2 [0, 5, 6] [Value.string s1, Value.int IntKind.i64
  n2, Value.int IntKind.i64 (IntKind.wrap IntKind.i64 (n3 + 1))] h7 Q)) (Q (Value.bool !bEq s1 (ByteArray.mk #[])) h)) : unitAt P f_lex_Plain 2 [0, 5, 6] [Value.string s1, Value.int
  IntKind.i64 n2, Value.int IntKind.i64 n3] h Q := unit_ok (n := 400) (ann := annOf [(2, [0, 5, 6])]) (Eq.mp (by kernel_rfl) H)
theorem r_lex_Quote {s1 : ByteArray} {h : AW} {Q : Value → AW → Prop} (H : EvQ P f_p_strings_Builder_WriteByte [Value.pointer (some (Addr.mk (AW.next h) 0 none)), Value.int IntKind.u8 34] (AW.tag (AW.addVar h
  [Value.pointer none, Value.slice none 0 0]) (AW.next h) ty_strings_Builder) fun v2 h3 => vIfc v2 (unitAt P f_lex_Quote 4 [0, 3, 8, 9] [Value.string s1, Value.pointer (some (Addr.mk (AW.next h) 0
  none)), Value.int IntKind.i64 (↑(ByteArray.size s1) : Int), Value.int IntKind.i64 0] h3 Q) fun m4 v5 => unitAt P f_lex_Quote 4 [0, 3, 8, 9] [Value.string s1, Value.pointer (some
  (Addr.mk (AW.next h) 0 none)), Value.int IntKind.i64 (↑(ByteArray.size s1) : Int), Value.int IntKind.i64 0] h3 Q) : EvQ P f_lex_Quote [Value.string s1] h Q := fn_ok (n := 400) (ann :=
  annOf [(4, [0, 3, 8, 9]), (14, [0, 3, 5, 8, 9]), (15, [0, 3, 5, 8, 9])]) (Eq.mp (by kernel_rfl) H)
theorem r_lex_Quote_4 {s1 : ByteArray} {m2 : Nat} {n3 : Int} {n4 : Int} {h : AW} {Q : Value → AW → Prop} (H : bC (decide (n4 < n3)) (oB (natIdx n4 (ByteArray.size s1)) fun m5 => oB (bAt
  s1 m5) fun n6 => bC (n6 == 10) (EvQ P f_p_strings_Builder_WriteString [Value.pointer (some (Addr.mk m2 0 none)), Value.string (ByteArray.mk #[92, 110])] h fun v7 h8 => vTup v7 fun l9 => lC l9 fun v10 l11
  => vInt IntKind.i64 v10 fun n12 => lC l11 fun v13 l14 => vIfc v13 (lN l14 (unitAt P f_lex_Quote 4 [0, 3, 8, 9] [Value.string s1, Value.pointer (some (Addr.mk m2 0 none)), Value.int
  IntKind.i64 n3, Value.int IntKind.i64 (IntKind.wrap IntKind.i64 (n4 + 1))] h8 Q)) fun m15 v16 => lN l14 (unitAt P f_lex_Quote 4 [0, 3, 8, 9] [Value.string s1, Value.pointer (some
  (Addr.mk m2 0 none)), Value.int IntKind.i64 n3, Value.int IntKind.i64 (IntKind.wrap IntKind.i64 (n4 + 1))] h8 Q)) (bC (n6 == 9) (EvQ P f_p_strings_Builder_WriteString [Value.pointer (some (Addr.mk m2 0
  none)), Value.string (ByteArray.mk #[92, 116])] h fun v17 h18 => vTup v17 fun l19 => lC l19 fun v20 l21 => vInt IntKind.i64 v20 fun n22 => lC l21 fun v23 l24 => vIfc v23 (lN l24
  (unitAt P f_lex_Quote 4 [0, 3, 8, 9] [Value.string s1, Value.pointer (some (Addr.mk m2 0 none)), Value.int IntKind.i64 n3, Value.int IntKind.i64 (IntKind.wrap IntKind.i64 (n4 + 1))] h18
  Q)) fun m25 v26 => lN l24 (unitAt P f_lex_Quote 4 [0, 3, 8, 9] [Value.string s1, Value.pointer (some (Addr.mk m2 0 none)), Value.int IntKind.i64 n3, Value.int IntKind.i64 (IntKind.wrap
  IntKind.i64 (n4 + 1))] h18 Q)) (bC (n6 == 34) (unitAt P f_lex_Quote 14 [0, 3, 5, 8, 9] [Value.string s1, Value.pointer (some (Addr.mk m2 0 none)), Value.int IntKind.u8 n6, Value.int
  IntKind.i64 n3, Value.int IntKind.i64 n4] h Q) (bC (n6 == 92) (unitAt P f_lex_Quote 14 [0, 3, 5, 8, 9] [Value.string s1, Value.pointer (some (Addr.mk m2 0 none)), Value.int IntKind.u8
  n6, Value.int IntKind.i64 n3, Value.int IntKind.i64 n4] h Q) (unitAt P f_lex_Quote 15 [0, 3, 5, 8, 9] [Value.string s1, Value.pointer (some (Addr.mk m2 0 none)), Value.int IntKind.u8
  n6, Value.int IntKind.i64 n3, Value.int IntKind.i64 n4] h Q))))) (EvQ P f_p_strings_Builder_WriteByte [Value.pointer (some (Addr.mk m2 0 none)), Value.int IntKind.u8 34] h fun v27 h28 => vIfc v27 (EvQ P
  f_p_strings_Builder_String [Value.pointer (some (Addr.mk m2 0 none))] h28 fun v29 h30 => vStr v29 fun s31 => Q (Value.string s31) h30) fun m32 v33 => EvQ P f_p_strings_Builder_String [Value.pointer (some (Addr.mk m2 0
  none))] h28 fun v34 h35 => vStr v34 fun s36 => Q (Value.string s36) h35)) : unitAt P f_lex_Quote 4 [0, 3, 8, 9] [Value.string s1, Value.pointer (some (Addr.mk m2 0 none)), Value.int
  IntKind.i64 n3, Value.int IntKind.i64 n4] h Q := unit_ok (n := 400) (ann := annOf [(4, [0, 3, 8, 9]), (14, [0, 3, 5, 8, 9]), (15, [0, 3, 5, 8, 9])]) (Eq.mp (by kernel_rfl) H)
theorem r_lex_Quote_14 {s1 : ByteArray} {m2 : Nat} {n3 : Int} {n4 : Int} {n5 : Int} {h : AW} {Q : Value → AW → Prop} (H : EvQ P f_p_strings_Builder_WriteByte [Value.pointer (some (Addr.mk m2 0 none)), Value.int
  IntKind.u8 92] h fun v6 h7 => vIfc v6 (unitAt P f_lex_Quote 15 [0, 3, 5, 8, 9] [Value.string s1, Value.pointer (some (Addr.mk m2 0 none)), Value.int IntKind.u8 n3, Value.int IntKind.i64
  n4, Value.int IntKind.i64 n5] h7 Q) fun m8 v9 => unitAt P f_lex_Quote 15 [0, 3, 5, 8, 9] [Value.string s1, Value.pointer (some (Addr.mk m2 0 none)), Value.int IntKind.u8 n3, Value.int
  IntKind.i64 n4, Value.int IntKind.i64 n5] h7 Q) : unitAt P f_lex_Quote 14 [0, 3, 5, 8, 9] [Value.string s1, Value.pointer (some (Addr.mk m2 0 none)), Value.int IntKind.u8 n3, Value.int
  IntKind.i64 n4, Value.int IntKind.i64 n5] h Q := unit_ok (n := 400) (ann := annOf [(4, [0, 3, 8, 9]), (14, [0, 3, 5, 8, 9]), (15, [0, 3, 5, 8, 9])]) (Eq.mp (by kernel_rfl) H)
theorem r_lex_Quote_15 {s1 : ByteArray} {m2 : Nat} {n3 : Int} {n4 : Int} {n5 : Int} {h : AW} {Q : Value → AW → Prop} (H : EvQ P f_p_strings_Builder_WriteByte [Value.pointer (some (Addr.mk m2 0 none)), Value.int
  IntKind.u8 n3] h fun v6 h7 => vIfc v6 (unitAt P f_lex_Quote 4 [0, 3, 8, 9] [Value.string s1, Value.pointer (some (Addr.mk m2 0 none)), Value.int IntKind.i64 n4, Value.int IntKind.i64
  (IntKind.wrap IntKind.i64 (n5 + 1))] h7 Q) fun m8 v9 => unitAt P f_lex_Quote 4 [0, 3, 8, 9] [Value.string s1, Value.pointer (some (Addr.mk m2 0 none)), Value.int IntKind.i64 n4,
  Value.int IntKind.i64 (IntKind.wrap IntKind.i64 (n5 + 1))] h7 Q) : unitAt P f_lex_Quote 15 [0, 3, 5, 8, 9] [Value.string s1, Value.pointer (some (Addr.mk m2 0 none)), Value.int
  IntKind.u8 n3, Value.int IntKind.i64 n4, Value.int IntKind.i64 n5] h Q := unit_ok (n := 400) (ann := annOf [(4, [0, 3, 8, 9]), (14, [0, 3, 5, 8, 9]), (15, [0, 3, 5, 8, 9])])
  (Eq.mp (by kernel_rfl) H)
theorem r_brickyardref11_Plain {s1 : ByteArray} {h : AW} {Q : Value → AW → Prop} (H : unitAt P f_brickyardref11_Plain 2 [0, 3] [Value.string s1, Value.int IntKind.i64 0] h Q) : EvQ P f_brickyardref11_Plain [Value.string s1] h Q :=
  fn_ok (n := 400) (ann := annOf [(2, [0, 3])]) (Eq.mp (by kernel_rfl) H)
theorem r_brickyardref11_Plain_2 {s1 : ByteArray} {n2 : Int} {h : AW} {Q : Value → AW → Prop} (H : bC (decide (n2 < (↑(ByteArray.size s1) : Int))) (oB (natIdx n2 (ByteArray.size s1)) fun m3 => oB
  (bAt s1 m3) fun n4 => EvQ P f_brickyardref11_Bare [Value.int IntKind.u8 n4] h fun v5 h6 => vBool v5 fun b7 => bC (!b7) (Q (Value.bool false) h6) (unitAt P f_brickyardref11_Plain 2 [0, 3] [Value.string s1,
  Value.int IntKind.i64 (IntKind.wrap IntKind.i64 (n2 + 1))] h6 Q)) (Q (Value.bool (decide ((↑(ByteArray.size s1) : Int) > 0))) h)) : unitAt P f_brickyardref11_Plain 2 [0, 3] [Value.string s1,
  Value.int IntKind.i64 n2] h Q := unit_ok (n := 400) (ann := annOf [(2, [0, 3])]) (Eq.mp (by kernel_rfl) H)
theorem r_brickyardref11_Quote {s1 : ByteArray} {h : AW} {Q : Value → AW → Prop} (H : unitAt P f_brickyardref11_Quote 3 [0, 3, 4] [Value.string s1, Value.slice (some (Addr.mk (AW.next h) 0 none)) 1 1, Value.int
  IntKind.i64 0] (AW.addVar h [Value.int IntKind.u8 34]) Q) : EvQ P f_brickyardref11_Quote [Value.string s1] h Q := fn_ok (n := 400) (ann := annOf [(3, [0, 3, 4]), (9, [0, 3, 4]), (10, [0, 3, 4,
  14])]) (Eq.mp (by kernel_rfl) H)
theorem r_brickyardref11_Quote_3 {s1 : ByteArray} {p2 : Option Addr} {m3 : Nat} {m4 : Nat} {n5 : Int} {h : AW} {Q : Value → AW → Prop} (H : bC (decide (n5 < (↑(ByteArray.size s1) : Int))) (oB
  (natIdx n5 (ByteArray.size s1)) fun m6 => oB (bAt s1 m6) fun n7 => bC (n7 == 34) (unitAt P f_brickyardref11_Quote 9 [0, 3, 4] [Value.string s1, Value.slice p2 m3 m4, Value.int IntKind.i64 n5] h Q)
  (bC (n7 == 92) (unitAt P f_brickyardref11_Quote 9 [0, 3, 4] [Value.string s1, Value.slice p2 m3 m4, Value.int IntKind.i64 n5] h Q) (unitAt P f_brickyardref11_Quote 10 [0, 3, 4, 14] [Value.string s1, Value.slice p2
  m3 m4, Value.int IntKind.i64 n5, Value.int IntKind.u8 n7] h Q))) (oP (appendB P (AW.addVar h [Value.int IntKind.u8 34]) (Array.mk [ty_sl_uint8, ty_sl_uint8]) [Value.slice p2 m3 m4,
  Value.slice (some (Addr.mk (AW.next h) 0 none)) 1 1]) fun v8 h9 => vSl v8 fun p10 m11 m12 => oB (AW.bytes h9 p10 m11) fun s13 => Q (Value.string s13) h9)) : unitAt P f_brickyardref11_Quote 3 [0,
  3, 4] [Value.string s1, Value.slice p2 m3 m4, Value.int IntKind.i64 n5] h Q := unit_ok (n := 400) (ann := annOf [(3, [0, 3, 4]), (9, [0, 3, 4]), (10, [0, 3, 4, 14])]) (Eq.mp (by
  kernel_rfl) H)
theorem r_brickyardref11_Quote_9 {s1 : ByteArray} {p2 : Option Addr} {m3 : Nat} {m4 : Nat} {n5 : Int} {h : AW} {Q : Value → AW → Prop} (H : oB (natIdx n5 (ByteArray.size s1)) fun m6 => oB (bAt s1
  m6) fun n7 => oP (appendB P (AW.addVar h [Value.int IntKind.u8 92, Value.int IntKind.u8 n7]) (Array.mk [ty_sl_uint8, ty_sl_uint8]) [Value.slice p2 m3 m4, Value.slice (some (Addr.mk (AW.next
  h) 0 none)) 2 2]) fun v8 h9 => vSl v8 fun p10 m11 m12 => unitAt P f_brickyardref11_Quote 3 [0, 3, 4] [Value.string s1, Value.slice p10 m11 m12, Value.int IntKind.i64 (IntKind.wrap IntKind.i64 (n5
  + 1))] h9 Q) : unitAt P f_brickyardref11_Quote 9 [0, 3, 4] [Value.string s1, Value.slice p2 m3 m4, Value.int IntKind.i64 n5] h Q := unit_ok (n := 400) (ann := annOf [(3, [0, 3, 4]), (9, [0, 3,
  4]), (10, [0, 3, 4, 14])]) (Eq.mp (by kernel_rfl) H)
theorem r_brickyardref11_Quote_10 {s1 : ByteArray} {p2 : Option Addr} {m3 : Nat} {m4 : Nat} {n5 : Int} {n6 : Int} {h : AW} {Q : Value → AW → Prop} (H : bC (n6 == 10) (oP (appendB P (AW.addVar h
  [Value.int IntKind.u8 92, Value.int IntKind.u8 110]) (Array.mk [ty_sl_uint8, ty_sl_uint8]) [Value.slice p2 m3 m4, Value.slice (some (Addr.mk (AW.next h) 0 none)) 2 2]) fun v7 h8 => vSl v7
  fun p9 m10 m11 => unitAt P f_brickyardref11_Quote 3 [0, 3, 4] [Value.string s1, Value.slice p9 m10 m11, Value.int IntKind.i64 (IntKind.wrap IntKind.i64 (n5 + 1))] h8 Q) (bC (n6 == 9) (oP (appendB
  P (AW.addVar h [Value.int IntKind.u8 92, Value.int IntKind.u8 116]) (Array.mk [ty_sl_uint8, ty_sl_uint8]) [Value.slice p2 m3 m4, Value.slice (some (Addr.mk (AW.next h) 0 none)) 2 2]) fun v12
  h13 => vSl v12 fun p14 m15 m16 => unitAt P f_brickyardref11_Quote 3 [0, 3, 4] [Value.string s1, Value.slice p14 m15 m16, Value.int IntKind.i64 (IntKind.wrap IntKind.i64 (n5 + 1))] h13 Q) (oB
  (natIdx n5 (ByteArray.size s1)) fun m17 => oB (bAt s1 m17) fun n18 => oP (appendB P (AW.addVar h [Value.int IntKind.u8 n18]) (Array.mk [ty_sl_uint8, ty_sl_uint8]) [Value.slice p2 m3 m4,
  Value.slice (some (Addr.mk (AW.next h) 0 none)) 1 1]) fun v19 h20 => vSl v19 fun p21 m22 m23 => unitAt P f_brickyardref11_Quote 3 [0, 3, 4] [Value.string s1, Value.slice p21 m22 m23, Value.int
  IntKind.i64 (IntKind.wrap IntKind.i64 (n5 + 1))] h20 Q))) : unitAt P f_brickyardref11_Quote 10 [0, 3, 4, 14] [Value.string s1, Value.slice p2 m3 m4, Value.int IntKind.i64 n5, Value.int IntKind.u8
  n6] h Q := unit_ok (n := 400) (ann := annOf [(3, [0, 3, 4]), (9, [0, 3, 4]), (10, [0, 3, 4, 14])]) (Eq.mp (by kernel_rfl) H)
theorem r_lex_bare {n1 : Int} {h : AW} {Q : Value → AW → Prop} (H : bC (n1 == 34) (Q (Value.bool false) h) (bC (n1 == 35) (Q (Value.bool false) h) (bC (n1 == 58) (Q (Value.bool false)
  h) (bC (n1 == 61) (Q (Value.bool false) h) (bC (n1 == 92) (Q (Value.bool false) h) (bC (decide (n1 > 32)) (Q (Value.bool (decide (n1 < 127))) h) (Q (Value.bool false) h))))))) :
  EvQ P f_lex_bare [Value.int IntKind.u8 n1] h Q := fn_ok (n := 400) (ann := annOf []) (Eq.mp (by kernel_rfl) H)
theorem r_brickyardref11_Bare {n1 : Int} {h : AW} {Q : Value → AW → Prop} (H : bC (decide (n1 ≥ 33)) (bC (decide (n1 ≤ 126)) (bC (n1 != 34) (bC (n1 != 35) (bC (n1 != 58) (bC (n1 != 61) (Q
  (Value.bool (n1 != 92)) h) (Q (Value.bool false) h)) (Q (Value.bool false) h)) (Q (Value.bool false) h)) (Q (Value.bool false) h)) (Q (Value.bool false) h)) (Q (Value.bool false)
  h)) : EvQ P f_brickyardref11_Bare [Value.int IntKind.u8 n1] h Q := fn_ok (n := 400) (ann := annOf []) (Eq.mp (by kernel_rfl) H)
theorem r_stringslite_IndexByte {s1 : ByteArray} {n2 : Int} {h : AW} {Q : Value → AW → Prop} (H : EvQ P f_bytealg_IndexByteString [Value.string s1, Value.int IntKind.u8 n2] h fun v3 h4 => vInt IntKind.i64 v3 fun n5
  => Q (Value.int IntKind.i64 n5) h4) : EvQ P f_stringslite_IndexByte [Value.string s1, Value.int IntKind.u8 n2] h Q := fn_ok (n := 400) (ann := annOf []) (Eq.mp (by kernel_rfl) H)
end Go.Proofs.YtamoepfiodgbbaaGreatDoor
end

section
/- Jobs: how great one is; paths; rows of texts. -/
namespace Go.Proofs.YtamoepfiodgbbaaGreatDoor
open Go.Abs Go.Abs.Fo
set_option maxRecDepth 100000
attribute [local irreducible] unitAt EvQ
variable {h : AW} {μ : Paint} {ρ0 ρ : Store} {Q : Value → AW → Prop} {ns : List Nat} {rs : List Res}
def WTail (Q : Value → AW → Prop) (h : AW) (a : Option Addr) (N cap : Nat) (most deep n : Int) (i : Nat) : Prop :=
  bC (decide (deep > 60)) (Q (.int .i64 most) h) (aP a fun m28 m29 => oB (natIdx (i : Int) N) fun m30 => oB (AW.rd h m28 (m29 + m30 * 4 + 3)) fun v31 => vSl v31 fun p32 m33 m34 =>
    EvQ P f_brickyardlaw15_weight [.slice p32 m33 m34, .int .i64 (IntKind.wrap .i64 (most - n)), .int .i64 (IntKind.wrap .i64 (deep + 1))] h fun v35 h36 => vInt .i64 v35 fun n37 =>
      unitAt P f_brickyardlaw15_weight 3 [0, 1, 2, 7, 8] [.slice a N cap, .int .i64 most, .int .i64 deep, .int .i64 (IntKind.wrap .i64 (n + n37)), .int .i64 (IntKind.wrap .i64 ((i : Int) + 1))] h36 Q)
theorem weight_words (O : Own h μ ρ) {pre rest body : F} {op kk : Int} {args : List Str} {a : Option Addr} {c : List Value} {cap : Nat} {most deep : Int} (X : Vw ρ [] a c) (L : Lies (Vw ρ []) (pre.app (.cons op args kk body rest)) c)
    (hm : most ≤ 262144) (hs : ∀ s, s ∈ args → s.size ≤ 140737488355328) (hal : args.length ≤ 140737488355328) {n0 : Int}
    (ht : ∀ n, 0 ≤ n → n ≤ 262144 + 140737488355329 → n = wA most args n0 → WTail Q h a (pre.app (.cons op args kk body rest)).len cap most deep n pre.len) :
    ∀ (d k : Nat) (n : Int), args.length - k = d → k ≤ args.length → 0 ≤ n → n ≤ 262144 + 140737488355329 → wA most (args.drop k) n = wA most args n0 →
      unitAt P f_brickyardlaw15_weight 7 [0, 1, 2, 7, 8, 9] [.slice a (pre.app (.cons op args kk body rest)).len cap, .int .i64 most, .int .i64 deep, .int .i64 n, .int .i64 (pre.len : Int), .int .i64 (k : Int)] h Q := by
  intro d
  induction d with
  | zero =>
    intro k n hd hk h0 h1 he
    have : k = args.length := by omega
    subst this
    rw [List.drop_length] at he
    refine r_brickyardlaw15_weight_7 ?_
    refine st_open O X L rfl rfl fun i off aa ac ba bc va la SA => ?_
    refine oB_bind (SA O Fra.refl).r1 ?_
    simp only [oB_some, bC_true, bC_false, vInt_int, vBool_bool, vStr_string, vPtr_pointer, vSl_slice, vMap_map, vFun_func, vAgg_agg, vTup_tuple, vIfc_nil, vIfc_iface, lC_cons, lN_nil, aP_some, shO_none, shO_some, Option.isNone_none, Option.isNone_some, Bool.not_true, Bool.not_false]
    rw [geI (Nat.le_refl _)]
    simp only [oB_some, bC_true, bC_false, vInt_int, vBool_bool, vStr_string, vPtr_pointer, vSl_slice, vMap_map, vFun_func, vAgg_agg, vTup_tuple, vIfc_nil, vIfc_iface, lC_cons, lN_nil, aP_some, shO_none, shO_some, Option.isNone_none, Option.isNone_some, Bool.not_true, Bool.not_false]
    exact ht n h0 h1 he
  | succ d ih =>
    intro k n hd hk h0 h1 he
    have hkl : k < args.length := by omega
    refine r_brickyardlaw15_weight_7 ?_
    refine st_open O X L rfl rfl fun i off aa ac ba bc va la SA => ?_
    refine oB_bind (SA O Fra.refl).r1 ?_
    simp only [oB_some, bC_true, bC_false, vInt_int, vBool_bool, vStr_string, vPtr_pointer, vSl_slice, vMap_map, vFun_func, vAgg_agg, vTup_tuple, vIfc_nil, vIfc_iface, lC_cons, lN_nil, aP_some, shO_none, shO_some, Option.isNone_none, Option.isNone_some, Bool.not_true, Bool.not_false]
    rw [ltI hkl]
    simp only [oB_some, bC_true, bC_false, vInt_int, vBool_bool, vStr_string, vPtr_pointer, vSl_slice, vMap_map, vFun_func, vAgg_agg, vTup_tuple, vIfc_nil, vIfc_iface, lC_cons, lN_nil, aP_some, shO_none, shO_some, Option.isNone_none, Option.isNone_some, Bool.not_true, Bool.not_false]
    rw [List.drop_eq_getElem_cons hkl, wA] at he
    refine bC_iff (fun e => ?_) (fun e => ?_)
    · have e : n < most := of_decide_eq_true e
      rw [if_pos e] at he
      refine st_open O X L rfl rfl fun i off aa ac ba bc va la SA => ?_
      refine oB_bind (SA O Fra.refl).r1 ?_
      simp only [oB_some, bC_true, bC_false, vInt_int, vBool_bool, vStr_string, vPtr_pointer, vSl_slice, vMap_map, vFun_func, vAgg_agg, vTup_tuple, vIfc_nil, vIfc_iface, lC_cons, lN_nil, aP_some, shO_none, shO_some, Option.isNone_none, Option.isNone_some, Bool.not_true, Bool.not_false]
      refine wd_at O va rfl rfl hkl ?_
      have hz := hs args[k] (List.getElem_mem hkl)
      rw [wrap_small (n := 1 + (args[k].size : Int)) (by omega) (by omega), wrap_small (n := n + (1 + (args[k].size : Int))) (by omega) (by omega), wrapS (by omega)]
      exact ih (k + 1) _ (by omega) (by omega) (by omega) (by omega) he
    · have e : ¬ n < most := of_decide_eq_false e
      rw [if_neg e] at he
      exact ht n h0 h1 he
theorem weight_loop (O : Own h μ ρ) : ∀ (rest : F) {Q : Value → AW → Prop} {pre : F} {a : Option Addr} {c : List Value} {cap : Nat} {most n : Int} {e : Nat}, Vw ρ [] a c → Lies (Vw ρ []) (pre.app rest) c → most ≤ 262144 → e ≤ 61 → Fits rest → 0 ≤ n → n ≤ 99 * 281474976710656 → (pre.app rest).len ≤ 140737488355328 →
    Q (.int .i64 (wt rest most (61 - e : Int) n)) h → unitAt P f_brickyardlaw15_weight 3 [0, 1, 2, 7, 8] [.slice a (pre.app rest).len cap, .int .i64 most, .int .i64 (61 - e : Int), .int .i64 n, .int .i64 (pre.len : Int)] h Q
  | .nil, Q, pre, a, c, cap, most, n, e, X, L, hm, he, hf, h0, h1, hl, hq => by
    refine r_brickyardlaw15_weight_3 ?_
    rw [F.app_nil, geI (Nat.le_refl _)]
    simp only [oB_some, bC_true, bC_false, vInt_int, vBool_bool, vStr_string, vPtr_pointer, vSl_slice, vMap_map, vFun_func, vAgg_agg, vTup_tuple, vIfc_nil, vIfc_iface, lC_cons, lN_nil, aP_some, shO_none, shO_some, Option.isNone_none, Option.isNone_some, Bool.not_true, Bool.not_false]
    exact hq
  | .cons op args kk body rest, Q, pre, a, c, cap, most, n, e, X, L, hm, he, hf, h0, h1, hl, hq => by
    have hlt : pre.len < (pre.app (.cons op args kk body rest)).len := app_lt
    obtain ⟨f1, f2, f3, f4, f5⟩ := hf
    refine r_brickyardlaw15_weight_3 ?_
    rw [ltI hlt]
    simp only [oB_some, bC_true, bC_false, vInt_int, vBool_bool, vStr_string, vPtr_pointer, vSl_slice, vMap_map, vFun_func, vAgg_agg, vTup_tuple, vIfc_nil, vIfc_iface, lC_cons, lN_nil, aP_some, shO_none, shO_some, Option.isNone_none, Option.isNone_some, Bool.not_true, Bool.not_false]
    rw [wt] at hq
    refine bC_iff (fun e1 => ?_) (fun e1 => ?_)
    · have e1 : n < most := of_decide_eq_true e1
      rw [if_pos e1] at hq
      rw [wrap_small (n := n + 1) (by omega) (by omega)]
      refine weight_words O X L hm f2 f1 (n0 := n + 1) (fun n2 g0 g1 g2 => ?_) _ 0 (n + 1) rfl (by omega) (by omega) (by omega) rfl
      subst g2
      unfold WTail
      refine bC_iff (fun e2 => ?_) (fun e2 => ?_)
      · rw [if_pos (of_decide_eq_true e2)] at hq
        exact hq
      · have e2 := of_decide_eq_false e2
        rw [if_neg e2] at hq
        obtain ⟨e', rfl⟩ : ∃ e', e = e' + 1 := ⟨e - 1, by omega⟩
        have hdd : (61 - ((e' + 1 : Nat) : Int) + 1 : Int) = (61 - e' : Int) := by omega
        refine st_open O X L rfl rfl fun i off aa ac ba bc va la SA => ?_
        refine oB_bind (SA O Fra.refl).r3 ?_
        simp only [oB_some, bC_true, bC_false, vInt_int, vBool_bool, vStr_string, vPtr_pointer, vSl_slice, vMap_map, vFun_func, vAgg_agg, vTup_tuple, vIfc_nil, vIfc_iface, lC_cons, lN_nil, aP_some, shO_none, shO_some, Option.isNone_none, Option.isNone_some, Bool.not_true, Bool.not_false]
        obtain ⟨bcells, v2, v3⟩ := la
        rw [wrap_small (n := 61 - ((e' + 1 : Nat) : Int) + 1) (by omega) (by omega), hdd, wrap_mid (n := most - wA most args (n + 1)) (by omega) (by omega)]
        rw [hdd] at hq
        refine r_brickyardlaw15_weight ?_
        have hb := wt_le (f := body) (most := most - wA most args (n + 1)) (n := 0) (e := e') (by omega) f4 (by omega) (by omega)
        refine weight_loop O body (pre := .nil) v2 v3 (by omega) (by omega) f4 (by omega) (by omega) f3 ?_
        simp only [oB_some, bC_true, bC_false, vInt_int, vBool_bool, vStr_string, vPtr_pointer, vSl_slice, vMap_map, vFun_func, vAgg_agg, vTup_tuple, vIfc_nil, vIfc_iface, lC_cons, lN_nil, aP_some, shO_none, shO_some, Option.isNone_none, Option.isNone_some, Bool.not_true, Bool.not_false]
        have hbb : wt body (most - wA most args (n + 1)) (61 - e') 0 ≤ 62 * 281474976710656 := by
          rcases hb.2 with x | x <;> omega
        rw [wrap_small (n := wA most args (n + 1) + wt body (most - wA most args (n + 1)) (61 - e') 0) (by omega) (by omega), wrapS (by omega)]
        have e3 : ∀ g : F, (pre.snoc op args kk body).app g = pre.app (.cons op args kk body g) := fun g => F.snoc_app pre op args kk body g
        have e4 : (pre.snoc op args kk body).len = pre.len + 1 := F.snoc_len pre op args kk body
        have := weight_loop O rest (Q := Q) (pre := pre.snoc op args kk body) (a := a) (c := c) (cap := cap) (most := most) (n := wA most args (n + 1) + wt body (most - wA most args (n + 1)) (61 - e') 0) (e := e' + 1) X (by rw [e3]; exact L) hm he f5 (by omega) (by omega) (by rw [e3]; exact hl) hq
        rw [e3, e4] at this
        exact this
    · rw [if_neg (of_decide_eq_false e1)] at hq
      exact hq
/-- A byte's first place. -/
theorem idxB_spec (c : UInt8) : ∀ l : List UInt8, (idxB l c = -1 ∧ c ∉ l) ∨ ∃ x y, l = x ++ c :: y ∧ c ∉ x ∧ idxB l c = (x.length : Int)
  | [] => .inl ⟨rfl, by simp⟩
  | b :: l => by
    by_cases e : b = c
    · subst e
      exact .inr ⟨[], l, rfl, by simp, by simp [idxB]⟩
    · have e1 : (b == c) = false := beq_eq_false_iff_ne.2 e
      rcases idxB_spec c l with ⟨h1, h2⟩ | ⟨x, y, h1, h2, h3⟩
      · refine .inl ⟨?_, fun hm => ?_⟩
        · rw [idxB, e1, h1]; rfl
        · rcases List.mem_cons.1 hm with a | a
          · exact e a.symm
          · exact h2 a
      · refine .inr ⟨b :: x, y, by rw [h1]; rfl, fun hm => ?_, ?_⟩
        · rcases List.mem_cons.1 hm with a | a
          · exact e a.symm
          · exact h2 a
        · rw [idxB, e1, h3]
          have : ((x.length : Int) == -1) = false := by rw [beq_eq_false_iff_ne]; omega
          rw [this]
          simp
theorem idx_fn : idxFn P f_bytealg_IndexByteString = true := by kernel_rfl
theorem idx_body : bodyOf P f_bytealg_IndexByteString = none := by kernel_rfl
theorem byteIdx_ok {s : Str} {c : Int} (hq : Q (.int .i64 (idxB s.data.toList c.toNat.toUInt8)) h) : EvQ P f_stringslite_IndexByte [.string s, .int .u8 c] h Q := by
  refine r_stringslite_IndexByte ?_
  unfold EvQ
  refine ⟨.int .i64 (idxB s.data.toList c.toNat.toUInt8), h, ⟨1, ?_⟩, hq⟩
  unfold callF
  rw [idx_body]
  simp only
  unfold noBodyV
  simp only
  unfold sameV
  simp only
  rw [idx_fn]
/-- One byte looked for. -/
theorem index1_ok {s : Str} (c : UInt8) (hq : Q (.int .i64 (idxB s.data.toList c)) h) : EvQ P f_stringslite_Index [.string s, .string ⟨#[c]⟩] h Q := by
  refine r_stringslite_Index ?_
  rw [show (((⟨#[c]⟩ : ByteArray).size : Int) == 0) = false from rfl]
  simp only [oB_some, bC_true, bC_false, vInt_int, vBool_bool, vStr_string, vPtr_pointer, vSl_slice, vMap_map, vFun_func, vAgg_agg, vTup_tuple, vIfc_nil, vIfc_iface, lC_cons, lN_nil, aP_some, shO_none, shO_some, Option.isNone_none, Option.isNone_some, Bool.not_true, Bool.not_false]
  refine bC_iff (fun e => ?_) (fun e => ?_)
  · have e := bEq_iff.1 e
    subst e
    rw [show idxB (⟨#[c]⟩ : ByteArray).data.toList c = 0 from by simp [idxB]] at hq
    exact hq
  · rw [show (((⟨#[c]⟩ : ByteArray).size : Int) == 1) = true from rfl]
    simp only [oB_some, bC_true, bC_false, vInt_int, vBool_bool, vStr_string, vPtr_pointer, vSl_slice, vMap_map, vFun_func, vAgg_agg, vTup_tuple, vIfc_nil, vIfc_iface, lC_cons, lN_nil, aP_some, shO_none, shO_some, Option.isNone_none, Option.isNone_some, Bool.not_true, Bool.not_false]
    refine oB_bind (v := 0) rfl ?_
    refine oB_bind (v := (c.toNat : Int)) rfl ?_
    refine byteIdx_ok ?_
    simp only [oB_some, bC_true, bC_false, vInt_int, vBool_bool, vStr_string, vPtr_pointer, vSl_slice, vMap_map, vFun_func, vAgg_agg, vTup_tuple, vIfc_nil, vIfc_iface, lC_cons, lN_nil, aP_some, shO_none, shO_some, Option.isNone_none, Option.isNone_some, Bool.not_true, Bool.not_false]
    have : ((c.toNat : Int)).toNat.toUInt8 = c := by
      rw [Int.toNat_natCast]
      apply UInt8.toNat_inj.1
      have := c.toNat_lt
      simp [Nat.toUInt8]
    rw [this]
    exact hq
theorem pathByte {n : Nat} (hq : ∀ b : Bool, (b = true → bareN n = true ∧ n ≠ 58) → Q (.bool b) h) : EvQ P f_path_may [.int .u8 (n : Int)] h Q := by
  refine r_path_may ?_
  have yes : (97 ≤ n ∧ n ≤ 122 ∨ 48 ≤ n ∧ n ≤ 57 ∨ n = 95 ∨ n = 46 ∨ n = 45) → Q (.bool true) h := fun hh => hq true fun _ => by
    refine ⟨?_, by omega⟩
    unfold bareN
    simp only [Bool.and_eq_true, decide_eq_true_eq, Bool.not_eq_true', beq_eq_false_iff_ne, ne_eq]
    omega
  have no : Q (.bool false) h := hq false fun e => by cases e
  have last : bC (((n : Int) == 95)) (Q (.bool true) h) (bC ((n : Int) == 46) (Q (.bool true) h) (bC ((n : Int) == 45) (Q (.bool true) h) (Q (.bool false) h))) := by
    refine bC_iff (fun e => ?_) (fun _ => bC_iff (fun e => ?_) (fun _ => bC_iff (fun e => ?_) (fun _ => no)))
    all_goals
      have e := eq_of_beq e
      exact yes (by omega)
  refine bC_iff (fun e1 => bC_iff (fun e2 => ?_) (fun _ => ?_)) (fun _ => ?_)
  · have e1 := of_decide_eq_true e1
    have e2 := of_decide_eq_true e2
    exact yes (by omega)
  all_goals
    refine bC_iff (fun e1 => bC_iff (fun e2 => ?_) (fun _ => last)) (fun _ => last)
    have e1 := of_decide_eq_true e1
    have e2 := of_decide_eq_true e2
    exact yes (by omega)
theorem bAt_of1 {s : Str} {k : Nat} (hk : k < s.size) : bAt s k = some ((s.data.toList[k]'hk).toNat : Int) := by
  unfold bAt
  rw [Array.getElem?_eq_getElem (by exact hk)]
  simp
theorem segment_loop {s : Str} (hs : s.size ≤ 32) (hq : ∀ b : Bool, (b = true → ∀ c, c ∈ s.data.toList → bareN c.toNat = true ∧ c ≠ 58) → Q (.bool b) h) :
    ∀ (d k : Nat), s.size - k = d → k ≤ s.size → (∀ j (hj : j < s.data.toList.length), j < k → bareN (s.data.toList[j]).toNat = true ∧ s.data.toList[j] ≠ 58) →
      unitAt P f_path_segment 4 [0, 20, 21] [.string s, .int .i64 (s.size : Int), .int .i64 (k : Int)] h Q := by
  intro d
  induction d with
  | zero =>
    intro k hd hk hp
    refine r_path_segment_4 ?_
    rw [geI (by omega)]
    simp only [oB_some, bC_true, bC_false, vInt_int, vBool_bool, vStr_string, vPtr_pointer, vSl_slice, vMap_map, vFun_func, vAgg_agg, vTup_tuple, vIfc_nil, vIfc_iface, lC_cons, lN_nil, aP_some, shO_none, shO_some, Option.isNone_none, Option.isNone_some, Bool.not_true, Bool.not_false]
    refine hq true fun _ c hc => ?_
    obtain ⟨j, hj, rfl⟩ := List.getElem_of_mem hc
    exact hp j hj (by have : s.data.toList.length = s.size := rfl; omega)
  | succ d ih =>
    intro k hd hk hp
    have hlt : k < s.size := by omega
    refine r_path_segment_4 ?_
    rw [ltI hlt]
    simp only [oB_some, bC_true, bC_false, vInt_int, vBool_bool, vStr_string, vPtr_pointer, vSl_slice, vMap_map, vFun_func, vAgg_agg, vTup_tuple, vIfc_nil, vIfc_iface, lC_cons, lN_nil, aP_some, shO_none, shO_some, Option.isNone_none, Option.isNone_some, Bool.not_true, Bool.not_false]
    refine oB_bind (natIdx_eq hlt) ?_
    refine oB_bind (bAt_of1 hlt) ?_
    refine pathByte fun b hb => ?_
    simp only [oB_some, bC_true, bC_false, vInt_int, vBool_bool, vStr_string, vPtr_pointer, vSl_slice, vMap_map, vFun_func, vAgg_agg, vTup_tuple, vIfc_nil, vIfc_iface, lC_cons, lN_nil, aP_some, shO_none, shO_some, Option.isNone_none, Option.isNone_some, Bool.not_true, Bool.not_false]
    cases b with
    | false => exact hq false fun e => by cases e
    | true =>
      simp only [oB_some, bC_true, bC_false, vInt_int, vBool_bool, vStr_string, vPtr_pointer, vSl_slice, vMap_map, vFun_func, vAgg_agg, vTup_tuple, vIfc_nil, vIfc_iface, lC_cons, lN_nil, aP_some, shO_none, shO_some, Option.isNone_none, Option.isNone_some, Bool.not_true, Bool.not_false]
      rw [wrapS (by omega)]
      obtain ⟨g1, g2⟩ := hb rfl
      refine ih (k + 1) (by omega) (by omega) fun j hj hlt2 => ?_
      by_cases e : j = k
      · subst e
        exact ⟨g1, fun x => g2 (by rw [x]; rfl)⟩
      · exact hp j hj (by omega)
theorem segment_ok {s : Str} (hq : ∀ b : Bool, (b = true → PathOk s) → Q (.bool b) h) : EvQ P f_path_segment [.string s] h Q := by
  refine r_path_segment ?_
  have no : Q (.bool false) h := hq false fun e => by cases e
  refine bC_iff (fun _ => no) (fun e0 => bC_iff (fun _ => no) (fun e1 => bC_iff (fun _ => no) (fun _ => bC_iff (fun _ => no) (fun _ => ?_))))
  have e1 := of_decide_eq_false e1
  refine segment_loop (by omega) (fun b hb => hq b fun e => ⟨fun x => ?_, hb e⟩) _ 0 rfl (Nat.zero_le _) fun j _ hj => by omega
  have := bEq_false.1 e0
  exact this (ByteArray.ext (Array.toList_inj.1 x))
theorem is_loop : ∀ (n : Nat) {s : Str} {Q : Value → AW → Prop}, s.size ≤ n → s.size ≤ 100 → (∀ b : Bool, (b = true → PathOk s) → Q (.bool b) h) → unitAt P f_path_Is 3 [0] [.string s] h Q := by
  intro n
  induction n with
  | zero =>
    intro s Q hn hs hq
    refine r_path_Is_3 (r_strings_Cut (r_stringslite_Cut (index1_ok 47 ?_)))
    have h0 : s.data.toList = [] := List.length_eq_zero_iff.1 (show s.data.toList.length = 0 from Nat.le_zero.1 hn)
    simp only [oB_some, bC_true, bC_false, vInt_int, vBool_bool, vStr_string, vPtr_pointer, vSl_slice, vMap_map, vFun_func, vAgg_agg, vTup_tuple, vIfc_nil, vIfc_iface, lC_cons, lN_nil, aP_some, shO_none, shO_some, Option.isNone_none, Option.isNone_some, Bool.not_true, Bool.not_false]
    rw [h0]
    rw [show decide ((idxB [] 47) ≥ 0) = false from rfl]
    refine segment_ok fun b hb => ?_
    cases b with
    | false => exact hq false fun e => by cases e
    | true => exact hq true hb
  | succ n ih =>
    intro s Q hn hs hq
    refine r_path_Is_3 (r_strings_Cut (r_stringslite_Cut (index1_ok 47 ?_)))
    simp only [oB_some, bC_true, bC_false, vInt_int, vBool_bool, vStr_string, vPtr_pointer, vSl_slice, vMap_map, vFun_func, vAgg_agg, vTup_tuple, vIfc_nil, vIfc_iface, lC_cons, lN_nil, aP_some, shO_none, shO_some, Option.isNone_none, Option.isNone_some, Bool.not_true, Bool.not_false]
    rcases idxB_spec 47 s.data.toList with ⟨h1, h2⟩ | ⟨x, y, h1, h2, h3⟩
    · rw [h1]
      rw [show decide ((-1 : Int) ≥ 0) = false from rfl]
      refine segment_ok fun b hb => ?_
      cases b with
      | false => exact hq false fun e => by cases e
      | true => exact hq true hb
    · have hl : s.size = x.length + 1 + y.length := by
        have : s.size = s.data.toList.length := rfl
        rw [this, h1]; simp; omega
      rw [h3, show decide ((x.length : Int) ≥ 0) = true from decide_eq_true (by omega)]
      simp only [oB_some, bC_true, bC_false, vInt_int, vBool_bool, vStr_string, vPtr_pointer, vSl_slice, vMap_map, vFun_func, vAgg_agg, vTup_tuple, vIfc_nil, vIfc_iface, lC_cons, lN_nil, aP_some, shO_none, shO_some, Option.isNone_none, Option.isNone_some, Bool.not_true, Bool.not_false]
      refine oB_bind (natBnd_eq (by omega)) ?_
      rw [show (((⟨#[47]⟩ : ByteArray).size : Nat) : Int) = 1 from rfl, wrapS (by omega)]
      refine oB_bind (natBnd_eq (by omega)) ?_
      have b1 : (bSub s 0 x.length).data.toList = x := by unfold bSub; simp [h1]
      have b2 : (bSub s (x.length + 1) s.size).data.toList = y := by
        unfold bSub
        rw [hl, h1]
        simp
      refine segment_ok fun b hb => ?_
      simp only [oB_some, bC_true, bC_false, vInt_int, vBool_bool, vStr_string, vPtr_pointer, vSl_slice, vMap_map, vFun_func, vAgg_agg, vTup_tuple, vIfc_nil, vIfc_iface, lC_cons, lN_nil, aP_some, shO_none, shO_some, Option.isNone_none, Option.isNone_some, Bool.not_true, Bool.not_false]
      cases b with
      | false => exact hq false fun e => by cases e
      | true =>
        have sz : (bSub s (x.length + 1) s.size).size = y.length := by
          have : (bSub s (x.length + 1) s.size).size = (bSub s (x.length + 1) s.size).data.toList.length := rfl
          rw [this, b2]
        refine ih (by omega) (by omega) fun b hb2 => hq b fun e => ?_
        obtain ⟨a1, a2⟩ := hb rfl
        obtain ⟨c1, c2⟩ := hb2 e
        rw [b1] at a1 a2
        rw [b2] at c1 c2
        refine ⟨by rw [h1]; simp, fun c hc => ?_⟩
        rw [h1] at hc
        rcases List.mem_append.1 hc with z | z
        · exact a2 c z
        · rcases List.mem_cons.1 z with z | z
          · subst z; exact ⟨rfl, by decide⟩
          · exact c2 c z
theorem is_ok {s : Str} (hq : ∀ b : Bool, (b = true → PathOk s) → Q (.bool b) h) : EvQ P f_path_Is [.string s] h Q := by
  refine r_path_Is ?_
  refine bC_iff (fun _ => hq false fun e => by cases e) (fun e => ?_)
  have e := of_decide_eq_false e
  exact is_loop s.size (Nat.le_refl _) (by omega) hq
theorem paths_loop {a : Option Addr} {x : List Str} {cap : Nat} (O : Own h μ ρ) (X : Vw ρ [] a (strs x)) (hx : x.length ≤ 1000000000) (hq : ∀ b : Bool, (b = true → ∀ s, s ∈ x → PathOk s) → Q (.bool b) h) :
    ∀ (d k : Nat), x.length - k = d → k ≤ x.length → (∀ j (hj : j < x.length), j < k → PathOk x[j]) → unitAt P f_brickyardlaw15_paths 2 [0, 3] [.slice a x.length cap, .int .i64 (k : Int)] h Q := by
  intro d
  induction d with
  | zero =>
    intro k hd hk hp
    refine r_brickyardlaw15_paths_2 ?_
    rw [geI (by omega)]
    simp only [oB_some, bC_true, bC_false, vInt_int, vBool_bool, vStr_string, vPtr_pointer, vSl_slice, vMap_map, vFun_func, vAgg_agg, vTup_tuple, vIfc_nil, vIfc_iface, lC_cons, lN_nil, aP_some, shO_none, shO_some, Option.isNone_none, Option.isNone_some, Bool.not_true, Bool.not_false]
    refine hq true fun _ s hs => ?_
    obtain ⟨j, hj, rfl⟩ := List.getElem_of_mem hs
    exact hp j hj (by omega)
  | succ d ih =>
    intro k hd hk hp
    have hlt : k < x.length := by omega
    refine r_brickyardlaw15_paths_2 ?_
    rw [ltI hlt]
    simp only [oB_some, bC_true, bC_false, vInt_int, vBool_bool, vStr_string, vPtr_pointer, vSl_slice, vMap_map, vFun_func, vAgg_agg, vTup_tuple, vIfc_nil, vIfc_iface, lC_cons, lN_nil, aP_some, shO_none, shO_some, Option.isNone_none, Option.isNone_some, Bool.not_true, Bool.not_false]
    refine wd_at O X rfl rfl hlt ?_
    refine is_ok fun b hb => ?_
    simp only [oB_some, bC_true, bC_false, vInt_int, vBool_bool, vStr_string, vPtr_pointer, vSl_slice, vMap_map, vFun_func, vAgg_agg, vTup_tuple, vIfc_nil, vIfc_iface, lC_cons, lN_nil, aP_some, shO_none, shO_some, Option.isNone_none, Option.isNone_some, Bool.not_true, Bool.not_false]
    cases b with
    | false => exact hq false fun e => by cases e
    | true =>
      simp only [oB_some, bC_true, bC_false, vInt_int, vBool_bool, vStr_string, vPtr_pointer, vSl_slice, vMap_map, vFun_func, vAgg_agg, vTup_tuple, vIfc_nil, vIfc_iface, lC_cons, lN_nil, aP_some, shO_none, shO_some, Option.isNone_none, Option.isNone_some, Bool.not_true, Bool.not_false]
      rw [wrapS (by omega)]
      refine ih (k + 1) (by omega) (by omega) fun j hj hlt2 => ?_
      by_cases e : j = k
      · subst e; exact hb rfl
      · exact hp j hj (by omega)
theorem paths_ok {a : Option Addr} {x : List Str} {cap : Nat} (O : Own h μ ρ) (X : Vw ρ [] a (strs x)) (hx : x.length ≤ 1000000000) (hq : ∀ b : Bool, (b = true → ∀ s, s ∈ x → PathOk s) → Q (.bool b) h) : EvQ P f_brickyardlaw15_paths [.slice a x.length cap] h Q := by
  refine r_brickyardlaw15_paths ?_
  exact paths_loop O X hx hq _ 0 rfl (Nat.zero_le _) fun j _ hj => by omega
theorem texts_loop {a b : Option Addr} {x y : List Str} {c d : Nat} (O : Own h μ ρ) (X : Vw ρ [] a (strs x)) (Y : Vw ρ [] b (strs y)) (hl : x.length = y.length) (hx : x.length ≤ 1000000000) (hq : Q (.bool (decide (x = y))) h) :
    ∀ (m k : Nat), x.length - k = m → k ≤ x.length → x.take k = y.take k → unitAt P f_brickyardref15_Texts 4 [0, 1, 5] [.slice a x.length c, .slice b y.length d, .int .i64 (k : Int)] h Q := by
  intro m
  induction m with
  | zero =>
    intro k hd hk hp
    have : k = x.length := by omega
    subst this
    refine r_brickyardref15_Texts_4 ?_
    rw [geI (by omega)]
    simp only [oB_some, bC_true, bC_false, vInt_int, vBool_bool, vStr_string, vPtr_pointer, vSl_slice, vMap_map, vFun_func, vAgg_agg, vTup_tuple, vIfc_nil, vIfc_iface, lC_cons, lN_nil, aP_some, shO_none, shO_some, Option.isNone_none, Option.isNone_some, Bool.not_true, Bool.not_false]
    rw [List.take_length, hl, List.take_length] at hp
    rw [decide_eq_true hp] at hq
    exact hq
  | succ m ih =>
    intro k hd hk hp
    have hlt : k < x.length := by omega
    refine r_brickyardref15_Texts_4 ?_
    rw [ltI hlt]
    simp only [oB_some, bC_true, bC_false, vInt_int, vBool_bool, vStr_string, vPtr_pointer, vSl_slice, vMap_map, vFun_func, vAgg_agg, vTup_tuple, vIfc_nil, vIfc_iface, lC_cons, lN_nil, aP_some, shO_none, shO_some, Option.isNone_none, Option.isNone_some, Bool.not_true, Bool.not_false]
    refine wd_at O X rfl rfl hlt ?_
    refine wd_at O Y rfl rfl (show k < y.length from hl ▸ hlt) ?_
    refine bC_iff (fun e => ?_) (fun e => ?_)
    · rw [decide_eq_false] at hq
      · exact hq
      · intro e2
        subst e2
        rw [show bEq x[k] x[k] = true from bEq_self] at e
        cases e
    · have e : bEq x[k] (y[k]'(hl ▸ hlt)) = true := by simpa using e
      rw [wrapS (by omega)]
      refine ih (k + 1) (by omega) (by omega) ?_
      rw [List.take_succ_eq_append_getElem hlt, List.take_succ_eq_append_getElem (hl ▸ hlt), hp, bEq_iff.1 e]
theorem texts_ok {a b : Option Addr} {x y : List Str} {c d : Nat} (O : Own h μ ρ) (X : Vw ρ [] a (strs x)) (Y : Vw ρ [] b (strs y)) (hx : x.length ≤ 1000000000) (hq : Q (.bool (decide (x = y))) h) : EvQ P f_brickyardref15_Texts [.slice a x.length c, .slice b y.length d] h Q := by
  refine r_brickyardref15_Texts ?_
  refine bC_iff (fun e => ?_) (fun e => ?_)
  · rw [decide_eq_false] at hq
    · exact hq
    · rintro rfl; simp at e
  · have hl : x.length = y.length := by simp at e; omega
    exact texts_loop O X Y hl hx hq _ 0 rfl (Nat.zero_le _) (by rw [List.take_zero, List.take_zero])
/-- A job's weight is looked at. -/
theorem bigd_loop {n0 : Int} {p : Nat} {v0 v1 : Value} {w3 : Value} {a : Option Addr} {x : List Str} {cap : Nat} (O : Own h μ ρ) (W : Pcs ρ0 ρ ns (.var p [v0, v1, .slice a x.length cap, w3] :: rs)) (X : Vw ρ [] a (strs x)) (hx : x.length ≤ 140737488355328) (hs : ∀ s, s ∈ x → s.size ≤ 140737488355328)
    (hq : ∀ b : Bool, (b = false → wA 131072 x n0 < 131072) → Q (.bool b) h) : ∀ (m k : Nat) (n : Int), x.length - k = m → k ≤ x.length → 0 ≤ n → n ≤ 400000000000000 → wA 131072 (x.drop k) n = wA 131072 x n0 → unitAt P f_brickyardlaw15_big 7 [1, 3, 5] [.pointer (some ⟨p, 0, none⟩), .int .i64 n, .int .i64 (k : Int)] h Q := by
  have fin : ∀ n, n = wA 131072 x n0 → Q (.bool (decide (n ≥ 131072))) h := fun n e => hq _ fun g => by
    have := of_decide_eq_false g
    omega
  intro m
  induction m with
  | zero =>
    intro k n hd hk h0 h1 he
    have : k = x.length := by omega
    subst this
    rw [List.drop_length] at he
    refine r_brickyardlaw15_big_7 ?_
    refine w_rd O W 0 (j := 2) rfl rfl ?_
    simp only [oB_some, bC_true, bC_false, vInt_int, vBool_bool, vStr_string, vPtr_pointer, vSl_slice, vMap_map, vFun_func, vAgg_agg, vTup_tuple, vIfc_nil, vIfc_iface, lC_cons, lN_nil, aP_some, shO_none, shO_some, Option.isNone_none, Option.isNone_some, Bool.not_true, Bool.not_false]
    rw [geI (Nat.le_refl _)]
    simp only [oB_some, bC_true, bC_false, vInt_int, vBool_bool, vStr_string, vPtr_pointer, vSl_slice, vMap_map, vFun_func, vAgg_agg, vTup_tuple, vIfc_nil, vIfc_iface, lC_cons, lN_nil, aP_some, shO_none, shO_some, Option.isNone_none, Option.isNone_some, Bool.not_true, Bool.not_false]
    exact fin n he
  | succ m ih =>
    intro k n hd hk h0 h1 he
    have hlt : k < x.length := by omega
    refine r_brickyardlaw15_big_7 ?_
    refine w_rd O W 0 (j := 2) rfl rfl ?_
    simp only [oB_some, bC_true, bC_false, vInt_int, vBool_bool, vStr_string, vPtr_pointer, vSl_slice, vMap_map, vFun_func, vAgg_agg, vTup_tuple, vIfc_nil, vIfc_iface, lC_cons, lN_nil, aP_some, shO_none, shO_some, Option.isNone_none, Option.isNone_some, Bool.not_true, Bool.not_false]
    rw [ltI hlt]
    simp only [oB_some, bC_true, bC_false, vInt_int, vBool_bool, vStr_string, vPtr_pointer, vSl_slice, vMap_map, vFun_func, vAgg_agg, vTup_tuple, vIfc_nil, vIfc_iface, lC_cons, lN_nil, aP_some, shO_none, shO_some, Option.isNone_none, Option.isNone_some, Bool.not_true, Bool.not_false]
    rw [List.drop_eq_getElem_cons hlt, wA] at he
    refine bC_iff (fun e => ?_) (fun e => ?_)
    · have e : n < 131072 := of_decide_eq_true e
      rw [if_pos e] at he
      refine w_rd O W 0 (j := 2) rfl rfl ?_
      simp only [oB_some, bC_true, bC_false, vInt_int, vBool_bool, vStr_string, vPtr_pointer, vSl_slice, vMap_map, vFun_func, vAgg_agg, vTup_tuple, vIfc_nil, vIfc_iface, lC_cons, lN_nil, aP_some, shO_none, shO_some, Option.isNone_none, Option.isNone_some, Bool.not_true, Bool.not_false]
      refine wd_at O X rfl rfl hlt ?_
      have hz := hs _ (List.getElem_mem hlt)
      rw [wrap_small (n := 1 + (x[k].size : Int)) (by omega) (by omega), wrap_small (n := n + (1 + (x[k].size : Int))) (by omega) (by omega), wrapS (by omega)]
      exact ih (k + 1) _ (by omega) (by omega) (by omega) (by omega) he
    · have e : ¬ n < 131072 := of_decide_eq_false e
      rw [if_neg e] at he
      exact fin n he
theorem bigt_loop {n0 : Int} {p : Nat} {v0 : Value} {w3 : Value} {a b : Option Addr} {x y : List Str} {cap cap2 : Nat} (O : Own h μ ρ) (W : Pcs ρ0 ρ ns (.var p [v0, .slice b y.length cap2, .slice a x.length cap, w3] :: rs)) (X : Vw ρ [] a (strs x)) (Y : Vw ρ [] b (strs y)) (hx : x.length ≤ 140737488355328) (hs : ∀ s, s ∈ x → s.size ≤ 140737488355328) (hy : y.length ≤ 140737488355328) (ht : ∀ s, s ∈ y → s.size ≤ 140737488355328)
    (hq : ∀ b : Bool, (b = false → wA 131072 x (wA 131072 y n0) < 131072) → Q (.bool b) h) : ∀ (m k : Nat) (n : Int), y.length - k = m → k ≤ y.length → 0 ≤ n → n ≤ 262144 + 140737488355329 → wA 131072 (y.drop k) n = wA 131072 y n0 → unitAt P f_brickyardlaw15_big 3 [1, 3, 4] [.pointer (some ⟨p, 0, none⟩), .int .i64 n, .int .i64 (k : Int)] h Q := by
  have fin : ∀ n : Int, 0 ≤ n → n ≤ 262144 + 140737488355329 → n = wA 131072 y n0 → unitAt P f_brickyardlaw15_big 7 [1, 3, 5] [.pointer (some ⟨p, 0, none⟩), .int .i64 n, .int .i64 ((0 : Nat) : Int)] h Q := fun n g0 g1 e =>
    bigd_loop (n0 := n) O W X hx hs (fun b hb => hq b fun x => by rw [← e]; exact hb x) _ 0 n rfl (Nat.zero_le _) g0 (by omega) rfl
  intro m
  induction m with
  | zero =>
    intro k n hd hk h0 h1 he
    have : k = y.length := by omega
    subst this
    rw [List.drop_length] at he
    refine r_brickyardlaw15_big_3 ?_
    refine w_rd O W 0 (j := 1) rfl rfl ?_
    simp only [oB_some, bC_true, bC_false, vInt_int, vBool_bool, vStr_string, vPtr_pointer, vSl_slice, vMap_map, vFun_func, vAgg_agg, vTup_tuple, vIfc_nil, vIfc_iface, lC_cons, lN_nil, aP_some, shO_none, shO_some, Option.isNone_none, Option.isNone_some, Bool.not_true, Bool.not_false]
    rw [geI (Nat.le_refl _)]
    simp only [oB_some, bC_true, bC_false, vInt_int, vBool_bool, vStr_string, vPtr_pointer, vSl_slice, vMap_map, vFun_func, vAgg_agg, vTup_tuple, vIfc_nil, vIfc_iface, lC_cons, lN_nil, aP_some, shO_none, shO_some, Option.isNone_none, Option.isNone_some, Bool.not_true, Bool.not_false]
    exact fin n h0 h1 he
  | succ m ih =>
    intro k n hd hk h0 h1 he
    have hlt : k < y.length := by omega
    refine r_brickyardlaw15_big_3 ?_
    refine w_rd O W 0 (j := 1) rfl rfl ?_
    simp only [oB_some, bC_true, bC_false, vInt_int, vBool_bool, vStr_string, vPtr_pointer, vSl_slice, vMap_map, vFun_func, vAgg_agg, vTup_tuple, vIfc_nil, vIfc_iface, lC_cons, lN_nil, aP_some, shO_none, shO_some, Option.isNone_none, Option.isNone_some, Bool.not_true, Bool.not_false]
    rw [ltI hlt]
    simp only [oB_some, bC_true, bC_false, vInt_int, vBool_bool, vStr_string, vPtr_pointer, vSl_slice, vMap_map, vFun_func, vAgg_agg, vTup_tuple, vIfc_nil, vIfc_iface, lC_cons, lN_nil, aP_some, shO_none, shO_some, Option.isNone_none, Option.isNone_some, Bool.not_true, Bool.not_false]
    rw [List.drop_eq_getElem_cons hlt, wA] at he
    refine bC_iff (fun e => ?_) (fun e => ?_)
    · have e : n < 131072 := of_decide_eq_true e
      rw [if_pos e] at he
      refine w_rd O W 0 (j := 1) rfl rfl ?_
      simp only [oB_some, bC_true, bC_false, vInt_int, vBool_bool, vStr_string, vPtr_pointer, vSl_slice, vMap_map, vFun_func, vAgg_agg, vTup_tuple, vIfc_nil, vIfc_iface, lC_cons, lN_nil, aP_some, shO_none, shO_some, Option.isNone_none, Option.isNone_some, Bool.not_true, Bool.not_false]
      refine wd_at O Y rfl rfl hlt ?_
      have hz := ht _ (List.getElem_mem hlt)
      rw [wrap_small (n := 1 + (y[k].size : Int)) (by omega) (by omega), wrap_small (n := n + (1 + (y[k].size : Int))) (by omega) (by omega), wrapS (by omega)]
      exact ih (k + 1) _ (by omega) (by omega) (by omega) (by omega) he
    · have e : ¬ n < 131072 := of_decide_eq_false e
      rw [if_neg e] at he
      exact fin n h0 h1 he
/-- A job as it lies. -/
structure JobAt (ρ : Store) (y x : List Str) (f : F) (b a c : Option Addr) : Prop where
  ts : Vw ρ [] b (strs y)
  ds : Vw ρ [] a (strs x)
  code : Ly ρ f c
theorem JobAt.keep {y x : List Str} {f : F} {a b c : Option Addr} (J : JobAt ρ y x f b a c) {ρ' : Store} (F : Fra [] ρ ρ') : JobAt ρ' y x f b a c := ⟨J.ts.keep F, J.ds.keep F, J.code.keep F⟩
structure JobFits (y x : List Str) (f : F) : Prop where
  tl : y.length ≤ 140737488351232
  tz : ∀ s, s ∈ y → s.size ≤ 140737488355328
  dl : x.length ≤ 140737488351232
  dz : ∀ s, s ∈ x → s.size ≤ 140737488355328
  fl : f.len ≤ 140737488351232
  ff : Fits f
/-- Not too great. -/
structure JobMild (y x : List Str) (f : F) : Prop where
  ft : full f ≤ 131071
  ts : (y.map fun s => 1 + s.size).sum ≤ 131071
  ds : (x.map fun s => 1 + s.size).sum ≤ 131071
theorem big_ok (O : Own h μ ρ) {y x : List Str} {f : F} {a b c : Option Addr} {s : Str} {ca cb cc : Nat} (J : JobAt ρ y x f b a c) (hf : JobFits y x f)
    (hq : ∀ h' μ' ρ' r, Own h' μ' ρ' → Fra [] ρ ρ' → (r = false → JobMild y x f) → Q (.bool r) h') : EvQ P f_brickyardlaw15_big [.agg ⟨[.string s, .slice b y.length cb, .slice a x.length ca, .slice c f.len cc]⟩] h Q := by
  refine r_brickyardlaw15_big ?_
  obtain ⟨μ1, ρ1, c1, O1, W1, hc1⟩ := w_new O p0 [.string s, .slice b y.length cb, .slice a x.length ca, .slice c f.len cc]
  refine w_rd O1 W1 0 (j := 3) rfl rfl ?_
  simp only [oB_some, bC_true, bC_false, vInt_int, vBool_bool, vStr_string, vPtr_pointer, vSl_slice, vMap_map, vFun_func, vAgg_agg, vTup_tuple, vIfc_nil, vIfc_iface, lC_cons, lN_nil, aP_some, shO_none, shO_some, Option.isNone_none, Option.isNone_some, Bool.not_true, Bool.not_false]
  have F1 := W1.fra0 fun d hd => by simp at hd; subst hd; exact hc1
  have J1 := J.keep F1
  obtain ⟨cl, v, l⟩ := J1.code
  refine r_brickyardlaw15_weight ?_
  have hwt := wt_le (f := f) (most := 131072) (n := 0) (e := 61) (by omega) hf.ff (by omega) (by omega)
  have hfl := hf.fl
  refine weight_loop O1 f (pre := .nil) (e := 61) v l (by omega) (by omega) hf.ff (by omega) (by omega) (by show f.len ≤ _; omega) ?_
  simp only [oB_some, bC_true, bC_false, vInt_int, vBool_bool, vStr_string, vPtr_pointer, vSl_slice, vMap_map, vFun_func, vAgg_agg, vTup_tuple, vIfc_nil, vIfc_iface, lC_cons, lN_nil, aP_some, shO_none, shO_some, Option.isNone_none, Option.isNone_some, Bool.not_true, Bool.not_false]
  rw [show (61 - ((61 : Nat) : Int) : Int) = 0 from rfl] at hwt ⊢
  have htl := hf.tl
  have hdl := hf.dl
  by_cases hsm : wt f 131072 0 0 ≤ 262144 + 140737488355329
  · refine bigt_loop (n0 := wt f 131072 0 0) O1 W1 J1.ds J1.ts (by omega) hf.dz (by omega) hf.tz (fun r hr => hq _ _ _ r O1 F1 fun e => ?_) _ 0 _ rfl (Nat.zero_le _) hwt.1 hsm rfl
    have h1 := hr e
    have m1 := wA_mono (most := 131072) (l := x) (n := wA 131072 y (wt f 131072 0 0))
    have m2 := wA_mono (most := 131072) (l := y) (n := wt f 131072 0 0)
    have e1 := wA_full h1
    have e2 := wA_full (most := 131072) (l := y) (n := wt f 131072 0 0) (by omega)
    obtain ⟨e3, _⟩ := wt_full (f := f) (most := 131072) (deep := 0) (n := 0) (by omega)
    exact ⟨by omega, by omega, by omega⟩
  · have big : ¬ wt f 131072 0 0 < 131072 := by omega
    have done : Q (.bool (decide (wt f 131072 0 0 ≥ 131072))) _ := hq _ _ _ _ O1 F1 fun e => absurd (of_decide_eq_false e) (by omega)
    have last : unitAt P f_brickyardlaw15_big 7 [1, 3, 5] [.pointer (some ⟨h.next, 0, none⟩), .int .i64 (wt f 131072 0 0), .int .i64 0] (h.addVar [.string s, .slice b y.length cb, .slice a x.length ca, .slice c f.len cc]) Q := by
      refine r_brickyardlaw15_big_7 ?_
      refine w_rd O1 W1 0 (j := 2) rfl rfl ?_
      simp only [oB_some, bC_true, bC_false, vInt_int, vBool_bool, vStr_string, vPtr_pointer, vSl_slice, vMap_map, vFun_func, vAgg_agg, vTup_tuple, vIfc_nil, vIfc_iface, lC_cons, lN_nil, aP_some, shO_none, shO_some, Option.isNone_none, Option.isNone_some, Bool.not_true, Bool.not_false]
      refine bC_iff (fun _ => bC_iff (fun e => absurd (of_decide_eq_true e) big) (fun _ => done)) (fun _ => done)
    refine r_brickyardlaw15_big_3 ?_
    refine w_rd O1 W1 0 (j := 1) rfl rfl ?_
    simp only [oB_some, bC_true, bC_false, vInt_int, vBool_bool, vStr_string, vPtr_pointer, vSl_slice, vMap_map, vFun_func, vAgg_agg, vTup_tuple, vIfc_nil, vIfc_iface, lC_cons, lN_nil, aP_some, shO_none, shO_some, Option.isNone_none, Option.isNone_some, Bool.not_true, Bool.not_false]
    exact bC_iff (fun _ => bC_iff (fun e => absurd (of_decide_eq_true e) big) (fun _ => last)) (fun _ => last)
end Go.Proofs.YtamoepfiodgbbaaGreatDoor
end
