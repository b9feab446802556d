/- A deterministic heap for the model, proved sound, and walks of the program over it: part 7. No condition. -/
import Derived.Test.YtgdkekdedgkglaaDoorAb1
import Derived.Test.YtgdkekdedgkglaaDoorAb2
import Derived.Test.YtgdkekdedgkglaaDoorAb3
import Derived.Test.YtgdkekdedgkglaaDoorAb6
import Derived.Test.YtgdkekdedgkglaaDoorAb4
import Derived.Test.YtgdkekdedgkglaaDoorProg
import Derived.Test.YtgdkekdedgkglaaDoorAb5
set_option linter.unusedVariables false
set_option linter.unusedSimpArgs false
set_option linter.unusedSectionVars false
section
/- Names of functions and types. -/
namespace Go.Proofs.YtgdkekdedgkglaaDoor
open Go.Abs
noncomputable abbrev P : Program := Tryd.prog
def f_brickyardlaw20_SchedFlows : Nat := 10
def f_brickyardlaw20_works : Nat := 12
def f_sched_New : Nat := 13
def f_brickyardlaw20_name : Nat := 14
def f_p_sched_Sched_Want : Nat := 15
def f_p_sched_Sched_Over : Nat := 16
def f_p_sched_Sched_Fill : Nat := 17
def f_p_sched_Sched_Pick : Nat := 18
def f_p_sched_Sched_Done : Nat := 19
def f_p_sched_Sched_Starts : Nat := 20
def f_slices_Equal_sl_string_string : Nat := 21
def f_slices_Clone_sl_int_int : Nat := 41
def f_slices_Clone_sl_sl_int_sl_int : Nat := 42
def f_p_sched_Sched_Stuck : Nat := 43
def f_p_sched_Sched_State : Nat := 44
def f_strconv_Atoi : Nat := 45
def f_p_sched_Sched_Wait : Nat := 46
def f_slices_Contains_sl_string_string : Nat := 47
def f_p_sched_Sched_Slots : Nat := 48
def f_p_sched_Sched_Queue : Nat := 50
def f_strconv_Itoa : Nat := 51
def f_p_sched_Sched_ready : Nat := 52
def f_p_sched_Sched_live : Nat := 53
def f_p_sched_Sched_turn : Nat := 54
def f_p_sched_Sched_Pick_fn1 : Nat := 55
def f_p_sched_Sched_leave : Nat := 56
def f_slices_DeleteFunc_sl_string_string : Nat := 57
def f_p_sched_Sched_Done_fn1 : Nat := 58
def f_strconv_Atoi_78 : Nat := 78
def f_strconv_toError : Nat := 79
def f_p_sched_Sched_circle : Nat := 80
def f_slices_Index_sl_string_string : Nat := 81
def f_slices_Clone_sl_string_string : Nat := 82
def f_slices_IndexFunc_sl_string_string : Nat := 86
def f_action_number : Nat := 88
def f_strconv_ParseInt : Nat := 98
def f_slices_Min_sl_string_string : Nat := 103
def f_slices_Concat_sl_string_string : Nat := 104
def f_slices_Grow_sl_string_string : Nat := 117
def ty_int : Nat := 3
def ty_uint8 : Nat := 5
def ty_string : Nat := 9
def ty_sl_int : Nat := 22
def ty_sl_string : Nat := 26
def ty_map_string_p_sched_task : Nat := 75
def ty_p_sched_task : Nat := 79
def ty_sl_uint8 : Nat := 101
def ty_strconv_Error : Nat := 122
theorem ti_ty_int : tiOf P ty_int = some (TI.mk (TypeDesc.int IntKind.i64) false 1 8 (some (Value.int IntKind.i64 (Int.ofNat 0)))) := by kernel_rfl
theorem ti_ty_uint8 : tiOf P ty_uint8 = some (TI.mk (TypeDesc.int IntKind.u8) false 1 1 (some (Value.int IntKind.u8 (Int.ofNat 0)))) := by kernel_rfl
theorem ti_ty_string : tiOf P ty_string = some (TI.mk TypeDesc.string false 1 16 (some (Value.string (ByteArray.mk (Array.mk []))))) := by kernel_rfl
theorem ti_ty_sl_int : tiOf P ty_sl_int = some (TI.mk (TypeDesc.slice ty_int) false 1 24 (some (Value.slice none 0 0))) := by kernel_rfl
theorem ti_ty_sl_string : tiOf P ty_sl_string = some (TI.mk (TypeDesc.slice ty_string) false 1 24 (some (Value.slice none 0 0))) := by kernel_rfl
theorem ti_ty_map_string_p_sched_task : tiOf P ty_map_string_p_sched_task = some (TI.mk (TypeDesc.map ty_string ty_p_sched_task) false 1 8 (some (Value.map none))) := by kernel_rfl
theorem ti_ty_sl_uint8 : tiOf P ty_sl_uint8 = some (TI.mk (TypeDesc.slice ty_uint8) false 1 24 (some (Value.slice none 0 0))) := by kernel_rfl
def ty_sl_sl_int : Nat := 56
theorem ti_ty_sl_sl_int : tiOf P ty_sl_sl_int = some (TI.mk (TypeDesc.slice ty_sl_int) false 1 24 (some (Value.slice none 0 0))) := by kernel_rfl
end Go.Proofs.YtgdkekdedgkglaaDoor
end

section
/- Rules of walks, printed by a program of ours: group Lib. -/
namespace Go.Proofs.YtgdkekdedgkglaaDoor
open Go.Abs
set_option maxRecDepth 100000
theorem r_slices_Equal_sl_string_string {p1 : Option Addr} {m2 : Nat} {m3 : Nat} {p4 : Option Addr} {m5 : Nat} {m6 : Nat} {h : AW} {Q : Value → AW → Prop} (H : bC ((↑m2 : Int) != (↑m5 : Int)) (Q
  (Value.bool false) h) (unitAt P f_slices_Equal_sl_string_string 4 [0, 1, 12, 13] [Value.slice p1 m2 m3, Value.slice p4 m5 m6, Value.int IntKind.i64 (↑m2 : Int), Value.int IntKind.i64 0] h Q)) : EvQ P f_slices_Equal_sl_string_string
  [Value.slice p1 m2 m3, Value.slice p4 m5 m6] h Q := fn_ok (n := 400) (ann := annOf [(4, [0, 1, 12, 13])]) (Eq.mp (by kernel_rfl) H)
theorem r_slices_Equal_sl_string_string_4 {p1 : Option Addr} {m2 : Nat} {m3 : Nat} {p4 : Option Addr} {m5 : Nat} {m6 : Nat} {n7 : Int} {n8 : Int} {h : AW} {Q : Value → AW → Prop} (H : bC (decide (n8 < n7))
  (aP p1 fun m9 m10 => oB (natIdx n8 m2) fun m11 => oB (AW.rd h m9 (m10 + m11 * 1)) fun v12 => vStr v12 fun s13 => aP p4 fun m14 m15 => oB (natIdx n8 m5) fun m16 => oB (AW.rd h m14
  (m15 + m16 * 1)) fun v17 => vStr v17 fun s18 => bC (!bEq s13 s18) (Q (Value.bool false) h) (unitAt P f_slices_Equal_sl_string_string 4 [0, 1, 12, 13] [Value.slice p1 m2 m3, Value.slice p4 m5 m6, Value.int
  IntKind.i64 n7, Value.int IntKind.i64 (IntKind.wrap IntKind.i64 (n8 + 1))] h Q)) (Q (Value.bool true) h)) : unitAt P f_slices_Equal_sl_string_string 4 [0, 1, 12, 13] [Value.slice p1 m2 m3, Value.slice p4
  m5 m6, Value.int IntKind.i64 n7, Value.int IntKind.i64 n8] h Q := unit_ok (n := 400) (ann := annOf [(4, [0, 1, 12, 13])]) (Eq.mp (by kernel_rfl) H)
theorem r_slices_Contains_sl_string_string {p1 : Option Addr} {m2 : Nat} {m3 : Nat} {s4 : ByteArray} {h : AW} {Q : Value → AW → Prop} (H : EvQ P f_slices_Index_sl_string_string [Value.slice p1 m2 m3, Value.string s4] h fun v5 h6 =>
  vInt IntKind.i64 v5 fun n7 => Q (Value.bool (decide (n7 ≥ 0))) h6) : EvQ P f_slices_Contains_sl_string_string [Value.slice p1 m2 m3, Value.string s4] h Q := fn_ok (n := 400) (ann := annOf []) (Eq.mp (by
  kernel_rfl) H)
theorem r_slices_DeleteFunc_sl_string_string {p1 : Option Addr} {m2 : Nat} {m3 : Nat} {v4 : Value} {h : AW} {Q : Value → AW → Prop} (H : EvQ P f_slices_IndexFunc_sl_string_string [Value.slice p1 m2 m3, v4] h fun v5 h6 => vInt IntKind.i64 v5
  fun n7 => bC (n7 == Int.negSucc 0) (Q (Value.slice p1 m2 m3) h6) (unitAt P f_slices_DeleteFunc_sl_string_string 5 [0, 1, 5, 6] [Value.slice p1 m2 m3, v4, Value.int IntKind.i64 n7, Value.int IntKind.i64
  (IntKind.wrap IntKind.i64 (n7 + 1))] h6 Q)) : EvQ P f_slices_DeleteFunc_sl_string_string [Value.slice p1 m2 m3, v4] h Q := fn_ok (n := 400) (ann := annOf [(5, [0, 1, 5, 6])]) (Eq.mp (by kernel_rfl) H)
theorem r_slices_DeleteFunc_sl_string_string_5 {p1 : Option Addr} {m2 : Nat} {m3 : Nat} {v4 : Value} {n5 : Int} {n6 : Int} {h : AW} {Q : Value → AW → Prop} (H : bC (decide (n6 < (↑m2 : Int))) (aP p1 fun m7 m8
  => oB (natIdx n6 m2) fun m9 => oB (AW.rd h m7 (m8 + m9 * 1)) fun v10 => vStr v10 fun s11 => vFun v4 fun m12 l13 l14 => EvQ P m12 (l13 ++ Value.string s11 :: l14) h fun v15 h16 =>
  vBool v15 fun b17 => bC (!b17) (aP p1 fun m18 m19 => oB (natIdx n5 m2) fun m20 => oB (AW.wr h16 m18 (m19 + m20 * 1) (Value.string s11)) fun h21 => unitAt P f_slices_DeleteFunc_sl_string_string 5 [0, 1, 5, 6]
  [Value.slice p1 m2 m3, v4, Value.int IntKind.i64 (IntKind.wrap IntKind.i64 (n5 + 1)), Value.int IntKind.i64 (IntKind.wrap IntKind.i64 (n6 + 1))] h21 Q) (unitAt P f_slices_DeleteFunc_sl_string_string 5 [0, 1, 5,
  6] [Value.slice p1 m2 m3, v4, Value.int IntKind.i64 n5, Value.int IntKind.i64 (IntKind.wrap IntKind.i64 (n6 + 1))] h16 Q)) (oB (natBnd n5 m2) fun m22 => bC (Nat.ble m2 m3) (oB
  (shO p1 (m22 * 1)) fun p23 => oP (clearB P h (Array.mk [ty_sl_string]) [Value.slice p23 (m2 - m22) (m3 - m22)]) fun v24 h25 => oB (natBnd n5 m3) fun m26 => bC (Nat.ble m26 m3) (oB (shO
  p1 0) fun p27 => Q (Value.slice p27 (m26 - 0) (m3 - 0)) h25) False) False)) : unitAt P f_slices_DeleteFunc_sl_string_string 5 [0, 1, 5, 6] [Value.slice p1 m2 m3, v4, Value.int IntKind.i64 n5, Value.int
  IntKind.i64 n6] h Q := unit_ok (n := 400) (ann := annOf [(5, [0, 1, 5, 6])]) (Eq.mp (by kernel_rfl) H)
theorem r_slices_Index_sl_string_string {p1 : Option Addr} {m2 : Nat} {m3 : Nat} {s4 : ByteArray} {h : AW} {Q : Value → AW → Prop} (H : unitAt P f_slices_Index_sl_string_string 2 [0, 1, 7, 8] [Value.slice p1 m2 m3, Value.string s4,
  Value.int IntKind.i64 (↑m2 : Int), Value.int IntKind.i64 0] h Q) : EvQ P f_slices_Index_sl_string_string [Value.slice p1 m2 m3, Value.string s4] h Q := fn_ok (n := 400) (ann := annOf [(2, [0, 1, 7, 8])])
  (Eq.mp (by kernel_rfl) H)
theorem r_slices_Index_sl_string_string_2 {p1 : Option Addr} {m2 : Nat} {m3 : Nat} {s4 : ByteArray} {n5 : Int} {n6 : Int} {h : AW} {Q : Value → AW → Prop} (H : bC (decide (n6 < n5)) (aP p1 fun m7 m8 => oB
  (natIdx n6 m2) fun m9 => oB (AW.rd h m7 (m8 + m9 * 1)) fun v10 => vStr v10 fun s11 => bC (bEq s4 s11) (Q (Value.int IntKind.i64 n6) h) (unitAt P f_slices_Index_sl_string_string 2 [0, 1, 7, 8] [Value.slice
  p1 m2 m3, Value.string s4, Value.int IntKind.i64 n5, Value.int IntKind.i64 (IntKind.wrap IntKind.i64 (n6 + 1))] h Q)) (Q (Value.int IntKind.i64 (Int.negSucc 0)) h)) : unitAt P
  f_slices_Index_sl_string_string 2 [0, 1, 7, 8] [Value.slice p1 m2 m3, Value.string s4, Value.int IntKind.i64 n5, Value.int IntKind.i64 n6] h Q := unit_ok (n := 400) (ann := annOf [(2, [0, 1, 7, 8])])
  (Eq.mp (by kernel_rfl) H)
theorem r_slices_Clone_sl_string_string {p1 : Option Addr} {m2 : Nat} {m3 : Nat} {h : AW} {Q : Value → AW → Prop} (H : bC (Option.isNone p1) (Q (Value.slice none 0 0) h) (oP (appendB P (AW.addVar h [])
  (Array.mk [ty_sl_string, ty_sl_string]) [Value.slice (some (Addr.mk (AW.next h) 0 none)) 0 0, Value.slice p1 m2 m3]) fun v4 h5 => vSl v4 fun p6 m7 m8 => Q (Value.slice p6 m7 m8) h5)) : EvQ P
  f_slices_Clone_sl_string_string [Value.slice p1 m2 m3] h Q := fn_ok (n := 400) (ann := annOf []) (Eq.mp (by kernel_rfl) H)
theorem r_slices_IndexFunc_sl_string_string {p1 : Option Addr} {m2 : Nat} {m3 : Nat} {v4 : Value} {h : AW} {Q : Value → AW → Prop} (H : unitAt P f_slices_IndexFunc_sl_string_string 2 [0, 1, 7, 8] [Value.slice p1 m2 m3, v4, Value.int
  IntKind.i64 (↑m2 : Int), Value.int IntKind.i64 0] h Q) : EvQ P f_slices_IndexFunc_sl_string_string [Value.slice p1 m2 m3, v4] h Q := fn_ok (n := 400) (ann := annOf [(2, [0, 1, 7, 8])]) (Eq.mp (by kernel_rfl)
  H)
theorem r_slices_IndexFunc_sl_string_string_2 {p1 : Option Addr} {m2 : Nat} {m3 : Nat} {v4 : Value} {n5 : Int} {n6 : Int} {h : AW} {Q : Value → AW → Prop} (H : bC (decide (n6 < n5)) (aP p1 fun m7 m8 => oB
  (natIdx n6 m2) fun m9 => oB (AW.rd h m7 (m8 + m9 * 1)) fun v10 => vStr v10 fun s11 => vFun v4 fun m12 l13 l14 => EvQ P m12 (l13 ++ Value.string s11 :: l14) h fun v15 h16 => vBool
  v15 fun b17 => bC b17 (Q (Value.int IntKind.i64 n6) h16) (unitAt P f_slices_IndexFunc_sl_string_string 2 [0, 1, 7, 8] [Value.slice p1 m2 m3, v4, Value.int IntKind.i64 n5, Value.int IntKind.i64 (IntKind.wrap
  IntKind.i64 (n6 + 1))] h16 Q)) (Q (Value.int IntKind.i64 (Int.negSucc 0)) h)) : unitAt P f_slices_IndexFunc_sl_string_string 2 [0, 1, 7, 8] [Value.slice p1 m2 m3, v4, Value.int IntKind.i64 n5, Value.int
  IntKind.i64 n6] h Q := unit_ok (n := 400) (ann := annOf [(2, [0, 1, 7, 8])]) (Eq.mp (by kernel_rfl) H)
theorem r_slices_Min_sl_string_string {p1 : Option Addr} {m2 : Nat} {m3 : Nat} {h : AW} {Q : Value → AW → Prop} (H : bC (decide ((↑m2 : Int) < 1)) False (aP p1 fun m4 m5 => oB (natIdx 0 m2) fun m6 => oB
  (AW.rd h m4 (m5 + m6 * 1)) fun v7 => vStr v7 fun s8 => unitAt P f_slices_Min_sl_string_string 5 [0, 3, 4] [Value.slice p1 m2 m3, Value.string s8, Value.int IntKind.i64 1] h Q)) : EvQ P f_slices_Min_sl_string_string
  [Value.slice p1 m2 m3] h Q := fn_ok (n := 400) (ann := annOf [(5, [0, 3, 4])]) (Eq.mp (by kernel_rfl) H)
theorem r_slices_Min_sl_string_string_5 {p1 : Option Addr} {m2 : Nat} {m3 : Nat} {s4 : ByteArray} {n5 : Int} {h : AW} {Q : Value → AW → Prop} (H : bC (decide (n5 < (↑m2 : Int))) (aP p1 fun m6 m7 => oB
  (natIdx n5 m2) fun m8 => oB (AW.rd h m6 (m7 + m8 * 1)) fun v9 => vStr v9 fun s10 => unitAt P f_slices_Min_sl_string_string 5 [0, 3, 4] [Value.slice p1 m2 m3, Value.string (if (Op.bytesLess (Array.toList
  (ByteArray.data s4)) (Array.toList (ByteArray.data s10)) || Array.toList (ByteArray.data s4) == Array.toList (ByteArray.data s10)) = true then s4 else s10), Value.int IntKind.i64
  (IntKind.wrap IntKind.i64 (n5 + 1))] h Q) (Q (Value.string s4) h)) : unitAt P f_slices_Min_sl_string_string 5 [0, 3, 4] [Value.slice p1 m2 m3, Value.string s4, Value.int IntKind.i64 n5] h Q := unit_ok
  (n := 400) (ann := annOf [(5, [0, 3, 4])]) (Eq.mp (by kernel_rfl) H)
theorem r_slices_Concat_sl_string_string {p1 : Option Addr} {m2 : Nat} {m3 : Nat} {h : AW} {Q : Value → AW → Prop} (H : unitAt P f_slices_Concat_sl_string_string 3 [0, 3, 9, 10, 11] [Value.slice p1 m2 m3, Value.int IntKind.i64 0,
  Value.slice p1 m2 m3, Value.int IntKind.i64 (↑m2 : Int), Value.int IntKind.i64 0] h Q) : EvQ P f_slices_Concat_sl_string_string [Value.slice p1 m2 m3] h Q := fn_ok (n := 400) (ann := annOf [(3, [0, 3, 9,
  10, 11]), (11, [6, 25, 26, 27])]) (Eq.mp (by kernel_rfl) H)
theorem r_slices_Concat_sl_string_string_3 {p1 : Option Addr} {m2 : Nat} {m3 : Nat} {n4 : Int} {p5 : Option Addr} {m6 : Nat} {m7 : Nat} {n8 : Int} {n9 : Int} {h : AW} {Q : Value → AW → Prop} (H : bC
  (decide (n9 < n8)) (aP p5 fun m10 m11 => oB (natIdx n9 m6) fun m12 => oB (AW.rd h m10 (m11 + m12 * 1)) fun v13 => vSl v13 fun p14 m15 m16 => bC (decide (IntKind.wrap IntKind.i64
  (n4 + (↑m15 : Int)) < 0)) False (unitAt P f_slices_Concat_sl_string_string 3 [0, 3, 9, 10, 11] [Value.slice p1 m2 m3, Value.int IntKind.i64 (IntKind.wrap IntKind.i64 (n4 + (↑m15 : Int))), Value.slice p5 m6
  m7, Value.int IntKind.i64 n8, Value.int IntKind.i64 (IntKind.wrap IntKind.i64 (n9 + 1))] h Q)) (EvQ P f_slices_Grow_sl_string_string [Value.slice none 0 0, Value.int IntKind.i64 n4] h fun v17 h18 => vSl
  v17 fun p19 m20 m21 => unitAt P f_slices_Concat_sl_string_string 11 [6, 25, 26, 27] [Value.slice p19 m20 m21, Value.slice p1 m2 m3, Value.int IntKind.i64 (↑m2 : Int), Value.int IntKind.i64 0] h18 Q)) :
  unitAt P f_slices_Concat_sl_string_string 3 [0, 3, 9, 10, 11] [Value.slice p1 m2 m3, Value.int IntKind.i64 n4, Value.slice p5 m6 m7, Value.int IntKind.i64 n8, Value.int IntKind.i64 n9] h Q := unit_ok (n :=
  400) (ann := annOf [(3, [0, 3, 9, 10, 11]), (11, [6, 25, 26, 27])]) (Eq.mp (by kernel_rfl) H)
theorem r_slices_Concat_sl_string_string_11 {p1 : Option Addr} {m2 : Nat} {m3 : Nat} {p4 : Option Addr} {m5 : Nat} {m6 : Nat} {n7 : Int} {n8 : Int} {h : AW} {Q : Value → AW → Prop} (H : bC (decide (n8 <
  n7)) (aP p4 fun m9 m10 => oB (natIdx n8 m5) fun m11 => oB (AW.rd h m9 (m10 + m11 * 1)) fun v12 => vSl v12 fun p13 m14 m15 => oP (appendB P h (Array.mk [ty_sl_string, ty_sl_string])
  [Value.slice p1 m2 m3, Value.slice p13 m14 m15]) fun v16 h17 => vSl v16 fun p18 m19 m20 => unitAt P f_slices_Concat_sl_string_string 11 [6, 25, 26, 27] [Value.slice p18 m19 m20, Value.slice p4 m5 m6,
  Value.int IntKind.i64 n7, Value.int IntKind.i64 (IntKind.wrap IntKind.i64 (n8 + 1))] h17 Q) (Q (Value.slice p1 m2 m3) h)) : unitAt P f_slices_Concat_sl_string_string 11 [6, 25, 26, 27] [Value.slice p1 m2
  m3, Value.slice p4 m5 m6, Value.int IntKind.i64 n7, Value.int IntKind.i64 n8] h Q := unit_ok (n := 400) (ann := annOf [(3, [0, 3, 9, 10, 11]), (11, [6, 25, 26, 27])]) (Eq.mp (by
  kernel_rfl) H)
theorem r_slices_Grow_sl_string_string {p1 : Option Addr} {m2 : Nat} {m3 : Nat} {n4 : Int} {h : AW} {Q : Value → AW → Prop} (H : bC (decide (n4 < 0)) False (unitAt P f_slices_Grow_sl_string_string 3 [0, 1] [Value.slice p1 m2 m3,
  Value.int IntKind.i64 n4] h Q)) : EvQ P f_slices_Grow_sl_string_string [Value.slice p1 m2 m3, Value.int IntKind.i64 n4] h Q := fn_ok (n := 400) (ann := annOf [(3, [0, 1])]) (Eq.mp (by kernel_rfl) H)
theorem r_slices_Grow_sl_string_string_3 {p1 : Option Addr} {m2 : Nat} {m3 : Nat} {n4 : Int} {h : AW} {Q : Value → AW → Prop} (H : oB (capB P h (Array.mk [ty_sl_string]) [Value.slice p1 m2 m3]) fun v5 => vInt
  IntKind.i64 v5 fun n6 => bC (decide (IntKind.wrap IntKind.i64 (n4 - IntKind.wrap IntKind.i64 (n6 - (↑m2 : Int))) > 0)) (oB (capB P h (Array.mk [ty_sl_string]) [Value.slice p1 m2 m3])
  fun v7 => vInt IntKind.i64 v7 fun n8 => oB (natBnd n8 m3) fun m9 => bC (Nat.ble m9 m3) (oB (shO p1 0) fun p10 => oP (appendB P h (Array.mk [ty_sl_string, ty_int]) [Value.slice p10 (m9 -
  0) (m3 - 0), Value.int IntKind.i64 (IntKind.wrap IntKind.i64 (n4 - IntKind.wrap IntKind.i64 (n6 - (↑m2 : Int))))]) fun v11 h12 => vSl v11 fun p13 m14 m15 => oB (natBnd (↑m2 :
  Int) m15) fun m16 => bC (Nat.ble m16 m15) (oB (shO p13 0) fun p17 => Q (Value.slice p17 (m16 - 0) (m15 - 0)) h12) False) False) (Q (Value.slice p1 m2 m3) h)) : unitAt P f_slices_Grow_sl_string_string 3
  [0, 1] [Value.slice p1 m2 m3, Value.int IntKind.i64 n4] h Q := unit_ok (n := 400) (ann := annOf [(3, [0, 1])]) (Eq.mp (by kernel_rfl) H)
end Go.Proofs.YtgdkekdedgkglaaDoor
end

section
/- What the library's functions on slices of strings come to. -/
namespace Go.Proofs.YtgdkekdedgkglaaDoor
open Go.Abs Go.Abs.Sch
set_option maxRecDepth 100000
attribute [local irreducible] unitAt EvQ
variable {h : AW} {μ : Paint} {ρ : Store} {Q : Value → AW → Prop}
abbrev Strs (h : AW) (a : Option Addr) (l : List Str) : Prop := Sl h a (strs l)
theorem sat1 {a : Option Addr} {x : List Str} (H : Sl h a (strs x)) {z : Int} {j n : Nat} (hz : z = j) (hn : n = x.length) (hj : j < x.length) {f : Str → Prop} (hf : f x[j]) : aP a fun i off => oB (natIdx z n) fun j => oB (h.rd i (off + j * 1)) fun v => vStr v f :=
  H.at1 (v := .string x[j]) hz (by simpa using hn) (by simp [hj]) (by simpa using hf)
theorem equal_loop {a b : Option Addr} {x y : List Str} {c d : Nat} (X : Strs h a x) (Y : Strs h b y) (hl : x.length = y.length) (hx : x.length < 1000000001) (hq : Q (.bool (decide (x = y))) h) :
    ∀ (n k : Nat), x.length - k = n → k ≤ x.length → x.take k = y.take k → unitAt P f_slices_Equal_sl_string_string 4 [0, 1, 12, 13] [.slice a x.length c, .slice b y.length d, .int .i64 (x.length : Int), .int .i64 (k : Int)] h Q := by
  intro n
  induction n with
  | zero =>
    intro k hn hk he
    refine r_slices_Equal_sl_string_string_4 ?_
    rw [show decide ((k : Int) < (x.length : Int)) = false from by simp; omega]
    simp only [bC_false]
    have : k = x.length := by omega
    subst this
    rw [List.take_length, hl, List.take_length] at he
    rw [← decide_eq_true he]; exact hq
  | succ n ih =>
    intro k hn hk he
    refine r_slices_Equal_sl_string_string_4 ?_
    have hlt : k < x.length := by omega
    rw [show decide ((k : Int) < (x.length : Int)) = true from by simp; omega]
    simp only [bC_true]
    refine sat1 X rfl rfl hlt ?_
    refine sat1 Y rfl rfl (by omega) ?_
    refine bC_iff (fun e => ?_) (fun e => ?_)
    · have e' : x[k] ≠ y[k] := by simpa [bEq_false] using e
      have : decide (x = y) = false := by
        rw [decide_eq_false_iff_not]
        intro e2; subst e2; exact e' rfl
      rw [← this]; exact hq
    · rw [wrapS (by omega)]
      have e' : x[k] = y[k] := by simpa [bEq_iff] using e
      exact ih (k + 1) (by omega) (by omega) (by rw [List.take_succ_eq_append_getElem hlt, List.take_succ_eq_append_getElem (by omega), he, e'])
theorem equal_ok {a b : Option Addr} {x y : List Str} {c d : Nat} (X : Strs h a x) (Y : Strs h b y) (hx : x.length < 1000000001) (hq : Q (.bool (decide (x = y))) h) :
    EvQ P f_slices_Equal_sl_string_string [.slice a x.length c, .slice b y.length d] h Q := by
  refine r_slices_Equal_sl_string_string ?_
  refine bC_iff (fun e => ?_) (fun e => ?_)
  · have : x.length ≠ y.length := by simp at e; omega
    have e2 : decide (x = y) = false := by
      rw [decide_eq_false_iff_not]
      intro e2; subst e2; exact this rfl
    rw [← e2]; exact hq
  · have hl : x.length = y.length := by simp at e; omega
    exact equal_loop X Y hl hx hq x.length 0 (by omega) (by omega) rfl

/-- Where a key stands first; -1: nowhere. -/
def idxOf (s : Str) (x : List Str) : Int := match x.findIdx? (fun t => bEq s t) with | some j => (j : Int) | none => -1
theorem index_loop {a : Option Addr} {x : List Str} {s : Str} {c : Nat} (X : Strs h a x) (hx : x.length < 1000000001) (hq : Q (.int .i64 (idxOf s x)) h) :
    ∀ (n k : Nat), x.length - k = n → k ≤ x.length → (∀ j (hj : j < x.length), j < k → bEq s x[j] = false) → unitAt P f_slices_Index_sl_string_string 2 [0, 1, 7, 8] [.slice a x.length c, .string s, .int .i64 (x.length : Int), .int .i64 (k : Int)] h Q := by
  intro n
  induction n with
  | zero =>
    intro k hn hk he
    refine r_slices_Index_sl_string_string_2 ?_
    rw [show decide ((k : Int) < (x.length : Int)) = false from by simp; omega]
    simp only [bC_false]
    have : idxOf s x = -1 := by
      unfold idxOf
      rw [List.findIdx?_eq_none_iff.2 fun t ht => ?_]
      obtain ⟨j, hj, e⟩ := List.getElem_of_mem ht
      rw [← e]; simpa using he j hj (by omega)
    rw [this] at hq; exact hq
  | succ n ih =>
    intro k hn hk he
    refine r_slices_Index_sl_string_string_2 ?_
    have hlt : k < x.length := by omega
    rw [show decide ((k : Int) < (x.length : Int)) = true from by simp; omega]
    simp only [bC_true]
    refine sat1 X rfl rfl hlt ?_
    refine bC_iff (fun e => ?_) (fun e => ?_)
    · have : idxOf s x = k := by
        unfold idxOf
        rw [List.findIdx?_eq_some_iff_getElem.2 ⟨hlt, e, fun j hj => by simpa using he j (by omega) hj⟩]
      rw [this] at hq; exact hq
    · rw [wrapS (by omega)]
      exact ih (k + 1) (by omega) (by omega) fun j hj hjk => by
        rcases Nat.lt_or_ge j k with h1 | h1
        · exact he j hj h1
        · have : j = k := by omega
          subst this; exact e
theorem index_ok {a : Option Addr} {x : List Str} {s : Str} {c : Nat} (X : Strs h a x) (hx : x.length < 1000000001) (hq : Q (.int .i64 (idxOf s x)) h) :
    EvQ P f_slices_Index_sl_string_string [.slice a x.length c, .string s] h Q := by
  refine r_slices_Index_sl_string_string ?_
  exact index_loop X hx hq x.length 0 (by omega) (by omega) (by intro j _ hj; omega)
theorem idxOf_ge {s : Str} {x : List Str} : decide (idxOf s x ≥ 0) = memB s x := by
  unfold idxOf
  cases e : x.findIdx? (fun t => bEq s t) with
  | none =>
    have := List.findIdx?_eq_none_iff.1 e
    have hn : s ∉ x := fun hm => by have := this s hm; simp at this
    have : memB s x = false := by rw [← Bool.not_eq_true, memB_iff]; exact hn
    rw [this]; simp
  | some j =>
    obtain ⟨hj, h1, _⟩ := List.findIdx?_eq_some_iff_getElem.1 e
    have hm : s ∈ x := by rw [bEq_iff.1 h1]; exact List.getElem_mem hj
    rw [memB_iff.2 hm]; simp
theorem contains_ok {a : Option Addr} {x : List Str} {s : Str} {c : Nat} (X : Strs h a x) (hx : x.length < 1000000001) (hq : Q (.bool (memB s x)) h) :
    EvQ P f_slices_Contains_sl_string_string [.slice a x.length c, .string s] h Q := by
  refine r_slices_Contains_sl_string_string ?_
  refine index_ok X hx ?_
  simp only [vInt_int]
  rw [idxOf_ge]; exact hq

/-- A fresh slice of strings comes back. -/
def NewS (Q : Value → AW → Prop) (ρ : Store) (x : List Str) : Prop :=
  ∀ h' μ' ρ' co oa oc, Own h' μ' ρ' → Pcs ρ ρ' [co] [.sl oa oc 1 (strs x)] → ρ co = none → Q (.slice oa x.length oc) h'
theorem new_nil (O : Own h μ ρ) (hq : NewS Q ρ []) : Q (.slice none 0 0) h := by
  obtain ⟨ρ1, co, O1, W1, hco⟩ := w_nil O (Pcs.init (ρ := ρ) (ns := []) (rs := []) List.nodup_nil rfl (by intro i c r h; simp at h)) 1
  exact hq _ _ _ _ _ _ O1 W1 hco
theorem p0 : Pcs ρ ρ [] [] := Pcs.init List.nodup_nil rfl (by intro i c r h; simp at h)
theorem clone_ok {a : Option Addr} {x : List Str} {cap : Nat} (O : Own h μ ρ) (X : Rd ρ [] a (strs x)) (hx : x.length ≤ 1000000000) (hq : NewS Q ρ x) :
    EvQ P f_slices_Clone_sl_string_string [.slice a x.length cap] h Q := by
  refine r_slices_Clone_sl_string_string ?_
  refine bC_iff (fun e => ?_) (fun e => ?_)
  · rcases X.sl O with ⟨rfl, hx0⟩ | ⟨i, off, rfl, _⟩
    · have : x = [] := by simpa using hx0
      subst this
      exact new_nil O hq
    · simp at e
  · obtain ⟨μ1, ρ1, c1, O1, W1, hc1⟩ := w_block O p0 [] (n := 0) (sz := 1) rfl rfl
    have X1 : Rd ρ1 [] a (strs x) := X.keep (W1.tail hc1).fra
    refine w_app (P := P) O1 W1 0 (l := []) (n := 0) ti_ty_sl_string ti_ty_string (by decide) rfl rfl (X1.sl O1) (m := x.length) (by simp) allOne_strs (by omega) (by omega) fun oa oc h2 μ2 ρ2 O2 W2 => ?_
    simp only [oB_some, bC_true, bC_false, vInt_int, vBool_bool, vStr_string, vPtr_pointer, vSl_slice, vMap_map, vFun_func, vAgg_agg, vTup_tuple, vIfc_nil, vIfc_iface, lC_cons, lN_nil, aP_some, shO_none, shO_some, Option.isNone_none, Option.isNone_some, Bool.not_true, Bool.not_false]
    rw [Nat.zero_add]
    exact hq _ _ _ _ _ _ O2 W2 hc1
theorem grow_nil {n : Nat} (O : Own h μ ρ) (hn : n ≤ 1000000000) (hq : ∀ h' μ' ρ' co oa oc, Own h' μ' ρ' → Pcs ρ ρ' [co] [.sl oa oc 1 []] → ρ co = none → Q (.slice oa 0 oc) h') :
    EvQ P f_slices_Grow_sl_string_string [.slice none 0 0, .int .i64 (n : Int)] h Q := by
  refine r_slices_Grow_sl_string_string ?_
  rw [show decide ((n : Int) < 0) = false from decide_eq_false (by omega)]
  simp only [oB_some, bC_true, bC_false, vInt_int, vBool_bool, vStr_string, vPtr_pointer, vSl_slice, vMap_map, vFun_func, vAgg_agg, vTup_tuple, vIfc_nil, vIfc_iface, lC_cons, lN_nil, aP_some, shO_none, shO_some, Option.isNone_none, Option.isNone_some, Bool.not_true, Bool.not_false]
  refine r_slices_Grow_sl_string_string_3 ?_
  rw [show capB P h (Array.mk [ty_sl_string]) [Value.slice none 0 0] = some (goInt 0) from by unfold capB; simp only; rw [ti_ty_sl_string]; rfl]
  simp only [oB_some, bC_true, bC_false, vInt_int, vBool_bool, vStr_string, vPtr_pointer, vSl_slice, vMap_map, vFun_func, vAgg_agg, vTup_tuple, vIfc_nil, vIfc_iface, lC_cons, lN_nil, aP_some, shO_none, shO_some, Option.isNone_none, Option.isNone_some, Bool.not_true, Bool.not_false, goInt]
  rw [show IntKind.wrap .i64 ((n : Int) - IntKind.wrap .i64 ((0 : Int) - ((0 : Nat) : Int))) = (n : Int) from by
    rw [show IntKind.wrap .i64 ((0 : Int) - ((0 : Nat) : Int)) = 0 from by decide, wrap_small (n := (n : Int) - 0) (by omega) (by omega)]; omega]
  refine bC_iff (fun e => ?_) (fun e => ?_)
  · obtain ⟨ρ1, c1, O1, W1, hc1⟩ := w_nil O p0 1
    rw [show natBnd 0 0 = some 0 from rfl]
    simp only [oB_some, bC_true, bC_false, vInt_int, vBool_bool, vStr_string, vPtr_pointer, vSl_slice, vMap_map, vFun_func, vAgg_agg, vTup_tuple, vIfc_nil, vIfc_iface, lC_cons, lN_nil, aP_some, shO_none, shO_some, Option.isNone_none, Option.isNone_some, Bool.not_true, Bool.not_false, Nat.ble]
    refine w_appN (P := P) (m := n) O1 W1 0 (l := []) (n := 0) ti_ty_sl_string ti_ty_string ti_ty_int (by decide) rfl ?_ rfl rfl (by omega) (by omega) fun oa oc h2 μ2 ρ2 O2 W2 => ?_
    · show allOne (rep [.string _] n) = true
      rw [rep_one]; exact allOne_of fun v hv => by rw [(List.mem_replicate.1 hv).2]; rfl
    obtain ⟨ρ3, O3, W3⟩ := w_take O2 W2 0 rfl 0
    simp only [oB_some, bC_true, bC_false, vInt_int, vBool_bool, vStr_string, vPtr_pointer, vSl_slice, vMap_map, vFun_func, vAgg_agg, vTup_tuple, vIfc_nil, vIfc_iface, lC_cons, lN_nil, aP_some, shO_none, shO_some, Option.isNone_none, Option.isNone_some, Bool.not_true, Bool.not_false]
    rw [show natBnd ((0 : Nat) : Int) oc = some 0 from rfl]
    simp only [oB_some, bC_true, bC_false, vInt_int, vBool_bool, vStr_string, vPtr_pointer, vSl_slice, vMap_map, vFun_func, vAgg_agg, vTup_tuple, vIfc_nil, vIfc_iface, lC_cons, lN_nil, aP_some, shO_none, shO_some, Option.isNone_none, Option.isNone_some, Bool.not_true, Bool.not_false]
    rw [show Nat.ble 0 oc = true from rfl]
    simp only [oB_some, bC_true, bC_false, vInt_int, vBool_bool, vStr_string, vPtr_pointer, vSl_slice, vMap_map, vFun_func, vAgg_agg, vTup_tuple, vIfc_nil, vIfc_iface, lC_cons, lN_nil, aP_some, shO_none, shO_some, Option.isNone_none, Option.isNone_some, Bool.not_true, Bool.not_false]
    have Z : ∀ {f : Option Addr → Prop}, f oa → oB (shO oa 0) f := by
      intro f hf
      rcases w_sl O2 W2 0 rfl with ⟨rfl, _⟩ | ⟨i, off, rfl, _⟩ <;> exact hf
    exact Z (hq _ _ _ _ _ _ O3 W3 hc1)
  · have : n = 0 := by simp at e; omega
    subst this
    obtain ⟨ρ1, c1, O1, W1, hc1⟩ := w_nil O p0 1
    exact hq _ _ _ _ _ _ O1 W1 hc1

/-- Slices behind one another. -/
structure Part where
  a : Option Addr
  cap : Nat
  x : List Str
def Part.cell (p : Part) : Value := .slice p.a p.x.length p.cap
def total (l : List Part) : Nat := (l.map fun p => p.x.length).foldr (· + ·) 0
theorem total_cons {p : Part} {l : List Part} : total (p :: l) = p.x.length + total l := rfl
theorem concat_loop {parts : List Part} {a : Option Addr} {c : Nat} (X : Rd ρ [] a (parts.map Part.cell)) (hp : ∀ p, p ∈ parts → Rd ρ [] p.a (strs p.x)) (ht : total parts ≤ 1000000000) (hl : parts.length ≤ 1000000) :
    ∀ (n j : Nat) {h : AW} {μ : Paint} {ρ' : Store} {co : Nat} {oa : Option Addr} {oc : Nat} {out : List Str}, parts.length - j = n → j ≤ parts.length → Own h μ ρ' → Pcs ρ ρ' [co] [.sl oa oc 1 (strs out)] → ρ co = none → out.length + total (parts.drop j) ≤ 1000000000 →
      NewS Q ρ (out ++ (parts.drop j).flatMap Part.x) →
      unitAt P f_slices_Concat_sl_string_string 11 [6, 25, 26, 27] [.slice oa out.length oc, .slice a parts.length c, .int .i64 (parts.length : Int), .int .i64 (j : Int)] h Q := by
  intro n
  induction n with
  | zero =>
    intro j h μ ρ' co oa oc out hn hj O W hco ht hq
    refine r_slices_Concat_sl_string_string_11 ?_
    rw [geI (by omega)]
    simp only [oB_some, bC_true, bC_false, vInt_int, vBool_bool, vStr_string, vPtr_pointer, vSl_slice, vMap_map, vFun_func, vAgg_agg, vTup_tuple, vIfc_nil, vIfc_iface, lC_cons, lN_nil, aP_some, shO_none, shO_some, Option.isNone_none, Option.isNone_some, Bool.not_true, Bool.not_false]
    rw [List.drop_eq_nil_of_le (by omega)] at hq
    simp only [List.flatMap_nil, List.append_nil] at hq
    exact hq _ _ _ _ _ _ O W hco
  | succ n ih =>
    intro j h μ ρ' co oa oc out hn hj O W hco ht hq
    have hlt : j < parts.length := by omega
    have hd : parts.drop j = parts[j] :: parts.drop (j + 1) := List.drop_eq_getElem_cons hlt
    refine r_slices_Concat_sl_string_string_11 ?_
    rw [ltI hlt]
    simp only [oB_some, bC_true, bC_false, vInt_int, vBool_bool, vStr_string, vPtr_pointer, vSl_slice, vMap_map, vFun_func, vAgg_agg, vTup_tuple, vIfc_nil, vIfc_iface, lC_cons, lN_nil, aP_some, shO_none, shO_some, Option.isNone_none, Option.isNone_some, Bool.not_true, Bool.not_false]
    have F0 : Fra [] ρ ρ' := fun c r _ hc => W.fra c r (fun x => by simp at x; rw [x, hco] at hc; cases hc) hc
    refine ((X.keep F0).sl O).at1 (v := parts[j].cell) rfl (by simp) (by simp [hlt]) ?_
    simp only [Part.cell, oB_some, bC_true, bC_false, vInt_int, vBool_bool, vStr_string, vPtr_pointer, vSl_slice, vMap_map, vFun_func, vAgg_agg, vTup_tuple, vIfc_nil, vIfc_iface, lC_cons, lN_nil, aP_some, shO_none, shO_some, Option.isNone_none, Option.isNone_some, Bool.not_true, Bool.not_false]
    have Xj := (hp _ (List.getElem_mem hlt)).keep F0
    rw [hd, total_cons] at ht
    refine w_app (P := P) O W 0 ti_ty_sl_string ti_ty_string (by decide) rfl (by simp) (Xj.sl O) (m := parts[j].x.length) (by simp) allOne_strs (by omega) (by omega) fun oa oc h2 μ2 ρ2 O2 W2 => ?_
    simp only [oB_some, bC_true, bC_false, vInt_int, vBool_bool, vStr_string, vPtr_pointer, vSl_slice, vMap_map, vFun_func, vAgg_agg, vTup_tuple, vIfc_nil, vIfc_iface, lC_cons, lN_nil, aP_some, shO_none, shO_some, Option.isNone_none, Option.isNone_some, Bool.not_true, Bool.not_false]
    rw [wrapS (by omega), ← List.length_append]
    refine ih (j + 1) (by omega) (by omega) O2 (W2.eq (by simp)) hco (by simp; omega) ?_
    rw [hd, List.flatMap_cons, ← List.append_assoc] at hq
    exact hq
theorem concat_size {parts : List Part} {a : Option Addr} {c : Nat} (O : Own h μ ρ) (X : Rd ρ [] a (parts.map Part.cell)) (hp : ∀ p, p ∈ parts → Rd ρ [] p.a (strs p.x)) (ht : total parts ≤ 1000000000) (hl : parts.length ≤ 1000000) (hq : NewS Q ρ (parts.flatMap Part.x)) :
    ∀ (n j s : Nat), parts.length - j = n → j ≤ parts.length → s + total (parts.drop j) = total parts →
      unitAt P f_slices_Concat_sl_string_string 3 [0, 3, 9, 10, 11] [.slice a parts.length c, .int .i64 (s : Int), .slice a parts.length c, .int .i64 (parts.length : Int), .int .i64 (j : Int)] h Q := by
  intro n
  induction n with
  | zero =>
    intro j s hn hj hs
    refine r_slices_Concat_sl_string_string_3 ?_
    rw [geI (by omega)]
    simp only [oB_some, bC_true, bC_false, vInt_int, vBool_bool, vStr_string, vPtr_pointer, vSl_slice, vMap_map, vFun_func, vAgg_agg, vTup_tuple, vIfc_nil, vIfc_iface, lC_cons, lN_nil, aP_some, shO_none, shO_some, Option.isNone_none, Option.isNone_some, Bool.not_true, Bool.not_false]
    rw [List.drop_eq_nil_of_le (by omega)] at hs
    have hs : s = total parts := hs
    subst hs
    refine grow_nil O ht fun h1 μ1 ρ1 co oa oc O1 W1 hco => ?_
    simp only [oB_some, bC_true, bC_false, vInt_int, vBool_bool, vStr_string, vPtr_pointer, vSl_slice, vMap_map, vFun_func, vAgg_agg, vTup_tuple, vIfc_nil, vIfc_iface, lC_cons, lN_nil, aP_some, shO_none, shO_some, Option.isNone_none, Option.isNone_some, Bool.not_true, Bool.not_false]
    exact concat_loop X hp ht hl _ 0 (out := []) rfl (by omega) O1 W1 hco (by simpa using ht) (by simpa using hq)
  | succ n ih =>
    intro j s hn hj hs
    have hlt : j < parts.length := by omega
    have hd : parts.drop j = parts[j] :: parts.drop (j + 1) := List.drop_eq_getElem_cons hlt
    refine r_slices_Concat_sl_string_string_3 ?_
    rw [ltI hlt]
    simp only [oB_some, bC_true, bC_false, vInt_int, vBool_bool, vStr_string, vPtr_pointer, vSl_slice, vMap_map, vFun_func, vAgg_agg, vTup_tuple, vIfc_nil, vIfc_iface, lC_cons, lN_nil, aP_some, shO_none, shO_some, Option.isNone_none, Option.isNone_some, Bool.not_true, Bool.not_false]
    refine (X.sl O).at1 (v := parts[j].cell) rfl (by simp) (by simp [hlt]) ?_
    simp only [Part.cell, oB_some, bC_true, bC_false, vInt_int, vBool_bool, vStr_string, vPtr_pointer, vSl_slice, vMap_map, vFun_func, vAgg_agg, vTup_tuple, vIfc_nil, vIfc_iface, lC_cons, lN_nil, aP_some, shO_none, shO_some, Option.isNone_none, Option.isNone_some, Bool.not_true, Bool.not_false]
    rw [hd, total_cons] at hs
    rw [show IntKind.wrap .i64 ((s : Int) + (parts[j].x.length : Int)) = ((s + parts[j].x.length : Nat) : Int) from by rw [wrap_small (n := (s : Int) + (parts[j].x.length : Int)) (by omega) (by omega)]; omega]
    rw [show decide (((s + parts[j].x.length : Nat) : Int) < 0) = false from decide_eq_false (by omega), wrapS (by omega)]
    simp only [oB_some, bC_true, bC_false, vInt_int, vBool_bool, vStr_string, vPtr_pointer, vSl_slice, vMap_map, vFun_func, vAgg_agg, vTup_tuple, vIfc_nil, vIfc_iface, lC_cons, lN_nil, aP_some, shO_none, shO_some, Option.isNone_none, Option.isNone_some, Bool.not_true, Bool.not_false]
    exact ih (j + 1) _ (by omega) (by omega) (by omega)
theorem concat_ok {parts : List Part} {a : Option Addr} {c : Nat} (O : Own h μ ρ) (X : Rd ρ [] a (parts.map Part.cell)) (hp : ∀ p, p ∈ parts → Rd ρ [] p.a (strs p.x)) (ht : total parts ≤ 1000000000) (hl : parts.length ≤ 1000000) (hq : NewS Q ρ (parts.flatMap Part.x)) :
    EvQ P f_slices_Concat_sl_string_string [.slice a parts.length c] h Q :=
  r_slices_Concat_sl_string_string (concat_size O X hp ht hl hq _ 0 0 rfl (by omega) (by simp))

theorem min_loop {a : Option Addr} {x : List Str} {c : Nat} (X : Strs h a x) (hx : x.length < 1000000001) :
    ∀ (n k : Nat) (cur : Str), x.length - k = n → k ≤ x.length → Q (.string ((x.drop k).foldl (fun c t => if leqS c t then c else t) cur)) h →
      unitAt P f_slices_Min_sl_string_string 5 [0, 3, 4] [.slice a x.length c, .string cur, .int .i64 (k : Int)] h Q := by
  intro n
  induction n with
  | zero =>
    intro k cur hn hk hq
    refine r_slices_Min_sl_string_string_5 ?_
    rw [geI (by omega)]
    simp only [oB_some, bC_true, bC_false, vInt_int, vBool_bool, vStr_string, vPtr_pointer, vSl_slice, vMap_map, vFun_func, vAgg_agg, vTup_tuple, vIfc_nil, vIfc_iface, lC_cons, lN_nil, aP_some, shO_none, shO_some, Option.isNone_none, Option.isNone_some, Bool.not_true, Bool.not_false]
    rw [List.drop_eq_nil_of_le (by omega)] at hq
    exact hq
  | succ n ih =>
    intro k cur hn hk hq
    have hlt : k < x.length := by omega
    refine r_slices_Min_sl_string_string_5 ?_
    rw [ltI hlt]
    simp only [oB_some, bC_true, bC_false, vInt_int, vBool_bool, vStr_string, vPtr_pointer, vSl_slice, vMap_map, vFun_func, vAgg_agg, vTup_tuple, vIfc_nil, vIfc_iface, lC_cons, lN_nil, aP_some, shO_none, shO_some, Option.isNone_none, Option.isNone_some, Bool.not_true, Bool.not_false]
    refine sat1 X rfl rfl hlt ?_
    rw [wrapS (by omega)]
    rw [List.drop_eq_getElem_cons hlt] at hq
    exact ih (k + 1) _ (by omega) (by omega) hq
theorem min_ok {a : Option Addr} {x : List Str} {c : Nat} (X : Strs h a x) (hx : x.length < 1000000001) (h0 : 0 < x.length) (hq : Q (.string (minS x)) h) : EvQ P f_slices_Min_sl_string_string [.slice a x.length c] h Q := by
  refine r_slices_Min_sl_string_string ?_
  rw [show decide ((x.length : Int) < 1) = false from decide_eq_false (by omega)]
  simp only [oB_some, bC_true, bC_false, vInt_int, vBool_bool, vStr_string, vPtr_pointer, vSl_slice, vMap_map, vFun_func, vAgg_agg, vTup_tuple, vIfc_nil, vIfc_iface, lC_cons, lN_nil, aP_some, shO_none, shO_some, Option.isNone_none, Option.isNone_some, Bool.not_true, Bool.not_false]
  refine sat1 (j := 0) X rfl rfl h0 ?_
  refine min_loop X hx _ 1 _ rfl (by omega) ?_
  have : x.headD e0 = x[0] := by cases x with | nil => simp at h0 | cons y x => rfl
  unfold minS at hq; rw [this] at hq; exact hq

/-- A test of strings. -/
def Tests (f : FuncId) (l1 l2 : List Value) (p : Str → Bool) (c : Nat) (ρ : Store) : Prop :=
  ∀ h' μ' ρ' s Q', Own h' μ' ρ' → Fra [c] ρ ρ' → Q' (.bool (p s)) h' → EvQ P f (l1 ++ .string s :: l2) h' Q'
theorem indexf_loop {f : FuncId} {l1 l2 : List Value} {p : Str → Bool} {c0 : Nat} {a : Option Addr} {x : List Str} {c : Nat} (T : Tests f l1 l2 p c0 ρ) (O : Own h μ ρ) (X : Strs h a x) (hx : x.length < 1000000001) (hq : Q (.int .i64 (match x.findIdx? p with | some j => (j : Int) | none => -1)) h) :
    ∀ (n k : Nat), x.length - k = n → k ≤ x.length → (∀ j (hj : j < x.length), j < k → p x[j] = false) → unitAt P f_slices_IndexFunc_sl_string_string 2 [0, 1, 7, 8] [.slice a x.length c, .func (.func f) ⟨l1⟩ ⟨l2⟩, .int .i64 (x.length : Int), .int .i64 (k : Int)] h Q := by
  intro n
  induction n with
  | zero =>
    intro k hn hk he
    refine r_slices_IndexFunc_sl_string_string_2 ?_
    rw [geI (by omega)]
    simp only [oB_some, bC_true, bC_false, vInt_int, vBool_bool, vStr_string, vPtr_pointer, vSl_slice, vMap_map, vFun_func, vAgg_agg, vTup_tuple, vIfc_nil, vIfc_iface, lC_cons, lN_nil, aP_some, shO_none, shO_some, Option.isNone_none, Option.isNone_some, Bool.not_true, Bool.not_false]
    rw [List.findIdx?_eq_none_iff.2 fun t ht => ?_] at hq
    · exact hq
    · obtain ⟨j, hj, e⟩ := List.getElem_of_mem ht
      rw [← e]; exact he j hj (by omega)
  | succ n ih =>
    intro k hn hk he
    refine r_slices_IndexFunc_sl_string_string_2 ?_
    have hlt : k < x.length := by omega
    rw [ltI hlt]
    simp only [oB_some, bC_true, bC_false, vInt_int, vBool_bool, vStr_string, vPtr_pointer, vSl_slice, vMap_map, vFun_func, vAgg_agg, vTup_tuple, vIfc_nil, vIfc_iface, lC_cons, lN_nil, aP_some, shO_none, shO_some, Option.isNone_none, Option.isNone_some, Bool.not_true, Bool.not_false]
    refine sat1 X rfl rfl hlt ?_
    refine T _ _ _ _ _ O Fra.refl ?_
    simp only [oB_some, bC_true, bC_false, vInt_int, vBool_bool, vStr_string, vPtr_pointer, vSl_slice, vMap_map, vFun_func, vAgg_agg, vTup_tuple, vIfc_nil, vIfc_iface, lC_cons, lN_nil, aP_some, shO_none, shO_some, Option.isNone_none, Option.isNone_some, Bool.not_true, Bool.not_false]
    refine bC_iff (fun e => ?_) (fun e => ?_)
    · rw [List.findIdx?_eq_some_iff_getElem.2 ⟨hlt, e, fun j hj => by simpa using he j (by omega) hj⟩] at hq
      exact hq
    · rw [wrapS (by omega)]
      exact ih (k + 1) (by omega) (by omega) fun j hj hjk => by
        rcases Nat.lt_or_ge j k with h1 | h1
        · exact he j hj h1
        · have : j = k := by omega
          subst this; exact e
theorem del_loop {f : FuncId} {l1 l2 : List Value} {p : Str → Bool} {c0 : Nat} {b off cap : Nat} {x : List Str} (T : Tests f l1 l2 p c0 ρ) (hx : x.length < 1000000001)
    (hq : ∀ h' μ' ρ', Own h' μ' ρ' → Pcs ρ ρ' [c0] [.sl (some ⟨b, off, none⟩) cap 1 (strs (x.filter fun s => !p s))] → Q (.slice (some ⟨b, off, none⟩) (x.filter fun s => !p s).length cap) h') :
    ∀ (n i j : Nat) {h : AW} {μ : Paint} {ρ' : Store} {y : List Str}, x.length - j = n → i < j → j ≤ x.length → Own h μ ρ' → Pcs ρ ρ' [c0] [.sl (some ⟨b, off, none⟩) cap 1 (strs y)] → y.length = x.length → y.take i = (x.take j).filter (fun s => !p s) → y.drop j = x.drop j → i ≤ y.length →
      unitAt P f_slices_DeleteFunc_sl_string_string 5 [0, 1, 5, 6] [.slice (some ⟨b, off, none⟩) x.length cap, .func (.func f) ⟨l1⟩ ⟨l2⟩, .int .i64 (i : Int), .int .i64 (j : Int)] h Q := by
  intro n
  induction n with
  | zero =>
    intro i j h μ ρ' y hn hij hj O W hy ht hd hiy
    refine r_slices_DeleteFunc_sl_string_string_5 ?_
    rw [geI (by omega)]
    have hcap := w_cap O W 0 rfl
    simp only [List.length_map, Nat.mul_one] at hcap
    simp only [oB_some, bC_true, bC_false, vInt_int, vBool_bool, vStr_string, vPtr_pointer, vSl_slice, vMap_map, vFun_func, vAgg_agg, vTup_tuple, vIfc_nil, vIfc_iface, lC_cons, lN_nil, aP_some, shO_none, shO_some, Option.isNone_none, Option.isNone_some, Bool.not_true, Bool.not_false]
    rw [natBnd_eq (show i ≤ x.length by omega)]
    simp only [oB_some, bC_true, bC_false, vInt_int, vBool_bool, vStr_string, vPtr_pointer, vSl_slice, vMap_map, vFun_func, vAgg_agg, vTup_tuple, vIfc_nil, vIfc_iface, lC_cons, lN_nil, aP_some, shO_none, shO_some, Option.isNone_none, Option.isNone_some, Bool.not_true, Bool.not_false, Nat.ble_eq_true_of_le (show x.length ≤ cap by omega)]
    refine w_clear (P := P) O W 0 (n := x.length - i) (k := i) ti_ty_sl_string ti_ty_string rfl rfl (by simp; omega) ?_ fun h2 ρ2 O2 W2 => ?_
    · show allOne (rep [.string _] _) = true
      rw [rep_one]; exact allOne_of fun v hv => by rw [(List.mem_replicate.1 hv).2]; rfl
    rw [natBnd_eq (show i ≤ cap by omega)]
    simp only [oB_some, bC_true, bC_false, vInt_int, vBool_bool, vStr_string, vPtr_pointer, vSl_slice, vMap_map, vFun_func, vAgg_agg, vTup_tuple, vIfc_nil, vIfc_iface, lC_cons, lN_nil, aP_some, shO_none, shO_some, Option.isNone_none, Option.isNone_some, Bool.not_true, Bool.not_false, Nat.ble_eq_true_of_le (show i ≤ cap by omega)]
    obtain ⟨ρ3, O3, W3⟩ := w_take O2 W2 0 rfl i
    have e : j = x.length := by omega
    subst e
    rw [List.take_length] at ht
    have hlen : (x.filter fun s => !p s).length = i := by rw [← ht, List.length_take]; omega
    have := hq h2 μ ρ3 O3 (W3.eq (by
      simp only [List.set_cons_zero, List.cons.injEq, and_true, Nat.mul_one]
      rw [setAll_take, ← List.map_take, ht]))
    rw [hlen] at this
    exact this
  | succ n ih =>
    intro i j h μ ρ' y hn hij hj O W hy ht hd hiy
    have hlt : j < x.length := by omega
    refine r_slices_DeleteFunc_sl_string_string_5 ?_
    rw [ltI hlt]
    simp only [bC_true]
    have hyj : y[j]'(by omega) = x[j] := by
      have h1 : y[j]? = x[j]? := by
        have := congrArg (fun l => l[0]?) hd
        simpa using this
      rw [List.getElem?_eq_getElem hlt, List.getElem?_eq_getElem (by omega)] at h1
      exact Option.some.inj h1
    refine sat1 (w_sl O W 0 rfl) rfl hy.symm (by omega) ?_
    simp only [vFun_func]
    refine T _ _ _ _ _ O W.fra ?_
    simp only [vBool_bool]
    rw [wrapS (j := j) (by omega), hyj]
    refine bC_iff (fun e => ?_) (fun e => ?_)
    · have e : p x[j] = false := by simpa using e
      refine w_i1_wr O W 0 (j := i) rfl rfl (by simp [hy]) (by simp; omega) rfl fun h2 ρ2 O2 W2 => ?_
      rw [wrapS (j := i) (by omega)]
      refine ih (i + 1) (j + 1) (y := y.set i x[j]) (by omega) (by omega) (by omega) O2 (W2.eq (by simp [List.map_set])) (by simpa using hy) ?_ ?_ (by simp; omega)
      · rw [List.take_succ_eq_append_getElem (by simp; omega), List.take_set_of_le (by omega), ht, List.take_succ_eq_append_getElem hlt, List.filter_append]
        simp [e]
      · rw [List.drop_set_of_lt (by omega)]
        have := congrArg (List.drop 1) hd
        simpa [List.drop_drop, Nat.add_comm] using this
    · have e : p x[j] = true := by simpa using e
      refine ih i (j + 1) (by omega) (by omega) (by omega) O W hy ?_ ?_ hiy
      · rw [ht, List.take_succ_eq_append_getElem hlt, List.filter_append]
        simp [e]
      · have := congrArg (List.drop 1) hd
        simpa [List.drop_drop, Nat.add_comm] using this
theorem del_ok {f : FuncId} {l1 l2 : List Value} {p : Str → Bool} {c0 : Nat} {a : Option Addr} {cap : Nat} {x : List Str} (T : Tests f l1 l2 p c0 ρ) (hx : x.length < 1000000001) (O : Own h μ ρ) (hc : ρ c0 = some (.sl a cap 1 (strs x)))
    (hq : ∀ h' μ' ρ', Own h' μ' ρ' → Pcs ρ ρ' [c0] [.sl a cap 1 (strs (x.filter fun s => !p s))] → Q (.slice a (x.filter fun s => !p s).length cap) h') :
    EvQ P f_slices_DeleteFunc_sl_string_string [.slice a x.length cap, .func (.func f) ⟨l1⟩ ⟨l2⟩] h Q := by
  have W : Pcs ρ ρ [c0] [.sl a cap 1 (strs x)] := Pcs.init (by simp) rfl (by
    intro i c r h1 h2
    cases i with
    | zero => simp at h1 h2; subst h1 h2; exact hc
    | succ i => simp at h1)
  refine r_slices_DeleteFunc_sl_string_string ?_
  refine r_slices_IndexFunc_sl_string_string ?_
  refine indexf_loop T O (O.sl hc) hx ?_ x.length 0 (by omega) (by omega) (by intro j _ hj; omega)
  simp only [vInt_int]
  cases e : x.findIdx? p with
  | none =>
    have := List.findIdx?_eq_none_iff.1 e
    have hf : (x.filter fun s => !p s) = x := List.filter_eq_self.2 fun s hs => by simp [this s hs]
    simp only [show ((-1 : Int) == Int.negSucc 0) = true from rfl, bC_true]
    have := hq h μ ρ O (W.eq (by rw [hf]))
    rw [hf] at this; exact this
  | some j =>
    obtain ⟨hj, h1, h2⟩ := List.findIdx?_eq_some_iff_getElem.1 e
    simp only
    rw [show ((j : Int) == Int.negSucc 0) = false from by simp]
    simp only [bC_false]
    rw [wrapS (by omega)]
    obtain ⟨b, off, rfl⟩ : ∃ b off, a = some ⟨b, off, none⟩ := by
      rcases O.sl hc with ⟨_, e⟩ | ⟨i, off, e, _⟩
      · simp at e; subst e; simp at hj
      · exact ⟨i, off, e⟩
    refine del_loop T hx hq _ j (j + 1) rfl (by omega) hj O W rfl ?_ rfl (by omega)
    rw [List.take_succ_eq_append_getElem hj, List.filter_append]
    simp only [h1, Bool.not_true, List.filter_cons, Bool.false_eq_true, if_false, List.filter_nil, List.append_nil]
    refine (List.filter_eq_self.2 fun s hs => ?_).symm
    obtain ⟨k, hk, e2⟩ := List.getElem_of_mem hs
    rw [List.length_take] at hk
    have := h2 k (by omega)
    rw [List.getElem_take] at e2
    rw [← e2]; simpa using this
end Go.Proofs.YtgdkekdedgkglaaDoor
end

section
/- Rules of walks, printed by a program of ours: group Sched. -/
namespace Go.Proofs.YtgdkekdedgkglaaDoor
open Go.Abs
set_option maxRecDepth 100000
theorem r_sched_New {n1 : Int} {h : AW} {Q : Value → AW → Prop} (H : oP (makeSliceV P (AW.addMap h) ty_sl_string (Value.int IntKind.i64 (if 64 < if 1 > n1 then 1 else n1 then 64 else if 1 > n1
  then 1 else n1)) (Value.int IntKind.i64 (if 64 < if 1 > n1 then 1 else n1 then 64 else if 1 > n1 then 1 else n1))) fun v2 h3 => vSl v2 fun p4 m5 m6 => Q (Value.pointer (some
  (Addr.mk (AW.next h3) 0 none))) (AW.addVar h3 [Value.map (some (AW.next h)), Value.slice p4 m5 m6, Value.slice none 0 0, Value.int IntKind.i64 0, Value.int IntKind.i64 0,
  Value.int IntKind.i64 0, Value.int IntKind.i64 0, Value.int IntKind.i64 0])) : EvQ P f_sched_New [Value.int IntKind.i64 n1] h Q := fn_ok (n := 400) (ann := annOf []) (Eq.mp (by
  kernel_rfl) H)
theorem r_p_sched_Sched_Want {p1 : Option Addr} {p2 : Option Addr} {m3 : Nat} {m4 : Nat} {h : AW} {Q : Value → AW → Prop} (H : bC (Option.isNone p1) (Q (Value.int IntKind.i64 1) h) (EvQ P f_slices_Contains_sl_string_string
  [Value.slice p2 m3 m4, Value.string (ByteArray.mk #[])] h fun v5 h6 => vBool v5 fun b7 => bC b7 (Q (Value.int IntKind.i64 2) h6) (unitAt P f_p_sched_Sched_Want 6 [0, 14, 15, 16] [Value.pointer
  p1, Value.slice p2 m3 m4, Value.int IntKind.i64 (↑m3 : Int), Value.int IntKind.i64 0] h6 Q))) : EvQ P f_p_sched_Sched_Want [Value.pointer p1, Value.slice p2 m3 m4] h Q := fn_ok (n := 400) (ann
  := annOf [(6, [0, 14, 15, 16])]) (Eq.mp (by kernel_rfl) H)
theorem r_p_sched_Sched_Want_6 {p1 : Option Addr} {p2 : Option Addr} {m3 : Nat} {m4 : Nat} {n5 : Int} {n6 : Int} {h : AW} {Q : Value → AW → Prop} (H : bC (decide (n6 < n5)) (aP p2 fun m7 m8 =>
  oB (natIdx n6 m3) fun m9 => oB (AW.rd h m7 (m8 + m9 * 1)) fun v10 => vStr v10 fun s11 => aP p1 fun m12 m13 => oB (AW.rd h m12 m13) fun v14 => vMap v14 fun p15 => oB (AW.mapL h
  p15) fun l16 => oB (Abs.look TypeDesc.string (Value.string s11) l16) fun p17 => vPtr (Option.getD p17 (Value.pointer none)) fun p18 => bC (Option.isNone p18) (aP p1 fun m19 m20
  => oB (AW.rd (AW.addVar h [Value.int IntKind.i64 0, Value.string (ByteArray.mk #[]), Value.slice none 0 0, Value.int IntKind.i64 0]) m19 m20) fun v21 => vMap v21 fun p22 => oB
  (mapUpdV P (AW.addVar h [Value.int IntKind.i64 0, Value.string (ByteArray.mk #[]), Value.slice none 0 0, Value.int IntKind.i64 0]) ty_map_string_p_sched_task (Value.map p22) (Value.string s11)
  (Value.pointer (some (Addr.mk (AW.next h) 0 none)))) fun h23 => EvQ P f_p_sched_Sched_ready [Value.pointer p1, Value.string s11, Value.pointer (some (Addr.mk (AW.next h) 0 none))] h23 fun v24 h25
  => unitAt P f_p_sched_Sched_Want 6 [0, 14, 15, 16] [Value.pointer p1, Value.slice p2 m3 m4, Value.int IntKind.i64 n5, Value.int IntKind.i64 (IntKind.wrap IntKind.i64 (n6 + 1))] h25 Q) (unitAt P
  f_p_sched_Sched_Want 6 [0, 14, 15, 16] [Value.pointer p1, Value.slice p2 m3 m4, Value.int IntKind.i64 n5, Value.int IntKind.i64 (IntKind.wrap IntKind.i64 (n6 + 1))] h Q)) (Q (Value.int
  IntKind.i64 0) h)) : unitAt P f_p_sched_Sched_Want 6 [0, 14, 15, 16] [Value.pointer p1, Value.slice p2 m3 m4, Value.int IntKind.i64 n5, Value.int IntKind.i64 n6] h Q := unit_ok (n := 400) (ann
  := annOf [(6, [0, 14, 15, 16])]) (Eq.mp (by kernel_rfl) H)
theorem r_p_sched_Sched_Over {p1 : Option Addr} {h : AW} {Q : Value → AW → Prop} (H : bC (!Option.isNone p1) (EvQ P f_p_sched_Sched_live [Value.pointer p1] h fun v2 h3 => vBool v2 fun b4 => bC (!b4) (aP p1 fun
  m5 m6 => oB (natIdx 3 5) fun m7 => oB (AW.rd h3 m5 (m6 + 3 + m7 * 1)) fun v8 => vInt IntKind.i64 v8 fun n9 => Q (Value.bool (n9 == 0)) h3) (Q (Value.bool false) h3)) (Q
  (Value.bool false) h)) : EvQ P f_p_sched_Sched_Over [Value.pointer p1] h Q := fn_ok (n := 400) (ann := annOf []) (Eq.mp (by kernel_rfl) H)
theorem r_p_sched_Sched_Fill {p1 : Option Addr} {h : AW} {Q : Value → AW → Prop} (H : bC (Option.isNone p1) (Q (Value.slice none 0 0) h) (aP p1 fun m2 m3 => oB (AW.rd h m2 (m3 + 1)) fun v4 =>
  vSl v4 fun p5 m6 m7 => unitAt P f_p_sched_Sched_Fill 5 [0, 3, 13, 14, 15] [Value.pointer p1, Value.slice none 0 0, Value.slice p5 m6 m7, Value.int IntKind.i64 (↑m6 : Int), Value.int IntKind.i64
  0] h Q)) : EvQ P f_p_sched_Sched_Fill [Value.pointer p1] h Q := fn_ok (n := 400) (ann := annOf [(5, [0, 3, 13, 14, 15])]) (Eq.mp (by kernel_rfl) H)
theorem r_p_sched_Sched_Fill_5 {p1 : Option Addr} {p2 : Option Addr} {m3 : Nat} {m4 : Nat} {p5 : Option Addr} {m6 : Nat} {m7 : Nat} {n8 : Int} {n9 : Int} {h : AW} {Q : Value → AW → Prop} (H : bC
  (decide (n9 < n8)) (aP p5 fun m10 m11 => oB (natIdx n9 m6) fun m12 => oB (AW.rd h m10 (m11 + m12 * 1)) fun v13 => vStr v13 fun s14 => bC (!bEq s14 (ByteArray.mk #[])) (unitAt P
  f_p_sched_Sched_Fill 5 [0, 3, 13, 14, 15] [Value.pointer p1, Value.slice p2 m3 m4, Value.slice p5 m6 m7, Value.int IntKind.i64 n8, Value.int IntKind.i64 (IntKind.wrap IntKind.i64 (n9 + 1))] h Q)
  (aP p1 fun m15 m16 => oB (AW.rd h m15 (m16 + 2)) fun v17 => vSl v17 fun p18 m19 m20 => bC ((↑m19 : Int) == 0) (unitAt P f_p_sched_Sched_Fill 5 [0, 3, 13, 14, 15] [Value.pointer p1, Value.slice
  p2 m3 m4, Value.slice p5 m6 m7, Value.int IntKind.i64 n8, Value.int IntKind.i64 (IntKind.wrap IntKind.i64 (n9 + 1))] h Q) (aP p1 fun m21 m22 => oB (AW.rd h m21 (m22 + 2)) fun v23
  => vSl v23 fun p24 m25 m26 => aP p24 fun m27 m28 => oB (natIdx 0 m25) fun m29 => oB (AW.rd h m27 (m28 + m29 * 1)) fun v30 => vStr v30 fun s31 => aP p1 fun m32 m33 => oB (AW.rd h
  m32 (m33 + 2)) fun v34 => vSl v34 fun p35 m36 m37 => oB (natBnd 1 m36) fun m38 => bC (Nat.ble m36 m37) (oB (shO p35 (m38 * 1)) fun p39 => aP p1 fun m40 m41 => oB (AW.wr h m40
  (m41 + 2) (Value.slice p39 (m36 - m38) (m37 - m38))) fun h42 => aP p1 fun m43 m44 => oB (AW.rd h42 m43 (m44 + 1)) fun v45 => vSl v45 fun p46 m47 m48 => aP p46 fun m49 m50 => oB
  (natIdx n9 m47) fun m51 => oB (AW.wr h42 m49 (m50 + m51 * 1) (Value.string s31)) fun h52 => aP p1 fun m53 m54 => oB (AW.rd h52 m53 m54) fun v55 => vMap v55 fun p56 => oB (AW.mapL
  h52 p56) fun l57 => oB (Abs.look TypeDesc.string (Value.string s31) l57) fun p58 => vPtr (Option.getD p58 (Value.pointer none)) fun p59 => EvQ P f_p_sched_Sched_turn [Value.pointer p1,
  Value.pointer p59, Value.int IntKind.i64 2] h52 fun v60 h61 => aP p59 fun m62 m63 => oB (AW.rd h61 m62 (m63 + 3)) fun v64 => vInt IntKind.i64 v64 fun n65 => aP p59 fun m66 m67 =>
  oB (AW.wr h61 m66 (m67 + 3) (Value.int IntKind.i64 (IntKind.wrap IntKind.i64 (n65 + 1)))) fun h68 => oP (appendB P (AW.addVar h68 [Value.string s31]) (Array.mk [ty_sl_string, ty_sl_string])
  [Value.slice p2 m3 m4, Value.slice (some (Addr.mk (AW.next h68) 0 none)) 1 1]) fun v69 h70 => vSl v69 fun p71 m72 m73 => unitAt P f_p_sched_Sched_Fill 5 [0, 3, 13, 14, 15] [Value.pointer p1,
  Value.slice p71 m72 m73, Value.slice p5 m6 m7, Value.int IntKind.i64 n8, Value.int IntKind.i64 (IntKind.wrap IntKind.i64 (n9 + 1))] h70 Q) False))) (Q (Value.slice p2 m3 m4) h))
  : unitAt P f_p_sched_Sched_Fill 5 [0, 3, 13, 14, 15] [Value.pointer p1, Value.slice p2 m3 m4, Value.slice p5 m6 m7, Value.int IntKind.i64 n8, Value.int IntKind.i64 n9] h Q := unit_ok (n := 400)
  (ann := annOf [(5, [0, 3, 13, 14, 15])]) (Eq.mp (by kernel_rfl) H)
theorem r_p_sched_Sched_Pick {p1 : Option Addr} {n2 : Int} {h : AW} {Q : Value → AW → Prop} (H : oB (AW.rd (AW.addVar (AW.addVar h [Value.pointer p1]) [Value.int IntKind.i64 n2]) (AW.next h) 0)
  fun v3 => vPtr v3 fun p4 => bC (Option.isNone p4) (Q (Value.tuple (Array.mk [Value.string (ByteArray.mk #[]), Value.bool false])) (AW.addVar (AW.addVar h [Value.pointer p1])
  [Value.int IntKind.i64 n2])) (oB (AW.rd (AW.addVar (AW.addVar h [Value.pointer p1]) [Value.int IntKind.i64 n2]) (AW.next h) 0) fun v5 => vPtr v5 fun p6 => aP p6 fun m7 m8 => oB
  (natIdx 2 5) fun m9 => oB (AW.rd (AW.addVar (AW.addVar h [Value.pointer p1]) [Value.int IntKind.i64 n2]) m7 (m8 + 3 + m9 * 1)) fun v10 => vInt IntKind.i64 v10 fun n11 => bC (n11
  == 0) (Q (Value.tuple (Array.mk [Value.string (ByteArray.mk #[]), Value.bool false])) (AW.addVar (AW.addVar h [Value.pointer p1]) [Value.int IntKind.i64 n2])) (oB (AW.rd
  (AW.addVar (AW.addVar h [Value.pointer p1]) [Value.int IntKind.i64 n2]) (AW.next h) 0) fun v12 => vPtr v12 fun p13 => aP p13 fun m14 m15 => oB (AW.rd (AW.addVar (AW.addVar h
  [Value.pointer p1]) [Value.int IntKind.i64 n2]) m14 (m15 + 1)) fun v16 => vSl v16 fun p17 m18 m19 => oB (AW.wr (AW.addVar (AW.addVar (AW.addVar h [Value.pointer p1]) [Value.int
  IntKind.i64 n2]) [Value.int IntKind.i64 0]) (AW.next (AW.addVar (AW.addVar h [Value.pointer p1]) [Value.int IntKind.i64 n2])) 0 (Value.int IntKind.i64 (↑m18 : Int))) fun h20 =>
  unitAt P f_p_sched_Sched_Pick 6 [7, 8] [Value.func (Fn.func f_p_sched_Sched_Pick_fn1) (Array.mk []) (Array.mk [Value.pointer (some (Addr.mk (AW.next h) 0 none)), Value.pointer (some (Addr.mk (AW.next (AW.addVar h
  [Value.pointer p1])) 0 none)), Value.pointer (some (Addr.mk (AW.next (AW.addVar (AW.addVar h [Value.pointer p1]) [Value.int IntKind.i64 n2])) 0 none))]), Value.int IntKind.i64 0]
  h20 Q))) : EvQ P f_p_sched_Sched_Pick [Value.pointer p1, Value.int IntKind.i64 n2] h Q := fn_ok (n := 400) (ann := annOf [(6, [7, 8])]) (Eq.mp (by kernel_rfl) H)
theorem r_p_sched_Sched_Pick_6 {m1 : Nat} {m2 : Nat} {m3 : Nat} {n4 : Int} {h : AW} {Q : Value → AW → Prop} (H : EvQ P f_p_sched_Sched_Pick_fn1 [Value.int IntKind.i64 n4, Value.pointer (some (Addr.mk m1 0 none)),
  Value.pointer (some (Addr.mk m2 0 none)), Value.pointer (some (Addr.mk m3 0 none))] h fun v5 h6 => vStr v5 fun s7 => bC (bEq s7 (ByteArray.mk #[])) (unitAt P f_p_sched_Sched_Pick 6 [7, 8]
  [Value.func (Fn.func f_p_sched_Sched_Pick_fn1) (Array.mk []) (Array.mk [Value.pointer (some (Addr.mk m1 0 none)), Value.pointer (some (Addr.mk m2 0 none)), Value.pointer (some (Addr.mk m3 0
  none))]), Value.int IntKind.i64 (IntKind.wrap IntKind.i64 (n4 + 1))] h6 Q) (EvQ P f_p_sched_Sched_Pick_fn1 [Value.int IntKind.i64 n4, Value.pointer (some (Addr.mk m1 0 none)), Value.pointer (some
  (Addr.mk m2 0 none)), Value.pointer (some (Addr.mk m3 0 none))] h6 fun v8 h9 => vStr v8 fun s10 => Q (Value.tuple (Array.mk [Value.string s10, Value.bool true])) h9)) : unitAt P
  f_p_sched_Sched_Pick 6 [7, 8] [Value.func (Fn.func f_p_sched_Sched_Pick_fn1) (Array.mk []) (Array.mk [Value.pointer (some (Addr.mk m1 0 none)), Value.pointer (some (Addr.mk m2 0 none)), Value.pointer (some (Addr.mk
  m3 0 none))]), Value.int IntKind.i64 n4] h Q := unit_ok (n := 400) (ann := annOf [(6, [7, 8])]) (Eq.mp (by kernel_rfl) H)
theorem r_p_sched_Sched_Done {p1 : Option Addr} {s2 : ByteArray} {h : AW} {Q : Value → AW → Prop} (H : bC (Option.isNone p1) (Q (Value.int IntKind.i64 1) (AW.addVar h [Value.string s2])) (aP p1
  fun m3 m4 => oB (AW.rd (AW.addVar h [Value.string s2]) m3 m4) fun v5 => vMap v5 fun p6 => oB (AW.rd (AW.addVar h [Value.string s2]) (AW.next h) 0) fun v7 => vStr v7 fun s8 => oB
  (AW.mapL (AW.addVar h [Value.string s2]) p6) fun l9 => oB (Abs.look TypeDesc.string (Value.string s8) l9) fun p10 => vPtr (Option.getD p10 (Value.pointer none)) fun p11 => oB
  (AW.rd (AW.addVar h [Value.string s2]) (AW.next h) 0) fun v12 => vStr v12 fun s13 => EvQ P f_p_sched_Sched_State [Value.pointer p1, Value.string s13] (AW.addVar h [Value.string s2]) fun v14 h15
  => vInt IntKind.i64 v14 fun n16 => bC (n16 == 2) (oB (AW.rd h15 (AW.next h) 0) fun v17 => vStr v17 fun s18 => EvQ P f_p_sched_Sched_leave [Value.pointer p1, Value.string s18] h15 fun v19 h20 =>
  EvQ P f_p_sched_Sched_turn [Value.pointer p1, Value.pointer p11, Value.int IntKind.i64 4] h20 fun v21 h22 => aP p11 fun m23 m24 => oB (AW.rd h22 m23 (m24 + 2)) fun v25 => vSl v25 fun p26 m27 m28
  => unitAt P f_p_sched_Sched_Done 13 [0, 3, 5, 51, 52, 53] [Value.pointer p1, Value.pointer (some (Addr.mk (AW.next h) 0 none)), Value.pointer p11, Value.slice p26 m27 m28, Value.int IntKind.i64
  (↑m27 : Int), Value.int IntKind.i64 0] h22 Q) (bC (n16 == 3) (aP p1 fun m29 m30 => oB (AW.rd h15 m29 m30) fun v31 => vMap v31 fun p32 => aP p11 fun m33 m34 => oB (AW.rd h15 m33
  (m34 + 1)) fun v35 => vStr v35 fun s36 => oB (AW.mapL h15 p32) fun l37 => oB (Abs.look TypeDesc.string (Value.string s36) l37) fun p38 => vPtr (Option.getD p38 (Value.pointer
  none)) fun p39 => aP p39 fun m40 m41 => oB (AW.rd h15 m40 (m41 + 2)) fun v42 => vSl v42 fun p43 m44 m45 => EvQ P f_slices_DeleteFunc_sl_string_string [Value.slice p43 m44 m45, Value.func (Fn.func f_p_sched_Sched_Done_fn1)
  (Array.mk []) (Array.mk [Value.pointer (some (Addr.mk (AW.next h) 0 none))])] h15 fun v46 h47 => vSl v46 fun p48 m49 m50 => aP p39 fun m51 m52 => oB (AW.wr h47 m51 (m52 + 2)
  (Value.slice p48 m49 m50)) fun h53 => EvQ P f_p_sched_Sched_turn [Value.pointer p1, Value.pointer p11, Value.int IntKind.i64 4] h53 fun v54 h55 => aP p11 fun m56 m57 => oB (AW.rd h55 m56 (m57 +
  2)) fun v58 => vSl v58 fun p59 m60 m61 => unitAt P f_p_sched_Sched_Done 13 [0, 3, 5, 51, 52, 53] [Value.pointer p1, Value.pointer (some (Addr.mk (AW.next h) 0 none)), Value.pointer p11,
  Value.slice p59 m60 m61, Value.int IntKind.i64 (↑m60 : Int), Value.int IntKind.i64 0] h55 Q) (Q (Value.int IntKind.i64 4) h15)))) : EvQ P f_p_sched_Sched_Done [Value.pointer p1, Value.string s2]
  h Q := fn_ok (n := 400) (ann := annOf [(13, [0, 3, 5, 51, 52, 53])]) (Eq.mp (by kernel_rfl) H)
theorem r_p_sched_Sched_Done_13 {p1 : Option Addr} {m2 : Nat} {p3 : Option Addr} {p4 : Option Addr} {m5 : Nat} {m6 : Nat} {n7 : Int} {n8 : Int} {h : AW} {Q : Value → AW → Prop} (H : bC (decide
  (n8 < n7)) (aP p4 fun m9 m10 => oB (natIdx n8 m5) fun m11 => oB (AW.rd h m9 (m10 + m11 * 1)) fun v12 => vStr v12 fun s13 => oB (AW.rd h m2 0) fun v14 => vStr v14 fun s15 => bC
  (!bEq s13 s15) (aP p1 fun m16 m17 => oB (AW.rd h m16 m17) fun v18 => vMap v18 fun p19 => oB (AW.mapL h p19) fun l20 => oB (Abs.look TypeDesc.string (Value.string s13) l20) fun
  p21 => vPtr (Option.getD p21 (Value.pointer none)) fun p22 => EvQ P f_p_sched_Sched_ready [Value.pointer p1, Value.string s13, Value.pointer p22] h fun v23 h24 => unitAt P f_p_sched_Sched_Done 13 [0, 3, 5, 51,
  52, 53] [Value.pointer p1, Value.pointer (some (Addr.mk m2 0 none)), Value.pointer p3, Value.slice p4 m5 m6, Value.int IntKind.i64 n7, Value.int IntKind.i64 (IntKind.wrap
  IntKind.i64 (n8 + 1))] h24 Q) (unitAt P f_p_sched_Sched_Done 13 [0, 3, 5, 51, 52, 53] [Value.pointer p1, Value.pointer (some (Addr.mk m2 0 none)), Value.pointer p3, Value.slice p4 m5 m6,
  Value.int IntKind.i64 n7, Value.int IntKind.i64 (IntKind.wrap IntKind.i64 (n8 + 1))] h Q)) (aP p3 fun m25 m26 => oB (AW.wr h m25 (m26 + 2) (Value.slice none 0 0)) fun h27 => Q
  (Value.int IntKind.i64 0) h27)) : unitAt P f_p_sched_Sched_Done 13 [0, 3, 5, 51, 52, 53] [Value.pointer p1, Value.pointer (some (Addr.mk m2 0 none)), Value.pointer p3, Value.slice p4 m5 m6,
  Value.int IntKind.i64 n7, Value.int IntKind.i64 n8] h Q := unit_ok (n := 400) (ann := annOf [(13, [0, 3, 5, 51, 52, 53])]) (Eq.mp (by kernel_rfl) H)
theorem r_p_sched_Sched_Starts {p1 : Option Addr} {s2 : ByteArray} {h : AW} {Q : Value → AW → Prop} (H : bC (Option.isNone p1) (Q (Value.int IntKind.i64 0) h) (aP p1 fun m3 m4 => oB (AW.rd h m3
  m4) fun v5 => vMap v5 fun p6 => oB (AW.mapL h p6) fun l7 => oB (Abs.look TypeDesc.string (Value.string s2) l7) fun p8 => vPtr (Option.getD p8 (Value.pointer none)) fun p9 => bC
  (Option.isNone p9) (Q (Value.int IntKind.i64 0) h) (aP p1 fun m10 m11 => oB (AW.rd h m10 m11) fun v12 => vMap v12 fun p13 => oB (AW.mapL h p13) fun l14 => oB (Abs.look
  TypeDesc.string (Value.string s2) l14) fun p15 => vPtr (Option.getD p15 (Value.pointer none)) fun p16 => aP p16 fun m17 m18 => oB (AW.rd h m17 (m18 + 3)) fun v19 => vInt
  IntKind.i64 v19 fun n20 => Q (Value.int IntKind.i64 n20) h))) : EvQ P f_p_sched_Sched_Starts [Value.pointer p1, Value.string s2] h Q := fn_ok (n := 400) (ann := annOf []) (Eq.mp (by kernel_rfl) H)
theorem r_p_sched_Sched_Stuck {p1 : Option Addr} {h : AW} {Q : Value → AW → Prop} (H : bC (!Option.isNone p1) (EvQ P f_p_sched_Sched_live [Value.pointer p1] h fun v2 h3 => vBool v2 fun b4 => bC (!b4) (aP p1 fun
  m5 m6 => oB (natIdx 3 5) fun m7 => oB (AW.rd h3 m5 (m6 + 3 + m7 * 1)) fun v8 => vInt IntKind.i64 v8 fun n9 => Q (Value.bool (decide (n9 > 0))) h3) (Q (Value.bool false) h3)) (Q
  (Value.bool false) h)) : EvQ P f_p_sched_Sched_Stuck [Value.pointer p1] h Q := fn_ok (n := 400) (ann := annOf []) (Eq.mp (by kernel_rfl) H)
theorem r_p_sched_Sched_State {p1 : Option Addr} {s2 : ByteArray} {h : AW} {Q : Value → AW → Prop} (H : bC (Option.isNone p1) (Q (Value.int IntKind.i64 0) h) (aP p1 fun m3 m4 => oB (AW.rd h m3
  m4) fun v5 => vMap v5 fun p6 => oB (AW.mapL h p6) fun l7 => oB (Abs.look TypeDesc.string (Value.string s2) l7) fun p8 => vPtr (Option.getD p8 (Value.pointer none)) fun p9 => bC
  (Option.isNone p9) (Q (Value.int IntKind.i64 0) h) (aP p1 fun m10 m11 => oB (AW.rd h m10 m11) fun v12 => vMap v12 fun p13 => oB (AW.mapL h p13) fun l14 => oB (Abs.look
  TypeDesc.string (Value.string s2) l14) fun p15 => vPtr (Option.getD p15 (Value.pointer none)) fun p16 => aP p16 fun m17 m18 => oB (AW.rd h m17 m18) fun v19 => vInt IntKind.i64
  v19 fun n20 => Q (Value.int IntKind.i64 n20) h))) : EvQ P f_p_sched_Sched_State [Value.pointer p1, Value.string s2] h Q := fn_ok (n := 400) (ann := annOf []) (Eq.mp (by kernel_rfl) H)
theorem r_p_sched_Sched_Wait {p1 : Option Addr} {s2 : ByteArray} {s3 : ByteArray} {h : AW} {Q : Value → AW → Prop} (H : bC (Option.isNone p1) (Q (Value.tuple (Array.mk [Value.slice none 0 0,
  Value.int IntKind.i64 1])) h) (bC (bEq s3 (ByteArray.mk #[])) (Q (Value.tuple (Array.mk [Value.slice none 0 0, Value.int IntKind.i64 2])) h) (EvQ P f_p_sched_Sched_State [Value.pointer p1,
  Value.string s2] h fun v4 h5 => vInt IntKind.i64 v4 fun n6 => bC (n6 != 2) (Q (Value.tuple (Array.mk [Value.slice none 0 0, Value.int IntKind.i64 4])) h5) (EvQ P f_p_sched_Sched_State
  [Value.pointer p1, Value.string s3] h5 fun v7 h8 => vInt IntKind.i64 v7 fun n9 => bC (n9 == 4) (Q (Value.tuple (Array.mk [Value.slice none 0 0, Value.int IntKind.i64 0])) h8)
  (EvQ P f_p_sched_Sched_Want [Value.pointer p1, Value.slice (some (Addr.mk (AW.next h8) 0 none)) 1 1] (AW.addVar h8 [Value.string s3]) fun v10 h11 => vInt IntKind.i64 v10 fun n12 => aP p1 fun m13
  m14 => oB (AW.rd h11 m13 m14) fun v15 => vMap v15 fun p16 => oB (AW.mapL h11 p16) fun l17 => oB (Abs.look TypeDesc.string (Value.string s2) l17) fun p18 => vPtr (Option.getD p18
  (Value.pointer none)) fun p19 => EvQ P f_p_sched_Sched_turn [Value.pointer p1, Value.pointer p19, Value.int IntKind.i64 3] h11 fun v20 h21 => aP p19 fun m22 m23 => oB (AW.wr h21 m22 (m23 + 1)
  (Value.string s3)) fun h24 => aP p1 fun m25 m26 => oB (AW.rd h24 m25 m26) fun v27 => vMap v27 fun p28 => oB (AW.mapL h24 p28) fun l29 => oB (Abs.look TypeDesc.string
  (Value.string s3) l29) fun p30 => vPtr (Option.getD p30 (Value.pointer none)) fun p31 => aP p1 fun m32 m33 => oB (AW.rd h24 m32 m33) fun v34 => vMap v34 fun p35 => oB (AW.mapL
  h24 p35) fun l36 => oB (Abs.look TypeDesc.string (Value.string s3) l36) fun p37 => vPtr (Option.getD p37 (Value.pointer none)) fun p38 => aP p38 fun m39 m40 => oB (AW.rd h24 m39
  (m40 + 2)) fun v41 => vSl v41 fun p42 m43 m44 => oP (appendB P (AW.addVar h24 [Value.string s2]) (Array.mk [ty_sl_string, ty_sl_string]) [Value.slice p42 m43 m44, Value.slice (some (Addr.mk
  (AW.next h24) 0 none)) 1 1]) fun v45 h46 => vSl v45 fun p47 m48 m49 => aP p31 fun m50 m51 => oB (AW.wr h46 m50 (m51 + 2) (Value.slice p47 m48 m49)) fun h52 => oB (AW.rd
  (AW.addVar h24 [Value.string s2]) m25 m26) fun v53 => vMap v53 fun p54 => Value.map p54 = Value.map p28 ∧ oB (AW.rd h46 m25 m26) fun v55 => vMap v55 fun p56 => Value.map p56 =
  Value.map p28 ∧ oB (AW.mapL (AW.addVar h24 [Value.string s2]) p28) fun l57 => oB (Abs.look TypeDesc.string (Value.string s3) l57) fun p58 => vPtr (Option.getD p58 (Value.pointer
  none)) fun p59 => Value.pointer p59 = Value.pointer p31 ∧ oB (AW.mapL h46 p28) fun l60 => oB (Abs.look TypeDesc.string (Value.string s3) l60) fun p61 => vPtr (Option.getD p61
  (Value.pointer none)) fun p62 => Value.pointer p62 = Value.pointer p31 ∧ oB (AW.rd (AW.addVar h24 [Value.string s2]) m32 m33) fun v63 => vMap v63 fun p64 => Value.map p64 =
  Value.map p35 ∧ oB (AW.mapL (AW.addVar h24 [Value.string s2]) p35) fun l65 => oB (Abs.look TypeDesc.string (Value.string s3) l65) fun p66 => vPtr (Option.getD p66 (Value.pointer
  none)) fun p67 => Value.pointer p67 = Value.pointer p38 ∧ oB (AW.rd (AW.addVar h24 [Value.string s2]) m39 (m40 + 2)) fun v68 => vSl v68 fun p69 m70 m71 => Value.slice p69 m70 m71
  = Value.slice p42 m43 m44 ∧ EvQ P f_p_sched_Sched_leave [Value.pointer p1, Value.string s2] h52 fun v72 h73 => EvQ P f_p_sched_Sched_circle [Value.pointer p1, Value.string s2] h73 fun v74 h75 => vSl v74 fun p76
  m77 m78 => Q (Value.tuple (Array.mk [Value.slice p76 m77 m78, Value.int IntKind.i64 0])) h75))))) : EvQ P f_p_sched_Sched_Wait [Value.pointer p1, Value.string s2, Value.string s3] h Q := fn_ok
  (n := 400) (ann := annOf []) (Eq.mp (by kernel_rfl) H)
theorem r_p_sched_Sched_Slots {p1 : Option Addr} {h : AW} {Q : Value → AW → Prop} (H : bC (Option.isNone p1) (Q (Value.slice none 0 0) h) (aP p1 fun m2 m3 => oB (AW.rd h m2 (m3 + 1)) fun v4 =>
  vSl v4 fun p5 m6 m7 => EvQ P f_slices_Clone_sl_string_string [Value.slice p5 m6 m7] h fun v8 h9 => vSl v8 fun p10 m11 m12 => Q (Value.slice p10 m11 m12) h9)) : EvQ P f_p_sched_Sched_Slots [Value.pointer p1] h Q := fn_ok (n
  := 400) (ann := annOf []) (Eq.mp (by kernel_rfl) H)
theorem r_p_sched_Sched_Queue {p1 : Option Addr} {h : AW} {Q : Value → AW → Prop} (H : bC (Option.isNone p1) (Q (Value.slice none 0 0) h) (aP p1 fun m2 m3 => oB (AW.rd h m2 (m3 + 2)) fun v4 =>
  vSl v4 fun p5 m6 m7 => bC ((↑m6 : Int) == 0) (Q (Value.slice none 0 0) h) (aP p1 fun m8 m9 => oB (AW.rd h m8 (m9 + 2)) fun v10 => vSl v10 fun p11 m12 m13 => EvQ P f_slices_Clone_sl_string_string
  [Value.slice p11 m12 m13] h fun v14 h15 => vSl v14 fun p16 m17 m18 => Q (Value.slice p16 m17 m18) h15))) : EvQ P f_p_sched_Sched_Queue [Value.pointer p1] h Q := fn_ok (n := 400) (ann := annOf [])
  (Eq.mp (by kernel_rfl) H)
theorem r_p_sched_Sched_ready {p1 : Option Addr} {s2 : ByteArray} {p3 : Option Addr} {h : AW} {Q : Value → AW → Prop} (H : EvQ P f_p_sched_Sched_turn [Value.pointer p1, Value.pointer p3, Value.int IntKind.i64 1]
  h fun v4 h5 => aP p1 fun m6 m7 => oB (AW.rd h5 m6 (m7 + 2)) fun v8 => vSl v8 fun p9 m10 m11 => oP (appendB P (AW.addVar h5 [Value.string s2]) (Array.mk [ty_sl_string, ty_sl_string])
  [Value.slice p9 m10 m11, Value.slice (some (Addr.mk (AW.next h5) 0 none)) 1 1]) fun v12 h13 => vSl v12 fun p14 m15 m16 => aP p1 fun m17 m18 => oB (AW.wr h13 m17 (m18 + 2)
  (Value.slice p14 m15 m16)) fun h19 => Q (Value.tuple (Array.mk [])) h19) : EvQ P f_p_sched_Sched_ready [Value.pointer p1, Value.string s2, Value.pointer p3] h Q := fn_ok (n := 400) (ann := annOf
  []) (Eq.mp (by kernel_rfl) H)
theorem r_p_sched_Sched_live {p1 : Option Addr} {h : AW} {Q : Value → AW → Prop} (H : aP p1 fun m2 m3 => oB (natIdx 1 5) fun m4 => oB (AW.rd h m2 (m3 + 3 + m4 * 1)) fun v5 => vInt IntKind.i64 v5
  fun n6 => aP p1 fun m7 m8 => oB (natIdx 2 5) fun m9 => oB (AW.rd h m7 (m8 + 3 + m9 * 1)) fun v10 => vInt IntKind.i64 v10 fun n11 => Q (Value.bool (decide (IntKind.wrap
  IntKind.i64 (n6 + n11) > 0))) h) : EvQ P f_p_sched_Sched_live [Value.pointer p1] h Q := fn_ok (n := 400) (ann := annOf []) (Eq.mp (by kernel_rfl) H)
theorem r_p_sched_Sched_turn {p1 : Option Addr} {p2 : Option Addr} {n3 : Int} {h : AW} {Q : Value → AW → Prop} (H : aP p2 fun m4 m5 => oB (AW.rd h m4 m5) fun v6 => vInt IntKind.i64 v6 fun n7 =>
  aP p1 fun m8 m9 => oB (natIdx n7 5) fun m10 => oB (AW.rd h m8 (m9 + 3 + m10 * 1)) fun v11 => vInt IntKind.i64 v11 fun n12 => aP p1 fun m13 m14 => oB (natIdx n7 5) fun m15 => oB
  (AW.wr h m13 (m14 + 3 + m15 * 1) (Value.int IntKind.i64 (IntKind.wrap IntKind.i64 (n12 - 1)))) fun h16 => aP p1 fun m17 m18 => oB (natIdx n3 5) fun m19 => oB (AW.rd h16 m17 (m18
  + 3 + m19 * 1)) fun v20 => vInt IntKind.i64 v20 fun n21 => aP p1 fun m22 m23 => oB (natIdx n3 5) fun m24 => oB (AW.wr h16 m22 (m23 + 3 + m24 * 1) (Value.int IntKind.i64
  (IntKind.wrap IntKind.i64 (n21 + 1)))) fun h25 => aP p2 fun m26 m27 => oB (AW.wr h25 m26 m27 (Value.int IntKind.i64 n3)) fun h28 => Q (Value.tuple (Array.mk [])) h28) : EvQ P
  f_p_sched_Sched_turn [Value.pointer p1, Value.pointer p2, Value.int IntKind.i64 n3] h Q := fn_ok (n := 400) (ann := annOf []) (Eq.mp (by kernel_rfl) H)
theorem r_p_sched_Sched_Pick_fn1 {n1 : Int} {m2 : Nat} {m3 : Nat} {m4 : Nat} {m5 : Nat} {m6 : Nat} {m7 : Nat} {h : AW} {Q : Value → AW → Prop} (H : oB (AW.rd h m2 m3) fun v8 => vPtr v8 fun p9 => aP
  p9 fun m10 m11 => oB (AW.rd h m10 (m11 + 1)) fun v12 => vSl v12 fun p13 m14 m15 => oB (AW.rd h m4 m5) fun v16 => vInt IntKind.i64 v16 fun n17 => oB (AW.rd h m6 m7) fun v18 =>
  vInt IntKind.i64 v18 fun n19 => bC (decide (n19 = 0)) False (oB (AW.rd h m6 m7) fun v20 => vInt IntKind.i64 v20 fun n21 => oB (AW.rd h m6 m7) fun v22 => vInt IntKind.i64 v22 fun
  n23 => bC (decide (n23 = 0)) False (oB (AW.rd h m6 m7) fun v24 => vInt IntKind.i64 v24 fun n25 => bC (decide (n25 = 0)) False (aP p13 fun m26 m27 => oB (natIdx (Int.tmod
  (IntKind.wrap IntKind.i64 (Int.tmod (IntKind.wrap IntKind.i64 (Int.tmod n17 n19 + n21)) n23 + n1)) n25) m14) fun m28 => oB (AW.rd h m26 (m27 + m28 * 1)) fun v29 => vStr v29 fun
  s30 => Q (Value.string s30) h)))) : EvQ P f_p_sched_Sched_Pick_fn1 [Value.int IntKind.i64 n1, Value.pointer (some (Addr.mk m2 m3 none)), Value.pointer (some (Addr.mk m4 m5 none)), Value.pointer
  (some (Addr.mk m6 m7 none))] h Q := fn_ok (n := 400) (ann := annOf []) (Eq.mp (by kernel_rfl) H)
theorem r_p_sched_Sched_leave {p1 : Option Addr} {s2 : ByteArray} {h : AW} {Q : Value → AW → Prop} (H : aP p1 fun m3 m4 => oB (AW.rd h m3 (m4 + 1)) fun v5 => vSl v5 fun p6 m7 m8 => aP p1 fun m9
  m10 => oB (AW.rd h m9 (m10 + 1)) fun v11 => vSl v11 fun p12 m13 m14 => EvQ P f_slices_Index_sl_string_string [Value.slice p12 m13 m14, Value.string s2] h fun v15 h16 => vInt IntKind.i64 v15 fun n17 => aP
  p6 fun m18 m19 => oB (natIdx n17 m7) fun m20 => oB (AW.wr h16 m18 (m19 + m20 * 1) (Value.string (ByteArray.mk #[]))) fun h21 => oB (AW.rd h16 m3 (m4 + 1)) fun v22 => vSl v22 fun
  p23 m24 m25 => Value.slice p23 m24 m25 = Value.slice p6 m7 m8 ∧ Q (Value.tuple (Array.mk [])) h21) : EvQ P f_p_sched_Sched_leave [Value.pointer p1, Value.string s2] h Q := fn_ok (n := 400) (ann
  := annOf []) (Eq.mp (by kernel_rfl) H)
theorem r_p_sched_Sched_Done_fn1 {s1 : ByteArray} {m2 : Nat} {m3 : Nat} {h : AW} {Q : Value → AW → Prop} (H : oB (AW.rd h m2 m3) fun v4 => vStr v4 fun s5 => Q (Value.bool (bEq s1 s5)) h) : EvQ P
  f_p_sched_Sched_Done_fn1 [Value.string s1, Value.pointer (some (Addr.mk m2 m3 none))] h Q := fn_ok (n := 400) (ann := annOf []) (Eq.mp (by kernel_rfl) H)
theorem r_p_sched_Sched_circle {p1 : Option Addr} {s2 : ByteArray} {h : AW} {Q : Value → AW → Prop} (H : unitAt P f_p_sched_Sched_circle 3 [0, 1, 5, 6] [Value.pointer p1, Value.string s2, Value.slice none 0 0,
  Value.string s2] h Q) : EvQ P f_p_sched_Sched_circle [Value.pointer p1, Value.string s2] h Q := fn_ok (n := 400) (ann := annOf [(3, [0, 1, 5, 6])]) (Eq.mp (by kernel_rfl) H)
theorem r_p_sched_Sched_circle_3 {p1 : Option Addr} {s2 : ByteArray} {p3 : Option Addr} {m4 : Nat} {m5 : Nat} {s6 : ByteArray} {h : AW} {Q : Value → AW → Prop} (H : aP p1 fun m7 m8 => oB (AW.rd h
  m7 m8) fun v9 => vMap v9 fun p10 => oB (AW.mapL h p10) fun l11 => oB (Abs.look TypeDesc.string (Value.string s6) l11) fun p12 => vPtr (Option.getD p12 (Value.pointer none)) fun
  p13 => aP p13 fun m14 m15 => oB (AW.rd h m14 m15) fun v16 => vInt IntKind.i64 v16 fun n17 => bC (n17 != 3) (Q (Value.slice none 0 0) h) (EvQ P f_slices_Contains_sl_string_string [Value.slice p3 m4 m5,
  Value.string s6] h fun v18 h19 => vBool v18 fun b20 => bC b20 (Q (Value.slice none 0 0) h19) (oP (appendB P (AW.addVar h19 [Value.string s6]) (Array.mk [ty_sl_string, ty_sl_string])
  [Value.slice p3 m4 m5, Value.slice (some (Addr.mk (AW.next h19) 0 none)) 1 1]) fun v21 h22 => vSl v21 fun p23 m24 m25 => aP p13 fun m26 m27 => oB (AW.rd h22 m26 (m27 + 1)) fun
  v28 => vStr v28 fun s29 => bC (bEq s29 s2) (EvQ P f_slices_Min_sl_string_string [Value.slice p23 m24 m25] h22 fun v30 h31 => vStr v30 fun s32 => EvQ P f_slices_Index_sl_string_string [Value.slice p23 m24 m25, Value.string s32]
  h31 fun v33 h34 => vInt IntKind.i64 v33 fun n35 => oB (natBnd n35 m24) fun m36 => bC (Nat.ble m24 m25) (oB (shO p23 (m36 * 1)) fun p37 => oB (natBnd n35 m25) fun m38 => bC
  (Nat.ble m38 m25) (oB (shO p23 0) fun p39 => EvQ P f_slices_Concat_sl_string_string [Value.slice (some (Addr.mk (AW.next h34) 0 none)) 2 2] (AW.addVar h34 [Value.slice p37 (m24 - m36) (m25 - m36),
  Value.slice p39 (m38 - 0) (m25 - 0)]) fun v40 h41 => vSl v40 fun p42 m43 m44 => Q (Value.slice p42 m43 m44) h41) False) False) (unitAt P f_p_sched_Sched_circle 3 [0, 1, 5, 6] [Value.pointer p1,
  Value.string s2, Value.slice p23 m24 m25, Value.string s29] h22 Q)))) : unitAt P f_p_sched_Sched_circle 3 [0, 1, 5, 6] [Value.pointer p1, Value.string s2, Value.slice p3 m4 m5, Value.string s6] h
  Q := unit_ok (n := 400) (ann := annOf [(3, [0, 1, 5, 6])]) (Eq.mp (by kernel_rfl) H)
end Go.Proofs.YtgdkekdedgkglaaDoor
end

section
/- The scheduler: what its functions come to, first part. -/
namespace Go.Proofs.YtgdkekdedgkglaaDoor
open Go.Abs Go.Abs.Sch
set_option maxRecDepth 100000
attribute [local irreducible] unitAt EvQ
variable {h : AW} {μ : Paint} {ρ : Store} {Q : Value → AW → Prop}

/-- A task, and where it lies. -/
structure IT where
  m : MT
  n1 : Nat
  n2 : Nat
  id : Nat
  wa : Option Addr
  wc : Nat
def IT.cells (x : IT) : List Value := [.int .i64 x.m.st, .string x.m.on, .slice x.wa x.m.ws.length x.wc, .int .i64 x.m.starts]
def IT.rs (x : IT) : List Res := [.var x.id x.cells, .sl x.wa x.wc 1 (strs x.m.ws)]
def IT.ns (x : IT) : List Nat := [x.n1, x.n2]
theorem it_rs (x : IT) : x.rs.length = 2 := rfl
theorem it_ns (x : IT) : x.ns.length = 2 := rfl
structure IM where
  t : List IT
  slots : List Str
  queue : List Str
  n0 : Nat
  n1 : Nat
  n2 : Nat
  n3 : Nat
  p : Nat
  mp : Nat
  sa : Option Addr
  sc : Nat
  qa : Option Addr
  qc : Nat
def IM.ts (I : IM) : List MT := I.t.map IT.m
def IM.m (I : IM) : MI := ⟨I.ts, I.slots, I.queue⟩
def ents (l : List IT) : List (Str × Value) := l.map fun x => (x.m.key, .pointer (some ⟨x.id, 0, none⟩))
def IM.head (I : IM) : List Value := [.map (some I.mp), .slice I.sa I.slots.length I.sc, .slice I.qa I.queue.length I.qc, .int .i64 (manyOf I.ts 0), .int .i64 (manyOf I.ts 1), .int .i64 (manyOf I.ts 2), .int .i64 (manyOf I.ts 3), .int .i64 (manyOf I.ts 4)]
abbrev IM.ns (I : IM) : List Nat := I.n0 :: I.n1 :: I.n2 :: I.n3 :: I.t.flatMap IT.ns
abbrev IM.rs (I : IM) : List Res := .var I.p I.head :: .map I.mp (keyd (ents I.t)) :: .sl I.sa I.sc 1 (strs I.slots) :: .sl I.qa I.qc 1 (strs I.queue) :: I.t.flatMap IT.rs
abbrev ImpAt (ρ : Store) (I : IM) : Prop := Pcs ρ ρ I.ns I.rs

def iget (l : List IT) (k : Str) : Option IT := l.find? fun x => bEq x.m.key k
theorem iget_m : ∀ (l : List IT) (k : Str), mget (l.map IT.m) k = (iget l k).map IT.m
  | [], k => rfl
  | x :: l, k => by
    have ih := iget_m l k
    unfold mget iget at *
    rw [List.map_cons, List.find?_cons, List.find?_cons]
    cases bEq x.m.key k
    · simp only; exact ih
    · rfl
theorem look_ents : ∀ (l : List IT) (k : Str), lookS k (ents l) = (iget l k).map fun x => .pointer (some ⟨x.id, 0, none⟩)
  | [], k => rfl
  | x :: l, k => by
    have ih := look_ents l k
    unfold iget ents at *
    rw [List.map_cons, lookS, List.find?_cons]
    by_cases e : x.m.key = k
    · subst e; simp
    · rw [if_neg e, bEq_false.2 e]; exact ih
/-- Where a task of the list stands. -/
theorem iget_at : ∀ {l : List IT} {k : Str} {x : IT}, iget l k = some x → x.m.key = k ∧ ∃ j, l[j]? = some x ∧ j < l.length
  | [], k, x, h => by simp [iget] at h
  | y :: l, k, x, h => by
    unfold iget at h
    rw [List.find?_cons] at h
    cases e : bEq y.m.key k with
    | true =>
      rw [e] at h; simp at h; subst h
      exact ⟨bEq_iff.1 e, 0, rfl, by simp⟩
    | false =>
      rw [e] at h
      obtain ⟨a, j, b, c⟩ := iget_at (l := l) h
      exact ⟨a, j + 1, by simpa using b, by simp; omega⟩
theorem t_rs {l : List IT} {j k : Nat} {x : IT} (hx : l[j]? = some x) (hk : k < 2) {r0 r1 r2 r3 : Res} : (r0 :: r1 :: r2 :: r3 :: l.flatMap IT.rs)[4 + (j * 2 + k)]? = x.rs[k]? := by
  rw [show 4 + (j * 2 + k) = (j * 2 + k) + 1 + 1 + 1 + 1 from by omega]
  simp only [List.getElem?_cons_succ]
  rw [flat_get it_rs hk, hx]; rfl
theorem t_ns {l : List IT} {j k : Nat} {x : IT} (hx : l[j]? = some x) (hk : k < 2) {r0 r1 r2 r3 : Nat} : (r0 :: r1 :: r2 :: r3 :: l.flatMap IT.ns)[4 + (j * 2 + k)]? = x.ns[k]? := by
  rw [show 4 + (j * 2 + k) = (j * 2 + k) + 1 + 1 + 1 + 1 from by omega]
  simp only [List.getElem?_cons_succ]
  rw [flat_get it_ns hk, hx]; rfl
theorem t_set {l : List IT} {j k : Nat} {x x' : IT} {r : Res} (hx : l[j]? = some x) (hk : k < 2) (hr : x'.rs = x.rs.set k r) {r0 r1 r2 r3 : Res} : (r0 :: r1 :: r2 :: r3 :: l.flatMap IT.rs).set (4 + (j * 2 + k)) r = r0 :: r1 :: r2 :: r3 :: (l.set j x').flatMap IT.rs := by
  rw [show 4 + (j * 2 + k) = (j * 2 + k) + 1 + 1 + 1 + 1 from by omega]
  simp only [List.set_cons_succ]
  rw [flat_set it_rs hk hr l j hx]
theorem ns_set {l : List IT} {j : Nat} {x x' : IT} (hx : l[j]? = some x) (hn : x'.ns = x.ns) : (l.set j x').flatMap IT.ns = l.flatMap IT.ns := by
  have : (l.set j x').map IT.ns = l.map IT.ns := by
    rw [List.map_set, hn]
    apply List.ext_getElem?
    intro i
    rw [List.getElem?_set]
    split
    · rename_i e; subst e
      split
      · rw [List.getElem?_map, hx]; rfl
      · rename_i hi; rw [List.getElem?_eq_none (by omega)]
    · rfl
  rw [List.flatMap_def, List.flatMap_def, this]
theorem i_look (O : Own h μ ρ) {ρ0 : Store} {ns : List Nat} {rs : List Res} (W : Pcs ρ0 ρ ns rs) (i : Nat) {p : Nat} {l : List IT} (hr : rs[i]? = some (.map p (keyd (ents l)))) (k : Str) {f : Option Addr → Prop} (H : f ((iget l k).map fun x => ⟨x.id, 0, none⟩)) :
    oB (h.mapL (some p)) fun l => oB (Abs.look TypeDesc.string (.string k) l) fun p => vPtr (p.getD (.pointer none)) f := by
  refine w_mapL O W i hr ?_
  rw [look_keyd, look_ents]
  simp only [oB_some]
  cases e : iget l k with
  | none => rw [e] at H; exact H
  | some x => rw [e] at H; exact H

theorem i_state_ok {I : IM} {k : Str} (O : Own h μ ρ) (R : ImpAt ρ I) (hq : Q (.int .i64 (mst I.ts k : Nat)) h) : EvQ P f_p_sched_Sched_State [.pointer (some ⟨I.p, 0, none⟩), .string k] h Q := by
  refine r_p_sched_Sched_State ?_
  simp only [oB_some, bC_true, bC_false, vInt_int, vBool_bool, vStr_string, vPtr_pointer, vSl_slice, vMap_map, vFun_func, vAgg_agg, vTup_tuple, vIfc_nil, vIfc_iface, lC_cons, lN_nil, aP_some, shO_none, shO_some, Option.isNone_none, Option.isNone_some, Bool.not_true, Bool.not_false]
  refine w_rd O R 0 (j := 0) rfl rfl ?_
  simp only [oB_some, bC_true, bC_false, vInt_int, vBool_bool, vStr_string, vPtr_pointer, vSl_slice, vMap_map, vFun_func, vAgg_agg, vTup_tuple, vIfc_nil, vIfc_iface, lC_cons, lN_nil, aP_some, shO_none, shO_some, Option.isNone_none, Option.isNone_some, Bool.not_true, Bool.not_false]
  refine i_look O R 1 rfl k ?_
  unfold mst IM.ts at hq
  rw [iget_m] at hq
  cases e : iget I.t k with
  | none =>
    rw [e] at hq
    simp only [Option.map_none, oB_some, bC_true, bC_false, vInt_int, vBool_bool, vStr_string, vPtr_pointer, vSl_slice, vMap_map, vFun_func, vAgg_agg, vTup_tuple, vIfc_nil, vIfc_iface, lC_cons, lN_nil, aP_some, shO_none, shO_some, Option.isNone_none, Option.isNone_some, Bool.not_true, Bool.not_false]; exact hq
  | some x =>
    rw [e] at hq
    obtain ⟨_, j, hx, _⟩ := iget_at e
    simp only [Option.map_some, oB_some, bC_true, bC_false, vInt_int, vBool_bool, vStr_string, vPtr_pointer, vSl_slice, vMap_map, vFun_func, vAgg_agg, vTup_tuple, vIfc_nil, vIfc_iface, lC_cons, lN_nil, aP_some, shO_none, shO_some, Option.isNone_none, Option.isNone_some, Bool.not_true, Bool.not_false]
    refine w_rd O R 0 (j := 0) rfl rfl ?_
    simp only [oB_some, bC_true, bC_false, vInt_int, vBool_bool, vStr_string, vPtr_pointer, vSl_slice, vMap_map, vFun_func, vAgg_agg, vTup_tuple, vIfc_nil, vIfc_iface, lC_cons, lN_nil, aP_some, shO_none, shO_some, Option.isNone_none, Option.isNone_some, Bool.not_true, Bool.not_false]
    refine i_look O R 1 rfl k ?_
    simp only [e, Option.map_some, oB_some, bC_true, bC_false, vInt_int, vBool_bool, vStr_string, vPtr_pointer, vSl_slice, vMap_map, vFun_func, vAgg_agg, vTup_tuple, vIfc_nil, vIfc_iface, lC_cons, lN_nil, aP_some, shO_none, shO_some, Option.isNone_none, Option.isNone_some, Bool.not_true, Bool.not_false]
    refine w_rd O R (4 + (j * 2 + 0)) (j := 0) (t_rs hx (by omega)) rfl ?_
    simp only [oB_some, bC_true, bC_false, vInt_int, vBool_bool, vStr_string, vPtr_pointer, vSl_slice, vMap_map, vFun_func, vAgg_agg, vTup_tuple, vIfc_nil, vIfc_iface, lC_cons, lN_nil, aP_some, shO_none, shO_some, Option.isNone_none, Option.isNone_some, Bool.not_true, Bool.not_false]
    exact hq
theorem i_starts_ok {I : IM} {k : Str} (O : Own h μ ρ) (R : ImpAt ρ I) (hq : Q (.int .i64 (mstarts I.ts k : Nat)) h) : EvQ P f_p_sched_Sched_Starts [.pointer (some ⟨I.p, 0, none⟩), .string k] h Q := by
  refine r_p_sched_Sched_Starts ?_
  simp only [oB_some, bC_true, bC_false, vInt_int, vBool_bool, vStr_string, vPtr_pointer, vSl_slice, vMap_map, vFun_func, vAgg_agg, vTup_tuple, vIfc_nil, vIfc_iface, lC_cons, lN_nil, aP_some, shO_none, shO_some, Option.isNone_none, Option.isNone_some, Bool.not_true, Bool.not_false]
  refine w_rd O R 0 (j := 0) rfl rfl ?_
  simp only [oB_some, bC_true, bC_false, vInt_int, vBool_bool, vStr_string, vPtr_pointer, vSl_slice, vMap_map, vFun_func, vAgg_agg, vTup_tuple, vIfc_nil, vIfc_iface, lC_cons, lN_nil, aP_some, shO_none, shO_some, Option.isNone_none, Option.isNone_some, Bool.not_true, Bool.not_false]
  refine i_look O R 1 rfl k ?_
  unfold mstarts IM.ts at hq
  rw [iget_m] at hq
  cases e : iget I.t k with
  | none =>
    rw [e] at hq
    simp only [Option.map_none, oB_some, bC_true, bC_false, vInt_int, vBool_bool, vStr_string, vPtr_pointer, vSl_slice, vMap_map, vFun_func, vAgg_agg, vTup_tuple, vIfc_nil, vIfc_iface, lC_cons, lN_nil, aP_some, shO_none, shO_some, Option.isNone_none, Option.isNone_some, Bool.not_true, Bool.not_false]; exact hq
  | some x =>
    rw [e] at hq
    obtain ⟨_, j, hx, _⟩ := iget_at e
    simp only [Option.map_some, oB_some, bC_true, bC_false, vInt_int, vBool_bool, vStr_string, vPtr_pointer, vSl_slice, vMap_map, vFun_func, vAgg_agg, vTup_tuple, vIfc_nil, vIfc_iface, lC_cons, lN_nil, aP_some, shO_none, shO_some, Option.isNone_none, Option.isNone_some, Bool.not_true, Bool.not_false]
    refine w_rd O R 0 (j := 0) rfl rfl ?_
    simp only [oB_some, bC_true, bC_false, vInt_int, vBool_bool, vStr_string, vPtr_pointer, vSl_slice, vMap_map, vFun_func, vAgg_agg, vTup_tuple, vIfc_nil, vIfc_iface, lC_cons, lN_nil, aP_some, shO_none, shO_some, Option.isNone_none, Option.isNone_some, Bool.not_true, Bool.not_false]
    refine i_look O R 1 rfl k ?_
    simp only [e, Option.map_some, oB_some, bC_true, bC_false, vInt_int, vBool_bool, vStr_string, vPtr_pointer, vSl_slice, vMap_map, vFun_func, vAgg_agg, vTup_tuple, vIfc_nil, vIfc_iface, lC_cons, lN_nil, aP_some, shO_none, shO_some, Option.isNone_none, Option.isNone_some, Bool.not_true, Bool.not_false]
    refine w_rd O R (4 + (j * 2 + 0)) (j := 3) (t_rs hx (by omega)) rfl ?_
    simp only [oB_some, bC_true, bC_false, vInt_int, vBool_bool, vStr_string, vPtr_pointer, vSl_slice, vMap_map, vFun_func, vAgg_agg, vTup_tuple, vIfc_nil, vIfc_iface, lC_cons, lN_nil, aP_some, shO_none, shO_some, Option.isNone_none, Option.isNone_some, Bool.not_true, Bool.not_false]
    exact hq

theorem turn_raw {ρ0 : Store} {ns : List Nat} {rs : List Res} (O : Own h μ ρ) (W : Pcs ρ0 ρ ns rs) (im it : Nat) {p id a b : Nat} {lm lt : List Value} {ca cb : Int}
    (hm : rs[im]? = some (.var p lm)) (ht : rs[it]? = some (.var id lt)) (hne : im ≠ it) (ha : lt[0]? = some (.int .i64 (a : Int))) (ha5 : a < 5) (hb5 : b < 5) (hml : lm.length = 8)
    (hca : lm[3 + a]? = some (.int .i64 ca)) (hcb : (lm.set (3 + a) (.int .i64 (ca - 1)))[3 + b]? = some (.int .i64 cb)) (r1 : -1000000000 ≤ ca) (r2 : ca ≤ 1000000000) (r3 : -1000000000 ≤ cb) (r4 : cb ≤ 1000000000)
    (H : ∀ h' ρ', Own h' μ ρ' → Pcs ρ0 ρ' ns ((rs.set im (.var p ((lm.set (3 + a) (.int .i64 (ca - 1))).set (3 + b) (.int .i64 (cb + 1))))).set it (.var id (lt.set 0 (.int .i64 (b : Int))))) → Q (.tuple #[]) h') :
    EvQ P f_p_sched_Sched_turn [.pointer (some ⟨p, 0, none⟩), .pointer (some ⟨id, 0, none⟩), .int .i64 (b : Int)] h Q := by
  have him := (List.getElem?_eq_some_iff.1 hm).1
  have hit := (List.getElem?_eq_some_iff.1 ht).1
  have hlt := (List.getElem?_eq_some_iff.1 ha).1
  refine r_p_sched_Sched_turn ?_
  simp only [oB_some, bC_true, bC_false, vInt_int, vBool_bool, vStr_string, vPtr_pointer, vSl_slice, vMap_map, vFun_func, vAgg_agg, vTup_tuple, vIfc_nil, vIfc_iface, lC_cons, lN_nil, aP_some, shO_none, shO_some, Option.isNone_none, Option.isNone_some, Bool.not_true, Bool.not_false]
  refine w_rd O W it (j := 0) ht ha ?_
  simp only [oB_some, bC_true, bC_false, vInt_int, vBool_bool, vStr_string, vPtr_pointer, vSl_slice, vMap_map, vFun_func, vAgg_agg, vTup_tuple, vIfc_nil, vIfc_iface, lC_cons, lN_nil, aP_some, shO_none, shO_some, Option.isNone_none, Option.isNone_some, Bool.not_true, Bool.not_false]
  rw [natIdx_eq ha5]
  simp only [oB_some, bC_true, bC_false, vInt_int, vBool_bool, vStr_string, vPtr_pointer, vSl_slice, vMap_map, vFun_func, vAgg_agg, vTup_tuple, vIfc_nil, vIfc_iface, lC_cons, lN_nil, aP_some, shO_none, shO_some, Option.isNone_none, Option.isNone_some, Bool.not_true, Bool.not_false]
  refine w_rd O W im (j := 0 + 3 + a * 1) hm (by rw [show 0 + 3 + a * 1 = 3 + a from by omega]; exact hca) ?_
  simp only [oB_some, bC_true, bC_false, vInt_int, vBool_bool, vStr_string, vPtr_pointer, vSl_slice, vMap_map, vFun_func, vAgg_agg, vTup_tuple, vIfc_nil, vIfc_iface, lC_cons, lN_nil, aP_some, shO_none, shO_some, Option.isNone_none, Option.isNone_some, Bool.not_true, Bool.not_false]
  rw [wrap_sm (n := ca - 1) (by omega) (by omega)]
  refine w_wr O W im (j := 0 + 3 + a * 1) hm (by omega) rfl fun h1 ρ1 O1 W1 => ?_
  simp only [Nat.zero_add, Nat.mul_one] at W1
  rw [natIdx_eq hb5]
  simp only [oB_some, bC_true, bC_false, vInt_int, vBool_bool, vStr_string, vPtr_pointer, vSl_slice, vMap_map, vFun_func, vAgg_agg, vTup_tuple, vIfc_nil, vIfc_iface, lC_cons, lN_nil, aP_some, shO_none, shO_some, Option.isNone_none, Option.isNone_some, Bool.not_true, Bool.not_false]
  have hm1 : (rs.set im (.var p (lm.set (3 + a) (.int .i64 (ca - 1)))))[im]? = some (.var p (lm.set (3 + a) (.int .i64 (ca - 1)))) := by simp [him]
  refine w_rd O1 W1 im (j := 0 + 3 + b * 1) hm1 (by rw [show 0 + 3 + b * 1 = 3 + b from by omega]; exact hcb) ?_
  simp only [oB_some, bC_true, bC_false, vInt_int, vBool_bool, vStr_string, vPtr_pointer, vSl_slice, vMap_map, vFun_func, vAgg_agg, vTup_tuple, vIfc_nil, vIfc_iface, lC_cons, lN_nil, aP_some, shO_none, shO_some, Option.isNone_none, Option.isNone_some, Bool.not_true, Bool.not_false]
  rw [wrap_sm (n := cb + 1) (by omega) (by omega)]
  refine w_wr O1 W1 im (j := 0 + 3 + b * 1) hm1 (by simp; omega) rfl fun h2 ρ2 O2 W2 => ?_
  simp only [Nat.zero_add, Nat.mul_one, List.set_set] at W2
  refine w_wr O2 W2 it (j := 0) (by rw [List.getElem?_set_ne hne]; exact ht) hlt rfl fun h3 ρ3 O3 W3 => ?_
  exact H _ _ O3 W3
abbrev IT.as (x : IT) (b : Nat) : IT := { x with m := { x.m with st := b } }
abbrev IM.up (I : IM) (j : Nat) (x : IT) : IM := { I with t := I.t.set j x }
theorem up_ts {I : IM} {j : Nat} {x : IT} : (I.up j x).ts = I.ts.set j x.m := by simp [IM.ts, List.map_set]
theorem up_ents {l : List IT} {j : Nat} {x x' : IT} (hx : l[j]? = some x) (hk : x'.m.key = x.m.key) (hi : x'.id = x.id) : ents (l.set j x') = ents l := by
  unfold ents
  rw [List.map_set, hk, hi]
  apply List.ext_getElem?
  intro i
  rw [List.getElem?_set]
  split
  · rename_i e; subst e
    split
    · rw [List.getElem?_map, hx]; rfl
    · rename_i hi; rw [List.getElem?_eq_none (by omega)]
  · rfl
theorem head_turn {I : IM} {j : Nat} {x : IT} {b : Nat} (hx : I.t[j]? = some x) (ha : 1 ≤ x.m.st) (ha4 : x.m.st ≤ 4) (hb : 1 ≤ b) (hb4 : b ≤ 4) :
    (I.head.set (3 + x.m.st) (.int .i64 (manyOf I.ts x.m.st - 1)))[3 + b]? = some (.int .i64 (manyOf I.ts b - (if x.m.st = b then 1 else 0))) ∧
    (I.head.set (3 + x.m.st) (.int .i64 (manyOf I.ts x.m.st - 1))).set (3 + b) (.int .i64 (manyOf I.ts b - (if x.m.st = b then 1 else 0) + 1)) = (I.up j (x.as b)).head := by
  have hm := fun s => manyOf_set (t' := (x.as b).m) (show I.ts[j]? = some x.m by simp [IM.ts, hx]) (by omega) (show b ≠ 0 by omega) s
  unfold IM.head
  rw [up_ts]
  simp only [hm]
  generalize x.m.st = a at *
  generalize I.ts = l at *
  have h1 : a = 1 ∨ a = 2 ∨ a = 3 ∨ a = 4 := by omega
  have h2 : b = 1 ∨ b = 2 ∨ b = 3 ∨ b = 4 := by omega
  rcases h1 with rfl | rfl | rfl | rfl <;> rcases h2 with rfl | rfl | rfl | rfl <;> simp <;> omega
theorem i_turn_ok {I : IM} {j : Nat} {x : IT} {b : Nat} {ρ0 : Store} (O : Own h μ ρ) (R : Pcs ρ0 ρ I.ns I.rs) (hx : I.t[j]? = some x) (ha : 1 ≤ x.m.st) (ha4 : x.m.st ≤ 4) (hb : 1 ≤ b) (hb4 : b ≤ 4) (hl : I.t.length ≤ 1000000)
    (H : ∀ h' ρ', Own h' μ ρ' → Pcs ρ0 ρ' (I.up j (x.as b)).ns (I.up j (x.as b)).rs → Q (.tuple #[]) h') :
    EvQ P f_p_sched_Sched_turn [.pointer (some ⟨I.p, 0, none⟩), .pointer (some ⟨x.id, 0, none⟩), .int .i64 (b : Int)] h Q := by
  obtain ⟨h1, h2⟩ := head_turn hx ha ha4 hb hb4
  have hml := fun s => manyOf_le (l := I.ts) (B := 1000000) (by simpa [IM.ts] using hl) s
  have m1 := hml x.m.st
  have m2 := hml b
  refine turn_raw O R 0 (4 + (j * 2 + 0)) (a := x.m.st) (lm := I.head) (lt := x.cells) rfl (t_rs hx (by omega)) (by omega) rfl (by omega) (by omega) rfl ?_ h1 (by omega) (by omega) (by split <;> omega) (by split <;> omega) fun h' ρ' O' W' => ?_
  · unfold IM.head
    generalize x.m.st = a at *
    have h1 : a = 1 ∨ a = 2 ∨ a = 3 ∨ a = 4 := by omega
    rcases h1 with rfl | rfl | rfl | rfl <;> rfl
  · refine H h' ρ' O' ((W'.names ?_).eq ?_)
    · show I.ns = I.n0 :: I.n1 :: I.n2 :: I.n3 :: (I.t.set j (x.as b)).flatMap IT.ns
      rw [ns_set (x' := x.as b) hx rfl]
    · rw [List.set_cons_zero, t_set (x' := x.as b) hx (by omega) rfl]
      rw [h2]
      show _ = Res.var I.p (I.up j (x.as b)).head :: .map I.mp (keyd (ents (I.t.set j (x.as b)))) :: _
      rw [up_ents (x' := x.as b) hx rfl rfl]
abbrev IM.push (I : IM) (k : Str) (qa : Option Addr) (qc : Nat) : IM := { I with queue := I.queue ++ [k], qa := qa, qc := qc }
theorem i_ready_ok {I : IM} {j : Nat} {x : IT} {k : Str} {ρ0 : Store} (O : Own h μ ρ) (R : Pcs ρ0 ρ I.ns I.rs) (hx : I.t[j]? = some x) (ha : 1 ≤ x.m.st) (ha4 : x.m.st ≤ 4) (hl : I.t.length ≤ 1000000) (hq : I.queue.length ≤ 1000000)
    (H : ∀ h' μ' ρ' qa qc, Own h' μ' ρ' → Pcs ρ0 ρ' ((I.up j (x.as 1)).push k qa qc).ns ((I.up j (x.as 1)).push k qa qc).rs → Q (.tuple #[]) h') :
    EvQ P f_p_sched_Sched_ready [.pointer (some ⟨I.p, 0, none⟩), .string k, .pointer (some ⟨x.id, 0, none⟩)] h Q := by
  refine r_p_sched_Sched_ready ?_
  refine i_turn_ok (b := 1) O R hx ha ha4 (by omega) (by omega) hl fun h1 ρ1 O1 R1 => ?_
  simp only [oB_some, bC_true, bC_false, vInt_int, vBool_bool, vStr_string, vPtr_pointer, vSl_slice, vMap_map, vFun_func, vAgg_agg, vTup_tuple, vIfc_nil, vIfc_iface, lC_cons, lN_nil, aP_some, shO_none, shO_some, Option.isNone_none, Option.isNone_some, Bool.not_true, Bool.not_false]
  refine w_rd O1 R1 0 (j := 2) rfl rfl ?_
  simp only [oB_some, bC_true, bC_false, vInt_int, vBool_bool, vStr_string, vPtr_pointer, vSl_slice, vMap_map, vFun_func, vAgg_agg, vTup_tuple, vIfc_nil, vIfc_iface, lC_cons, lN_nil, aP_some, shO_none, shO_some, Option.isNone_none, Option.isNone_some, Bool.not_true, Bool.not_false]
  obtain ⟨μ2, ρ2, c2, O2, W2, hc2⟩ := w_block O1 R1 (strs [k]) (n := 1) (sz := 1) rfl rfl
  refine w_app (P := P) O2 W2 4 ti_ty_sl_string ti_ty_string (by decide) rfl (by simp) (w_sl O2 W2 0 rfl) rfl rfl (by omega) (by omega) fun qa qc h3 μ3 ρ3 O3 W3 => ?_
  simp only [oB_some, bC_true, bC_false, vInt_int, vBool_bool, vStr_string, vPtr_pointer, vSl_slice, vMap_map, vFun_func, vAgg_agg, vTup_tuple, vIfc_nil, vIfc_iface, lC_cons, lN_nil, aP_some, shO_none, shO_some, Option.isNone_none, Option.isNone_some, Bool.not_true, Bool.not_false]
  refine w_wr O3 W3 1 (j := 2) rfl (by simp [IM.head]) rfl fun h4 ρ4 O4 W4 => ?_
  refine H _ _ _ qa qc O4 ((W4.tail hc2).eq ?_)
  simp [IM.head, IM.ts]
end Go.Proofs.YtgdkekdedgkglaaDoor
end
